/- A part of the proof: PdqStr, SortStrsStr, SortStrings, Same, RefSymbols, GraphEdges, CloneInt, SortSetInt, GraphRead, GraphClosed, GraphSteps, GraphArc, GraphEnd, GraphB, GraphBack, GraphFrom, GraphMore, SpreadAlive, SpreadBeyond, GraphAlive, IndexFuncNat, GraphRun. -/
import Derived.Test.YtjjgodccecehlaaGreatMClose2RelDowns6
import Derived.Test.YtjjgodccecehlaaGreatMClose2RelDowns2
import Derived.Test.YtjjgodccecehlaaGreatMClose2RelDowns3
import Derived.Test.YtjjgodccecehlaaGreatMClose2RelDowns4
import Derived.Test.YtjjgodccecehlaaGreatMClose2RelDowns5
set_option linter.unusedVariables false
set_option linter.unusedSimpArgs false
/- pdqsortOrdered. -/
set_option maxHeartbeats 4000000
set_option maxRecDepth 20000
namespace Go.Proofs.YtjjgodccecehlaaGreat
open Go Go.Proofs Go.Proofs.Sh
theorem pdqStr{g k n cap:Nat}:∀(sz:Nat) {H:AH} {a b:Nat} {l:List ByteArray} {lim:Int},b-a≤sz→A8e H g k n l→Wf H→l.length≤16000000→a≤b→b≤l.length→PreStr a b l→
  Sh.Call Tryz.prog (knows 7) 133 [.slice (some ⟨g,0,some k⟩) l.length cap,.int .i64 (a:Int),.int .i64 (b:Int),.int .i64 lim] H
   (fun r H'=>∃l',Mix a b l l'∧Srt A3b a b l'∧A8e H' g k n l'∧Chg (fun y=>y=g) H H'):=by
 intro sz
 induction sz using Nat.strongRecOn with
 | _ sz ih=>
 intro H a b l lim hsz hv hw hl hab hb hpre;refine A3a rfl Tryz.func133 rfl (Nat.le_of_ble_eq_true rfl) ?_;have hres:Tryz.f133.results.toList=[]:=rfl;have hTO:=strTO;simp only[↓Sh.dn,sx]
 refine A5b (fun m F H' => ∃ (a' b' : Nat) (l1 : List ByteArray) (lm : Int) (x8 x9 : Bool), m = b' - a' ∧ a ≤ a' ∧ a' ≤ b' ∧ b' ≤ b ∧ Mix a b l l1 ∧ P3 A3b a a' b' b l1 ∧ PreStr a' b' l1 ∧ A8e H' g k n l1 ∧ Chg (fun y => y = g) H H' ∧
     F.get 0 = some (.slice (some ⟨g, 0, some k⟩) l.length cap) ∧ F.get 1 = some (.int .i64 (a' : Int)) ∧ F.get 2 = some (.int .i64 (b' : Int)) ∧ F.get 3 = some (.int .i64 lm) ∧ F.get 8 = some (.bool x8) ∧ F.get 9 = some (.bool x9)) (m := b-a)
   ⟨a, b, l, lim, true, true, rfl, Nat.le_refl _, hab, Nat.le_refl _, .refl l, fun p q x y h1 h2 h3 h4 => absurd ⟨h1, h3⟩ h4, hpre, hv, Chg.refl hw, by simp only[sx, reduceCtorEq], by simp only[sx, Nat.reduceEqDiff], by simp only[sx, Nat.reduceEqDiff], by simp only[sx, Nat.reduceEqDiff], by simp only[sx, Nat.reduceEqDiff], by simp only[sx]⟩ ?_
 rintro m F H' ⟨a',b',l1,lm,x8,x9,rfl,ha',hab',hb',hm,h3,hpr,hv1,hc1,f0,f1,f2,f3,f8,f9⟩ kk;have hlen:=hm.length;have hvl:l1.length=l.length:=hlen;have wba:IntKind.wrap .i64 ((b':Int)-(a':Int))=((b'-a':Nat):Int):=by rw[wrap64 (by omega) (by omega)];omega
 have fin:∀{H2:AH} {l2:List ByteArray},Mix a' b' l1 l2→Srt A3b a' b' l2→Mix a b l l2∧Srt A3b a b l2:=fun{H2 l2} h1 h2=>⟨hm.trans (h1.wide ha' hb'),(h3.mix ha' hb' h1 (by omega)).srt hTO h2⟩
 simp only[↓Sh.dn,sx,Nat.reduceEqDiff,f1,f2,wba];by_cases h12:b'-a'≤12
 ·have d:decide (((b'-a':Nat):Int)≤12)=true:=by simp;omega
  obtain⟨r,H2,hd,l2,q1,q2,q3,q4⟩:=B0c (cap:=cap) hv1 hc1.wf (by omega) hab' (by omega);rw[hvl]at hd;simp only[↓Sh.dn,sx,reduceCtorEq,Nat.reduceEqDiff,d,f0,f1,f2];refine⟨_,_,hd,?_⟩;simp only[sx,hres];exact⟨l2,(fin (H2:=H2) q1 q2).1,(fin (H2:=H2) q1 q2).2,q3,hc1.trans q4⟩
 have d:decide (((b'-a':Nat):Int)≤12)=false:=by simp;omega
 simp only[↓Sh.dn,sx,Nat.reduceEqDiff,d,f3];by_cases hlm:lm=0
 ·obtain⟨r,H2,hd,l2,q1,q2,q3,q4⟩:=C7d (cap:=cap) hv1 hc1.wf (by omega) (by omega:a'<b') (by omega)
  rw[hvl]at hd;simp only[↓Sh.dn,sx,reduceCtorEq,Nat.reduceEqDiff,hlm,decide_true,f0,f1,f2];refine⟨_,_,hd,?_⟩;simp only[sx,hres];exact⟨l2,(fin (H2:=H2) q1 q2).1,(fin (H2:=H2) q1 q2).2,q3,hc1.trans q4⟩
 simp only[↓Sh.dn,sx,Nat.reduceEqDiff,hlm,decide_false,f8];obtain⟨M1,hM1⟩:∃M:Fr→AH→Prop,M=fun F' H9=>∃l2:List ByteArray,Mix a' b' l1 l2∧A8e H9 g k n l2∧Chg (fun y=>y=g) H H9∧F'.get 0=some (.slice (some ⟨g,0,some k⟩) l.length cap)∧F'.get 1=some (.int .i64 (a':Int))∧F'.get 2=some (.int .i64 (b':Int))∧F'.get 8=some (.bool x8)∧F'.get 9=some (.bool x9)∧F'.get 10=some (.int .i64 ((b'-a':Nat):Int))∧∃lm,F'.get 3=some (.int .i64 lm):=⟨_,rfl⟩
 refine B1o M1 (by rfl) ?_ ?_
 ·cases x8 with
  | true=>
   simp only[↓Sh.dn,sx,reduceCtorEq,Nat.reduceEqDiff,hM1,f0,f1,f2,f3,f8,f9];exact⟨l1,.refl l1,hv1,hc1,lm,rfl⟩
  | false=>
   obtain⟨r,H2,hd,l2,q1,q3,q4⟩:=B7b (cap:=cap) hv1 hc1.wf (by omega) (by omega:a'+12<b') (by omega);rw[hvl]at hd;simp only[↓Sh.dn,sx,reduceCtorEq,Nat.reduceEqDiff,f0,f1,f2];refine⟨_,_,hd,?_⟩;simp only[sx,reduceCtorEq,Nat.reduceEqDiff,hM1,f0,f1,f2,f3,f8,f9];exact⟨l2,q1,q3,hc1.trans q4,_,rfl⟩
 intro F1 H1 h9;rw[hM1]at h9;obtain⟨l2,hm2,hv2,hc2,f0,f1,f2,f8,f9,f10,lm2,f3⟩:=h9;have hlen2:l2.length=l.length:=by rw[hm2.length];exact hlen
 obtain⟨r,H2,hd,q,hint,rfl,hq1,hq2,hv2',hk2⟩:=B9n (cap:=cap) hv2 hc2.wf (by omega) (by omega:a'+12<b') (by omega);have hc2':Chg (fun y=>y=g) H H2:=hc2.trans hk2.chg;rw[hlen2]at hd;simp only[↓Sh.dn,sx,Nat.reduceEqDiff,f0,f1,f2];refine⟨_,_,hd,?_⟩;simp only[sx];obtain⟨M2,hM2⟩:∃M:Fr→AH→Prop,M=fun F' H9=>∃l2:List ByteArray,Mix a' b' l1 l2∧A8e H9 g k n l2∧Chg (fun y=>y=g) H H9∧F'.get 0=some (.slice (some ⟨g,0,some k⟩) l.length cap)∧F'.get 1=some (.int .i64 (a':Int))∧F'.get 2=some (.int .i64 (b':Int))∧F'.get 3=some (.int .i64 lm2)∧F'.get 8=some (.bool x8)∧F'.get 9=some (.bool x9)∧F'.get 10=some (.int .i64 ((b'-a':Nat):Int))∧∃q:Nat,a'≤q∧q<b'∧F'.get 11=some (.int .i64 (q:Int))∧∃hint,F'.get 12=some (.int .i64 hint):=⟨_,rfl⟩
 refine B1o M2 (by rfl) ?_ ?_
 ·by_cases hh:hint=2
  ·have e1:IntKind.wrap .i64 ((b':Int)-1)=((b'-1:Nat):Int):=by rw[wrap64 (by omega) (by omega)];omega
   have e2:IntKind.wrap .i64 ((q:Int)-(a':Int))=((q-a':Nat):Int):=by rw[wrap64 (by omega) (by omega)];omega
   have e3:IntKind.wrap .i64 (((b'-1:Nat):Int)-((q-a':Nat):Int))=((b'-1-(q-a'):Nat):Int):=by rw[wrap64 (by omega) (by omega)];omega
   obtain⟨r,H3,hd3,l3,p1,p2,p3⟩:=B4e (cap:=cap) hv2' hk2.wf (by omega) (by omega:a'<b') (by omega);rw[hlen2]at hd3;simp only[↓Sh.dn,sx,reduceCtorEq,Nat.reduceEqDiff,hh,decide_true,f0,f1,f2];refine⟨_,_,hd3,?_⟩;simp only[sx,reduceCtorEq,Nat.reduceEqDiff,hM2,f0,f1,f2,f3,f8,f9,f10,e1,e2,e3];exact⟨l3,hm2.trans p1,p2,hc2'.trans p3,b'-1-(q-a'),by omega,by omega,rfl,1,rfl⟩
  ·simp only[↓Sh.dn,sx,reduceCtorEq,Nat.reduceEqDiff,hh,decide_false,hM2,f0,f1,f2,f3,f8,f9,f10]
   exact⟨l2,hm2,hv2',hc2',q,hq1,hq2,rfl,hint,rfl⟩
 intro F2 H3 h9;rw[hM2]at h9;obtain⟨l3,hm3,hv3,hc3,f0,f1,f2,f3,f8,f9,f10,q,hq1,hq2,f11,hint,f12⟩:=h9;have hlen3:l3.length=l.length:=by rw[hm3.length];exact hlen
 obtain⟨M3,hM3⟩:∃M:Fr→AH→Prop,M=fun F' H9=>H3=H9∧F'.get 0=some (.slice (some ⟨g,0,some k⟩) l.length cap)∧F'.get 1=some (.int .i64 (a':Int))∧F'.get 2=some (.int .i64 (b':Int))∧F'.get 3=some (.int .i64 lm2)∧F'.get 8=some (.bool x8)∧F'.get 9=some (.bool x9)∧F'.get 10=some (.int .i64 ((b'-a':Nat):Int))∧F'.get 11=some (.int .i64 (q:Int))∧∃bb,F'.get 68=some (.bool bb):=⟨_,rfl⟩
 simp only[↓Sh.wp_seq];refine B7e M3 (by rfl) ?_ ?_
 ·cases x8 with
  | false=>
   simp only[↓Sh.dn,sx,reduceCtorEq,Nat.reduceEqDiff,hM3,f0,f1,f2,f3,f8,f9,f10,f11]
  | true=>
   cases x9 with
   | false=>
    simp only[↓Sh.dn,sx,reduceCtorEq,Nat.reduceEqDiff,hM3,f0,f1,f2,f3,f8,f9,f10,f11]
   | true=>
    simp only[↓Sh.dn,sx,reduceCtorEq,Nat.reduceEqDiff,hM3,f0,f1,f2,f3,f8,f9,f10,f11,f12]
 intro F3 H4 h9;rw[hM3]at h9;obtain⟨rfl,f0,f1,f2,f3,f8,f9,f10,f11,bb,f68⟩:=h9;obtain⟨N,hN⟩:∃N:Fr→AH→Prop,N=fun F' H9=>∃l4:List ByteArray,Mix a' b' l1 l4∧A8e H9 g k n l4∧Chg (fun y=>y=g) H H9∧F'.get 0=some (.slice (some ⟨g,0,some k⟩) l.length cap)∧F'.get 1=some (.int .i64 (a':Int))∧F'.get 2=some (.int .i64 (b':Int))∧F'.get 3=some (.int .i64 lm2)∧F'.get 8=some (.bool x8)∧F'.get 9=some (.bool x9)∧F'.get 10=some (.int .i64 ((b'-a':Nat):Int))∧F'.get 11=some (.int .i64 (q:Int)):=⟨_,rfl⟩
 refine wp_cut N (fun F4 H5 h9=>?_) (fun kont=>?_)
 case refine_2=>
  cases bb with
  | false=>
   refine(A8w (by rw[C4n,f68])).2 (Sh.wp_skip.2 (kont _ _ ?_));rw[hN];exact⟨l3,hm3,hv3,hc3,f0,f1,f2,f3,f8,f9,f10,f11⟩
  | true=>
   obtain⟨r,H5,hd5,b5,rfl,l4,p1,p2,p3,p4⟩:=A44 (cap:=cap) hv3 hc3.wf (by omega) (by omega:a'<b') (by omega) (hpr.mix hm3 (by omega));rw[hlen3]at hd5;simp only[↓Sh.dn,sx,Nat.reduceEqDiff,f68,f0,f1,f2];refine⟨_,_,hd5,?_⟩;cases b5 with
   | true=>
    simp only[↓Sh.dn,sx,hres];exact⟨l4,(fin (H2:=H5) (hm3.trans p1) (p2 rfl)).1,(fin (H2:=H5) (hm3.trans p1) (p2 rfl)).2,p3,hc3.trans p4⟩
   | false=>
    refine(A8w ?_).2 (Sh.wp_skip.2 (kont _ _ ?_))
    ·simp only[sx]
    rw[hN];exact⟨l4,hm3.trans p1,p3,hc3.trans p4,by simp only[sx,reduceCtorEq,f0],by simp only[sx,Nat.reduceEqDiff,f1],by simp only[sx,Nat.reduceEqDiff,f2],by simp only[sx,Nat.reduceEqDiff,f3],by simp only[sx,Nat.reduceEqDiff,f8],by simp only[sx,Nat.reduceEqDiff,f9],by simp only[sx,Nat.reduceEqDiff,f10],by simp only[sx,Nat.reduceEqDiff,f11]⟩
 rw[hN]at h9;clear hN;obtain⟨l4,hm4,hv4,hc4,f0,f1,f2,f3,f8,f9,f10,f11⟩:=h9;have hlen4:l4.length=l.length:=by rw[hm4.length];exact hlen
 have jq:q<l4.length:=by omega
 have iq:=A0d (g:=g) (k:=k) (cap:=cap) (m:=l.length) (i:=q) (j:=.i64) (by omega);have xq:=A7c hv4 jq;have eq4:l4[q]?=some l4[q]:=List.getElem?_eq_getElem jq;have hpr4:PreStr a' b' l4:=hpr.mix hm4 (by omega);have h34:P3 A3b a a' b' b l4:=h3.mix ha' hb' hm4 (by omega);have hm04:Mix a b l l4:=hm.trans (hm4.wide ha' hb');obtain⟨M4,hM4⟩:∃M:Fr→AH→Prop,M=fun F' H9=>H5=H9∧F'.get 0=some (.slice (some ⟨g,0,some k⟩) l.length cap)∧F'.get 1=some (.int .i64 (a':Int))∧F'.get 2=some (.int .i64 (b':Int))∧F'.get 3=some (.int .i64 lm2)∧F'.get 8=some (.bool x8)∧F'.get 9=some (.bool x9)∧F'.get 10=some (.int .i64 ((b'-a':Nat):Int))∧F'.get 11=some (.int .i64 (q:Int))∧∃bb,F'.get 87=some (.bool bb)∧(bb=true→0<a'∧∀y,l4[a'-1]?=some y→A3b y l4[q]=false):=⟨_,rfl⟩
 simp only[↓Sh.wp_seq];refine B7e M4 (by rfl) ?_ ?_
 ·refine(A9a (by kernel_rfl)).2 ?_
  by_cases h0:0<a'
  ·have d:decide ((0:Int)<(a':Int))=true:=by simp;omega
   have wa1:IntKind.wrap .i64 ((a':Int)-1)=((a'-1:Nat):Int):=by rw[wrap64 (by omega) (by omega)];omega
   have ja:a'-1<l4.length:=by omega
   have ia:=A0d (g:=g) (k:=k) (cap:=cap) (m:=l.length) (i:=a'-1) (j:=.i64) (by omega);have xa:=A7c hv4 ja;have ea:l4[a'-1]?=some l4[a'-1]:=List.getElem?_eq_getElem ja;simp only[↓Sh.dn,sx,reduceCtorEq,Nat.reduceEqDiff,f0,f1,f11,d,wa1,ia,iq,xa,xq];refine⟨_,_,A7d,?_⟩;cases hq:A3b l4[a'-1] l4[q] with
   | true=>
    simp only[sx,reduceCtorEq,Nat.reduceEqDiff,hM4,f0,f1,f2,f3,f8,f9,f10,f11]
   | false=>
    simp only[sx,reduceCtorEq,Nat.reduceEqDiff,hM4,f0,f1,f2,f3,f8,f9,f10,f11];refine⟨h0,fun y hy=>?_⟩;rw[ea]at hy;rw[←Option.some.inj hy];exact hq
  ·have d:decide ((0:Int)<(a':Int))=false:=by simp;omega
   simp only[↓Sh.dn,sx,reduceCtorEq,Nat.reduceEqDiff,hM4,f0,f1,f2,f3,f8,f9,f10,f11,d]
 intro F5 H6 h9;rw[hM4]at h9;obtain⟨rfl,f0,f1,f2,f3,f8,f9,f10,f11,bb,f87,hbb⟩:=h9;cases bb with
 | true=>
  obtain⟨hpos,hy⟩:=hbb rfl;obtain⟨r,H7,hd7,m,rfl,hm1,hm2',l5,p1,p2,p3,p4,p5⟩:=A69 (cap:=cap) (p:=q) hv4 hc4.wf (by omega) hq1 hq2 (by omega);rw[hlen4]at hd7;simp only[↓Sh.dn,sx,Nat.reduceBEq,Nat.reduceEqDiff,f87,f0,f1,f2,f11];refine⟨_,_,hd7,?_⟩
  try simp only[↓Sh.dn,sx,Nat.reduceBEq,reduceCtorEq,Nat.reduceEqDiff]
  have hge4:∀(i:Nat) x,a'≤i→i<b'→l4[i]?=some x→A3b x l4[q]=false:=by
   intro i x h1 h2 hx;have ja:a'-1<l4.length:=by omega
   have ea:l4[a'-1]?=some l4[a'-1]:=List.getElem?_eq_getElem ja;exact hTO.le_trans (hy _ ea) (hpr4 i x _ hpos ea h1 h2 hx)
  have hge:∀(i:Nat) x,a'≤i→i<b'→l5[i]?=some x→A3b x l4[q]=false:=p1.all (p:=fun x=>A3b x l4[q]=false) (by omega) hge4;have heq:∀(i:Nat) x,a'≤i→i<m→l5[i]?=some x→x=l4[q]:=by
   intro i x h1 h2 hx;rcases hTO.tri x l4[q] with h|h|h
   ·rw[hge i x h1 (by omega) hx]at h;cases h
   ·exact h
   ·rw[p2 i x h1 h2 hx]at h;cases h
  have h35:=h34.mix ha' hb' p1 (by omega);refine kk (b'-m) _ _ (by omega) ⟨m,b',l5,lm2,x8,x9,rfl,by omega,by omega,hb',hm04.trans (p1.wide ha' hb'),fun i j x z h1 h2 h3' h4 hx hz=>?_,fun i x y h0 hy' h1 h2 hx=>?_,p4,hc4.trans p5,by simp only[sx,reduceCtorEq,f0],by simp only[sx],by simp only[sx,Nat.reduceEqDiff,f2],by simp only[sx,Nat.reduceEqDiff,f3],by simp only[sx,Nat.reduceEqDiff,f8],by simp only[sx,Nat.reduceEqDiff,f9]⟩
  ·by_cases hin:a'≤i∧j<b'
   ·have hx':=heq i x hin.1 (by omega) hx
    by_cases hj:j<m
    ·have hz':=heq j z (by omega) hj hz
     rw[hx',hz'];exact hTO.irrefl _
    ·rw[hx'];exact hTO.asymm (p3 j z (by omega) hin.2 hz)
   ·exact h35 i j x z h1 h2 h3' hin hx hz
  ·have hy2:=heq (m-1) y (by omega) (by omega) hy'
   rw[hy2];exact hTO.asymm (p3 i x h1 h2 hx)
 | false=>
  obtain⟨r,H7,hd7,m,al,rfl,hm1,hm2',l5,p1,y,py,p2,p3,p4,p5⟩:=B29 (cap:=cap) (p:=q) hv4 hc4.wf (by omega) hq1 hq2 (by omega);rw[hlen4]at hd7;have hlen5:l5.length=l.length:=by rw[p1.length];exact hlen4
  have s1:IntKind.wrap .i64 ((m:Int)-(a':Int))=((m-a':Nat):Int):=by rw[wrap64 (by omega) (by omega)];omega
  have s2:IntKind.wrap .i64 ((b':Int)-(m:Int))=((b'-m:Nat):Int):=by rw[wrap64 (by omega) (by omega)];omega
  have s3:Int.tdiv ((b'-a':Nat):Int) 8=(((b'-a')/8:Nat):Int):=by rw[Int.tdiv_eq_ediv_of_nonneg (by omega)];rfl
  have s4:IntKind.wrap .i64 (((b'-a')/8:Nat):Int)=(((b'-a')/8:Nat):Int):=wrap64 (by omega) (by omega);have s5:IntKind.wrap .i64 ((m:Int)+1)=((m+1:Nat):Int):=by rw[wrap64 (by omega) (by omega)];rfl
  simp only[↓Sh.dn,sx,Nat.reduceEqDiff,f87,f0,f1,f2,f11];refine⟨_,_,hd7,?_⟩;simp only[sx,f10,s1,s2,A27 (show (8:Int)≠0 by decide),s3,s4,A1a];have hpr5:PreStr a' b' l5:=hpr4.mix p1 (by omega);have h35:=h34.mix ha' hb' p1 (by omega);have hm05:=hm04.trans (p1.wide ha' hb');have hc5:=hc4.trans p5;by_cases hlr:m-a'<b'-m
  ·obtain⟨r,H8,hd8,l6,u1,u2,u3,u4⟩:=ih (m-a') (by omega) (lim:=lm2) (a:=a') (b:=m) (Nat.le_refl _) p4 p5.wf (by omega) hm1 (by omega) (fun i x z h0 hz h1 h2 hx=>hpr5 i x z h0 hz h1 (by omega) hx)
   rw[hlen5]at hd8;have py6:l6[m]?=some y:=by rw[u1.out (.inr (Nat.le_refl _))];exact py
   have hpart:=P3.part hTO (h35.mix ha' hb' (u1.wide (Nat.le_refl _) (by omega)) (by omega)) hm1 hm2' py6 (u1.all (p:=fun x=>A3b x y=true) (by omega) (fun i x h1 h2 hx=>p2 i x h1 h2 hx)) (fun i x h1 h2 hx=>p3 i x h1 h2 (by rw[←u1.out (.inr (by omega))];exact hx));simp only[↓Sh.dn,sx,reduceCtorEq,Nat.reduceEqDiff,hlr,decide_true,f0,f1,f3];refine⟨_,_,hd8,?_⟩
   try simp only[s5]
   exact kk (b' - (m + 1)) _ _ (by omega) ⟨m + 1, b', l6, lm2, _, al, rfl, by omega, by omega, hb', hm05.trans (u1.wide ha' (by omega)), hpart.1 u2, fun i x z h0 hz h1 h2 hx => by
       rw[show m + 1-1 = m by omega, py6]at hz;rw[←Option.some.inj hz];exact p3 i x (by omega) h2 (by rw[←u1.out (.inr (by omega))];exact hx), u3, hc5.trans u4, by simp only[sx, reduceCtorEq, f0], by simp only[sx], by simp only[sx, Nat.reduceEqDiff, f2], by simp only[sx, Nat.reduceEqDiff, f3], by simp only[sx, Nat.reduceEqDiff];rfl, by simp only[sx, Nat.reduceEqDiff]⟩
  ·obtain ⟨r, H8, hd8, l6, u1, u2, u3, u4⟩ := ih (b' - (m + 1)) (by omega) (lim := lm2) (a := m + 1) (b := b') (Nat.le_refl _) p4 p5.wf (by omega) (by omega) (by omega) (fun i x z h0 hz h1 h2 hx => by
     rw[show m + 1-1 = m by omega, py]at hz;rw[←Option.some.inj hz];exact p3 i x (by omega) h2 hx)
   rw[hlen5]at hd8;have py6 : l6[m]? = some y := by rw[u1.out (.inl (by omega))];exact py
   have hpart := P3.part hTO (h35.mix ha' hb' (u1.wide (by omega) (Nat.le_refl _)) (by omega)) hm1 hm2' py6 (fun i x h1 h2 hx => p2 i x h1 h2 (by rw[←u1.out (.inl (by omega))];exact hx)) (fun i x h1 h2 hx => u1.all (p := fun x => A3b x y = false) (by omega) (fun i x h1 h2 hx => p3 i x (by omega) h2 hx) i x (by omega) h2 hx);simp only[↓Sh.dn, sx, reduceCtorEq, Nat.reduceEqDiff, hlr, decide_false, f0, f2, f3, s5];refine⟨_, _, hd8, ?_⟩
   try simp only[↓Sh.dn, sx, Nat.reduceBEq, reduceCtorEq, Nat.reduceEqDiff]
   exact kk (m - a') _ _ (by omega) ⟨a', m, l6, lm2, _, al, rfl, ha', hm1, by omega, hm05.trans (u1.wide (by omega) hb'), hpart.2 u2, fun i x z h0 hz h1 h2 hx => by
       rw[u1.out (.inl (by omega))]at hz;rw[u1.out (.inl (by omega))]at hx;exact hpr5 i x z h0 hz h1 (by omega) hx, u3, hc5.trans u4, by simp only[sx, reduceCtorEq, f0], by simp only[sx, Nat.reduceEqDiff, f1], by simp only[sx], by simp only[sx, Nat.reduceEqDiff, f3], by simp only[sx, Nat.reduceEqDiff];rfl, by simp only[sx, Nat.reduceEqDiff]⟩
theorem B3n{H:AH}{v:Value}:Sh.Call Tryz.prog (knows 7) 145 [v,.int .i64 0,.int .i64 0] H (fun r H'=>H'=H):=by
 refine A3a rfl Tryz.func145 rfl (Nat.le_of_ble_eq_true rfl) ?_;have hres:Tryz.f145.results.toList=[]:=rfl;have w1:IntKind.wrap .i64 ((0:Int)+1)=1:=rfl;simp only[↓Sh.dn,sx,w1];refine A5b (fun m F H'=>H'=H∧F.get 2=some (.int .i64 0)∧F.get 6=some (.int .i64 1)) (m:=0) ⟨rfl,by simp only[sx,Nat.reduceEqDiff],by simp only[sx]⟩ ?_;rintro m F H' ⟨rfl,f2,f6⟩ kk;have d:decide ((1:Int)<0)=false:=rfl;simp only[↓Sh.dn,sx,Nat.reduceEqDiff,f2,f6,d,hres]
theorem B1n{H:AH}{v:Value}{lim:Int}:Sh.Call Tryz.prog (knows 7) 133 [v,.int .i64 0,.int .i64 0,.int .i64 lim] H (fun r H'=>H'=H):=by
 refine A3a rfl Tryz.func133 rfl (Nat.le_of_ble_eq_true rfl) ?_;have hres:Tryz.f133.results.toList=[]:=rfl;obtain⟨r,H1,hd,rfl⟩:=B3n (H:=H) (v:=v);have w1:IntKind.wrap .i64 ((0:Int)-0)=0:=rfl;have d:decide ((0:Int)≤12)=true:=rfl;simp only[↓Sh.dn,sx];refine A5b (fun m F H'=>H'=H1∧F.get 0=some v∧F.get 1=some (.int .i64 0)∧F.get 2=some (.int .i64 0)) (m:=0) ⟨rfl,by simp only[sx,reduceCtorEq],by simp only[sx,Nat.reduceEqDiff],by simp only[sx,Nat.reduceEqDiff]⟩ ?_;rintro m F H' ⟨rfl,f0,f1,f2⟩ kk;simp only[↓Sh.dn,sx,reduceCtorEq,Nat.reduceEqDiff,f0,f1,f2,w1,d];refine⟨_,_,hd,?_⟩;simp only[sx,hres]
theorem C6d{H:AH}{v:Value}{l:List ByteArray}{ob:Option Nat}(hb:Buf H 1 v (l.map fun x=>[Value.string x]) ob)(hl:l.length≤16000000)(hw:Wf H):
  Sh.Call Tryz.prog (knows 7) 128 [v] H (fun r H'=>∃l':List ByteArray,l'.Perm l∧Srt A3b 0 l'.length l'∧Buf H' 1 v (l'.map fun x=>[Value.string x]) ob∧Chg (fun y=>ob=some y) H H'):=by
 refine A3a rfl Tryz.func128 rfl (Nat.le_of_ble_eq_true rfl) ?_;have hres:Tryz.f128.results.toList=[]:=rfl;have hlen:=hb.toSl.len Tryz.underlying22 H;rw[List.length_map]at hlen;have wu:IntKind.wrap .u64 (l.length:Int)=(l.length:Int):=A1w (by omega) (by omega);obtain⟨r,H1,hd,rfl,c,rfl,_⟩:=bitsLen (H:=H) (x:=l.length) (by omega);simp only[↓Sh.dn,sx,reduceCtorEq,Nat.reduceEqDiff,hlen,wu];refine⟨_,_,hd,?_⟩;cases ob with
 | none=>
  have hl0:l=[]:=by
   generalize hL:(l.map fun x=>[Value.string x])=L at hb;cases hb
   simpa using hL
  subst hl0;obtain⟨r,H2,hd2,rfl⟩:=B1n (H:=H1) (v:=v) (lim:=(c:Int));simp only[reduceCtorEq,List.length_nil,Int.ofNat_zero];refine⟨_,_,hd2,?_⟩;simp only[sx,hres];exact⟨[],List.Perm.refl _,fun i j x y h1 h2 h3=>by simp at h3,hb,Chg.refl hw⟩
 | some g=>
  obtain⟨k,cap,n,rfl,hc,hback⟩:=hb.cells;obtain⟨r,H2,hd2,l',q1,q2,q3,q4⟩:=pdqStr (cap:=cap) l.length (a:=0) (b:=l.length) (lim:=(c:Int)) (by omega) hc hw hl (Nat.zero_le _) (Nat.le_refl _) (fun q x y h=>absurd h (Nat.lt_irrefl 0));simp only[sx];refine⟨_,_,hd2,?_⟩;simp only[sx,hres];exact⟨l',q1.perm,by rw[q1.length];exact q2,hback H2 l' q1.length q3,q4.weak fun x hx=>by rw[hx]⟩
theorem C5a{H:AH}{v:Value}{l:List ByteArray}{ob:Option Nat}(hb:Buf H 1 v (l.map fun x=>[.string x]) ob)(hl:l.length≤16000000)(hw:Wf H):
  Sh.Call Tryz.prog (knows 7) 116 [v] H (fun r H'=>∃l':List ByteArray,l'.Perm l∧Srt A3b 0 l'.length l'∧Buf H' 1 v (l'.map fun x=>[.string x]) ob∧Chg (fun y=>ob=some y) H H'):=by
 refine A3a rfl Tryz.func116 rfl (Nat.le_of_ble_eq_true rfl) ?_;have hres:Tryz.f116.results.toList=[]:=rfl;obtain⟨r,H1,hd,hq⟩:=C6d hb hl hw;simp only[↓Sh.dn,sx];refine⟨_,_,hd,?_⟩;simp only[sx,hres];exact hq
def ordW:List ByteArray→List ByteArray→Int
 | [],[]=>0
 | [],_ :: _=>-1
 | _ :: _,[]=>1
 | a :: x,b :: y=>if A3b a b=true then -1 else if a=b then ordW x y else 1
theorem B71:∀l,ordW l l=0
 | []=>rfl
 | a :: x=>by simp[ordW,A4k,B71 x]
theorem C32:∀{l m:List ByteArray},ordW l m=0↔l=m
 | [],[]=>by simp[ordW]
 | [],_ :: _=>by simp[ordW]
 | _ :: _,[]=>by simp[ordW]
 | a :: x,b :: y=>by
  unfold ordW;by_cases h:A3b a b=true
  ·rw[if_pos h]
   constructor
   ·intro h1;cases h1
   ·intro h1;injection h1 with h1 _;rw[h1,A4k]at h;cases h
  ·rw[if_neg h]
   by_cases h2:a=b
   ·rw[if_pos h2,C32,h2];simp
   ·rw[if_neg h2];simp[h2]
theorem A06:∀{i:Nat} {l m:List ByteArray},l.take i=m.take i→ordW l m=ordW (l.drop i) (m.drop i)
 | 0,l,m,_=>rfl
 | i+1,[],[],_=>rfl
 | i+1,[],_ :: _,h=>by simp at h
 | i+1,_ :: _,[],h=>by simp at h
 | i+1,a :: x,b :: y,h=>by
  simp only[List.take_succ_cons,List.cons.injEq]at h;obtain⟨h1,h2⟩:=h;subst h1;simp only[List.drop_succ_cons];rw[←A06 h2];unfold ordW;rw[A4k];cases x<;>cases y<;>simp[ordW]
theorem refOrdW{H:AH}{v u:Value}{l m:List ByteArray}(hl:Sl H v 1 (l.map A7a))(hm:Sl H u 1 (m.map A7a))(hll:l.length≤1048576)(hml:m.length≤1048576)(hw:Wf H):
  Sh.Call Tryz.prog (knows 7) 93 [v,u] H (fun r H'=>H'=H∧r=.int .i64 (ordW l m)):=by
 refine A3a rfl Tryz.func93 rfl (Nat.le_of_ble_eq_true rfl) ?_;have hres:Tryz.f93.results.toList=[.tmp 4]:=rfl;have hlen:=fun H'=>hl.len Tryz.underlying22 H';have mlen:=fun H'=>hm.len Tryz.underlying22 H';simp only[List.length_map]at hlen mlen;simp only[↓Sh.dn,sx];have hmin:min l.length m.length≤1048576:=by omega
 refine A5c (min l.length m.length) 5 (List.range' 5 31) (fun i F H'=>H'=H∧l.take i=m.take i) (by simp only[sx]) ⟨rfl,rfl⟩ ?_ ?_
 ·rintro i F H' hi hF f5 ⟨rfl,htk⟩ k
  have f0:=hF 0 rfl;have f1:=hF 1 rfl;simp only[sx,reduceCtorEq,Nat.reduceEqDiff]at f0 f1;have hi1:i<l.length:=by omega
  have hi2:i<m.length:=by omega
  obtain⟨p1,hia1,hc1⟩:=Sl.elem (s:=1) Tryz.underlying22 A4i hl (i:=i) (u:=.string l[i]) (by rw[List.getElem?_map,List.getElem?_eq_getElem hi1];rfl);obtain⟨p2,hia2,hc2⟩:=Sl.elem (s:=1) Tryz.underlying22 A4i hm (i:=i) (u:=.string m[i]) (by rw[List.getElem?_map,List.getElem?_eq_getElem hi2];rfl);have ho:∀k:Int,ordW (l[i] :: l.drop (i+1)) (m[i] :: m.drop (i+1))=k→ordW l m=k:=fun k hk=>by
   rw[A06 htk,List.drop_eq_getElem_cons hi1,List.drop_eq_getElem_cons hi2];exact hk
  have ht1:l.take (i+1)=l.take i++[l[i]]:=by rw[List.take_add_one,List.getElem?_eq_getElem hi1];rfl
  have ht2:m.take (i+1)=m.take i++[m[i]]:=by rw[List.take_add_one,List.getElem?_eq_getElem hi2];rfl
  generalize l[i]=x at hc1 ho ht1;generalize m[i]=y at hc2 ho ht2;simp only[↓Sh.dn,sx,reduceCtorEq,Nat.reduceEqDiff,f0,f1,f5,hlen,mlen,A1a,hi1,hi2,decide_true,hia1,hc1,hia2,hc2];cases hlt:A3b x y with
  | true=>
   have:=ho (-1) (by simp[ordW,hlt]);simp only[↓Sh.dn,sx,hres,this]
  | false=>
   by_cases hxy:x=y
   ·simp only[↓Sh.dn,sx,reduceCtorEq,Nat.reduceEqDiff,f0,f1,f5,hia1,hc1,hia2,hc2,hxy,decide_true,A4k,wrap_succ hi hmin]
    exact k _ _ (by repeat (first|refine Same.put ?_ rfl|exact Same.rfl' _)) (by simp only[sx]) ⟨rfl,by rw[ht1,ht2,htk,hxy]⟩
   ·have:=ho 1 (by simp[ordW,hlt,hxy])
    simp only[↓Sh.dn,sx,reduceCtorEq,Nat.reduceEqDiff,f0,f1,f5,hia1,hc1,hia2,hc2,hlt,hxy,decide_false,hres,this]
 ·rintro F H' hF f5 ⟨rfl,htk⟩
  have f0:=hF 0 rfl;have f1:=hF 1 rfl;simp only[sx,reduceCtorEq,Nat.reduceEqDiff]at f0 f1;by_cases h1:l.length<m.length
  ·have e:min l.length m.length=l.length:=by omega
   rw[e]at f5 htk;have:ordW l m=-1:=by
    rw[A06 htk,List.drop_length,List.drop_eq_getElem_cons h1];rfl
   simp only[↓Sh.dn,sx,reduceCtorEq,Nat.reduceEqDiff,f0,f1,f5,hlen,mlen,A1a,Nat.lt_irrefl,h1,decide_true,decide_false,hres,this]
  ·have e:min l.length m.length=m.length:=by omega
   rw[e]at f5 htk;by_cases h2:m.length<l.length
   ·have : ordW l m = 1 := by
      rw[A06 htk, List.drop_length, List.drop_eq_getElem_cons h2];rfl
    simp only[↓Sh.dn, sx, reduceCtorEq, Nat.reduceEqDiff, f0, f1, f5, hlen, mlen, A1a, Nat.lt_irrefl, h1, h2, decide_true, decide_false, hres, this]
   ·have heq : l = m := by
      rw[List.take_length, List.take_of_length_le (by omega)]at htk;exact htk
    have : ordW l m = 0 := by rw[heq, B71]
    simp only[↓Sh.dn, sx, reduceCtorEq, Nat.reduceEqDiff, f0, f1, f5, hlen, mlen, A1a, h1, h2, decide_false, hres, this]
theorem refOrder{H:AH}{v u:Value}{l m:List ByteArray}(hl:Sl H v 1 (l.map A7a))(hm:Sl H u 1 (m.map A7a))(hll:l.length≤1048576)(hml:m.length≤1048576)(hw:Wf H):
  Sh.Call Tryz.prog (knows 7) 93 [v,u] H (fun r H'=>H'=H∧∃k:Int,r=.int .i64 k∧(k=0↔l=m)):=by
 refine(refOrdW hl hm hll hml hw).mono ?_;rintro r H' ⟨rfl,rfl⟩;exact⟨rfl,_,rfl,C32⟩
theorem refSame{H:AH}{v u:Value}{l m:List ByteArray}(hl:Sl H v 1 (l.map A7a))(hm:Sl H u 1 (m.map A7a))(hll:l.length≤1048576)(hml:m.length≤1048576)(hw:Wf H):
  Sh.Call Tryz.prog (knows 7) 56 [v,u] H (fun r H'=>H'=H∧r=.bool (decide (l=m))):=by
 refine A3a rfl Tryz.func56 rfl (Nat.le_of_ble_eq_true rfl) ?_;have hres:Tryz.f56.results.toList=[.tmp 4]:=rfl;obtain⟨r,H1,hd,rfl,k,rfl,hk⟩:=refOrder hl hm hll hml hw;simp only[↓Sh.dn,sx,reduceCtorEq,Nat.reduceEqDiff];refine⟨_,_,hd,?_⟩;have:decide (k=0)=decide (l=m):=decide_eq_decide.2 hk;simp only[sx,hres,this]
structure LS(H:AH)(base:Nat)(z:Value)(l:List ByteArray)(ob:Option Nat):Prop where
 bf:Buf H 1 z (l.map A7a) ob
 fr:∀y,ob=some y→base≤y
theorem LS.void(H:AH)(base:Nat):LS H base (.slice none 0 0) [] none:=⟨.void none,fun y hy=>by cases hy⟩
theorem LS.kept{H H':AH}{base:Nat}{z:Value}{l:List ByteArray}{ob:Option Nat}(h:LS H base z l ob)(hw:Wf H)(hk:Kept H H'):LS H' base z l ob:=⟨h.bf.kept hw hk,h.fr⟩
theorem C6e{base:Nat}{H':AH}{z:Value}{ob:Option Nat}{l:List ByteArray}(x:ByteArray)(hb:base≤H'.next)(hw:Wf H')(hl:LS H' base z l ob)(hn:l.length≤17179869183):
  ∃ a cap w' H4 ob', z = .slice a l.length cap ∧ A5a Tryz.prog 22 1 [(0, .string x)] H' = some (.slice (some ⟨H'.next, 0, some 0⟩) 1 1, (H'.new 1 [.string x]).2) ∧
      A4a Tryz.prog .append [22, 22] [.slice a l.length cap, .slice (some ⟨H'.next, 0, some 0⟩) 1 1] (H'.new 1 [.string x]).2 = some (w', H4) ∧
      LS H4 base w' (l ++ [x]) ob' ∧ Chg (fun y => ob = some y) H' H4 := by
 obtain⟨a,cap,w',H4,ob',e1,e2,e3,e4,e5⟩:=hl.bf.push hw (x:=A7a x) rfl;rw[List.length_map]at e1 e2;have ha:=app1_22 (H:=H') (base:=a) (len:=l.length) (cap:=cap) (x:=A7a x) rfl hn;rw[e2]at ha;refine⟨a,cap,w',H4,ob',e1,B38 (H:=H') (x:=.string x) rfl rfl,ha,⟨by rw[List.map_append];exact e3,fun y hy=>?_⟩,e4⟩;rcases e5 y hy with h1|h1
 ·exact hl.fr y h1
 ·omega
theorem D3a{x:ByteArray}{l:List ByteArray}(h:Asc (x :: l)):Asc l:=fun i j a b hij ha hb=>h (i+1) (j+1) a b (by omega) (by simpa using ha) (by simpa using hb)
theorem B1x{x:ByteArray}{l:List ByteArray}(h:Asc (x :: l)){y:ByteArray}(hy:y∈l):A3b x y=true:=by
 obtain⟨i,hi⟩:=List.mem_iff_getElem?.1 hy;exact h 0 (i+1) x y (by omega) rfl (by simpa using hi)
theorem C17:∀{l m:List ByteArray},Asc l→Asc m→(∀x,x∈l↔x∈m)→l=m
 | [],[],_,_,_=>rfl
 | [],y :: m,_,_,h=>by have:=(h y).2 List.mem_cons_self;cases this
 | x :: l,[],_,_,h=>by have:=(h x).1 List.mem_cons_self;cases this
 | x :: l,y :: m,hl,hm,h=>by
  have irr:∀a,A3b a a=false:=A4k;have asym:∀a b,A3b a b=true→A3b b a=true→False:=fun a b h1 h2=>by
   have:=A4o h1 h2;rw[irr]at this;cases this
  have hxy:x=y:=by
   rcases List.mem_cons.1 ((h x).1 List.mem_cons_self) with h1|h1
   ·exact h1
   ·rcases List.mem_cons.1 ((h y).2 List.mem_cons_self) with h2|h2
    ·exact h2.symm
    ·exact(asym _ _ (B1x hm h1) (B1x hl h2)).elim
  subst hxy
  congr 1
  refine C17 (D3a hl) (D3a hm) fun z=>?_;constructor
  ·intro hz
   rcases List.mem_cons.1 ((h z).1 (List.mem_cons_of_mem _ hz)) with h1|h1
   ·subst h1;have:=B1x hl hz;rw[irr]at this;cases this
   ·exact h1
  ·intro hz
   rcases List.mem_cons.1 ((h z).2 (List.mem_cons_of_mem _ hz)) with h1|h1
   ·subst h1;have:=B1x hm hz;rw[irr]at this;cases this
   ·exact h1
def rowLen(E:List (List (ByteArray×Nat)))(s:Nat):Nat:=(E.getD s []).length
theorem sum_perm{l m:List Nat}(h:l.Perm m):l.sum=m.sum:=by
 induction h with
 | nil=>rfl
 | cons x _ ih=>simp[ih]
 | swap x y l=>simp;omega
 | trans _ _ ih1 ih2=>rw[ih1,ih2]
theorem C1z(f:Nat→Nat):∀{L M:List Nat},L.Nodup→(∀x∈L,x∈M)→(L.map f).sum≤(M.map f).sum
 | [],M,_,_=>Nat.zero_le _
 | s :: L,M,hn,hs=>by
  have hm:=hs s List.mem_cons_self;have hp:=List.perm_cons_erase hm;have e:=sum_perm (hp.map f);rw[e];simp only[List.map_cons,List.sum_cons];have hn':=List.nodup_cons.1 hn;refine Nat.add_le_add_left (C1z f hn'.2 fun x hx=>?_) _;have hxs:x≠s:=fun e=>hn'.1 (e ▸ hx);exact(List.mem_erase_of_ne hxs).2 (hs x (List.mem_cons_of_mem _ hx))
theorem sum_rows{E:List (List (ByteArray×Nat))}{L:List Nat}(hn:L.Nodup)(hl:∀s∈L,s<E.length):(L.map (rowLen E)).sum≤(E.map List.length).sum:=by
 have h:=C1z (rowLen E) hn (M:=List.range E.length) fun x hx=>List.mem_range.2 (hl x hx);have e:(List.range E.length).map (rowLen E)=E.map List.length:=by
  refine List.ext_getElem? fun i=>?_;by_cases hi:i<E.length
  ·simp[hi,rowLen,List.getD]
  ·rw[List.getElem?_eq_none (by simp;omega),List.getElem?_eq_none (by simp;omega)]
 rw[e]at h;exact h
theorem C5d{H:AH}{v u ev bv:Value}{vals:List Value}{n:Nat}{E:List (List (ByteArray×Nat))}{ends:List Bool}{L:List Nat}(h:RG H v n E ends ev bv vals)(hL:Sl H u 1 (L.map natC))(hlt:∀t∈L,t<n)(hnd:L.Nodup)(htot:(E.map List.length).sum≤16000000)(hw:Wf H):
  Sh.Call Tryz.prog (knows 7) 90 [v,u] H (fun r H'=>Kept H H'∧∃l b,Buf H' 1 r (l.map A7a) b∧Asc l∧l.length≤16000000∧(∀y,b=some y→H.next≤y)∧∀x,x∈l↔x≠A0b∧∃s∈L,∃t,A3e E x s t):=by
 refine A3a rfl Tryz.func90 rfl (Nat.le_of_ble_eq_true rfl) ?_;have hres:Tryz.f90.results.toList=[.tmp 4]:=rfl;have hrb:=RBox.of h hw;have hk1:Kept H (H.new 3 [.int .i64 0,ev,bv]).2:=Kept.new hw 3 _;have hE:=h.ed.sl.isCell;have hB:=h.en.isCell;rw[h.eq];simp only[↓Sh.dn,sx,B28 hE hB];generalize (H.new 3 [.int .i64 0,ev,bv]).2=H1 at hrb hk1 ⊢;generalize hgb:H.next=gb at hrb ⊢;have hn2:=h.n2;have hll:=A8u hnd hlt;have hsum:=sum_rows hnd (fun s hs=>by rw[h.le];exact hlt s hs);have hpart:∀i,((L.take i).map (rowLen E)).sum≤16000000:=fun i=>by
  have h1:((L.take i).map (rowLen E)).sum+((L.drop i).map (rowLen E)).sum=(L.map (rowLen E)).sum:=by
   rw[←List.sum_append,←List.map_append,List.take_append_drop]
  omega
 refine A5c L.length 6 (List.range' 5 4++List.range' 11 37) (fun i F H'=>Kept H1 H'∧∃z,F.get 5=some z∧∃out ob,LS H' H1.next z out ob∧out.length≤((L.take i).map (rowLen E)).sum∧∀x,x∈out↔x≠A0b∧∃s∈L.take i,∃t,A3e E x s t) (by simp only[sx]) ⟨Kept.refl hk1.wf,_,by simp only[sx,Nat.reduceEqDiff],[],none,LS.void _ _,Nat.zero_le _,fun x=>by simp⟩ ?_ ?_
 ·rintro i F H' hi hF f6 ⟨hk,z,f5,out,ob,hl,hol,hiff⟩ k
  have f1:=hF 1 rfl;have f2:=hF 2 rfl;simp only[sx,Nat.reduceEqDiff]at f1 f2;have hL':=fun{H'} (hk:Kept H1 H')=>hL.grow ((hk1.trans hk).grow hw);have hlen:=(hL' hk).len Tryz.underlying71 H';rw[List.length_map]at hlen;obtain⟨p,hia,hc⟩:=A13 Tryz.underlying71 A2c (hL' (Kept.refl hk1.wf)) hi;have hc':=fun{H'} (hk:Kept H1 H')=>A8b (hk.grow hk1.wf) hc;have htn:L[i]<n:=hlt _ (List.getElem_mem hi);have htake:L.take (i+1)=L.take i++[L[i]]:=by rw[List.take_add_one,List.getElem?_eq_getElem hi];rfl
  clear hc;generalize L[i]=s at hc' htn htake;obtain⟨r,hr⟩:∃r,E[s]?=some r:=⟨E[s]'(by rw[h.le];exact htn),List.getElem?_eq_getElem _⟩
  have hr':(A9h E)[s]?=some (r.map A0i):=by unfold A9h;rw[List.getElem?_map,hr];rfl
  have hrln:rowLen E s=r.length:=by unfold rowLen;rw[List.getD_eq_getElem?_getD,hr];rfl
  have hsum1:((L.take (i+1)).map (rowLen E)).sum=((L.take i).map (rowLen E)).sum+r.length:=by rw[htake];simp[hrln]
  have hp1:=hpart (i+1);obtain⟨hrl,hrt⟩:=h.to s r hr;obtain⟨ga,oa,ka,wr,hia2,hca,hsr⟩:=(h.ed.grow (hk1.grow hw)).at Tryz.underlying57 A3r hr';have hro:∀{H'},Kept H1 H'→H'.cell ⟨ga,oa,some ka⟩=some wr∧Sl H' wr 2 (r.map A0i)∧A4a Tryz.prog .len [86] [wr] H'=some (.int .i64 (r.length:Int),H'):=fun hk=>by
   have h2:=hsr.grow (hk.grow hk1.wf);refine⟨A8b (hk.grow hk1.wf) hca,h2,?_⟩;rw[h2.len Tryz.underlying86,List.length_map]
  simp only[↓Sh.dn,sx,Nat.reduceEqDiff,f1,f6,A1a,hi,decide_true,hlen];refine A5c r.length 7 (List.range' 17 31++[5,7,8]) (fun q F'' H''=>Kept H1 H''∧∃z',F''.get 5=some z'∧∃out' ob',LS H'' H1.next z' out' ob'∧out'.length≤((L.take i).map (rowLen E)).sum+q∧∀x,x∈out'↔x≠A0b∧((∃s∈L.take i,∃t,A3e E x s t)∨∃e∈r.take q,e.1=x)) (by simp only[sx]) ⟨hk,z,by simp only[sx,Nat.reduceEqDiff,f5],out,ob,hl,Nat.le_trans hol (Nat.le_add_right _ _),fun x=>by rw[hiff x];simp⟩ ?_ ?_
  ·rintro q F'' H'' hq hF'' f7 ⟨hk'',z',f5',out',ob',hl',hol',hiff'⟩ k2
   have g1:=hF'' 1 rfl;have g2:=hF'' 2 rfl;have g6:=hF'' 6 rfl;simp only[sx,Nat.reduceEqDiff,f1,f2,f6]at g1 g2 g6;obtain⟨hc1,hs1,hl1⟩:=hro hk'';have hcc:=hc' hk'';have hb1:=hrb.kept hk1.wf hk'';obtain⟨g',o',k',hia3,_,hcs2⟩:=hs1.at Tryz.underlying86 A5t (i:=q) (x:=A0i r[q]) (by simp[hq]) .i64;have hce:H''.cell ⟨g',o',some k'⟩=some (.string r[q].1):=by simpa using hcs2 0 _ rfl
   have hrq:r[q]∈r:=List.getElem_mem hq;have htk:r.take (q+1)=r.take q++[r[q]]:=by rw[List.take_add_one,List.getElem?_eq_getElem hq];rfl
   clear hcs2;generalize r[q]=e at hce hrq htk;have hj:∀x,(∃e'∈r.take (q+1),e'.1=x)↔(∃e'∈r.take q,e'.1=x)∨e.1=x:=fun x=>by
    rw[htk];simp only[List.mem_append,List.mem_singleton];constructor
    ·rintro⟨e',h1|h1,h2⟩
     ·exact .inl ⟨e',h1,h2⟩
     ·subst h1;exact .inr h2
    ·rintro(⟨e',h1,h2⟩|h2)
     ·exact⟨e',.inl h1,h2⟩
     ·exact⟨e,.inr rfl,h2⟩
   simp only[↓Sh.dn,sx,Nat.reduceEqDiff,f7,g1,g2,g6,hb1.c1,hia,hcc,hia2,hc1,hl1,A1a,hq,decide_true,hia3,hce];by_cases he:e.1=⟨#[]⟩
   ·simp only[↓Sh.dn,sx,Nat.reduceEqDiff,he,decide_true,f7,A2a hq (Nat.le_trans hrl (by decide))]
    refine k2 _ _ (by repeat (first|refine Same.put ?_ rfl|exact Same.rfl' _)) (by simp only[sx]) ⟨hk'',z',by simp only[sx,Nat.reduceEqDiff,f5'],out',ob',hl',by omega,fun x=>?_⟩;rw[hiff',hj];constructor
    ·rintro⟨h1,h2|h2⟩
     ·exact⟨h1,.inl h2⟩
     ·exact⟨h1,.inr (.inl h2)⟩
    ·rintro⟨h1,h2|h2|h2⟩
     ·exact⟨h1,.inl h2⟩
     ·exact⟨h1,.inr h2⟩
     ·exact absurd (h2.symm.trans he) h1
   ·obtain⟨a,cap,w',H4,ob2,rfl,e1,e2,e3,e4⟩:=C6e e.1 hk''.next hk''.wf hl' (by omega)
    simp only[↓Sh.dn,sx,Nat.reduceEqDiff,he,decide_false,f5',f7,e1,e2,A2a hq (Nat.le_trans hrl (by decide))];refine k2 _ _ (by repeat (first|refine Same.put ?_ rfl|exact Same.rfl' _)) (by simp only[sx]) ⟨hk''.then (Nat.le_refl _) (e4.weak hl'.fr),w',by simp only[sx,Nat.reduceEqDiff],out'++[e.1],ob2,e3,by simp only[List.length_append,List.length_singleton];omega,fun x=>?_⟩;rw[hj,List.mem_append,List.mem_singleton,hiff' x];constructor
    ·rintro(⟨h1,h2|h2⟩|h1)
     ·exact⟨h1,.inl h2⟩
     ·exact⟨h1,.inr (.inl h2)⟩
     ·subst h1;exact⟨he,.inr (.inr rfl)⟩
    ·rintro⟨h1,h2|h2|h2⟩
     ·exact .inl ⟨h1,.inl h2⟩
     ·exact .inl ⟨h1,.inr h2⟩
     ·exact .inr h2.symm
  ·rintro F'' H'' hF'' f7 ⟨hk'',z',f5',out',ob',hl',hol',hiff'⟩
   have g1:=hF'' 1 rfl;have g2:=hF'' 2 rfl;have g6:=hF'' 6 rfl;simp only[sx,Nat.reduceEqDiff,f1,f2,f6]at g1 g2 g6;obtain⟨hc1,hs1,hl1⟩:=hro hk'';have hcc:=hc' hk'';have hb1:=hrb.kept hk1.wf hk'';simp only[↓Sh.dn,sx,Nat.reduceBEq,Nat.reduceEqDiff,f7,g1,g2,g6,hb1.c1,hia,hcc,hia2,hc1,hl1,A1a,Nat.lt_irrefl,decide_false,A2a hi (Nat.le_trans hll (Nat.le_trans hn2 (by decide)))];refine k _ _ ?_ (by simp only[sx]) ⟨hk'',z',by simp only[sx,Nat.reduceEqDiff,f5'],out',ob',hl',by rw[hsum1];exact hol',fun x=>?_⟩
   ·repeat refine Same.put ?_ rfl
    exact Same.trans (by repeat (first|refine Same.put ?_ rfl|exact Same.rfl' _)) (hF''.sub rfl)
   ·rw[hiff' x,htake,List.take_length]
    simp only[List.mem_append,List.mem_singleton];constructor
    ·rintro⟨h0,⟨s',h1,h2⟩|⟨e,h1,h2⟩⟩
     ·exact⟨h0,s',.inl h1,h2⟩
     ·exact⟨h0,s,.inr rfl,e.2,r,hr,by rw[←h2];exact h1⟩
    ·rintro⟨h0,s',h1|h1,t,h2⟩
     ·exact⟨h0,.inl ⟨s',h1,t,h2⟩⟩
     ·subst h1
      obtain⟨r',h3,h4⟩:=h2;rw[hr]at h3;rw[←Option.some.inj h3]at h4;exact⟨h0,.inr ⟨_,h4,rfl⟩⟩
 ·rintro F H' hF f6 ⟨hk,z,f5,out,ob,hl,hol,hiff⟩
  have f1:=hF 1 rfl;simp only[sx,Nat.reduceEqDiff]at f1;have hL':=hL.grow ((hk1.trans hk).grow hw);have hlen:=hL'.len Tryz.underlying71 H';rw[List.length_map]at hlen;rw[List.take_length]at hiff hol;have hol2:out.length≤16000000:=by omega
  obtain⟨rr,H3,hd3,l',hperm,hsrt,hb3,hc3⟩:=C5a (l:=out) hl.bf hol2 hk.wf;simp only[↓Sh.dn,sx,Nat.reduceEqDiff,f1,f5,f6,A1a,Nat.lt_irrefl,decide_false,hlen];refine⟨_,_,hd3,?_⟩;have hk3:Kept H1 H3:=hk.then (Nat.le_refl _) (hc3.weak hl.fr);have hs5:Sl H3 z 1 (l'.map A7a):=hb3.toSl;have hl'l:l'.length≤16000000:=by rw[hperm.length_eq];exact hol2
  refine A5c l'.length 10 (List.range' 9 2++List.range' 50 27) (fun i F H'=>Kept H3 H'∧∃z2,F.get 9=some z2∧∃st ob2,LS H' H3.next z2 st ob2∧st.length≤i∧Asc st∧∀x,x∈st↔x∈l'.take i) (by simp only[sx]) ⟨Kept.refl hk3.wf,_,by simp only[sx,Nat.reduceEqDiff],[],none,LS.void _ _,Nat.zero_le _,fun i j x y _ hx=>by simp at hx,fun x=>by simp⟩ ?_ ?_
  ·rintro i F' H' hi hF' f10 ⟨hk4,z2,f9,st,ob2,hst,hstl,hasc,hmem⟩ k
   have g5:=hF' 5 rfl;simp only[sx,Nat.reduceEqDiff,f5]at g5;have hs6:=hs5.grow (hk4.grow hk3.wf);have hlen5:=hs6.len Tryz.underlying22 H';rw[List.length_map]at hlen5;obtain⟨p,hia,hc⟩:=Sl.elem (s:=1) Tryz.underlying22 A4i hs6 (i:=i) (u:=.string l'[i]) (by rw[List.getElem?_map,List.getElem?_eq_getElem hi];rfl);have hgi:l'[i]?=some l'[i]:=List.getElem?_eq_getElem hi;have htk:l'.take (i+1)=l'.take i++[l'[i]]:=by rw[List.take_add_one,hgi];rfl
   obtain⟨x,hx⟩:∃x,l'[i]=x:=⟨_,rfl⟩
   rw[hx]at hc hgi htk
   have more : (∀ y ∈ st, A3b y x = true) → ∃ a cap w' H4 ob', z2 = .slice a st.length cap ∧ A5a Tryz.prog 22 1 [(0, .string x)] H' = some (.slice (some ⟨H'.next, 0, some 0⟩) 1 1, (H'.new 1 [.string x]).2) ∧
       A4a Tryz.prog .append [22, 22] [.slice a st.length cap, .slice (some ⟨H'.next, 0, some 0⟩) 1 1] (H'.new 1 [.string x]).2 = some (w', H4) ∧ Kept H3 H4 ∧ LS H4 H3.next w' (st ++ [x]) ob' ∧ Asc (st ++ [x]) := by
     intro hall;obtain⟨a, cap, w', H4, ob', e0, e1, e2, e3, e4⟩ := C6e x hk4.next hk4.wf hst (by omega);refine⟨a, cap, w', H4, ob', e0, e1, e2, hk4.then (Nat.le_refl _) (e4.weak hst.fr), e3, fun p q a b hpq ha hb => ?_⟩;by_cases hq : q<st.length
     · rw[List.getElem?_append_left (by omega)]at ha
       rw[List.getElem?_append_left hq]at hb;exact hasc p q a b hpq ha hb
     · have hqe : q = st.length := by
         have := (List.getElem?_eq_some_iff.1 hb).1;simp at this;omega
       subst hqe;rw[List.getElem?_append_left (by omega)]at ha;simp at hb;subst hb;exact hall a (List.mem_of_getElem? ha)
   by_cases h0:i=0
   ·subst h0
    have hst0:st=[]:=List.length_eq_zero_iff.1 (by omega);subst hst0;obtain⟨a,cap,w',H4,ob',rfl,e1,e2,e3,e4,e5⟩:=more (fun y hy=>by cases hy);have d0:decide (((0:Nat):Int)=0)=true:=rfl;simp only[↓Sh.dn,sx,Nat.reduceEqDiff,g5,f9,f10,hlen5,A1a,hi,decide_true,d0,hia,hc,e1,e2,A2a hi (by omega)];refine k _ _ (by repeat (first|refine Same.put ?_ rfl|exact Same.rfl' _)) (by simp only[sx]) ⟨e3,w',by simp only[sx,Nat.reduceEqDiff],[]++[x],ob',e4,by simp,e5,fun y=>by rw[htk];simp⟩
   ·have d0:decide ((i:Int)=0)=false:=by simp;omega
    have hi1:i-1<l'.length:=by omega
    obtain⟨p1,hia1,hc1⟩:=Sl.elem (s:=1) Tryz.underlying22 A4i hs6 (i:=i-1) (u:=.string l'[i-1]) (by rw[List.getElem?_map,List.getElem?_eq_getElem hi1];rfl);have w1:IntKind.wrap .i64 ((i:Int)-1)=((i-1:Nat):Int):=by rw[wrap64 (by omega) (by omega)];omega
    have hgp:l'[i-1]?=some l'[i-1]:=List.getElem?_eq_getElem hi1;obtain⟨y,hy⟩:∃y,l'[i-1]=y:=⟨_,rfl⟩
    rw[hy]at hc1 hgp;have hyin:y∈st:=(hmem y).2 (List.mem_of_getElem? (i:=i-1) (by rw[List.getElem?_take,if_pos (by omega)];exact hgp));by_cases hxy:x=y
    ·simp only[↓Sh.dn,sx,Nat.reduceEqDiff,g5,f10,hlen5,A1a,hi,decide_true,d0,hia,hc,w1,hia1,hc1,hxy,A2a hi (by omega)]
     refine k _ _ (by repeat (first|refine Same.put ?_ rfl|exact Same.rfl' _)) (by simp only[sx]) ⟨hk4,z2,by simp only[sx,Nat.reduceEqDiff,f9],st,ob2,hst,by omega,hasc,fun a=>?_⟩;rw[hmem,htk,List.mem_append,List.mem_singleton];constructor
     ·exact .inl
     ·rintro(h1|h1)
      ·exact h1
      ·subst h1;rw[hxy];exact(hmem y).1 hyin
    ·have hall : ∀ a ∈ st, A3b a x = true := by
       intro a ha;obtain⟨j, hj⟩ := List.mem_iff_getElem?.1 ((hmem a).1 ha);rw[List.getElem?_take]at hj;split at hj
       · rename_i hji
         have h1 := hsrt j (i-1) a y (Nat.zero_le _) (by omega) hi1 hj hgp;have h2 := hsrt (i-1) i y x (Nat.zero_le _) (by omega) hi hgp hgi;have h3 : A3b y x = true := by
           rcases B6h y x with h|h|h
           · exact h
           · exact absurd h.symm hxy
           · rw[h2]at h;cases h
         rcases B6h a y with h|h|h
         · exact A4o h h3
         · rw[h];exact h3
         · rw[h1]at h;cases h
       · cases hj
     obtain⟨a, cap, w', H4, ob', rfl, e1, e2, e3, e4, e5⟩ := more hall;simp only[↓Sh.dn, sx, Nat.reduceEqDiff, g5, f9, f10, hlen5, A1a, hi, decide_true, decide_false, d0, hia, hc, w1, hia1, hc1, hxy, e1, e2, A2a hi (by omega)];refine k _ _ (by repeat (first|refine Same.put ?_ rfl|exact Same.rfl' _)) (by simp only[sx]) ⟨e3, w', by simp only[sx, Nat.reduceEqDiff], st ++ [x], ob', e4, by simp;omega, e5, fun a => ?_⟩;rw[htk, List.mem_append, List.mem_append, hmem]
  ·rintro F' H' hF' f10 ⟨hk4,z2,f9,st,ob2,hst,hstl,hasc,hmem⟩
   have g5:=hF' 5 rfl;simp only[sx,Nat.reduceEqDiff,f5]at g5;have hlen5:=(hs5.grow (hk4.grow hk3.wf)).len Tryz.underlying22 H';rw[List.length_map]at hlen5;rw[List.take_length]at hmem;simp only[↓Sh.dn,sx,Nat.reduceEqDiff,g5,f9,f10,hlen5,A1a,Nat.lt_irrefl,decide_false,hres];refine⟨(hk1.trans hk3).trans hk4,st,ob2,hst.bf,hasc,by omega,fun y hy=>by have:=hst.fr y hy;have:=(hk1.trans hk3).next;omega,fun x=>?_⟩;rw[hmem,hperm.mem_iff,hiff]
def natK(n:Nat):Value:=.int .i64 (n:Int)
theorem C5h(a:Nat):A0p Tryz.prog 3 (natK a)=true:=by
 unfold A0p natK;simp only[plainKey,keyT,A6g,Tryz.underlying3];rfl
theorem C5z(a b:Nat):eqT Tryz.prog A6g 3 (natK a) (natK b)=some (decide (a=b)):=by
 unfold natK;show eqT Tryz.prog (19+1) _ _ _=_;rw[D0b]
 congr 1
 exact decide_eq_decide.2 Int.ofNat_inj
def BMap(H:AH)(g:Nat)(D:List Nat):Prop:=MapIs H g natK (D.map fun t=>(t,.bool true))
theorem B6q(D:List Nat)(t:Nat):A8t (D.map fun t=>(t,Value.bool true)) t=if t∈D then some (.bool true) else none:=by
 unfold A8t;by_cases h:t∈D
 ·rw[if_pos h]
  cases hf:(D.map fun t=>(t,Value.bool true)).find? fun p=>decide (t=p.1) with
  | none=>
   rw[List.find?_eq_none]at hf;have:=hf (t,.bool true) (List.mem_map.2 ⟨t,h,rfl⟩);simp at this
  | some p=>
   have:=List.mem_of_find?_eq_some hf;obtain⟨u,_,rfl⟩:=List.mem_map.1 this;rfl
 ·rw[if_neg h]
  have:(D.map fun t=>(t,Value.bool true)).find? (fun p=>decide (t=p.1))=none:=by
   rw[List.find?_eq_none];rintro p hp;obtain⟨u,hu,rfl⟩:=List.mem_map.1 hp;simp only[decide_eq_true_eq];rintro rfl;exact h hu
  rw[this];rfl
theorem BMap.look{H:AH}{g:Nat}{D:List Nat}(h:BMap H g D)(t:Nat):A4s Tryz.prog 161 (.map (some g)) (.int .i64 (t:Int)) false H=some (.bool (decide (t∈D))):=by
 have:=MapIs.look (P:=Tryz.prog) (ok:=false) Tryz.underlying161 B3l C5h C5z h t;rw[B6q]at this;unfold natK at this;rw[this];by_cases hd:t∈D<;>simp[hd]
theorem BMap.add{H:AH}{g:Nat}{D:List Nat}(h:BMap H g D)(hw:Wf H){t:Nat}(ht:t∉D):∃H',A7h Tryz.prog 161 (.map (some g)) (.int .i64 (t:Int)) (.bool true) H=some H'∧BMap H' g (D++[t])∧Chg (fun y=>y=g) H H'∧H'.next=H.next:=by
 obtain⟨H',h1,h2,h3,h4⟩:=MapIs.add (P:=Tryz.prog) Tryz.underlying161 C5h C5z h hw (a:=t) (by rw[B6q,if_neg ht]) (.bool true);exact⟨H',h1,by unfold BMap;rw[List.map_append];exact h2,h3,h4⟩
theorem pushNat2{base:Nat}{H':AH}{z:Value}{os ob:Option Nat}{l:List Nat}(t:Nat)(hb:base≤H'.next)(hw:Wf H')(ho:∀y,os=some y→y<H'.next)(hl:LB H' base os z l ob)(hn:l.length≤17179869183):
  ∃ a cap w' H4 ob', z = .slice a l.length cap ∧ A5a Tryz.prog 71 1 [(0, .int .i64 (t : Int))] H' = some (.slice (some ⟨H'.next, 0, some 0⟩) 1 1, (H'.new 1 [.int .i64 (t : Int)]).2) ∧
      A4a Tryz.prog .append [71, 71] [.slice a l.length cap, .slice (some ⟨H'.next, 0, some 0⟩) 1 1] (H'.new 1 [.int .i64 (t : Int)]).2 = some (w', H4) ∧
      LB H4 base os w' (l ++ [t]) ob' ∧ Chg (fun y => ob = some y) H' H4 ∧ ∀y, ob' = some y → ob = some y ∨ H'.next ≤ y := by
 obtain⟨a,cap,w',H4,ob',e1,e2,e3,e4,e5⟩:=hl.bf.push hw (x:=natC t) rfl;rw[List.length_map]at e1 e2;have ha:=B7j (H:=H') (base:=a) (len:=l.length) (cap:=cap) (x:=natC t) rfl hn;rw[e2]at ha;refine⟨a,cap,w',H4,ob',e1,A4p (H:=H') (x:=.int .i64 (t:Int)) rfl rfl,ha,⟨by rw[List.map_append];exact e3,fun y hy=>?_⟩,e4,e5⟩;rcases e5 y hy with h1|h1
 ·exact hl.fr y h1
 ·exact⟨by omega,fun h2=>by have:=ho y h2;omega⟩
theorem C5x{H:AH}{e:Nat×Int×Int×Int}:anew Tryz.prog 81 H (.agg (A6c e).toArray)=some (.pointer (some ⟨H.next,0,some 0⟩),(H.new 4 (A6c e)).2):=A3q (vs:=A6c e) A92 rfl rfl
theorem B7a{H:AH}:anew Tryz.prog 81 H (.agg #[.int .i64 0,.int .i64 0,.int .i64 0,.int .i64 0])=some (.pointer (some ⟨H.next,0,some 0⟩),(H.new 4 [.int .i64 0,.int .i64 0,.int .i64 0,.int .i64 0]).2):=A3q (vs:=[.int .i64 0,.int .i64 0,.int .i64 0,.int .i64 0]) A92 rfl rfl
theorem A1z{H:AH}{e:Nat×Int×Int×Int}{p:Addr}:A0e Tryz.prog 81 H (.agg (A6c e).toArray) (.pointer (some p))=H.write p (A6c e):=A0s A92 rfl rfl
theorem B2a{H:AH}{e:Nat×Int×Int×Int}{x0 x1 x2 x3:Value}:(H.new 4 [x0,x1,x2,x3]).2.write ⟨H.next,0,some 0⟩ (A6c e)=some (H.new 4 (A6c e)).2:=A3m rfl
theorem ge0{H:AH}{e:Nat×Int×Int×Int}:(H.new 4 (A6c e)).2.cell ⟨H.next,0,some 0⟩=some (.int .i64 (e.1:Int)):=A3i _ _ _
theorem ge1{H:AH}{e:Nat×Int×Int×Int}:(H.new 4 (A6c e)).2.cell ⟨H.next,1,some 0⟩=some (.int .i64 e.2.1):=A3i _ _ _
theorem ge2{H:AH}{e:Nat×Int×Int×Int}:(H.new 4 (A6c e)).2.cell ⟨H.next,2,some 0⟩=some (.int .i64 e.2.2.1):=A3i _ _ _
theorem ge3{H:AH}{e:Nat×Int×Int×Int}:(H.new 4 (A6c e)).2.cell ⟨H.next,3,some 0⟩=some (.int .i64 e.2.2.2):=A3i _ _ _
theorem geAll{H:AH}{e:Nat×Int×Int×Int}:(H.new 4 (A6c e)).2.cells ⟨H.next,0,some 0⟩ 4=some (A6c e):=(Sh.Obj.new (H:=H) 4 (A6c e)).cells (i:=0) (n:=4) (by simp[A6c])
theorem PG.row{H:AH}{g n rb:Nat}{E:List (List (Nat×Int×Int×Int))}{ends:List Int}{sv av ev cv:Value}{vals:List Value}{sigma:List ByteArray}{costs:List Int}(h:PG H g n rb E ends sv av ev cv vals sigma costs){s:Nat}{r:List (Nat×Int×Int×Int)}(hr:E[s]?=some r):
  ∃p w,A7b Tryz.prog 101 av (.int .i64 (s:Int))=some (.pointer (some p))∧H.cell p=some w∧Sl H w 4 (r.map A6c)∧∀H',A4a Tryz.prog .len [111] [w] H'=some (.int .i64 (r.length:Int),H'):=by
 obtain⟨ga,oa,ka,w,h1,h2,h3⟩:=h.gr.jag.at Tryz.underlying101 A2v (i:=s) (r:=r.map A6c) (by unfold A9d;rw[List.getElem?_map,hr];rfl);exact⟨_,w,h1,h2,h3,fun H'=>by rw[h3.len Tryz.underlying111,List.length_map]⟩
theorem PG.edge{H:AH}{w:Value}{r:List (Nat×Int×Int×Int)}(h:Sl H w 4 (r.map A6c)){q:Nat}(hq:q<r.length):
  ∃p,A7b Tryz.prog 111 w (.int .i64 (q:Int))=some (.pointer (some p))∧H.cells p 4=some (A6c r[q]):=by
 obtain⟨g',o',k',h1,h2,_⟩:=h.at Tryz.underlying111 A92 (i:=q) (x:=A6c r[q]) (by simp[hq]) .i64;exact⟨_,h1,h2⟩
theorem B5d{H:AH}{v:Value}{l:List (List Value)}(hs:Sl H v 1 l)(hl:l.length≤17179869183)(hw:Wf H):
  Sh.Call Tryz.prog (knows 7) 105 [v] H (fun r H'=>Kept H H'∧∃b,Buf H' 1 r l b∧∀g,b=some g→H.next≤g):=by
 refine A3a rfl Tryz.func105 rfl (Nat.le_of_ble_eq_true rfl) ?_;have hres:Tryz.f105.results.toList=[.tmp 2]:=rfl;obtain⟨a,cap,rfl,h2,h3,h4⟩:=id hs;cases a with
 | none=>
  obtain⟨rfl,rfl⟩:=h3 rfl;simp only[↓Sh.dn,sx,reduceCtorEq,List.length_nil,Option.isNone_none,hres];exact⟨Kept.refl hw,none,.void none,fun g h=>by cases h⟩
 | some a=>
  have hs1:=hs.grow (HGrow.new hw 1 []);have hk1:Kept H (H.new 1 []).2:=Kept.new hw 1 [];obtain⟨v',H',b',e1,e2,e3,e4⟩:=(Buf.void (H:=(H.new 1 []).2) (s:=1) (some ⟨H.next,0,some 0⟩)).append hk1.wf h2;have happ:=app_71 (base:=some ⟨H.next,0,some 0⟩) (len:=0) (cap:=0) (hs1.srcKind Tryz.underlying71) hs1.newCells (by omega);have hk2:Kept (H.new 1 []).2 H':=e3.kept fun g hg h=>by cases h
  simp only[↓Sh.dn,sx,reduceCtorEq,Nat.reduceEqDiff,Option.isNone_some,happ,e1,hres];refine⟨hk1.trans hk2,b',by simpa using e2,fun g hg=>?_⟩;rcases e4 with rfl|⟨rfl,_⟩
  ·cases hg
  ·cases hg;exact Nat.le_succ _
theorem C2q{H:AH}{v:Value}{l:List (List Value)}(hs:Sl H v 1 l)(hl:l.length≤1048576)(hw:Wf H):
  Sh.Call Tryz.prog (knows 7) 105 [v] H (fun r H'=>Kept H H'∧∃b,Buf H' 1 r l b∧∀g,b=some g→H.next≤g):=B5d hs (Nat.le_trans hl (by decide)) hw
theorem B3v{H:AH}{v:Value}:Sh.Call Tryz.prog (knows 7) 134 [v,.int .i64 0,.int .i64 0] H (fun r H'=>H'=H):=by
 refine A3a rfl Tryz.func134 rfl (Nat.le_of_ble_eq_true rfl) ?_;have hres:Tryz.f134.results.toList=[]:=rfl;have w1:IntKind.wrap .i64 ((0:Int)+1)=1:=rfl;simp only[↓Sh.dn,sx,w1];refine A5b (fun m F H'=>H'=H∧F.get 2=some (.int .i64 0)∧F.get 6=some (.int .i64 1)) (m:=0) ⟨rfl,by simp only[sx,Nat.reduceEqDiff],by simp only[sx]⟩ ?_;rintro m F H' ⟨rfl,f2,f6⟩ kk;have d:decide ((1:Int)<0)=false:=rfl;simp only[↓Sh.dn,sx,Nat.reduceEqDiff,f2,f6,d,hres]
theorem B5w{H:AH}{v:Value}{lim:Int}:Sh.Call Tryz.prog (knows 7) 131 [v,.int .i64 0,.int .i64 0,.int .i64 lim] H (fun r H'=>H'=H):=by
 refine A3a rfl Tryz.func131 rfl (Nat.le_of_ble_eq_true rfl) ?_;have hres:Tryz.f131.results.toList=[]:=rfl;obtain⟨r,H1,hd,rfl⟩:=B3v (H:=H) (v:=v);have w1:IntKind.wrap .i64 ((0:Int)-0)=0:=rfl;have d:decide ((0:Int)≤12)=true:=rfl;simp only[↓Sh.dn,sx];refine A5b (fun m F H'=>H'=H1∧F.get 0=some v∧F.get 1=some (.int .i64 0)∧F.get 2=some (.int .i64 0)) (m:=0) ⟨rfl,by simp only[sx,reduceCtorEq],by simp only[sx,Nat.reduceEqDiff],by simp only[sx,Nat.reduceEqDiff]⟩ ?_;rintro m F H' ⟨rfl,f0,f1,f2⟩ kk;simp only[↓Sh.dn,sx,reduceCtorEq,Nat.reduceEqDiff,f0,f1,f2,w1,d];refine⟨_,_,hd,?_⟩;simp only[sx,hres]
theorem C1v{H:AH}{v:Value}{l:List Int}{ob:Option Nat}(hb:Buf H 1 v (l.map fun x=>[Value.int .i64 x]) ob)(hl:l.length≤16000000)(hw:Wf H):
  Sh.Call Tryz.prog (knows 7) 130 [v] H (fun r H'=>∃l':List Int,l'.Perm l∧Srt A4c 0 l'.length l'∧Buf H' 1 v (l'.map fun x=>[Value.int .i64 x]) ob∧Chg (fun y=>ob=some y) H H'):=by
 refine A3a rfl Tryz.func130 rfl (Nat.le_of_ble_eq_true rfl) ?_;have hres:Tryz.f130.results.toList=[]:=rfl;have hlen:=hb.toSl.len Tryz.underlying146 H;rw[List.length_map]at hlen;have wu:IntKind.wrap .u64 (l.length:Int)=(l.length:Int):=A1w (by omega) (by omega);obtain⟨r,H1,hd,rfl,c,rfl,_⟩:=bitsLen (H:=H) (x:=l.length) (by omega);simp only[↓Sh.dn,sx,reduceCtorEq,Nat.reduceEqDiff,hlen,wu];refine⟨_,_,hd,?_⟩;cases ob with
 | none=>
  have hl0:l=[]:=by
   generalize hL:(l.map fun x=>[Value.int .i64 x])=L at hb;cases hb
   simpa using hL
  subst hl0;obtain⟨r,H2,hd2,rfl⟩:=B5w (H:=H1) (v:=v) (lim:=(c:Int));simp only[reduceCtorEq,List.length_nil,Int.ofNat_zero];refine⟨_,_,hd2,?_⟩;simp only[sx,hres];exact⟨[],List.Perm.refl _,fun i j x y h1 h2 h3=>by simp at h3,hb,Chg.refl hw⟩
 | some g=>
  obtain⟨k,cap,n,rfl,hc,hback⟩:=hb.cells;obtain⟨r,H2,hd2,l',q1,q2,q3,q4⟩:=pdqInt (cap:=cap) l.length (a:=0) (b:=l.length) (lim:=(c:Int)) (by omega) hc hw hl (Nat.zero_le _) (Nat.le_refl _) (fun q x y h=>absurd h (Nat.lt_irrefl 0));simp only[sx];refine⟨_,_,hd2,?_⟩;simp only[sx,hres];exact⟨l',q1.perm,by rw[q1.length];exact q2,hback H2 l' q1.length q3,q4.weak fun x hx=>by rw[hx]⟩
theorem pushSet{base:Nat}{H':AH}{z:Value}{os ob:Option Nat}{l:List Nat}(t:Nat)(hb:base≤H'.next)(hw:Wf H')(ho:∀y,os=some y→y<H'.next)(hl:LB H' base os z l ob)(hn:l.length≤17179869183):
  ∃ a cap w' H4 ob', z = .slice a l.length cap ∧ A5a Tryz.prog 146 1 [(0, .int .i64 (t : Int))] H' = some (.slice (some ⟨H'.next, 0, some 0⟩) 1 1, (H'.new 1 [.int .i64 (t : Int)]).2) ∧
      A4a Tryz.prog .append [146, 146] [.slice a l.length cap, .slice (some ⟨H'.next, 0, some 0⟩) 1 1] (H'.new 1 [.int .i64 (t : Int)]).2 = some (w', H4) ∧
      LB H4 base os w' (l ++ [t]) ob' ∧ Chg (fun y => ob = some y) H' H4 ∧ ∀y, ob' = some y → ob = some y ∨ H'.next ≤ y := by
 obtain⟨a,cap,w',H4,ob',e1,e2,e3,e4,e5⟩:=hl.bf.push hw (x:=natC t) rfl;rw[List.length_map]at e1 e2;have ha:=app1_146 (H:=H') (base:=a) (len:=l.length) (cap:=cap) (x:=natC t) rfl hn;rw[e2]at ha;refine⟨a,cap,w',H4,ob',e1,C6r (H:=H') (x:=.int .i64 (t:Int)) rfl rfl,ha,⟨by rw[List.map_append];exact e3,fun y hy=>?_⟩,e4,e5⟩;rcases e5 y hy with h1|h1
 ·exact hl.fr y h1
 ·exact⟨by omega,fun h2=>by have:=ho y h2;omega⟩
theorem B9f{H:AH}{g n:Nat}{E:List (List (Nat×Int×Int×Int))}{ends:List Int}{sv av ev cv u:Value}{vals:List Value}{sigma:List ByteArray}{costs:List Int}{L:List Nat}(h:PG H g n 60000 E ends sv av ev cv vals sigma costs)(hL:Sl H u 1 (L.map natC))(hlt:∀t∈L,t<n)(hll:L.length≤6000000000)(hw:Wf H):
  Sh.Call Tryz.prog (knows 7) 124 [.pointer (some ⟨g,0,some 0⟩),u] H (fun r H'=>SetOut H H' r n (Clo (A5e E fun k=>k<0) fun s=>s∈L)):=by
 refine A3a rfl Tryz.func124 rfl (Nat.le_of_ble_eq_true rfl) ?_;have hres:Tryz.f124.results.toList=[.tmp 4]:=rfl;have k1:=Kept.push hw (.map []);have m1:BMap (H.push (.map [])).2 H.next []:=MapIs.new;simp only[↓Sh.dn,sx,Nat.reduceEqDiff];have hn1:=h.n1;have hn2:=h.n2;obtain⟨r1,H2,hd2,hk2,tb0,htb0,hft0⟩:=B5d (l:=L.map natC) (hL.grow (k1.grow hw)) (by rw[List.length_map];omega) k1.wf;refine⟨_,_,hd2,?_⟩;obtain⟨G,hG⟩:∃G,H.next=G:=⟨_,rfl⟩
 have hk02:=k1.trans hk2;have m2:BMap H2 H.next []:=m1.keep (hk2.old _ (Nat.lt_succ_self _));have hl2:LB H2 H.next (some H.next) r1 L tb0:=⟨htb0,fun y hy=>by
  have:=hft0 y hy;have:H.next<(H.push (.map [])).2.next:=Nat.lt_succ_self _;exact⟨by omega,fun e=>by have:=Option.some.inj e;omega⟩⟩
 refine A5b (m := n * 60000 + L.length) (fun m F H' => F.get 0 = some (.pointer (some ⟨g, 0, some 0⟩)) ∧ F.get 5 = some (.map (some H.next)) ∧ Kept H H' ∧ ∃ zo, F.get 6 = some zo ∧ ∃ zt, F.get 7 = some zt ∧ ∃ out todo ob tb, m = (n - out.length) * 60000 + todo.length ∧ BMap H' H.next out ∧ LB H' H.next (some H.next) zo out ob ∧ LB H' H.next (some H.next) zt todo tb ∧ (∀ y, ob = some y → tb ≠ some y) ∧
     out.Nodup ∧ (∀t ∈ out, t<n) ∧ (∀t ∈ todo, t<n) ∧ todo.length ≤ L.length + out.length*60000 ∧ (∀t ∈ L, t ∈ out ∨ t ∈ todo) ∧ (∀t ∈ out, Clo (A5e E fun k => k<0) (fun s => s ∈ L) t) ∧ (∀t ∈ todo, Clo (A5e E fun k => k<0) (fun s => s ∈ L) t) ∧ ∀s ∈ out, ∀t, A5e E (fun k => k<0) s t → t ∈ out ∨ t ∈ todo)
   ⟨by simp only[sx, reduceCtorEq], by simp only[sx, Nat.reduceEqDiff], hk02, _, by simp only[sx, Nat.reduceEqDiff], r1, by simp only[sx], [], L, none, tb0, by simp, m2, ⟨.void none, fun y hy => by cases hy⟩, hl2, fun y hy => (by cases hy), List.nodup_nil, fun t ht => (by cases ht), hlt, by omega, fun t ht => .inr ht, fun t ht => (by cases ht), fun t ht => .base ht, fun s hs => by cases hs⟩ ?_
 rintro m F H' ⟨f0,f5,hk,zo,f6,zt,f7,out,todo,ob,tb,rfl,hB,hlo,hlt',hsep,hnd,hon,htn,htl,hLo,hco,hct,hcl⟩ k;have hout:=A8u hnd hon;have hlen:=hlt'.bf.toSl.len Tryz.underlying71 H';rw[List.length_map]at hlen;rcases List.eq_nil_or_concat todo with h0|⟨td,s,h0⟩
 ·subst h0
  have h00:decide ((0:Int)<((([]:List Nat).length:Nat):Int))=false:=rfl;obtain⟨rr,H3,hd3,l',hperm,hsrt,hb3,hc3⟩:=C1v (l:=out.map fun(x:Nat)=>(x:Int)) (by rw[C7j];exact hlo.bf) (by rw[List.length_map];omega) hk.wf;simp only[↓Sh.dn,sx,Nat.reduceEqDiff,f6,f7,hlen,h00];refine⟨_,_,hd3,?_⟩;have hl':l'.map (fun x=>[Value.int .i64 x])=(l'.map Int.toNat).map natC:=by
   rw[List.map_map];refine List.map_congr_left fun x hx=>?_;obtain⟨y,_,rfl⟩:=List.mem_map.1 (hperm.mem_iff.1 hx);rfl
  rw[hl']at hb3;have hp2:(l'.map Int.toNat).Perm out:=by
   have:=hperm.map Int.toNat;rw[List.map_map]at this;have e:out.map (Int.toNat∘fun(x:Nat)=>(x:Int))=out:=by
    conv=>rhs;rw[←List.map_id out]
    exact List.map_congr_left fun x _=>rfl
   rw[e]at this;exact this
  simp only[sx,hres];refine⟨hk.then (Nat.le_refl _) (hc3.weak fun y hy=>(hlo.fr y hy).1),l'.map Int.toNat,ob,hb3,fun y hy=>(hlo.fr y hy).1,hp2.nodup_iff.2 hnd,fun t ht=>hon t (hp2.mem_iff.1 ht),fun t=>?_⟩;rw[hp2.mem_iff];exact Clo.iff (fun t ht=>(hLo t ht).resolve_right (by simp)) hco (fun s hs t ht=>(hcl s hs t ht).resolve_right (by simp)) t
 ·rw[List.concat_eq_append]at h0
  subst h0;have hpos:decide ((0:Int)<(((td++[s]).length:Nat):Int))=true:=by simp
  have wl:IntKind.wrap .i64 ((((td++[s]).length:Nat):Int)-1)=(td.length:Int):=by
   rw[List.length_append,List.length_singleton]at htl ⊢;rw[wrap64 (by omega) (by omega)];omega
  obtain⟨p1,hia1,hc1⟩:=A13 Tryz.underlying71 A2c hlt'.bf.toSl (i:=td.length) (by simp);have hgs:(td++[s])[td.length]'(by simp)=s:=by simp
  rw[hgs]at hc1;have hbp:Buf H' 1 zt (td.map natC++[natC s]) tb:=by have:=hlt'.bf;rwa [List.map_append]at this
  obtain⟨zt2,hsl,hb2⟩:=hbp.pop;have hsl2:=hsl (P:=Tryz.prog) (H':=H') Tryz.underlying71 A2c;rw[List.length_map]at hsl2;have hlt2:LB H' H.next (some H.next) zt2 td tb:=⟨hb2,hlt'.fr⟩
  have hlk:=hB.look s;have hsn:s<n:=htn s (by simp);simp only[↓Sh.dn,sx,Nat.reduceEqDiff,f5,f7,hlen,hpos,wl,hia1,hc1,hsl2,hlk];have hts:=hct s (by simp);by_cases hs:s∈out
  ·simp only[↓Sh.dn,sx,Nat.reduceBEq,hs,decide_true]
   refine k ((n-out.length)*60000+td.length) _ _ (by rw[List.length_append];simp) ⟨by simp only[sx,reduceCtorEq,f0],by simp only[sx,Nat.reduceEqDiff,f5],hk,zo,by simp only[sx,Nat.reduceEqDiff,f6],zt2,by simp only[sx,Nat.reduceEqDiff],out,td,ob,tb,rfl,hB,hlo,hlt2,hsep,hnd,hon,fun t ht=>htn t (List.mem_append_left _ ht),by rw[List.length_append]at htl;omega,fun t ht=>?_,hco,fun t ht=>hct t (List.mem_append_left _ ht),fun x hx t ht=>?_⟩
   ·rcases hLo t ht with h1|h1
    ·exact .inl h1
    ·rcases List.mem_append.1 h1 with h2|h2
     ·exact .inr h2
     ·rw[List.mem_singleton.1 h2];exact .inl hs
   ·rcases hcl x hx t ht with h1|h1
    ·exact .inl h1
    ·rcases List.mem_append.1 h1 with h2|h2
     ·exact .inr h2
     ·rw[List.mem_singleton.1 h2];exact .inl hs
  ·have hol : out.length < n := by
     have := A8u (l := s :: out) (List.nodup_cons.2 ⟨hs, hnd⟩) (fun x hx => by
       rcases List.mem_cons.1 hx with rfl|hx
       · exact hsn
       · exact hon x hx)
     rw[List.length_cons]at this;omega
   obtain⟨H3, e1, hB3, c3, n3⟩ := hB.add hk.wf hs;have hlo3 := hlo.chg hk.wf c3 fun y hy => by rw[hy]
   have hlt3 := hlt2.chg hk.wf c3 fun y hy => by rw[hy]
   have hk3 : Kept H H3 := hk.then (Nat.le_refl _) (c3.weak fun y hy => by rw[hy];exact Nat.le_refl _);have hGl : H.next<H3.next := by have := hB.lt hk.wf;rw[n3];exact this
   obtain⟨a, cap, w', H4, ob2, rfl, e2, e3, hlo4, c4, f4⟩ := pushSet s hk3.next hk3.wf (fun y hy => by rw[←Option.some.inj hy];exact hGl) hlo3 (by omega);have hk4 : Kept H H4 := hk3.then (Nat.le_refl _) (c4.weak fun y hy => (hlo3.fr y hy).1);have hB4 : BMap H4 H.next (out ++ [s]) := hB3.keep (c4.old _ hGl fun hy => (hlo3.fr _ hy).2 rfl);have hlt4 : LB H4 H.next (some H.next) zt2 td tb := ⟨hlt3.bf.chg hk3.wf c4 fun y hy hy2 => hsep y hy2 hy, hlt3.fr⟩
   have hsep4 : ∀y, ob2 = some y → tb ≠ some y := fun y hy hy2 => by
     rcases f4 y hy with h1|h1
     · exact hsep y h1 hy2
     · have := hlt3.bf.lt hk3.wf y hy2;omega
   obtain⟨r, hr⟩ : ∃r, E[s]? = some r := ⟨E[s]'(by rw[h.le];exact hsn), List.getElem?_eq_getElem _⟩
   obtain⟨hrl, hrt⟩ := h.to s r hr;obtain⟨pr, wr, hiar, hcr, hsr, hlr⟩ := PG.row h hr;have hn := h.gr.arr.cell 1;have hpg : ∀{H'}, Kept H H' → H'.cell ⟨g, 1, some 0⟩ = some av ∧ H'.cell pr = some wr ∧ Sl H' wr 4 (r.map A6c) := fun hk => ⟨A8b (hk.grow hw) hn, A8b (hk.grow hw) hcr, hsr.grow (hk.grow hw)⟩
   obtain⟨q1, q2, q3⟩ := hpg hk4;simp only[↓Sh.dn, sx, reduceCtorEq, Nat.reduceEqDiff, hs, decide_false, f0, f5, e1, f6, e2, e3, q1, hiar, q2, hlr];refine A5c r.length 45 (List.range' 45 20 ++ [7, 10]) (fun q F'' H'' => Kept H H'' ∧ ∃zt', F''.get 7 = some zt' ∧ ∃td' tb', BMap H'' H.next (out ++ [s]) ∧ LB H'' H.next (some H.next) w' (out ++ [s]) ob2 ∧ LB H'' H.next (some H.next) zt' td' tb' ∧ (∀y, ob2 = some y → tb' ≠ some y) ∧ (∀t ∈ td', t<n) ∧ td'.length ≤ td.length + q ∧ (∀t ∈ td, t ∈ td') ∧ (∀t ∈ td', Clo (A5e E fun k => k<0) (fun s => s ∈ L) t) ∧ ∀e ∈ r.take q, e.2.1<0 → e.1 ∈ out ++ [s] ∨ e.1 ∈ td') (by simp only[sx])
     ⟨hk4, zt2, by simp only[sx, Nat.reduceEqDiff], td, tb, hB4, hlo4, hlt4, hsep4, fun t ht => htn t (List.mem_append_left _ ht), by omega, fun t ht => ht, fun t ht => hct t (List.mem_append_left _ ht), fun e he => by simp at he⟩ ?_ ?_
   · rintro q F'' H'' hq hF'' f45 ⟨hk'', zt', f7', td', tb', hB', hlo', hlt'', hsep', htn', htl', hsub, hct', hed⟩ k2
     have g5 := hF'' 5 rfl;have g43 := hF'' 43 rfl;have g44 := hF'' 44 rfl;simp only[sx, Nat.reduceEqDiff, f5]at g5 g43 g44;obtain⟨q1, q2, q3⟩ := hpg hk'';obtain⟨pe, hiae, hce⟩ := PG.edge q3 hq;have hrq : r[q] ∈ r := List.getElem_mem hq;have htake : r.take (q + 1) = r.take q ++ [r[q]] := by rw[List.take_add_one, List.getElem?_eq_getElem hq];rfl
     generalize r[q] = e at hce hrq htake;have kn := Kept.new hk''.wf 4 (A6c e);have hk3 := hk''.trans kn;have hB5 : BMap (H''.new 4 (A6c e)).2 H.next (out ++ [s]) := hB'.keep (kn.old _ (hB'.lt hk''.wf));have hlo5 := hlo'.kept hk''.wf kn;have hlt5 := hlt''.kept hk''.wf kn;have hlk2 := hB5.look e.1;simp only[↓Sh.dn, sx, Nat.reduceEqDiff, f45, g43, g44, hiae, hce, A1a, hq, decide_true, B7a, A1z, B2a, ge1]
     have hnext : ∀ {td2 : List Nat} {tb2 : Option Nat} {z2 : Value} {F2 : Fr} {H2 : AH}, Same (List.range' 45 20 ++ [7, 10]) F'' F2 → F2.get 7 = some z2 → F2.get 45 = some (.int .i64 ((q + 1 : Nat) : Int)) → Kept H H2 → BMap H2 H.next (out ++ [s]) → LB H2 H.next (some H.next) w' (out ++ [s]) ob2 → LB H2 H.next (some H.next) z2 td2 tb2 → (∀ y, ob2 = some y → tb2 ≠ some y) → (td2 = td' ∨ td2 = td' ++ [e.1] ∧ e.2.1 < 0) → (e.2.1 < 0 → e.1 ∈ out ++ [s] ∨ e.1 ∈ td2) →
         wp Tryz.prog (knows 7) _ _ F2 H2 := fun{td2 tb2 z2 F2 H2} a1 a2 a3 a4 a5 a6 a7 a8 a9 a10 => k2 F2 H2 a1 a3 ⟨a4, z2, a2, td2, tb2, a5, a6, a7, a8, fun t ht => by
           rcases a9 with h1|⟨h1, _⟩
           · rw[h1]at ht;exact htn' t ht
           · rw[h1]at ht
             rcases List.mem_append.1 ht with h2|h2
             · exact htn' t h2
             · rw[List.mem_singleton.1 h2];exact hrt e hrq, by
           rcases a9 with h1|⟨h1, _⟩
           · rw[h1];omega
           · rw[h1, List.length_append, List.length_singleton];omega, fun t ht => by
           rcases a9 with h1|⟨h1, _⟩
           · rw[h1];exact hsub t ht
           · rw[h1];exact List.mem_append_left _ (hsub t ht), fun t ht => by
           rcases a9 with h1|⟨h1, hneg⟩
           · rw[h1]at ht;exact hct' t ht
           · rw[h1]at ht
             rcases List.mem_append.1 ht with h2|h2
             · exact hct' t h2
             · rw[List.mem_singleton.1 h2];exact .step hts ⟨r, hr, e, hrq, rfl, hneg⟩, fun x hx hxn => by
           rw[htake]at hx;rcases List.mem_append.1 hx with h2|h2
           · rcases hed x h2 hxn with h3|h3
             · exact .inl h3
             · right
               rcases a9 with h1|⟨h1, _⟩
               · rw[h1];exact h3
               · rw[h1];exact List.mem_append_left _ h3
           · rw[List.mem_singleton.1 h2]at hxn ⊢;exact a10 hxn⟩
     have hrl' : r.length ≤ 4611686018427387904 := Nat.le_trans hrl (by decide);by_cases hneg : e.2.1<0
     · by_cases hin : e.1 ∈ out ++ [s]
       · simp only[↓Sh.dn, sx, Nat.reduceEqDiff, hneg, decide_true, g5, ge0, hlk2, hin, f45, A2a hq hrl']
         exact hnext (by repeat (first|refine Same.put ?_ rfl|exact Same.rfl' _)) (by simp only[sx, Nat.reduceEqDiff, f7']) (by simp only[sx]) hk3 hB5 hlo5 hlt5 hsep' (.inl rfl) fun _ => .inl hin
       · have hG5 : H.next<(H''.new 4 (A6c e)).2.next := hB5.lt hk3.wf
         obtain⟨a6, cap6, w6, H6, tb6, rfl, e4, e5, hlt6, c6, f6'⟩ := pushNat2 e.1 hk3.next hk3.wf (fun y hy => by rw[←Option.some.inj hy];exact hG5) hlt5 (by rw[List.length_append]at htl;have := Nat.mul_le_mul_right 60000 (Nat.le_of_lt hol);omega);have hk6 : Kept H H6 := hk3.then (Nat.le_refl _) (c6.weak fun y hy => (hlt5.fr y hy).1);have hB6 : BMap H6 H.next (out ++ [s]) := hB5.keep (c6.old _ hG5 fun hy => (hlt5.fr _ hy).2 rfl);have hlo6 : LB H6 H.next (some H.next) w' (out ++ [s]) ob2 := ⟨hlo5.bf.chg hk3.wf c6 fun y hy hy2 => hsep' y hy hy2, hlo5.fr⟩
         have hsep6 : ∀y, ob2 = some y → tb6 ≠ some y := fun y hy hy2 => by
           rcases f6' y hy2 with h1|h1
           · exact hsep' y hy h1
           · have := hlo5.bf.lt hk3.wf y hy;omega
         simp only[↓Sh.dn, sx, Nat.reduceEqDiff, hneg, decide_true, g5, ge0, hlk2, hin, decide_false, f7', e4, e5, f45, A2a hq hrl'];exact hnext (by repeat (first|refine Same.put ?_ rfl|exact Same.rfl' _)) (by simp only[sx, Nat.reduceEqDiff]) (by simp only[sx]) hk6 hB6 hlo6 hlt6 hsep6 (.inr ⟨rfl, hneg⟩) fun _ => .inr (List.mem_append_right _ List.mem_cons_self)
     · simp only[↓Sh.dn, sx, Nat.reduceEqDiff, hneg, decide_false, f45, A2a hq hrl']
       exact hnext (by repeat (first|refine Same.put ?_ rfl|exact Same.rfl' _)) (by simp only[sx, Nat.reduceEqDiff, f7']) (by simp only[sx]) hk3 hB5 hlo5 hlt5 hsep' (.inl rfl) fun h => absurd h hneg
   · rintro F'' H'' hF'' f45 ⟨hk'', zt', f7', td', tb', hB', hlo', hlt'', hsep', htn', htl', hsub, hct', hed⟩
     have g0 := hF'' 0 rfl;have g5 := hF'' 5 rfl;have g6 := hF'' 6 rfl;have g43 := hF'' 43 rfl;have g44 := hF'' 44 rfl;simp only[sx, reduceCtorEq, Nat.reduceEqDiff, f0, f5]at g0 g5 g6 g43 g44;rw[List.take_length]at hed;simp only[↓Sh.dn, sx, Nat.reduceBEq, f45, g44, A1a, Nat.lt_irrefl, decide_false];have hol2 : (out ++ [s]).length = out.length + 1 := by simp
     refine k ((n - (out ++ [s]).length) * 60000 + td'.length) _ _ (by rw [hol2, List.length_append, List.length_singleton]; have : n - out.length = (n - (out.length + 1)) + 1 := by omega
                                                                       rw[this, Nat.add_mul];omega) ⟨by simp only[sx, reduceCtorEq, g0], by simp only[sx, Nat.reduceEqDiff, g5], hk'', w', by simp only[sx, Nat.reduceEqDiff, g6], zt', by simp only[sx, Nat.reduceEqDiff, f7'], out ++ [s], td', ob2, tb', rfl, hB', hlo', hlt'', hsep', ?_, fun t ht => ?_, htn', ?_, fun t ht => ?_, fun t ht => ?_, hct', fun x hx t ht => ?_⟩
     · rw[List.nodup_append]
       refine⟨hnd, by simp, fun a ha b hb => ?_⟩;rw[List.mem_singleton]at hb;rintro rfl;exact hs (hb ▸ ha)
     · rcases List.mem_append.1 ht with h1|h1
       · exact hon t h1
       · rw[List.mem_singleton.1 h1];exact hsn
     · rw[hol2, Nat.add_mul];rw[List.length_append]at htl;omega
     · rcases hLo t ht with h1|h1
       · exact .inl (List.mem_append_left _ h1)
       · rcases List.mem_append.1 h1 with h2|h2
         · exact .inr (hsub t h2)
         · exact .inl (List.mem_append_right _ h2)
     · rcases List.mem_append.1 ht with h1|h1
       · exact hco t h1
       · rw[List.mem_singleton.1 h1];exact hts
     · rcases List.mem_append.1 hx with h1|h1
       · rcases hcl x h1 t ht with h2|h2
         · exact .inl (List.mem_append_left _ h2)
         · rcases List.mem_append.1 h2 with h3|h3
           · exact .inr (hsub t h3)
           · exact .inl (List.mem_append_right _ h3)
       · rw[List.mem_singleton.1 h1]at ht
         obtain⟨r', hr2, e, he, he1, he2⟩ := ht;rw[hr]at hr2;rw[←Option.some.inj hr2]at he;rw[←he1];exact hed e he he2
def SetAt(H:AH)(v:Value)(n:Nat)(Q:Nat→Prop):Prop:=∃out:List Nat,Sl H v 1 (out.map natC)∧out.Nodup∧(∀t∈out,t<n)∧∀t,t∈out↔Q t
theorem SetAt.kept{H H':AH}{v:Value}{n:Nat}{Q:Nat→Prop}(h:SetAt H v n Q)(hw:Wf H)(hk:Kept H H'):SetAt H' v n Q:=by
 obtain⟨out,h1,h2⟩:=h;exact⟨out,h1.grow (hk.grow hw),h2⟩
def A5z(E:List (List (Nat×Int×Int×Int)))(S:Nat→Prop)(k:Nat):Nat→Prop:=Clo (A5e E fun k=>k<0) fun t=>∃s,S s∧A5e E (fun x=>x=(k:Int)) s t
theorem C3u{H:AH}{g n:Nat}{E:List (List (Nat×Int×Int×Int))}{ends:List Int}{sv av ev cv u:Value}{vals:List Value}{sigma:List ByteArray}{costs:List Int}{L:List Nat}(h:PG H g n 60000 E ends sv av ev cv vals sigma costs)(hsy:∀(s:Nat) r,E[s]?=some r→∀e∈r,e.2.1<(sigma.length:Int))(hsl:sigma.length≤1000)(hL:Sl H u 1 (L.map natC))(hlt:∀t∈L,t<n)(hll:L.length≤100000)(hw:Wf H):
  Sh.Call Tryz.prog (knows 7) 106 [.pointer (some ⟨g,0,some 0⟩),u] H (fun r H'=>Kept H H'∧∃vs:List Value,vs.length=sigma.length∧∀H'':AH,(∀y,H.next≤y→y<H'.next→H''.objs.get y=H'.objs.get y)→Sl H'' r 1 (vs.map fun x=>[x])∧∀(k:Nat) v,vs[k]?=some v→SetAt H'' v n (A5z E (fun s=>s∈L) k)):=by
 refine A3a rfl Tryz.func106 rfl (Nat.le_of_ble_eq_true rfl) ?_;have hres:Tryz.f106.results.toList=[.tmp 4]:=rfl;have hn2:=h.n2;have hc0:=h.gr.arr.cell 0;have hc1:=h.gr.arr.cell 1;have hlen:=fun H'=>hL.len Tryz.underlying146 H';simp only[List.length_map]at hlen;have hlenS:∀H',A4a Tryz.prog .len [22] [sv] H'=some (.int .i64 (sigma.length:Int),H'):=fun H'=>by
  rw[h.gr.sg.len Tryz.underlying22,List.length_map]
 have hmk:=mk_131 (H:=H) (l:=sigma.length) (c:=sigma.length) (Nat.le_refl _) (by omega);have k1:=Kept.new hw 1 (List.replicate sigma.length (.slice none 0 0));have J1:=Jag.make hw 1 (n:=sigma.length) (by omega);simp only[↓Sh.dn,sx,reduceCtorEq,Nat.reduceEqDiff,hc0,hlenS,hmk,hlen];obtain⟨ot,hot⟩:∃ot,(if sigma.length=0 then none else some H.next)=ot:=⟨_,rfl⟩
 rw[hot]at J1;have hlot:∀y,ot=some y→y=H.next:=by
  intro y hy;rw[←hot]at hy;split at hy
  ·cases hy
  ·exact(Option.some.inj hy).symm
 have hin1:∀y,JIn ot (List.replicate sigma.length none) y→H.next≤y:=by
  rintro y (hy|⟨i,hi⟩)
  ·rw[hlot y hy];exact Nat.le_refl _
  ·rw[List.getElem?_replicate]at hi;split at hi<;>cases hi
 have hrows0:(List.replicate sigma.length ([]:List (List Value)))=(List.replicate sigma.length ([]:List Nat)).map fun l=>l.map natC:=by simp
 rw[hrows0]at J1;generalize (Value.slice (some ⟨H.next,0,some 0⟩) sigma.length sigma.length)=lv at J1 ⊢;generalize (H.new 1 (List.replicate sigma.length (.slice none 0 0))).2=H1 at k1 J1 ⊢;refine A5c L.length 20 (List.range' 20 34++[7,9]) (fun i F H'=>Kept H H'∧∃(vals:List Value) (Ls:List (List Nat)) (obs:List (Option Nat)),Jag H' lv ot 1 vals (Ls.map fun l=>l.map natC) obs∧(∀y,JIn ot obs y→H.next≤y)∧Ls.length=sigma.length∧∀(k:Nat) l,Ls[k]?=some l→l.length≤i*60000∧(∀t∈l,t<n)∧∀t,t∈l↔∃s∈L.take i,A5e E (fun x=>x=(k:Int)) s t) (by simp only[sx])
  ⟨k1,_,_,_,J1,hin1,by simp,fun k l hkl=>by
   have hk0:=hkl;rw[List.getElem?_replicate]at hkl;split at hkl
   ·rw[←Option.some.inj hkl];simp
   ·cases hkl⟩ ?_ ?_
 ·rintro i F H' hi hF f20 ⟨hk,vals',Ls,obs,hJ,hin,hLl,hLi⟩ k
  have f0:=hF 0 rfl;have f5:=hF 5 rfl;have f18:=hF 18 rfl;have f19:=hF 19 rfl;simp only[sx,reduceCtorEq,Nat.reduceEqDiff]at f0 f5 f18 f19;obtain⟨p,hia,hc⟩:=A13 Tryz.underlying146 A2c (hL.grow (hk.grow hw)) hi;have hsn:L[i]<n:=hlt _ (List.getElem_mem hi);have htake:L.take (i+1)=L.take i++[L[i]]:=by rw[List.take_add_one,List.getElem?_eq_getElem hi];rfl
  generalize L[i]=s at hc htake hsn;obtain⟨r,hr⟩:∃r,E[s]?=some r:=⟨E[s]'(by rw[h.le];exact hsn),List.getElem?_eq_getElem _⟩
  obtain⟨hrl,hrt⟩:=h.to s r hr;have hrs:=hsy s r hr;obtain⟨pr,wr,hiar,hcr,hsr,hlr⟩:=PG.row h hr;have q1:=A8b (hk.grow hw) hc1;have q2:=A8b (hk.grow hw) hcr;simp only[↓Sh.dn,sx,reduceCtorEq,Nat.reduceEqDiff,f0,f18,f19,f20,A1a,hi,decide_true,hia,hc,q1,hiar,q2,hlr];refine A5c r.length 32 (List.range' 32 21++[9]) (fun q F'' H''=>Kept H H''∧∃(vals:List Value) (Ls:List (List Nat)) (obs:List (Option Nat)),Jag H'' lv ot 1 vals (Ls.map fun l=>l.map natC) obs∧(∀y,JIn ot obs y→H.next≤y)∧Ls.length=sigma.length∧∀(k:Nat) l,Ls[k]?=some l→l.length≤i*60000+q∧(∀t∈l,t<n)∧∀t,t∈l↔(∃s∈L.take i,A5e E (fun x=>x=(k:Int)) s t)∨∃e∈r.take q,e.1=t∧e.2.1=(k:Int)) (by simp only[sx]) ⟨hk,vals',Ls,obs,hJ,hin,hLl,fun k l hkl=>by
   obtain⟨a1,a2,a3⟩:=hLi k l hkl;exact⟨Nat.le_trans a1 (Nat.le_add_right _ _),a2,fun t=>by rw[a3];simp⟩⟩ ?_ ?_
  ·rintro q F'' H'' hq hF'' f32 ⟨hk'',vals2,Ls,obs,hJ,hin,hLl,hLi⟩ k2
   have g5:=hF'' 5 rfl;have g30:=hF'' 30 rfl;have g31:=hF'' 31 rfl;simp only[sx,Nat.reduceEqDiff,f5]at g5 g30 g31;obtain⟨pe,hiae,hce⟩:=PG.edge (hsr.grow (hk''.grow hw)) hq;have hrq:r[q]∈r:=List.getElem_mem hq;have htk:r.take (q+1)=r.take q++[r[q]]:=by rw[List.take_add_one,List.getElem?_eq_getElem hq];rfl
   generalize r[q]=e at hce hrq htk;have kn:=Kept.new hk''.wf 4 (A6c e);have hk3:=hk''.trans kn;have hJ3:=hJ.kept hk''.wf kn;have hrl':r.length≤4611686018427387904:=Nat.le_trans hrl (by decide);have ob0:=(Sh.Obj.new (H:=H'') 4 (A6c e)).arr;have hjn:∀(k:Nat) t,(∃e'∈r.take (q+1),e'.1=t∧e'.2.1=(k:Int))↔(∃e'∈r.take q,e'.1=t∧e'.2.1=(k:Int))∨e.1=t∧e.2.1=(k:Int):=fun k t=>by
    rw[htk];simp only[List.mem_append,List.mem_singleton];constructor
    ·rintro⟨e',h1|h1,h2⟩
     ·exact .inl ⟨e',h1,h2⟩
     ·subst h1;exact .inr h2
    ·rintro(⟨e',h1,h2⟩|h2)
     ·exact⟨e',.inl h1,h2⟩
     ·exact⟨e,.inr rfl,h2⟩
   simp only[↓Sh.dn,sx,Nat.reduceEqDiff,f32,g30,g31,hiae,hce,A1a,hq,decide_true,B7a,A1z,B2a,ge1];by_cases hpos:0≤e.2.1
   ·obtain⟨x,hx⟩:∃x:Nat,e.2.1=(x:Int):=⟨e.2.1.toNat,by omega⟩
    have hxs:x<sigma.length:=by have:=hrs e hrq;omega
    obtain⟨l,hl⟩:∃l,Ls[x]?=some l:=⟨Ls[x]'(by rw[hLl];exact hxs),List.getElem?_eq_getElem _⟩
    obtain⟨b1,b2,b3⟩:=hLi x l hl;obtain⟨a,cap,w',H5,H6,o',p5,e1,e2,e3,e4,e5,e6,e7,e8,e9⟩:=hJ3.pushAt Tryz.underlying131 A4y hk3.wf (i:=x) (r:=l.map natC) (by rw[List.getElem?_map,hl];rfl) (x:=[.int .i64 (e.1:Int)]) rfl;have hbs:=A4p (H:=(H''.new 4 (A6c e)).2) (x:=.int .i64 (e.1:Int)) rfl rfl;rw[List.length_map]at e1 e3;have hll2:l.length≤17179869183:=by omega
    have ha:=B7j (H:=(H''.new 4 (A6c e)).2) (base:=a) (len:=l.length) (cap:=cap) (x:=[.int .i64 (e.1:Int)]) rfl hll2;rw[e1]at ha;have st:A0e Tryz.prog 71 H5 w' (.pointer (some p5))=some H6:=by rw[A0c A4y e8,e4]
    have hne:¬JIn ot obs H''.next:=fun hy=>Nat.lt_irrefl _ (hJ.lt hk''.wf _ hy);have c1':H5.cell ⟨H''.next,1,some 0⟩=some (.int .i64 e.2.1):=(ob0.keep (e7.old _ (Nat.lt_succ_self _) hne)).cell 1;simp only[↓Sh.dn,sx,hpos,decide_true];refine A1u (fl:=[(0,[]),(1,[]),(2,[]),(3,[]),(4,[]),(5,[]),(6,[]),(7,[]),(8,[]),(9,[]),(10,[]),(11,[2]),(12,[]),(13,[])]) (by kernel_rfl) (by kernel_rfl) (by kernel_rfl) ?_;simp only[↓Sh.dn,sx,Nat.reduceEqDiff,wpr,again,A2e,A9q,forall_eq',g5,ge1,ge0,hx,e2,e3,A6a,hbs,ha,c1',st,f32,A2a hq hrl'];refine k2 _ _ (by repeat (first|refine Same.put ?_ rfl|exact Same.rfl' _)) (by simp only[sx]) ⟨hk3.then (Nat.le_refl _) (e6.weak hin),_,Ls.set x (l++[e.1]),_,by rw[List.map_set,List.map_append];exact e5,fun y hy=>?_,by rw[List.length_set];exact hLl,fun k l' hkl=>?_⟩
    ·rcases e9 y hy with h1|h1
     ·exact hin y h1
     ·have:=hk''.next
      have:(H''.new 4 (A6c e)).2.next=H''.next+1:=rfl;omega
    ·rw[List.getElem?_set]at hkl
     by_cases hxk:x=k
     ·subst hxk
      rw[if_pos rfl,if_pos (by rw[hLl];exact hxs)]at hkl;rw[←Option.some.inj hkl];refine⟨by rw[List.length_append];simp;omega,fun t ht=>?_,fun t=>?_⟩
      ·rcases List.mem_append.1 ht with h2|h2
       ·exact b2 t h2
       ·rw[List.mem_singleton.1 h2];exact hrt e hrq
      ·rw[hjn,List.mem_append,List.mem_singleton,b3]
       constructor
       ·rintro((h1|h1)|h1)
        ·exact .inl h1
        ·exact .inr (.inl h1)
        ·exact .inr (.inr ⟨h1.symm,hx⟩)
       ·rintro(h1|h1|⟨h1,_⟩)
        ·exact .inl (.inl h1)
        ·exact .inl (.inr h1)
        ·exact .inr h1.symm
     ·rw[if_neg hxk]at hkl
      obtain⟨d1,d2,d3⟩:=hLi k l' hkl;refine⟨by omega,d2,fun t=>?_⟩;rw[hjn,d3];have:¬(e.1=t∧e.2.1=(k:Int)):=fun h=>hxk (by have:=h.2;omega);simp[this]
   ·simp only[↓Sh.dn,sx,Nat.reduceEqDiff,hpos,decide_false,f32,A2a hq hrl']
    refine k2 _ _ (by repeat (first|refine Same.put ?_ rfl|exact Same.rfl' _)) (by simp only[sx]) ⟨hk3,vals2,Ls,obs,hJ3,hin,hLl,fun k l hkl=>?_⟩;obtain⟨d1,d2,d3⟩:=hLi k l hkl;refine⟨by omega,d2,fun t=>?_⟩;rw[hjn,d3];have:¬(e.1=t∧e.2.1=(k:Int)):=fun h=>hpos (by have:=h.2;omega);simp[this]
  ·rintro F'' H'' hF'' f32 ⟨hk'',vals2,Ls,obs,hJ,hin,hLl,hLi⟩
   have g20:=hF'' 20 rfl;have g31:=hF'' 31 rfl;simp only[sx,Nat.reduceEqDiff,f20]at g20 g31;rw[List.take_length]at hLi;simp only[↓Sh.dn,sx,Nat.reduceBEq,Nat.reduceEqDiff,f32,g20,g31,A1a,Nat.lt_irrefl,decide_false,A2a hi (by omega)];refine k _ _ ?_ (by simp only[sx]) ⟨hk'',vals2,Ls,obs,hJ,hin,hLl,fun k l hkl=>?_⟩
   ·repeat refine Same.put ?_ rfl
    exact Same.trans (by repeat (first|refine Same.put ?_ rfl|exact Same.rfl' _)) (hF''.sub rfl)
   ·obtain⟨d1,d2,d3⟩:=hLi k l hkl
    refine⟨by omega,d2,fun t=>?_⟩;rw[d3,htake];simp only[List.mem_append,List.mem_singleton];constructor
    ·rintro(⟨s',h1,h2⟩|⟨e,h1,h2,h3⟩)
     ·exact⟨s',.inl h1,h2⟩
     ·exact⟨s,.inr rfl,r,hr,e,h1,h2,h3⟩
    ·rintro⟨s',h1|h1,h2⟩
     ·exact .inl ⟨s',h1,h2⟩
     ·subst h1
      obtain⟨r',h3,e,h4,h5,h6⟩:=h2;rw[hr]at h3;rw[←Option.some.inj h3]at h4;exact .inr ⟨e,h4,h5,h6⟩
 ·rintro F H2 hF f20 ⟨hk,vals',Ls,obs,hJ,hin,hLl,hLi⟩
  have f0:=hF 0 rfl;have f5:=hF 5 rfl;have f19:=hF 19 rfl;simp only[sx,reduceCtorEq,Nat.reduceEqDiff]at f0 f5 f19;rw[List.take_length]at hLi;have hlenJ:∀H',A4a Tryz.prog .len [131] [lv] H'=some (.int .i64 (sigma.length:Int),H'):=fun H'=>by
   rw[hJ.top.toSl.len Tryz.underlying131,List.length_map,hJ.len1,List.length_map,hLl]
  have hmk2:=mk_148 (H:=H2) (l:=sigma.length) (c:=sigma.length) (Nat.le_refl _) (by omega);have k3:=Kept.new hk.wf 1 (List.replicate sigma.length (.slice none 0 0));have B3:=Buf.fill hk.wf (.slice none 0 0) (c:=sigma.length) (by omega);simp only[↓Sh.dn,sx,Nat.reduceEqDiff,f5,f19,f20,A1a,Nat.lt_irrefl,decide_false,hlenJ,hmk2];obtain⟨oo,hoo⟩:∃oo,(if sigma.length=0 then none else some H2.next)=oo:=⟨_,rfl⟩
  rw[hoo]at B3;have hloo:∀y,oo=some y→y=H2.next:=by
   intro y hy;rw[←hoo]at hy;split at hy
   ·cases hy
   ·exact(Option.some.inj hy).symm
  have hx3:H2.next<(H2.new 1 (List.replicate sigma.length (.slice none 0 0))).2.next:=Nat.lt_succ_self _;have B3':Buf (H2.new 1 (List.replicate sigma.length (.slice none 0 0))).2 1 (.slice (some ⟨H2.next,0,some 0⟩) sigma.length sigma.length) ((List.replicate sigma.length (Value.slice none 0 0)).map fun x=>[x]) oo:=by simpa using B3
  generalize (Value.slice (some ⟨H2.next,0,some 0⟩) sigma.length sigma.length)=ov at B3' ⊢;generalize (H2.new 1 (List.replicate sigma.length (.slice none 0 0))).2=H3 at k3 B3' hx3 ⊢;refine A5c sigma.length 59 (List.range' 59 19++[11]) (fun i F H'=>Kept H2 H'∧H2.next<H'.next∧∃vs:List Value,Buf H' 1 ov (vs.map fun x=>[x]) oo∧vs.length=sigma.length∧(∀(k:Nat) v,vs[k]?=some v→i≤k→v=.slice none 0 0)∧∀(k:Nat) v,vs[k]?=some v→k<i→∃(out:List Nat) (o:Option Nat),Buf H' 1 v (out.map natC) o∧(∀y,o=some y→H.next≤y∧oo≠some y)∧out.Nodup∧(∀t∈out,t<n)∧∀t,t∈out↔A5z E (fun s=>s∈L) k t) (by simp only[sx])
   ⟨k3,hx3,_,B3',by simp,(fun k v hv _=>by
    rw[List.getElem?_replicate]at hv;split at hv
    ·exact(Option.some.inj hv).symm
    ·cases hv),fun k v _ hk0=>absurd hk0 (Nat.not_lt_zero k)⟩ ?_ ?_
  ·rintro i F' H' hi hF' f59 ⟨hk',hx',vs,hB,hvl,hnil,hset⟩ k
   have g0:=hF' 0 rfl;have g5:=hF' 5 rfl;have g10:=hF' 10 rfl;have g58:=hF' 58 rfl;simp only[sx,reduceCtorEq,Nat.reduceEqDiff,f0,f5]at g0 g5 g10 g58;obtain⟨l,hl⟩:∃l,Ls[i]?=some l:=⟨Ls[i]'(by rw[hLl];exact hi),List.getElem?_eq_getElem _⟩
   obtain⟨b1,b2,b3⟩:=hLi i l hl;have hJ':=hJ.kept hk.wf hk';obtain⟨gj,oj,kj,wj,j1,j2,j3⟩:=hJ'.read.at Tryz.underlying131 A4y (i:=i) (r:=l.map natC) (by rw[List.getElem?_map,hl];rfl);have hlw:=fun H'=>j3.len Tryz.underlying71 H';simp only[List.length_map]at hlw;obtain⟨v,hv⟩:∃v,vs[i]?=some v:=⟨vs[i]'(by rw[hvl];exact hi),List.getElem?_eq_getElem _⟩
   have hv0:=hnil i v hv (Nat.le_refl i);have hQ:(fun s=>s∈l)=fun t=>∃s,s∈L∧A5e E (fun x=>x=(i:Int)) s t:=by
    funext t
    exact propext (b3 t)
   simp only[↓Sh.dn,sx,Nat.reduceEqDiff,f59,g5,g58,A1a,hi,decide_true,j1,j2,hlw];by_cases hle:l=[]
   ·have hz:decide ((0:Int)<((l.length:Nat):Int))=false:=by rw[hle];rfl
    simp only[↓Sh.dn,sx,Nat.reduceEqDiff,hz,f59,A2a hi (by omega)];refine k _ _ (by repeat (first|refine Same.put ?_ rfl|exact Same.rfl' _)) (by simp only[sx]) ⟨hk',hx',vs,hB,hvl,fun k v hv hik=>hnil k v hv (by omega),fun k w hv' hik=>?_⟩;by_cases hki:k=i
    ·subst hki
     rw[hv]at hv';rw[←Option.some.inj hv',hv0];refine⟨[],none,.void none,fun y hy=>(by cases hy),List.nodup_nil,fun t ht=>(by cases ht),fun t=>?_⟩;unfold A5z;rw[←hQ,hle];constructor
     ·intro ht;cases ht
     ·intro ht;exact absurd (ht.of (Q:=fun _=>False) (fun s hs=>by cases hs) fun _ _ h _=>h) id
    ·exact hset k w hv' (by omega)
   ·have hz : decide ((0 : Int) < ((l.length : Nat) : Int)) = true := by
      have := List.length_pos_iff.2 hle;simp;omega
    obtain⟨r6, H6, hd6, hk6, out, o6, hB6, hf6, hnd6, hlt6, hi6⟩ := B9f (h.kept hw (hk.trans hk')) j3 b2 (by omega) hk'.wf;have hB6' := hB.kept hk'.wf hk6;obtain⟨p, e1, e2, e3⟩ := hB6'.spot Tryz.underlying148 B0d hk6.wf (i := i) (u := v) (by rw[List.getElem?_map, hv];rfl);obtain⟨H7, w1, w2, w3, w4⟩ := e3 r6;have st : A0e Tryz.prog 146 H6 r6 (.pointer (some p)) = some H7 := by rw[A0c B0d hB6.isCell];exact w1
    have hsep : ∀y, o6 = some y → H.next ≤ y ∧ oo ≠ some y := fun y hy => by
      have h1 := hf6 y hy;have h2 := hk'.next;have h3 := hk.next;exact⟨by omega, fun hy2 => by have := hloo y hy2;omega⟩
    simp only[↓Sh.dn, sx, reduceCtorEq, Nat.reduceEqDiff, hz, g0, g5, g10, j1, j2];refine⟨_, _, hd6, ?_⟩;simp only[sx, e1, st, f59, A2a hi (by omega)];refine k _ _ (by repeat (first|refine Same.put ?_ rfl|exact Same.rfl' _)) (by simp only[sx]) ⟨(hk'.trans hk6).then (Nat.le_refl _) (w3.weak fun y hy => by rw[hloo y hy];exact Nat.le_refl _), by have := hk6.next;have := w3.next;omega, vs.set i r6, by rw[List.map_set];exact w2, by rw[List.length_set];exact hvl, fun k w hv' hik => ?_, fun k w hv' hik => ?_⟩
    · rw[List.getElem?_set, if_neg (by omega)]at hv'
      exact hnil k w hv' (by omega)
    · rw[List.getElem?_set]at hv'
      by_cases hki : i = k
      · subst hki
        rw[if_pos rfl, if_pos (by rw[hvl];exact hi)]at hv';rw[←Option.some.inj hv'];refine⟨out, o6, hB6.chg hk6.wf w3 fun y hy hy2 => (hsep y hy).2 hy2, hsep, hnd6, hlt6, fun t => ?_⟩;rw[hi6, hQ];rfl
      · rw[if_neg hki]at hv'
        obtain⟨out', o', m1, m2, m3⟩ := hset k w hv' (by omega);exact⟨out', o', (m1.kept hk'.wf hk6).chg hk6.wf w3 fun y hy hy2 => (m2 y hy).2 hy2, m2, m3⟩
  ·rintro F' H' hF' f59 ⟨hk',hx',vs,hB,hvl,hnil,hset⟩
   have g10:=hF' 10 rfl;have g58:=hF' 58 rfl;simp only[sx,Nat.reduceEqDiff]at g10 g58;simp only[↓Sh.dn,sx,Nat.reduceEqDiff,f59,g10,g58,A1a,Nat.lt_irrefl,decide_false,hres];refine⟨hk.trans hk',vs,hvl,fun H'' hy=>⟨(hB.keep fun y h1=>hy y (by rw[hloo y h1];exact hk.next) (hB.lt hk'.wf y h1)).toSl,fun k v hv=>?_⟩⟩;obtain⟨out,o,m1,m0,m2,m3,m4⟩:=hset k v hv (by rw[←hvl];exact(List.getElem?_eq_some_iff.1 hv).1);exact⟨out,(m1.keep fun y h1=>hy y (m0 y h1).1 (m1.lt hk'.wf y h1)).toSl,m2,m3,m4⟩
theorem C2k{H:AH}{g:Nat}{sv av ev cv:Value}{ot:Option Nat}{vals:List Value}{rows:List (List (List Value))}{obs:List (Option Nat)}{s:Nat}{r:List (List Value)}{x0 x1 x2 x3:Int}
  (hg:Arr H g 0 4 [sv,av,ev,cv]) (hj:Jag H av ot 4 vals rows obs) (hgj:¬JIn ot obs g) (hr:rows[s]?=some r) (hl:r.length≤17179869183) (hw:Wf H):
  Sh.Call Tryz.prog (knows 7) 63 [.pointer (some ⟨g,0,some 0⟩),.int .i64 (s:Int),.int .i64 x0,.int .i64 x1,.int .i64 x2,.int .i64 x3] H (fun _ H'=>Chg (JIn ot obs) H H'∧∃vals' obs',Jag H' av ot 4 vals' (rows.set s (r++[[.int .i64 x0,.int .i64 x1,.int .i64 x2,.int .i64 x3]])) obs'∧∀y,JIn ot obs' y→JIn ot obs y∨H.next≤y):=by
 refine A3a rfl Tryz.func63 rfl (Nat.le_of_ble_eq_true rfl) ?_;have hres:Tryz.f63.results.toList=[]:=rfl;have hn:=hg.cell 1;obtain⟨a,cap,w',H2,H3,o',p,e1,e2,e3,e4,e5,e6,e7,e8,e9⟩:=hj.pushAt Tryz.underlying101 A2v hw hr (x:=[.int .i64 x0,.int .i64 x1,.int .i64 x2,.int .i64 x3]) rfl;have hb:=bld_81 (v0:=.int .i64 x0) (v1:=.int .i64 x1) (v2:=.int .i64 x2) (v3:=.int .i64 x3) rfl rfl rfl rfl;have hbs:=B7s (H:=H) (x:=.agg #[.int .i64 x0,.int .i64 x1,.int .i64 x2,.int .i64 x3]) rfl rfl;have ha:=C9k (H:=H) (base:=a) (len:=r.length) (cap:=cap) (x:=[.int .i64 x0,.int .i64 x1,.int .i64 x2,.int .i64 x3]) rfl (by omega);rw[e1]at ha;have hn2:=(hg.keep (e7.old g (hg.lt hw) hgj)).cell 1;have st:A0e Tryz.prog 111 H2 w' (.pointer (some p))=some H3:=by rw[A0c A2v e8,e4]
 have hav:=hj.top.veq;have va:∀xs:Array Value,A6a (.agg xs)=xs.toList:=fun _=>rfl;simp only[va]at hbs;refine A1u (fl:=[(0,[]),(1,[]),(2,[]),(3,[]),(4,[]),(5,[]),(6,[]),(7,[]),(8,[]),(9,[]),(10,[]),(11,[]),(12,[]),(13,[]),(14,[]),(15,[]),(16,[]),(17,[]),(18,[3]),(19,[]),(20,[])]) (by kernel_rfl) (by kernel_rfl) (by kernel_rfl) ?_;simp only[↓Sh.dn,sx,reduceCtorEq,Nat.reduceEqDiff,wpr,again,A2e,forall_eq',hn,e2,e3,hb,hbs,ha,hn2,st,hres,hav];exact⟨e6,_,_,e5,e9⟩
def A9z(n c x:Int):Int:=if n=0∨x<c then x else c
theorem graphEnd{H:AH}{g:Nat}{sv av ev cv:Value}{ends costs:List Int}{oe oc:Option Nat}{s:Nat}{x:Int}
  (hg:Arr H g 0 4 [sv,av,ev,cv]) (he:Buf H 1 ev (ends.map fun n=>[.int .i64 n]) oe) (hc:Buf H 1 cv (costs.map fun n=>[.int .i64 n]) oc)
  (hge:oe≠some g) (hgc:oc≠some g) (hec:∀y,oe=some y→oc≠some y) (hs:s<ends.length) (hs':s<costs.length) (hw:Wf H)
  (h0:0≤ends[s]) (h1:ends[s]≤1048576):
  Sh.Call Tryz.prog (knows 7) 62 [.pointer (some ⟨g,0,some 0⟩),.int .i64 (s:Int),.int .i64 x] H (fun r H'=>Chg (fun y=>oe=some y∨oc=some y) H H'∧H'.next=H.next∧Buf H' 1 ev ((ends.set s (ends[s]+1)).map fun n=>[.int .i64 n]) oe∧Buf H' 1 cv ((costs.set s (A9z ends[s] costs[s] x)).map fun n=>[.int .i64 n]) oc):=by
 refine A3a rfl Tryz.func62 rfl (Nat.le_of_ble_eq_true rfl) ?_;have hres:Tryz.f62.results.toList=[]:=rfl;have hn:=hg.cell 2;have hm:=hg.cell 3;obtain⟨q,o,k,hia,hcs,hcc⟩:=he.toSl.at Tryz.underlying71 A2c (i:=s) (x:=[.int .i64 ends[s]]) (by simp[hs]) .i64;have hy:=hcc 0 _ rfl;obtain⟨q',o',k',hia',hcs',hcc'⟩:=hc.toSl.at Tryz.underlying71 A2c (i:=s) (x:=[.int .i64 costs[s]]) (by simp[hs']) .i64;have hy':=hcc' 0 _ rfl;simp only[Nat.add_zero]at hy hy';have wu:IntKind.wrap .i64 (ends[s]+1)=ends[s]+1:=by rw[wrap64 (by omega) (by omega)]
 have tl : ∀ H1, Chg (fun y => oc = some y) H H1 → H1.next = H.next → ∃ H2, H1.cell ⟨g, 2, some 0⟩ = some ev ∧ H1.cell ⟨q, o, some k⟩ = some (.int .i64 ends[s]) ∧
     H1.write ⟨q, o, some k⟩ [.int .i64 (ends[s] + 1)] = some H2 ∧ Buf H2 1 ev ((ends.set s (ends[s] + 1)).map fun n => [.int .i64 n]) oe ∧ Chg (fun y => oe = some y ∨ oc = some y) H H2 ∧ Chg (fun y => oe = some y) H1 H2 ∧ H2.next = H.next := by
   intro H1 hch hnx;have he1 := he.chg hw hch fun y h1 h2 => hec y h1 h2;obtain⟨q1, o1, k1, hia1, hcs, hcc⟩ := he1.toSl.at Tryz.underlying71 A2c (i := s) (x := [.int .i64 ends[s]]) (by simp[hs]) .i64;have hy := hcc 0 _ rfl;simp only[Nat.add_zero]at hy;obtain⟨pe, H2, ia1, e1, b1, c1, n1⟩ := Buf.set (P := Tryz.prog) he1 hch.wf (i := s) (x := [.int .i64 (ends[s] + 1)]) (by simpa using hs) rfl;have ia := ia1 Tryz.underlying71 A2c (j := .i64);rw[hia1]at ia;injection ia with ia;injection ia with ia;injection ia with ia;subst ia
   rw[hia]at hia1;injection hia1 with ib;injection ib with ib;injection ib with ib;rw[←ib]at hy e1
   have hg1 := hg.keep (hch.old g (hg.lt hw) hgc);exact⟨H2, hg1.cell 2, hy, e1, by simpa only[List.map_set] using b1, (hch.weak fun _ h => Or.inr h).trans (c1.weak fun _ h => Or.inl h), c1, by rw[n1, hnx]⟩
 have st:∀(H:AH) (a:Addr) (n:Int),A0e Tryz.prog 3 H (.int .i64 n) (.pointer (some a))=H.write a [.int .i64 n]:=fun H a n=>A0c A2c rfl;have lastC:∀H1 H2,Buf H1 1 cv ((costs.set s x).map fun n=>[.int .i64 n]) oc→Wf H1→Chg (fun y=>oe=some y) H1 H2→(ends[s]=0∨x<costs[s])→Buf H2 1 cv ((costs.set s (A9z ends[s] costs[s] x)).map fun n=>[.int .i64 n]) oc:=by
  intro H1 H2 hb hw1 hch h;unfold A9z;rw[if_pos h];exact hb.chg hw1 hch fun y h1 h2=>hec y h2 h1
 obtain⟨pc,C1,ia2,f1,d1,g1,m1⟩:=Buf.set (P:=Tryz.prog) hc hw (i:=s) (x:=[.int .i64 x]) (by simpa using hs') rfl;have ia:=ia2 Tryz.underlying71 A2c (j:=.i64);rw[hia']at ia;injection ia with ia;injection ia with ia;injection ia with ia;subst ia
 have d1':Buf C1 1 cv ((costs.set s x).map fun n=>[.int .i64 n]) oc:=by simpa only[List.map_set] using d1
 by_cases hz:ends[s]=0
 ·have d:decide (ends[s]=0)=true:=by simp[hz]
  obtain⟨H2,j2,j3,j4,j5,j6,j7,j8⟩:=tl C1 g1 m1;simp only[↓Sh.dn,sx,reduceCtorEq,Nat.reduceEqDiff,hn,hm,hia,hy,hia',d,st,f1,j2,j3,j4,wu,hres];exact⟨j6,j8,j5,lastC _ _ d1' g1.wf j7 (Or.inl hz)⟩
 ·have d:decide (ends[s]=0)=false:=by simp[hz]
  by_cases hx:x<costs[s]
  ·have d':decide (x<costs[s])=true:=by simp[hx]
   obtain⟨H2,j2,j3,j4,j5,j6,j7,j8⟩:=tl C1 g1 m1;simp only[↓Sh.dn,sx,reduceCtorEq,Nat.reduceEqDiff,hn,hm,hia,hy,hia',hy',d,d',st,f1,j2,j3,j4,wu,hres];exact⟨j6,j8,j5,lastC _ _ d1' g1.wf j7 (Or.inr hx)⟩
  ·have d':decide (x<costs[s])=false:=by simp[hx]
   obtain⟨H2,j2,j3,j4,j5,j6,j7,j8⟩:=tl H (Chg.refl hw) rfl;simp only[↓Sh.dn,sx,reduceCtorEq,Nat.reduceEqDiff,hn,hm,hia,hy,hia',hy',d,d',st,j4,wu,hres];refine⟨j6,j8,j5,?_⟩;have e:costs.set s (A9z ends[s] costs[s] x)=costs:=by
    unfold A9z;rw[if_neg (by simp[hz,hx])];exact List.set_getElem_self hs'
   rw[e];exact hc.chg hw j7 fun y h1 h2=>hec y h2 h1
theorem GrB.arced{H H':AH}{base g:Nat}{sv av ev cv:Value}{os ot oe oc:Option Nat}{vals vals':List Value}{obs obs':List (Option Nat)}{sigma:List ByteArray}{rows rows':List (List (List Value))}{ends costs:List Int}
  (h:GrB H base g sv av ev cv os ot oe oc vals obs sigma rows ends costs) (hw:Wf H) (hc:Chg (JIn ot obs) H H') (hj:Jag H' av ot 4 vals' rows' obs') (hin:∀y,JIn ot obs' y→JIn ot obs y∨H.next≤y):
  Chg (fun y=>base≤y) H H'∧Gr H' base g sigma rows' ends costs:=by
 have hg:=h.arr.lt hw;refine⟨hc.weak h.fj,sv,av,ev,cv,os,ot,oe,oc,vals',obs',?_⟩;exact{ h with
  arr:=h.arr.keep (hc.old g hg h.gj)
  sg:=h.sg.chg hw hc h.sj
  jag:=hj
  en:=h.en.chg hw hc h.je
  co:=h.co.chg hw hc h.jc
  fj:=fun y hy=>by
   rcases hin y hy with h1|h1
   ·exact h.fj y h1
   ·have:=h.fg;omega
  gj:=fun hy=>by
   rcases hin g hy with h1|h1
   ·exact h.gj h1
   ·omega
  sj:=fun y hy hy2=>by
   rcases hin y hy2 with h1|h1
   ·exact h.sj y hy h1
   ·have:=h.sg.lt hw y hy;omega
  je:=fun y hy hy2=>by
   rcases hin y hy2 with h1|h1
   ·exact h.je y hy h1
   ·have:=h.en.lt hw y hy;omega
  jc:=fun y hy hy2=>by
   rcases hin y hy2 with h1|h1
   ·exact h.jc y hy h1
   ·have:=h.co.lt hw y hy;omega }
theorem grArc{H:AH}{base g:Nat}{sigma:List ByteArray}{rows:List (List (List Value))}{ends costs:List Int}{s:Nat}{r:List (List Value)}{x0 x1 x2 x3:Int}
  (h:Gr H base g sigma rows ends costs) (hr:rows[s]?=some r) (hl:r.length≤17179869183) (hw:Wf H):
  Sh.Call Tryz.prog (knows 7) 63 [.pointer (some ⟨g,0,some 0⟩),.int .i64 (s:Int),.int .i64 x0,.int .i64 x1,.int .i64 x2,.int .i64 x3] H (fun _ H'=>Chg (fun y=>base≤y) H H'∧Gr H' base g sigma (rows.set s (r++[[.int .i64 x0,.int .i64 x1,.int .i64 x2,.int .i64 x3]])) ends costs):=by
 obtain⟨sv,av,ev,cv,os,ot,oe,oc,vals,obs,h⟩:=h;refine(C2k h.arr h.jag h.gj hr hl hw).mono ?_;rintro _ H' ⟨hc,vals',obs',hj,hin⟩;exact GrB.arced h hw hc hj hin
theorem grEnd{H:AH}{base g:Nat}{sigma:List ByteArray}{rows:List (List (List Value))}{ends costs:List Int}{s:Nat}{x:Int}
  (h:Gr H base g sigma rows ends costs) (hs:s<ends.length) (hs':s<costs.length) (hw:Wf H) (h0:0≤ends[s]) (h1:ends[s]≤1048576):
  Sh.Call Tryz.prog (knows 7) 62 [.pointer (some ⟨g,0,some 0⟩),.int .i64 (s:Int),.int .i64 x] H (fun _ H'=>Chg (fun y=>base≤y) H H'∧Gr H' base g sigma rows (ends.set s (ends[s]+1)) (costs.set s (A9z ends[s] costs[s] x))):=by
 obtain⟨sv,av,ev,cv,os,ot,oe,oc,vals,obs,h⟩:=h;refine(graphEnd h.arr h.en h.co h.ge h.gc h.ec hs hs' hw h0 h1).mono ?_;rintro _ H' ⟨hc,hn,he,hcc⟩;refine⟨hc.weak fun y hy=>?_,sv,av,ev,cv,os,ot,oe,oc,vals,obs,{ h with arr:=h.arr.keep (hc.old g (h.arr.lt hw) ?_),sg:=h.sg.chg hw hc ?_,jag:=h.jag.chg hw hc ?_,en:=he,co:=hcc }⟩
 ·rcases hy with hy|hy
  ·exact h.fe y hy
  ·exact h.fc y hy
 ·rintro(hy|hy)
  ·exact h.ge hy
  ·exact h.gc hy
 ·rintro y hy (hy2|hy2)
  ·exact h.se y hy hy2
  ·exact h.sc y hy hy2
 ·rintro y hy (hy2|hy2)
  ·exact h.je y hy2 hy
  ·exact h.jc y hy2 hy
theorem B2f{H:AH}{g n:Nat}{E:List (List (Nat×Int×Int×Int))}{ends:List Int}{sv av ev cv:Value}{vals:List Value}{sigma:List ByteArray}{costs:List Int}(h:PG H g n 60000 E ends sv av ev cv vals sigma costs)(hsg:sigma.length≤1048576)(hw:Wf H):
  Sh.Call Tryz.prog (knows 7) 108 [.pointer (some ⟨g,0,some 0⟩)] H (fun r H'=>Kept H H'∧∃g',r=.pointer (some ⟨g',0,some 0⟩)∧∃R base,H.next≤base∧Gr H' base g' sigma (A9d R) (List.replicate n 0) (List.replicate n 0)∧R.length=n∧(∀r∈R,r.length≤6000000000∧∀e∈r,e.1<n)∧∀p t s,A5e R p t s↔A5e E p s t):=by
 refine A3a rfl Tryz.func108 rfl (Nat.le_of_ble_eq_true rfl) ?_;have hres:Tryz.f108.results.toList=[.tmp 2]:=rfl;have hn2:=h.n2;have hc0:=h.gr.arr.cell 0;have hc1:=h.gr.arr.cell 1;have hlenA:∀H',A4a Tryz.prog .len [101] [av] H'=some (.int .i64 (n:Int),H'):=fun H'=>by
  rw[h.gr.jag.sl.len Tryz.underlying101,List.length_map,h.gr.jag.len];unfold A9d;rw[List.length_map,h.le]
 obtain⟨r1,H1,hd1,hk1,g1,rfl,hG1⟩:=A56 (n:=n) h.gr.sg hsg (by omega) hw;simp only[↓Sh.dn,sx];refine A1u (fl:=[(0,[]),(1,[]),(2,[]),(3,[]),(4,[]),(5,[]),(6,[]),(7,[]),(8,[]),(9,[]),(10,[])]) (by kernel_rfl) (by kernel_rfl) (by kernel_rfl) ?_;simp only[↓Sh.dn,sx,reduceCtorEq,Nat.reduceEqDiff,wpr,again,hc0,hc1,hlenA];refine⟨_,_,hd1,?_⟩;have hc1':=A8b (hk1.grow hw) hc1;simp only[sx,hc1',hlenA];have hg0:A9d (List.replicate n ([]:List (Nat×Int×Int×Int)))=List.replicate n []:=by simp[A9d]
 rw[←hg0]at hG1;refine A5c n 23 (List.range' 23 24++[4,5,7]) (fun i F H'=>Kept H H'∧∃R,Gr H' H.next g1 sigma (A9d R) (List.replicate n 0) (List.replicate n 0)∧R.length=n∧(∀r∈R,r.length≤i*60000∧∀e∈r,e.1<n)∧∀p t s,A5e R p t s↔s<i∧A5e E p s t) (by simp only[sx]) ⟨hk1,_,hG1,by simp,fun r hr=>by rw[List.eq_of_mem_replicate hr];simp,fun p t s=>by
  constructor
  ·rintro⟨r,h1,e,h2,_⟩
   rw[List.getElem?_replicate]at h1;split at h1
   ·rw[←Option.some.inj h1]at h2;cases h2
   ·cases h1
  ·rintro⟨h1,_⟩;exact absurd h1 (Nat.not_lt_zero _)⟩ ?_ ?_
 ·rintro i F H' hi hF f23 ⟨hk,R,hG,hRl,hRr,hiff⟩ k
  have f3:=hF 3 rfl;have f21:=hF 21 rfl;have f22:=hF 22 rfl;simp only[sx,Nat.reduceEqDiff]at f3 f21 f22;obtain⟨r,hr⟩:∃r,E[i]?=some r:=⟨E[i]'(by rw[h.le];exact hi),List.getElem?_eq_getElem _⟩
  obtain⟨hrl,hrt⟩:=h.to i r hr;obtain⟨pr,wr,hiar,hcr,hsr,hlr⟩:=PG.row h hr;have q2:=A8b (hk.grow hw) hcr;simp only[↓Sh.dn,sx,Nat.reduceEqDiff,f21,f22,f23,A1a,hi,decide_true,hiar,q2,hlr];refine A5c r.length 30 (List.range' 30 16++[7]) (fun q F'' H''=>Kept H H''∧∃R,Gr H'' H.next g1 sigma (A9d R) (List.replicate n 0) (List.replicate n 0)∧R.length=n∧(∀r∈R,r.length≤i*60000+q∧∀e∈r,e.1<n)∧∀p t s,A5e R p t s↔s<i∧A5e E p s t∨s=i∧∃e∈r.take q,e.1=t∧p e.2.1) (by simp only[sx]) ⟨hk,R,hG,hRl,fun r hr=>⟨Nat.le_trans (hRr r hr).1 (Nat.le_add_right _ _),(hRr r hr).2⟩,fun p t s=>by rw[hiff];simp⟩ ?_ ?_
  ·rintro q F'' H'' hq hF'' f30 ⟨hk'',R,hG,hRl,hRr,hiff⟩ k2
   have g3:=hF'' 3 rfl;have g4:=hF'' 4 rfl;have g28:=hF'' 28 rfl;have g29:=hF'' 29 rfl;simp only[sx,Nat.reduceEqDiff,f3]at g3 g4 g28 g29;obtain⟨pe,hiae,hce⟩:=PG.edge (hsr.grow (hk''.grow hw)) hq;have hrq:r[q]∈r:=List.getElem_mem hq;have htk:r.take (q+1)=r.take q++[r[q]]:=by rw[List.take_add_one,List.getElem?_eq_getElem hq];rfl
   generalize r[q]=e at hce hrq htk;have kn:=Kept.new hk''.wf 4 (A6c e);have hk3:=hk''.trans kn;have hG3:=hG.kept hk''.wf kn;obtain⟨ro,hro2⟩:∃ro,R[e.1]?=some ro:=⟨R[e.1]'(by rw[hRl];exact hrt e hrq),List.getElem?_eq_getElem _⟩
   have hrow:(A9d R)[e.1]?=some (ro.map A6c):=by unfold A9d;rw[List.getElem?_map,hro2];rfl
   obtain⟨hrol,hrot⟩:=hRr ro (List.mem_of_getElem? hro2);obtain⟨rr,H5,hd5,hc5,hG5⟩:=grArc (x0:=(i:Int)) (x1:=e.2.1) (x2:=e.2.2.1) (x3:=e.2.2.2) hG3 hrow (by rw[List.length_map];omega) hk3.wf;simp only[↓Sh.dn,sx,Nat.reduceEqDiff,f30,g3,g4,g28,g29,hiae,hce,A1a,hq,decide_true,B7a,A1z,B2a,ge0,ge1,ge2,ge3];refine⟨_,_,hd5,?_⟩;simp only[A2a hq (Nat.le_trans hrl (by decide))];have hrs:A9d (R.set e.1 (ro++[(i,e.2)]))=(A9d R).set e.1 (ro.map A6c++[[.int .i64 (i:Int),.int .i64 e.2.1,.int .i64 e.2.2.1,.int .i64 e.2.2.2]]):=by unfold A9d;rw[List.map_set];simp[A6c]
   refine k2 _ _ (by repeat (first|refine Same.put ?_ rfl|exact Same.rfl' _)) (by simp only[sx]) ⟨hk3.then (Nat.le_refl _) hc5,R.set e.1 (ro++[(i,e.2)]),by rw[hrs];exact hG5,by rw[List.length_set];exact hRl,fun r' hr'=>?_,fun p t s=>?_⟩
   ·rcases List.mem_or_eq_of_mem_set hr' with h1|h1
    ·have:=hRr r' h1;exact⟨by omega,this.2⟩
    ·rw[h1]
     refine⟨by rw[List.length_append];simp;omega,fun e' he'=>?_⟩;rcases List.mem_append.1 he' with h2|h2
     ·exact hrot e' h2
     ·rw[List.mem_singleton.1 h2];exact hi
   ·rw[C2s hro2,hiff,htk]
    simp only[List.mem_append,List.mem_singleton];constructor
    ·rintro((h1|⟨h1,e',h2,h3⟩)|⟨h1,h2,h3⟩)
     ·exact .inl h1
     ·exact .inr ⟨h1,e',.inl h2,h3⟩
     ·exact .inr ⟨h3,e,.inr rfl,h1.symm,h2⟩
    ·rintro(h1|⟨h1,e',h2|h2,h3,h4⟩)
     ·exact .inl (.inl h1)
     ·exact .inl (.inr ⟨h1,e',h2,h3,h4⟩)
     ·subst h2;exact .inr ⟨h3.symm,h4,h1⟩
  ·rintro F'' H'' hF'' f30 ⟨hk'',R,hG,hRl,hRr,hiff⟩
   have g23:=hF'' 23 rfl;have g29:=hF'' 29 rfl;simp only[sx,Nat.reduceEqDiff,f23]at g23 g29;rw[List.take_length]at hiff;simp only[↓Sh.dn,sx,Nat.reduceBEq,Nat.reduceEqDiff,f30,g23,g29,A1a,Nat.lt_irrefl,decide_false,A2a hi (Nat.le_trans hn2 (by decide))];refine k _ _ ?_ (by simp only[sx]) ⟨hk'',R,hG,hRl,fun r' hr'=>?_,fun p t s=>?_⟩
   ·repeat refine Same.put ?_ rfl
    exact Same.trans (by repeat (first|refine Same.put ?_ rfl|exact Same.rfl' _)) (hF''.sub rfl)
   ·have:=hRr r' hr';exact⟨by omega,this.2⟩
   ·rw[hiff]
    constructor
    ·rintro(⟨h1,h2⟩|⟨h1,e,h2,h3⟩)
     ·exact⟨by omega,h2⟩
     ·exact⟨by omega,r,by rw[h1];exact hr,e,h2,h3⟩
    ·rintro⟨h1,h2⟩
     by_cases hs:s=i
     ·subst hs
      obtain⟨r',h3,e,h4,h5⟩:=h2;rw[hr]at h3;exact .inr ⟨rfl,e,by rw[Option.some.inj h3];exact h4,h5⟩
     ·exact .inl ⟨by omega,h2⟩
 ·rintro F H' hF f23 ⟨hk,R,hG,hRl,hRr,hiff⟩
  have f3:=hF 3 rfl;have f22:=hF 22 rfl;simp only[sx,Nat.reduceEqDiff]at f3 f22;simp only[↓Sh.dn,sx,Nat.reduceEqDiff,f3,f22,f23,A1a,Nat.lt_irrefl,decide_false,hres];refine⟨hk,_,rfl,R,H.next,Nat.le_refl _,hG,hRl,fun r hr=>⟨by have:=(hRr r hr).1;omega,(hRr r hr).2⟩,fun p t s=>?_⟩;rw[hiff];constructor
  ·exact fun h=>h.2
  ·rintro⟨r,h1,h2⟩
   exact⟨by rw[←h.le];exact(List.getElem?_eq_some_iff.1 h1).1,r,h1,h2⟩
def fitP(E:List (List (Nat×Int×Int×Int)))(p:Nat×Int×Int×Int→Bool)(s t:Nat):Prop:=∃r,E[s]?=some r∧∃e∈r,e.1=t∧p e=true
theorem A91{H:AH}{g n rb:Nat}{E:List (List (Nat×Int×Int×Int))}{ends:List Int}{sv av ev cv u:Value}{vals:List Value}{sigma:List ByteArray}{costs:List Int}{L:List Nat}{fid:Nat}{caps:List Value}(p:Nat×Int×Int×Int→Bool)
  (h:PG H g n rb E ends sv av ev cv vals sigma costs) (hrb:rb≤4611686018427387904) (hL:Sl H u 1 (L.map natC)) (hlt:∀t∈L,t<n) (hll:L.length≤100000) (hw:Wf H)
  (hp:∀H',Kept H H'→∀e,Sh.Call Tryz.prog (knows 7) fid (.agg (A6c e).toArray :: caps) H' (fun r H''=>Kept H' H''∧r=.bool (p e))):
  Sh.Call Tryz.prog (knows 7) 110 [.pointer (some ⟨g,0,some 0⟩),u,.func (.func fid) #[] caps.toArray] H (fun r H'=>Kept H H'∧∃B:List Bool,∃o,Buf H' 1 r (B.map A6l) o∧(∀y,o=some y→H.next≤y)∧B.length=n∧∀t:Nat,B[t]?=some true↔Clo (fitP E p) (fun s=>s∈L) t):=by
 refine A3a rfl Tryz.func110 rfl (Nat.le_of_ble_eq_true rfl) ?_;have hres:Tryz.f110.results.toList=[.tmp 6]:=rfl;have hn1:=h.n1;have hn2:=h.n2;have hc1:=h.gr.arr.cell 1;have hlenA:∀H',A4a Tryz.prog .len [101] [av] H'=some (.int .i64 (n:Int),H'):=fun H'=>by
  rw[h.gr.jag.sl.len Tryz.underlying101,List.length_map,h.gr.jag.len];unfold A9d;rw[List.length_map,h.le]
 have hlenL:∀H',A4a Tryz.prog .len [71] [u] H'=some (.int .i64 (L.length:Int),H'):=fun H'=>by
  rw[hL.len Tryz.underlying71,List.length_map]
 have hmk:=D5a (H:=H) (l:=n) (c:=n) (Nat.le_refl _) (by omega);have k1:=Kept.new hw 1 (List.replicate n (.bool false));have f1:=Buf.fill hw (.bool false) (c:=n) (by omega);obtain⟨os,hos⟩:∃os,(if n=0 then none else some H.next)=os:=⟨_,rfl⟩
 rw[hos]at f1;have los:∀y,os=some y→y=H.next:=by
  intro y hy;rw[←hos,if_neg (by omega)]at hy;exact(Option.some.inj hy).symm
 have hM1:MB (H.new 1 (List.replicate n (.bool false))).2 H.next n (.slice (some ⟨H.next,0,some 0⟩) n n) os (List.replicate n false) []:=
  ⟨Marks.empty n,by rw[List.map_replicate];exact f1,fun y hy=>by rw[los y hy];exact Nat.le_refl _⟩
 have hx1:H.next<(H.new 1 (List.replicate n (.bool false))).2.next:=Nat.lt_succ_self _;simp only[↓Sh.dn,sx,reduceCtorEq,Nat.reduceEqDiff,hc1,hlenA,hmk];generalize (Value.slice (some ⟨H.next,0,some 0⟩) n n)=mv at hM1 ⊢;generalize (H.new 1 (List.replicate n (.bool false))).2=H1 at k1 hM1 hx1 ⊢;obtain⟨r1,H2,hd2,hk2,tb0,htb0,hft0⟩:=C2q (l:=L.map natC) (hL.grow (k1.grow hw)) (by rw[List.length_map];omega) k1.wf;refine⟨_,_,hd2,?_⟩;have hM2:=hM1.kept k1.wf hk2;have hl2:LB H2 H.next os r1 L tb0:=⟨htb0,fun y hy=>by
  have:=hft0 y hy;exact⟨by omega,fun e=>by have:=los y e;omega⟩⟩
 simp only[sx,hlenL];refine A5c L.length 24 (List.range' 24 8++[10]) (fun i F H'=>Kept H H'∧∃seen out,MB H' H.next n mv os seen out∧LB H' H.next os r1 L tb0∧∀x,x∈out↔x∈L.take i) (by simp only[sx]) ⟨k1.trans hk2,_,_,hM2,hl2,fun x=>by simp⟩ ?_ ?_
 ·rintro i F H' hi hF f24 ⟨hk,seen,out,hM,hl,hiff⟩ k
  have f7:=hF 7 rfl;have f22:=hF 22 rfl;have f23:=hF 23 rfl;simp only[sx,Nat.reduceEqDiff]at f7 f22 f23;obtain⟨pa,hia,hc⟩:=A13 Tryz.underlying71 A2c (hL.grow (hk.grow hw)) hi;have htn:L[i]<n:=hlt _ (List.getElem_mem hi);have htake:L.take (i+1)=L.take i++[L[i]]:=by rw[List.take_add_one,List.getElem?_eq_getElem hi];rfl
  generalize L[i]=t at hc htn htake;obtain⟨p2,H3,seen',out',e1,e2,e3,e4,e5⟩:=hM.put Tryz.underlying58 A1k hk.wf htn;have st:A0e Tryz.prog 4 H' (.bool true) (.pointer (some p2))=some H3:=by rw[A0c A1k rfl];exact e2
  simp only[↓Sh.dn,sx,Nat.reduceEqDiff,f7,f22,f23,f24,A1a,hi,decide_true,hia,hc,e1,st,A2a hi (Nat.le_trans hll (by decide))];refine k _ _ (by repeat (first|refine Same.put ?_ rfl|exact Same.rfl' _)) (by simp only[sx]) ⟨hk.then (Nat.le_refl _) (e4.weak fun y hy=>hM.fr y hy),seen',out',e3,hl.chg hk.wf e4 fun y hy=>hy,fun x=>?_⟩;rw[e5,hiff,htake,List.mem_append,List.mem_singleton]
 ·rintro F H' hF f24 ⟨hk,seen,out,hM,hl,hiff⟩
  have f0:=hF 0 rfl;have f2:=hF 2 rfl;have f7:=hF 7 rfl;have f8:=hF 8 rfl;have f23:=hF 23 rfl;simp only[sx,reduceCtorEq,Nat.reduceEqDiff]at f0 f2 f7 f8 f23;rw[List.take_length]at hiff;simp only[↓Sh.dn,sx,f23,f24,A1a,Nat.lt_irrefl,decide_false];have hout0:=hM.ms.le;refine A5b (m:=(n-out.length)*2+L.length) (fun m F H'=>F.get 0=some (.pointer (some ⟨g,0,some 0⟩))∧F.get 2=some (.func (.func fid) #[] caps.toArray)∧F.get 7=some mv∧Kept H H'∧∃zt,F.get 8=some zt∧∃seen out todo tb,m=(n-out.length)*2+todo.length∧MB H' H.next n mv os seen out∧LB H' H.next os zt todo tb∧(∀t∈todo,t∈out)∧todo.length≤L.length+out.length∧(∀t∈L,t∈out)∧(∀t∈out,Clo (fitP E p) (fun s=>s∈L) t)∧∀s∈out,s∈todo∨∀t,fitP E p s t→t∈out)
   ⟨by simp only[sx,reduceCtorEq,f0],by simp only[sx,Nat.reduceEqDiff,f2],by simp only[sx,Nat.reduceEqDiff,f7],hk,r1,by simp only[sx,Nat.reduceEqDiff,f8],seen,out,L,tb0,rfl,hM,hl,fun t ht=>(hiff t).2 ht,by omega,fun t ht=>(hiff t).2 ht,fun t ht=>.base ((hiff t).1 ht),fun s hs=>.inl ((hiff s).1 hs)⟩ ?_
  clear hk hM hl hiff f0 f2 f7 f8 f23 f24 hF hout0;clear seen out;clear F H';rintro m F H' ⟨f0,f2,f7,hk,zt,f8,seen,out,todo,tb,rfl,hM,hlt',hsub,htl,hLo,hco,hcl⟩ k;have hout:=hM.ms.le;have hlen:=hlt'.bf.toSl.len Tryz.underlying71 H';rw[List.length_map]at hlen;rcases List.eq_nil_or_concat todo with h0|⟨td,s,h0⟩
  ·subst h0
   have h00:decide ((0:Int)<((([]:List Nat).length:Nat):Int))=false:=rfl;simp only[↓Sh.dn,sx,Nat.reduceEqDiff,f7,f8,hlen,h00,hres];refine⟨hk,seen,os,hM.bf,hM.fr,hM.ms.len,fun t=>?_⟩;rw[hM.ms.iff];exact Clo.iff hLo hco (fun s hs t ht=>((hcl s hs).resolve_left (by simp)) t ht) t
  ·rw[List.concat_eq_append]at h0
   subst h0;have hpos:decide ((0:Int)<(((td++[s]).length:Nat):Int))=true:=by simp
   have wl:IntKind.wrap .i64 ((((td++[s]).length:Nat):Int)-1)=(td.length:Int):=by
    rw[List.length_append,List.length_singleton]at htl ⊢;rw[wrap64 (by omega) (by omega)];omega
   obtain⟨p1,hia1,hc1'⟩:=A13 Tryz.underlying71 A2c hlt'.bf.toSl (i:=td.length) (by simp);have hgs:(td++[s])[td.length]'(by simp)=s:=by simp
   rw[hgs]at hc1';have hbp:Buf H' 1 zt (td.map natC++[natC s]) tb:=by have:=hlt'.bf;rwa [List.map_append]at this
   obtain⟨zt2,hsl,hb2⟩:=hbp.pop;have hsl2:=hsl (P:=Tryz.prog) (H':=H') Tryz.underlying71 A2c;rw[List.length_map]at hsl2;have hlt2:LB H' H.next os zt2 td tb:=⟨hb2,hlt'.fr⟩
   have hso:s∈out:=hsub s (by simp);have hsn:s<n:=hM.ms.lt hso;have hts:=hco s hso;obtain⟨r,hr⟩:∃r,E[s]?=some r:=⟨E[s]'(by rw[h.le];exact hsn),List.getElem?_eq_getElem _⟩
   obtain⟨hrl,hrt⟩:=h.to s r hr;obtain⟨pr,wr,hiar,hcr,hsr,hlr⟩:=PG.row h hr;have hpg:∀{H'},Kept H H'→H'.cell ⟨g,1,some 0⟩=some av∧H'.cell pr=some wr∧Sl H' wr 4 (r.map A6c):=fun hk=>⟨A8b (hk.grow hw) hc1,A8b (hk.grow hw) hcr,hsr.grow (hk.grow hw)⟩
   obtain⟨q1,q2,q3⟩:=hpg hk;rw[List.length_append,List.length_singleton]at htl;simp only[↓Sh.dn,sx,reduceCtorEq,Nat.reduceEqDiff,f0,f8,hlen,hpos,wl,hia1,hc1',hsl2,q1,hiar,q2,hlr];refine A5c r.length 54 (List.range' 54 25++[8,13]) (fun q F'' H''=>Kept H H''∧∃zt',F''.get 8=some zt'∧∃seen' out' td' tb',MB H'' H.next n mv os seen' out'∧LB H'' H.next os zt' td' tb'∧(∀t∈td',t∈out')∧td'.length+out.length≤td.length+out'.length∧out.length≤out'.length∧(∀t∈out,t∈out')∧(∀t∈td,t∈td')∧(∀t∈out',Clo (fitP E p) (fun s=>s∈L) t)∧(∀x∈out',x∈out∨x∈td')∧∀e∈r.take q,p e=true→e.1∈out') (by simp only[sx])
    ⟨hk,zt2,by simp only[sx,Nat.reduceEqDiff],seen,out,td,tb,hM,hlt2,fun t ht=>hsub t (List.mem_append_left _ ht),Nat.le_refl _,Nat.le_refl _,fun t ht=>ht,fun t ht=>ht,hco,fun x hx=>.inl hx,fun e he=>by simp at he⟩ ?_ ?_
   ·rintro q F'' H'' hq hF'' f54 ⟨hk'',zt',f8',seen',out',td',tb',hM',hl',hsub',hle',hle2,hoo,htt,hco',hnew,hed⟩ k2
    have g2:=hF'' 2 rfl;have g7:=hF'' 7 rfl;have g52:=hF'' 52 rfl;have g53:=hF'' 53 rfl;simp only[sx,Nat.reduceEqDiff,f2,f7]at g2 g7 g52 g53;obtain⟨q1,q2,q3⟩:=hpg hk'';obtain⟨pe,hiae,hce⟩:=PG.edge q3 hq;have hrq:r[q]∈r:=List.getElem_mem hq;have htake:r.take (q+1)=r.take q++[r[q]]:=by rw[List.take_add_one,List.getElem?_eq_getElem hq];rfl
    generalize r[q]=e at hce hrq htake;have kn:=Kept.new hk''.wf 4 (A6c e);have hk3:=hk''.trans kn;obtain⟨rp,H4,hd4,hk4,rfl⟩:=hp _ hk3 e;have hk34:=hk3.trans hk4;have hM4:=(hM'.kept hk''.wf kn).kept hk3.wf hk4;have hl4:=(hl'.kept hk''.wf kn).kept hk3.wf hk4;have ob:=(Sh.Obj.new (H:=H'') 4 (A6c e)).arr.keep (hk4.old _ (Nat.lt_succ_self _));have c0:H4.cell ⟨H''.next,0,some 0⟩=some (.int .i64 (e.1:Int)):=ob.cell 0;have hgall:(H''.new 4 (A6c e)).2.cells ⟨H''.next,0,some 0⟩ 4=some (A6c e):=geAll;have hout':=hM4.ms.le;simp only[↓Sh.dn,sx,Nat.reduceEqDiff,f54,g2,g52,g53,hiae,hce,A1a,hq,decide_true,B7a,A1z,B2a,hgall];have hd4':Does Tryz.prog (knows 7) fid ([]++[.agg (A6c e).toArray]++caps) (H''.new 4 (A6c e)).2 (.bool (p e)) H4:=hd4;refine⟨_,_,by first|exact hd4|exact hd4'|simpa using hd4,?_⟩
    have hnext : ∀ {seen2 : List Bool} {out2 td2 : List Nat} {tb2 : Option Nat} {z2 : Value} {F2 : Fr} {H2 : AH}, Same (List.range' 54 25 ++ [8, 13]) F'' F2 → F2.get 8 = some z2 → F2.get 54 = some (.int .i64 ((q + 1 : Nat) : Int)) → Kept H H2 → MB H2 H.next n mv os seen2 out2 → LB H2 H.next os z2 td2 tb2 → (out2 = out' ∧ td2 = td' ∨ out2 = out' ++ [e.1] ∧ td2 = td' ++ [e.1] ∧ p e = true) → (p e = true → e.1 ∈ out2) →
        wp Tryz.prog (knows 7) _ _ F2 H2 := fun{seen2 out2 td2 tb2 z2 F2 H2} a1 a2 a3 a4 a5 a6 a7 a8 => k2 F2 H2 a1 a3 ⟨a4, z2, a2, seen2, out2, td2, tb2, a5, a6, fun t ht => by
          rcases a7 with⟨h1, h2⟩|⟨h1, h2, _⟩
          · rw[h1];rw[h2]at ht;exact hsub' t ht
          · rw[h1];rw[h2]at ht
            rcases List.mem_append.1 ht with h3|h3
            · exact List.mem_append_left _ (hsub' t h3)
            · exact List.mem_append_right _ h3, by
          rcases a7 with⟨h1, h2⟩|⟨h1, h2, _⟩
          · rw[h1, h2];exact hle'
          · rw[h1, h2];simp only[List.length_append, List.length_singleton];omega, by
          rcases a7 with⟨h1, h2⟩|⟨h1, h2, _⟩
          · rw[h1];exact hle2
          · rw[h1];simp only[List.length_append, List.length_singleton];omega, fun t ht => by
          rcases a7 with⟨h1, h2⟩|⟨h1, h2, _⟩
          · rw[h1];exact hoo t ht
          · rw[h1];exact List.mem_append_left _ (hoo t ht), fun t ht => by
          rcases a7 with⟨h1, h2⟩|⟨h1, h2, _⟩
          · rw[h2];exact htt t ht
          · rw[h2];exact List.mem_append_left _ (htt t ht), fun t ht => by
          rcases a7 with⟨h1, h2⟩|⟨h1, h2, h3⟩
          · rw[h1]at ht;exact hco' t ht
          · rw[h1]at ht
            rcases List.mem_append.1 ht with h4|h4
            · exact hco' t h4
            · rw[List.mem_singleton.1 h4];exact .step hts ⟨r, hr, e, hrq, rfl, h3⟩, fun x hx => by
          rcases a7 with⟨h1, h2⟩|⟨h1, h2, h3⟩
          · rw[h1]at hx;rw[h2];exact hnew x hx
          · rw[h1]at hx;rw[h2]
            rcases List.mem_append.1 hx with h4|h4
            · exact(hnew x h4).imp id fun h5 => List.mem_append_left _ h5
            · exact .inr (List.mem_append_right _ h4), fun x hx hxp => by
          rw[htake]at hx;rcases List.mem_append.1 hx with h2|h2
          · have h5 := hed x h2 hxp
            rcases a7 with⟨h1, _⟩|⟨h1, _, _⟩
            · rw[h1];exact h5
            · rw[h1];exact List.mem_append_left _ h5
          · rw[List.mem_singleton.1 h2]at hxp ⊢;exact a8 hxp⟩
    have hrl':r.length≤4611686018427387904:=Nat.le_trans hrl hrb;cases hpe:p e with
    | false=>
     simp only[↓Sh.dn,sx,Nat.reduceEqDiff,f54,A2a hq hrl'];exact hnext (by repeat (first|refine Same.put ?_ rfl|exact Same.rfl' _)) (by simp only[sx,Nat.reduceEqDiff,f8']) (by simp only[sx]) hk34 hM4 hl4 (.inl ⟨rfl,rfl⟩) fun h=>by rw[hpe]at h;cases h
    | true=>
     by_cases hin:e.1∈out'
     ·obtain⟨p5,hia5,hc5⟩:=hM4.see Tryz.underlying58 A1k (hrt e hrq)
      simp only[↓Sh.dn,sx,Nat.reduceEqDiff,c0,g7,hia5,hc5,hin,decide_true,f54,A2a hq hrl'];exact hnext (by repeat (first|refine Same.put ?_ rfl|exact Same.rfl' _)) (by simp only[sx,Nat.reduceEqDiff,f8']) (by simp only[sx]) hk34 hM4 hl4 (.inl ⟨rfl,rfl⟩) fun _=>hin
     ·obtain⟨p3,H5,a,cap,w',H6,ob',e1,e2,e3,rfl,e5,e6,e7,e8,e9,e10,e11⟩:=B2c hk34 hM4 hl4 (hrt e hrq) hin (by omega)
      have c0':H5.cell ⟨H''.next,0,some 0⟩=some (.int .i64 (e.1:Int)):=(ob.keep (e11.old _ (Nat.lt_of_lt_of_le (Nat.lt_succ_self _) hk4.next) fun hy=>Nat.lt_irrefl _ (hM'.lt hk''.wf _ hy))).cell 0;simp only[↓Sh.dn,sx,Nat.reduceEqDiff,c0,c0',g7,e1,e2,e3,f8',e6,e7,f54,A2a hq hrl'];exact hnext (by repeat (first|refine Same.put ?_ rfl|exact Same.rfl' _)) (by simp only[sx,Nat.reduceEqDiff]) (by simp only[sx]) e8 e9 e10 (.inr ⟨rfl,rfl,hpe⟩) fun _=>List.mem_append_right _ List.mem_cons_self
   ·rintro F'' H'' hF'' f54 ⟨hk'',zt',f8',seen',out',td',tb',hM',hl',hsub',hle',hle2,hoo,htt,hco',hnew,hed⟩
    have g0:=hF'' 0 rfl;have g2:=hF'' 2 rfl;have g7:=hF'' 7 rfl;have g53:=hF'' 53 rfl;simp only[sx,reduceCtorEq,Nat.reduceEqDiff,f0,f2,f7]at g0 g2 g7 g53;rw[List.take_length]at hed;have hout':=hM'.ms.le;simp only[↓Sh.dn,sx,Nat.reduceBEq,f54,g53,A1a,Nat.lt_irrefl,decide_false];refine k ((n-out'.length)*2+td'.length) _ _ (by rw[List.length_append,List.length_singleton];omega) ⟨by simp only[sx,reduceCtorEq,g0],by simp only[sx,Nat.reduceEqDiff,g2],by simp only[sx,Nat.reduceEqDiff,g7],hk'',zt',by simp only[sx,Nat.reduceEqDiff,f8'],seen',out',td',tb',rfl,hM',hl',hsub',by omega,fun t ht=>hoo t (hLo t ht),hco',fun x hx=>?_⟩;rcases hnew x hx with h1|h1
    ·rcases hcl x h1 with h2|h2
     ·rcases List.mem_append.1 h2 with h3|h3
      ·exact .inl (htt x h3)
      ·right
       rw[List.mem_singleton.1 h3];rintro t ⟨r',hr2,e,he,he1,he2⟩;rw[hr]at hr2;rw[←Option.some.inj hr2]at he;rw[←he1];exact hed e he he2
     ·exact .inr fun t ht=>hoo t (h2 t ht)
    ·exact .inl h1
theorem B7p{H:AH}{e:Nat×Int×Int×Int}(hw:Wf H):Sh.Call Tryz.prog (knows 7) 119 [.agg (A6c e).toArray] H (fun r H'=>Kept H H'∧r=.bool true):=by
 refine A3a rfl Tryz.func119 rfl (Nat.le_of_ble_eq_true rfl) ?_;have hres:Tryz.f119.results.toList=[.tmp 2]:=rfl;simp only[↓Sh.dn,sx,C5x,hres,Kept.new hw 4 (A6c e)]
theorem B2u{H:AH}{g n:Nat}{E:List (List (Nat×Int×Int×Int))}{ends:List Int}{sv av ev cv:Value}{vals:List Value}{sigma:List ByteArray}{costs:List Int}(h:PG H g n 60000 E ends sv av ev cv vals sigma costs)(hsg:sigma.length≤1048576)(hw:Wf H):
  Sh.Call Tryz.prog (knows 7) 120 [.pointer (some ⟨g,0,some 0⟩)] H (fun r H'=>Kept H H'∧∃B:List Bool,∃o,Buf H' 1 r (B.map A6l) o∧(∀y,o=some y→H.next≤y)∧B.length=n∧∀t:Nat,B[t]?=some true↔Clo (fun s t=>A5e E (fun _=>True) t s) (fun s=>0<ends.getD s 0) t):=by
 refine A3a rfl Tryz.func120 rfl (Nat.le_of_ble_eq_true rfl) ?_;have hres:Tryz.f120.results.toList=[.tmp 2]:=rfl;have hn2:=h.n2;have hc2:=h.gr.arr.cell 2;have hlenE:∀H',A4a Tryz.prog .len [71] [ev] H'=some (.int .i64 (n:Int),H'):=fun H'=>by
  rw[h.gr.en.len Tryz.underlying71,List.length_map,h.ln]
 simp only[↓Sh.dn,sx,reduceCtorEq,hc2,hlenE];refine A5c n 11 (List.range' 11 12++[3,4,5]) (fun i F H'=>Kept H H'∧∃z,F.get 3=some z∧∃l ob,LB H' H.next none z l ob∧l.length≤i∧∀t,t∈l↔t<i∧0<ends.getD t 0) (by simp only[sx]) ⟨Kept.refl hw,_,by simp only[sx,Nat.reduceEqDiff],[],none,⟨.void none,fun y hy=>by cases hy⟩,Nat.le_refl _,fun t=>by simp⟩ ?_ ?_
 ·rintro i F H' hi hF f11 ⟨hk,z,f3,l,ob,hl,hll,hiff⟩ k
  have f9:=hF 9 rfl;have f10:=hF 10 rfl;simp only[sx,Nat.reduceEqDiff]at f9 f10;have hil:i<ends.length:=by rw[h.ln];exact hi
  obtain⟨p,hia,hc⟩:=Sl.elem (s:=1) Tryz.underlying71 A2c (h.gr.en.grow (hk.grow hw)) (i:=i) (u:=.int .i64 ends[i]) (by rw[List.getElem?_map,List.getElem?_eq_getElem hil];rfl);have hg:ends.getD i 0=ends[i]:=by simp[List.getD,List.getElem?_eq_getElem hil]
  simp only[↓Sh.dn,sx,Nat.reduceEqDiff,f9,f10,f11,A1a,hi,decide_true,hia,hc];by_cases hpos:0<ends[i]
  ·obtain⟨a,cap,w',H4,ob2,rfl,e1,e2,e3,e4,e5⟩:=B8l i hk (fun y hy=>by cases hy) hl (by omega)
   simp only[↓Sh.dn,sx,Nat.reduceEqDiff,hpos,decide_true,f3,f11,e1,e2,A2a hi (Nat.le_trans hn2 (by decide))];refine k _ _ (by repeat (first|refine Same.put ?_ rfl|exact Same.rfl' _)) (by simp only[sx]) ⟨e3,w',by simp only[sx,Nat.reduceEqDiff],l++[i],ob2,e4,by simp;omega,fun t=>?_⟩;rw[List.mem_append,List.mem_singleton,hiff];constructor
   ·rintro(⟨h1,h2⟩|h1)
    ·exact⟨by omega,h2⟩
    ·subst h1;exact⟨by omega,by rw[hg];exact hpos⟩
   ·rintro⟨h1,h2⟩
    by_cases ht:t=i
    ·exact .inr ht
    ·exact .inl ⟨by omega,h2⟩
  ·simp only[↓Sh.dn,sx,Nat.reduceEqDiff,hpos,decide_false,f11,A2a hi (Nat.le_trans hn2 (by decide))]
   refine k _ _ (by repeat (first|refine Same.put ?_ rfl|exact Same.rfl' _)) (by simp only[sx]) ⟨hk,z,by simp only[sx,Nat.reduceEqDiff,f3],l,ob,hl,by omega,fun t=>?_⟩;rw[hiff];constructor
   ·rintro⟨h1,h2⟩;exact⟨by omega,h2⟩
   ·rintro⟨h1,h2⟩
    by_cases ht:t=i
    ·subst ht;rw[hg]at h2;exact absurd h2 hpos
    ·exact⟨by omega,h2⟩
 ·rintro F H' hF f11 ⟨hk,z,f3,l,ob,hl,hll,hiff⟩
  have f0:=hF 0 rfl;have f10:=hF 10 rfl;simp only[sx,reduceCtorEq,Nat.reduceEqDiff]at f0 f10;obtain⟨r4,H4,hd4,hk4,g',rfl,R,base,hbase,hG,hRl,hRr,hRg⟩:=B2f (h.kept hw hk) hsg hk.wf;obtain⟨sv',av',ev',cv',vals',hR⟩:=hG.read;have hPG:PG H4 g' n 6000000000 R (List.replicate n 0) sv' av' ev' cv' vals' sigma (List.replicate n 0):=⟨hR,hRl,by simp,h.n1,h.n2,fun s r hr=>hRr r (List.mem_of_getElem? hr)⟩
  obtain⟨r5,H5,hd5,hk5,B,oB,hB,hBo,hBl,hBi⟩:=A91 (caps:=[]) (fid:=119) (fun _=>true) hPG (by decide) (hl.bf.toSl.grow (hk4.grow hk.wf)) (fun t ht=>((hiff t).1 ht).1) (by omega) hk4.wf (fun H' hk e=>B7p hk.wf);simp only[↓Sh.dn,sx,reduceCtorEq,Nat.reduceEqDiff,f0,f3,f10,f11,A1a,Nat.lt_irrefl,decide_false];refine⟨_,_,hd4,?_⟩;refine⟨_,_,hd5,?_⟩;simp only[sx,hres];refine⟨(hk.trans hk4).trans hk5,B,oB,hB,fun y hy=>Nat.le_trans (hk.trans hk4).next (hBo y hy),hBl,fun t=>?_⟩;rw[hBi];have e1:fitP R (fun _=>true)=fun s t=>A5e E (fun _=>True) t s:=by
   funext s t
   apply propext;rw[←hRg];unfold fitP A5e;simp
  have e2:(fun s=>s∈l)=fun s=>0<ends.getD s 0:=by
   funext s
   apply propext;rw[hiff];constructor
   ·exact fun h=>h.2
   ·intro hs
    refine⟨?_,hs⟩;by_cases hn:s<n
    ·exact hn
    ·have:ends.getD s 0=0:=by rw[List.getD_eq_getElem?_getD,List.getElem?_eq_none (by rw[h.ln];omega)];rfl
     rw[this]at hs;omega
  rw[e1,e2]
theorem B31{H:AH}{g n:Nat}{R:List (List (Nat×Int×Int×Int))}{ends:List Int}{sv av ev cv u:Value}{vals:List Value}{sigma:List ByteArray}{costs:List Int}{X:List Bool}{fid:Nat}{caps:List Value}{E:Nat→Nat→Prop}
  (h:PG H g n 6000000000 R ends sv av ev cv vals sigma costs) (hX:Sl H u 1 (X.map A6l)) (hXl:X.length=n) (hw:Wf H)
  (hp:∀H',Kept H H'→∀(u':Value) (L:List Nat),Sl H' u' 1 (L.map natC)→(∀t∈L,t<n)→L.length≤100000→Sh.Call Tryz.prog (knows 7) fid (u' :: caps) H' (fun r H''=>A17 H' H'' r n (Clo E fun s=>s∈L))):
  Sh.Call Tryz.prog (knows 7) 112 [.pointer (some ⟨g,0,some 0⟩),u,.func (.func fid) #[] caps.toArray] H (fun r H'=>A17 H H' r n (Clo E fun t=>∃s,X[s]?=some true∧A5e R (fun k=>0≤k) s t)):=by
 refine A3a rfl Tryz.func112 rfl (Nat.le_of_ble_eq_true rfl) ?_;have hres:Tryz.f112.results.toList=[.tmp 6]:=rfl;have hn1:=h.n1;have hn2:=h.n2;have hc1:=h.gr.arr.cell 1;have hlen:=fun H'=>hX.len Tryz.underlying58 H';simp only[List.length_map,hXl]at hlen;have hmk:=D5a (H:=H) (l:=n) (c:=n) (Nat.le_refl _) (by omega);have k1:=Kept.new hw 1 (List.replicate n (.bool false));have f1:=Buf.fill hw (.bool false) (c:=n) (by omega);rw[if_neg (by omega)]at f1;have hM1:MB (H.new 1 (List.replicate n (.bool false))).2 H.next n (.slice (some ⟨H.next,0,some 0⟩) n n) (some H.next) (List.replicate n false) []:=
  ⟨Marks.empty n,by rw[List.map_replicate];exact f1,fun y hy=>by rw[←Option.some.inj hy];exact Nat.le_refl _⟩
 simp only[↓Sh.dn,sx,Nat.reduceEqDiff,hlen,hmk];generalize (Value.slice (some ⟨H.next,0,some 0⟩) n n)=mv at hM1 ⊢;generalize (H.new 1 (List.replicate n (.bool false))).2=H1 at k1 hM1 ⊢;obtain⟨os,hos⟩:∃os,some H.next=os:=⟨_,rfl⟩
 rw[hos]at hM1;refine A5c n 18 (List.range' 18 41++[7,9,10,12]) (fun i F H'=>Kept H H'∧∃z,F.get 7=some z∧∃seen out ob,MB H' H.next n mv os seen out∧LB H' H.next os z out ob∧∀t,t∈out↔∃s,s<i∧X[s]?=some true∧A5e R (fun k=>0≤k) s t) (by simp only[sx]) ⟨k1,_,by simp only[sx,Nat.reduceEqDiff],_,_,none,hM1,⟨.void none,fun y hy=>by cases hy⟩,fun t=>by simp⟩ ?_ ?_
 ·rintro i F H' hi hF f18 ⟨hk,z,f7,seen,out,ob,hM,hl,hiff⟩ k
  have f0:=hF 0 rfl;have f8:=hF 8 rfl;have f16:=hF 16 rfl;have f17:=hF 17 rfl;simp only[sx,reduceCtorEq,Nat.reduceEqDiff]at f0 f8 f16 f17;obtain⟨b,hbx⟩:∃b,X[i]?=some b:=⟨X[i]'(by rw[hXl];exact hi),List.getElem?_eq_getElem _⟩
  obtain⟨qb,e4,e5⟩:=Sl.elem (s:=1) Tryz.underlying58 A1k (hX.grow (hk.grow hw)) (i:=i) (u:=.bool b) (by rw[List.getElem?_map,hbx];rfl);obtain⟨r,hr⟩:∃r,R[i]?=some r:=⟨R[i]'(by rw[h.le];exact hi),List.getElem?_eq_getElem _⟩
  obtain⟨hrl,hrt⟩:=h.to i r hr;obtain⟨pr,wr,hiar,hcr,hsr,hlr⟩:=PG.row h hr;have q1:=A8b (hk.grow hw) hc1;have q2:=A8b (hk.grow hw) hcr;simp only[↓Sh.dn,sx,Nat.reduceEqDiff,f16,f17,f18,A1a,hi,decide_true,e4,e5];cases b with
  | false=>
   simp only[↓Sh.dn,sx,Nat.reduceBEq,Nat.reduceEqDiff,f18,A2a hi (Nat.le_trans hn2 (by decide))];refine k _ _ (by repeat (first|refine Same.put ?_ rfl|exact Same.rfl' _)) (by simp only[sx]) ⟨hk,z,by simp only[sx,Nat.reduceEqDiff,f7],seen,out,ob,hM,hl,fun t=>?_⟩;rw[hiff];constructor
   ·rintro⟨s,h1,h2⟩;exact⟨s,by omega,h2⟩
   ·rintro⟨s,h1,h2,h3⟩
    by_cases hs:s=i
    ·subst hs;rw[hbx]at h2;cases h2
    ·exact⟨s,by omega,h2,h3⟩
  | true=>
  simp only[↓Sh.dn,sx,reduceCtorEq,Nat.reduceEqDiff,f0,q1,hiar,q2,hlr];refine A5c r.length 33 (List.range' 33 25++[7,12]) (fun q F'' H''=>Kept H H''∧∃z,F''.get 7=some z∧∃seen' out' ob,MB H'' H.next n mv os seen' out'∧LB H'' H.next os z out' ob∧∀t,t∈out'↔t∈out∨∃e∈r.take q,e.1=t∧0≤e.2.1) (by simp only[sx]) ⟨hk,z,by simp only[sx,Nat.reduceEqDiff,f7],seen,out,ob,hM,hl,fun t=>by simp⟩ ?_ ?_
  ·rintro q F'' H'' hq hF'' f33 ⟨hk'',z',f7',seen',out',ob',hM',hl',hiff'⟩ k2
   have g8:=hF'' 8 rfl;have g31:=hF'' 31 rfl;have g32:=hF'' 32 rfl;simp only[sx,Nat.reduceEqDiff,f8]at g8 g31 g32;obtain⟨pe,hiae,hce⟩:=PG.edge (hsr.grow (hk''.grow hw)) hq;have hrq:r[q]∈r:=List.getElem_mem hq;have htk:r.take (q+1)=r.take q++[r[q]]:=by rw[List.take_add_one,List.getElem?_eq_getElem hq];rfl
   generalize r[q]=e at hce hrq htk;have kn:=Kept.new hk''.wf 4 (A6c e);have hk3:=hk''.trans kn;have hM3:=hM'.kept hk''.wf kn;have hl3:=hl'.kept hk''.wf kn;have hout':=hM3.ms.le;have hjn:∀t,(∃e'∈r.take (q+1),e'.1=t∧0≤e'.2.1)↔(∃e'∈r.take q,e'.1=t∧0≤e'.2.1)∨e.1=t∧0≤e.2.1:=fun t=>by
    rw[htk];simp only[List.mem_append,List.mem_singleton];constructor
    ·rintro⟨e',h1|h1,h2⟩
     ·exact .inl ⟨e',h1,h2⟩
     ·subst h1;exact .inr h2
    ·rintro(⟨e',h1,h2⟩|h2)
     ·exact⟨e',.inl h1,h2⟩
     ·exact⟨e,.inr rfl,h2⟩
   have hrl':r.length≤4611686018427387904:=Nat.le_trans hrl (by decide);have ob0:=(Sh.Obj.new (H:=H'') 4 (A6c e)).arr;simp only[↓Sh.dn,sx,Nat.reduceEqDiff,f33,g31,g32,hiae,hce,A1a,hq,decide_true,B7a,A1z,B2a,ge1];by_cases hpos:0≤e.2.1
   ·by_cases hin:e.1∈out'
    ·obtain⟨p5,hia5,hc5⟩:=hM3.see Tryz.underlying58 A1k (hrt e hrq)
     simp only[↓Sh.dn,sx,Nat.reduceEqDiff,hpos,decide_true,g8,ge0,hia5,hc5,hin,f33,A2a hq hrl'];refine k2 _ _ (by repeat (first|refine Same.put ?_ rfl|exact Same.rfl' _)) (by simp only[sx]) ⟨hk3,z',by simp only[sx,Nat.reduceEqDiff,f7'],seen',out',ob',hM3,hl3,fun t=>?_⟩;rw[hjn,hiff'];constructor
     ·rintro(h1|h1)
      ·exact .inl h1
      ·exact .inr (.inl h1)
     ·rintro(h1|h1|⟨h1,_⟩)
      ·exact .inl h1
      ·exact .inr h1
      ·rw[←h1];exact(hiff' _).1 hin
    ·obtain⟨p3,H5,a,cap,w',H6,ob2,e1,e2,e3,rfl,e5,e6,e7,e8,e9,e10,e11⟩:=B2c hk3 hM3 hl3 (hrt e hrq) hin (by omega)
     have c0':H5.cell ⟨H''.next,0,some 0⟩=some (.int .i64 (e.1:Int)):=(ob0.keep (e11.old _ (Nat.lt_succ_self _) fun hy=>Nat.lt_irrefl _ (hM'.lt hk''.wf _ hy))).cell 0;simp only[↓Sh.dn,sx,Nat.reduceEqDiff,hpos,decide_true,g8,ge0,c0',e1,e2,e3,f7',e6,e7,f33,A2a hq hrl'];refine k2 _ _ (by repeat (first|refine Same.put ?_ rfl|exact Same.rfl' _)) (by simp only[sx]) ⟨e8,w',by simp only[sx,Nat.reduceEqDiff],_,_,ob2,e9,e10,fun t=>?_⟩;rw[hjn,List.mem_append,List.mem_singleton,hiff'];constructor
     ·rintro((h1|h1)|h1)
      ·exact .inl h1
      ·exact .inr (.inl h1)
      ·exact .inr (.inr ⟨h1.symm,hpos⟩)
     ·rintro(h1|h1|⟨h1,_⟩)
      ·exact .inl (.inl h1)
      ·exact .inl (.inr h1)
      ·exact .inr h1.symm
   ·simp only[↓Sh.dn,sx,Nat.reduceEqDiff,hpos,decide_false,f33,A2a hq hrl']
    refine k2 _ _ (by repeat (first|refine Same.put ?_ rfl|exact Same.rfl' _)) (by simp only[sx]) ⟨hk3,z',by simp only[sx,Nat.reduceEqDiff,f7'],seen',out',ob',hM3,hl3,fun t=>?_⟩;rw[hjn,hiff'];simp[hpos]
  ·rintro F'' H'' hF'' f33 ⟨hk'',z',f7',seen',out',ob',hM',hl',hiff'⟩
   have g18:=hF'' 18 rfl;have g32:=hF'' 32 rfl;simp only[sx,Nat.reduceEqDiff,f18]at g18 g32;rw[List.take_length]at hiff';simp only[↓Sh.dn,sx,Nat.reduceBEq,Nat.reduceEqDiff,f33,g18,g32,A1a,Nat.lt_irrefl,decide_false,A2a hi (Nat.le_trans hn2 (by decide))];refine k _ _ ?_ (by simp only[sx]) ⟨hk'',z',by simp only[sx,Nat.reduceEqDiff,f7'],seen',out',ob',hM',hl',fun t=>?_⟩
   ·repeat refine Same.put ?_ rfl
    exact Same.trans (by repeat (first|refine Same.put ?_ rfl|exact Same.rfl' _)) (hF''.sub rfl)
   ·rw[hiff',hiff]
    constructor
    ·rintro(⟨s,h1,h2⟩|⟨e,h1,h2⟩)
     ·exact⟨s,by omega,h2⟩
     ·exact⟨i,by omega,hbx,r,hr,e,h1,h2⟩
    ·rintro⟨s,h1,h2,h3⟩
     by_cases hs:s=i
     ·subst hs
      obtain⟨r',h4,e,h5,h6⟩:=h3;rw[hr]at h4;exact .inr ⟨e,by rw[Option.some.inj h4];exact h5,h6⟩
     ·exact .inl ⟨s,by omega,h2,h3⟩
 ·rintro F H' hF f18 ⟨hk,z,f7,seen,out,ob,hM,hl,hiff⟩
  have f2:=hF 2 rfl;have f17:=hF 17 rfl;simp only[sx,Nat.reduceEqDiff]at f2 f17;have hout:=hM.ms.le;obtain⟨r,H3,hd3,hk3,B,o,hB,hBo,hBl,hBi⟩:=hp H' hk z out hl.bf.toSl (fun t ht=>hM.ms.lt ht) (by omega);simp only[↓Sh.dn,sx,Nat.reduceEqDiff,f2,f7,f17,f18,A1a,Nat.lt_irrefl,decide_false];refine⟨_,_,by first|exact hd3|simpa using hd3,?_⟩;simp only[sx,hres];refine⟨hk.trans hk3,B,o,hB,fun y hy=>Nat.le_trans hk.next (hBo y hy),hBl,fun t=>?_⟩;rw[hBi];have:(fun s=>s∈out)=fun t=>∃s,X[s]?=some true∧A5e R (fun k=>0≤k) s t:=by
   funext t
   apply propext;rw[hiff];constructor
   ·rintro⟨s,_,h1⟩;exact⟨s,h1⟩
   ·rintro⟨s,h1,h2⟩;exact⟨s,by rw[←hXl];exact(List.getElem?_eq_some_iff.1 h1).1,h1,h2⟩
  rw[this]
theorem negAlive{H:AH}{e:Nat×Int×Int×Int}(hw:Wf H):Sh.Call Tryz.prog (knows 7) 122 [.agg (A6c e).toArray] H (fun r H'=>Kept H H'∧r=.bool (decide (e.2.1<0))):=by
 refine A3a rfl Tryz.func122 rfl (Nat.le_of_ble_eq_true rfl) ?_;have hres:Tryz.f122.results.toList=[.tmp 2]:=rfl;simp only[↓Sh.dn,sx,Nat.reduceEqDiff,C5x,ge1,hres,Kept.new hw 4 (A6c e)]
theorem C3e{H:AH}{g n bx:Nat}{R:List (List (Nat×Int×Int×Int))}{ends:List Int}{sv av ev cv:Value}{vals:List Value}{sigma:List ByteArray}{costs:List Int}
  (h:PG H g n 6000000000 R ends sv av ev cv vals sigma costs) (hc:H.cell ⟨bx,0,some 0⟩=some (.pointer (some ⟨g,0,some 0⟩))) (hw:Wf H):
  ∀H',Kept H H'→∀(u':Value) (L:List Nat),Sl H' u' 1 (L.map natC)→(∀t∈L,t<n)→L.length≤100000→Sh.Call Tryz.prog (knows 7) 121 (u' :: [.pointer (some ⟨bx,0,some 0⟩)]) H' (fun r H''=>A17 H' H'' r n (Clo (fitP R fun e=>decide (e.2.1<0)) fun s=>s∈L)):=by
 intro H' hk u' L hL hlt hll;refine A3a rfl Tryz.func121 rfl (Nat.le_of_ble_eq_true rfl) ?_;have hres:Tryz.f121.results.toList=[.tmp 3]:=rfl;have hc':=A8b (hk.grow hw) hc;obtain⟨r2,H2,hd2,ho⟩:=A91 (caps:=[]) (fid:=122) (fun e=>decide (e.2.1<0)) (h.kept hw hk) (by decide) hL hlt hll hk.wf (fun H' hk e=>negAlive hk.wf);simp only[↓Sh.dn,sx,reduceCtorEq,Nat.reduceEqDiff,hc'];refine⟨_,_,hd2,?_⟩;simp only[sx,hres];exact ho
theorem C42{H:AH}{e:Nat×Int×Int×Int}(hw:Wf H):Sh.Call Tryz.prog (knows 7) 111 [.agg (A6c e).toArray] H (fun r H'=>Kept H H'∧r=.bool (decide (e.2.1<0))):=by
 refine A3a rfl Tryz.func111 rfl (Nat.le_of_ble_eq_true rfl) ?_;have hres:Tryz.f111.results.toList=[.tmp 2]:=rfl;simp only[↓Sh.dn,sx,Nat.reduceEqDiff,C5x,ge1,hres,Kept.new hw 4 (A6c e)]
theorem B42{H:AH}{g n bx:Nat}{R:List (List (Nat×Int×Int×Int))}{ends:List Int}{sv av ev cv:Value}{vals:List Value}{sigma:List ByteArray}{costs:List Int}
  (h:PG H g n 6000000000 R ends sv av ev cv vals sigma costs) (hc:H.cell ⟨bx,0,some 0⟩=some (.pointer (some ⟨g,0,some 0⟩))) (hw:Wf H):
  ∀H',Kept H H'→∀(u':Value) (L:List Nat),Sl H' u' 1 (L.map natC)→(∀t∈L,t<n)→L.length≤100000→Sh.Call Tryz.prog (knows 7) 109 (u' :: [.pointer (some ⟨bx,0,some 0⟩)]) H' (fun r H''=>A17 H' H'' r n (Clo (fitP R fun e=>decide (e.2.1<0)) fun s=>s∈L)):=by
 intro H' hk u' L hL hlt hll;refine A3a rfl Tryz.func109 rfl (Nat.le_of_ble_eq_true rfl) ?_;have hres:Tryz.f109.results.toList=[.tmp 3]:=rfl;have hc':=A8b (hk.grow hw) hc;obtain⟨r2,H2,hd2,ho⟩:=A91 (caps:=[]) (fid:=111) (fun e=>decide (e.2.1<0)) (h.kept hw hk) (by decide) hL hlt hll hk.wf (fun H' hk e=>C42 hk.wf);simp only[↓Sh.dn,sx,reduceCtorEq,Nat.reduceEqDiff,hc'];refine⟨_,_,hd2,?_⟩;simp only[sx,hres];exact ho
def exP(E:List (List (Nat×Int×Int×Int)))(ends:List Int):Nat→Nat→Prop:=A4m (A5e E fun k=>k<0) (A5e E fun k=>0≤k) (fun s=>0<ends.getD s 0)
theorem C4w{R E:List (List (Nat×Int×Int×Int))}(hg:∀p t s,A5e R p t s↔A5e E p s t):fitP R (fun e=>decide (e.2.1<0))=fun s t=>A5e E (fun k=>k<0) t s:=by
 funext s t
 apply propext;rw[←hg];unfold fitP A5e;simp
theorem C9p{R E:List (List (Nat×Int×Int×Int))}{ends:List Int}(hg:∀p t s,A5e R p t s↔A5e E p s t){m:Nat}{X:List Bool}(hX:∀t:Nat,X[t]?=some true↔exP E ends m t):
  Clo (fitP R fun e=>decide (e.2.1<0)) (fun t=>∃s,X[s]?=some true∧A5e R (fun k=>0≤k) s t)=exP E ends (m+1):=by
 rw[C4w hg];show _=Clo _ _
 congr 1
 funext t
 apply propext;constructor
 ·rintro⟨s,h1,h2⟩;exact⟨s,(hg _ _ _).1 h2,(hX s).1 h1⟩
 ·rintro⟨s,h1,h2⟩;exact⟨s,(hX s).2 h2,(hg _ _ _).2 h1⟩
def AliveL(H:AH)(base n:Nat)(z:Value)(ob:Option Nat)(Q:Nat→Nat→Prop)(k:Nat):Prop:=
 (∀y,ob=some y→base≤y)∧∃vals:List Value,Buf H 1 z (vals.map fun x=>[x]) ob∧vals.length=k∧∀(j:Nat) v,vals[j]?=some v→∃(B:List Bool) (o:Option Nat),Buf H 1 v (B.map A6l) o∧(∀y,o=some y→base≤y∧ob≠some y)∧B.length=n∧∀t:Nat,B[t]?=some true↔Q j t
theorem AliveL.kept{H H':AH}{base n:Nat}{z:Value}{ob:Option Nat}{Q:Nat→Nat→Prop}{k:Nat}(h:AliveL H base n z ob Q k)(hw:Wf H)(hk:Kept H H'):AliveL H' base n z ob Q k:=by
 obtain⟨h0,vals,h1,h2,h3⟩:=h;refine⟨h0,vals,h1.kept hw hk,h2,fun j v hv=>?_⟩;obtain⟨B,o,h4,h5⟩:=h3 j v hv;exact⟨B,o,h4.kept hw hk,h5⟩
theorem AliveL.keepR{H H':AH}{base n:Nat}{z:Value}{ob:Option Nat}{Q:Nat→Nat→Prop}{k:Nat}(h:AliveL H base n z ob Q k)(hw:Wf H)(hk:∀y,base≤y→y<H.next→H'.objs.get y=H.objs.get y):AliveL H' base n z ob Q k:=by
 obtain⟨h0,vals,h1,h2,h3⟩:=h;refine⟨h0,vals,h1.keep fun y hy=>hk y (h0 y hy) (h1.lt hw y hy),h2,fun j v hv=>?_⟩;obtain⟨B,o,h4,h5,h6⟩:=h3 j v hv;exact⟨B,o,h4.keep fun y hy=>hk y (h5 y hy).1 (h4.lt hw y hy),h5,h6⟩
theorem AliveL.low{H:AH}{base base' n:Nat}{z:Value}{ob:Option Nat}{Q:Nat→Nat→Prop}{k:Nat}(h:AliveL H base n z ob Q k)(hb:base'≤base):AliveL H base' n z ob Q k:=by
 obtain⟨h0,vals,h1,h2,h3⟩:=h;refine⟨fun y hy=>Nat.le_trans hb (h0 y hy),vals,h1,h2,fun j v hv=>?_⟩;obtain⟨B,o,h4,h5,h6⟩:=h3 j v hv;exact⟨B,o,h4,fun y hy=>⟨Nat.le_trans hb (h5 y hy).1,(h5 y hy).2⟩,h6⟩
theorem AliveL.push{H:AH}{base n:Nat}{z v:Value}{ob o:Option Nat}{Q:Nat→Nat→Prop}{k:Nat}{B:List Bool}(h:AliveL H base n z ob Q k)(hw:Wf H)(hb:base≤H.next)(hB:Buf H 1 v (B.map A6l) o)(ho:∀y,o=some y→base≤y∧ob≠some y)(hBl:B.length=n)(hQ:∀t:Nat,B[t]?=some true↔Q k t)(hk:k≤17179869183):
  ∃a cap w' H4 ob',z=.slice a k cap∧A5a Tryz.prog 92 1 [(0,v)] H=some (.slice (some ⟨H.next,0,some 0⟩) 1 1,(H.new 1 [v]).2)∧A4a Tryz.prog .append [92,92] [.slice a k cap,.slice (some ⟨H.next,0,some 0⟩) 1 1] (H.new 1 [v]).2=some (w',H4)∧AliveL H4 base n w' ob' Q (k+1)∧Chg (fun y=>ob=some y) H H4:=by
 obtain⟨h0,vals,h1,h2,h3⟩:=h;obtain⟨a,cap,w',H4,ob',e1,e2,e3,e4,e5⟩:=h1.push hw (x:=[v]) rfl;have hv:=hB.isCell;have hbs:=B0k (H:=H) (x:=v) (by rw[A4b hv];rfl) (by rw[A4b hv];simp[hv]);rw[A4b hv]at hbs;rw[List.length_map,h2]at e1 e2;have ha:=C5y (H:=H) (base:=a) (len:=k) (cap:=cap) (x:=[v]) rfl hk;rw[e2]at ha;have hfar:∀y,o=some y→ob'≠some y:=fun y hy hy2=>by
  rcases e5 y hy2 with h4|h4
  ·exact(ho y hy).2 h4
  ·have:=hB.lt hw y hy;omega
 refine⟨a,cap,w',H4,ob',e1,hbs,ha,⟨fun y hy=>?_,vals++[v],by rw[List.map_append];exact e3,by simp[h2],fun j w hj=>?_⟩,e4⟩
 ·rcases e5 y hy with h4|h4
  ·exact h0 y h4
  ·omega
 ·rcases Nat.lt_or_ge j vals.length with hj1|hj1
  ·rw[List.getElem?_append_left hj1]at hj
   obtain⟨B',o',k1,k2,k3⟩:=h3 j w hj;refine⟨B',o',k1.chg hw e4 fun y hy hy2=>(k2 y hy).2 hy2,fun y hy=>⟨(k2 y hy).1,fun hy2=>?_⟩,k3⟩;rcases e5 y hy2 with h4|h4
   ·exact(k2 y hy).2 h4
   ·have:=k1.lt hw y hy;omega
  ·rw[List.getElem?_append_right hj1]at hj
   have hj0:j-vals.length=0:=by
    have:=(List.getElem?_eq_some_iff.1 hj).1;simp at this;omega
   have hjk:j=k:=by omega
   rw[hj0]at hj;have:v=w:=by simpa using hj
   subst this hjk;exact⟨B,o,hB.chg hw e4 fun y hy hy2=>(ho y hy).2 hy2,fun y hy=>⟨(ho y hy).1,hfar y hy⟩,hBl,hQ⟩
theorem AliveL.at{H:AH}{base n:Nat}{z:Value}{ob:Option Nat}{Q:Nat→Nat→Prop}{k j:Nat}(h:AliveL H base n z ob Q k)(hj:j<k):
  ∃p v,A7b Tryz.prog 92 z (.int .i64 (j:Int))=some (.pointer (some p))∧H.cell p=some v∧∃B:List Bool,Sl H v 1 (B.map A6l)∧B.length=n∧∀t:Nat,B[t]?=some true↔Q j t:=by
 obtain⟨h0,vals,h1,h2,h3⟩:=h;have hv:vals[j]?=some (vals[j]'(by rw[h2];exact hj)):=List.getElem?_eq_getElem _;obtain⟨B,o,k1,k2,k3⟩:=h3 j _ hv;obtain⟨p,i1,i2⟩:=Sl.elem (s:=1) Tryz.underlying92 B0e h1.toSl (i:=j) (u:=vals[j]'(by rw[h2];exact hj)) (by rw[List.getElem?_map,hv];rfl);exact⟨p,_,i1,i2,B,k1.toSl,k3⟩
theorem AliveL.len{H:AH}{base n:Nat}{z:Value}{ob:Option Nat}{Q:Nat→Nat→Prop}{k:Nat}(h:AliveL H base n z ob Q k)(H':AH):A4a Tryz.prog .len [92] [z] H'=some (.int .i64 (k:Int),H'):=by
 obtain⟨h0,vals,h1,h2,h3⟩:=h;rw[h1.toSl.len Tryz.underlying92,List.length_map,h2]
theorem C2x{H:AH}{g:Nat}:anew Tryz.prog 67 H (.pointer none)=some (.pointer (some ⟨H.next,0,some 0⟩),(H.new 1 [.pointer none]).2)∧A0e Tryz.prog 67 (H.new 1 [.pointer none]).2 (.pointer (some ⟨g,0,some 0⟩)) (.pointer (some ⟨H.next,0,some 0⟩))=some (H.new 1 [.pointer (some ⟨g,0,some 0⟩)]).2:=
 ⟨A0t C0f rfl,by rw[A0c C0f rfl];exact A3m rfl⟩
theorem B3p{H:AH}{g n most:Nat}{E:List (List (Nat×Int×Int×Int))}{ends:List Int}{sv av ev cv:Value}{vals:List Value}{sigma:List ByteArray}{costs:List Int}(h:PG H g n 60000 E ends sv av ev cv vals sigma costs)(hsg:sigma.length≤1048576)(hm:most≤1000)(hw:Wf H):
  Sh.Call Tryz.prog (knows 7) 101 [.pointer (some ⟨g,0,some 0⟩),.int .i64 (most:Int)] H (fun r H'=>Kept H H'∧∃ob,AliveL H' H.next n r ob (exP E ends) (most+1)):=by
 refine A3a rfl Tryz.func101 rfl (Nat.le_of_ble_eq_true rfl) ?_;have hres:Tryz.f101.results.toList=[.tmp 4]:=rfl;have hn2:=h.n2;have hc2:=h.gr.arr.cell 2;have hlenE:∀H',A4a Tryz.prog .len [71] [ev] H'=some (.int .i64 (n:Int),H'):=fun H'=>by
  rw[h.gr.en.len Tryz.underlying71,List.length_map,h.ln]
 obtain⟨r1,H1,hd1,hk1,g1,rfl,R,base,hbase,hG,hRl,hRr,hRg⟩:=B2f h hsg hw;obtain⟨sv',av',ev',cv',vals',hR⟩:=hG.read;have hPG:PG H1 g1 n 6000000000 R (List.replicate n 0) sv' av' ev' cv' vals' sigma (List.replicate n 0):=⟨hR,hRl,by simp,h.n1,h.n2,fun s r hr=>hRr r (List.mem_of_getElem? hr)⟩
 obtain⟨nw,st⟩:=C2x (H:=H1) (g:=g1);have kn:=Kept.new hk1.wf 1 [.pointer (some ⟨g1,0,some 0⟩)];have obx:=(Sh.Obj.new (H:=H1) 1 [.pointer (some ⟨g1,0,some 0⟩)]).arr;have hbx:(H1.new 1 [.pointer (some ⟨g1,0,some 0⟩)]).2.cell ⟨H1.next,0,some 0⟩=some (.pointer (some ⟨g1,0,some 0⟩)):=obx.cell 0;have hP2:=hPG.kept hk1.wf kn;have hk2:=hk1.trans kn;have hc2':=A8b (hk2.grow hw) hc2;have hn0:=hk1.next;simp only[↓Sh.dn,sx,reduceCtorEq,Nat.reduceEqDiff];refine⟨_,_,hd1,?_⟩;simp only[sx,nw,st,hc2',hlenE];generalize hbxe:H1.next=bx at hbx hn0 ⊢;generalize (H1.new 1 [.pointer (some ⟨g1,0,some 0⟩)]).2=H2 at hP2 hk2 hbx ⊢;have hsp:=C3e hP2 hbx hk2.wf;refine A5c n 19 (List.range' 19 12++[7,8,9]) (fun i F H'=>Kept H2 H'∧∃z,F.get 7=some z∧∃l ob,LB H' H2.next none z l ob∧l.length≤i∧∀t,t∈l↔t<i∧0<ends.getD t 0) (by simp only[sx]) ⟨Kept.refl hk2.wf,_,by simp only[sx,Nat.reduceEqDiff],[],none,⟨.void none,fun y hy=>by cases hy⟩,Nat.le_refl _,fun t=>by simp⟩ ?_ ?_
 ·rintro i F H' hi hF f19 ⟨hk,z,f7,l,ob,hl,hll,hiff⟩ k
  have f17:=hF 17 rfl;have f18:=hF 18 rfl;simp only[sx,Nat.reduceEqDiff]at f17 f18;have hil:i<ends.length:=by rw[h.ln];exact hi
  obtain⟨p,hia,hc⟩:=Sl.elem (s:=1) Tryz.underlying71 A2c (h.gr.en.grow ((hk2.trans hk).grow hw)) (i:=i) (u:=.int .i64 ends[i]) (by rw[List.getElem?_map,List.getElem?_eq_getElem hil];rfl);have hg:ends.getD i 0=ends[i]:=by simp[List.getD,List.getElem?_eq_getElem hil]
  simp only[↓Sh.dn,sx,Nat.reduceEqDiff,f17,f18,f19,A1a,hi,decide_true,hia,hc];by_cases hpos:0<ends[i]
  ·obtain⟨a,cap,w',H4,ob2,rfl,e1,e2,e3,e4,e5⟩:=B8l i hk (fun y hy=>by cases hy) hl (by omega)
   simp only[↓Sh.dn,sx,Nat.reduceEqDiff,hpos,decide_true,f7,f19,e1,e2,A2a hi (Nat.le_trans hn2 (by decide))];refine k _ _ (by repeat (first|refine Same.put ?_ rfl|exact Same.rfl' _)) (by simp only[sx]) ⟨e3,w',by simp only[sx,Nat.reduceEqDiff],l++[i],ob2,e4,by simp;omega,fun t=>?_⟩;rw[List.mem_append,List.mem_singleton,hiff];constructor
   ·rintro(⟨h1,h2⟩|h1)
    ·exact⟨by omega,h2⟩
    ·subst h1;exact⟨by omega,by rw[hg];exact hpos⟩
   ·rintro⟨h1,h2⟩
    by_cases ht:t=i
    ·exact .inr ht
    ·exact .inl ⟨by omega,h2⟩
  ·simp only[↓Sh.dn,sx,Nat.reduceEqDiff,hpos,decide_false,f19,A2a hi (Nat.le_trans hn2 (by decide))]
   refine k _ _ (by repeat (first|refine Same.put ?_ rfl|exact Same.rfl' _)) (by simp only[sx]) ⟨hk,z,by simp only[sx,Nat.reduceEqDiff,f7],l,ob,hl,by omega,fun t=>?_⟩;rw[hiff];constructor
   ·rintro⟨h1,h2⟩;exact⟨by omega,h2⟩
   ·rintro⟨h1,h2⟩
    by_cases ht:t=i
    ·subst ht;rw[hg]at h2;exact absurd h2 hpos
    ·exact⟨by omega,h2⟩
 ·rintro F H3 hF f19 ⟨hk3,z,f7,l,ob,hl,hll,hiff⟩
  have f1:=hF 1 rfl;have f5:=hF 5 rfl;have f6:=hF 6 rfl;have f18:=hF 18 rfl;simp only[sx,Nat.reduceEqDiff]at f1 f5 f6 f18;obtain⟨r4,H4,hd4,hk4,B,o,hB,hBo,hBl,hBi⟩:=hsp H3 hk3 z l hl.bf.toSl (fun t ht=>((hiff t).1 ht).1) (by omega);have hx3:=hk3.next;have hx2:=hk2.next;have hv4:=hB.isCell;have hQ0:∀t:Nat,B[t]?=some true↔exP E ends 0 t:=fun t=>by
   rw[hBi,C4w hRg];have:(fun s=>s∈l)=fun s=>0<ends.getD s 0:=by
    funext s
    apply propext;rw[hiff];constructor
    ·exact fun h=>h.2
    ·intro hs
     refine⟨?_,hs⟩;by_cases hn:s<n
     ·exact hn
     ·have:ends.getD s 0=0:=by rw[List.getD_eq_getElem?_getD,List.getElem?_eq_none (by rw[h.ln];omega)];rfl
      rw[this]at hs;omega
   rw[this];rfl
  have kn4:=Kept.new hk4.wf 1 [r4];have hbs:=B0k (H:=H4) (x:=r4) (by rw[A4b hv4];rfl) (by rw[A4b hv4];simp[hv4]);rw[A4b hv4]at hbs;have hA1:AliveL (H4.new 1 [r4]).2 H2.next n (.slice (some ⟨H4.next,0,some 0⟩) 1 1) (some H4.next) (exP E ends) 1:=by
   have hbuf:Buf (H4.new 1 [r4]).2 1 (.slice (some ⟨H4.next,0,some 0⟩) 1 1) [[r4]] (some H4.next):=Buf.fresh (H:=H4) (s:=1) (xs:=[[r4]]) hk4.wf (by intro x hx;rw[List.mem_singleton.1 hx];rfl) (by simp) 1 rfl;have hx4:=hk4.next;refine⟨fun y hy=>by have:=Option.some.inj hy;omega,[r4],hbuf,rfl,fun j v hj=>?_⟩;have hj0:j=0:=by
    have:=(List.getElem?_eq_some_iff.1 hj).1;simp at this;exact this
   subst hj0;have:r4=v:=by simpa using hj
   subst this;exact⟨B,o,hB.kept hk4.wf kn4,fun y hy=>⟨by have:=hBo y hy;omega,fun hy2=>by have:=hB.lt hk4.wf y hy;have:=Option.some.inj hy2;omega⟩,hBl,hQ0⟩
  have hk14:=hk3.trans (hk4.trans kn4);simp only[↓Sh.dn,sx,Nat.reduceEqDiff,f6,f7,f18,f19,A1a,Nat.lt_irrefl,decide_false];refine⟨_,_,hd4,?_⟩;simp only[sx,hbs,f1];generalize (Value.slice (some ⟨H4.next,0,some 0⟩) 1 1)=z1 at hA1 ⊢;generalize (H4.new 1 [r4]).2=H5 at hA1 hk14 ⊢;refine A5c most 36 (List.range' 36 15++[10]) (fun i F H'=>Kept H2 H'∧∃z,F.get 10=some z∧∃ob,AliveL H' H2.next n z ob (exP E ends) (i+1)) (by simp only[sx]) ⟨hk14,_,by simp only[sx,Nat.reduceEqDiff],_,hA1⟩ ?_ ?_
  ·rintro i F' H' hi hF' f36 ⟨hk,z',f10,ob',hA⟩ k
   have g5:=hF' 5 rfl;have g6:=hF' 6 rfl;have g35:=hF' 35 rfl;simp only[sx,Nat.reduceEqDiff,f5,f6]at g5 g6 g35;have hlA:=hA.len;obtain⟨p,v,i1,i2,X,hX,hXl,hXi⟩:=hA.at (j:=i) (Nat.lt_succ_self i);have wl:IntKind.wrap .i64 (((i+1:Nat):Int)-1)=(i:Int):=by rw[wrap64 (by omega) (by omega)];omega
   have cb:=A8b (hk.grow hk2.wf) hbx;obtain⟨r6,H6,hd6,hk6,B6,o6,hB6,hB6o,hB6l,hB6i⟩:=B31 (caps:=[.pointer (some ⟨bx,0,some 0⟩)]) (fid:=121) (hP2.kept hk2.wf hk) hX hXl hk.wf (fun H'' hk''=>hsp H'' (hk.trans hk''));have hA6:=hA.kept hk.wf hk6;have hx6:=hk.next;have hx7:=hk6.next;obtain⟨a,cap,w',H7,ob7,rfl,e1,e2,hA7,hc7⟩:=hA6.push hk6.wf (by omega) hB6 (fun y hy=>⟨by have:=hB6o y hy;omega,fun hy2=>by
    obtain⟨h0,vals0,h1,h2,h3⟩:=hA;have:=h1.lt hk.wf y hy2;have:=hB6o y hy;omega⟩) hB6l (fun t=>by rw[hB6i,C9p hRg hXi]) (by omega)
   simp only[↓Sh.dn,sx,f36,g35,A1a,hi,decide_true];refine(A9a (by kernel_rfl)).2 ?_;simp only[↓Sh.dn,sx,Nat.reduceEqDiff,f10,g5,g6,hlA,wl,i1,i2,cb];refine⟨_,_,by first|exact hd6|simpa using hd6,?_⟩;have wi:IntKind.wrap .i64 ((i:Int)+1)=((i+1:Nat):Int):=A2a hi (by omega);simp only[sx,f36,e1,e2,wi];have h0:=hA6.1;exact k _ _ (by repeat (first|refine Same.put ?_ rfl|exact Same.rfl' _)) (by simp only[sx]) ⟨(hk.trans hk6).then (Nat.le_refl _) (hc7.weak h0),w',by simp only[sx,Nat.reduceEqDiff],ob7,hA7⟩
  ·rintro F' H' hF' f36 ⟨hk,z',f10,ob',hA⟩
   have g35:=hF' 35 rfl;simp only[sx,Nat.reduceEqDiff]at g35;simp only[↓Sh.dn,sx,Nat.reduceEqDiff,f10,g35,f36,A1a,Nat.lt_irrefl,decide_false,hres];exact⟨hk2.trans hk,ob',hA.low hk2.next⟩
theorem B7y{H:AH}{v:Value}{l:List Nat}{fid:Nat}{caps:List Value}(p:Nat→Bool)(hs:Sl H v 1 (l.map natC))(hl:l.length≤1048576)(hw:Wf H)
  (hp:∀H',Kept H H'→∀x∈l,Sh.Call Tryz.prog (knows 7) fid ((fun n=>Value.int .i64 (n:Int)) x :: caps) H' (fun r H''=>Kept H' H''∧r=.bool (p x))):
  Sh.Call Tryz.prog (knows 7) 123 [v,.func (.func fid) #[] caps.toArray] H (fun r H'=>Kept H H'∧∃k:Int,r=.int .i64 k∧decide (0≤k)=l.any p):=by
 refine A3a rfl Tryz.func123 rfl (Nat.le_of_ble_eq_true rfl) ?_;have hres:Tryz.f123.results.toList=[.tmp 4]:=rfl;have hlen:=hs.len Tryz.underlying146 H;simp only[↓Sh.dn,sx,reduceCtorEq,hlen,List.length_map];refine A5c l.length 8 [5,8,9,10,11,12,13,14,15,16,18] (fun i F H'=>Kept H H'∧(l.take i).any p=false) (by simp only[sx]) ⟨Kept.refl hw,rfl⟩ ?_ ?_
 ·rintro i F H' hlt hF f8 ⟨hk,hall⟩ k
  have hs1:=hs.grow (hk.grow hw);obtain⟨g,o,kk,hia,hc,hcc⟩:=hs1.at Tryz.underlying146 A2c (i:=i) (x:=natC l[i]) (by simp[hlt]) .i64;have hld:=hcc 0 _ rfl;simp only[Nat.add_zero]at hld;have f0:=hF 0 rfl;have f1:=hF 1 rfl;have f7:=hF 7 rfl;simp only[sx,reduceCtorEq,Nat.reduceEqDiff]at f0 f1 f7;obtain⟨r,H2,hd,hk2,rfl⟩:=hp H' hk l[i] (List.getElem_mem hlt);simp only[↓Sh.dn,sx,reduceCtorEq,Nat.reduceEqDiff,f0,f1,f7,f8,A1a,hlt,decide_true,hia,hld,reduceCtorEq];refine⟨_,_,hd,?_⟩;cases hpv:p l[i] with
  | true=>
   simp only[↓Sh.dn,sx,Nat.reduceEqDiff,hres];refine⟨hk.trans hk2,_,rfl,?_⟩;rw[List.any_eq_true.2 ⟨_,List.getElem_mem hlt,hpv⟩];simp
  | false=>
   simp only[↓Sh.dn,sx,Nat.reduceEqDiff,hres,f8,wrap_succ hlt hl];refine k _ _ (by repeat (first|refine Same.put ?_ rfl|exact Same.rfl' _)) (by simp only[sx]) ⟨hk.trans hk2,?_⟩;rw[List.take_add_one,List.getElem?_eq_getElem hlt];simp only[Option.toList,List.any_append,hall,List.any_cons,List.any_nil,hpv,Bool.or_false]
 ·rintro F H' hF f8 ⟨hk,hall⟩
  have f7:=hF 7 rfl;simp only[sx,Nat.reduceEqDiff]at f7;rw[List.take_length]at hall;simp only[↓Sh.dn,sx,f7,f8,A1a,Nat.lt_irrefl,decide_false,hres];exact⟨hk,_,rfl,by rw[hall];rfl⟩
theorem B1h{H:AH}{v:Value}{l:List Nat}{fid:Nat}{caps:List Value}(p:Nat→Bool)(hs:Sl H v 1 (l.map natC))(hl:l.length≤1048576)(hw:Wf H)
  (hp:∀H',Kept H H'→∀x∈l,Sh.Call Tryz.prog (knows 7) fid ((fun n=>Value.int .i64 (n:Int)) x :: caps) H' (fun r H''=>Kept H' H''∧r=.bool (p x))):
  Sh.Call Tryz.prog (knows 7) 103 [v,.func (.func fid) #[] caps.toArray] H (fun r H'=>Kept H H'∧r=.bool (l.any p)):=by
 refine A3a rfl Tryz.func103 rfl (Nat.le_of_ble_eq_true rfl) ?_;have hres:Tryz.f103.results.toList=[.tmp 4]:=rfl;obtain⟨r,H2,hd,hk,k,rfl,hk0⟩:=B7y p hs hl hw hp;simp only[↓Sh.dn,sx,reduceCtorEq,Nat.reduceEqDiff];refine⟨_,_,hd,?_⟩;simp only[sx,hres,hk0];exact hk
theorem C7t{H:AH}{g n:Nat}{E:List (List (Nat×Int×Int×Int))}{ends:List Int}{sv av ev cv:Value}{vals:List Value}{sigma:List ByteArray}{costs:List Int}(h:PG H g n 60000 E ends sv av ev cv vals sigma costs)(hw:Wf H):
  Sh.Call Tryz.prog (knows 7) 107 [.pointer (some ⟨g,0,some 0⟩)] H (fun r H'=>SetOut H H' r n (Clo (A5e E fun k=>k<0) fun s=>s=0)):=by
 refine A3a rfl Tryz.func107 rfl (Nat.le_of_ble_eq_true rfl) ?_;have hres:Tryz.f107.results.toList=[.tmp 2]:=rfl;have hbs:=A4p (H:=H) (x:=.int .i64 0) rfl rfl;have k2:=Kept.new hw 1 [.int .i64 0];have hS:Sl (H.new 1 [.int .i64 0]).2 (.slice (some ⟨H.next,0,some 0⟩) 1 1) 1 (([0]:List Nat).map natC):=
  (Buf.fresh (H:=H) (s:=1) (xs:=[natC 0]) hw (by intro x hx;rw[List.mem_singleton.1 hx];rfl) (by simp) 1 rfl).toSl
 obtain⟨r,H3,hd3,ho⟩:=B9f (h.kept hw k2) hS (fun t ht=>by rw[List.mem_singleton.1 ht];exact h.n1) (by decide) k2.wf;simp only[↓Sh.dn,sx,reduceCtorEq,Nat.reduceEqDiff,hbs,A6a];refine⟨_,_,hd3,?_⟩;simp only[sx,hres];exact(ho.pre k2).iff fun t=>by simp only[List.mem_singleton]
end Go.Proofs.YtjjgodccecehlaaGreat
