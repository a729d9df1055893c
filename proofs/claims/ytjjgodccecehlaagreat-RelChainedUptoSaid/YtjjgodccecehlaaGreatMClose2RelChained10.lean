/- A part of the proof: GraphSpread. -/
import Derived.Test.YtjjgodccecehlaaGreatMClose2RelChained6
import Derived.Test.YtjjgodccecehlaaGreatMClose2RelChained9
set_option linter.unusedVariables false
set_option linter.unusedSimpArgs false
/- (*graph.Graph).spread and the step of Holds: places of all states, as bits. -/
set_option maxHeartbeats 4000000
set_option maxRecDepth 20000
namespace Go.Proofs.YtjjgodccecehlaaGreat
open Go Go.Proofs Go.Proofs.Sh
def A5f(E:List (List (Nat×Int×Int×Int))):Arcs Nat Nat:=fun s a b t=>∃r,E[s]?=some r∧∃e∈r,e.1=t∧labN e.2.1=a∧labN e.2.2.1=b
theorem geBox{H:AH}{e:Nat×Int×Int×Int}:anew Tryz.prog 81 H (.agg (A9a e).toArray)=some (.pointer (some ⟨H.next,0,some 0⟩),(H.new 4 (A9a e)).2):=A2r (vs:=A9a e) A80 rfl rfl
theorem B90{H:AH}{gw m:Nat}{wv:Value}{W y:List Nat}{e:Nat×Int×Int×Int}(hbx:H.cell ⟨gw,0,some 0⟩=some wv)(hW:Sl H wv 1 (W.map u64C))(hpl:A02 W y)(hyl:y.length≤60)(ho:e.2.2.1<(W.length:Int))(hm:m<m64)(hw:Wf H):
  Sh.Call Tryz.prog (knows 7) 73 [.int .u64 (m:Int),.agg (A9a e).toArray,.pointer (some ⟨gw,0,some 0⟩)] H (fun r H'=>Kept H H'∧r=.int .u64 ((stepM W m e.2.2.1:Nat):Int)):=by
 refine A5a rfl Tryz.func73 rfl (Nat.le_of_ble_eq_true rfl) ?_;have hres:Tryz.f73.results.toList=[.tmp 5]:=rfl;have kn:=Kept.new hw 4 (A9a e);have hbx1:=A2b (kn.grow hw) hbx;have hW1:=hW.grow (kn.grow hw);simp only[↓Sh.dn,sx,Nat.reduceEqDiff,geBox,ge2];by_cases h:e.2.2.1<0
 ·have e1:stepM W m e.2.2.1=m:=by unfold stepM;rw[if_pos h]
  simp only[↓Sh.dn,sx,reduceCtorEq,h,decide_true,hres,e1];exact kn
 ·obtain⟨o,hoo⟩:∃o:Nat,e.2.2.1=(o:Int):=⟨e.2.2.1.toNat,by omega⟩
  have hol:o<W.length:=by omega
  have hg:W[o]?=some W[o]:=List.getElem?_eq_getElem hol;obtain⟨p,hia,hc⟩:=Sl.elem (s:=1) Tryz.underlying120 A8i hW1 (i:=o) (u:=.int .u64 (W[o]:Int)) (by rw[List.getElem?_map,hg];rfl);obtain⟨hw1,hw2⟩:=C53 (m:=m) hpl hg hyl;have e1:stepM W m (o:Int)=2*(m &&& W[o]):=by
   unfold stepM;rw[if_neg (by omega)];simp[List.getD,hol]
  rw[hoo]at h ⊢;have hc2:(H.new 4 (A9a e)).2.cell ⟨H.next,2,some 0⟩=some (.int .i64 (o:Int)):=by rw[ge2,hoo]
  simp only[↓Sh.dn,sx,reduceCtorEq,Nat.reduceEqDiff,h,decide_false,hbx1,hc2,hia,hc,and64 hm hw1,shl64 hw2,hres,e1];exact kn
theorem C0r(W:List Nat)(o:Int):stepM W 0 o=0:=by
 unfold stepM;split
 ·rfl
 ·simp
theorem C4d{H0 H:AH}{g n gw:Nat}{E:List (List (Nat×Int×Int×Int))}{ends:List Int}{sv av ev cv z wv:Value}{vals:List Value}{sigma:List ByteArray}{costs:List Int}{now W y:List Nat}{ob:Option Nat}(h:PG H0 g n 60000 E ends sv av ev cv vals sigma costs)(hw0:Wf H0)(hbx:H0.cell ⟨gw,0,some 0⟩=some wv)(hW:Sl H0 wv 1 (W.map u64C))(hpl:A02 W y)(hyl:y.length≤60)
  (hout:∀(s:Nat) r,E[s]?=some r→∀e∈r,e.2.2.1<(W.length:Int)) (hk0:Kept H0 H) (hz:Buf H 1 z (now.map u64C) ob) (hob:∀v,ob=some v→H0.next≤v) (hnl:now.length=n) (hwi:∀m∈now,within y.length m):
  Sh.Call Tryz.prog (knows 7) 74 [.pointer (some ⟨g,0,some 0⟩),z,.func (.func 73) #[] #[.pointer (some ⟨gw,0,some 0⟩)]] H (fun r H'=>Kept H0 H'∧∃now',Buf H' 1 z (now'.map u64C) ob∧now'.length=n∧(∀m∈now',within y.length m)∧∀p,A4h now' p↔Cl (laE (A5f E) y) (A4h now) p):=by
 refine A5a rfl Tryz.func74 rfl (Nat.le_of_ble_eq_true rfl) ?_;have hres:Tryz.f74.results.toList=[]:=rfl;have hn1:=h.n1;have hn2:=h.n2;have hlenz:∀{H':AH} {l:List Nat},Buf H' 1 z (l.map u64C) ob→∀H'',A3a Tryz.prog .len [120] [z] H''=some (.int .i64 (l.length:Int),H''):=fun{H' l} hb H''=>by
  rw[hb.toSl.len Tryz.underlying120,List.length_map]
 have hget:∀{H':AH} {l:List Nat},Buf H' 1 z (l.map u64C) ob→∀{s m:Nat},l[s]?=some m→∃p,A4b Tryz.prog 120 z (.int .i64 (s:Int))=some (.pointer (some p))∧H'.cell p=some (.int .u64 (m:Int)):=fun{H' l} hb {s m} hs=>
  Sl.elem (s:=1) Tryz.underlying120 A8i hb.toSl (i:=s) (u:=.int .u64 (m:Int)) (by rw[List.getElem?_map,hs];rfl)
 have l0:=hlenz hz;rw[hnl]at l0;simp only[↓Sh.dn,sx,Nat.reduceEqDiff,l0];have hoblt:∀v,ob=some v→v<H.next:=hz.lt hk0.wf;refine A0d n 15 (List.range' 15 12++[6,7,8]) (fun i F H'=>Kept H H'∧∃zt td tb,F.get 6=some zt∧LB H' H.next ob zt td tb∧(∀s∈td,s<n)∧td.length≤i∧∀(s m:Nat),s<i→now[s]?=some m→m≠0→s∈td) (by simp only[sx])
  ⟨Kept.refl hk0.wf,_,[],none,by simp only[sx,Nat.reduceEqDiff],⟨.void none,fun y hy=>by cases hy⟩,fun s hs=>(by cases hs),Nat.le_refl _,fun s m hs=>absurd hs (Nat.not_lt_zero s)⟩ ?_ ?_
 ·rintro i F H' hi hF f15 ⟨hk,zt,td,tb,f6,hl,htn,htl,hdone⟩ k
  have f13:=hF 13 rfl;have f14:=hF 14 rfl;simp only[sx,Nat.reduceEqDiff]at f13 f14;have hz':=hz.kept hk0.wf hk;have hgi:now[i]?=some now[i]:=List.getElem?_eq_getElem (by omega);obtain⟨p,hia,hc⟩:=hget hz' hgi;generalize now[i]=m at hgi hc;have hgi2:∀m',now[i]?=some m'→m'=m:=fun m' h'=>by rw[hgi]at h';exact(Option.some.inj h').symm
  by_cases hm:m=0
  ·simp only[↓Sh.dn,sx,Nat.reduceEqDiff,f13,f14,f15,A2a,hi,decide_true,hia,hc,B6j,hm,A1a hi (by omega)]
   refine k _ _ (by repeat (first|refine Same.put ?_ rfl|exact Same.rfl' _)) (by simp only[sx]) ⟨hk,zt,td,tb,by simp only[sx,Nat.reduceEqDiff,f6],hl,htn,by omega,fun s m' hs hg hm'=>?_⟩;by_cases hsi:s=i
   ·subst hsi;exact absurd (by rw[hgi2 m' hg,hm]) hm'
   ·exact hdone s m' (by omega) hg hm'
  ·obtain⟨a,cap,w',H4,tb2,rfl,e2,e3,hl4,c4,f4⟩:=B0y i hk.next hk.wf (fun v hv=>Nat.lt_of_lt_of_le (hoblt v hv) hk.next) hl (by omega)
   simp only[↓Sh.dn,sx,Nat.reduceEqDiff,f6,f13,f14,f15,A2a,hi,decide_true,hia,hc,B6j,hm,decide_false,e2,e3,A1a hi (by omega)];refine k _ _ (by repeat (first|refine Same.put ?_ rfl|exact Same.rfl' _)) (by simp only[sx]) ⟨hk.then (Nat.le_refl _) (c4.weak fun v hv=>(hl.fr v hv).1),w',td++[i],tb2,by simp only[sx,Nat.reduceEqDiff],hl4,fun s hs=>?_,by simp;omega,fun s m' hs hg hm'=>?_⟩
   ·rcases List.mem_append.1 hs with h1|h1
    ·exact htn s h1
    ·rw[List.mem_singleton.1 h1];exact hi
   ·by_cases hsi:s=i
    ·subst hsi;exact List.mem_append_right _ List.mem_cons_self
    ·exact List.mem_append_left _ (hdone s m' (by omega) hg hm')
 ·rintro F H' hF f15 ⟨hk,zt,td,tb,f6,hl,htn,htl,hdone⟩
  have f0:=hF 0 rfl;have f1:=hF 1 rfl;have f2:=hF 2 rfl;have f14:=hF 14 rfl;simp only[sx,reduceCtorEq,Nat.reduceEqDiff]at f0 f1 f2 f14;simp only[↓Sh.dn,sx,f14,f15,A2a,Nat.lt_irrefl,decide_false];have hk0':=hk0.trans hk;have hz':=hz.kept hk0.wf hk;have htot:=A27 now;have zstart:∀(s:Nat),s∉td→∀r,E[s]?=some r→∀e∈r,labN e.2.1=none→∀m m',now[s]?=some m→now[e.1]?=some m'→∀j,(stepM W m e.2.2.1).testBit j=true→m'.testBit j=true:=fun s hs r hr e he _ m m' hm _ j hj=>by
   have hsl:=(List.getElem?_eq_some_iff.1 hm).1;have:m=0:=by
    by_cases h0:m=0
    ·exact h0
    ·exact absurd (hdone s m (by omega) hm h0) hs
   rw[this,C0r]at hj;simp at hj
  obtain⟨base,hbase⟩:∃b,H.next=b:=⟨_,rfl⟩
  rw[hbase]at hl;have hbn:base≤H'.next:=by rw[←hbase];exact hk.next
  have hb0:H0.next≤base:=by rw[←hbase];exact hk0.next
  have hoblt':∀v,ob=some v→v<base:=fun v hv=>by rw[←hbase];exact hoblt v hv
  refine A8d (m := 2 * (64 * n - A1p now) + td.length) (fun m F H' => F.get 0 = some (.pointer (some ⟨g, 0, some 0⟩)) ∧ F.get 1 = some z ∧ F.get 2 = some (.func (.func 73) #[] #[.pointer (some ⟨gw, 0, some 0⟩)]) ∧ Kept H0 H' ∧ base ≤ H'.next ∧ ∃ zt td tb now', F.get 6 = some zt ∧ m = 2 * (64 * n - A1p now') + td.length ∧ LB H' base ob zt td tb ∧ Buf H' 1 z (now'.map u64C) ob ∧ now'.length = n ∧ (∀ m ∈ now', within y.length m) ∧ (∀ s ∈ td, s < n) ∧ td.length ≤ n + A1p now' ∧ (∀ p, A4h now p → A4h now' p) ∧ (∀ p, A4h now' p → Cl (laE (A5f E) y) (A4h now) p) ∧
      ∀(s : Nat), s ∉ td → ∀r, E[s]? = some r → ∀e ∈ r, labN e.2.1 = none → ∀m m', now'[s]? = some m → now'[e.1]? = some m' → ∀j, (stepM W m e.2.2.1).testBit j = true → m'.testBit j = true)
    ⟨by simp only[sx, reduceCtorEq, f0], by simp only[sx, Nat.reduceEqDiff, f1], by simp only[sx, Nat.reduceEqDiff, f2], hk0', hbn, zt, td, tb, now, by simp only[sx, Nat.reduceEqDiff, f6], rfl, hl, hz', hnl, hwi, htn, by omega, fun p hp => hp, fun p hp => .base hp, zstart⟩ ?_
  clear zstart hl hz' hk0' hdone htn htl f0 f1 f2 f6 f14 f15 hF hk hz hk0 hbn hwi htot l0;clear zt td tb F H';rintro m F H' ⟨f0,f1,f2,hk,hbn,zt,td,tb,now',f6,rfl,hl,hz,hnl',hwi,htn,htl,hmono,hcl,hdone⟩ k;have hlen:=hl.bf.toSl.len Tryz.underlying71 H';rw[List.length_map]at hlen;have htot:=A27 now';rcases List.eq_nil_or_concat td with h0|⟨td0,s,h0⟩
  ·subst h0
   have h00:decide ((0:Int)<((([]:List Nat).length:Nat):Int))=false:=rfl;simp only[↓Sh.dn,sx,f6,hlen,h00,hres];refine⟨hk,now',hz,hnl',hwi,fun p=>⟨hcl p,fun hp=>hp.of hmono ?_⟩⟩;rintro⟨s,i⟩ ⟨t,j⟩ ⟨m,h1,h2⟩ ⟨b,⟨r,hr,e,he,h3,h4,h5⟩,h6⟩;simp only at h1 h2 h3 h4 h5 h6 hr;subst h3;have htn':=(h.to s r hr).2 e he;have hg:now'[e.1]?=some now'[e.1]:=List.getElem?_eq_getElem (by omega);have ho:=hout s r hr e he;refine⟨_,hg,hdone s (by simp) r hr e he h4 m _ h1 hg j ((A36 hpl (by omega) j).2 ⟨i,h2,by rw[h5];exact h6⟩)⟩
  ·rw[List.concat_eq_append]at h0
   subst h0;have hpos:decide ((0:Int)<(((td0++[s]).length:Nat):Int))=true:=by simp
   have wl:IntKind.wrap .i64 ((((td0++[s]).length:Nat):Int)-1)=(td0.length:Int):=by
    rw[List.length_append,List.length_singleton]at htl ⊢;rw[wrap64 (by omega) (by omega)];omega
   obtain⟨p1,hia1,hc1⟩:=B2w Tryz.underlying71 A1c hl.bf.toSl (i:=td0.length) (by simp);have hgs:(td0++[s])[td0.length]'(by simp)=s:=by simp
   rw[hgs]at hc1;have hbp:Buf H' 1 zt (td0.map natC++[natC s]) tb:=by have:=hl.bf;rwa [List.map_append]at this
   obtain⟨zt2,hsl,hb2⟩:=hbp.pop;have hsl2:=hsl (P:=Tryz.prog) (H':=H') Tryz.underlying71 A1c;rw[List.length_map]at hsl2;have hl2:LB H' base ob zt2 td0 tb:=⟨hb2,hl.fr⟩
   have hsn:s<n:=htn s (by simp);obtain⟨r,hr⟩:∃r,E[s]?=some r:=⟨E[s]'(by rw[h.le];exact hsn),List.getElem?_eq_getElem _⟩
   obtain⟨hrl,hrt⟩:=h.to s r hr;obtain⟨pr,wr,hiar,hcr,hsr,hlr⟩:=PG.row h hr;have hn:=h.gr.arr.cell 1;have hpg:∀{H'},Kept H0 H'→H'.cell ⟨g,1,some 0⟩=some av∧H'.cell pr=some wr∧Sl H' wr 4 (r.map A9a)∧H'.cell ⟨gw,0,some 0⟩=some wv∧Sl H' wv 1 (W.map u64C):=fun hk=>⟨A2b (hk.grow hw0) hn,A2b (hk.grow hw0) hcr,hsr.grow (hk.grow hw0),A2b (hk.grow hw0) hbx,hW.grow (hk.grow hw0)⟩
   obtain⟨q1,q2,q3,q4,q5⟩:=hpg hk;simp only[↓Sh.dn,sx,reduceCtorEq,Nat.reduceEqDiff,f0,f6,hlen,hpos,wl,hia1,hc1,hsl2,q1,hiar,q2,hlr]
   refine A0d r.length 49 (List.range' 49 38 ++ [6, 11, 12]) (fun q F2 H2 => Kept H0 H2 ∧ base ≤ H2.next ∧ ∃ zt td tb now2, F2.get 6 = some zt ∧ LB H2 base ob zt td tb ∧ Buf H2 1 z (now2.map u64C) ob ∧ now2.length = n ∧ (∀ m ∈ now2, within y.length m) ∧ (∀ s ∈ td, s < n) ∧ 2 * (64 * n - A1p now2) + td.length ≤ 2 * (64 * n - A1p now') + td0.length ∧ td.length ≤ n + A1p now2 ∧ (∀ p, A4h now p → A4h now2 p) ∧ (∀ p, A4h now2 p → Cl (laE (A5f E) y) (A4h now) p) ∧
       (∀(u : Nat), u ∉ td → u ≠ s → ∀r, E[u]? = some r → ∀e ∈ r, labN e.2.1 = none → ∀m m', now2[u]? = some m → now2[e.1]? = some m' → ∀j, (stepM W m e.2.2.1).testBit j = true → m'.testBit j = true) ∧
       (s ∉ td → ∀e ∈ r.take q, labN e.2.1 = none → ∀m m', now2[s]? = some m → now2[e.1]? = some m' → ∀j, (stepM W m e.2.2.1).testBit j = true → m'.testBit j = true)) (by simp only[sx])
     ⟨hk, hbn, zt2, td0, tb, now', by simp only[sx, Nat.reduceEqDiff], hl2, hz, hnl', hwi, fun u hu => htn u (List.mem_append_left _ hu), Nat.le_refl _, by rw[List.length_append]at htl;omega, hmono, hcl, fun u hu hus => hdone u (fun h => by
       rcases List.mem_append.1 h with h1|h1
       · exact hu h1
       · exact hus (List.mem_singleton.1 h1)), fun _ e he => by simp at he⟩ ?_ ?_
   ·clear hdone hmono hcl hwi hz htot htl hl hbp hb2 hl2 hlen htn f0 f6 q1 q2 q3 q4 q5
    rintro q F2 H2 hq hF2 f49 ⟨hk2,hbn2,zt3,td3,tb3,now2,g6,hl3,hz3,hnl3,hwi3,htn3,hmeas,htl3,hmono3,hcl3,hdone3,hself⟩ k2;have g1:=hF2 1 rfl;have g2:=hF2 2 rfl;have g9:=hF2 9 rfl;have g47:=hF2 47 rfl;have g48:=hF2 48 rfl;simp only[sx,Nat.reduceEqDiff,f1,f2]at g1 g2 g9 g47 g48;obtain⟨q1,q2,q3,q4,q5⟩:=hpg hk2;obtain⟨pe,hiae,hce⟩:=PG.edge q3 hq;have hrq:r[q]∈r:=List.getElem_mem hq;have htake:r.take (q+1)=r.take q++[r[q]]:=by rw[List.take_add_one,List.getElem?_eq_getElem hq];rfl
    generalize r[q]=e at hce hrq htake;have kn:=Kept.new hk2.wf 4 (A9a e);have hk3:=hk2.trans kn;have hl4:=hl3.kept hk2.wf kn;have hz4:=hz3.kept hk2.wf kn;have wq:=A1a hq (by omega);have ho:=hout s r hr e hrq;have het:=hrt e hrq;have htot:=A27 now2;by_cases hneg:e.2.1<0
    case neg=>
     have hd:decide ((0:Int)≤e.2.1)=true:=decide_eq_true (by omega);simp only[↓Sh.dn,sx,Nat.reduceBEq,Nat.reduceEqDiff,g47,g48,f49,hiae,hce,A2a,hq,decide_true,A8q,A9k,A9q,ge1,hd,wq];refine k2 _ _ (by repeat (first|refine Same.put ?_ rfl|exact Same.rfl' _)) (by simp only[sx]) ⟨hk3,by have:=kn.next;omega,zt3,td3,tb3,now2,by simp only[sx,Nat.reduceEqDiff,g6],hl4,hz4,hnl3,hwi3,htn3,hmeas,htl3,hmono3,hcl3,hdone3,fun hs e' he' hn'=>?_⟩;rw[htake]at he';rcases List.mem_append.1 he' with h1|h1
     ·exact hself hs e' h1 hn'
     ·rw[List.mem_singleton.1 h1]at hn'
      unfold labN at hn';rw[if_neg hneg]at hn';cases hn'
    have hd:decide ((0:Int)≤e.2.1)=false:=decide_eq_false (by omega);have hlN:labN e.2.1=none:=by unfold labN;rw[if_pos hneg]
    have hg1:now2[s]?=some now2[s]:=List.getElem?_eq_getElem (by omega);have hg2:now2[e.1]?=some now2[e.1]:=List.getElem?_eq_getElem (by omega);have hm1:=hwi3 _ (List.getElem_mem (show s<now2.length by omega));have hm2:=hwi3 _ (List.getElem_mem (show e.1<now2.length by omega));generalize now2[s]=m1 at hg1 hm1;generalize now2[e.1]=m2 at hg2 hm2;obtain⟨x1,a1,c1⟩:=hget hz4 hg1;obtain⟨x2,a2,c2⟩:=hget hz4 hg2;obtain⟨_,_,_,q4',q5'⟩:=hpg hk3;obtain⟨r5,H5,hd5,hk5,rfl⟩:=B90 (e:=e) (m:=m1) q4' q5' hpl hyl ho (hm1.lt64 hyl) kn.wf;have ab:Arr (H2.new 4 (A9a e)).2 H2.next 0 4 (A9a e):=(Sh.Obj.new (H:=H2) 4 (A9a e)).arr;have ab5:=ab.keep (hk5.old _ (ab.lt kn.wf));have b0:H5.cell ⟨H2.next,0,some 0⟩=some (.int .i64 (e.1:Int)):=ab5.cell 0;have hvq:veq (.agg (A9a e).toArray) (.agg (A9a e).toArray)=true:=A0x (by simp[A9a,A1k,A7m,A3h]);have hz5:=hz4.kept kn.wf hk5;have hl5:=hl4.kept kn.wf hk5;have hk35:=hk3.trans hk5;obtain⟨x3,a3,c3⟩:=hget hz5 hg2;have hst:=B8c (o:=e.2.2.1) hpl (by omega) hm1;have hbit:=A36 (m:=m1) (o:=e.2.2.1) hpl (by omega);obtain⟨st,hst0⟩:∃st,stepM W m1 e.2.2.1=st:=⟨_,rfl⟩
    rw[hst0]at hst hbit hd5;have hor:=or64 (P:=Tryz.prog) (t:=121) (c:=false) (hm2.lt64 hyl) (hst.lt64 hyl);have hn5:=hk5.next;have hn3:=kn.next;simp only[↓Sh.dn,sx,Nat.reduceEqDiff,g47,g48,f49,hiae,hce,A2a,hq,decide_true,A8q,A9k,A9q,ge1,hd];refine A6u (fl:=[(0,true),(1,true),(2,false),(3,true),(4,false),(5,true),(6,true),(7,true),(8,true),(9,false),(10,false),(11,false),(12,true),(13,true)]) (by kernel_rfl) (by kernel_rfl) hk3.wf ?_;simp only[↓Sh.dn,sx,reduceCtorEq,Nat.reduceEqDiff,wpg,B7m,isEff,A2d,isRead,A3h,forall_eq',g1,g2,g9,ge0,C29,a1,c1,a2,c2,hvq];refine⟨_,_,hd5,hk5.wf,hk5.grow kn.wf,?_⟩;simp only[sx,hor,b0,a3,c3,nat_eq];have hgrow:∀{m':Nat},(∀j,m2.testBit j=true→m'.testBit j=true)→∀p,A4h now2 p→A4h (now2.set e.1 m') p:=fun{m'} hm' p ⟨m,h1,h2⟩=>by
     unfold A4h;rw[List.getElem?_set];by_cases hu:e.1=p.1
     ·rw[if_pos hu,if_pos (by omega)]
      rw[←hu,hg2]at h1;exact⟨m',rfl,hm' _ (by rw[Option.some.inj h1];exact h2)⟩
     ·rw[if_neg hu];exact⟨m,h1,h2⟩
    by_cases heq:m2 ||| st=m2
    ·simp only[↓Sh.dn,sx,Nat.reduceEqDiff,heq,decide_true,f49,wq]
     refine k2 _ _ (by repeat (first|refine Same.put ?_ rfl|exact Same.rfl' _)) (by simp only[sx]) ⟨hk35,by omega,zt3,td3,tb3,now2,by simp only[sx,Nat.reduceEqDiff,g6],hl5,hz5,hnl3,hwi3,htn3,hmeas,htl3,hmono3,hcl3,hdone3,fun hs e' he' hn' m m' hgm hgm' j hj=>?_⟩;rw[htake]at he';rcases List.mem_append.1 he' with h1|h1
     ·exact hself hs e' h1 hn' m m' hgm hgm' j hj
     ·rw[List.mem_singleton.1 h1]at hgm' hj
      rw[hg2]at hgm';rw[hg1]at hgm;rw[←Option.some.inj hgm,hst0]at hj;rw[←Option.some.inj hgm',←heq,Nat.testBit_or,hj,Bool.or_true]
    ·obtain⟨p6,H6,ia6,w6,z6,c6,n6⟩:=Buf.set (P:=Tryz.prog) hz5 hk5.wf (i:=e.1) (x:=u64C (m2 ||| st)) (by simp;omega) rfl
     have ia6':=ia6 Tryz.underlying120 A8i (j:=.i64);have st6:A7d Tryz.prog 121 H5 (.int .u64 ((m2 ||| st:Nat):Int)) (.pointer (some p6))=some H6:=by rw[A9b A8i rfl];exact w6
     have hl6:LB H6 base ob zt3 td3 tb3:=⟨hl5.bf.chg hk5.wf c6 fun v hv hv2=>(hl5.fr v hv).2 hv2,hl5.fr⟩
     have hk6:Kept H0 H6:=hk35.then (Nat.le_refl _) (c6.weak fun v hv=>hob v hv);have c6n:=c6.next;have b06:H6.cell ⟨H2.next,0,some 0⟩=some (.int .i64 (e.1:Int)):=(ab5.keep (c6.old _ (ab5.lt hk5.wf) fun hv=>by have:=hoblt' _ hv;omega)).cell 0;obtain⟨a,cap,w',H7,tb4,rfl,e2,e3,hl7,c7,f7⟩:=B0y e.1 (show base≤H6.next by omega) c6.wf (fun v hv=>by have:=hoblt' v hv;omega) hl6 (by omega);have z7:Buf H7 1 z ((now2.set e.1 (m2 ||| st)).map u64C) ob:=by
      rw[List.map_set];exact z6.chg c6.wf c7 fun v hv hv2=>(hl6.fr v hv2).2 hv
     have hk7:Kept H0 H7:=hk6.then hb0 (c7.weak fun v hv=>(hl6.fr v hv).1);have hcard:A33 m2<A33 (m2 ||| st):=card_lt (C54 (hm2.lt64 hyl) (hst.lt64 hyl)) (fun j hj=>by rw[Nat.testBit_or,hj,Bool.true_or]) fun h=>heq h.symm;have hts:=B50 now2 e.1 m2 (m2 ||| st) hg2;have htl2:=A27 (now2.set e.1 (m2 ||| st));have hlset:(now2.set e.1 (m2 ||| st)).length=n:=by rw[List.length_set,hnl3]
     have hg:=hgrow (m':=m2 ||| st) fun j hj=>by rw[Nat.testBit_or,hj,Bool.true_or]
     have hup:∀{u m m':Nat},(now2.set e.1 (m2 ||| st))[u]?=some m'→now2[u]?=some m→∀j,m.testBit j=true→m'.testBit j=true:=fun{u m m'} h1 h2 j hj=>by
      obtain⟨m3,h3,h4⟩:=hg (u,j) ⟨m,h2,hj⟩;rw[h1]at h3;rw[Option.some.inj h3];exact h4
     have hsame:∀{u m:Nat},u≠e.1→(now2.set e.1 (m2 ||| st))[u]?=some m→now2[u]?=some m:=fun{u m} hu h1=>by
      rw[List.getElem?_set,if_neg (Ne.symm hu)]at h1;exact h1
     have hold:∀{u m':Nat},(now2.set e.1 (m2 ||| st))[u]?=some m'→∃m,now2[u]?=some m:=fun{u m'} h1=>by
      have:=(List.getElem?_eq_some_iff.1 h1).1;rw[List.length_set]at this;exact⟨_,List.getElem?_eq_getElem this⟩
     simp only[↓Sh.dn,sx,Nat.reduceEqDiff,heq,decide_false,g1,b0,ia6',st6,g6,b06,e2,e3,f49,wq];have c7n:=c7.next;refine k2 _ _ (by repeat (first|refine Same.put ?_ rfl|exact Same.rfl' _)) (by simp only[sx]) ⟨hk7,by omega,w',td3++[e.1],tb4,now2.set e.1 (m2 ||| st),by simp only[sx,Nat.reduceEqDiff],hl7,z7,hlset,fun m hm=>?_,fun u hu=>?_,by simp only[List.length_append,List.length_singleton];omega,by simp only[List.length_append,List.length_singleton];omega,fun p hp=>hg p (hmono3 p hp),fun p hp=>?_,fun u hu hus r' hr' e' he' hn' m m' hgm hgm' j hj=>?_,fun hs e' he' hn' m m' hgm hgm' j hj=>?_⟩
     ·rcases List.mem_or_eq_of_mem_set hm with h1|h1
      ·exact hwi3 m h1
      ·rw[h1];exact B85 hm2 hst
     ·rcases List.mem_append.1 hu with h1|h1
      ·exact htn3 u h1
      ·rw[List.mem_singleton.1 h1];exact het
     ·obtain⟨m,h1,h2⟩:=hp
      by_cases hu:p.1=e.1
      ·rw[hu,List.getElem?_set,if_pos rfl,if_pos (by omega)]at h1
       rw[←Option.some.inj h1,Nat.testBit_or,Bool.or_eq_true]at h2;rcases h2 with h2|h2
       ·exact hcl3 p ⟨m2,by rw[hu];exact hg2,h2⟩
       ·obtain⟨i,h3,h4⟩:=(hbit p.2).1 h2
        exact .step (hcl3 (s,i) ⟨m1,hg1,h3⟩) ⟨labN e.2.2.1,⟨r,hr,e,hrq,hu.symm,hlN,rfl⟩,h4⟩
      ·exact hcl3 p ⟨m,hsame hu h1,h2⟩
     ·have hu2:u∉td3:=fun h=>hu (List.mem_append_left _ h)
      have hu3:u≠e.1:=fun h=>hu (List.mem_append_right _ (by rw[h];exact List.mem_cons_self));obtain⟨m3,hm3⟩:=hold hgm';exact hup hgm' hm3 j (hdone3 u hu2 hus r' hr' e' he' hn' m m3 (hsame hu3 hgm) hm3 j hj)
     ·have hs2:s∉td3:=fun h=>hs (List.mem_append_left _ h)
      have hs3:s≠e.1:=fun h=>hs (List.mem_append_right _ (by rw[h];exact List.mem_cons_self));have hgs:=hsame hs3 hgm;rw[htake]at he';rcases List.mem_append.1 he' with h1|h1
      ·obtain⟨m3,hm3⟩:=hold hgm'
       exact hup hgm' hm3 j (hself hs2 e' h1 hn' m m3 hgs hm3 j hj)
      ·rw[List.mem_singleton.1 h1]at hgm' hj
       rw[hg1]at hgs;rw[←Option.some.inj hgs,hst0]at hj;rw[List.getElem?_set,if_pos rfl,if_pos (by omega)]at hgm';rw[←Option.some.inj hgm',Nat.testBit_or,hj,Bool.or_true]
   ·rintro F2 H2 hF2 f49 ⟨hk2,hbn2,zt3,td3,tb3,now2,g6,hl3,hz3,hnl3,hwi3,htn3,hmeas,htl3,hmono3,hcl3,hdone3,hself⟩
    have g0:=hF2 0 rfl;have g1:=hF2 1 rfl;have g2:=hF2 2 rfl;have g48:=hF2 48 rfl;simp only[sx,reduceCtorEq,Nat.reduceEqDiff,f0,f1,f2]at g0 g1 g2 g48;rw[List.take_length]at hself;simp only[↓Sh.dn,sx,Nat.reduceBEq,g48,f49,A2a,Nat.lt_irrefl,decide_false];refine k (2*(64*n-A1p now2)+td3.length) _ _ (by rw[List.length_append,List.length_singleton];omega) ⟨by simp only[sx,reduceCtorEq,g0],by simp only[sx,Nat.reduceEqDiff,g1],by simp only[sx,Nat.reduceEqDiff,g2],hk2,hbn2,zt3,td3,tb3,now2,by simp only[sx,Nat.reduceEqDiff,g6],rfl,hl3,hz3,hnl3,hwi3,htn3,htl3,hmono3,hcl3,fun u hu r' hr' e' he'=>?_⟩;by_cases hus:u=s
    ·subst hus
     rw[hr]at hr';rw[←Option.some.inj hr']at he';exact hself hu e' he'
    ·exact hdone3 u hu hus r' hr' e' he'
end Go.Proofs.YtjjgodccecehlaaGreat
