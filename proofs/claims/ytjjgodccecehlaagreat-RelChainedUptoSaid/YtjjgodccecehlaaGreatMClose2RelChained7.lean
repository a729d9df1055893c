/- A part of the proof: ShMade, ShRev. -/
import Derived.Test.YtjjgodccecehlaaGreatMClose2RelChained5
set_option linter.unusedVariables false
set_option linter.unusedSimpArgs false
/- Open regions with effects in place, of which room that is made ahead of them is shown to be as it was. -/
namespace Go.Proofs.Sh
open Go
def B3l(ops:List Oper)(bs:List Nat):List Nat→List Nat→List Nat→List (Nat×List Nat×List Bool×List Bool)
 | [],_,_=>[]
 | i :: l,pb,mb=>match ops[i]? with
  | none=>[]
  | some o => bif isEff o then
        (i, pb.filter (fun k => !((bs[i]?).getD 0).testBit k), mb.map (fun k => !((bs[i]?).getD 0).testBit k), mb.map (fun k => o.guard.isSome||!((bs[i]?).getD 0).testBit k)) ::
          B3l ops bs l (bif o.guard.isSome then pb else pb.filter fun k => !((bs[i]?).getD 0).testBit k) (mb.filter fun k => o.guard.isSome||!((bs[i]?).getD 0).testBit k)
      else bif A2d o then (i, [], [], []) :: B3l ops bs l pb (i :: mb)
      else bif isRead o then (i, [], [], []) :: B3l ops bs l (i :: pb) mb else (i, [], [], []) :: B3l ops bs l pb mb
def orderM(ops:List Oper):List (Nat×List Nat×List Bool×List Bool):=B3l ops (A6j ops) (A53 ops (A6j ops)) [] []
def B7i{α:Type}:List Bool→List α→List α
 | true :: bs,p :: ps=>p :: B7i bs ps
 | false :: bs,p :: ps=>B7i bs ps
 | _,_=>[]
def C28:List (AH→Prop)→AH→Prop
 | [],_=>True
 | p :: ps,H=>p H∧C28 ps H
def C6y(g:Nat)(H1 H2:AH):Prop:=∀x,H1.objs.get g=some x→H2.objs.get g=some x∧B2a x x=true
def B02(o:Oper)(kp:List Bool)(ms:List (AH→Prop))(H H':AH):List (AH→Prop):=bif isEff o then B7i kp ms else bif A2d o then C6y H.next H' :: ms else ms
def wpm(P:Program)(O:A1d)(all:List Oper):List (Nat×List Nat×List Bool×List Bool)→List (AH→Prop)→(Fr→AH→Prop)→Fr→AH→Prop
 | [],_,K,F,H=>K F H
 | (i,fl,ml,kp) :: l,ms,K,F,H=>match all[i]? with
  | some o=>wpo P O all [o] (fun F' H'=>again P O all fl F' H'∧(isEff o=true→C28 (B7i ml ms) H')∧wpm P O all l (B02 o kp ms H H') K F' H') F H
  | none=>False
section
variable {P:Program}
theorem B0k{α:Type}(f:Nat→Bool):∀(is:List Nat) (qs:List α),(is.filter f).zip (B7i (is.map f) qs)=(is.zip qs).filter fun z=>f z.1
 | [],_=>by simp
 | i :: is,[]=>by
  have:B7i ((i :: is).map f) ([]:List α)=[]:=by
   simp only[List.map_cons];cases f i<;>rfl
  rw[this];simp
 | i :: is,q :: qs=>by
  have ih:=B0k f is qs;cases hf:f i with
  | true=>simp[B7i,hf,ih]
  | false=>simp[B7i,hf,ih]
theorem B71{H:AH}:∀{qs:List (AH→Prop)},C28 qs H→∀q∈qs,q H
 | q :: qs,h,r,hr=>by
  rcases List.mem_cons.1 hr with rfl|hr
  ·exact h.1
  ·exact B71 h.2 r hr
def LiveM(all:List Oper)(G:Fr)(l:List Nat)(pb mb:List Nat)(ms:List (AH→Prop))(p:Pend):Prop:=match p with
 | .read i F v=>p.at_∈pb∧Live all G l p
 | .made i g x=>∃z∈mb.zip ms,z.1=i∧∀H,z.2 H→Val P all H p
theorem LiveM.put{all:List Oper}{G:Fr}{l:List Nat}{pb pb' mb:List Nat}{ms:List (AH→Prop)}{i:Nat}{o:Oper}{v:Value}(ho:all[i]?=some o){p:Pend}(h:LiveM (P:=P) all G (i :: l) pb mb ms p)(hb:∀k∈pb,k∈pb'):LiveM (P:=P) all (put G o.dst v) l pb' mb ms p:=by
 cases p with
 | read k F w=>exact⟨hb _ h.1,h.2.put ho⟩
 | made k g x=>exact h
theorem LiveM.more{all:List Oper}{G:Fr}{l:List Nat}{pb mb:List Nat}{ms:List (AH→Prop)}{p:Pend}{i:Nat}{q:AH→Prop}(h:LiveM (P:=P) all G l pb mb ms p):LiveM (P:=P) all G l pb (i :: mb) (q :: ms) p:=by
 cases p with
 | read k F w=>exact h
 | made k g x=>
  obtain⟨z,h1,h2⟩:=h;exact⟨z,List.mem_cons_of_mem _ h1,h2⟩
theorem LiveM.keep{all:List Oper}{G:Fr}{l:List Nat}{pb pb' mb:List Nat}{ms:List (AH→Prop)}{p:Pend}{f:Nat→Bool}(h:LiveM (P:=P) all G l pb mb ms p)(hp:p.at_∈pb→p.at_∈pb')(hf:f p.at_=true):LiveM (P:=P) all G l pb' (mb.filter f) (B7i (mb.map f) ms) p:=by
 cases p with
 | read k F w=>exact⟨hp h.1,h.2⟩
 | made k g x=>
  obtain⟨z,h1,h2,h3⟩:=h;refine⟨z,?_,h2,h3⟩;rw[B0k];exact List.mem_filter.2 ⟨h1,by rw[h2];exact hf⟩
theorem A2o{O:A1d}{all:List Oper}{bs:List Nat}{K:Fr→AH→Prop}:∀(l pb mb:List Nat) (ms:List (AH→Prop)) (ps:List Pend) (F:Fr) (H:AH),(∀p∈ps,LiveM (P:=P) all F l pb mb ms p)→wpm P O all (B3l all bs l pb mb) ms K F H→
  (∀i∈l,i<all.length)→C5c all l=true→wpd P O all bs l ps K F H
 | [],pb,mb,ms,ps,F,H,_,h,_,_=>⟨0,F,H,rfl,h⟩
 | i :: l,pb,mb,ms,ps,F,H,hc,h,hl,hsep=>by
  have hi:=hl i List.mem_cons_self;have hl':∀i∈l,i<all.length:=fun j hj=>hl j (List.mem_cons_of_mem _ hj);have ho:all[i]?=some all[i]:=List.getElem?_eq_getElem hi;generalize all[i]=o at ho;simp only[B3l,ho]at h;simp only[C5c,ho,Bool.and_eq_true]at hsep;obtain⟨hsep0,hsep⟩:=hsep
  have go : ∀ (fl : List Nat) (ml kp : List Bool) (rest : List (Nat × List Nat × List Bool × List Bool)), wpm P O all ((i, fl, ml, kp) :: rest) ms K F H → ∃ b, A3m all F o = some b ∧
      (b = true → ∃v H1, OpTo P O F H o v H1 ∧ again P O all fl (put F o.dst v) H1 ∧ (isEff o = true → C28 (B7i ml ms) H1) ∧ wpm P O all rest (B02 o kp ms H H1) K (put F o.dst v) H1) ∧
      (b = false → wpm P O all rest (B02 o kp ms H H) K (put F o.dst undef) H) := by
    intro fl ml kp rest hh;simp only[wpm, ho]at hh;rw[A9x]at hh;obtain⟨b, h1, h2, h3⟩ := hh;refine⟨b, h1, fun hb => ?_, fun hb => ?_⟩
    · obtain⟨v, H1, h4, h5⟩ := h2 hb
      rw[A5x]at h5;exact⟨v, H1, h4, h5⟩
    · have := h3 hb
      rw[A5x]at this;exact this.2.2
  have skip:∀{F1:Fr} {H1:AH},A3m all F o=some false→F1=put F o.dst undef→H1=H→wpd P O all bs l ps K F1 H1→wpd P O all bs (i :: l) ps K F H:=by
   rintro F1 H1 hw rfl rfl ⟨n,F2,H2,h1,h2⟩;refine⟨n,F2,H2,?_,h2⟩;simp only[A4e,ho,hw];exact h1
  have step:∀(v:Value) (pb':List Nat),(∀k∈pb,k∈pb')→∀p∈ps,LiveM (P:=P) all (put F o.dst v) l pb' mb ms p:=fun v pb' hb p hp=>(hc p hp).put ho hb;cases hE:isEff o with
  | true=>
   rw[hE]at h;simp only[cond_true]at h;obtain⟨b,hw,ht,hf⟩:=go _ _ _ _ h;simp only[B02,hE,cond_true,forall_const]at ht hf;cases b with
   | false=>
    have hg:o.guard.isSome=true:=by
     unfold A3m at hw;cases hgd:o.guard with
     | none=>rw[hgd]at hw;cases hw
     | some x=>rfl
    have hf:=hf rfl;rw[hg]at hf;exact skip hw rfl rfl (A2o l _ _ _ ps _ _ (fun p hp=>(step undef pb (fun _ h=>h) p hp).keep (f:=fun k=>true||!((bs[i]?).getD 0).testBit k) (fun h=>h) rfl) hf hl' hsep)
   | true=>
    obtain⟨v,H1,⟨n,hn⟩,hag,hh,hrest⟩:=ht rfl;have hval:∀p∈ps,((bs[i]?).getD 0).testBit p.at_=false→Val P all H1 p:=by
     intro p hp hb;have q:=step v pb (fun _ h=>h) p hp;cases p with
     | read k F0 w=>exact B67 hag _ q.2 (List.mem_filter.2 ⟨q.1,by rw[hb];rfl⟩)
     | made k g x=>
      obtain⟨z,hz,h1,h2⟩:=q;have hz':z∈(mb.zip ms).filter fun z=>!((bs[i]?).getD 0).testBit z.1:=List.mem_filter.2 ⟨hz,by rw[h1];simp only[Pend.at_]at hb;rw[hb];rfl⟩;rw[←B0k (fun k=>!((bs[i]?).getD 0).testBit k)]at hz';exact h2 H1 (B71 hh _ (List.of_mem_zip hz').2)
    obtain⟨m,F2,H2,h1,h2⟩:=A2o l _ _ _ (ps.filter fun p=>!((bs[i]?).getD 0).testBit p.at_) _ _ (fun p hp=>by
     obtain⟨k1,k2⟩:=List.mem_filter.1 hp;refine(step v pb (fun _ h=>h) p k1).keep (fun hq=>?_) (by rw[k2];exact Bool.or_true _);cases o.guard.isSome with
     | true=>exact hq
     | false=>exact List.mem_filter.2 ⟨hq,k2⟩) hrest hl' hsep
    refine⟨n+m,F2,H2,?_,h2⟩;simp only[A4e,ho,hw,A1i (A4c (Nat.le_add_right n m)) hn,hE,cond_true,A7w hval];exact A4d (A4c (Nat.le_add_left m n)) h1
  | false=>
   rw[hE]at h;simp only[cond_false]at h;cases hM:A2d o with
   | true=>
    rw[hM]at h;simp only[cond_true]at h;obtain⟨b,hw,ht,hf⟩:=go _ _ _ _ h;simp only[B02,hE,hM,cond_true,cond_false,reduceCtorEq,false_implies,true_and]at ht hf;cases b with
    | false=>exact skip hw rfl rfl (A2o l _ _ _ ps _ _ (fun p hp=>(step undef pb (fun _ h=>h) p hp).more) (hf rfl) hl' hsep)
    | true=>
     obtain⟨v,H1,⟨n,hn⟩,_,hrest⟩:=ht rfl;obtain⟨x,hx⟩:=A4l hM hn;have hxg:H1.objs.get H.next=some x:=by rw[hx];exact A1q H x
     obtain⟨m,F2,H2,h1,h2⟩:=A2o l _ _ _ (.made i H.next x :: ps) _ _ (fun p hp=>by
      rcases List.mem_cons.1 hp with rfl|hp
      ·exact⟨_,List.mem_cons_self,rfl,fun H3 h3=>⟨x,h3 x hxg⟩⟩
      ·exact(step v pb (fun _ h=>h) p hp).more) hrest hl' hsep
     refine⟨n+m,F2,H2,?_,h2⟩;simp only[A4e,ho,hw,A1i (A4c (Nat.le_add_right n m)) hn,hE,cond_false,hM,cond_true,hxg];exact A4d (A4c (Nat.le_add_left m n)) h1
   | false=>
    rw[hM]at h;simp only[cond_false]at h;have hsame:∀{v:Value} {H1:AH} {n:Nat},aop P (call P O n) F H o=some (v,H1)→H1=H:=fun hn=>(A3n (HGrow.refl H) hE hM hn).2;cases hR:isRead o with
    | true=>
     rw[hR]at h hsep0;simp only[cond_true]at h;simp only[hE,Bool.not_false,Bool.and_self,cond_true,Bool.and_eq_true]at hsep0;obtain⟨b,hw,ht,hf⟩:=go _ _ _ _ h;simp only[B02,hE,hM,cond_false,reduceCtorEq,false_implies,true_and]at ht hf;cases b with
     | false=>exact skip hw rfl rfl (A2o l _ _ _ ps _ _ (step _ _ fun k hk=>List.mem_cons_of_mem _ hk) (hf rfl) hl' hsep)
     | true=>
      obtain⟨v,H1,⟨n,hn⟩,_,hrest⟩:=ht rfl;have:=hsame hn;subst this;obtain⟨t,hd⟩:=Option.isSome_iff_exists.1 hsep0.1;have hw':A3m all (put F o.dst v) o=some true:=by
       unfold A3m at hw ⊢;cases hg:o.guard with
       | none=>rfl
       | some q=>
        obtain⟨j,w⟩:=q;rw[hg]at hw;simp only at hw ⊢;cases hj:(all[j]?).bind (·.dst) with
        | none=>rw[hj]at hw;cases hw
        | some u=>
         rw[hj]at hw;simp only[Option.bind_some]at hw ⊢;have hself:=hsep0.2.1;rw[hd]at hself ⊢;rw[get_put fun d hdd e=>by
          injection hdd with hdd
          subst hdd e;have:u∈A98 all o:=List.mem_append.2 (.inr (by simp[hg,B8y,hj]));simp[this]at hself]
         exact hw
      have hev:∀x∈o.op.operands.toList,ev F x=ev (put F o.dst v) x:=by
       intro x hx;refine(C75 fun d hdd hin=>?_).symm;have hself:=hsep0.2.1;rw[hdd]at hself;have:d∈A98 all o:=List.mem_append.2 (.inl (List.mem_flatMap.2 ⟨x,hx,hin⟩));simp[this]at hself
      obtain⟨m,F2,H2,h1,h2⟩:=A2o l (i :: pb) mb ms (.read i F v :: ps) _ _ (fun p hp=>by
       rcases List.mem_cons.1 hp with rfl|hp
       ·exact⟨List.mem_cons_self,o,t,ho,hE,hd,by rw[hd,A81],hw',hev,hsep0.2.2⟩
       ·exact step v _ (fun k hk=>List.mem_cons_of_mem _ hk) p hp) hrest hl' hsep
      refine⟨n+m,F2,H2,?_,h2⟩;simp only[A4e,ho,hw,A1i (A4c (Nat.le_add_right n m)) hn,hE,cond_false,hM,hR,cond_true];exact A4d (A4c (Nat.le_add_left m n)) h1
    | false=>
     rw[hR]at h;simp only[cond_false]at h;obtain⟨b,hw,ht,hf⟩:=go _ _ _ _ h;simp only[B02,hE,hM,cond_false,reduceCtorEq,false_implies,true_and]at ht hf;cases b with
     | false=>exact skip hw rfl rfl (A2o l _ _ _ ps _ _ (step _ _ fun k hk=>hk) (hf rfl) hl' hsep)
     | true=>
      obtain⟨v,H1,⟨n,hn⟩,_,hrest⟩:=ht rfl;have:=hsame hn;subst this;obtain⟨m,F2,H2,h1,h2⟩:=A2o l pb mb ms ps _ _ (step v _ fun k hk=>hk) hrest hl' hsep;refine⟨n+m,F2,H2,?_,h2⟩;simp only[A4e,ho,hw,A1i (A4c (Nat.le_add_right n m)) hn,hE,cond_false,hM,hR];exact A4d (A4c (Nat.le_add_left m n)) h1
end
variable {P:Program} {O:A1d} {S:List Item} {Q:Fr→AH→Prop} {F:Fr} {H:AH}
theorem wp_made{id:Nat}{ops:Array Oper}{fl:List (Nat×List Nat×List Bool×List Bool)}(hf:orderM ops.toList=fl)(hb:((A53 ops.toList (A6j ops.toList)).all fun i=>Nat.blt i ops.toList.length)=true)(hs:C5c ops.toList (A53 ops.toList (A6j ops.toList))=true)(h:wpm P O ops.toList fl [] (wp P O S Q) F H):wp P O (.code (.region id ops true) :: S) Q F H:=by
 rw[C2a];subst hf;refine A2o _ [] [] [] [] F H (fun p hp=>by cases hp) h (fun i hi=>?_) hs;have:=List.all_eq_true.1 hb i hi;rw[A1j]at this;exact of_decide_eq_true this
end Go.Proofs.Sh
/- Paths, words read from their ends;a graph in memory that keeps to its own places. -/
set_option linter.unusedSectionVars false
namespace Go.Proofs.Sh
open Go
inductive Path(G:ByteArray→Nat→Nat→Prop):Nat→List ByteArray→Nat→Prop
 | nil (s:Nat):Path G s [] s
 | eps {s t u:Nat} {w:List ByteArray}:G A4n s t→Path G t w u→Path G s w u
 | sym {s t u:Nat} {w:List ByteArray} {x:ByteArray}:x≠A4n→G x s t→Path G t w u→Path G s (x :: w) u
section
variable {G:ByteArray→Nat→Nat→Prop}
theorem Path.append{s t v:Nat}{a b:List ByteArray}(h:Path G s a t)(k:Path G t b v):Path G s (a++b) v:=by
 induction h with
 | nil s=>exact k
 | eps h _ ih=>exact .eps h (ih k)
 | sym hx h _ ih=>exact .sym hx h (ih k)
theorem Path.ne{s t:Nat}{w:List ByteArray}(h:Path G s w t):∀x∈w,x≠A4n:=by
 induction h with
 | nil s=>intro x hx;cases hx
 | eps _ _ ih=>exact ih
 | sym hx _ _ ih=>
  intro y hy;rcases List.mem_cons.1 hy with rfl|hy
  ·exact hx
  ·exact ih y hy
end
def ownG(g:Nat)(os ot oe oc:Option Nat)(obs:List (Option Nat))(y:Nat):Prop:=y=g∨os=some y∨JIn ot obs y∨oe=some y∨oc=some y
def GrX(H:AH)(X:Nat→Prop)(g:Nat)(sigma:List ByteArray)(rows:List (List (List Value)))(ends costs:List Int):Prop:=
 ∃sv av ev cv os ot oe oc vals obs,GrB H 0 g sv av ev cv os ot oe oc vals obs sigma rows ends costs∧∀y,ownG g os ot oe oc obs y→X y
section
variable {H H':AH} {X Z:Nat→Prop} {base g:Nat} {sigma:List ByteArray} {rows:List (List (List Value))} {ends costs:List Int}
theorem Gr.own(h:Gr H base g sigma rows ends costs)(hw:Wf H):GrX H (fun y=>base≤y∧y<H.next) g sigma rows ends costs:=by
 obtain⟨sv,av,ev,cv,os,ot,oe,oc,vals,obs,h⟩:=h;refine⟨sv,av,ev,cv,os,ot,oe,oc,vals,obs,{ h with fg:=Nat.zero_le _,fs:=fun _ _=>Nat.zero_le _,fj:=fun _ _=>Nat.zero_le _,fe:=fun _ _=>Nat.zero_le _,fc:=fun _ _=>Nat.zero_le _ },?_⟩;rintro y (rfl|hy|hy|hy|hy)
 ·exact⟨h.fg,h.arr.lt hw⟩
 ·exact⟨h.fs y hy,h.sg.lt hw y hy⟩
 ·exact⟨h.fj y hy,h.jag.lt hw y hy⟩
 ·exact⟨h.fe y hy,h.en.lt hw y hy⟩
 ·exact⟨h.fc y hy,h.co.lt hw y hy⟩
theorem GrX.mono(h:GrX H X g sigma rows ends costs)(hx:∀y,X y→Z y):GrX H Z g sigma rows ends costs:=by
 obtain⟨sv,av,ev,cv,os,ot,oe,oc,vals,obs,h,ho⟩:=h;exact⟨sv,av,ev,cv,os,ot,oe,oc,vals,obs,h,fun y hy=>hx y (ho y hy)⟩
theorem GrX.chg(h:GrX H X g sigma rows ends costs)(hw:Wf H)(hc:Chg Z H H')(hx:∀y,X y→¬Z y):GrX H' X g sigma rows ends costs:=by
 obtain⟨sv,av,ev,cv,os,ot,oe,oc,vals,obs,h,ho⟩:=h;refine⟨sv,av,ev,cv,os,ot,oe,oc,vals,obs,{ h with arr:=h.arr.keep (hc.old g (h.arr.lt hw) (hx g (ho g (.inl rfl)))),sg:=h.sg.chg hw hc fun y hy=>hx y (ho y (.inr (.inl hy))),jag:=h.jag.chg hw hc fun y hy=>hx y (ho y (.inr (.inr (.inl hy)))),en:=h.en.chg hw hc fun y hy=>hx y (ho y (.inr (.inr (.inr (.inl hy))))),co:=h.co.chg hw hc fun y hy=>hx y (ho y (.inr (.inr (.inr (.inr hy))))) },ho⟩
theorem GrX.kept(h:GrX H X g sigma rows ends costs)(hw:Wf H)(hk:Kept H H'):GrX H' X g sigma rows ends costs:=h.chg hw (hk.chg (X:=none')) fun _ _ h=>h
theorem GrX.read(h:GrX H X g sigma rows ends costs):∃sv av ev cv vals,GrR H g sv av ev cv vals sigma rows ends costs:=by
 obtain⟨sv,av,ev,cv,os,ot,oe,oc,vals,obs,h,_⟩:=h;exact⟨sv,av,ev,cv,vals,h.arr,h.sg.toSl,h.jag.read,h.en.toSl,h.co.toSl⟩
end
theorem Jag.addRow{H:AH}{s:Nat}{v:Value}{ot:Option Nat}{vals:List Value}{rows:List (List (List Value))}{obs:List (Option Nat)}(h:Jag H v ot s vals rows obs)(hw:Wf H):
  ∃a cap v' H' ot',v=.slice a rows.length cap∧A5d 1 a rows.length cap 1 [.slice none 0 0] H=some (v',H')∧Jag H' v' ot' s (vals++[.slice none 0 0]) (rows++[[]]) (obs++[none])∧Chg (fun y=>ot=some y) H H'∧isCell v'=true∧(∀y,JIn ot' (obs++[none]) y→JIn ot obs y∨H.next≤y):=by
 have hl:(vals.map fun x=>[x]).length=rows.length:=by rw[List.length_map,h.len1]
 obtain⟨a,cap,hv⟩:=h.top.shape;rw[hl]at hv;subst hv;obtain⟨v',H',ot',e1,e2,e3,e4⟩:=h.top.append hw (xs:=[[.slice none 0 0]]) (by simp);have hfl:flat [[Value.slice none 0 0]]=[.slice none 0 0]:=by simp[flat]
 rw[hfl]at e1;have hin:∀y,JIn ot' (obs++[none]) y→JIn ot obs y∨H.next≤y:=by
  rintro y (hy|⟨i,hy⟩)
  ·rcases e4 with h4|⟨h4,_⟩
   ·exact .inl (.inl (by rw[←h4];exact hy))
   ·rw[h4]at hy;exact .inr (by rw[←Option.some.inj hy];exact Nat.le_refl _)
  ·by_cases hi:i<obs.length
   ·rw[List.getElem?_append_left hi]at hy;exact .inl (.inr ⟨i,hy⟩)
   ·rw[List.getElem?_append_right (by omega)]at hy
    cases hj:i-obs.length with
    | zero=>rw[hj]at hy;simp at hy
    | succ j=>rw[hj]at hy;simp at hy
 have hob:∀(i:Nat) o,(obs++[none])[i]?=some (some o)→obs[i]?=some (some o):=by
  intro i o hy;by_cases hi:i<obs.length
  ·rw[List.getElem?_append_left hi]at hy;exact hy
  ·rw[List.getElem?_append_right (by omega)]at hy
   cases hj:i-obs.length with
   | zero=>rw[hj]at hy;simp at hy
   | succ j=>rw[hj]at hy;simp at hy
 refine⟨a,cap,v',H',ot',rfl,e1,⟨by rw[List.map_append];exact e2,by simp[h.len1],by simp[h.len2],fun i w r o h1 h2 h3=>?_,fun i y hy hi=>?_,fun i j o hij h1 h2=>h.apart i j o hij (hob i o h1) (hob j o h2)⟩,e3,e2.isCell,hin⟩
 ·by_cases hi:i<rows.length
  ·rw[List.getElem?_append_left (by rw[h.len1];exact hi)]at h1
   rw[List.getElem?_append_left hi]at h2;rw[List.getElem?_append_left (by rw[h.len2];exact hi)]at h3;exact(h.row i w r o h1 h2 h3).chg hw e3 fun y hy hyo=>h.far i y hyo (by rw[h3,hy])
  ·have hl1:=h.len1
   have hl2:=h.len2;rw[List.getElem?_append_right (by omega)]at h1 h2 h3;have hi0:i-rows.length=0:=by
    have:=(List.getElem?_eq_some_iff.1 h2).1;simp at this;omega
   rw[hl1,hi0]at h1;rw[hi0]at h2;rw[hl2,hi0]at h3;simp only[List.getElem?_cons_zero,Option.some.injEq]at h1 h2 h3;subst h1 h2 h3;exact .void none
 ·have h5:=hob i y hi
  rcases e4 with h4|⟨h4,_⟩
  ·exact h.far i y (by rw[←h4];exact hy) h5
  ·have h6:=h.lt hw y (.inr ⟨i,h5⟩)
   rw[h4]at hy;have:=Option.some.inj hy;omega
end Go.Proofs.Sh
