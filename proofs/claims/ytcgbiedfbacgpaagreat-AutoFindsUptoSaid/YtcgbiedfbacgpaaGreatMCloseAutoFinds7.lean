/- A part of the proof: ShMade, ShRev, ShWords, ShWays. -/
import Derived.Test.YtcgbiedfbacgpaaGreatMCloseAutoFinds5
set_option linter.unusedVariables false
set_option linter.unusedSimpArgs false
/- Open regions with effects in place, of which room that is made ahead of them is shown to be as it was. -/
set_option linter.unusedVariables false
set_option linter.unusedSimpArgs false
namespace Go.Proofs.Sh
open Go
def B6d (ops:List Oper) (bs:List Nat):List Nat→List Nat→List Nat→List (Nat×List Nat×List Bool×List Bool)
 | [],_,_=>[]
 | i :: l,pb,mb=>match ops[i]? with
  | none=>[]
  | some o => bif isEff o then
        (i, pb.filter (fun k => !((bs[i]?).getD 0).testBit k), mb.map (fun k => !((bs[i]?).getD 0).testBit k), mb.map (fun k => o.guard.isSome || !((bs[i]?).getD 0).testBit k)) ::
          B6d ops bs l (bif o.guard.isSome then pb else pb.filter fun k => !((bs[i]?).getD 0).testBit k) (mb.filter fun k => o.guard.isSome || !((bs[i]?).getD 0).testBit k)
      else bif A4e o then (i, [], [], []) :: B6d ops bs l pb (i :: mb)
      else bif isRead o then (i, [], [], []) :: B6d ops bs l (i :: pb) mb else (i, [], [], []) :: B6d ops bs l pb mb
def orderM (ops:List Oper):List (Nat×List Nat×List Bool×List Bool):=B6d ops (A2k ops) (A43 ops (A2k ops)) [] []
def B6g {α:Type}:List Bool→List α→List α
 | true :: bs,p :: ps=>p :: B6g bs ps
 | false :: bs,p :: ps=>B6g bs ps
 | _,_=>[]
def C7v:List (AH→Prop)→AH→Prop
 | [],_=>True
 | p :: ps,H=>p H∧C7v ps H
def MadeQ (g:Nat) (H1 H2:AH):Prop:=∀ x,H1.objs.get g=some x→H2.objs.get g=some x∧B5e x x=true
def B3v (o:Oper) (kp:List Bool) (ms:List (AH→Prop)) (H H':AH):List (AH→Prop):=bif isEff o then B6g kp ms else bif A4e o then MadeQ H.next H' :: ms else ms
def wpm (P:Program) (O:A4d) (all:List Oper):List (Nat×List Nat×List Bool×List Bool)→List (AH→Prop)→(Fr→AH→Prop)→Fr→AH→Prop
 | [],_,K,F,H=>K F H
 | (i,fl,ml,kp) :: l,ms,K,F,H=>match all[i]? with
  | some o=>wpo P O all [o] (fun F' H'=>again P O all fl F' H'∧(isEff o=true→C7v (B6g ml ms) H')∧wpm P O all l (B3v o kp ms H H') K F' H') F H
  | none=>False
section
variable {P:Program}
theorem B0j {α:Type} (f:Nat→Bool):∀ (is:List Nat) (qs:List α),(is.filter f).zip (B6g (is.map f) qs)=(is.zip qs).filter fun z=>f z.1
 | [],_=>by simp
 | i :: is,[]=>by
  have:B6g ((i :: is).map f) ([]:List α)=[]:=by
   simp only [List.map_cons]
   cases f i <;> rfl
  rw [this]; simp
 | i :: is,q :: qs=>by
  have ih:=B0j f is qs
  cases hf:f i with
  | true=>simp [B6g,hf,ih]
  | false=>simp [B6g,hf,ih]
theorem B00 {H:AH}:∀ {qs:List (AH→Prop)},C7v qs H→∀ q∈qs,q H
 | q :: qs,h,r,hr=>by
  rcases List.mem_cons.1 hr with rfl | hr
  ·exact h.1
  ·exact B00 h.2 r hr
def LiveM (all:List Oper) (G:Fr) (l:List Nat) (pb mb:List Nat) (ms:List (AH→Prop)) (p:Pend):Prop:=match p with
 | .read i F v=>p.at_∈pb∧Live all G l p
 | .made i g x=>∃ z∈mb.zip ms,z.1=i∧∀ H,z.2 H→Val P all H p
theorem LiveM.put {all:List Oper} {G:Fr} {l:List Nat} {pb pb' mb:List Nat} {ms:List (AH→Prop)} {i:Nat} {o:Oper} {v:Value} (ho:all[i]?=some o) {p:Pend} (h:LiveM (P:=P) all G (i :: l) pb mb ms p) (hb:∀ k∈pb,k∈pb'):LiveM (P:=P) all (put G o.dst v) l pb' mb ms p:=by
 cases p with
 | read k F w=>exact ⟨hb _ h.1,h.2.put ho⟩
 | made k g x=>exact h
theorem LiveM.more {all:List Oper} {G:Fr} {l:List Nat} {pb mb:List Nat} {ms:List (AH→Prop)} {p:Pend} {i:Nat} {q:AH→Prop} (h:LiveM (P:=P) all G l pb mb ms p):LiveM (P:=P) all G l pb (i :: mb) (q :: ms) p:=by
 cases p with
 | read k F w=>exact h
 | made k g x=>
  obtain ⟨z,h1,h2⟩:=h
  exact ⟨z,List.mem_cons_of_mem _ h1,h2⟩
theorem LiveM.keep {all:List Oper} {G:Fr} {l:List Nat} {pb pb' mb:List Nat} {ms:List (AH→Prop)} {p:Pend} {f:Nat→Bool} (h:LiveM (P:=P) all G l pb mb ms p) (hp:p.at_∈pb→p.at_∈pb') (hf:f p.at_=true):LiveM (P:=P) all G l pb' (mb.filter f) (B6g (mb.map f) ms) p:=by
 cases p with
 | read k F w=>exact ⟨hp h.1,h.2⟩
 | made k g x=>
  obtain ⟨z,h1,h2,h3⟩:=h
  refine ⟨z,?_,h2,h3⟩
  rw [B0j]
  exact List.mem_filter.2 ⟨h1,by rw [h2]; exact hf⟩
theorem A7o {O:A4d} {all:List Oper} {bs:List Nat} {K:Fr→AH→Prop}:∀ (l pb mb:List Nat) (ms:List (AH→Prop)) (ps:List Pend) (F:Fr) (H:AH),(∀ p∈ps,LiveM (P:=P) all F l pb mb ms p)→wpm P O all (B6d all bs l pb mb) ms K F H→
  (∀ i∈l,i < all.length)→B68 all l=true→wpd P O all bs l ps K F H
 | [],pb,mb,ms,ps,F,H,_,h,_,_=>⟨0,F,H,rfl,h⟩
 | i :: l,pb,mb,ms,ps,F,H,hc,h,hl,hsep=>by
  have hi:=hl i List.mem_cons_self
  have hl':∀ i∈l,i < all.length:=fun j hj=>hl j (List.mem_cons_of_mem _ hj)
  have ho:all[i]?=some all[i]:=List.getElem?_eq_getElem hi
  generalize all[i]=o at ho
  simp only [B6d,ho] at h
  simp only [B68,ho,Bool.and_eq_true] at hsep
  obtain ⟨hsep0,hsep⟩:=hsep
  have go : ∀ (fl : List Nat) (ml kp : List Bool) (rest : List (Nat × List Nat × List Bool × List Bool)), wpm P O all ((i, fl, ml, kp) :: rest) ms K F H → ∃ b, A3m all F o = some b ∧
      (b = true → ∃ v H1, OpTo P O F H o v H1 ∧ again P O all fl (put F o.dst v) H1 ∧ (isEff o = true → C7v (B6g ml ms) H1) ∧ wpm P O all rest (B3v o kp ms H H1) K (put F o.dst v) H1) ∧
      (b = false → wpm P O all rest (B3v o kp ms H H) K (put F o.dst undef) H) := by
    intro fl ml kp rest hh
    simp only [wpm, ho] at hh
    rw [A2w] at hh
    obtain ⟨b, h1, h2, h3⟩ := hh
    refine ⟨b, h1, fun hb => ?_, fun hb => ?_⟩
    · obtain ⟨v, H1, h4, h5⟩ := h2 hb
      rw [A0w] at h5
      exact ⟨v, H1, h4, h5⟩
    · have := h3 hb
      rw [A0w] at this
      exact this.2.2
  have skip:∀ {F1:Fr} {H1:AH},A3m all F o=some false→F1=put F o.dst undef→H1=H→wpd P O all bs l ps K F1 H1→wpd P O all bs (i :: l) ps K F H:=by
   rintro F1 H1 hw rfl rfl ⟨n,F2,H2,h1,h2⟩
   refine ⟨n,F2,H2,?_,h2⟩
   simp only [A7e,ho,hw]
   exact h1
  have step:∀ (v:Value) (pb':List Nat),(∀ k∈pb,k∈pb')→∀ p∈ps,LiveM (P:=P) all (put F o.dst v) l pb' mb ms p:=fun v pb' hb p hp=>(hc p hp).put ho hb
  cases hE:isEff o with
  | true=>
   rw [hE] at h
   simp only [cond_true] at h
   obtain ⟨b,hw,ht,hf⟩:=go _ _ _ _ h
   simp only [B3v,hE,cond_true,forall_const] at ht hf
   cases b with
   | false=>
    have hg:o.guard.isSome=true:=by
     unfold A3m at hw
     cases hgd:o.guard with
     | none=>rw [hgd] at hw; cases hw
     | some x=>rfl
    have hf:=hf rfl
    rw [hg] at hf
    exact skip hw rfl rfl (A7o l _ _ _ ps _ _ (fun p hp=>(step undef pb (fun _ h=>h) p hp).keep (f:=fun k=>true || !((bs[i]?).getD 0).testBit k) (fun h=>h) rfl) hf hl' hsep)
   | true=>
    obtain ⟨v,H1,⟨n,hn⟩,hag,hh,hrest⟩:=ht rfl
    have hval:∀ p∈ps,((bs[i]?).getD 0).testBit p.at_=false→Val P all H1 p:=by
     intro p hp hb
     have q:=step v pb (fun _ h=>h) p hp
     cases p with
     | read k F0 w=>exact B9z hag _ q.2 (List.mem_filter.2 ⟨q.1,by rw [hb]; rfl⟩)
     | made k g x=>
      obtain ⟨z,hz,h1,h2⟩:=q
      have hz':z∈(mb.zip ms).filter fun z=>!((bs[i]?).getD 0).testBit z.1:=List.mem_filter.2 ⟨hz,by rw [h1]; simp only [Pend.at_] at hb; rw [hb]; rfl⟩
      rw [← B0j (fun k=>!((bs[i]?).getD 0).testBit k)] at hz'
      exact h2 H1 (B00 hh _ (List.of_mem_zip hz').2)
    obtain ⟨m,F2,H2,h1,h2⟩:=A7o l _ _ _ (ps.filter fun p=>!((bs[i]?).getD 0).testBit p.at_) _ _ (fun p hp=>by
     obtain ⟨k1,k2⟩:=List.mem_filter.1 hp
     refine (step v pb (fun _ h=>h) p k1).keep (fun hq=>?_) (by rw [k2]; exact Bool.or_true _)
     cases o.guard.isSome with
     | true=>exact hq
     | false=>exact List.mem_filter.2 ⟨hq,k2⟩) hrest hl' hsep
    refine ⟨n+m,F2,H2,?_,h2⟩
    simp only [A7e,ho,hw,A3i (A8c (Nat.le_add_right n m)) hn,hE,cond_true,A7x hval]
    exact A5d (A8c (Nat.le_add_left m n)) h1
  | false=>
   rw [hE] at h
   simp only [cond_false] at h
   cases hM:A4e o with
   | true=>
    rw [hM] at h
    simp only [cond_true] at h
    obtain ⟨b,hw,ht,hf⟩:=go _ _ _ _ h
    simp only [B3v,hE,hM,cond_true,cond_false,reduceCtorEq,false_implies,true_and] at ht hf
    cases b with
    | false=>exact skip hw rfl rfl (A7o l _ _ _ ps _ _ (fun p hp=>(step undef pb (fun _ h=>h) p hp).more) (hf rfl) hl' hsep)
    | true=>
     obtain ⟨v,H1,⟨n,hn⟩,_,hrest⟩:=ht rfl
     obtain ⟨x,hx⟩:=A7l hM hn
     have hxg:H1.objs.get H.next=some x:=by rw [hx]; exact A6q H x
     obtain ⟨m,F2,H2,h1,h2⟩:=A7o l _ _ _ (.made i H.next x :: ps) _ _ (fun p hp=>by
      rcases List.mem_cons.1 hp with rfl | hp
      ·exact ⟨_,List.mem_cons_self,rfl,fun H3 h3=>⟨x,h3 x hxg⟩⟩
      ·exact (step v pb (fun _ h=>h) p hp).more) hrest hl' hsep
     refine ⟨n+m,F2,H2,?_,h2⟩
     simp only [A7e,ho,hw,A3i (A8c (Nat.le_add_right n m)) hn,hE,cond_false,hM,cond_true,hxg]
     exact A5d (A8c (Nat.le_add_left m n)) h1
   | false=>
    rw [hM] at h
    simp only [cond_false] at h
    have hsame:∀ {v:Value} {H1:AH} {n:Nat},aop P (call P O n) F H o=some (v,H1)→H1=H:=fun hn=>(A0o (HGrow.refl H) hE hM hn).2
    cases hR:isRead o with
    | true=>
     rw [hR] at h hsep0
     simp only [cond_true] at h
     simp only [hE,Bool.not_false,Bool.and_self,cond_true,Bool.and_eq_true] at hsep0
     obtain ⟨b,hw,ht,hf⟩:=go _ _ _ _ h
     simp only [B3v,hE,hM,cond_false,reduceCtorEq,false_implies,true_and] at ht hf
     cases b with
     | false=>exact skip hw rfl rfl (A7o l _ _ _ ps _ _ (step _ _ fun k hk=>List.mem_cons_of_mem _ hk) (hf rfl) hl' hsep)
     | true=>
      obtain ⟨v,H1,⟨n,hn⟩,_,hrest⟩:=ht rfl
      have:=hsame hn
      subst this
      obtain ⟨t,hd⟩:=Option.isSome_iff_exists.1 hsep0.1
      have hw':A3m all (put F o.dst v) o=some true:=by
       unfold A3m at hw ⊢
       cases hg:o.guard with
       | none=>rfl
       | some q=>
        obtain ⟨j,w⟩:=q
        rw [hg] at hw
        simp only at hw ⊢
        cases hj:(all[j]?).bind (·.dst) with
        | none=>rw [hj] at hw; cases hw
        | some u=>
         rw [hj] at hw
         simp only [Option.bind_some] at hw ⊢
         have hself:=hsep0.2.1
         rw [hd] at hself ⊢
         rw [get_put fun d hdd e=>by
          injection hdd with hdd
          subst hdd e
          have:u∈A93 all o:=List.mem_append.2 (.inr (by simp [hg,B2y,hj]))
          simp [this] at hself]
         exact hw
      have hev:∀ x∈o.op.operands.toList,ev F x=ev (put F o.dst v) x:=by
       intro x hx
       refine (C6t fun d hdd hin=>?_).symm
       have hself:=hsep0.2.1
       rw [hdd] at hself
       have:d∈A93 all o:=List.mem_append.2 (.inl (List.mem_flatMap.2 ⟨x,hx,hin⟩))
       simp [this] at hself
      obtain ⟨m,F2,H2,h1,h2⟩:=A7o l (i :: pb) mb ms (.read i F v :: ps) _ _ (fun p hp=>by
       rcases List.mem_cons.1 hp with rfl | hp
       ·exact ⟨List.mem_cons_self,o,t,ho,hE,hd,by rw [hd,A21],hw',hev,hsep0.2.2⟩
       ·exact step v _ (fun k hk=>List.mem_cons_of_mem _ hk) p hp) hrest hl' hsep
      refine ⟨n+m,F2,H2,?_,h2⟩
      simp only [A7e,ho,hw,A3i (A8c (Nat.le_add_right n m)) hn,hE,cond_false,hM,hR,cond_true]
      exact A5d (A8c (Nat.le_add_left m n)) h1
    | false=>
     rw [hR] at h
     simp only [cond_false] at h
     obtain ⟨b,hw,ht,hf⟩:=go _ _ _ _ h
     simp only [B3v,hE,hM,cond_false,reduceCtorEq,false_implies,true_and] at ht hf
     cases b with
     | false=>exact skip hw rfl rfl (A7o l _ _ _ ps _ _ (step _ _ fun k hk=>hk) (hf rfl) hl' hsep)
     | true=>
      obtain ⟨v,H1,⟨n,hn⟩,_,hrest⟩:=ht rfl
      have:=hsame hn
      subst this
      obtain ⟨m,F2,H2,h1,h2⟩:=A7o l pb mb ms ps _ _ (step v _ fun k hk=>hk) hrest hl' hsep
      refine ⟨n+m,F2,H2,?_,h2⟩
      simp only [A7e,ho,hw,A3i (A8c (Nat.le_add_right n m)) hn,hE,cond_false,hM,hR]
      exact A5d (A8c (Nat.le_add_left m n)) h1
end
variable {P:Program} {O:A4d} {S:List Item} {Q:Fr→AH→Prop} {F:Fr} {H:AH}
theorem wp_made {id:Nat} {ops:Array Oper} {fl:List (Nat×List Nat×List Bool×List Bool)} (hf:orderM ops.toList=fl) (hb:((A43 ops.toList (A2k ops.toList)).all fun i=>Nat.blt i ops.toList.length)=true) (hs:B68 ops.toList (A43 ops.toList (A2k ops.toList))=true) (h:wpm P O ops.toList fl [] (wp P O S Q) F H):wp P O (.code (.region id ops true) :: S) Q F H:=by
 rw [B05]
 subst hf
 refine A7o _ [] [] [] [] F H (fun p hp=>by cases hp) h (fun i hi=>?_) hs
 have:=List.all_eq_true.1 hb i hi
 rw [A8i] at this
 exact of_decide_eq_true this
end Go.Proofs.Sh
/- Paths, words read from their ends; a graph in memory that keeps to its own places. -/
set_option linter.unusedSectionVars false
namespace Go.Proofs.Sh
open Go
inductive Path (G:ByteArray→Nat→Nat→Prop):Nat→List ByteArray→Nat→Prop
 | nil (s:Nat):Path G s [] s
 | eps {s t u:Nat} {w:List ByteArray}:G A8a s t→Path G t w u→Path G s w u
 | sym {s t u:Nat} {w:List ByteArray} {x:ByteArray}:x≠A8a→G x s t→Path G t w u→Path G s (x :: w) u
section
variable {G:ByteArray→Nat→Nat→Prop}
theorem Path.append {s t v:Nat} {a b:List ByteArray} (h:Path G s a t) (k:Path G t b v):Path G s (a++b) v:=by
 induction h with
 | nil s=>exact k
 | eps h _ ih=>exact .eps h (ih k)
 | sym hx h _ ih=>exact .sym hx h (ih k)
theorem Path.ne {s t:Nat} {w:List ByteArray} (h:Path G s w t):∀ x∈w,x≠A8a:=by
 induction h with
 | nil s=>intro x hx; cases hx
 | eps _ _ ih=>exact ih
 | sym hx _ _ ih=>
  intro y hy
  rcases List.mem_cons.1 hy with rfl | hy
  ·exact hx
  ·exact ih y hy
end
def ownG (g:Nat) (os ot oe oc:Option Nat) (obs:List (Option Nat)) (y:Nat):Prop:=y=g∨os=some y∨JIn ot obs y∨oe=some y∨oc=some y
def GrX (H:AH) (X:Nat→Prop) (g:Nat) (sigma:List ByteArray) (rows:List (List (List Value))) (ends costs:List Int):Prop:=
 ∃ sv av ev cv os ot oe oc vals obs,GrB H 0 g sv av ev cv os ot oe oc vals obs sigma rows ends costs∧∀ y,ownG g os ot oe oc obs y→X y
section
variable {H H':AH} {X Z:Nat→Prop} {base g:Nat} {sigma:List ByteArray} {rows:List (List (List Value))} {ends costs:List Int}
theorem Gr.own (h:Gr H base g sigma rows ends costs) (hw:Wf H):GrX H (fun y=>base≤y∧y < H.next) g sigma rows ends costs:=by
 obtain ⟨sv,av,ev,cv,os,ot,oe,oc,vals,obs,h⟩:=h
 refine ⟨sv,av,ev,cv,os,ot,oe,oc,vals,obs,{ h with fg:=Nat.zero_le _,fs:=fun _ _=>Nat.zero_le _,fj:=fun _ _=>Nat.zero_le _,fe:=fun _ _=>Nat.zero_le _,fc:=fun _ _=>Nat.zero_le _ },?_⟩
 rintro y (rfl | hy | hy | hy | hy)
 ·exact ⟨h.fg,h.arr.lt hw⟩
 ·exact ⟨h.fs y hy,h.sg.lt hw y hy⟩
 ·exact ⟨h.fj y hy,h.jag.lt hw y hy⟩
 ·exact ⟨h.fe y hy,h.en.lt hw y hy⟩
 ·exact ⟨h.fc y hy,h.co.lt hw y hy⟩
theorem GrX.mono (h:GrX H X g sigma rows ends costs) (hx:∀ y,X y→Z y):GrX H Z g sigma rows ends costs:=by
 obtain ⟨sv,av,ev,cv,os,ot,oe,oc,vals,obs,h,ho⟩:=h
 exact ⟨sv,av,ev,cv,os,ot,oe,oc,vals,obs,h,fun y hy=>hx y (ho y hy)⟩
theorem GrX.chg (h:GrX H X g sigma rows ends costs) (hw:Wf H) (hc:Chg Z H H') (hx:∀ y,X y→¬Z y):GrX H' X g sigma rows ends costs:=by
 obtain ⟨sv,av,ev,cv,os,ot,oe,oc,vals,obs,h,ho⟩:=h
 refine ⟨sv,av,ev,cv,os,ot,oe,oc,vals,obs,{ h with arr:=h.arr.keep (hc.old g (h.arr.lt hw) (hx g (ho g (.inl rfl)))),sg:=h.sg.chg hw hc fun y hy=>hx y (ho y (.inr (.inl hy))),jag:=h.jag.chg hw hc fun y hy=>hx y (ho y (.inr (.inr (.inl hy)))),en:=h.en.chg hw hc fun y hy=>hx y (ho y (.inr (.inr (.inr (.inl hy))))),co:=h.co.chg hw hc fun y hy=>hx y (ho y (.inr (.inr (.inr (.inr hy))))) },ho⟩
theorem GrX.kept (h:GrX H X g sigma rows ends costs) (hw:Wf H) (hk:Kept H H'):GrX H' X g sigma rows ends costs:=h.chg hw (hk.chg (X:=none')) fun _ _ h=>h
theorem GrX.read (h:GrX H X g sigma rows ends costs):∃ sv av ev cv vals,GrR H g sv av ev cv vals sigma rows ends costs:=by
 obtain ⟨sv,av,ev,cv,os,ot,oe,oc,vals,obs,h,_⟩:=h
 exact ⟨sv,av,ev,cv,vals,h.arr,h.sg.toSl,h.jag.read,h.en.toSl,h.co.toSl⟩
end
end Go.Proofs.Sh
/- Words of an automaton, by their length and in order; which lengths they have. -/
namespace Go.Proofs.Sh
open Go
noncomputable def tB (p:Prop):Bool:=@decide p (Classical.propDecidable p)
theorem A0s {p:Prop}:tB p=true↔p:=@decide_eq_true_iff p (Classical.propDecidable p)
theorem tB_congr {p q:Prop} (h:p↔q):tB p=tB q:=by rw [propext h]
section
variable {α β:Type}
def allW (A:List α):Nat→List (List α)
 | 0=>[[]]
 | n+1=>A.flatMap fun a=>(allW A n).map (a :: ·)
theorem A95 {A:List α}:∀ {n:Nat} {u:List α},u∈allW A n↔u.length=n∧∀ x∈u,x∈A
 | 0, u => by simp only [allW, List.mem_singleton]; constructor
              · rintro rfl; exact ⟨rfl, fun x hx => by cases hx⟩
              · rintro ⟨h, _⟩; exact List.length_eq_zero_iff.1 h
 | n+1,u=>by
  simp only [allW,List.mem_flatMap,List.mem_map]
  constructor
  ·rintro ⟨a,ha,v,hv,rfl⟩
   obtain ⟨h1,h2⟩:=A95.1 hv
   exact ⟨by simp [h1],fun x hx=>by
    rcases List.mem_cons.1 hx with rfl | hx
    ·exact ha
    ·exact h2 x hx⟩
  ·rintro ⟨h1,h2⟩
   cases u with
   | nil=>cases h1
   | cons a v=>exact ⟨a,h2 a List.mem_cons_self,v,A95.2 ⟨by simpa using h1,fun x hx=>h2 x (List.mem_cons_of_mem _ hx)⟩,rfl⟩
theorem C9b (f:α→β) (A:List α):∀ (n:Nat),allW (A.map f) n=(allW A n).map (List.map f)
 | 0=>rfl
 | n+1=>by
  simp only [allW,C9b f A n,List.flatMap_map,List.map_flatMap,List.map_map]
  rfl
noncomputable def lexW (A:List α) (p:List α→Prop) (n:Nat):List (List α):=(allW A n).filter fun u=>tB (p u)
theorem B2t {A:List α} {p:List α→Prop} {n:Nat} {u:List α}:u∈lexW A p n↔(u.length=n∧∀ x∈u,x∈A)∧p u:=by
 unfold lexW
 rw [List.mem_filter,A95,A0s]
theorem B3w (A:List α) (p:List α→Prop):lexW A p 0=if tB (p [])=true then [[]] else []:=by
 unfold lexW allW
 rw [List.filter_cons]
 rfl
theorem B40 (A:List α) (p:List α→Prop) (n:Nat):lexW A p (n+1)=A.flatMap fun a=>(lexW A (fun w=>p (a :: w)) n).map (a :: ·):=by
 unfold lexW
 simp only [allW,List.filter_flatMap,List.filter_map]
 rfl
theorem B01 {A:List α} {p:List α→Prop} {n:Nat} (h:∀ u,u.length=n→¬p u):lexW A p n=[]:=by
 unfold lexW
 rw [List.filter_eq_nil_iff]
 intro u hu hp
 exact h u (A95.1 hu).1 (A0s.1 hp)
theorem B5q {A:List α} {p q:List α→Prop} {n:Nat} (h:∀ u,u.length=n→(∀ x∈u,x∈A)→(p u↔q u)):lexW A p n=lexW A q n:=by
 unfold lexW
 refine List.filter_congr fun u hu=>?_
 obtain ⟨h1,h2⟩:=A95.1 hu
 exact tB_congr (h u h1 h2)
theorem lexW_map (f:α→β) (A:List α) (q:List β→Prop) (n:Nat):lexW (A.map f) q n=(lexW A (fun u=>q (u.map f)) n).map (List.map f):=by
 unfold lexW
 rw [C9b,List.filter_map]
 rfl
noncomputable def B4l (A:List α) (p:List α→Prop) (M:Nat):List (List α):=(List.range (M+1)).flatMap (lexW A p)
theorem B6e {A:List α} {p:List α→Prop} {M:Nat} {u:List α}:u∈B4l A p M↔(u.length≤M∧∀ x∈u,x∈A)∧p u:=by
 unfold B4l
 simp only [List.mem_flatMap,List.mem_range,B2t]
 constructor
 ·rintro ⟨m,h1,⟨h2,h3⟩,h4⟩; exact ⟨⟨by omega,h3⟩,h4⟩
 ·rintro ⟨⟨h1,h2⟩,h3⟩; exact ⟨u.length,by omega,⟨rfl,h2⟩,h3⟩
theorem C0y (f:α→β) (A:List α) (q:List β→Prop) (M:Nat):B4l (A.map f) q M=(B4l A (fun u=>q (u.map f)) M).map (List.map f):=by
 unfold B4l
 rw [List.map_flatMap]
 congr 1
 funext n
 exact lexW_map f A q n
theorem B5d {A:List α} {p q:List α→Prop} {M:Nat} (h:∀ u,(∀ x∈u,x∈A)→(p u↔q u)):B4l A p M=B4l A q M:=by
 unfold B4l
 congr 1
 funext n
 exact B5q fun u _ h2=>h u h2
theorem B8b (l m:List α) (n:Nat):(l.take n++m).take n=(l++m).take n:=by
 rw [List.take_append,List.take_append,List.take_take,Nat.min_self,List.length_take]
 by_cases h:l.length≤n
 ·rw [Nat.min_eq_right h]
 ·rw [Nat.min_eq_left (by omega),Nat.sub_self,show n - l.length=0 by omega]
end
section
variable {E:Nat→Nat→Prop} {A:Nat→Nat→Nat→Prop} {end_:Nat→Prop}
def A8g (E:Nat→Nat→Prop) (any:Nat→Nat→Prop) (end_:Nat→Prop):Nat→Nat→Prop
 | 0=>Clo (fun s t=>E t s) end_
 | m+1=>Clo (fun s t=>E t s) fun s=>∃ t,any s t∧A8g E any end_ m t
def accS {L:Type} (E:Nat→Nat→Prop) (A:L→Nat→Nat→Prop) (end_:Nat→Prop) (S:Nat→Prop) (w:List L):Prop:=∃ t,RunS E A S w t∧end_ t
theorem A6n {E:Nat→Nat→Prop} {B:Nat→Prop} {t:Nat}:Clo E B t↔∃ s,B s∧Clo E (fun x=>x=s) t:=by
 constructor
 ·exact fun h=>h.of (Q:=fun t=>∃ s,B s∧Clo E (fun x=>x=s) t) (fun s hs=>⟨s,hs,.base rfl⟩) fun a b ⟨s,h1,h2⟩ hr=>⟨s,h1,.step h2 hr⟩
 ·rintro ⟨s,h1,h2⟩
  exact h2.of (Q:=fun t=>Clo E B t) (fun x hx=>by rw [hx]; exact .base h1) fun a b ha hb=>.step ha hb
theorem B1c {E:Nat→Nat→Prop} {s t:Nat} (h:Clo E (fun x=>x=s) t):Clo (fun a b=>E b a) (fun x=>x=t) s:=by
 refine h.of (Q:=fun t=>Clo (fun a b=>E b a) (fun x=>x=t) s) (fun x hx=>.base hx.symm) fun a b ha hb=>?_
 exact ha.of (Q:=fun s=>Clo (fun a b=>E b a) (fun x=>x=b) s) (fun x hx=>by rw [hx]; exact .step (.base rfl) hb) fun c d hc hd=>.step hc hd
theorem A5r {E:Nat→Nat→Prop} {B:Nat→Prop} {s:Nat}:Clo (fun a b=>E b a) B s↔∃ u,Clo E (fun x=>x=s) u∧B u:=by
 rw [A6n]
 constructor
 ·rintro ⟨u,h1,h2⟩; exact ⟨u,B1c h2,h1⟩
 ·rintro ⟨u,h1,h2⟩; exact ⟨u,h2,B1c h1⟩
theorem A40 {E:Nat→Nat→Prop} {S:Nat→Prop} (hS:∀ s t,S s→E s t→S t) {t:Nat}:Clo E S t↔S t:=⟨fun h=>h.of (fun _ h=>h) fun s t h1 h2=>hS s t h1 h2,.base⟩
theorem A9n {any:Nat→Nat→Prop} {m s u:Nat} (h1:Clo E (fun x=>x=s) u) (h2:A8g E any end_ m u):A8g E any end_ m s:=by
 cases m with
 | zero=>
  obtain ⟨v,h3,h4⟩:=A5r.1 h2
  exact A5r.2 ⟨v,h3.of (Q:=fun v=>Clo E (fun x=>x=s) v) (fun x hx=>by rw [hx]; exact h1) fun a b ha hb=>.step ha hb,h4⟩
 | succ m=>
  obtain ⟨v,h3,h4⟩:=A5r.1 h2
  exact A5r.2 ⟨v,h3.of (Q:=fun v=>Clo E (fun x=>x=s) v) (fun x hx=>by rw [hx]; exact h1) fun a b ha hb=>.step ha hb,h4⟩
theorem A7n {L:Type} {A:L→Nat→Nat→Prop} {any:Nat→Nat→Prop} (hA:∀ k s t,A k s t→any s t):∀ {w:List L} {S:Nat→Prop},accS E A end_ S w→∃ s,S s∧A8g E any end_ w.length s
 | [],S,⟨t,h1,h2⟩=>⟨t,h1,.base h2⟩
 | k :: w,S,⟨t,h1,h2⟩=>by
  obtain ⟨u,h3,h4⟩:=A7n hA (w:=w) (S:=Clo E fun t=>∃ s,S s∧A k s t) ⟨t,h1,h2⟩
  obtain ⟨v,⟨s,h5,h6⟩,h7⟩:=A6n.1 h3
  exact ⟨s,h5,.base ⟨v,hA k s v h6,A9n h7 h4⟩⟩
theorem A5w {L:Type} {A:L→Nat→Nat→Prop} {any:Nat→Nat→Prop} {q:L→Prop} (hA:∀ s t,any s t→∃ k,q k∧A k s t):∀ {m:Nat} {S:Nat→Prop},(∀ s t,S s→E s t→S t)→(∃ s,S s∧A8g E any end_ m s)→∃ w:List L,(w.length=m∧∀ x∈w,q x)∧accS E A end_ S w
 | 0,S,hS,⟨s,h1,h2⟩=>by
  obtain ⟨u,h3,h4⟩:=A5r.1 h2
  exact ⟨[],⟨rfl,fun x hx=>by cases hx⟩,u,(A40 hS).1 (A6n.2 ⟨s,h1,h3⟩),h4⟩
 | m+1,S,hS,⟨s,h1,h2⟩=>by
  obtain ⟨u,h3,v,h4,h5⟩:=A5r.1 h2
  have hu:=(A40 hS).1 (A6n.2 ⟨s,h1,h3⟩)
  obtain ⟨k,hk,h6⟩:=hA u v h4
  obtain ⟨w,⟨h7,h9⟩,h8⟩:=A5w hA (m:=m) (S:=Clo E fun t=>∃ s,S s∧A k s t) (fun a b ha hb=>.step ha hb) ⟨v,.base ⟨u,hu,h6⟩,h5⟩
  exact ⟨k :: w,⟨by simp [h7],fun x hx=>by
   rcases List.mem_cons.1 hx with rfl | hx
   ·exact hk
   ·exact h9 x hx⟩,h8⟩
theorem A1w {L:Type} {A:L→Nat→Nat→Prop}:∀ {w:List L} {S:Nat→Prop} {t:Nat},RunS E A S w t↔∃ s,S s∧RunS E A (fun x=>x=s) w t
 | [],S,t=>by simp [RunS]
 | k :: w,S,t=>by
  simp only [RunS]
  rw [A1w]
  constructor
  ·rintro ⟨u,h1,h2⟩
   obtain ⟨v,⟨s,h3,h4⟩,h5⟩:=A6n.1 h1
   exact ⟨s,h3,A1w.2 ⟨u,A6n.2 ⟨v,⟨s,rfl,h4⟩,h5⟩,h2⟩⟩
  ·rintro ⟨s,h1,h2⟩
   obtain ⟨u,h3,h4⟩:=A1w.1 h2
   obtain ⟨v,⟨s',h5,h6⟩,h7⟩:=A6n.1 h3
   subst h5
   exact ⟨u,A6n.2 ⟨v,⟨s',h1,h6⟩,h7⟩,h4⟩
theorem acc_keep {L:Type} {A:L→Nat→Nat→Prop} {any:Nat→Nat→Prop} (hA:∀ k s t,A k s t→any s t) {w:List L} {S:Nat→Prop}:accS E A end_ S w↔accS E A end_ (fun s=>S s∧A8g E any end_ w.length s) w:=by
 constructor
 ·rintro ⟨t,h1,h2⟩
  obtain ⟨s,h3,h4⟩:=A1w.1 h1
  obtain ⟨s',h5,h6⟩:=A7n hA (w:=w) (S:=fun x=>x=s) ⟨t,h4,h2⟩
  subst h5
  exact ⟨t,A1w.2 ⟨s',⟨h3,h6⟩,h4⟩,h2⟩
 ·rintro ⟨t,h1,h2⟩
  obtain ⟨s,h3,h4⟩:=A1w.1 h1
  exact ⟨t,A1w.2 ⟨s,h3.1,h4⟩,h2⟩
def Jump (E any:Nat→Nat→Prop) (s t:Nat):Prop:=∃ u,Clo E (fun x=>x=s) u∧any u t
theorem A6l {any:Nat→Nat→Prop} {m s:Nat}:A8g E any end_ (m+1) s↔∃ t,Jump E any s t∧A8g E any end_ m t:=by
 show Clo (fun a b=>E b a) _ s↔_
 rw [A5r]
 constructor
 ·rintro ⟨u,h1,t,h2,h3⟩; exact ⟨t,⟨u,h1,h2⟩,h3⟩
 ·rintro ⟨t,⟨u,h1,h2⟩,h3⟩; exact ⟨u,h1,t,h2,h3⟩
theorem A4w {any:Nat→Nat→Prop}:∀ {m s:Nat},A8g E any end_ m s↔∃ q:Nat→Nat,q 0=s∧(∀ i < m,Jump E any (q i) (q (i+1)))∧A8g E any end_ 0 (q m)
 | 0,s=>⟨fun h=>⟨fun _=>s,rfl,fun i hi=>absurd hi (Nat.not_lt_zero i),h⟩,fun ⟨q,h1,_,h3⟩=>h1 ▸ h3⟩
 | m+1,s=>by
  rw [A6l]
  constructor
  ·rintro ⟨t,h1,h2⟩
   obtain ⟨q,h3,h4,h5⟩:=A4w.1 h2
   refine ⟨fun i=>match i with | 0=>s | i+1=>q i,rfl,fun i hi=>?_,h5⟩
   cases i with
   | zero=>show Jump E any s (q 0); rw [h3]; exact h1
   | succ i=>exact h4 i (by omega)
  ·rintro ⟨q,h1,h2,h3⟩
   exact ⟨q 1,h1 ▸ h2 0 (by omega),A4w.2 ⟨fun i=>q (i+1),rfl,fun i hi=>h2 (i+1) (by omega),h3⟩⟩
def A6m (E any:Nat→Nat→Prop) (end_:Nat→Prop):Nat→Nat→Prop
 | 0=>Clo (fun a b=>E b a∨any b a) end_
 | m+1=>Clo (fun a b=>E b a) fun s=>∃ t,any s t∧A6m E any end_ m t
theorem A8s {any:Nat→Nat→Prop}:∀ {m s:Nat},A6m E any end_ m s↔∃ j,A8g E any end_ (m+j) s
 | 0,s=>by
  constructor
  ·intro h
   refine h.of (Q:=fun s=>∃ j,A8g E any end_ (0+j) s) (fun s hs=>⟨0,.base hs⟩) fun a b ⟨j,hj⟩ hab=>?_
   rcases hab with h1 | h1
   ·exact ⟨j,A9n (.step (.base rfl) h1) hj⟩
   ·refine ⟨j+1,?_⟩
    rw [show 0+(j+1)=(0+j)+1 by omega]
    exact .base ⟨a,h1,hj⟩
  ·rintro ⟨j,hj⟩
   rw [Nat.zero_add] at hj
   have hup:∀ {x u},Clo E (fun y=>y=x) u→Clo (fun a b=>E b a∨any b a) end_ u→Clo (fun a b=>E b a∨any b a) end_ x:=fun {x u} h1 h2=>
    h1.of (Q:=fun u=>Clo (fun a b=>E b a∨any b a) end_ u→Clo (fun a b=>E b a∨any b a) end_ x) (fun y hy h=>by rw [← hy]; exact h) (fun a b ha hb h=>ha (.step h (.inl hb))) h2
   induction j generalizing s with
   | zero=>
    obtain ⟨u,h1,h2⟩:=A5r.1 hj
    exact hup h1 (.base h2)
   | succ j ih=>
    obtain ⟨t,⟨u,h1,h2⟩,h3⟩:=A6l.1 hj
    exact hup h1 (.step (ih t h3) (.inr h2))
 | m+1,s=>by
  show Clo (fun a b=>E b a) _ s↔_
  rw [A5r]
  constructor
  ·rintro ⟨u,h1,t,h2,h3⟩
   obtain ⟨j,hj⟩:=A8s.1 h3
   exact ⟨j,by rw [show m+1+j=(m+j)+1 by omega]; exact A6l.2 ⟨t,⟨u,h1,h2⟩,hj⟩⟩
  ·rintro ⟨j,hj⟩
   rw [show m+1+j=(m+j)+1 by omega] at hj
   obtain ⟨t,⟨u,h1,h2⟩,h3⟩:=A6l.1 hj
   exact ⟨u,h1,t,h2,A8s.2 ⟨j,h3⟩⟩
end
end Go.Proofs.Sh
/- Ways through an automaton; an automaton of the useful states alone. -/
namespace Go.Proofs.Sh
open Go
inductive Way {L:Type} (E:Nat→Nat→Prop) (A:L→Nat→Nat→Prop):Nat→List L→Nat→Prop
 | nil (s:Nat):Way E A s [] s
 | eps {s t u:Nat} {w:List L}:E s t→Way E A t w u→Way E A s w u
 | sym {s t u:Nat} {k:L} {w:List L}:A k s t→Way E A t w u→Way E A s (k :: w) u
section
variable {L:Type} {E:Nat→Nat→Prop} {A:L→Nat→Nat→Prop}
theorem Way.pre {s t u:Nat} {w:List L} (h:Clo E (fun x=>x=s) t) (k:Way E A t w u):Way E A s w u:=
 h.of (Q:=fun t=>∀ {w},Way E A t w u→Way E A s w u) (fun x hx w k=>by rw [← hx]; exact k) (fun a b ha hb w k=>ha (.eps hb k)) k
theorem way_nil {s t:Nat} {w:List L} (h:Way E A s w t) (hw:w=[]):Clo E (fun x=>x=s) t:=by
 induction h with
 | nil s=>exact .base rfl
 | eps h1 _ ih=>exact A6n.2 ⟨_,.step (.base rfl) h1,ih hw⟩ |>.of (Q:=fun t=>Clo E (fun x=>x=_) t) (fun _ h=>h) fun _ _ h1 h2=>.step h1 h2
 | sym _ _ _=>cases hw
theorem way_cons {s t:Nat} {w:List L} (h:Way E A s w t) {k:L} {v:List L} (hw:w=k :: v):∃ a b,Clo E (fun x=>x=s) a∧A k a b∧Way E A b v t:=by
 induction h with
 | nil s=>cases hw
 | eps h1 _ ih=>
  obtain ⟨a,b,h2,h3,h4⟩:=ih hw
  exact ⟨a,b,(A6n.2 ⟨_,.step (.base rfl) h1,h2⟩:Clo E (Clo E fun x=>x=_) a).of (Q:=fun t=>Clo E (fun x=>x=_) t) (fun _ h=>h) fun _ _ h1 h2=>.step h1 h2,h3,h4⟩
 | sym h1 h2 _=>
  injection hw with e1 e2
  subst e1 e2
  exact ⟨_,_,.base rfl,h1,h2⟩
theorem C9c:∀ {w:List L} {S:Nat→Prop} {t:Nat},RunS E A (Clo E S) w t↔∃ s,S s∧Way E A s w t
 | [],S,t=>by
  show Clo E S t↔_
  rw [A6n]
  exact ⟨fun ⟨s,h1,h2⟩=>⟨s,h1,.pre h2 (.nil _)⟩,fun ⟨s,h1,h2⟩=>⟨s,h1,way_nil h2 rfl⟩⟩
 | k :: w,S,t=>by
  simp only [RunS]
  rw [C9c]
  constructor
  ·rintro ⟨b,⟨a,h1,h2⟩,h3⟩
   obtain ⟨s,h4,h5⟩:=A6n.1 h1
   exact ⟨s,h4,.pre h5 (.sym h2 h3)⟩
  ·rintro ⟨s,h1,h2⟩
   obtain ⟨a,b,h3,h4,h5⟩:=way_cons h2 rfl
   exact ⟨b,⟨a,A6n.2 ⟨s,h1,h3⟩,h4⟩,h5⟩
end
section
variable {ed ed':Int→Nat→Nat→Prop} {us:Nat→Prop} {f:Nat→Nat} {end_ end':Nat→Prop}
def B1m (ed:Int→Nat→Nat→Prop) (s t:Nat):Prop:=∃ x,x < 0∧ed x s t
def C3n (ed:Int→Nat→Nat→Prop) (k:Nat) (s t:Nat):Prop:=ed (k:Int) s t
structure TrimOf (ed ed':Int→Nat→Nat→Prop) (us:Nat→Prop) (f:Nat→Nat) (end_ end':Nat→Prop):Prop where
 edge:∀ x a b,ed' x a b↔∃ s t,us s∧us t∧a=f s∧b=f t∧ed x s t
 fin:∀ a,end' a↔∃ s,us s∧a=f s∧end_ s
 f0:f 0=0
 inj:∀ s t,us s∨s=0→us t∨t=0→f s=f t→s=t
 use:∀ s,us s↔Clo (fun s t=>∃ x,ed x s t) (fun s=>s=0) s∧Clo (fun s t=>∃ x,ed x t s) end_ s
theorem TrimOf.down (h:TrimOf ed ed' us f end_ end') {a b:Nat} {w:List Nat} (hw:Way (B1m ed') (C3n ed') a w b):∀ s,a=f s→us s∨s=0→∃ t,b=f t∧(us t∨t=0)∧Way (B1m ed) (C3n ed) s w t:=by
 induction hw with
 | nil a=>exact fun s e hs=>⟨s,e,hs,.nil s⟩
 | eps h1 _ ih=>
  intro s e hs
  obtain ⟨x,hx,h2⟩:=h1
  obtain ⟨s',t,h3,h4,h5,h6,h7⟩:=(h.edge x _ _).1 h2
  have:=h.inj s s' hs (.inl h3) (by rw [← e,h5])
  subst this
  obtain ⟨u,h8,h9,h10⟩:=ih t h6 (.inl h4)
  exact ⟨u,h8,h9,.eps ⟨x,hx,h7⟩ h10⟩
 | sym h1 _ ih=>
  intro s e hs
  obtain ⟨s',t,h3,h4,h5,h6,h7⟩:=(h.edge _ _ _).1 h1
  have:=h.inj s s' hs (.inl h3) (by rw [← e,h5])
  subst this
  obtain ⟨u,h8,h9,h10⟩:=ih t h6 (.inl h4)
  exact ⟨u,h8,h9,.sym h7 h10⟩
theorem TrimOf.up (h:TrimOf ed ed' us f end_ end') {s t:Nat} {w:List Nat} (hw:Way (B1m ed) (C3n ed) s w t):Clo (fun s t=>∃ x,ed x s t) (fun s=>s=0) s→end_ t→us s∧us t∧Way (B1m ed') (C3n ed') (f s) w (f t):=by
 induction hw with
 | nil s=>exact fun h1 h2=>⟨(h.use s).2 ⟨h1,.base h2⟩,(h.use s).2 ⟨h1,.base h2⟩,.nil _⟩
 | eps h1 _ ih=>
  intro h2 h3
  obtain ⟨x,hx,h4⟩:=h1
  obtain ⟨h5,h6,h7⟩:=ih (.step h2 ⟨x,h4⟩) h3
  have hs:=(h.use _).2 ⟨h2,.step ((h.use _).1 h5).2 ⟨x,h4⟩⟩
  exact ⟨hs,h6,.eps ⟨x,hx,(h.edge x _ _).2 ⟨_,_,hs,h5,rfl,rfl,h4⟩⟩ h7⟩
 | sym h1 _ ih=>
  intro h2 h3
  obtain ⟨h5,h6,h7⟩:=ih (.step h2 ⟨_,h1⟩) h3
  have hs:=(h.use _).2 ⟨h2,.step ((h.use _).1 h5).2 ⟨_,h1⟩⟩
  exact ⟨hs,h6,.sym ((h.edge _ _ _).2 ⟨_,_,hs,h5,rfl,rfl,h1⟩) h7⟩
theorem TrimOf.acc (h:TrimOf ed ed' us f end_ end') (w:List Nat):accS (B1m ed') (C3n ed') end' (Clo (B1m ed') fun s=>s=0) w↔accS (B1m ed) (C3n ed) end_ (Clo (B1m ed) fun s=>s=0) w:=by
 unfold accS
 simp only [C9c]
 constructor
 ·rintro ⟨b,⟨a,rfl,h1⟩,h2⟩
  obtain ⟨t,h3,h4,h5⟩:=h.down h1 0 h.f0.symm (.inr rfl)
  obtain ⟨s,h6,h7,h8⟩:=(h.fin b).1 h2
  have:=h.inj t s h4 (.inl h6) (by rw [← h3,h7])
  subst this
  exact ⟨t,⟨0,rfl,h5⟩,h8⟩
 ·rintro ⟨t,⟨s,rfl,h1⟩,h2⟩
  obtain ⟨h3,h4,h5⟩:=h.up h1 (.base rfl) h2
  rw [h.f0] at h5
  exact ⟨f t,⟨0,rfl,h5⟩,(h.fin _).2 ⟨t,h4,rfl,h2⟩⟩
end
theorem wp_from {P:Program} {O:A4d} {c:Code} {S:List Item} {Q:Fr→AH→Prop} {F:Fr} {H:AH} (n t i0:Nat) (W:List Nat) (I:Nat→Fr→AH→Prop)
  (hi0:i0≤n) (ht:F.get t=some (.int .i64 (i0:Int))) (h0:I i0 F H)
  (step:∀ i F' H',i0≤i→i < n→Same W F F'→F'.get t=some (.int .i64 (i:Int))→I i F' H'→
   (∀ F'' H'',Same W F' F''→F''.get t=some (.int .i64 ((i+1:Nat):Int))→I (i+1) F'' H''→wp P O (.inLoop c :: S) Q F'' H'')→wp P O (.code c :: .inLoop c :: S) Q F' H')
  (done:∀ F' H',Same W F F'→F'.get t=some (.int .i64 (n:Int))→I n F' H'→wp P O (.code c :: .inLoop c :: S) Q F' H'):
  wp P O (.inLoop c :: S) Q F H:=by
 refine A3w n (fun i F' H'=>i0≤i∧Same W F F'∧F'.get t=some (.int .i64 (i:Int))∧I i F' H') hi0 ⟨Nat.le_refl _,Same.rfl' F,ht,h0⟩ ?_
 rintro i F' H' hi ⟨h,h1,h2,h3⟩ k
 by_cases hlt:i < n
 ·exact step i F' H' h hlt h1 h2 h3 fun F'' H'' s1 s2 s3=>k F'' H'' hlt ⟨Nat.le_succ_of_le h,h1.trans s1,s2,s3⟩
 ·have:i=n:=by omega
  subst this
  exact done F' H' h1 h2 h3
theorem Buf.spot {P:Program} {t e:Nat} {H:AH} {v:Value} {l:List (List Value)} {b:Option Nat} (hu:P.underlying t=some (.slice e)) (hs:A9b P e=some 1) (h:Buf H 1 v l b) (hw:Wf H) {i:Nat} {u:Value} (hx:l[i]?=some [u]):
  ∃ p,A9a P t v (.int .i64 (i:Int))=some (.pointer (some p))∧H.cell p=some u∧∀ w,∃ H',H.write p [w]=some H'∧Buf H' 1 v (l.set i [w]) b∧Chg (fun y=>b=some y) H H'∧H'.next=H.next:=by
 obtain ⟨p0,h1,h2⟩:=Sl.elem (s:=1) hu hs h.toSl hx
 refine ⟨p0,h1,h2,fun w=>?_⟩
 obtain ⟨p,H',e1,e2,e3,e4,e5⟩:=h.set (P:=P) hw (x:=[w]) (List.getElem?_eq_some_iff.1 hx).1 rfl
 have:=e1 hu hs (j:=.i64)
 rw [h1] at this
 injection this with this; injection this with this; injection this with this
 subst this
 exact ⟨H',e2,e3,e4,e5⟩
def A3p (U:List Bool):Nat→Nat
 | 0=>0
 | t+1=>A3p U t+(if 1≤t∧U[t]?=some true then 1 else 0)
def numU (U:List Bool) (t:Nat):Nat:=if 1≤t∧U[t]?=some true then 1+A3p U t else 0
theorem B9o (U:List Bool) {s t:Nat} (h:s≤t):A3p U s≤A3p U t:=by
 induction h with
 | refl=>exact Nat.le_refl _
 | step _ ih=>exact Nat.le_trans ih (Nat.le_add_right _ _)
theorem C4j (U:List Bool) (t:Nat):A3p U t≤t:=by
 induction t with
 | zero=>exact Nat.le_refl _
 | succ t ih=>unfold A3p; split <;> omega
theorem C8y {U:List Bool} {s n:Nat} (hs:s < n):numU U s < 1+A3p U n:=by
 unfold numU
 split
 ·rename_i h
  have:=B9o U (s:=s+1) (t:=n) hs
  rw [A3p,if_pos h] at this
  omega
 ·omega
theorem B1t {U:List Bool} {s t:Nat} (hs:U[s]?=some true∨s=0) (ht:U[t]?=some true∨t=0) (h:numU U s=numU U t):s=t:=by
 have key:∀ {a b:Nat},a < b→U[a]?=some true∨a=0→U[b]?=some true∨b=0→numU U a≠numU U b:=by
  intro a b hab ha hb
  have hb':1≤b∧U[b]?=some true:=⟨by omega,hb.resolve_right (by omega)⟩
  unfold numU
  rw [if_pos hb']
  split
  ·rename_i h
   have:=B9o U (s:=a+1) (t:=b) hab
   rw [A3p,if_pos h] at this
   omega
  ·omega
 rcases Nat.lt_trichotomy s t with h1 | h1 | h1
 ·exact absurd h (key h1 hs ht)
 ·exact h1
 ·exact absurd h.symm (key h1 ht hs)
theorem B44 (U:List Bool):numU U 0=0:=by unfold numU; rw [if_neg (by omega)]
def numL (U:List Bool) (n i:Nat):List Nat:=(List.range n).map fun t=>if t < i then numU U t else 0
theorem A26 {U:List Bool} {n i t:Nat} (h:t < n):(numL U n i)[t]?=some (if t < i then numU U t else 0):=by simp [numL,h]
theorem numL_one (U:List Bool) (n:Nat):numL U n 1=List.replicate n 0:=by
 refine List.ext_getElem? fun t=>?_
 by_cases h:t < n
 ·rw [A26 h,List.getElem?_replicate,if_pos h]
  split
  ·rw [show t=0 by omega,B44]
  ·rfl
 ·rw [List.getElem?_eq_none (by simp [numL]; omega),List.getElem?_eq_none (by simp; omega)]
theorem C4t {U:List Bool} {n i:Nat} (h:numU U i=0):numL U n (i+1)=numL U n i:=by
 unfold numL
 refine List.map_congr_left fun t _=>?_
 by_cases h1:t < i
 ·rw [if_pos h1,if_pos (by omega)]
 ·rw [if_neg h1]
  split
  ·rw [show t=i by omega,h]
  ·rfl
theorem numL_set {U:List Bool} {n i:Nat}:numL U n (i+1)=(numL U n i).set i (numU U i):=by
 refine List.ext_getElem? fun t=>?_
 have hl:(numL U n i).length=n:=by simp [numL]
 by_cases h:t < n
 ·rw [A26 h,List.getElem?_set,hl]
  by_cases h1:i=t
  ·subst h1; rw [if_pos rfl,if_pos h,if_pos (by omega)]
  ·rw [if_neg h1,A26 h]
   congr 1
   by_cases h2:t < i
   ·rw [if_pos h2,if_pos (by omega)]
   ·rw [if_neg h2,if_neg (by omega)]
 ·rw [List.getElem?_eq_none (by simp [numL]; omega),List.getElem?_eq_none (by rw [List.length_set,hl]; omega)]
def B9b (H H':AH) (r:Value) (n:Nat) (Q:Nat→Prop):Prop:=Kept H H'∧∃ B:List Bool,∃ o,Buf H' 1 r (B.map A3l) o∧(∀ y,o=some y→H.next≤y)∧B.length=n∧∀ t:Nat,B[t]?=some true↔Q t
end Go.Proofs.Sh
