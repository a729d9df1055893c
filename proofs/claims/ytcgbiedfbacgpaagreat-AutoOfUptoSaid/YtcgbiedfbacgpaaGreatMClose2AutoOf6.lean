/- A part of the proof: ShMaps, ShMade, ShRev, ShWords, ShWays, ShTrie. -/
import Derived.Test.YtcgbiedfbacgpaaGreatMClose2AutoOf4
set_option linter.unusedVariables false
set_option linter.unusedSimpArgs false
/- Maps in memory; stacks; the program's graph that is read. -/
set_option linter.unusedVariables false
set_option linter.unusedSimpArgs false
set_option linter.unusedSectionVars false
namespace Go.Proofs.Sh
open Go
section
variable {α:Type} [DecidableEq α] {P:Program} {H:AH}
structure MapIs (H:AH) (g:Nat) (f:α→Value) (l:List (α×Value)):Prop where
 ob:H.objs.get g=some (.map (l.map fun p=>(f p.1,p.2)))
theorem MapIs.keep {H':AH} {g:Nat} {f:α→Value} {l:List (α×Value)} (h:MapIs H g f l) (hg:H'.objs.get g=H.objs.get g):MapIs H' g f l:=⟨by rw [hg]; exact h.ob⟩
theorem MapIs.lt {g:Nat} {f:α→Value} {l:List (α×Value)} (h:MapIs H g f l) (hw:Wf H):g < H.next:=hw _ _ h.ob
theorem B1f {kt:Nat} {f:α→Value} (heq:∀ a b,eqT P A4g kt (f a) (f b)=some (decide (a=b))) (a:α):∀ (l:List (α×Value)) (i:Nat),
    B1s P kt (f a) (l.map fun p => (f p.1, p.2)) i = some ((l.findIdx? fun p => decide (a = p.1)).map (· + i))
  | [],_=>rfl
  | p :: l,i=>by
    simp only [List.map_cons,B1s,heq,List.findIdx?_cons]
    by_cases h:a=p.1
    · simp [h]
    · simp only [decide_eq_false h,Bool.false_eq_true,if_false]
      rw [B1f heq a l (i+1)]
      cases l.findIdx? fun p=>decide (a=p.1) with
      | none=>rfl
      | some k=>simp; omega
def A7p (l:List (α×Value)) (a:α):Option Value:=(l.find? fun p=>decide (a=p.1)).map (·.2)
theorem MapIs.look {t kt e g:Nat} {z:Value} {f:α→Value} {l:List (α×Value)} {ok:Bool} (hu:P.underlying t=some (.map kt e)) (hz:zeroAt P e=some z) (hk:∀ a,A0n P kt (f a)=true) (heq:∀ a b,eqT P A4g kt (f a) (f b)=some (decide (a=b)))
    (h:MapIs H g f l) (a:α):A2q P t (.map (some g)) (f a) ok H=some (bif ok then .tuple #[(A7p l a).getD z,.bool (A7p l a).isSome] else (A7p l a).getD z):=by
  unfold A2q
  simp only [hu,entries,h.ob,Option.bind_some,hk a,cond_true,B1f heq a l 0,Option.map_id']
  have : (l.findIdx? fun p => decide (a = p.1)).map (· + 0) = l.findIdx? fun p => decide (a = p.1) := by cases l.findIdx? fun p => decide (a = p.1) <;> rfl
  rw [this]
  have key:found P e (l.map fun p=>(f p.1,p.2)) (l.findIdx? fun p=>decide (a=p.1))=some ((A7p l a).getD z,(A7p l a).isSome):=by
    cases hi:l.findIdx? fun p=>decide (a=p.1) with
    | none=>
      rw [List.findIdx?_eq_none_iff] at hi
      have:l.find? (fun p=>decide (a=p.1))=none:=List.find?_eq_none.2 fun p hp=>by simpa using hi p hp
      simp [found,A7p,this,hz]
    | some i=>
      obtain ⟨h1,h2,h3⟩:=List.findIdx?_eq_some_iff_getElem.1 hi
      have:l.find? (fun p=>decide (a=p.1))=some l[i]:=by
        rw [List.find?_eq_some_iff_getElem]
        exact ⟨h2,i,h1,rfl,fun j hj=>by simpa using h3 j hj⟩
      simp [found,A7p,this,h1]
  rw [key]
  cases ok <;> rfl
theorem MapIs.add {t kt e g:Nat} {f:α→Value} {l:List (α×Value)} (hu:P.underlying t=some (.map kt e)) (hk:∀ a,A0n P kt (f a)=true) (heq:∀ a b,eqT P A4g kt (f a) (f b)=some (decide (a=b)))
  (h:MapIs H g f l) (hw:Wf H) {a:α} (ha:A7p l a=none) (v:Value):∃ H',A2g P t (.map (some g)) (f a) v H=some H'∧MapIs H' g f (l++[(a,v)])∧Chg (fun y=>y=g) H H'∧H'.next=H.next:=by
 have hi:l.findIdx? (fun p=>decide (a=p.1))=none:=by
  rw [List.findIdx?_eq_none_iff]
  intro p hp
  unfold A7p at ha
  rw [Option.map_eq_none_iff,List.find?_eq_none] at ha
  simpa using ha p hp
 refine ⟨H.put g (.map ((l++[(a,v)]).map fun (p:α×Value)=>(f p.1,p.2))),?_,⟨Tr.get_set_eq _ _ _⟩,Chg.put (X:=fun y=>y=g) hw (h.lt hw) rfl _,rfl⟩
 unfold A2g
 simp only [hu,h.ob,hk a,cond_true,B1f heq a l 0,hi,Option.map_none,Option.bind_some,List.map_append,List.map_cons,List.map_nil]
end
theorem Kept.push {H:AH} (hw:Wf H) (o:AObj):Kept H (H.push o).2:=(Chg.push (X:=none') hw o).kept fun _ _ h=>h
theorem MapIs.new {α:Type} {H:AH} {f:α→Value}:MapIs (H.push (.map [])).2 H.next f ([]:List (α×Value)):=⟨A0r H _⟩
def A4q (e:Nat×Int×Int×Int):List Value:=[.int .i64 (e.1:Int),.int .i64 e.2.1,.int .i64 e.2.2.1,.int .i64 e.2.2.2]
def A8p (E:List (List (Nat×Int×Int×Int))):List (List (List Value)):=E.map fun r=>r.map A4q
def B73 (E:List (List (Nat×Int×Int×Int))) (p:Int→Prop) (s t:Nat):Prop:=∃ r,E[s]?=some r∧∃ e∈r,e.1=t∧p e.2.1
structure PG (H:AH) (g n rb:Nat) (E:List (List (Nat×Int×Int×Int))) (ends:List Int) (sv av ev cv:Value) (vals:List Value) (sigma:List ByteArray) (costs:List Int):Prop where
 gr:GrR H g sv av ev cv vals sigma (A8p E) ends costs
 le:E.length=n
 ln:ends.length=n
 n1:1≤n
 n2:n≤3000
 to:∀ (s:Nat) r,E[s]?=some r→r.length≤rb∧∀ e∈r,e.1 < n
theorem PG.kept {H H':AH} {g n rb:Nat} {E:List (List (Nat×Int×Int×Int))} {ends:List Int} {sv av ev cv:Value} {vals:List Value} {sigma:List ByteArray} {costs:List Int} (h:PG H g n rb E ends sv av ev cv vals sigma costs) (hw:Wf H) (hk:Kept H H'):PG H' g n rb E ends sv av ev cv vals sigma costs:=
 { h with gr:=h.gr.kept hw hk }
theorem MB.put {P:Program} {H:AH} {base n:Nat} {sv:Value} {os:Option Nat} {seen:List Bool} {out:List Nat} {tb eb:Nat} (hu:P.underlying tb=some (.slice eb)) (hs:A3c P eb=some 1) (h:MB H base n sv os seen out) (hw:Wf H) {t:Nat} (ht:t < n):
  ∃ p H' seen' out',A7b P tb sv (.int .i64 (t:Int))=some (.pointer (some p))∧H.write p [.bool true]=some H'∧MB H' base n sv os seen' out'∧Chg (fun y=>os=some y) H H'∧∀ x,x∈out'↔x∈out∨x=t:=by
 by_cases hin:t∈out
 ·obtain ⟨p,H',e1,e2,e3,e4,e5⟩:=h.bf.set (P:=P) hw (i:=t) (x:=A5p true) (by simp [h.ms.len,ht]) rfl
  have hst:(h.ms.iff t).2 hin=(h.ms.iff t).2 hin:=rfl
  have hsame:seen.set t true=seen:=by
   have hb:=(h.ms.iff t).2 hin
   refine List.ext_getElem? fun i=>?_
   rw [List.getElem?_set]
   by_cases hi:t=i
   ·subst hi; rw [if_pos rfl,if_pos (by rw [h.ms.len]; exact ht),hb]
   ·rw [if_neg hi]
  have e3':(List.map A5p seen).set t (A5p true)=seen.map A5p:=by rw [← List.map_set,hsame]
  rw [e3'] at e3
  exact ⟨p,H',seen,out,e1 hu hs,e2,⟨h.ms,e3,h.fr⟩,e4,fun x=>⟨.inl,fun hx=>hx.elim id fun e=>e ▸ hin⟩⟩
 ·obtain ⟨p,H',e1,e2,e3,e4,e5,e6⟩:=h.set hu hs hw ht hin
  exact ⟨p,H',_,_,e1,e3,e4,e5,fun x=>by rw [List.mem_append,List.mem_singleton]⟩
end Go.Proofs.Sh
/- Open regions with effects in place, of which room that is made ahead of them is shown to be as it was. -/
namespace Go.Proofs.Sh
open Go
def B0d (ops:List Oper) (bs:List Nat):List Nat→List Nat→List Nat→List (Nat×List Nat×List Bool×List Bool)
 | [],_,_=>[]
 | i :: l,pb,mb=>match ops[i]? with
  | none=>[]
  | some o => bif isEff o then
        (i, pb.filter (fun k => !((bs[i]?).getD 0).testBit k), mb.map (fun k => !((bs[i]?).getD 0).testBit k), mb.map (fun k => o.guard.isSome || !((bs[i]?).getD 0).testBit k)) ::
          B0d ops bs l (bif o.guard.isSome then pb else pb.filter fun k => !((bs[i]?).getD 0).testBit k) (mb.filter fun k => o.guard.isSome || !((bs[i]?).getD 0).testBit k)
      else bif A6d o then (i, [], [], []) :: B0d ops bs l pb (i :: mb)
      else bif isRead o then (i, [], [], []) :: B0d ops bs l (i :: pb) mb else (i, [], [], []) :: B0d ops bs l pb mb
def orderM (ops:List Oper):List (Nat×List Nat×List Bool×List Bool):=B0d ops (A1k ops) (A92 ops (A1k ops)) [] []
def A63 {α:Type}:List Bool→List α→List α
 | true :: bs,p :: ps=>p :: A63 bs ps
 | false :: bs,p :: ps=>A63 bs ps
 | _,_=>[]
def B6s:List (AH→Prop)→AH→Prop
 | [],_=>True
 | p :: ps,H=>p H∧B6s ps H
def B66 (g:Nat) (H1 H2:AH):Prop:=∀ x,H1.objs.get g=some x→H2.objs.get g=some x∧A17 x x=true
def B4c (o:Oper) (kp:List Bool) (ms:List (AH→Prop)) (H H':AH):List (AH→Prop):=bif isEff o then A63 kp ms else bif A6d o then B66 H.next H' :: ms else ms
def wpm (P:Program) (O:A3d) (all:List Oper):List (Nat×List Nat×List Bool×List Bool)→List (AH→Prop)→(Fr→AH→Prop)→Fr→AH→Prop
 | [],_,K,F,H=>K F H
 | (i,fl,ml,kp) :: l,ms,K,F,H=>match all[i]? with
  | some o=>wpo P O all [o] (fun F' H'=>again P O all fl F' H'∧(isEff o=true→B6s (A63 ml ms) H')∧wpm P O all l (B4c o kp ms H H') K F' H') F H
  | none=>False
section
variable {P:Program}
theorem B1i {α:Type} (f:Nat→Bool):∀ (is:List Nat) (qs:List α),(is.filter f).zip (A63 (is.map f) qs)=(is.zip qs).filter fun z=>f z.1
 | [],_=>by simp
 | i :: is,[]=>by
  have:A63 ((i :: is).map f) ([]:List α)=[]:=by
   simp only [List.map_cons]
   cases f i <;> rfl
  rw [this]; simp
 | i :: is,q :: qs=>by
  have ih:=B1i f is qs
  cases hf:f i with
  | true=>simp [A63,hf,ih]
  | false=>simp [A63,hf,ih]
theorem B7z {H:AH}:∀ {qs:List (AH→Prop)},B6s qs H→∀ q∈qs,q H
 | q :: qs,h,r,hr=>by
  rcases List.mem_cons.1 hr with rfl | hr
  ·exact h.1
  ·exact B7z h.2 r hr
def LiveM (all:List Oper) (G:Fr) (l:List Nat) (pb mb:List Nat) (ms:List (AH→Prop)) (p:Pend):Prop:=match p with
 | .read i F v=>p.at_∈pb∧Live all G l p
 | .made i g x=>∃ z∈mb.zip ms,z.1=i∧∀ H,z.2 H→Val P all H p
theorem LiveM.put {all:List Oper} {G:Fr} {l:List Nat} {pb pb' mb:List Nat} {ms:List (AH→Prop)} {i:Nat} {o:Oper} {v:Value} (ho:all[i]?=some o) {p:Pend} (h:LiveM (P:=P) all G (i :: l) pb mb ms p) (hb:∀ k∈pb,k∈pb'):LiveM (P:=P) all (put G o.dst v) l pb' mb ms p:=by
 cases p with
 | read k F w=>exact ⟨hb _ h.1,h.2.put ho⟩
 | made k g x=>exact h
theorem LiveM.more {all:List Oper} {G:Fr} {l:List Nat} {pb mb:List Nat} {ms:List (AH→Prop)} {p:Pend} {i:Nat} {q:AH→Prop} (h:LiveM (P:=P) all G l pb mb ms p):LiveM (P:=P) all G l pb (i :: mb) (q :: ms) p:=by
 cases p with
 | read k F w=>exact h
 | made k g x=>
  obtain ⟨z,h1,h2⟩:=h
  exact ⟨z,List.mem_cons_of_mem _ h1,h2⟩
theorem LiveM.keep {all:List Oper} {G:Fr} {l:List Nat} {pb pb' mb:List Nat} {ms:List (AH→Prop)} {p:Pend} {f:Nat→Bool} (h:LiveM (P:=P) all G l pb mb ms p) (hp:p.at_∈pb→p.at_∈pb') (hf:f p.at_=true):LiveM (P:=P) all G l pb' (mb.filter f) (A63 (mb.map f) ms) p:=by
 cases p with
 | read k F w=>exact ⟨hp h.1,h.2⟩
 | made k g x=>
  obtain ⟨z,h1,h2,h3⟩:=h
  refine ⟨z,?_,h2,h3⟩
  rw [B1i]
  exact List.mem_filter.2 ⟨h1,by rw [h2]; exact hf⟩
theorem A1p {O:A3d} {all:List Oper} {bs:List Nat} {K:Fr→AH→Prop}:∀ (l pb mb:List Nat) (ms:List (AH→Prop)) (ps:List Pend) (F:Fr) (H:AH),(∀ p∈ps,LiveM (P:=P) all F l pb mb ms p)→wpm P O all (B0d all bs l pb mb) ms K F H→
  (∀ i∈l,i < all.length)→B76 all l=true→wpd P O all bs l ps K F H
 | [],pb,mb,ms,ps,F,H,_,h,_,_=>⟨0,F,H,rfl,h⟩
 | i :: l,pb,mb,ms,ps,F,H,hc,h,hl,hsep=>by
  have hi:=hl i List.mem_cons_self
  have hl':∀ i∈l,i < all.length:=fun j hj=>hl j (List.mem_cons_of_mem _ hj)
  have ho:all[i]?=some all[i]:=List.getElem?_eq_getElem hi
  generalize all[i]=o at ho
  simp only [B0d,ho] at h
  simp only [B76,ho,Bool.and_eq_true] at hsep
  obtain ⟨hsep0,hsep⟩:=hsep
  have go : ∀ (fl : List Nat) (ml kp : List Bool) (rest : List (Nat × List Nat × List Bool × List Bool)), wpm P O all ((i, fl, ml, kp) :: rest) ms K F H → ∃ b, A6m all F o = some b ∧
      (b = true → ∃ v H1, OpTo P O F H o v H1 ∧ again P O all fl (put F o.dst v) H1 ∧ (isEff o = true → B6s (A63 ml ms) H1) ∧ wpm P O all rest (B4c o kp ms H H1) K (put F o.dst v) H1) ∧
      (b = false → wpm P O all rest (B4c o kp ms H H) K (put F o.dst undef) H) := by
    intro fl ml kp rest hh
    simp only [wpm, ho] at hh
    rw [A4w] at hh
    obtain ⟨b, h1, h2, h3⟩ := hh
    refine ⟨b, h1, fun hb => ?_, fun hb => ?_⟩
    · obtain ⟨v, H1, h4, h5⟩ := h2 hb
      rw [A8v] at h5
      exact ⟨v, H1, h4, h5⟩
    · have := h3 hb
      rw [A8v] at this
      exact this.2.2
  have skip:∀ {F1:Fr} {H1:AH},A6m all F o=some false→F1=put F o.dst undef→H1=H→wpd P O all bs l ps K F1 H1→wpd P O all bs (i :: l) ps K F H:=by
   rintro F1 H1 hw rfl rfl ⟨n,F2,H2,h1,h2⟩
   refine ⟨n,F2,H2,?_,h2⟩
   simp only [A6e,ho,hw]
   exact h1
  have step:∀ (v:Value) (pb':List Nat),(∀ k∈pb,k∈pb')→∀ p∈ps,LiveM (P:=P) all (put F o.dst v) l pb' mb ms p:=fun v pb' hb p hp=>(hc p hp).put ho hb
  cases hE:isEff o with
  | true=>
   rw [hE] at h
   simp only [cond_true] at h
   obtain ⟨b,hw,ht,hf⟩:=go _ _ _ _ h
   simp only [B4c,hE,cond_true,forall_const] at ht hf
   cases b with
   | false=>
    have hg:o.guard.isSome=true:=by
     unfold A6m at hw
     cases hgd:o.guard with
     | none=>rw [hgd] at hw; cases hw
     | some x=>rfl
    have hf:=hf rfl
    rw [hg] at hf
    exact skip hw rfl rfl (A1p l _ _ _ ps _ _ (fun p hp=>(step undef pb (fun _ h=>h) p hp).keep (f:=fun k=>true || !((bs[i]?).getD 0).testBit k) (fun h=>h) rfl) hf hl' hsep)
   | true=>
    obtain ⟨v,H1,⟨n,hn⟩,hag,hh,hrest⟩:=ht rfl
    have hval:∀ p∈ps,((bs[i]?).getD 0).testBit p.at_=false→Val P all H1 p:=by
     intro p hp hb
     have q:=step v pb (fun _ h=>h) p hp
     cases p with
     | read k F0 w=>exact B6z hag _ q.2 (List.mem_filter.2 ⟨q.1,by rw [hb]; rfl⟩)
     | made k g x=>
      obtain ⟨z,hz,h1,h2⟩:=q
      have hz':z∈(mb.zip ms).filter fun z=>!((bs[i]?).getD 0).testBit z.1:=List.mem_filter.2 ⟨hz,by rw [h1]; simp only [Pend.at_] at hb; rw [hb]; rfl⟩
      rw [← B1i (fun k=>!((bs[i]?).getD 0).testBit k)] at hz'
      exact h2 H1 (B7z hh _ (List.of_mem_zip hz').2)
    obtain ⟨m,F2,H2,h1,h2⟩:=A1p l _ _ _ (ps.filter fun p=>!((bs[i]?).getD 0).testBit p.at_) _ _ (fun p hp=>by
     obtain ⟨k1,k2⟩:=List.mem_filter.1 hp
     refine (step v pb (fun _ h=>h) p k1).keep (fun hq=>?_) (by rw [k2]; exact Bool.or_true _)
     cases o.guard.isSome with
     | true=>exact hq
     | false=>exact List.mem_filter.2 ⟨hq,k2⟩) hrest hl' hsep
    refine ⟨n+m,F2,H2,?_,h2⟩
    simp only [A6e,ho,hw,A1j (A7c (Nat.le_add_right n m)) hn,hE,cond_true,A0w hval]
    exact A2d (A7c (Nat.le_add_left m n)) h1
  | false=>
   rw [hE] at h
   simp only [cond_false] at h
   cases hM:A6d o with
   | true=>
    rw [hM] at h
    simp only [cond_true] at h
    obtain ⟨b,hw,ht,hf⟩:=go _ _ _ _ h
    simp only [B4c,hE,hM,cond_true,cond_false,reduceCtorEq,false_implies,true_and] at ht hf
    cases b with
    | false=>exact skip hw rfl rfl (A1p l _ _ _ ps _ _ (fun p hp=>(step undef pb (fun _ h=>h) p hp).more) (hf rfl) hl' hsep)
    | true=>
     obtain ⟨v,H1,⟨n,hn⟩,_,hrest⟩:=ht rfl
     obtain ⟨x,hx⟩:=A0m hM hn
     have hxg:H1.objs.get H.next=some x:=by rw [hx]; exact A0r H x
     obtain ⟨m,F2,H2,h1,h2⟩:=A1p l _ _ _ (.made i H.next x :: ps) _ _ (fun p hp=>by
      rcases List.mem_cons.1 hp with rfl | hp
      ·exact ⟨_,List.mem_cons_self,rfl,fun H3 h3=>⟨x,h3 x hxg⟩⟩
      ·exact (step v pb (fun _ h=>h) p hp).more) hrest hl' hsep
     refine ⟨n+m,F2,H2,?_,h2⟩
     simp only [A6e,ho,hw,A1j (A7c (Nat.le_add_right n m)) hn,hE,cond_false,hM,cond_true,hxg]
     exact A2d (A7c (Nat.le_add_left m n)) h1
   | false=>
    rw [hM] at h
    simp only [cond_false] at h
    have hsame:∀ {v:Value} {H1:AH} {n:Nat},aop P (call P O n) F H o=some (v,H1)→H1=H:=fun hn=>(A5o (HGrow.refl H) hE hM hn).2
    cases hR:isRead o with
    | true=>
     rw [hR] at h hsep0
     simp only [cond_true] at h
     simp only [hE,Bool.not_false,Bool.and_self,cond_true,Bool.and_eq_true] at hsep0
     obtain ⟨b,hw,ht,hf⟩:=go _ _ _ _ h
     simp only [B4c,hE,hM,cond_false,reduceCtorEq,false_implies,true_and] at ht hf
     cases b with
     | false=>exact skip hw rfl rfl (A1p l _ _ _ ps _ _ (step _ _ fun k hk=>List.mem_cons_of_mem _ hk) (hf rfl) hl' hsep)
     | true=>
      obtain ⟨v,H1,⟨n,hn⟩,_,hrest⟩:=ht rfl
      have:=hsame hn
      subst this
      obtain ⟨t,hd⟩:=Option.isSome_iff_exists.1 hsep0.1
      have hw':A6m all (put F o.dst v) o=some true:=by
       unfold A6m at hw ⊢
       cases hg:o.guard with
       | none=>rfl
       | some q=>
        obtain ⟨j,w⟩:=q
        rw [hg] at hw
        simp only at hw ⊢
        cases hj:(all[j]?).bind (·.dst) with
        | none=>rw [hj] at hw; cases hw
        | some u=>
         rw [hj] at hw
         simp only [Option.bind_some] at hw ⊢
         have hself:=hsep0.2.1
         rw [hd] at hself ⊢
         rw [get_put fun d hdd e=>by
          injection hdd with hdd
          subst hdd e
          have:u∈A44 all o:=List.mem_append.2 (.inr (by simp [hg,B7w,hj]))
          simp [this] at hself]
         exact hw
      have hev:∀ x∈o.op.operands.toList,ev F x=ev (put F o.dst v) x:=by
       intro x hx
       refine (C5m fun d hdd hin=>?_).symm
       have hself:=hsep0.2.1
       rw [hdd] at hself
       have:d∈A44 all o:=List.mem_append.2 (.inl (List.mem_flatMap.2 ⟨x,hx,hin⟩))
       simp [this] at hself
      obtain ⟨m,F2,H2,h1,h2⟩:=A1p l (i :: pb) mb ms (.read i F v :: ps) _ _ (fun p hp=>by
       rcases List.mem_cons.1 hp with rfl | hp
       ·exact ⟨List.mem_cons_self,o,t,ho,hE,hd,by rw [hd,A8z],hw',hev,hsep0.2.2⟩
       ·exact step v _ (fun k hk=>List.mem_cons_of_mem _ hk) p hp) hrest hl' hsep
      refine ⟨n+m,F2,H2,?_,h2⟩
      simp only [A6e,ho,hw,A1j (A7c (Nat.le_add_right n m)) hn,hE,cond_false,hM,hR,cond_true]
      exact A2d (A7c (Nat.le_add_left m n)) h1
    | false=>
     rw [hR] at h
     simp only [cond_false] at h
     obtain ⟨b,hw,ht,hf⟩:=go _ _ _ _ h
     simp only [B4c,hE,hM,cond_false,reduceCtorEq,false_implies,true_and] at ht hf
     cases b with
     | false=>exact skip hw rfl rfl (A1p l _ _ _ ps _ _ (step _ _ fun k hk=>hk) (hf rfl) hl' hsep)
     | true=>
      obtain ⟨v,H1,⟨n,hn⟩,_,hrest⟩:=ht rfl
      have:=hsame hn
      subst this
      obtain ⟨m,F2,H2,h1,h2⟩:=A1p l pb mb ms ps _ _ (step v _ fun k hk=>hk) hrest hl' hsep
      refine ⟨n+m,F2,H2,?_,h2⟩
      simp only [A6e,ho,hw,A1j (A7c (Nat.le_add_right n m)) hn,hE,cond_false,hM,hR]
      exact A2d (A7c (Nat.le_add_left m n)) h1
end
variable {P:Program} {O:A3d} {S:List Item} {Q:Fr→AH→Prop} {F:Fr} {H:AH}
theorem C3o {id:Nat} {ops:Array Oper} {fl:List (Nat×List Nat×List Bool×List Bool)} (hf:orderM ops.toList=fl) (hb:((A92 ops.toList (A1k ops.toList)).all fun i=>Nat.blt i ops.toList.length)=true) (hs:B76 ops.toList (A92 ops.toList (A1k ops.toList))=true) (h:wpm P O ops.toList fl [] (wp P O S Q) F H):wp P O (.code (.region id ops true) :: S) Q F H:=by
 rw [B44]
 subst hf
 refine A1p _ [] [] [] [] F H (fun p hp=>by cases hp) h (fun i hi=>?_) hs
 have:=List.all_eq_true.1 hb i hi
 rw [A4j] at this
 exact of_decide_eq_true this
end Go.Proofs.Sh
/- Paths, words read from their ends; a graph in memory that keeps to its own places. -/
namespace Go.Proofs.Sh
open Go
inductive Path (G:ByteArray→Nat→Nat→Prop):Nat→List ByteArray→Nat→Prop
 | nil (s:Nat):Path G s [] s
 | eps {s t u:Nat} {w:List ByteArray}:G A2b s t→Path G t w u→Path G s w u
 | sym {s t u:Nat} {w:List ByteArray} {x:ByteArray}:x≠A2b→G x s t→Path G t w u→Path G s (x :: w) u
section
variable {G:ByteArray→Nat→Nat→Prop}
theorem Path.append {s t v:Nat} {a b:List ByteArray} (h:Path G s a t) (k:Path G t b v):Path G s (a++b) v:=by
 induction h with
 | nil s=>exact k
 | eps h _ ih=>exact .eps h (ih k)
 | sym hx h _ ih=>exact .sym hx h (ih k)
theorem Path.ne {s t:Nat} {w:List ByteArray} (h:Path G s w t):∀ x∈w,x≠A2b:=by
 induction h with
 | nil s=>intro x hx; cases hx
 | eps _ _ ih=>exact ih
 | sym hx _ _ ih=>
  intro y hy
  rcases List.mem_cons.1 hy with rfl | hy
  ·exact hx
  ·exact ih y hy
end
def ownG (g:Nat) (os ot oe oc:Option Nat) (obs:List (Option Nat)) (y:Nat):Prop:=y=g∨os=some y∨JIn ot obs y∨oe=some y∨oc=some y
def GrX (H:AH) (X:Nat→Prop) (g:Nat) (sigma:List ByteArray) (rows:List (List (List Value))) (ends costs:List Int):Prop:=
 ∃ sv av ev cv os ot oe oc vals obs,GrB H 0 g sv av ev cv os ot oe oc vals obs sigma rows ends costs∧∀ y,ownG g os ot oe oc obs y→X y
section
variable {H H':AH} {X Z:Nat→Prop} {base g:Nat} {sigma:List ByteArray} {rows:List (List (List Value))} {ends costs:List Int}
theorem Gr.own (h:Gr H base g sigma rows ends costs) (hw:Wf H):GrX H (fun y=>base≤y∧y < H.next) g sigma rows ends costs:=by
 obtain ⟨sv,av,ev,cv,os,ot,oe,oc,vals,obs,h⟩:=h
 refine ⟨sv,av,ev,cv,os,ot,oe,oc,vals,obs,{ h with fg:=Nat.zero_le _,fs:=fun _ _=>Nat.zero_le _,fj:=fun _ _=>Nat.zero_le _,fe:=fun _ _=>Nat.zero_le _,fc:=fun _ _=>Nat.zero_le _ },?_⟩
 rintro y (rfl | hy | hy | hy | hy)
 ·exact ⟨h.fg,h.arr.lt hw⟩
 ·exact ⟨h.fs y hy,h.sg.lt hw y hy⟩
 ·exact ⟨h.fj y hy,h.jag.lt hw y hy⟩
 ·exact ⟨h.fe y hy,h.en.lt hw y hy⟩
 ·exact ⟨h.fc y hy,h.co.lt hw y hy⟩
theorem GrX.mono (h:GrX H X g sigma rows ends costs) (hx:∀ y,X y→Z y):GrX H Z g sigma rows ends costs:=by
 obtain ⟨sv,av,ev,cv,os,ot,oe,oc,vals,obs,h,ho⟩:=h
 exact ⟨sv,av,ev,cv,os,ot,oe,oc,vals,obs,h,fun y hy=>hx y (ho y hy)⟩
theorem GrX.chg (h:GrX H X g sigma rows ends costs) (hw:Wf H) (hc:Chg Z H H') (hx:∀ y,X y→¬Z y):GrX H' X g sigma rows ends costs:=by
 obtain ⟨sv,av,ev,cv,os,ot,oe,oc,vals,obs,h,ho⟩:=h
 refine ⟨sv,av,ev,cv,os,ot,oe,oc,vals,obs,{ h with arr:=h.arr.keep (hc.old g (h.arr.lt hw) (hx g (ho g (.inl rfl)))),sg:=h.sg.chg hw hc fun y hy=>hx y (ho y (.inr (.inl hy))),jag:=h.jag.chg hw hc fun y hy=>hx y (ho y (.inr (.inr (.inl hy)))),en:=h.en.chg hw hc fun y hy=>hx y (ho y (.inr (.inr (.inr (.inl hy))))),co:=h.co.chg hw hc fun y hy=>hx y (ho y (.inr (.inr (.inr (.inr hy))))) },ho⟩
theorem GrX.kept (h:GrX H X g sigma rows ends costs) (hw:Wf H) (hk:Kept H H'):GrX H' X g sigma rows ends costs:=h.chg hw (hk.chg (X:=none')) fun _ _ h=>h
theorem GrX.read (h:GrX H X g sigma rows ends costs):∃ sv av ev cv vals,GrR H g sv av ev cv vals sigma rows ends costs:=by
 obtain ⟨sv,av,ev,cv,os,ot,oe,oc,vals,obs,h,_⟩:=h
 exact ⟨sv,av,ev,cv,vals,h.arr,h.sg.toSl,h.jag.read,h.en.toSl,h.co.toSl⟩
end
theorem Jag.addRow {H:AH} {s:Nat} {v:Value} {ot:Option Nat} {vals:List Value} {rows:List (List (List Value))} {obs:List (Option Nat)} (h:Jag H v ot s vals rows obs) (hw:Wf H):
  ∃ a cap v' H' ot',v=.slice a rows.length cap∧A5d 1 a rows.length cap 1 [.slice none 0 0] H=some (v',H')∧Jag H' v' ot' s (vals++[.slice none 0 0]) (rows++[[]]) (obs++[none])∧Chg (fun y=>ot=some y) H H'∧isCell v'=true∧(∀ y,JIn ot' (obs++[none]) y→JIn ot obs y∨H.next≤y):=by
 have hl:(vals.map fun x=>[x]).length=rows.length:=by rw [List.length_map,h.len1]
 obtain ⟨a,cap,hv⟩:=h.top.shape
 rw [hl] at hv
 subst hv
 obtain ⟨v',H',ot',e1,e2,e3,e4⟩:=h.top.append hw (xs:=[[.slice none 0 0]]) (by simp)
 have hfl:flat [[Value.slice none 0 0]]=[.slice none 0 0]:=by simp [flat]
 rw [hfl] at e1
 have hin:∀ y,JIn ot' (obs++[none]) y→JIn ot obs y∨H.next≤y:=by
  rintro y (hy | ⟨i,hy⟩)
  ·rcases e4 with h4 | ⟨h4,_⟩
   ·exact .inl (.inl (by rw [← h4]; exact hy))
   ·rw [h4] at hy; exact .inr (by rw [← Option.some.inj hy]; exact Nat.le_refl _)
  ·by_cases hi:i < obs.length
   ·rw [List.getElem?_append_left hi] at hy; exact .inl (.inr ⟨i,hy⟩)
   ·rw [List.getElem?_append_right (by omega)] at hy
    cases hj:i - obs.length with
    | zero=>rw [hj] at hy; simp at hy
    | succ j=>rw [hj] at hy; simp at hy
 have hob:∀ (i:Nat) o,(obs++[none])[i]?=some (some o)→obs[i]?=some (some o):=by
  intro i o hy
  by_cases hi:i < obs.length
  ·rw [List.getElem?_append_left hi] at hy; exact hy
  ·rw [List.getElem?_append_right (by omega)] at hy
   cases hj:i - obs.length with
   | zero=>rw [hj] at hy; simp at hy
   | succ j=>rw [hj] at hy; simp at hy
 refine ⟨a,cap,v',H',ot',rfl,e1,⟨by rw [List.map_append]; exact e2,by simp [h.len1],by simp [h.len2],fun i w r o h1 h2 h3=>?_,fun i y hy hi=>?_,fun i j o hij h1 h2=>h.apart i j o hij (hob i o h1) (hob j o h2)⟩,e3,e2.isCell,hin⟩
 ·by_cases hi:i < rows.length
  ·rw [List.getElem?_append_left (by rw [h.len1]; exact hi)] at h1
   rw [List.getElem?_append_left hi] at h2
   rw [List.getElem?_append_left (by rw [h.len2]; exact hi)] at h3
   exact (h.row i w r o h1 h2 h3).chg hw e3 fun y hy hyo=>h.far i y hyo (by rw [h3,hy])
  ·have hl1:=h.len1
   have hl2:=h.len2
   rw [List.getElem?_append_right (by omega)] at h1 h2 h3
   have hi0:i - rows.length=0:=by
    have:=(List.getElem?_eq_some_iff.1 h2).1
    simp at this; omega
   rw [hl1,hi0] at h1
   rw [hi0] at h2
   rw [hl2,hi0] at h3
   simp only [List.getElem?_cons_zero,Option.some.injEq] at h1 h2 h3
   subst h1 h2 h3
   exact .void none
 ·have h5:=hob i y hi
  rcases e4 with h4 | ⟨h4,_⟩
  ·exact h.far i y (by rw [← h4]; exact hy) h5
  ·have h6:=h.lt hw y (.inr ⟨i,h5⟩)
   rw [h4] at hy
   have:=Option.some.inj hy
   omega
end Go.Proofs.Sh
/- Words of an automaton, by their length and in order; which lengths they have. -/
namespace Go.Proofs.Sh
open Go
noncomputable def tB (p:Prop):Bool:=@decide p (Classical.propDecidable p)
theorem B2t {p:Prop}:tB p=true↔p:=@decide_eq_true_iff p (Classical.propDecidable p)
theorem tB_congr {p q:Prop} (h:p↔q):tB p=tB q:=by rw [propext h]
section
variable {α β:Type}
def allW (A:List α):Nat→List (List α)
 | 0=>[[]]
 | n+1=>A.flatMap fun a=>(allW A n).map (a :: ·)
theorem A7w {A:List α}:∀ {n:Nat} {u:List α},u∈allW A n↔u.length=n∧∀ x∈u,x∈A
 | 0, u => by simp only [allW, List.mem_singleton]; constructor
              · rintro rfl; exact ⟨rfl, fun x hx => by cases hx⟩
              · rintro ⟨h, _⟩; exact List.length_eq_zero_iff.1 h
 | n+1,u=>by
  simp only [allW,List.mem_flatMap,List.mem_map]
  constructor
  ·rintro ⟨a,ha,v,hv,rfl⟩
   obtain ⟨h1,h2⟩:=A7w.1 hv
   exact ⟨by simp [h1],fun x hx=>by
    rcases List.mem_cons.1 hx with rfl | hx
    ·exact ha
    ·exact h2 x hx⟩
  ·rintro ⟨h1,h2⟩
   cases u with
   | nil=>cases h1
   | cons a v=>exact ⟨a,h2 a List.mem_cons_self,v,A7w.2 ⟨by simpa using h1,fun x hx=>h2 x (List.mem_cons_of_mem _ hx)⟩,rfl⟩
noncomputable def lexW (A:List α) (p:List α→Prop) (n:Nat):List (List α):=(allW A n).filter fun u=>tB (p u)
theorem B5r {A:List α} {p:List α→Prop} {n:Nat} {u:List α}:u∈lexW A p n↔(u.length=n∧∀ x∈u,x∈A)∧p u:=by
 unfold lexW
 rw [List.mem_filter,A7w,B2t]
theorem C7m (A:List α) (p:List α→Prop):lexW A p 0=if tB (p [])=true then [[]] else []:=by
 unfold lexW allW
 rw [List.filter_cons]
 rfl
theorem C2p (A:List α) (p:List α→Prop) (n:Nat):lexW A p (n+1)=A.flatMap fun a=>(lexW A (fun w=>p (a :: w)) n).map (a :: ·):=by
 unfold lexW
 simp only [allW,List.filter_flatMap,List.filter_map]
 rfl
theorem C7p {A:List α} {p:List α→Prop} {n:Nat} (h:∀ u,u.length=n→¬p u):lexW A p n=[]:=by
 unfold lexW
 rw [List.filter_eq_nil_iff]
 intro u hu hp
 exact h u (A7w.1 hu).1 (B2t.1 hp)
theorem B1n {A:List α} {p q:List α→Prop} {n:Nat} (h:∀ u,u.length=n→(∀ x∈u,x∈A)→(p u↔q u)):lexW A p n=lexW A q n:=by
 unfold lexW
 refine List.filter_congr fun u hu=>?_
 obtain ⟨h1,h2⟩:=A7w.1 hu
 exact tB_congr (h u h1 h2)
noncomputable def B8y (A:List α) (p:List α→Prop) (M:Nat):List (List α):=(List.range (M+1)).flatMap (lexW A p)
theorem C9s {A:List α} {p:List α→Prop} {M:Nat} {u:List α}:u∈B8y A p M↔(u.length≤M∧∀ x∈u,x∈A)∧p u:=by
 unfold B8y
 simp only [List.mem_flatMap,List.mem_range,B5r]
 constructor
 ·rintro ⟨m,h1,⟨h2,h3⟩,h4⟩; exact ⟨⟨by omega,h3⟩,h4⟩
 ·rintro ⟨⟨h1,h2⟩,h3⟩; exact ⟨u.length,by omega,⟨rfl,h2⟩,h3⟩
theorem B63 {A:List α} {p q:List α→Prop} {M:Nat} (h:∀ u,(∀ x∈u,x∈A)→(p u↔q u)):B8y A p M=B8y A q M:=by
 unfold B8y
 congr 1
 funext n
 exact B1n fun u _ h2=>h u h2
theorem take_app (l m:List α) (n:Nat):(l.take n++m).take n=(l++m).take n:=by
 rw [List.take_append,List.take_append,List.take_take,Nat.min_self,List.length_take]
 by_cases h:l.length≤n
 ·rw [Nat.min_eq_right h]
 ·rw [Nat.min_eq_left (by omega),Nat.sub_self,show n - l.length=0 by omega]
def B8r (lt:α→α→Prop):List α→List α→Prop
 | a :: x,b :: y=>lt a b∨a=b∧B8r lt x y
 | _,_=>False
theorem C4e {lt:α→α→Prop} {A:List α} (hA:A.Pairwise lt):∀ n,(allW A n).Pairwise (B8r lt)
 | 0=>by simp [allW]
 | n+1=>by
  simp only [allW]
  rw [List.pairwise_flatMap]
  refine ⟨fun a ha=>?_,hA.imp fun {a b} hab x hx y hy=>?_⟩
  ·rw [List.pairwise_map]
   exact (C4e hA n).imp fun {x y} h=>.inr ⟨rfl,h⟩
  ·obtain ⟨u,_,rfl⟩:=List.mem_map.1 hx
   obtain ⟨v,_,rfl⟩:=List.mem_map.1 hy
   exact .inl hab
def ShLt (lt:α→α→Prop) (u v:List α):Prop:=u.length < v.length∨u.length=v.length∧B8r lt u v
theorem C8x {lt:α→α→Prop} {A:List α} (hA:A.Pairwise lt) (p:List α→Prop) (M:Nat):(B8y A p M).Pairwise (ShLt lt):=by
 unfold B8y
 rw [List.pairwise_flatMap]
 refine ⟨fun m _=>?_,List.pairwise_lt_range.imp fun {a b} hab x hx y hy=>?_⟩
 ·unfold lexW
  refine List.Pairwise.imp_of_mem (fun {x y} hx hy h=>?_) ((C4e hA m).filter _)
  have h1:=(A7w.1 (List.mem_filter.1 hx).1).1
  have h2:=(A7w.1 (List.mem_filter.1 hy).1).1
  exact .inr ⟨by rw [h1,h2],h⟩
 ·have h1:=(B5r.1 hx).1.1
  have h2:=(B5r.1 hy).1.1
  exact .inl (by rw [h1,h2]; exact hab)
end
section
variable {E:Nat→Nat→Prop} {A:Nat→Nat→Nat→Prop} {end_:Nat→Prop}
def A5t (E:Nat→Nat→Prop) (any:Nat→Nat→Prop) (end_:Nat→Prop):Nat→Nat→Prop
 | 0=>Clo (fun s t=>E t s) end_
 | m+1=>Clo (fun s t=>E t s) fun s=>∃ t,any s t∧A5t E any end_ m t
def accS {L:Type} (E:Nat→Nat→Prop) (A:L→Nat→Nat→Prop) (end_:Nat→Prop) (S:Nat→Prop) (w:List L):Prop:=∃ t,RunS E A S w t∧end_ t
theorem A2p {E:Nat→Nat→Prop} {B:Nat→Prop} {t:Nat}:Clo E B t↔∃ s,B s∧Clo E (fun x=>x=s) t:=by
 constructor
 ·exact fun h=>h.of (Q:=fun t=>∃ s,B s∧Clo E (fun x=>x=s) t) (fun s hs=>⟨s,hs,.base rfl⟩) fun a b ⟨s,h1,h2⟩ hr=>⟨s,h1,.step h2 hr⟩
 ·rintro ⟨s,h1,h2⟩
  exact h2.of (Q:=fun t=>Clo E B t) (fun x hx=>by rw [hx]; exact .base h1) fun a b ha hb=>.step ha hb
theorem C7g {E:Nat→Nat→Prop} {s t:Nat} (h:Clo E (fun x=>x=s) t):Clo (fun a b=>E b a) (fun x=>x=t) s:=by
 refine h.of (Q:=fun t=>Clo (fun a b=>E b a) (fun x=>x=t) s) (fun x hx=>.base hx.symm) fun a b ha hb=>?_
 exact ha.of (Q:=fun s=>Clo (fun a b=>E b a) (fun x=>x=b) s) (fun x hx=>by rw [hx]; exact .step (.base rfl) hb) fun c d hc hd=>.step hc hd
theorem A7u {E:Nat→Nat→Prop} {B:Nat→Prop} {s:Nat}:Clo (fun a b=>E b a) B s↔∃ u,Clo E (fun x=>x=s) u∧B u:=by
 rw [A2p]
 constructor
 ·rintro ⟨u,h1,h2⟩; exact ⟨u,C7g h2,h1⟩
 ·rintro ⟨u,h1,h2⟩; exact ⟨u,h2,C7g h1⟩
theorem A50 {E:Nat→Nat→Prop} {S:Nat→Prop} (hS:∀ s t,S s→E s t→S t) {t:Nat}:Clo E S t↔S t:=⟨fun h=>h.of (fun _ h=>h) fun s t h1 h2=>hS s t h1 h2,.base⟩
theorem A2y {any:Nat→Nat→Prop} {m s u:Nat} (h1:Clo E (fun x=>x=s) u) (h2:A5t E any end_ m u):A5t E any end_ m s:=by
 cases m with
 | zero=>
  obtain ⟨v,h3,h4⟩:=A7u.1 h2
  exact A7u.2 ⟨v,h3.of (Q:=fun v=>Clo E (fun x=>x=s) v) (fun x hx=>by rw [hx]; exact h1) fun a b ha hb=>.step ha hb,h4⟩
 | succ m=>
  obtain ⟨v,h3,h4⟩:=A7u.1 h2
  exact A7u.2 ⟨v,h3.of (Q:=fun v=>Clo E (fun x=>x=s) v) (fun x hx=>by rw [hx]; exact h1) fun a b ha hb=>.step ha hb,h4⟩
theorem A8w {L:Type} {A:L→Nat→Nat→Prop} {any:Nat→Nat→Prop} (hA:∀ k s t,A k s t→any s t):∀ {w:List L} {S:Nat→Prop},accS E A end_ S w→∃ s,S s∧A5t E any end_ w.length s
 | [],S,⟨t,h1,h2⟩=>⟨t,h1,.base h2⟩
 | k :: w,S,⟨t,h1,h2⟩=>by
  obtain ⟨u,h3,h4⟩:=A8w hA (w:=w) (S:=Clo E fun t=>∃ s,S s∧A k s t) ⟨t,h1,h2⟩
  obtain ⟨v,⟨s,h5,h6⟩,h7⟩:=A2p.1 h3
  exact ⟨s,h5,.base ⟨v,hA k s v h6,A2y h7 h4⟩⟩
theorem B8b {L:Type} {A:L→Nat→Nat→Prop} {any:Nat→Nat→Prop} {q:L→Prop} (hA:∀ s t,any s t→∃ k,q k∧A k s t):∀ {m:Nat} {S:Nat→Prop},(∀ s t,S s→E s t→S t)→(∃ s,S s∧A5t E any end_ m s)→∃ w:List L,(w.length=m∧∀ x∈w,q x)∧accS E A end_ S w
 | 0,S,hS,⟨s,h1,h2⟩=>by
  obtain ⟨u,h3,h4⟩:=A7u.1 h2
  exact ⟨[],⟨rfl,fun x hx=>by cases hx⟩,u,(A50 hS).1 (A2p.2 ⟨s,h1,h3⟩),h4⟩
 | m+1,S,hS,⟨s,h1,h2⟩=>by
  obtain ⟨u,h3,v,h4,h5⟩:=A7u.1 h2
  have hu:=(A50 hS).1 (A2p.2 ⟨s,h1,h3⟩)
  obtain ⟨k,hk,h6⟩:=hA u v h4
  obtain ⟨w,⟨h7,h9⟩,h8⟩:=B8b hA (m:=m) (S:=Clo E fun t=>∃ s,S s∧A k s t) (fun a b ha hb=>.step ha hb) ⟨v,.base ⟨u,hu,h6⟩,h5⟩
  exact ⟨k :: w,⟨by simp [h7],fun x hx=>by
   rcases List.mem_cons.1 hx with rfl | hx
   ·exact hk
   ·exact h9 x hx⟩,h8⟩
theorem A5w {L:Type} {A:L→Nat→Nat→Prop}:∀ {w:List L} {S:Nat→Prop} {t:Nat},RunS E A S w t↔∃ s,S s∧RunS E A (fun x=>x=s) w t
 | [],S,t=>by simp [RunS]
 | k :: w,S,t=>by
  simp only [RunS]
  rw [A5w]
  constructor
  ·rintro ⟨u,h1,h2⟩
   obtain ⟨v,⟨s,h3,h4⟩,h5⟩:=A2p.1 h1
   exact ⟨s,h3,A5w.2 ⟨u,A2p.2 ⟨v,⟨s,rfl,h4⟩,h5⟩,h2⟩⟩
  ·rintro ⟨s,h1,h2⟩
   obtain ⟨u,h3,h4⟩:=A5w.1 h2
   obtain ⟨v,⟨s',h5,h6⟩,h7⟩:=A2p.1 h3
   subst h5
   exact ⟨u,A2p.2 ⟨v,⟨s',h1,h6⟩,h7⟩,h4⟩
theorem acc_keep {L:Type} {A:L→Nat→Nat→Prop} {any:Nat→Nat→Prop} (hA:∀ k s t,A k s t→any s t) {w:List L} {S:Nat→Prop}:accS E A end_ S w↔accS E A end_ (fun s=>S s∧A5t E any end_ w.length s) w:=by
 constructor
 ·rintro ⟨t,h1,h2⟩
  obtain ⟨s,h3,h4⟩:=A5w.1 h1
  obtain ⟨s',h5,h6⟩:=A8w hA (w:=w) (S:=fun x=>x=s) ⟨t,h4,h2⟩
  subst h5
  exact ⟨t,A5w.2 ⟨s',⟨h3,h6⟩,h4⟩,h2⟩
 ·rintro ⟨t,h1,h2⟩
  obtain ⟨s,h3,h4⟩:=A5w.1 h1
  exact ⟨t,A5w.2 ⟨s,h3.1,h4⟩,h2⟩
def Jump (E any:Nat→Nat→Prop) (s t:Nat):Prop:=∃ u,Clo E (fun x=>x=s) u∧any u t
theorem A8x {any:Nat→Nat→Prop} {m s:Nat}:A5t E any end_ (m+1) s↔∃ t,Jump E any s t∧A5t E any end_ m t:=by
 show Clo (fun a b=>E b a) _ s↔_
 rw [A7u]
 constructor
 ·rintro ⟨u,h1,t,h2,h3⟩; exact ⟨t,⟨u,h1,h2⟩,h3⟩
 ·rintro ⟨t,⟨u,h1,h2⟩,h3⟩; exact ⟨u,h1,t,h2,h3⟩
def A1o (E any:Nat→Nat→Prop) (end_:Nat→Prop):Nat→Nat→Prop
 | 0=>Clo (fun a b=>E b a∨any b a) end_
 | m+1=>Clo (fun a b=>E b a) fun s=>∃ t,any s t∧A1o E any end_ m t
theorem A31 {any:Nat→Nat→Prop}:∀ {m s:Nat},A1o E any end_ m s↔∃ j,A5t E any end_ (m+j) s
 | 0,s=>by
  constructor
  ·intro h
   refine h.of (Q:=fun s=>∃ j,A5t E any end_ (0+j) s) (fun s hs=>⟨0,.base hs⟩) fun a b ⟨j,hj⟩ hab=>?_
   rcases hab with h1 | h1
   ·exact ⟨j,A2y (.step (.base rfl) h1) hj⟩
   ·refine ⟨j+1,?_⟩
    rw [show 0+(j+1)=(0+j)+1 by omega]
    exact .base ⟨a,h1,hj⟩
  ·rintro ⟨j,hj⟩
   rw [Nat.zero_add] at hj
   have hup:∀ {x u},Clo E (fun y=>y=x) u→Clo (fun a b=>E b a∨any b a) end_ u→Clo (fun a b=>E b a∨any b a) end_ x:=fun {x u} h1 h2=>
    h1.of (Q:=fun u=>Clo (fun a b=>E b a∨any b a) end_ u→Clo (fun a b=>E b a∨any b a) end_ x) (fun y hy h=>by rw [← hy]; exact h) (fun a b ha hb h=>ha (.step h (.inl hb))) h2
   induction j generalizing s with
   | zero=>
    obtain ⟨u,h1,h2⟩:=A7u.1 hj
    exact hup h1 (.base h2)
   | succ j ih=>
    obtain ⟨t,⟨u,h1,h2⟩,h3⟩:=A8x.1 hj
    exact hup h1 (.step (ih t h3) (.inr h2))
 | m+1,s=>by
  show Clo (fun a b=>E b a) _ s↔_
  rw [A7u]
  constructor
  ·rintro ⟨u,h1,t,h2,h3⟩
   obtain ⟨j,hj⟩:=A31.1 h3
   exact ⟨j,by rw [show m+1+j=(m+j)+1 by omega]; exact A8x.2 ⟨t,⟨u,h1,h2⟩,hj⟩⟩
  ·rintro ⟨j,hj⟩
   rw [show m+1+j=(m+j)+1 by omega] at hj
   obtain ⟨t,⟨u,h1,h2⟩,h3⟩:=A8x.1 hj
   exact ⟨u,h1,t,h2,A31.2 ⟨j,h3⟩⟩
end
end Go.Proofs.Sh
/- Ways through an automaton; an automaton of the useful states alone. -/
namespace Go.Proofs.Sh
open Go
inductive Way {L:Type} (E:Nat→Nat→Prop) (A:L→Nat→Nat→Prop):Nat→List L→Nat→Prop
 | nil (s:Nat):Way E A s [] s
 | eps {s t u:Nat} {w:List L}:E s t→Way E A t w u→Way E A s w u
 | sym {s t u:Nat} {k:L} {w:List L}:A k s t→Way E A t w u→Way E A s (k :: w) u
section
variable {L:Type} {E:Nat→Nat→Prop} {A:L→Nat→Nat→Prop}
theorem Way.pre {s t u:Nat} {w:List L} (h:Clo E (fun x=>x=s) t) (k:Way E A t w u):Way E A s w u:=
 h.of (Q:=fun t=>∀ {w},Way E A t w u→Way E A s w u) (fun x hx w k=>by rw [← hx]; exact k) (fun a b ha hb w k=>ha (.eps hb k)) k
theorem way_nil {s t:Nat} {w:List L} (h:Way E A s w t) (hw:w=[]):Clo E (fun x=>x=s) t:=by
 induction h with
 | nil s=>exact .base rfl
 | eps h1 _ ih=>exact A2p.2 ⟨_,.step (.base rfl) h1,ih hw⟩ |>.of (Q:=fun t=>Clo E (fun x=>x=_) t) (fun _ h=>h) fun _ _ h1 h2=>.step h1 h2
 | sym _ _ _=>cases hw
theorem way_cons {s t:Nat} {w:List L} (h:Way E A s w t) {k:L} {v:List L} (hw:w=k :: v):∃ a b,Clo E (fun x=>x=s) a∧A k a b∧Way E A b v t:=by
 induction h with
 | nil s=>cases hw
 | eps h1 _ ih=>
  obtain ⟨a,b,h2,h3,h4⟩:=ih hw
  exact ⟨a,b,(A2p.2 ⟨_,.step (.base rfl) h1,h2⟩:Clo E (Clo E fun x=>x=_) a).of (Q:=fun t=>Clo E (fun x=>x=_) t) (fun _ h=>h) fun _ _ h1 h2=>.step h1 h2,h3,h4⟩
 | sym h1 h2 _=>
  injection hw with e1 e2
  subst e1 e2
  exact ⟨_,_,.base rfl,h1,h2⟩
theorem C2a:∀ {w:List L} {S:Nat→Prop} {t:Nat},RunS E A (Clo E S) w t↔∃ s,S s∧Way E A s w t
 | [],S,t=>by
  show Clo E S t↔_
  rw [A2p]
  exact ⟨fun ⟨s,h1,h2⟩=>⟨s,h1,.pre h2 (.nil _)⟩,fun ⟨s,h1,h2⟩=>⟨s,h1,way_nil h2 rfl⟩⟩
 | k :: w,S,t=>by
  simp only [RunS]
  rw [C2a]
  constructor
  ·rintro ⟨b,⟨a,h1,h2⟩,h3⟩
   obtain ⟨s,h4,h5⟩:=A2p.1 h1
   exact ⟨s,h4,.pre h5 (.sym h2 h3)⟩
  ·rintro ⟨s,h1,h2⟩
   obtain ⟨a,b,h3,h4,h5⟩:=way_cons h2 rfl
   exact ⟨b,⟨a,A2p.2 ⟨s,h1,h3⟩,h4⟩,h5⟩
end
section
variable {ed ed':Int→Nat→Nat→Prop} {us:Nat→Prop} {f:Nat→Nat} {end_ end':Nat→Prop}
def B1y (ed:Int→Nat→Nat→Prop) (s t:Nat):Prop:=∃ x,x < 0∧ed x s t
def C3h (ed:Int→Nat→Nat→Prop) (k:Nat) (s t:Nat):Prop:=ed (k:Int) s t
structure TrimOf (ed ed':Int→Nat→Nat→Prop) (us:Nat→Prop) (f:Nat→Nat) (end_ end':Nat→Prop):Prop where
 edge:∀ x a b,ed' x a b↔∃ s t,us s∧us t∧a=f s∧b=f t∧ed x s t
 fin:∀ a,end' a↔∃ s,us s∧a=f s∧end_ s
 f0:f 0=0
 inj:∀ s t,us s∨s=0→us t∨t=0→f s=f t→s=t
 use:∀ s,us s↔Clo (fun s t=>∃ x,ed x s t) (fun s=>s=0) s∧Clo (fun s t=>∃ x,ed x t s) end_ s
theorem TrimOf.down (h:TrimOf ed ed' us f end_ end') {a b:Nat} {w:List Nat} (hw:Way (B1y ed') (C3h ed') a w b):∀ s,a=f s→us s∨s=0→∃ t,b=f t∧(us t∨t=0)∧Way (B1y ed) (C3h ed) s w t:=by
 induction hw with
 | nil a=>exact fun s e hs=>⟨s,e,hs,.nil s⟩
 | eps h1 _ ih=>
  intro s e hs
  obtain ⟨x,hx,h2⟩:=h1
  obtain ⟨s',t,h3,h4,h5,h6,h7⟩:=(h.edge x _ _).1 h2
  have:=h.inj s s' hs (.inl h3) (by rw [← e,h5])
  subst this
  obtain ⟨u,h8,h9,h10⟩:=ih t h6 (.inl h4)
  exact ⟨u,h8,h9,.eps ⟨x,hx,h7⟩ h10⟩
 | sym h1 _ ih=>
  intro s e hs
  obtain ⟨s',t,h3,h4,h5,h6,h7⟩:=(h.edge _ _ _).1 h1
  have:=h.inj s s' hs (.inl h3) (by rw [← e,h5])
  subst this
  obtain ⟨u,h8,h9,h10⟩:=ih t h6 (.inl h4)
  exact ⟨u,h8,h9,.sym h7 h10⟩
theorem TrimOf.up (h:TrimOf ed ed' us f end_ end') {s t:Nat} {w:List Nat} (hw:Way (B1y ed) (C3h ed) s w t):Clo (fun s t=>∃ x,ed x s t) (fun s=>s=0) s→end_ t→us s∧us t∧Way (B1y ed') (C3h ed') (f s) w (f t):=by
 induction hw with
 | nil s=>exact fun h1 h2=>⟨(h.use s).2 ⟨h1,.base h2⟩,(h.use s).2 ⟨h1,.base h2⟩,.nil _⟩
 | eps h1 _ ih=>
  intro h2 h3
  obtain ⟨x,hx,h4⟩:=h1
  obtain ⟨h5,h6,h7⟩:=ih (.step h2 ⟨x,h4⟩) h3
  have hs:=(h.use _).2 ⟨h2,.step ((h.use _).1 h5).2 ⟨x,h4⟩⟩
  exact ⟨hs,h6,.eps ⟨x,hx,(h.edge x _ _).2 ⟨_,_,hs,h5,rfl,rfl,h4⟩⟩ h7⟩
 | sym h1 _ ih=>
  intro h2 h3
  obtain ⟨h5,h6,h7⟩:=ih (.step h2 ⟨_,h1⟩) h3
  have hs:=(h.use _).2 ⟨h2,.step ((h.use _).1 h5).2 ⟨_,h1⟩⟩
  exact ⟨hs,h6,.sym ((h.edge _ _ _).2 ⟨_,_,hs,h5,rfl,rfl,h1⟩) h7⟩
theorem TrimOf.acc (h:TrimOf ed ed' us f end_ end') (w:List Nat):accS (B1y ed') (C3h ed') end' (Clo (B1y ed') fun s=>s=0) w↔accS (B1y ed) (C3h ed) end_ (Clo (B1y ed) fun s=>s=0) w:=by
 unfold accS
 simp only [C2a]
 constructor
 ·rintro ⟨b,⟨a,rfl,h1⟩,h2⟩
  obtain ⟨t,h3,h4,h5⟩:=h.down h1 0 h.f0.symm (.inr rfl)
  obtain ⟨s,h6,h7,h8⟩:=(h.fin b).1 h2
  have:=h.inj t s h4 (.inl h6) (by rw [← h3,h7])
  subst this
  exact ⟨t,⟨0,rfl,h5⟩,h8⟩
 ·rintro ⟨t,⟨s,rfl,h1⟩,h2⟩
  obtain ⟨h3,h4,h5⟩:=h.up h1 (.base rfl) h2
  rw [h.f0] at h5
  exact ⟨f t,⟨0,rfl,h5⟩,(h.fin _).2 ⟨t,h4,rfl,h2⟩⟩
end
theorem Buf.spot {P:Program} {t e:Nat} {H:AH} {v:Value} {l:List (List Value)} {b:Option Nat} (hu:P.underlying t=some (.slice e)) (hs:A3c P e=some 1) (h:Buf H 1 v l b) (hw:Wf H) {i:Nat} {u:Value} (hx:l[i]?=some [u]):
  ∃ p,A7b P t v (.int .i64 (i:Int))=some (.pointer (some p))∧H.cell p=some u∧∀ w,∃ H',H.write p [w]=some H'∧Buf H' 1 v (l.set i [w]) b∧Chg (fun y=>b=some y) H H'∧H'.next=H.next:=by
 obtain ⟨p0,h1,h2⟩:=Sl.elem (s:=1) hu hs h.toSl hx
 refine ⟨p0,h1,h2,fun w=>?_⟩
 obtain ⟨p,H',e1,e2,e3,e4,e5⟩:=h.set (P:=P) hw (x:=[w]) (List.getElem?_eq_some_iff.1 hx).1 rfl
 have:=e1 hu hs (j:=.i64)
 rw [h1] at this
 injection this with this; injection this with this; injection this with this
 subst this
 exact ⟨H',e2,e3,e4,e5⟩
def B52 (U:List Bool):Nat→Nat
 | 0=>0
 | t+1=>B52 U t+(if 1≤t∧U[t]?=some true then 1 else 0)
def numU (U:List Bool) (t:Nat):Nat:=if 1≤t∧U[t]?=some true then 1+B52 U t else 0
theorem C0j (U:List Bool) {s t:Nat} (h:s≤t):B52 U s≤B52 U t:=by
 induction h with
 | refl=>exact Nat.le_refl _
 | step _ ih=>exact Nat.le_trans ih (Nat.le_add_right _ _)
theorem B88 {U:List Bool} {s t:Nat} (hs:U[s]?=some true∨s=0) (ht:U[t]?=some true∨t=0) (h:numU U s=numU U t):s=t:=by
 have key:∀ {a b:Nat},a < b→U[a]?=some true∨a=0→U[b]?=some true∨b=0→numU U a≠numU U b:=by
  intro a b hab ha hb
  have hb':1≤b∧U[b]?=some true:=⟨by omega,hb.resolve_right (by omega)⟩
  unfold numU
  rw [if_pos hb']
  split
  ·rename_i h
   have:=C0j U (s:=a+1) (t:=b) hab
   rw [B52,if_pos h] at this
   omega
  ·omega
 rcases Nat.lt_trichotomy s t with h1 | h1 | h1
 ·exact absurd h (key h1 hs ht)
 ·exact h1
 ·exact absurd h.symm (key h1 ht hs)
theorem C3u (U:List Bool):numU U 0=0:=by unfold numU; rw [if_neg (by omega)]
def MarksOut (H H':AH) (r:Value) (n:Nat) (Q:Nat→Prop):Prop:=Kept H H'∧∃ B:List Bool,∃ o,Buf H' 1 r (B.map A5p) o∧(∀ y,o=some y→H.next≤y)∧B.length=n∧∀ t:Nat,B[t]?=some true↔Q t
end Go.Proofs.Sh
/- Trees of words: edge number k leads to state k + 1. -/
namespace Go.Proofs.Sh
open Go
section
variable {α β:Type} [DecidableEq α] [DecidableEq β]
def A2m (E:List (Nat×α)) (s:Nat) (x:α):List (Nat×α)×Nat:=
 match E.findIdx? (fun p=>decide ((s,x)=p)) with
 | some k=>(E,k+1)
 | none=>(E++[(s,x)],E.length+1)
def walkT (E:List (Nat×α)) (s:Nat):List α→List (Nat×α)×Nat
 | []=>(E,s)
 | x :: w=>walkT (A2m E s x).1 (A2m E s x).2 w
def A6i (E:List (Nat×α)):List (List α)→List (Nat×α)×List Nat
 | []=>(E,[])
 | w :: W=>((A6i (walkT E 0 w).1 W).1,(walkT E 0 w).2 :: (A6i (walkT E 0 w).1 W).2)
inductive PathT (E:List (Nat×α)):Nat→List α→Nat→Prop
 | nil (s:Nat):PathT E s [] s
 | cons {s k t:Nat} {x:α} {w:List α}:E[k]?=some (s,x)→PathT E (k+1) w t→PathT E s (x :: w) t
omit [DecidableEq α] in
theorem PathT.more {E:List (Nat×α)} {s t:Nat} {w:List α} (h:PathT E s w t) (l:List (Nat×α)):PathT (E++l) s w t:=by
 induction h with
 | nil s=>exact .nil s
 | @cons s k t x w h1 _ ih=>exact .cons (by rw [List.getElem?_append_left (List.getElem?_eq_some_iff.1 h1).1]; exact h1) ih
omit [DecidableEq α] in
theorem PathT.app {E:List (Nat×α)} {s t u:Nat} {w v:List α} (h:PathT E s w t) (k:PathT E t v u):PathT E s (w++v) u:=by
 induction h with
 | nil s=>exact k
 | cons h1 _ ih=>exact .cons h1 (ih k)
omit [DecidableEq α] in
theorem PathT.last {E:List (Nat×α)} {s t:Nat} {w:List α} {x:α} (h:PathT E s (w++[x]) t):∃ k u,t=k+1∧E[k]?=some (u,x)∧PathT E s w u:=by
 generalize hv:w++[x]=v at h
 induction h generalizing w with
 | nil s=>exact absurd hv (by simp)
 | @cons s k t y v h1 h2 ih=>
  cases w with
  | nil=>
   simp only [List.nil_append,List.cons.injEq] at hv
   obtain ⟨rfl,hv2⟩:=hv
   subst hv2
   cases h2
   exact ⟨k,s,rfl,h1,.nil s⟩
  | cons z w=>
   simp only [List.cons_append,List.cons.injEq] at hv
   obtain ⟨rfl,hv2⟩:=hv
   obtain ⟨k',u,h3,h4,h5⟩:=ih hv2
   exact ⟨k',u,h3,h4,.cons h1 h5⟩
omit [DecidableEq α] in
theorem PathT.one {E:List (Nat×α)}:∀ {n t:Nat} {w v:List α},w.length≤n→PathT E 0 w t→PathT E 0 v t→w=v:=by
 intro n
 induction n with
 | zero=>
  intro t w v hn hw hv
  have h0:w=[]:=List.length_eq_zero_iff.1 (Nat.le_zero.1 hn)
  subst h0
  cases hw
  rcases List.eq_nil_or_concat v with h1 | ⟨u,x,h1⟩
  ·exact h1.symm
  ·rw [List.concat_eq_append] at h1
   subst h1
   obtain ⟨k,_,h2,_⟩:=hv.last
   cases h2
 | succ n ih=>
  intro t w v hn hw hv
  rcases List.eq_nil_or_concat w with h1 | ⟨u,x,h1⟩
  ·subst h1
   cases hw
   rcases List.eq_nil_or_concat v with h2 | ⟨u,x,h2⟩
   ·exact h2.symm
   ·rw [List.concat_eq_append] at h2
    subst h2
    obtain ⟨k,_,h3,_⟩:=hv.last
    cases h3
  ·rw [List.concat_eq_append] at h1
   subst h1
   obtain ⟨k,s,rfl,h2,h3⟩:=hw.last
   rcases List.eq_nil_or_concat v with h4 | ⟨u',y,h4⟩
   ·subst h4; cases hv
   ·rw [List.concat_eq_append] at h4
    subst h4
    obtain ⟨k',s',h5,h6,h7⟩:=hv.last
    have hk:k=k':=by omega
    subst hk
    rw [h2] at h6
    have h8:=Option.some.inj h6
    injection h8 with h8 h9
    subst h8 h9
    rw [ih (by simp at hn; omega) h3 h7]
theorem C5i (E:List (Nat×α)) (s:Nat) (x:α):(∃ l,(A2m E s x).1=E++l)∧PathT (A2m E s x).1 s [x] (A2m E s x).2:=by
 unfold A2m
 cases h:E.findIdx? (fun p=>decide ((s,x)=p)) with
 | some k=>
  obtain ⟨h1,h2,_⟩:=List.findIdx?_eq_some_iff_getElem.1 h
  have h3:(s,x)=E[k]:=by simpa using h2
  exact ⟨⟨[],by simp⟩,.cons (by rw [h3]; exact List.getElem?_eq_getElem h1) (.nil _)⟩
 | none=>exact ⟨⟨_,rfl⟩,.cons (by simp) (.nil _)⟩
theorem C6j (w:List α):∀ (E:List (Nat×α)) (s:Nat),(∃ l,(walkT E s w).1=E++l)∧PathT (walkT E s w).1 s w (walkT E s w).2:=by
 induction w with
 | nil=>intro E s; exact ⟨⟨[],by simp [walkT]⟩,.nil s⟩
 | cons x w ih=>
  intro E s
  obtain ⟨⟨l,h1⟩,h2⟩:=C5i E s x
  obtain ⟨⟨l2,h3⟩,h4⟩:=ih (A2m E s x).1 (A2m E s x).2
  refine ⟨⟨l++l2,by show (walkT _ _ w).1=_; rw [h3,h1,List.append_assoc]⟩,?_⟩
  have:PathT (walkT (A2m E s x).1 (A2m E s x).2 w).1 s [x] (A2m E s x).2:=by rw [h3]; exact h2.more l2
  exact this.app h4
theorem B6l (W:List (List α)):∀ (E:List (Nat×α)),(∃ l,(A6i E W).1=E++l)∧(A6i E W).2.length=W.length∧∀ (i:Nat) w t,W[i]?=some w→(A6i E W).2[i]?=some t→PathT (A6i E W).1 0 w t:=by
 induction W with
 | nil=>intro E; exact ⟨⟨[],by simp [A6i]⟩,rfl,fun i w t hw=>by simp at hw⟩
 | cons v W ih=>
  intro E
  obtain ⟨⟨l,h1⟩,h2⟩:=C6j v E 0
  obtain ⟨⟨l2,h3⟩,h4,h5⟩:=ih (walkT E 0 v).1
  refine ⟨⟨l++l2,by show (A6i _ W).1=_; rw [h3,h1,List.append_assoc]⟩,by simp [A6i,h4],fun i w t hw ht=>?_⟩
  cases i with
  | zero=>
   simp only [A6i,List.getElem?_cons_zero,Option.some.injEq] at hw ht
   subst hw ht
   show PathT (A6i _ W).1 _ _ _
   rw [h3]; exact h2.more l2
  | succ i=>
   simp only [A6i,List.getElem?_cons_succ] at hw ht
   exact h5 i w t hw ht
theorem B65 {W:List (List α)} {w:List α}:(∃ t∈(A6i [] W).2,PathT (A6i [] W).1 0 w t)↔w∈W:=by
 obtain ⟨_,h1,h2⟩:=B6l W []
 constructor
 ·rintro ⟨t,ht,hp⟩
  obtain ⟨i,hi⟩:=List.mem_iff_getElem?.1 ht
  have hil:=(List.getElem?_eq_some_iff.1 hi).1
  rw [h1] at hil
  have:=h2 i W[i] t (List.getElem?_eq_getElem hil) hi
  rw [PathT.one (Nat.le_refl _) hp this]
  exact List.getElem_mem hil
 ·intro hw
  obtain ⟨i,hi⟩:=List.mem_iff_getElem?.1 hw
  have hil:=(List.getElem?_eq_some_iff.1 hi).1
  have hil2:i < (A6i [] W).2.length:=by rw [h1]; exact hil
  exact ⟨_,List.getElem_mem hil2,h2 i w _ hi (List.getElem?_eq_getElem hil2)⟩
def B1d (E:List (Nat×α)):Prop:=∀ (k:Nat) p,E[k]?=some p→p.1≤k
theorem B3w {E:List (Nat×α)} (h:B1d E) {s:Nat} (hs:s≤E.length) (x:α):B1d (A2m E s x).1∧(A2m E s x).2≤(A2m E s x).1.length:=by
 unfold A2m
 cases hf:E.findIdx? (fun p=>decide ((s,x)=p)) with
 | some k=>exact ⟨h,(List.findIdx?_eq_some_iff_getElem.1 hf).1⟩
 | none=>
  refine ⟨fun k p hp=>?_,by simp⟩
  rcases Nat.lt_or_ge k E.length with h1 | h1
  ·rw [List.getElem?_append_left h1] at hp; exact h k p hp
  ·rw [List.getElem?_append_right h1] at hp
   have h2:k - E.length=0:=by
    have:=(List.getElem?_eq_some_iff.1 hp).1
    simp at this; omega
   rw [h2] at hp
   simp at hp
   rw [← hp]; exact Nat.le_trans hs h1
theorem B61:∀ {w:List α} {E:List (Nat×α)},B1d E→∀ {s:Nat},s≤E.length→B1d (walkT E s w).1∧(walkT E s w).2≤(walkT E s w).1.length
 | [],E,h,s,hs=>⟨h,hs⟩
 | x :: w,E,h,s,hs=>by
  obtain ⟨h1,h2⟩:=B3w h hs x
  exact B61 (w:=w) h1 h2
theorem B9h:∀ {W:List (List α)} {E:List (Nat×α)},B1d E→B1d (A6i E W).1∧∀ t∈(A6i E W).2,t≤(A6i E W).1.length
 | [],E,h=>⟨h,fun t ht=>by cases ht⟩
 | w :: W,E,h=>by
  obtain ⟨h1,h2⟩:=B61 (w:=w) h (Nat.zero_le _)
  obtain ⟨h3,h4⟩:=B9h (W:=W) h1
  refine ⟨h3,fun t ht=>?_⟩
  rcases List.mem_cons.1 ht with h5 | h5
  ·obtain ⟨⟨l,h6⟩,_⟩:=B6l W (walkT E 0 w).1
   show t≤(A6i (walkT E 0 w).1 W).1.length
   rw [h6,List.length_append,h5]; omega
  ·exact h4 t h5
theorem C4q {S:α→Prop} {E:List (Nat×α)} (hE:∀ p∈E,S p.2) (s:Nat) {x:α} (hx:S x):∀ p∈(A2m E s x).1,S p.2:=by
 unfold A2m
 cases E.findIdx? (fun p=>decide ((s,x)=p)) with
 | some k=>exact hE
 | none=>
  intro p hp
  rcases List.mem_append.1 hp with h1 | h1
  ·exact hE p h1
  ·rw [List.mem_singleton.1 h1]; exact hx
theorem B5s {S:α→Prop}:∀ {w:List α} {E:List (Nat×α)},(∀ p∈E,S p.2)→∀ (s:Nat),(∀ x∈w,S x)→∀ p∈(walkT E s w).1,S p.2
 | [],E,hE,s,_=>hE
 | x :: w,E,hE,s,hw=>B5s (w:=w) (C4q hE s (hw x List.mem_cons_self)) _ fun y hy=>hw y (List.mem_cons_of_mem _ hy)
theorem A0y {S:α→Prop}:∀ {W:List (List α)} {E:List (Nat×α)},(∀ p∈E,S p.2)→(∀ w∈W,∀ x∈w,S x)→∀ p∈(A6i E W).1,S p.2
 | [],E,hE,_=>hE
 | w :: W,E,hE,hW=>A0y (W:=W) (B5s hE 0 (hW w List.mem_cons_self)) fun v hv=>hW v (List.mem_cons_of_mem _ hv)
theorem A96 (x:α):∀ (w:List α) (E:List (Nat×α)) (s:Nat),walkT E s (w++[x])=A2m (walkT E s w).1 (walkT E s w).2 x
 | [],E,s=>rfl
 | y :: w,E,s=>by simp only [List.cons_append,walkT]; exact A96 x w _ _
theorem A57 (w:List α):∀ (W:List (List α)) (E:List (Nat×α)),A6i E (W++[w])=((walkT (A6i E W).1 0 w).1,(A6i E W).2++[(walkT (A6i E W).1 0 w).2])
 | [],E=>rfl
 | v :: W,E=>by simp only [List.cons_append,A6i,A57 w W]
def mapT (f:α→β) (E:List (Nat×α)):List (Nat×β):=E.map fun p=>(p.1,f p.2)
theorem C1z {S:α→Prop} {f:α→β} (hf:∀ x y,S x→S y→f x=f y→x=y) {E:List (Nat×α)} (hE:∀ p∈E,S p.2) (s:Nat) {x:α} (hx:S x):
  A2m (mapT f E) s (f x)=(mapT f (A2m E s x).1,(A2m E s x).2)∧∀ p∈(A2m E s x).1,S p.2:=by
 have hi:(mapT f E).findIdx? (fun p=>decide ((s,f x)=p))=E.findIdx? (fun p=>decide ((s,x)=p)):=by
  unfold mapT
  rw [List.findIdx?_map]
  induction E with
  | nil=>rfl
  | cons p E ih=>
   rw [List.findIdx?_cons,List.findIdx?_cons,ih fun q hq=>hE q (List.mem_cons_of_mem _ hq)]
   have:decide ((s,f x)=(p.1,f p.2))=decide ((s,x)=p):=by
    refine decide_eq_decide.2 ?_
    constructor
    ·intro h
     injection h with h1 h2
     rw [h1,hf x p.2 hx (hE p List.mem_cons_self) h2]
    ·intro h; rw [← h]
   simp only [Function.comp,this]
 unfold A2m
 rw [hi]
 cases h:E.findIdx? (fun p=>decide ((s,x)=p)) with
 | some k=>exact ⟨rfl,hE⟩
 | none=>
  refine ⟨by simp [mapT],fun p hp=>?_⟩
  rcases List.mem_append.1 hp with h1 | h1
  ·exact hE p h1
  ·rw [List.mem_singleton.1 h1]; exact hx
theorem B6y {S:α→Prop} {f:α→β} (hf:∀ x y,S x→S y→f x=f y→x=y):∀ {w:List α} {E:List (Nat×α)},(∀ p∈E,S p.2)→∀ (s:Nat),(∀ x∈w,S x)→
  walkT (mapT f E) s (w.map f)=(mapT f (walkT E s w).1,(walkT E s w).2)∧∀ p∈(walkT E s w).1,S p.2
 | [],E,hE,s,_=>⟨rfl,hE⟩
 | x :: w,E,hE,s,hw=>by
  obtain ⟨h1,h2⟩:=C1z hf hE s (hw x List.mem_cons_self)
  have ih:=B6y hf (w:=w) h2 (A2m E s x).2 fun y hy=>hw y (List.mem_cons_of_mem _ hy)
  simp only [List.map_cons,walkT,h1]
  exact ih
theorem B6w {S:α→Prop} {f:α→β} (hf:∀ x y,S x→S y→f x=f y→x=y):∀ {W:List (List α)} {E:List (Nat×α)},(∀ p∈E,S p.2)→(∀ w∈W,∀ x∈w,S x)→
  A6i (mapT f E) (W.map (List.map f))=(mapT f (A6i E W).1,(A6i E W).2)
 | [],E,hE,_=>rfl
 | w :: W,E,hE,hW=>by
  obtain ⟨h1,h2⟩:=B6y hf (w:=w) hE 0 (hW w List.mem_cons_self)
  have ih:=B6w hf (W:=W) h2 fun v hv=>hW v (List.mem_cons_of_mem _ hv)
  simp only [List.map_cons,A6i,h1,ih]
end
end Go.Proofs.Sh
