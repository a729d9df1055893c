/- A part of the proof: ShFlat. -/
import Derived.Test.YtjjgodccecehlaaGreatMClose2RelChained1
set_option linter.unusedVariables false
set_option linter.unusedSimpArgs false
/- A law's arguments are of the shape of their types. -/
namespace Go.Proofs.Sh
open Go Go.RowKit Go.ChangeShapes
def C05(P:Program)(t:TypeId):Bool:=match P.underlying t with
 | some (.struct _)|some (.array _ _)=>true
 | _=>false
def Flat(P:Program)(ts:List TypeId)(avs:List Value):Prop:=∀(i:Nat) t cs,ts[i]?=some t→avs[i]?=some (.agg cs)→C05 P t=true
theorem C1r{P:Program}{w:World}{r:Reach}{base:Nat}{t:TypeId}{cs:Array Value}(h:Value.okWide P w r base t (.agg cs)):C05 P t=true:=by
 unfold Value.okWide at h;unfold C05;split at h
 ·rename_i hu;rw[hu]
 ·rename_i hu;rw[hu]
 ·rename_i h1 h2
  exfalso;unfold Cell.okWide at h;split at h
  all_goals first|contradiction|skip
  unfold Cell.ok at h;split at h
  all_goals first|contradiction|exact h|skip
theorem B54{ρ:Map}:∀{avs vs:List Value} {i:Nat} {a:Value},VRels ρ avs vs→avs[i]?=some a→∃v,vs[i]?=some v∧VRel ρ a v
 | [],_,i,a,_,h=>by simp at h
 | x :: avs,vs,i,a,hr,h=>by
  unfold VRels at hr;obtain⟨u,us,rfl,h1,h2⟩:=hr;cases i with
  | zero=>
   simp only[List.getElem?_cons_zero,Option.some.injEq]at h;subst h;exact⟨u,rfl,h1⟩
  | succ i=>
   simp only[List.getElem?_cons_succ]at h ⊢;exact B54 h2 h
theorem flat_of{P:Program}{ρ:Map}{ts:List TypeId}{avs vs:List Value}{w:World}{r:Reach}{base:Nat}(h:VRels ρ avs vs)(hv:∀(j:Nat) t v,ts[j]?=some t→vs[j]?=some v→Value.okWide P w r base t v):Flat P ts avs:=by
 intro i t cs h1 h2;obtain⟨v,h3,h4⟩:=B54 h h2;obtain⟨x⟩:=cs;unfold VRel at h4;obtain⟨x',rfl,_⟩:=h4;exact C1r (hv i t _ h1 h3)
section
variable {K:Type} {enc:TypeId×Value→K} {P:Program}
theorem B9m(hfit:Fit P){O:A1d}(hO:OrOk P O)(hl:laidOutB P=true){f:FuncId}{fn:Func}(hts:paramsOk P fn.params.toList=true){tb:TypeId}(hres:fn.resultTypes=#[tb])(htb:P.underlying tb=some .bool)
  {s:ChangeSpec} (hvars:s.vars=[]) (hspec:∀ds:List (DataW K),ds.length=fn.params.size→s.fn K ds={ results:=[.lit (.bool true)],args:=ds })
  {W:World} {args:Array Value} {ds gs:List (DataW K)} {before:List MemPlace} {b0:Nat} (hW:DataW.Whole enc P fn.params.toList s.vars false W args.toList ds gs before)
  (hval:∀(j:Nat) t v,fn.params[j]?=some t→args[j]?=some v→Value.okWide P W .any b0 t v)
  (main:∀(H:AH) (avs:List Value),Wf H→AllRo H→RDs P H fn.params.toList avs ds→Flat P fn.params.toList avs→Call P O f avs H (fun v _=>v=.bool true)):
  Calls P f args W fun e W'=>∃v,e=.returned v∧s.post enc P fn false true false false W args v W':=by
 have hW':=hW;obtain⟨p,q,hA,hV,rfl,_,_⟩:=hW;rw[hvars]at hV;obtain⟨rfl,rfl⟩:=trodVars_none hV;have h0:HRel W.heap.size (fun _ _=>none) empty W:=by
  refine⟨Nat.le_refl _,?_,?_,?_,?_,?_,?_,?_,?_,?_⟩<;>intros<;>simp_all [empty,Tr.get]
 have hro:AllRo empty:=fun g o e=>by cases e
 have hts':∀t∈fn.params.toList,A97 P 12 t=true∧P.readableRec t=true∧t<P.types.size:=by
  intro t ht;have:=List.all_eq_true.1 hts t ht;simp only[Bool.and_eq_true,A1j,decide_eq_true_eq]at this;exact⟨this.1.1,this.1.2,this.2⟩
 obtain⟨H,ρ,avs,g1,g2,g3,g4,g5,g6⟩:=C73 (B:=W.heap.size) hA (fun t ht=>(hts' t ht).1) empty _ h0 hro;obtain⟨v,H',⟨n,hn⟩,rfl⟩:=main H avs g1.wf g2 g6 (flat_of g5 fun j t v h1 h2=>hval j t v (by simpa using h1) (by simpa using h2));have hc:=hfit.call_ok hO n f avs H _ H' hn W.heap.size ρ W args.toList g5 g1;rw[Array.toArray_toList]at hc;refine hc.mono ?_;rintro e W' ⟨ρ',v',rfl,hv,h1,h2⟩;have hv':v'=.bool true:=by unfold VRel at hv;exact hv
 subst hv';have hb:=h2.below (Nat.le_refl _);have hlen:ds.length=fn.params.size:=by
  have:∀{ts:List TypeId} {vs:List Value} {ds:List (DataW K)} {ps:List MemPlace},DataW.TrodAll enc P W 0 (fun _=>true) true ts vs ds ps→ds.length=ts.length:=by
   intro ts
   induction ts with
   | nil=>intro vs ds ps h;obtain⟨rfl,rfl,rfl⟩:=trodAll_nil h;rfl
   | cons t ts ih=>intro vs ds ps h;obtain⟨v,vs1,d,ds1,a,b,rfl,rfl,rfl,_,h2⟩:=trodAll_cons h;simp[ih h2]
  simpa using this hA
 have hs:=hspec (ds++[]) (by simpa using hlen);have hlt:∀x∈p,x.block<W.heap.size:=fun x hx=>by simpa using hW'.lt x (by simpa using hx)
 refine⟨_,rfl,ds,[],_,[],p,[],hW',?_,?_,?_,hb.frame _,fun h=>by cases h⟩
 ·rw[hs,hres]
  exact trodAll_mk1 (shut_bool htb true)
 ·rw[hs]
  simp only[List.append_nil];exact A47 hl hb hA (fun t ht=>(hts' t ht).2) hlt
 ·rw[hs,hvars]
  exact rfl
end
end Go.Proofs.Sh
