/- For every two nets, of any kind, and every two lists of texts: the net that the program makes of both holds the pair of the lists just if some list stands between them, by the first net below the one and by the second net above the other, or the program tells what is wrong as the reference does. Where what comes in holds at most 1048576 values and letters. -/
import Derived.Test.YtnoengaghabmjaaGreatDoorMClose3RelComposes14
import Derived.Test.YtnoengaghabmjaaGreatDoorProg
import Derived.Test.YtnoengaghabmjaaGreatDoorMClose3RelComposes11
import Derived.ProofKit
import Derived.KernelRfl
import Derived.Test.YtnoengaghabmjaaGreatDoorTie
import Derived.Test.YtnoengaghabmjaaGreatDoorCards
import Derived.SevenTiedAt
set_option linter.unusedVariables false
set_option linter.unusedSimpArgs false
set_option maxHeartbeats 4000000
set_option maxRecDepth 20000
namespace Go.Proofs.YtnoengaghabmjaaGreatDoor
open Go Go.Proofs
open Go.ChangeShapes Go.WideShapes Go.ChangeAt Go.RowKit
theorem known:Sh.C4v (Sh.call Tryz.prog Sh.mute 100000 8 [] Sh.empty)=true:=by kernel_rfl
theorem fit:Sh.Fit Tryz.prog:=⟨by kernel_rfl,by kernel_rfl,by kernel_rfl⟩
theorem orc:Sh.OrOk Tryz.prog (Sh.knows 8):=fit.knows known
theorem own:ownKnob Tryz.prog.godebug=none:=by kernel_rfl
theorem laidOut:laidOutB Tryz.prog=true:=by kernel_rfl
theorem main (H:Sh.AH) (avs:List Value) {K:Type} (ds:List (DataW K)) (hk:Rows.uptoSmall K (ds++[])=true) (hw:Sh.Wf H) (hr:Sh.RDs Tryz.prog H Tryz.f6.params.toList avs ds) (hfl:Sh.Flat Tryz.prog Tryz.f6.params.toList avs):Sh.Call Tryz.prog (Sh.knows 8) 6 avs H (fun v _=>v=.bool true):=by
 have hp:Tryz.f6.params.toList=[28]:=rfl
 rw [hp] at hr hfl
 exact lawMain (by have:=of_decide_eq_true hk; simpa using this) hw hr hfl
theorem contract (H:Type) (enc:TypeId×Value→H) (W:World) (args:Array Value) (ds gs:List (DataW H)) (before:List MemPlace)
  (hW:DataW.Whole enc Tryz.prog Tryz.f6.params.toList Rows.relComposesSpec.vars false W args.toList ds gs before) (hk:Rows.uptoSmall H (ds++gs)=true) {b0:Nat} (hval:∀ (j:Nat) t v,Tryz.f6.params[j]?=some t→args[j]?=some v→Value.okWide Tryz.prog W .any b0 t v):
  Calls Tryz.prog 6 args W fun e W'=>∃ v,e=.returned v∧Rows.relComposesSpec.post enc Tryz.prog Tryz.f6 false true false false W args v W':=by
 have hgs:gs=[]:=by
  obtain ⟨p,q,hA,hV,rfl,_,_⟩:=hW
  exact (trodVars_none hV).1
 subst hgs
 refine Sh.B1g fit orc laidOut (by kernel_rfl) rfl Tryz.underlying4 rfl (fun ds hl=>?_) hW hval (fun H1 avs hw hro hr hfl=>main H1 avs ds hk hw hr hfl)
 match ds,hl with
 | [d0],_=>rfl
theorem witness_row (os:Os) {H:Type} (enc:TypeId×Value→H):
  (Rows.OpenSpec.upto Rows.relComposesSpec).preRow enc Tryz.prog Tryz.f6 Rows.relComposesUptoRow.domain false Rows.relComposesUptoRow.laid ((laidWorld os).forCall (fun _ _=>0) ⟨#[],#[.agg #[.slice none 0 0,.int .i64 0,.slice none 0 0,.slice none 0 0,.slice none 0 0,.int .i64 0,.slice none 0 0,.slice none 0 0,.slice none 0 0,.slice none 0 0]],[]⟩).memory #[.agg #[.slice none 0 0,.int .i64 0,.slice none 0 0,.slice none 0 0,.slice none 0 0,.int .i64 0,.slice none 0 0,.slice none 0 0,.slice none 0 0,.slice none 0 0]]:=by
 have hw:(DataW.whole enc Tryz.prog ((laidWorld os).forCall (fun _ _=>0) ⟨#[],#[.agg #[.slice none 0 0,.int .i64 0,.slice none 0 0,.slice none 0 0,.slice none 0 0,.int .i64 0,.slice none 0 0,.slice none 0 0,.slice none 0 0,.slice none 0 0]],[]⟩).memory Tryz.f6.params.toList (Rows.OpenSpec.upto Rows.relComposesSpec).vars false [.agg #[.slice none 0 0,.int .i64 0,.slice none 0 0,.slice none 0 0,.slice none 0 0,.int .i64 0,.slice none 0 0,.slice none 0 0,.slice none 0 0,.slice none 0 0]] 8).map (fun x=>(x.1,x.2.1))=some ([.agg [.agg [.nil,.lit (.int .i64 0),.nil,.nil],.agg [.nil,.lit (.int .i64 0),.nil,.nil],.nil,.nil]],[]):=by kernel_rfl
 obtain ⟨⟨x1,x2,x3⟩,hx,hx1⟩:=Option.map_eq_some_iff.1 hw
 simp only [Prod.mk.injEq] at hx1
 obtain ⟨rfl,rfl⟩:=hx1
 exact OpenSpec.preRow_of_cond 8 hx (by kernel_rfl) (fun k hk=>by cases hk; kernel_rfl) (by kernel_rfl) (laid_met os _)
set_option maxRecDepth 100000 in
theorem lifted (os:Os) (started:os.Started) (H:Type) (enc:TypeId×Value→H) (F:Stop.Interp):
  ReturnsInHanded {} Tryz.checked os 6 .any ((Rows.OpenSpec.upto Rows.relComposesSpec).preRow enc Tryz.prog Tryz.f6 Rows.relComposesUptoRow.domain false Rows.relComposesUptoRow.laid) (((Rows.OpenSpec.upto Rows.relComposesSpec).at F).post enc Tryz.prog Tryz.f6 false true false false):=by
 refine returnsInHanded_of_row (C:=Tryz.checked) (s:=Rows.OpenSpec.upto Rows.relComposesSpec) own started (by kernel_rfl) Tryz.func6
  (witness_row_atRef (enc:=enc) (C:=Tryz.checked) false (laidWorld os) #[.agg #[.slice none 0 0,.int .i64 0,.slice none 0 0,.slice none 0 0,.slice none 0 0,.int .i64 0,.slice none 0 0,.slice none 0 0,.slice none 0 0,.slice none 0 0]] rfl (by kernel_rfl) (by kernel_rfl) (by kernel_rfl) (witness_row os enc)) ?_
 intro W base args ds gs before hval hW _ hk _ _ _ _
 exact contract H enc W args ds gs before hW (hk _ rfl) hval
theorem rowHolds:Rows.RelComposesUptoSaid:=
 OpenClaim.holds_of_cond 6 Tryz.f6 rfl rfl rfl rfl rfl rfl rfl ⟨rfl,rfl,rfl,rfl,rfl⟩ rfl rfl rfl rfl rfl (by kernel_rfl) Tryz.func6 (by kernel_rfl)
  (of_decide_eq_true (by kernel_rfl)) (by unfold Func.isWrapper; first | (rw [if_pos (by decide +kernel)]; kernel_rfl) | (rw [if_neg (by decide +kernel)]; exact ⟨rfl,rfl⟩))
  (fun os started H enc _ F=>by rw [OpenClaim.pre_eq_preRow]; exact lifted os started H enc F)
theorem proved:Rows.RelComposesUptoCardSaid:=
 Claim7.holds_tied_plain_at .later [] [.data,.data,.data] true Rows.relComposesUptoCard.stood.harness false
  rowHolds (fun _ h=>by cases h) (by kernel_rfl) (fun _ h=>by cases h) relComposesUpto_row_tie rfl ⟨rfl,rfl⟩ (by kernel_rfl) (by kernel_rfl)
  (fun f fn hf hfn=>by
   obtain rfl:f=6:=Option.some.inj ((show Tryz.prog.funcNamed "ablaut/ablautlaw05.RelComposes" = some 6 by kernel_rfl).symm.trans hf) |>.symm
   obtain rfl:fn=Tryz.f6:=(Option.some.inj (Tryz.func6.symm.trans hfn)).symm
   refine ⟨by kernel_rfl,fun j t ht=>?_⟩
   have hm:t∈Tryz.f6.params.toList:=by simpa using Array.mem_of_getElem? ht
   have hall:(Tryz.f6.params.toList.all fun u=>!Tryz.prog.wantsStandIn u)=true:=by kernel_rfl
   exact (show Tryz.prog.wantsStandIn t=false by simpa using List.all_eq_true.1 hall t hm))
  (by kernel_rfl)
#print axioms proved
end Go.Proofs.YtnoengaghabmjaaGreatDoor
