/- For every two nets, of any kind, and every list of texts: a word that the program lists below a word that it lists below the list is held by the composition that it makes, and where it lists none, it lists none below the list by the composition. Where what comes in holds at most 1048576 values and letters. -/
import Derived.Test.YtjjgodccecehlaaGreatMClose2RelChained26
import Derived.Test.YtjjgodccecehlaaGreatProg
import Derived.Test.YtjjgodccecehlaaGreatMClose2RelChained15
import Derived.ProofKit
import Derived.KernelRfl
set_option linter.unusedVariables false
set_option linter.unusedSimpArgs false
set_option maxHeartbeats 4000000
set_option maxRecDepth 20000
namespace Go.Proofs.YtjjgodccecehlaaGreat
open Go Go.Proofs
open Go.ChangeShapes Go.WideShapes Go.ChangeAt Go.RowKit
theorem known:Sh.C58 (Sh.call Tryz.prog Sh.mute 100000 7 [] Sh.empty)=true:=by kernel_rfl
theorem fit:Sh.Fit Tryz.prog:=⟨by kernel_rfl,by kernel_rfl,by kernel_rfl⟩
theorem orc:Sh.OrOk Tryz.prog (Sh.knows 7):=fit.knows known
theorem own:ownKnob Tryz.prog.godebug=none:=by kernel_rfl
theorem laidOut:laidOutB Tryz.prog=true:=by kernel_rfl
theorem main(H:Sh.AH)(avs:List Value){K:Type}(ds:List (DataW K))(hk:Rows.uptoSmall K (ds++[])=true)(hw:Sh.Wf H)(hr:Sh.RDs Tryz.prog H Tryz.f4.params.toList avs ds)(hfl:Sh.Flat Tryz.prog Tryz.f4.params.toList avs):Sh.Call Tryz.prog (Sh.knows 7) 4 avs H (fun v _=>v=.bool true):=by
 have hp:Tryz.f4.params.toList=[37]:=rfl;rw[hp]at hr hfl;exact lawMain (by have:=of_decide_eq_true hk;simpa using this) hw hr hfl
theorem contract(H:Type)(enc:TypeId×Value→H)(W:World)(args:Array Value)(ds gs:List (DataW H))(before:List MemPlace)
  (hW:DataW.Whole enc Tryz.prog Tryz.f4.params.toList Rows.relChainedSpec.vars false W args.toList ds gs before) (hk:Rows.uptoSmall H (ds++gs)=true) {b0:Nat} (hval:∀(j:Nat) t v,Tryz.f4.params[j]?=some t→args[j]?=some v→Value.okWide Tryz.prog W .any b0 t v):
  Calls Tryz.prog 4 args W fun e W'=>∃v,e=.returned v∧Rows.relChainedSpec.post enc Tryz.prog Tryz.f4 false true false false W args v W':=by
 have hgs:gs=[]:=by
  obtain⟨p,q,hA,hV,rfl,_,_⟩:=hW;exact(trodVars_none hV).1
 subst hgs;refine Sh.B9m fit orc laidOut (by kernel_rfl) rfl Tryz.underlying4 rfl (fun ds hl=>?_) hW hval (fun H1 avs hw hro hr hfl=>main H1 avs ds hk hw hr hfl)
 match ds,hl with
 | [d0],_=>rfl
set_option maxRecDepth 100000 in
theorem lifted(os:Os)(started:os.Started)(H:Type)(enc:TypeId×Value→H)(F:Stop.Interp):
  ReturnsInHanded {} Tryz.checked os 4 .any ((Rows.OpenSpec.upto Rows.relChainedSpec).pre6 enc Tryz.prog Tryz.f4 Rows.relChainedUptoRow.domain false) (((Rows.OpenSpec.upto Rows.relChainedSpec).at F).post enc Tryz.prog Tryz.f4 false true false false):=by
 refine returnsInHanded_of_cond (C:=Tryz.checked) (s:=Rows.OpenSpec.upto Rows.relChainedSpec) (k:=Rows.uptoSmall) rfl own started (by kernel_rfl) Tryz.func4
  (OpenSpec.witness (enc:=enc) (C:=Tryz.checked) (s:=Rows.OpenSpec.upto Rows.relChainedSpec) (k:=Rows.uptoSmall) rfl false ⟨#[],#[.agg #[.slice none 0 0,.int .i64 0,.slice none 0 0,.slice none 0 0,.slice none 0 0,.int .i64 0,.slice none 0 0,.slice none 0 0,.slice none 0 0,.slice none 0 0]],[]⟩ 8 (by kernel_rfl) (by kernel_rfl) (by kernel_rfl)
   (x:=([.agg [.agg [.nil,.lit (.int .i64 0),.nil,.nil],.agg [.nil,.lit (.int .i64 0),.nil,.nil],.nil,.nil]],[],[])) (by kernel_rfl) rfl (by kernel_rfl)) ?_
 intro W base args ds gs before hval hW _ hk _;exact contract H enc W args ds gs before hW hk hval
theorem proved:Rows.RelChainedUptoSaid:=
 OpenClaim.holds_of_cond 4 Tryz.f4 rfl rfl rfl rfl rfl rfl rfl ⟨rfl,rfl,rfl,rfl,rfl⟩ rfl rfl rfl rfl rfl (by kernel_rfl) Tryz.func4 (by kernel_rfl)
  (of_decide_eq_true (by kernel_rfl)) (by unfold Func.isWrapper;first|(rw[if_pos (by decide +kernel)];kernel_rfl)|(rw[if_neg (by decide +kernel)];exact⟨rfl,rfl⟩))
  (fun os started H enc _ F=>lifted os started H enc F)
#print axioms proved
end Go.Proofs.YtjjgodccecehlaaGreat
