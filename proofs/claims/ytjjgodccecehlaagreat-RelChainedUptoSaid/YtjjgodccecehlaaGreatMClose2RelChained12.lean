/- A part of the proof: RefArcs, RefSpots, RefReach. -/
import Derived.Test.YtjjgodccecehlaaGreatMClose2RelChained8
import Derived.Test.YtjjgodccecehlaaGreatMClose2RelChained2
import Derived.Test.YtjjgodccecehlaaGreatMClose2RelChained1
import Derived.Test.YtjjgodccecehlaaGreatMClose2RelChained11
import Derived.Test.YtjjgodccecehlaaGreatMClose2RelChained9
set_option linter.unusedVariables false
set_option linter.unusedSimpArgs false
/- The reference's arcsOf, endsOf, over: a net by its states, and places in a word. -/
set_option maxHeartbeats 4000000
set_option maxRecDepth 20000
namespace Go.Proofs.YtjjgodccecehlaaGreat
open Go Go.Proofs Go.Proofs.Sh
def labT(x:ByteArray):Option ByteArray:=if x=A4n then none else some x
def A7f(p:Nat×Nat):List Value:=[.int .i64 (p.1:Int),.int .i64 (p.2:Int)]
def C8v(p:Nat×Nat×Nat):List Value:=[.int .i64 (p.1:Int),.int .i64 (p.2.1:Int),.int .i64 (p.2.2:Int)]
theorem natI{a b:Nat}:((a:Int)=(b:Int))↔a=b:=Int.ofNat_inj
theorem keyT_nat{d:Nat}(n:Int):keyT Tryz.prog (d+1) 3 (.int .i64 n)=true:=by
 rw[keyT.eq_def];simp only[Tryz.underlying3]
section
variable {H:AH} {p:Nat×Nat×Nat} {q:Nat×Nat}
end
structure WBox(H:AH)(g:Nat)(p:Nat×Nat×Nat):Prop where
 ar:Arr H g 0 3 (C8v p)
theorem WBox.new{H:AH}{p:Nat×Nat×Nat}:WBox (H.new 3 (C8v p)).2 H.next p:=⟨(Sh.Obj.new (H:=H) 3 (C8v p)).arr⟩
theorem WBox.chg{H H':AH}{g:Nat}{p:Nat×Nat×Nat}{X:Nat→Prop}(h:WBox H g p)(hw:Wf H)(hc:Chg X H H')(hx:¬X g):WBox H' g p:=⟨h.ar.keep (hc.old g (h.ar.lt hw) hx)⟩
theorem WBox.kept{H H':AH}{g:Nat}{p:Nat×Nat×Nat}(h:WBox H g p)(hw:Wf H)(hk:Kept H H'):WBox H' g p:=⟨h.ar.keep (hk.old g (h.ar.lt hw))⟩
section
variable {H:AH} {g:Nat} {p:Nat×Nat×Nat} (h:WBox H g p)
include h
theorem WBox.c0:H.cell ⟨g,0,some 0⟩=some (.int .i64 (p.1:Int)):=h.ar.cell 0
theorem WBox.c1:H.cell ⟨g,1,some 0⟩=some (.int .i64 (p.2.1:Int)):=h.ar.cell 1
theorem WBox.c2:H.cell ⟨g,2,some 0⟩=some (.int .i64 (p.2.2:Int)):=h.ar.cell 2
theorem WBox.ca:H.cells ⟨g,0,some 0⟩ 3=some (C8v p):=h.ar.cells (i:=0) (n:=3) (by simp[C8v])
theorem WBox.cs:H.cells ⟨g,1,some 0⟩ 2=some (A7f p.2):=h.ar.cells (i:=1) (n:=2) (by simp[C8v])
end
def B7b(N:NetD):Arcs Nat ByteArray:=fun s a b t=>∃c∈N.arcs,c.fr=(s:Int)∧labT c.inn=a∧labT c.out=b∧c.to=(t:Int)
end Go.Proofs.YtjjgodccecehlaaGreat
