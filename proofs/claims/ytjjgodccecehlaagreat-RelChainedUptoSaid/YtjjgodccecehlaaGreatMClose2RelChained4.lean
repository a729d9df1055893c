/- A part of the proof: Marks. -/
import Derived.Test.YtjjgodccecehlaaGreatMClose2RelChained2
import Derived.Test.YtjjgodccecehlaaGreatMClose2RelChained3
set_option linter.unusedVariables false
set_option linter.unusedSimpArgs false
/- A state is marked and put into a list. -/
set_option maxHeartbeats 4000000
set_option maxRecDepth 20000
namespace Go.Proofs.YtjjgodccecehlaaGreat
open Go Go.Proofs Go.Proofs.Sh
theorem C7c{H1 H':AH}{z:Value}{os ob:Option Nat}{l:List Nat}(t:Nat)(hk:Kept H1 H')(ho:∀y,os=some y→y<H'.next)(hl:LB H' H1.next os z l ob)(hn:l.length≤17179869183):
  ∃ a cap w' H4 ob', z = .slice a l.length cap ∧ A4a Tryz.prog 71 1 [(0, .int .i64 (t : Int))] H' = some (.slice (some ⟨H'.next, 0, some 0⟩) 1 1, (H'.new 1 [.int .i64 (t : Int)]).2) ∧
      A3a Tryz.prog .append [71, 71] [.slice a l.length cap, .slice (some ⟨H'.next, 0, some 0⟩) 1 1] (H'.new 1 [.int .i64 (t : Int)]).2 = some (w', H4) ∧
      Kept H1 H4 ∧ LB H4 H1.next os w' (l ++ [t]) ob' ∧ Chg (fun y => ob = some y) H' H4 := by
 obtain⟨a,cap,w',H4,ob',rfl,k1,k2,k3,k4⟩:=hl.push hk.next ho hk.wf t;have ha:=B5u (H:=H') (base:=a) (len:=l.length) (cap:=cap) (x:=natC t) rfl hn;rw[k1]at ha;exact⟨a,cap,w',H4,ob',rfl,A3o (H:=H') (x:=.int .i64 (t:Int)) rfl rfl,ha,hk.then (Nat.le_refl _) (k3.weak fun y hy=>(hl.fr y hy).1),k2,k3⟩
theorem markNat{H1 H':AH}{n:Nat}{sv:Value}{os:Option Nat}{seen:List Bool}{out:List Nat}{t:Nat}(hk:Kept H1 H')(hM:MB H' H1.next n sv os seen out)(ht:t<n)(hnt:t∉out):
  ∃p H3,A4b Tryz.prog 58 sv (.int .i64 (t:Int))=some (.pointer (some p))∧H'.cell p=some (.bool false)∧A7d Tryz.prog 4 H' (.bool true) (.pointer (some p))=some H3∧Kept H1 H3∧MB H3 H1.next n sv os (seen.set t true) (out++[t])∧Chg (fun y=>os=some y) H' H3:=by
 obtain⟨p,H3,e1,e2,e3,e4,e5,e6⟩:=hM.set Tryz.underlying58 A5r hk.wf ht hnt;exact⟨p,H3,e1,e2,by rw[A9b A5r rfl];exact e3,hk.then (Nat.le_refl _) (e5.weak hM.fr),e4,e5⟩
theorem C0h {H1 H' : AH} {n : Nat} {sv z : Value} {os ob : Option Nat} {seen : List Bool} {out l : List Nat} {t : Nat} (hk : Kept H1 H') (hM : MB H' H1.next n sv os seen out) (hl : LB H' H1.next os z l ob) (ht : t < n) (hnt : t ∉ out) (hn : l.length ≤ 17179869183) :
      ∃p H3 a cap w' H4 ob', A4b Tryz.prog 58 sv (.int .i64 (t : Int)) = some (.pointer (some p)) ∧ H'.cell p = some (.bool false) ∧ A7d Tryz.prog 4 H' (.bool true) (.pointer (some p)) = some H3 ∧ z = .slice a l.length cap ∧ Kept H1 H3 ∧
        A4a Tryz.prog 71 1 [(0, .int .i64 (t : Int))] H3 = some (.slice (some ⟨H3.next, 0, some 0⟩) 1 1, (H3.new 1 [.int .i64 (t : Int)]).2) ∧
        A3a Tryz.prog .append [71, 71] [.slice a l.length cap, .slice (some ⟨H3.next, 0, some 0⟩) 1 1] (H3.new 1 [.int .i64 (t : Int)]).2 = some (w', H4) ∧
        Kept H1 H4 ∧ MB H4 H1.next n sv os (seen.set t true) (out ++ [t]) ∧ LB H4 H1.next os w' (l ++ [t]) ob' ∧ Chg (fun y => os = some y) H' H3 := by
  obtain⟨p, H3, e1, e2, e3, e4, e5, e6⟩ := markNat hk hM ht hnt;have hl3 := hl.chg hk.wf e6 fun y h => h;obtain⟨a, cap, w', H4, ob', k0, k1, k2, k3, k4, k5⟩ := C7c t e4 (e5.lt e4.wf) hl3 hn;exact⟨p, H3, a, cap, w', H4, ob', e1, e2, e3, k0, e4, k1, k2, k3, e5.chg e4.wf k5 (fun y hy h => (hl3.fr y hy).2 h), k4, e6⟩
end Go.Proofs.YtjjgodccecehlaaGreat
