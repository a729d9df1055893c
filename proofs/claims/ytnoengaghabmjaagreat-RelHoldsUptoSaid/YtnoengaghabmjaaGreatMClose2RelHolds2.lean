/- A part of the proof: Facts, NetFacts, AnyLong, IsSymbol, AllSymbols, IsSet, RefSigma, Search, SearchAt, SearchStrings, IsIn, ValidateNet, SymsSmall, IndexFuncStr, SymsValidate, CmpLessStr, BinarySearch, GraphCheck, Priced, IsFree, RefValidate, NetOk, RelVal, GraphArc, GraphEnd, GraphB, CloneStr, GraphNew, PlaceWord, GraphOf. -/
import Derived.Test.YtnoengaghabmjaaGreatProg
import Derived.Test.YtnoengaghabmjaaGreatMClose2RelHolds1
import Derived.KernelRfl
set_option linter.unusedVariables false
set_option linter.unusedSimpArgs false
/- What the types of this program are, for walking. Made by program. -/
set_option linter.unusedVariables false
namespace Go.Proofs.YtnoengaghabmjaaGreat
open Go Go.Proofs Go.Proofs.Sh
theorem agg_1:A9g Tryz.prog 1=some false:=by kernel_rfl
theorem zero_1:zeroAt Tryz.prog 1=some (.nilFunc):=by kernel_rfl
theorem ld_1 {H:AH} {a:Addr}:A2g Tryz.prog 1 H (.pointer (some a))=H.cell a:=A0c agg_1
theorem agg_2:A9g Tryz.prog 2=some false:=by kernel_rfl
theorem zero_2:zeroAt Tryz.prog 2=some (.int .i64 0):=by kernel_rfl
theorem ld_2 {H:AH} {a:Addr}:A2g Tryz.prog 2 H (.pointer (some a))=H.cell a:=A0c agg_2
theorem B36:A9g Tryz.prog 3=some false:=by kernel_rfl
theorem A3i:A7b Tryz.prog 3=some 1:=by kernel_rfl
theorem B0u:Tryz.prog.cellsOf 3=1:=by kernel_rfl
theorem A08:zeroAt Tryz.prog 3=some (.int .i64 0):=by kernel_rfl
theorem ld_3 {H:AH} {a:Addr}:A2g Tryz.prog 3 H (.pointer (some a))=H.cell a:=A0c B36
theorem agg_4:A9g Tryz.prog 4=some false:=by kernel_rfl
theorem B70:A7b Tryz.prog 4=some 1:=by kernel_rfl
theorem A55:zeroAt Tryz.prog 4=some (.bool false):=by kernel_rfl
theorem ld_4 {H:AH} {a:Addr}:A2g Tryz.prog 4 H (.pointer (some a))=H.cell a:=A0c agg_4
theorem agg_5:A9g Tryz.prog 5=some false:=by kernel_rfl
theorem zero_5:zeroAt Tryz.prog 5=some (.int .u8 0):=by kernel_rfl
theorem ld_5 {H:AH} {a:Addr}:A2g Tryz.prog 5 H (.pointer (some a))=H.cell a:=A0c agg_5
theorem agg_9:A9g Tryz.prog 9=some false:=by kernel_rfl
theorem A0m:A7b Tryz.prog 9=some 1:=by kernel_rfl
theorem C1d:Tryz.prog.cellsOf 9=1:=by kernel_rfl
theorem B6u:zeroAt Tryz.prog 9=some (.string ⟨#[]⟩):=by kernel_rfl
theorem ld_9 {H:AH} {a:Addr}:A2g Tryz.prog 9 H (.pointer (some a))=H.cell a:=A0c agg_9
theorem agg_22:A9g Tryz.prog 22=some false:=by kernel_rfl
theorem A3t:A7b Tryz.prog 22=some 1:=by kernel_rfl
theorem cells_22:Tryz.prog.cellsOf 22=1:=by kernel_rfl
theorem A88:zeroAt Tryz.prog 22=some (.slice none 0 0):=by kernel_rfl
theorem ld_22 {H:AH} {a:Addr}:A2g Tryz.prog 22 H (.pointer (some a))=H.cell a:=A0c agg_22
theorem agg_23:A9g Tryz.prog 23=some false:=by kernel_rfl
theorem A37:A7b Tryz.prog 23=some 1:=by kernel_rfl
theorem cells_23:Tryz.prog.cellsOf 23=1:=by kernel_rfl
theorem B2h:zeroAt Tryz.prog 23=some (.slice none 0 0):=by kernel_rfl
theorem ld_23 {H:AH} {a:Addr}:A2g Tryz.prog 23 H (.pointer (some a))=H.cell a:=A0c agg_23
theorem agg_24:A9g Tryz.prog 24=some false:=by kernel_rfl
theorem size_24:A7b Tryz.prog 24=some 1:=by kernel_rfl
theorem cells_24:Tryz.prog.cellsOf 24=1:=by kernel_rfl
theorem B68:zeroAt Tryz.prog 24=some (.slice none 0 0):=by kernel_rfl
theorem ld_24 {H:AH} {a:Addr}:A2g Tryz.prog 24 H (.pointer (some a))=H.cell a:=A0c agg_24
theorem agg_26:A9g Tryz.prog 26=some true:=by kernel_rfl
theorem A5x:A7b Tryz.prog 26=some 4:=by kernel_rfl
theorem cells_26:Tryz.prog.cellsOf 26=4:=by kernel_rfl
theorem B9h:zeroAt Tryz.prog 26=some (.agg #[.slice none 0 0,.int .i64 0,.slice none 0 0,.slice none 0 0]):=by kernel_rfl
theorem ld_26 {H:AH} {a:Addr}:A2g Tryz.prog 26 H (.pointer (some a))=(H.cells a 4).map fun l=>.agg l.toArray:=A0t agg_26 A5x
theorem agg_30:A9g Tryz.prog 30=some false:=by kernel_rfl
theorem C0f:zeroAt Tryz.prog 30=some (.slice none 0 0):=by kernel_rfl
theorem ld_30 {H:AH} {a:Addr}:A2g Tryz.prog 30 H (.pointer (some a))=H.cell a:=A0c agg_30
theorem agg_31:A9g Tryz.prog 31=some false:=by kernel_rfl
theorem C1b:zeroAt Tryz.prog 31=some (.int .i64 0):=by kernel_rfl
theorem ld_31 {H:AH} {a:Addr}:A2g Tryz.prog 31 H (.pointer (some a))=H.cell a:=A0c agg_31
theorem agg_52:A9g Tryz.prog 52=some false:=by kernel_rfl
theorem C1e:zeroAt Tryz.prog 52=some (.slice none 0 0):=by kernel_rfl
theorem ld_52 {H:AH} {a:Addr}:A2g Tryz.prog 52 H (.pointer (some a))=H.cell a:=A0c agg_52
theorem agg_54:A9g Tryz.prog 54=some true:=by kernel_rfl
theorem A8k:A7b Tryz.prog 54=some 5:=by kernel_rfl
theorem B80:Tryz.prog.cellsOf 54=5:=by kernel_rfl
theorem A78:zeroAt Tryz.prog 54=some (.agg #[.int .i64 0,.string ⟨#[]⟩,.string ⟨#[]⟩,.int .i64 0,.int .i64 0]):=by kernel_rfl
theorem ld_54 {H:AH} {a:Addr}:A2g Tryz.prog 54 H (.pointer (some a))=(H.cells a 5).map fun l=>.agg l.toArray:=A0t agg_54 A8k
theorem agg_56:A9g Tryz.prog 56=some true:=by kernel_rfl
theorem A5o:A7b Tryz.prog 56=some 2:=by kernel_rfl
theorem B2y:Tryz.prog.cellsOf 56=2:=by kernel_rfl
theorem B4r:zeroAt Tryz.prog 56=some (.agg #[.int .i64 0,.int .i64 0]):=by kernel_rfl
theorem ld_56 {H:AH} {a:Addr}:A2g Tryz.prog 56 H (.pointer (some a))=(H.cells a 2).map fun l=>.agg l.toArray:=A0t agg_56 A5o
theorem agg_66:A9g Tryz.prog 66=some false:=by kernel_rfl
theorem B87:zeroAt Tryz.prog 66=some (.slice none 0 0):=by kernel_rfl
theorem ld_66 {H:AH} {a:Addr}:A2g Tryz.prog 66 H (.pointer (some a))=H.cell a:=A0c agg_66
theorem agg_73:A9g Tryz.prog 73=some false:=by kernel_rfl
theorem C6c:zeroAt Tryz.prog 73=some (.pointer none):=by kernel_rfl
theorem ld_73 {H:AH} {a:Addr}:A2g Tryz.prog 73 H (.pointer (some a))=H.cell a:=A0c agg_73
theorem agg_80:A9g Tryz.prog 80=some false:=by kernel_rfl
theorem B98:zeroAt Tryz.prog 80=some (.slice none 0 0):=by kernel_rfl
theorem ld_80 {H:AH} {a:Addr}:A2g Tryz.prog 80 H (.pointer (some a))=H.cell a:=A0c agg_80
theorem C3d:A9g Tryz.prog 83=some true:=by kernel_rfl
theorem A1s:A7b Tryz.prog 83=some 2:=by kernel_rfl
theorem A90:zeroAt Tryz.prog 83=some (.agg #[.int .i64 0,.int .i64 0]):=by kernel_rfl
theorem ld_83 {H:AH} {a:Addr}:A2g Tryz.prog 83 H (.pointer (some a))=(H.cells a 2).map fun l=>.agg l.toArray:=A0t C3d A1s
theorem agg_88:A9g Tryz.prog 88=some false:=by kernel_rfl
theorem B79:A7b Tryz.prog 88=some 1:=by kernel_rfl
theorem B65:zeroAt Tryz.prog 88=some (.slice none 0 0):=by kernel_rfl
theorem ld_88 {H:AH} {a:Addr}:A2g Tryz.prog 88 H (.pointer (some a))=H.cell a:=A0c agg_88
theorem agg_100:A9g Tryz.prog 100=some true:=by kernel_rfl
theorem A7s:A7b Tryz.prog 100=some 4:=by kernel_rfl
theorem A7u:zeroAt Tryz.prog 100=some (.agg #[.int .i64 0,.int .i64 0,.int .i64 0,.int .i64 0]):=by kernel_rfl
theorem ld_100 {H:AH} {a:Addr}:A2g Tryz.prog 100 H (.pointer (some a))=(H.cells a 4).map fun l=>.agg l.toArray:=A0t agg_100 A7s
theorem agg_117:A9g Tryz.prog 117=some false:=by kernel_rfl
theorem B9u:zeroAt Tryz.prog 117=some (.nilFunc):=by kernel_rfl
theorem ld_117 {H:AH} {a:Addr}:A2g Tryz.prog 117 H (.pointer (some a))=H.cell a:=A0c agg_117
theorem agg_119:A9g Tryz.prog 119=some false:=by kernel_rfl
theorem B01:zeroAt Tryz.prog 119=some (.nilFunc):=by kernel_rfl
theorem ld_119 {H:AH} {a:Addr}:A2g Tryz.prog 119 H (.pointer (some a))=H.cell a:=A0c agg_119
theorem agg_123:A9g Tryz.prog 123=some false:=by kernel_rfl
theorem size_123:A7b Tryz.prog 123=some 1:=by kernel_rfl
theorem B7x:zeroAt Tryz.prog 123=some (.slice none 0 0):=by kernel_rfl
theorem ld_123 {H:AH} {a:Addr}:A2g Tryz.prog 123 H (.pointer (some a))=H.cell a:=A0c agg_123
theorem agg_125:A9g Tryz.prog 125=some true:=by kernel_rfl
theorem B11:A7b Tryz.prog 125=some 4:=by kernel_rfl
theorem B3g:zeroAt Tryz.prog 125=some (.agg #[.slice none 0 0,.slice none 0 0,.slice none 0 0,.slice none 0 0]):=by kernel_rfl
theorem ld_125 {H:AH} {a:Addr}:A2g Tryz.prog 125 H (.pointer (some a))=(H.cells a 4).map fun l=>.agg l.toArray:=A0t agg_125 B11
theorem agg_126:A9g Tryz.prog 126=some false:=by kernel_rfl
theorem A93:A7b Tryz.prog 126=some 1:=by kernel_rfl
theorem A44:zeroAt Tryz.prog 126=some (.slice none 0 0):=by kernel_rfl
theorem ld_126 {H:AH} {a:Addr}:A2g Tryz.prog 126 H (.pointer (some a))=H.cell a:=A0c agg_126
theorem agg_131:A9g Tryz.prog 131=some false:=by kernel_rfl
theorem B3y:zeroAt Tryz.prog 131=some (.slice none 0 0):=by kernel_rfl
theorem ld_131 {H:AH} {a:Addr}:A2g Tryz.prog 131 H (.pointer (some a))=H.cell a:=A0c agg_131
theorem agg_134:A9g Tryz.prog 134=some false:=by kernel_rfl
theorem B61:zeroAt Tryz.prog 134=some (.slice none 0 0):=by kernel_rfl
theorem ld_134 {H:AH} {a:Addr}:A2g Tryz.prog 134 H (.pointer (some a))=H.cell a:=A0c agg_134
theorem agg_135:A9g Tryz.prog 135=some false:=by kernel_rfl
theorem B02:zeroAt Tryz.prog 135=some (.map none):=by kernel_rfl
theorem ld_135 {H:AH} {a:Addr}:A2g Tryz.prog 135 H (.pointer (some a))=H.cell a:=A0c agg_135
theorem agg_137:A9g Tryz.prog 137=some true:=by kernel_rfl
theorem A9u:A7b Tryz.prog 137=some 3:=by kernel_rfl
theorem A3v:zeroAt Tryz.prog 137=some (.agg #[.int .i64 0,.int .i64 0,.int .i64 0]):=by kernel_rfl
theorem ld_137 {H:AH} {a:Addr}:A2g Tryz.prog 137 H (.pointer (some a))=(H.cells a 3).map fun l=>.agg l.toArray:=A0t agg_137 A9u
theorem agg_138:A9g Tryz.prog 138=some false:=by kernel_rfl
theorem B8z:zeroAt Tryz.prog 138=some (.map none):=by kernel_rfl
theorem ld_138 {H:AH} {a:Addr}:A2g Tryz.prog 138 H (.pointer (some a))=H.cell a:=A0c agg_138
theorem agg_144:A9g Tryz.prog 144=some false:=by kernel_rfl
theorem B2x:A7b Tryz.prog 144=some 1:=by kernel_rfl
theorem B9x:zeroAt Tryz.prog 144=some (.slice none 0 0):=by kernel_rfl
theorem ld_144 {H:AH} {a:Addr}:A2g Tryz.prog 144 H (.pointer (some a))=H.cell a:=A0c agg_144
theorem agg_145:A9g Tryz.prog 145=some false:=by kernel_rfl
theorem A6h:A7b Tryz.prog 145=some 1:=by kernel_rfl
theorem A34:zeroAt Tryz.prog 145=some (.int .u64 0):=by kernel_rfl
theorem ld_145 {H:AH} {a:Addr}:A2g Tryz.prog 145 H (.pointer (some a))=H.cell a:=A0c agg_145
theorem agg_146:A9g Tryz.prog 146=some false:=by kernel_rfl
theorem B8u:zeroAt Tryz.prog 146=some (.int .u64 0):=by kernel_rfl
theorem ld_146 {H:AH} {a:Addr}:A2g Tryz.prog 146 H (.pointer (some a))=H.cell a:=A0c agg_146
theorem agg_147:A9g Tryz.prog 147=some false:=by kernel_rfl
theorem B2v:zeroAt Tryz.prog 147=some (.nilFunc):=by kernel_rfl
theorem ld_147 {H:AH} {a:Addr}:A2g Tryz.prog 147 H (.pointer (some a))=H.cell a:=A0c agg_147
theorem len_9 {H:AH} {s:ByteArray}:A7a Tryz.prog .len [9] [.string s] H=some (.int .i64 (s.size:Int),H):=B23 Tryz.underlying9
theorem len_22 {H:AH} {n c:Nat} {a:Option Addr}:A7a Tryz.prog .len [22] [.slice a n c] H=some (.int .i64 (n:Int),H):=A8g Tryz.underlying22
theorem info_22:((Tryz.prog.info? 9).map fun i=>Nat.beq i.size 1 && Nat.ble i.bytes 65536)=some true:=by kernel_rfl
theorem app_22 {H:AH} {t' len cap n:Nat} {base:Option Addr} {x:Value} {new:List Value} (hx:Sh.srcKind Tryz.prog t' x=true) (hn:Sh.newCells 1 H x=some (n,new)) (hb:len+n≤1073741824):A7a Tryz.prog .append [22,t'] [.slice base len cap,x] H=A0e 1 base len cap n new H:=A28 Tryz.underlying22 info_22 B6u rfl (Nat.le_of_ble_eq_true rfl) hx hn hb
theorem B8w {c:Bool} {a:Option Addr} {n m:Nat}:abin Tryz.prog 22 c .eql (.slice a n m) (.slice none 0 0)=some (.bool a.isNone):=A7h Tryz.underlying22
theorem B5n {c:Bool} {a:Option Addr} {n m:Nat}:abin Tryz.prog 22 c .neq (.slice a n m) (.slice none 0 0)=some (.bool a.isSome):=A1d Tryz.underlying22
theorem B2k {H:AH}:A5a Tryz.prog 22 0 [] H=some (.slice (some ⟨H.next,0,some 0⟩) 0 0,(H.new 1 []).2):=A9h Tryz.underlying22 A0m B6u rfl (Nat.le_of_ble_eq_true rfl)
theorem len_23 {H:AH} {n c:Nat} {a:Option Addr}:A7a Tryz.prog .len [23] [.slice a n c] H=some (.int .i64 (n:Int),H):=A8g Tryz.underlying23
theorem info_23:((Tryz.prog.info? 54).map fun i=>Nat.beq i.size 5 && Nat.ble i.bytes 65536)=some true:=by kernel_rfl
theorem app1_23 {H:AH} {len cap:Nat} {base:Option Addr} {x:List Value} (hx:x.length=5) (hb:len≤1073741823):A7a Tryz.prog .append [23,23] [.slice base len cap,.slice (some ⟨H.next,0,some 0⟩) 1 1] (H.new 5 x).2=A0e 5 base len cap 1 x (H.new 5 x).2:=A3q Tryz.underlying23 info_23 A78 rfl (Nat.le_of_ble_eq_true rfl) hx hb
theorem B9v {c:Bool} {a:Option Addr} {n m:Nat}:abin Tryz.prog 23 c .eql (.slice a n m) (.slice none 0 0)=some (.bool a.isNone):=A7h Tryz.underlying23
theorem B2n {c:Bool} {a:Option Addr} {n m:Nat}:abin Tryz.prog 23 c .neq (.slice a n m) (.slice none 0 0)=some (.bool a.isSome):=A1d Tryz.underlying23
theorem B2o {H:AH}:A5a Tryz.prog 23 0 [] H=some (.slice (some ⟨H.next,0,some 0⟩) 0 0,(H.new 5 []).2):=A9h Tryz.underlying23 A8k A78 rfl (Nat.le_of_ble_eq_true rfl)
theorem C3e {H:AH} {x:Value} (hx:(A8a x).length=5) (hc:(A8a x).all isCell=true):A5a Tryz.prog 23 1 [(0,x)] H=some (.slice (some ⟨H.next,0,some 0⟩) 1 1,(H.new 5 (A8a x)).2):=A4q Tryz.underlying23 A8k A78 rfl (Nat.le_of_ble_eq_true rfl) (Nat.le_of_ble_eq_true rfl) hx hc
theorem len_24 {H:AH} {n c:Nat} {a:Option Addr}:A7a Tryz.prog .len [24] [.slice a n c] H=some (.int .i64 (n:Int),H):=A8g Tryz.underlying24
theorem B0z {c:Bool} {a:Option Addr} {n m:Nat}:abin Tryz.prog 24 c .eql (.slice a n m) (.slice none 0 0)=some (.bool a.isNone):=A7h Tryz.underlying24
theorem B8o {c:Bool} {a:Option Addr} {n m:Nat}:abin Tryz.prog 24 c .neq (.slice a n m) (.slice none 0 0)=some (.bool a.isSome):=A1d Tryz.underlying24
theorem B1o {H:AH}:A5a Tryz.prog 24 0 [] H=some (.slice (some ⟨H.next,0,some 0⟩) 0 0,(H.new 2 []).2):=A9h Tryz.underlying24 A5o B4r rfl (Nat.le_of_ble_eq_true rfl)
theorem B19 {g o k:Nat}:A2b Tryz.prog 26 0 (.pointer (some ⟨g,o,some k⟩))=some (.pointer (some ⟨g,o+0,some k⟩)):=by have h:=A1b (g:=g) (o:=o) (k:=k) (f:=0) Tryz.underlying26 (Eq.refl (some _)) A3t rfl; exact h
theorem C3c {g o k:Nat}:A2b Tryz.prog 26 1 (.pointer (some ⟨g,o,some k⟩))=some (.pointer (some ⟨g,o+1,some k⟩)):=by have h:=A1b (g:=g) (o:=o) (k:=k) (f:=1) Tryz.underlying26 (Eq.refl (some _)) A3i rfl; exact h
theorem B97 {g o k:Nat}:A2b Tryz.prog 26 2 (.pointer (some ⟨g,o,some k⟩))=some (.pointer (some ⟨g,o+2,some k⟩)):=by have h:=A1b (g:=g) (o:=o) (k:=k) (f:=2) Tryz.underlying26 (Eq.refl (some _)) A37 rfl; exact h
theorem C2e {g o k:Nat}:A2b Tryz.prog 26 3 (.pointer (some ⟨g,o,some k⟩))=some (.pointer (some ⟨g,o+3,some k⟩)):=by have h:=A1b (g:=g) (o:=o) (k:=k) (f:=3) Tryz.underlying26 (Eq.refl (some _)) size_24 rfl; exact h
theorem len_30 {H:AH} {n c:Nat} {a:Option Addr}:A7a Tryz.prog .len [30] [.slice a n c] H=some (.int .i64 (n:Int),H):=A8g Tryz.underlying30
theorem B9w {c:Bool} {a:Option Addr} {n m:Nat}:abin Tryz.prog 30 c .eql (.slice a n m) (.slice none 0 0)=some (.bool a.isNone):=A7h Tryz.underlying30
theorem B8j {c:Bool} {a:Option Addr} {n m:Nat}:abin Tryz.prog 30 c .neq (.slice a n m) (.slice none 0 0)=some (.bool a.isSome):=A1d Tryz.underlying30
theorem B5j {H:AH}:A5a Tryz.prog 30 0 [] H=some (.slice (some ⟨H.next,0,some 0⟩) 0 0,(H.new 1 []).2):=A9h Tryz.underlying30 A3t A88 rfl (Nat.le_of_ble_eq_true rfl)
theorem len_52 {H:AH} {n c:Nat} {a:Option Addr}:A7a Tryz.prog .len [52] [.slice a n c] H=some (.int .i64 (n:Int),H):=A8g Tryz.underlying52
theorem B4z {c:Bool} {a:Option Addr} {n m:Nat}:abin Tryz.prog 52 c .eql (.slice a n m) (.slice none 0 0)=some (.bool a.isNone):=A7h Tryz.underlying52
theorem B0n {c:Bool} {a:Option Addr} {n m:Nat}:abin Tryz.prog 52 c .neq (.slice a n m) (.slice none 0 0)=some (.bool a.isSome):=A1d Tryz.underlying52
theorem B4l {H:AH}:A5a Tryz.prog 52 0 [] H=some (.slice (some ⟨H.next,0,some 0⟩) 0 0,(H.new 4 []).2):=A9h Tryz.underlying52 A5x B9h rfl (Nat.le_of_ble_eq_true rfl)
theorem C0b {H:AH} {x:Value} (hx:(A8a x).length=4) (hc:(A8a x).all isCell=true):A5a Tryz.prog 52 1 [(0,x)] H=some (.slice (some ⟨H.next,0,some 0⟩) 1 1,(H.new 4 (A8a x)).2):=A4q Tryz.underlying52 A5x B9h rfl (Nat.le_of_ble_eq_true rfl) (Nat.le_of_ble_eq_true rfl) hx hc
theorem C9a {g o k:Nat}:A2b Tryz.prog 54 0 (.pointer (some ⟨g,o,some k⟩))=some (.pointer (some ⟨g,o+0,some k⟩)):=by have h:=A1b (g:=g) (o:=o) (k:=k) (f:=0) Tryz.underlying54 (Eq.refl (some _)) A3i rfl; exact h
theorem C7b {g o k:Nat}:A2b Tryz.prog 54 1 (.pointer (some ⟨g,o,some k⟩))=some (.pointer (some ⟨g,o+1,some k⟩)):=by have h:=A1b (g:=g) (o:=o) (k:=k) (f:=1) Tryz.underlying54 (Eq.refl (some _)) A0m rfl; exact h
theorem B35 {g o k:Nat}:A2b Tryz.prog 54 2 (.pointer (some ⟨g,o,some k⟩))=some (.pointer (some ⟨g,o+2,some k⟩)):=by have h:=A1b (g:=g) (o:=o) (k:=k) (f:=2) Tryz.underlying54 (Eq.refl (some _)) A0m rfl; exact h
theorem B55 {g o k:Nat}:A2b Tryz.prog 54 3 (.pointer (some ⟨g,o,some k⟩))=some (.pointer (some ⟨g,o+3,some k⟩)):=by have h:=A1b (g:=g) (o:=o) (k:=k) (f:=3) Tryz.underlying54 (Eq.refl (some _)) A3i rfl; exact h
theorem B15 {g o k:Nat}:A2b Tryz.prog 54 4 (.pointer (some ⟨g,o,some k⟩))=some (.pointer (some ⟨g,o+4,some k⟩)):=by have h:=A1b (g:=g) (o:=o) (k:=k) (f:=4) Tryz.underlying54 (Eq.refl (some _)) A3i rfl; exact h
theorem B39 {g o k:Nat}:A2b Tryz.prog 56 0 (.pointer (some ⟨g,o,some k⟩))=some (.pointer (some ⟨g,o+0,some k⟩)):=by have h:=A1b (g:=g) (o:=o) (k:=k) (f:=0) Tryz.underlying56 (Eq.refl (some _)) A3i rfl; exact h
theorem C4b {g o k:Nat}:A2b Tryz.prog 56 1 (.pointer (some ⟨g,o,some k⟩))=some (.pointer (some ⟨g,o+1,some k⟩)):=by have h:=A1b (g:=g) (o:=o) (k:=k) (f:=1) Tryz.underlying56 (Eq.refl (some _)) A3i rfl; exact h
theorem len_66 {H:AH} {n c:Nat} {a:Option Addr}:A7a Tryz.prog .len [66] [.slice a n c] H=some (.int .i64 (n:Int),H):=A8g Tryz.underlying66
theorem info_66:((Tryz.prog.info? 4).map fun i=>Nat.beq i.size 1 && Nat.ble i.bytes 65536)=some true:=by kernel_rfl
theorem B5x {c:Bool} {a:Option Addr} {n m:Nat}:abin Tryz.prog 66 c .eql (.slice a n m) (.slice none 0 0)=some (.bool a.isNone):=A7h Tryz.underlying66
theorem B4j {c:Bool} {a:Option Addr} {n m:Nat}:abin Tryz.prog 66 c .neq (.slice a n m) (.slice none 0 0)=some (.bool a.isSome):=A1d Tryz.underlying66
theorem mk_66 {H:AH} {l c:Nat} (hlc:l≤c) (hc:c≤1073741824):A6f Tryz.prog 66 (.int .i64 (l:Int)) (.int .i64 (c:Int)) H=some (.slice (some ⟨H.next,0,some 0⟩) l c,(H.new 1 (List.replicate c (.bool false))).2):=by rw [← A20]; exact A05 Tryz.underlying66 info_66 A55 rfl (Nat.le_of_ble_eq_true rfl) hlc hc
theorem B6p {H:AH}:A5a Tryz.prog 66 0 [] H=some (.slice (some ⟨H.next,0,some 0⟩) 0 0,(H.new 1 []).2):=A9h Tryz.underlying66 B70 A55 rfl (Nat.le_of_ble_eq_true rfl)
theorem len_80 {H:AH} {n c:Nat} {a:Option Addr}:A7a Tryz.prog .len [80] [.slice a n c] H=some (.int .i64 (n:Int),H):=A8g Tryz.underlying80
theorem info_80:((Tryz.prog.info? 83).map fun i=>Nat.beq i.size 2 && Nat.ble i.bytes 65536)=some true:=by kernel_rfl
theorem app1_80 {H:AH} {len cap:Nat} {base:Option Addr} {x:List Value} (hx:x.length=2) (hb:len≤1073741823):A7a Tryz.prog .append [80,80] [.slice base len cap,.slice (some ⟨H.next,0,some 0⟩) 1 1] (H.new 2 x).2=A0e 2 base len cap 1 x (H.new 2 x).2:=A3q Tryz.underlying80 info_80 A90 rfl (Nat.le_of_ble_eq_true rfl) hx hb
theorem B5z {c:Bool} {a:Option Addr} {n m:Nat}:abin Tryz.prog 80 c .eql (.slice a n m) (.slice none 0 0)=some (.bool a.isNone):=A7h Tryz.underlying80
theorem B5k {c:Bool} {a:Option Addr} {n m:Nat}:abin Tryz.prog 80 c .neq (.slice a n m) (.slice none 0 0)=some (.bool a.isSome):=A1d Tryz.underlying80
theorem B3j {H:AH}:A5a Tryz.prog 80 0 [] H=some (.slice (some ⟨H.next,0,some 0⟩) 0 0,(H.new 2 []).2):=A9h Tryz.underlying80 A1s A90 rfl (Nat.le_of_ble_eq_true rfl)
theorem C1a {H:AH} {x:Value} (hx:(A8a x).length=2) (hc:(A8a x).all isCell=true):A5a Tryz.prog 80 1 [(0,x)] H=some (.slice (some ⟨H.next,0,some 0⟩) 1 1,(H.new 2 (A8a x)).2):=A4q Tryz.underlying80 A1s A90 rfl (Nat.le_of_ble_eq_true rfl) (Nat.le_of_ble_eq_true rfl) hx hc
theorem B88 {g o k:Nat}:A2b Tryz.prog 83 0 (.pointer (some ⟨g,o,some k⟩))=some (.pointer (some ⟨g,o+0,some k⟩)):=by have h:=A1b (g:=g) (o:=o) (k:=k) (f:=0) Tryz.underlying83 (Eq.refl (some _)) A3i rfl; exact h
theorem C5c {g o k:Nat}:A2b Tryz.prog 83 1 (.pointer (some ⟨g,o,some k⟩))=some (.pointer (some ⟨g,o+1,some k⟩)):=by have h:=A1b (g:=g) (o:=o) (k:=k) (f:=1) Tryz.underlying83 (Eq.refl (some _)) A3i rfl; exact h
theorem len_88 {H:AH} {n c:Nat} {a:Option Addr}:A7a Tryz.prog .len [88] [.slice a n c] H=some (.int .i64 (n:Int),H):=A8g Tryz.underlying88
theorem B5r:((Tryz.prog.info? 3).map fun i=>Nat.beq i.size 1 && Nat.ble i.bytes 65536)=some true:=by kernel_rfl
theorem app_88 {H:AH} {t' len cap n:Nat} {base:Option Addr} {x:Value} {new:List Value} (hx:Sh.srcKind Tryz.prog t' x=true) (hn:Sh.newCells 1 H x=some (n,new)) (hb:len+n≤1073741824):A7a Tryz.prog .append [88,t'] [.slice base len cap,x] H=A0e 1 base len cap n new H:=A28 Tryz.underlying88 B5r A08 rfl (Nat.le_of_ble_eq_true rfl) hx hn hb
theorem app1_88 {H:AH} {len cap:Nat} {base:Option Addr} {x:List Value} (hx:x.length=1) (hb:len≤1073741823):A7a Tryz.prog .append [88,88] [.slice base len cap,.slice (some ⟨H.next,0,some 0⟩) 1 1] (H.new 1 x).2=A0e 1 base len cap 1 x (H.new 1 x).2:=A3q Tryz.underlying88 B5r A08 rfl (Nat.le_of_ble_eq_true rfl) hx hb
theorem B81 {c:Bool} {a:Option Addr} {n m:Nat}:abin Tryz.prog 88 c .eql (.slice a n m) (.slice none 0 0)=some (.bool a.isNone):=A7h Tryz.underlying88
theorem B0m {c:Bool} {a:Option Addr} {n m:Nat}:abin Tryz.prog 88 c .neq (.slice a n m) (.slice none 0 0)=some (.bool a.isSome):=A1d Tryz.underlying88
theorem mk_88 {H:AH} {l c:Nat} (hlc:l≤c) (hc:c≤1073741824):A6f Tryz.prog 88 (.int .i64 (l:Int)) (.int .i64 (c:Int)) H=some (.slice (some ⟨H.next,0,some 0⟩) l c,(H.new 1 (List.replicate c (.int .i64 0))).2):=by rw [← A20]; exact A05 Tryz.underlying88 B5r A08 rfl (Nat.le_of_ble_eq_true rfl) hlc hc
theorem B7n {H:AH}:A5a Tryz.prog 88 0 [] H=some (.slice (some ⟨H.next,0,some 0⟩) 0 0,(H.new 1 []).2):=A9h Tryz.underlying88 A3i A08 rfl (Nat.le_of_ble_eq_true rfl)
theorem B0q {H:AH} {x:Value} (hx:(A8a x).length=1) (hc:(A8a x).all isCell=true):A5a Tryz.prog 88 1 [(0,x)] H=some (.slice (some ⟨H.next,0,some 0⟩) 1 1,(H.new 1 (A8a x)).2):=A4q Tryz.underlying88 A3i A08 rfl (Nat.le_of_ble_eq_true rfl) (Nat.le_of_ble_eq_true rfl) hx hc
theorem B3v {g o k:Nat}:A2b Tryz.prog 100 0 (.pointer (some ⟨g,o,some k⟩))=some (.pointer (some ⟨g,o+0,some k⟩)):=by have h:=A1b (g:=g) (o:=o) (k:=k) (f:=0) Tryz.underlying100 (Eq.refl (some _)) A3i rfl; exact h
theorem B1w {g o k:Nat}:A2b Tryz.prog 100 1 (.pointer (some ⟨g,o,some k⟩))=some (.pointer (some ⟨g,o+1,some k⟩)):=by have h:=A1b (g:=g) (o:=o) (k:=k) (f:=1) Tryz.underlying100 (Eq.refl (some _)) A3i rfl; exact h
theorem B51 {g o k:Nat}:A2b Tryz.prog 100 2 (.pointer (some ⟨g,o,some k⟩))=some (.pointer (some ⟨g,o+2,some k⟩)):=by have h:=A1b (g:=g) (o:=o) (k:=k) (f:=2) Tryz.underlying100 (Eq.refl (some _)) A3i rfl; exact h
theorem B5v {g o k:Nat}:A2b Tryz.prog 100 3 (.pointer (some ⟨g,o,some k⟩))=some (.pointer (some ⟨g,o+3,some k⟩)):=by have h:=A1b (g:=g) (o:=o) (k:=k) (f:=3) Tryz.underlying100 (Eq.refl (some _)) A3i rfl; exact h
theorem bld_100 {v0 v1 v2 v3:Value} (h0:isCell v0=true) (h1:isCell v1=true) (h2:isCell v2=true) (h3:isCell v3=true):A2q Tryz.prog 100 [(0,v0),(1,v1),(2,v2),(3,v3)]=some (.agg #[v0,v1,v2,v3]):=by refine A6p (pl:=[(0,1),(1,1),(2,1),(3,1)]) Tryz.underlying100 A7u (by kernel_rfl) ?_; have va:∀ xs:Array Value,A8a (.agg xs)=xs.toList:=fun _=>rfl; simp [A3y,A4d h0,A4d h1,A4d h2,A4d h3,va,h0,h1,h2,h3,setCells,A4a,A6b]
theorem C0a {H:AH} {n c:Nat} {a:Option Addr}:A7a Tryz.prog .len [123] [.slice a n c] H=some (.int .i64 (n:Int),H):=A8g Tryz.underlying123
theorem info_123:((Tryz.prog.info? 126).map fun i=>Nat.beq i.size 1 && Nat.ble i.bytes 65536)=some true:=by kernel_rfl
theorem B9p {c:Bool} {a:Option Addr} {n m:Nat}:abin Tryz.prog 123 c .eql (.slice a n m) (.slice none 0 0)=some (.bool a.isNone):=A7h Tryz.underlying123
theorem B6e {c:Bool} {a:Option Addr} {n m:Nat}:abin Tryz.prog 123 c .neq (.slice a n m) (.slice none 0 0)=some (.bool a.isSome):=A1d Tryz.underlying123
theorem mk_123 {H:AH} {l c:Nat} (hlc:l≤c) (hc:c≤1073741824):A6f Tryz.prog 123 (.int .i64 (l:Int)) (.int .i64 (c:Int)) H=some (.slice (some ⟨H.next,0,some 0⟩) l c,(H.new 1 (List.replicate c (.slice none 0 0))).2):=by rw [← A20]; exact A05 Tryz.underlying123 info_123 A44 rfl (Nat.le_of_ble_eq_true rfl) hlc hc
theorem B6b {H:AH}:A5a Tryz.prog 123 0 [] H=some (.slice (some ⟨H.next,0,some 0⟩) 0 0,(H.new 1 []).2):=A9h Tryz.underlying123 A93 A44 rfl (Nat.le_of_ble_eq_true rfl)
theorem B5y {g o k:Nat}:A2b Tryz.prog 125 0 (.pointer (some ⟨g,o,some k⟩))=some (.pointer (some ⟨g,o+0,some k⟩)):=by have h:=A1b (g:=g) (o:=o) (k:=k) (f:=0) Tryz.underlying125 (Eq.refl (some _)) A3t rfl; exact h
theorem B9y {g o k:Nat}:A2b Tryz.prog 125 1 (.pointer (some ⟨g,o,some k⟩))=some (.pointer (some ⟨g,o+1,some k⟩)):=by have h:=A1b (g:=g) (o:=o) (k:=k) (f:=1) Tryz.underlying125 (Eq.refl (some _)) size_123 rfl; exact h
theorem B32 {g o k:Nat}:A2b Tryz.prog 125 2 (.pointer (some ⟨g,o,some k⟩))=some (.pointer (some ⟨g,o+2,some k⟩)):=by have h:=A1b (g:=g) (o:=o) (k:=k) (f:=2) Tryz.underlying125 (Eq.refl (some _)) B79 rfl; exact h
theorem B6z {g o k:Nat}:A2b Tryz.prog 125 3 (.pointer (some ⟨g,o,some k⟩))=some (.pointer (some ⟨g,o+3,some k⟩)):=by have h:=A1b (g:=g) (o:=o) (k:=k) (f:=3) Tryz.underlying125 (Eq.refl (some _)) B79 rfl; exact h
theorem B78 {H:AH} {n c:Nat} {a:Option Addr}:A7a Tryz.prog .len [126] [.slice a n c] H=some (.int .i64 (n:Int),H):=A8g Tryz.underlying126
theorem info_126:((Tryz.prog.info? 100).map fun i=>Nat.beq i.size 4 && Nat.ble i.bytes 65536)=some true:=by kernel_rfl
theorem app1_126 {H:AH} {len cap:Nat} {base:Option Addr} {x:List Value} (hx:x.length=4) (hb:len≤1073741823):A7a Tryz.prog .append [126,126] [.slice base len cap,.slice (some ⟨H.next,0,some 0⟩) 1 1] (H.new 4 x).2=A0e 4 base len cap 1 x (H.new 4 x).2:=A3q Tryz.underlying126 info_126 A7u rfl (Nat.le_of_ble_eq_true rfl) hx hb
theorem B1p {c:Bool} {a:Option Addr} {n m:Nat}:abin Tryz.prog 126 c .eql (.slice a n m) (.slice none 0 0)=some (.bool a.isNone):=A7h Tryz.underlying126
theorem B9b {c:Bool} {a:Option Addr} {n m:Nat}:abin Tryz.prog 126 c .neq (.slice a n m) (.slice none 0 0)=some (.bool a.isSome):=A1d Tryz.underlying126
theorem B7b {H:AH}:A5a Tryz.prog 126 0 [] H=some (.slice (some ⟨H.next,0,some 0⟩) 0 0,(H.new 4 []).2):=A9h Tryz.underlying126 A7s A7u rfl (Nat.le_of_ble_eq_true rfl)
theorem B63 {H:AH} {x:Value} (hx:(A8a x).length=4) (hc:(A8a x).all isCell=true):A5a Tryz.prog 126 1 [(0,x)] H=some (.slice (some ⟨H.next,0,some 0⟩) 1 1,(H.new 4 (A8a x)).2):=A4q Tryz.underlying126 A7s A7u rfl (Nat.le_of_ble_eq_true rfl) (Nat.le_of_ble_eq_true rfl) hx hc
theorem B58 {H:AH} {n c:Nat} {a:Option Addr}:A7a Tryz.prog .len [131] [.slice a n c] H=some (.int .i64 (n:Int),H):=A8g Tryz.underlying131
theorem info_131:((Tryz.prog.info? 23).map fun i=>Nat.beq i.size 1 && Nat.ble i.bytes 65536)=some true:=by kernel_rfl
theorem B7q {c:Bool} {a:Option Addr} {n m:Nat}:abin Tryz.prog 131 c .eql (.slice a n m) (.slice none 0 0)=some (.bool a.isNone):=A7h Tryz.underlying131
theorem B5b {c:Bool} {a:Option Addr} {n m:Nat}:abin Tryz.prog 131 c .neq (.slice a n m) (.slice none 0 0)=some (.bool a.isSome):=A1d Tryz.underlying131
theorem mk_131 {H:AH} {l c:Nat} (hlc:l≤c) (hc:c≤1073741824):A6f Tryz.prog 131 (.int .i64 (l:Int)) (.int .i64 (c:Int)) H=some (.slice (some ⟨H.next,0,some 0⟩) l c,(H.new 1 (List.replicate c (.slice none 0 0))).2):=by rw [← A20]; exact A05 Tryz.underlying131 info_131 B2h rfl (Nat.le_of_ble_eq_true rfl) hlc hc
theorem B0e {H:AH}:A5a Tryz.prog 131 0 [] H=some (.slice (some ⟨H.next,0,some 0⟩) 0 0,(H.new 1 []).2):=A9h Tryz.underlying131 A37 B2h rfl (Nat.le_of_ble_eq_true rfl)
theorem C6d {H:AH} {n c:Nat} {a:Option Addr}:A7a Tryz.prog .len [134] [.slice a n c] H=some (.int .i64 (n:Int),H):=A8g Tryz.underlying134
theorem info_134:((Tryz.prog.info? 137).map fun i=>Nat.beq i.size 3 && Nat.ble i.bytes 65536)=some true:=by kernel_rfl
theorem app1_134 {H:AH} {len cap:Nat} {base:Option Addr} {x:List Value} (hx:x.length=3) (hb:len≤1073741823):A7a Tryz.prog .append [134,134] [.slice base len cap,.slice (some ⟨H.next,0,some 0⟩) 1 1] (H.new 3 x).2=A0e 3 base len cap 1 x (H.new 3 x).2:=A3q Tryz.underlying134 info_134 A3v rfl (Nat.le_of_ble_eq_true rfl) hx hb
theorem B6k {c:Bool} {a:Option Addr} {n m:Nat}:abin Tryz.prog 134 c .eql (.slice a n m) (.slice none 0 0)=some (.bool a.isNone):=A7h Tryz.underlying134
theorem B3e {c:Bool} {a:Option Addr} {n m:Nat}:abin Tryz.prog 134 c .neq (.slice a n m) (.slice none 0 0)=some (.bool a.isSome):=A1d Tryz.underlying134
theorem B8e {H:AH}:A5a Tryz.prog 134 0 [] H=some (.slice (some ⟨H.next,0,some 0⟩) 0 0,(H.new 3 []).2):=A9h Tryz.underlying134 A9u A3v rfl (Nat.le_of_ble_eq_true rfl)
theorem B92 {H:AH} {x:Value} (hx:(A8a x).length=3) (hc:(A8a x).all isCell=true):A5a Tryz.prog 134 1 [(0,x)] H=some (.slice (some ⟨H.next,0,some 0⟩) 1 1,(H.new 3 (A8a x)).2):=A4q Tryz.underlying134 A9u A3v rfl (Nat.le_of_ble_eq_true rfl) (Nat.le_of_ble_eq_true rfl) hx hc
theorem B4x {g o k:Nat}:A2b Tryz.prog 137 0 (.pointer (some ⟨g,o,some k⟩))=some (.pointer (some ⟨g,o+0,some k⟩)):=by have h:=A1b (g:=g) (o:=o) (k:=k) (f:=0) Tryz.underlying137 (Eq.refl (some _)) A3i rfl; exact h
theorem B10 {g o k:Nat}:A2b Tryz.prog 137 1 (.pointer (some ⟨g,o,some k⟩))=some (.pointer (some ⟨g,o+1,some k⟩)):=by have h:=A1b (g:=g) (o:=o) (k:=k) (f:=1) Tryz.underlying137 (Eq.refl (some _)) A1s rfl; exact h
theorem B26 {H:AH} {n c:Nat} {a:Option Addr}:A7a Tryz.prog .len [144] [.slice a n c] H=some (.int .i64 (n:Int),H):=A8g Tryz.underlying144
theorem info_144:((Tryz.prog.info? 145).map fun i=>Nat.beq i.size 1 && Nat.ble i.bytes 65536)=some true:=by kernel_rfl
theorem B3n {c:Bool} {a:Option Addr} {n m:Nat}:abin Tryz.prog 144 c .eql (.slice a n m) (.slice none 0 0)=some (.bool a.isNone):=A7h Tryz.underlying144
theorem B9c {c:Bool} {a:Option Addr} {n m:Nat}:abin Tryz.prog 144 c .neq (.slice a n m) (.slice none 0 0)=some (.bool a.isSome):=A1d Tryz.underlying144
theorem B46 {H:AH} {l c:Nat} (hlc:l≤c) (hc:c≤1073741824):A6f Tryz.prog 144 (.int .i64 (l:Int)) (.int .i64 (c:Int)) H=some (.slice (some ⟨H.next,0,some 0⟩) l c,(H.new 1 (List.replicate c (.int .u64 0))).2):=by rw [← A20]; exact A05 Tryz.underlying144 info_144 A34 rfl (Nat.le_of_ble_eq_true rfl) hlc hc
theorem B1e {H:AH}:A5a Tryz.prog 144 0 [] H=some (.slice (some ⟨H.next,0,some 0⟩) 0 0,(H.new 1 []).2):=A9h Tryz.underlying144 A6h A34 rfl (Nat.le_of_ble_eq_true rfl)
theorem B41 {H:AH} {n:Int}:A2k Tryz.prog 3 146 (.int .i64 n) H=some (.int .u64 (IntKind.wrap .u64 n),H):=B8x Tryz.underlying3 Tryz.underlying146
theorem B6w {H:AH} {n:Int}:A2k Tryz.prog 146 3 (.int .u64 n) H=some (.int .i64 (IntKind.wrap .i64 n),H):=B8x Tryz.underlying146 Tryz.underlying3
theorem B4q:type_of% (And.intro @zero_1 (And.intro @ld_1 (And.intro @zero_2 (And.intro @ld_2 (And.intro @A08 (And.intro @ld_3 (And.intro @A55 (And.intro @ld_4 (And.intro @zero_5 (And.intro @ld_5 (And.intro @B6u (And.intro @ld_9 (And.intro @A88 (And.intro @ld_22 (And.intro @B2h (And.intro @ld_23 (And.intro @B68 (And.intro @ld_24 (And.intro @B9h (And.intro @ld_26 (And.intro @C0f (And.intro @ld_30 (And.intro @C1b (And.intro @ld_31 (And.intro @C1e (And.intro @ld_52 (And.intro @A78 (And.intro @ld_54 (And.intro @B4r (And.intro @ld_56 (And.intro @B87 (And.intro @ld_66 (And.intro @C6c (And.intro @ld_73 (And.intro @B98 (And.intro @ld_80 (And.intro @A90 (And.intro @ld_83 (And.intro @B65 (And.intro @ld_88 (And.intro @A7u (And.intro @ld_100 (And.intro @B9u (And.intro @ld_117 (And.intro @B01 (And.intro @ld_119 (And.intro @B7x (And.intro @ld_123 (And.intro @B3g (And.intro @ld_125 (And.intro @A44 (And.intro @ld_126 (And.intro @B3y (And.intro @ld_131 (And.intro @B61 (And.intro @ld_134 (And.intro @B02 (And.intro @ld_135 (And.intro @A3v (And.intro @ld_137 (And.intro @B8z (And.intro @ld_138 (And.intro @B9x (And.intro @ld_144 (And.intro @A34 (And.intro @ld_145 (And.intro @B8u (And.intro @ld_146 (And.intro @B2v (And.intro @ld_147 (And.intro @len_9 (And.intro @len_22 (And.intro @B8w (And.intro @B5n (And.intro @B2k (And.intro @len_23 (And.intro @B9v (And.intro @B2n (And.intro @B2o (And.intro @len_24 (And.intro @B0z (And.intro @B8o (And.intro @B1o (And.intro @B19 (And.intro @C3c (And.intro @B97 (And.intro @C2e (And.intro @len_30 (And.intro @B9w (And.intro @B8j (And.intro @B5j (And.intro @len_52 (And.intro @B4z (And.intro @B0n (And.intro @B4l (And.intro @C9a (And.intro @C7b (And.intro @B35 (And.intro @B55 (And.intro @B15 (And.intro @B39 (And.intro @C4b (And.intro @len_66 (And.intro @B5x (And.intro @B4j (And.intro @B6p (And.intro @len_80 (And.intro @B5z (And.intro @B5k (And.intro @B3j (And.intro @B88 (And.intro @C5c (And.intro @len_88 (And.intro @B81 (And.intro @B0m (And.intro @B7n (And.intro @B3v (And.intro @B1w (And.intro @B51 (And.intro @B5v (And.intro @C0a (And.intro @B9p (And.intro @B6e (And.intro @B6b (And.intro @B5y (And.intro @B9y (And.intro @B32 (And.intro @B6z (And.intro @B78 (And.intro @B1p (And.intro @B9b (And.intro @B7b (And.intro @B58 (And.intro @B7q (And.intro @B5b (And.intro @B0e (And.intro @C6d (And.intro @B6k (And.intro @B3e (And.intro @B8e (And.intro @B4x (And.intro @B10 (And.intro @B26 (And.intro @B3n (And.intro @B9c (And.intro @B1e (And.intro @B41 (@B6w)))))))))))))))))))))))))))))))))))))))))))))))))))))))))))))))))))))))))))))))))))))))))))))))))))))))))))))))))))))))))))))))))))))))))))))))))))):=And.intro @zero_1 (And.intro @ld_1 (And.intro @zero_2 (And.intro @ld_2 (And.intro @A08 (And.intro @ld_3 (And.intro @A55 (And.intro @ld_4 (And.intro @zero_5 (And.intro @ld_5 (And.intro @B6u (And.intro @ld_9 (And.intro @A88 (And.intro @ld_22 (And.intro @B2h (And.intro @ld_23 (And.intro @B68 (And.intro @ld_24 (And.intro @B9h (And.intro @ld_26 (And.intro @C0f (And.intro @ld_30 (And.intro @C1b (And.intro @ld_31 (And.intro @C1e (And.intro @ld_52 (And.intro @A78 (And.intro @ld_54 (And.intro @B4r (And.intro @ld_56 (And.intro @B87 (And.intro @ld_66 (And.intro @C6c (And.intro @ld_73 (And.intro @B98 (And.intro @ld_80 (And.intro @A90 (And.intro @ld_83 (And.intro @B65 (And.intro @ld_88 (And.intro @A7u (And.intro @ld_100 (And.intro @B9u (And.intro @ld_117 (And.intro @B01 (And.intro @ld_119 (And.intro @B7x (And.intro @ld_123 (And.intro @B3g (And.intro @ld_125 (And.intro @A44 (And.intro @ld_126 (And.intro @B3y (And.intro @ld_131 (And.intro @B61 (And.intro @ld_134 (And.intro @B02 (And.intro @ld_135 (And.intro @A3v (And.intro @ld_137 (And.intro @B8z (And.intro @ld_138 (And.intro @B9x (And.intro @ld_144 (And.intro @A34 (And.intro @ld_145 (And.intro @B8u (And.intro @ld_146 (And.intro @B2v (And.intro @ld_147 (And.intro @len_9 (And.intro @len_22 (And.intro @B8w (And.intro @B5n (And.intro @B2k (And.intro @len_23 (And.intro @B9v (And.intro @B2n (And.intro @B2o (And.intro @len_24 (And.intro @B0z (And.intro @B8o (And.intro @B1o (And.intro @B19 (And.intro @C3c (And.intro @B97 (And.intro @C2e (And.intro @len_30 (And.intro @B9w (And.intro @B8j (And.intro @B5j (And.intro @len_52 (And.intro @B4z (And.intro @B0n (And.intro @B4l (And.intro @C9a (And.intro @C7b (And.intro @B35 (And.intro @B55 (And.intro @B15 (And.intro @B39 (And.intro @C4b (And.intro @len_66 (And.intro @B5x (And.intro @B4j (And.intro @B6p (And.intro @len_80 (And.intro @B5z (And.intro @B5k (And.intro @B3j (And.intro @B88 (And.intro @C5c (And.intro @len_88 (And.intro @B81 (And.intro @B0m (And.intro @B7n (And.intro @B3v (And.intro @B1w (And.intro @B51 (And.intro @B5v (And.intro @C0a (And.intro @B9p (And.intro @B6e (And.intro @B6b (And.intro @B5y (And.intro @B9y (And.intro @B32 (And.intro @B6z (And.intro @B78 (And.intro @B1p (And.intro @B9b (And.intro @B7b (And.intro @B58 (And.intro @B7q (And.intro @B5b (And.intro @B0e (And.intro @C6d (And.intro @B6k (And.intro @B3e (And.intro @B8e (And.intro @B4x (And.intro @B10 (And.intro @B26 (And.intro @B3n (And.intro @B9c (And.intro @B1e (And.intro @B41 (@B6w)))))))))))))))))))))))))))))))))))))))))))))))))))))))))))))))))))))))))))))))))))))))))))))))))))))))))))))))))))))))))))))))))))))))))))))))))))
theorem sx:type_of% (And.intro @Sh.sy @B4q):=And.intro @Sh.sy @B4q
end Go.Proofs.YtnoengaghabmjaaGreat
/- Nets in memory: what is made and written of them. -/
set_option maxHeartbeats 4000000
set_option maxRecDepth 20000
namespace Go.Proofs.YtnoengaghabmjaaGreat
open Go Go.Proofs Go.Proofs.Sh
section
variable {H:AH} {g:Nat} {sg ar en v:Value} {N:NetD}
theorem A5q (hsg:isCell sg=true) (har:isCell ar=true) (hen:isCell en=true) {n:Int}:anew Tryz.prog 26 H (.agg #[sg,.int .i64 n,ar,en])=some (.pointer (some ⟨H.next,0,some 0⟩),(H.new 4 [sg,.int .i64 n,ar,en]).2):=
 A7n (vs:=[sg,.int .i64 n,ar,en]) A5x rfl (by simp [hsg,har,hen,show isCell (.int .i64 n)=true from rfl])
theorem A3c:anew Tryz.prog 26 H (.agg #[.slice none 0 0,.int .i64 0,.slice none 0 0,.slice none 0 0])=some (.pointer (some ⟨H.next,0,some 0⟩),(H.new 4 [.slice none 0 0,.int .i64 0,.slice none 0 0,.slice none 0 0]).2):=A7n (vs:=[.slice none 0 0,.int .i64 0,.slice none 0 0,.slice none 0 0]) A5x rfl rfl
theorem A5c:anew Tryz.prog 54 H (.agg #[.int .i64 0,.string ⟨#[]⟩,.string ⟨#[]⟩,.int .i64 0,.int .i64 0])=some (.pointer (some ⟨H.next,0,some 0⟩),(H.new 5 [.int .i64 0,.string ⟨#[]⟩,.string ⟨#[]⟩,.int .i64 0,.int .i64 0]).2):=
 A7n (vs:=[.int .i64 0,.string ⟨#[]⟩,.string ⟨#[]⟩,.int .i64 0,.int .i64 0]) A8k rfl rfl
theorem A7c:anew Tryz.prog 56 H (.agg #[.int .i64 0,.int .i64 0])=some (.pointer (some ⟨H.next,0,some 0⟩),(H.new 2 [.int .i64 0,.int .i64 0]).2):=A7n (vs:=[.int .i64 0,.int .i64 0]) A5o rfl rfl
theorem A6e {a:ArcD}:anew Tryz.prog 54 H (.agg a.cells.toArray)=some (.pointer (some ⟨H.next,0,some 0⟩),(H.new 5 a.cells).2):=A7n (vs:=a.cells) A8k rfl rfl
theorem A4e {a:EndD}:anew Tryz.prog 56 H (.agg a.cells.toArray)=some (.pointer (some ⟨H.next,0,some 0⟩),(H.new 2 a.cells).2):=A7n (vs:=a.cells) A5o rfl rfl
theorem A5b {a:ArcD} {p:Addr}:A5j Tryz.prog 54 H (.agg a.cells.toArray) (.pointer (some p))=H.write p a.cells:=A6z A8k rfl rfl
theorem A4b {a:EndD} {p:Addr}:A5j Tryz.prog 56 H (.agg a.cells.toArray) (.pointer (some p))=H.write p a.cells:=A6z A5o rfl rfl
theorem A4c {a:ArcD} {x0 x1 x2 x3 x4:Value}:(H.new 5 [x0,x1,x2,x3,x4]).2.write ⟨H.next,0,some 0⟩ a.cells=some (H.new 5 a.cells).2:=A1q rfl
theorem A8c {a:EndD} {x0 x1:Value}:(H.new 2 [x0,x1]).2.write ⟨H.next,0,some 0⟩ a.cells=some (H.new 2 a.cells).2:=A1q rfl
theorem A6c {x0 x1 x2 x3 y0 y1 y2 y3:Value}:(H.new 4 [x0,x1,x2,x3]).2.write ⟨H.next,0,some 0⟩ [y0,y1,y2,y3]=some (H.new 4 [y0,y1,y2,y3]).2:=A1q rfl
theorem arc0 {a:ArcD}:(H.new 5 a.cells).2.cell ⟨H.next,0,some 0⟩=some (.int .i64 a.fr):=A2n _ _ _
theorem arc1 {a:ArcD}:(H.new 5 a.cells).2.cell ⟨H.next,1,some 0⟩=some (.string a.inn):=A2n _ _ _
theorem arc2 {a:ArcD}:(H.new 5 a.cells).2.cell ⟨H.next,2,some 0⟩=some (.string a.out):=A2n _ _ _
theorem arc3 {a:ArcD}:(H.new 5 a.cells).2.cell ⟨H.next,3,some 0⟩=some (.int .i64 a.to):=A2n _ _ _
theorem arc4 {a:ArcD}:(H.new 5 a.cells).2.cell ⟨H.next,4,some 0⟩=some (.int .i64 a.cost):=A2n _ _ _
theorem end0 {a:EndD}:(H.new 2 a.cells).2.cell ⟨H.next,0,some 0⟩=some (.int .i64 a.state):=A2n _ _ _
theorem end1 {a:EndD}:(H.new 2 a.cells).2.cell ⟨H.next,1,some 0⟩=some (.int .i64 a.cost):=A2n _ _ _
theorem A2a (h:NetBox H g sg ar en N) {H':AH}:A7a Tryz.prog .len [22] [sg] H'=some (.int .i64 (N.sigma.length:Int),H'):=by rw [h.hsg.len Tryz.underlying22 H',List.length_map]
theorem A1a (h:NetBox H g sg ar en N) {H':AH}:A7a Tryz.prog .len [23] [ar] H'=some (.int .i64 (N.arcs.length:Int),H'):=by rw [h.har.len Tryz.underlying23 H',List.length_map]
theorem A3a (h:NetBox H g sg ar en N) {H':AH}:A7a Tryz.prog .len [24] [en] H'=some (.int .i64 (N.ends.length:Int),H'):=by rw [h.hen.len Tryz.underlying24 H',List.length_map]
theorem B9t {d:Nat} {a b:Int}:eqT Tryz.prog (d+1) 3 (.int .i64 a) (.int .i64 b)=some (decide (a=b)):=by
 simp only [eqT,Tryz.underlying3,A8e,cond_true,A2p]; rfl
end
end Go.Proofs.YtnoengaghabmjaaGreat
/- Whether a text of a list is too long for a symbol. -/
set_option linter.unusedSimpArgs false
namespace Go.Proofs.YtnoengaghabmjaaGreat
open Go Go.Proofs Go.Proofs.Sh
theorem C4c {H:AH} {v:Value} {l:List ByteArray} (hs:Sl H v 1 (l.map A9a)) (hl:l.length≤1048576) (hw:Wf H):
  Sh.Call Tryz.prog (knows 10) 79 [v] H (fun r H'=>Kept H H'∧r=.bool (l.any fun s=>decide (16 < s.size))):=by
 refine A3b rfl Tryz.func79 rfl (Nat.le_of_ble_eq_true rfl) ?_
 have hres:Tryz.f79.results.toList=[.tmp 2]:=rfl
 have hlen:=hs.len Tryz.underlying22 H
 simp only [↓Sh.dn,sx,Nat.reduceBEq,reduceCtorEq,Nat.reduceEqDiff,↓Sh.wp_cond]
 refine A1v l.length (fun i F H'=>H'=H∧F.get 0=some v∧F.get 3=some (.int .i64 (i:Int))∧(l.take i).any (fun s=>decide (16 < s.size))=false) (Nat.zero_le _) ⟨rfl,by simp only [↓Sh.dn,sx,Nat.reduceBEq,reduceCtorEq,Nat.reduceEqDiff,↓Sh.wp_cond],by simp only [↓Sh.dn,sx,Nat.reduceBEq,reduceCtorEq,Nat.reduceEqDiff,↓Sh.wp_cond]; rfl,rfl⟩ ?_
 rintro i F H' hi ⟨rfl,f0,f3,hall⟩ k
 by_cases hlt:i < l.length
 ·obtain ⟨g,o,kk,hia,hc,hcc⟩:=hs.at Tryz.underlying22 A0m (i:=i) (x:=A9a l[i]) (by simp [hlt]) .i64
  have hy:=hcc 0 _ rfl
  simp only [Nat.add_zero] at hy
  have hc16:decide ((16:Int) < ((l[i].size:Nat):Int))=decide (16 < l[i].size):=by
   by_cases h:16 < l[i].size
   ·simp [h]; omega
   ·simp [h]; omega
  simp only [↓Sh.dn,sx,Nat.reduceBEq,reduceCtorEq,Nat.reduceEqDiff,↓Sh.wp_cond,f0,f3,hlen,hia,hy,List.length_map,A6a,hlt,hc16,decide_true,forall_const,reduceCtorEq,false_implies,and_true,true_and,hres]
  refine ⟨fun h=>⟨Kept.refl hw,?_⟩,fun h=>k _ _ hlt ⟨rfl,by simp only [↓Sh.dn,sx,Nat.reduceBEq,reduceCtorEq,Nat.reduceEqDiff,↓Sh.wp_cond,f0],by simp only [↓Sh.dn,sx,Nat.reduceBEq,reduceCtorEq,Nat.reduceEqDiff,↓Sh.wp_cond,wrap_succ hlt hl],?_⟩⟩
  ·have:(l.any fun s=>decide (16 < s.size))=true:=List.any_eq_true.2 ⟨_,List.getElem_mem hlt,h⟩
   rw [this]
  ·rw [List.take_add_one,List.getElem?_eq_getElem hlt]
   simp only [Option.toList,List.any_append,hall,Bool.false_or,List.any_cons,List.any_nil,Bool.or_false]
   exact h
 ·have hin:i=l.length:=by omega
  subst hin
  rw [List.take_length] at hall
  simp only [↓Sh.dn,sx,Nat.reduceBEq,reduceCtorEq,Nat.reduceEqDiff,↓Sh.wp_cond,f0,f3,hlen,List.length_map,A6a,hlt,decide_false,forall_const,reduceCtorEq,false_implies,and_true,true_and,hres]
  exact ⟨Kept.refl hw,by rw [hall]⟩
end Go.Proofs.YtnoengaghabmjaaGreat
/- Whether a text is a symbol. -/
namespace Go.Proofs.YtnoengaghabmjaaGreat
open Go Go.Proofs Go.Proofs.Sh
def badByte (u:UInt8):Bool:=decide (u.toNat < 33) || decide (126 < u.toNat) || decide (u.toNat=60) || decide (u.toNat=62)
def A8o (s:ByteArray):Bool:=!s.data.toList.any badByte && decide (1≤s.size) && decide (s.size≤16)
theorem isSymbol {H:AH} {x:ByteArray} (hl:x.size≤1048576) (hw:Wf H):
  Sh.Call Tryz.prog (knows 10) 128 [.string x] H (fun r H'=>H'=H∧r=.bool (A8o x)):=by
 refine A3b rfl Tryz.func128 rfl (Nat.le_of_ble_eq_true rfl) ?_
 have hres:Tryz.f128.results.toList=[.tmp 2]:=rfl
 have hsz:x.data.toList.length=x.size:=by rw [Array.length_toList]; rfl
 simp only [↓Sh.dn,sx,Nat.reduceBEq,reduceCtorEq,Nat.reduceEqDiff]
 refine A1v x.size (fun i F H'=>H'=H∧F.get 0=some (.string x)∧F.get 3=some (.int .i64 (i:Int))∧(x.data.toList.take i).any badByte=false) (Nat.zero_le _) ⟨rfl,by simp only [↓Sh.dn,sx,Nat.reduceBEq,reduceCtorEq,Nat.reduceEqDiff],by simp only [↓Sh.dn,sx,Nat.reduceBEq,reduceCtorEq,Nat.reduceEqDiff]; rfl,rfl⟩ ?_
 rintro i F H' hi ⟨rfl,f0,f3,hall⟩ k
 by_cases hlt:i < x.size
 ·obtain ⟨u,hu⟩:∃ u,x.data.toList[i]?=some u:=⟨x.data.toList[i]'(by omega),List.getElem?_eq_getElem (by omega)⟩
  have hix:=B3q (P:=Tryz.prog) (j:=.i64) Tryz.underlying9 hu
  have e33:decide ((u.toNat:Int) < 33)=decide (u.toNat < 33):=by by_cases h:u.toNat < 33 <;> simp [h] <;> omega
  have e126:decide (126 < (u.toNat:Int))=decide (126 < u.toNat):=by by_cases h:126 < u.toNat <;> simp [h] <;> omega
  have e60:decide ((u.toNat:Int)=60)=decide (u.toNat=60):=by by_cases h:u.toNat=60 <;> simp [h]; omega
  have e62:decide ((u.toNat:Int)=62)=decide (u.toNat=62):=by by_cases h:u.toNat=62 <;> simp [h]; omega
  have hstep:badByte u=false→(x.data.toList.take (i+1)).any badByte=false:=by
   intro h
   rw [List.take_add_one,hu]
   simp only [Option.toList,List.any_append,hall,Bool.false_or,List.any_cons,List.any_nil,Bool.or_false]
   exact h
  have hbad:badByte u=true→A8o x=false:=by
   intro h
   have:x.data.toList.any badByte=true:=List.any_eq_true.2 ⟨_,List.mem_of_getElem? hu,h⟩
   simp [A8o,this]
  have hgo:badByte u=(decide (u.toNat < 33) || decide (126 < u.toNat) || decide (u.toNat=60) || decide (u.toNat=62)):=rfl
  have five:∀ a b c d:Bool,a=true∨(a=false∧b=true)∨(a=false∧b=false∧c=true)∨(a=false∧b=false∧c=false∧d=true)∨(a=false∧b=false∧c=false∧d=false):=by decide
  rcases five (decide (u.toNat < 33)) (decide (126 < u.toNat)) (decide (u.toNat=60)) (decide (u.toNat=62)) with h1 | ⟨h1,h2⟩ | ⟨h1,h2,h3⟩ | ⟨h1,h2,h3,h4⟩ | ⟨h1,h2,h3,h4⟩ <;> simp only [h1, *,Bool.or_true,Bool.or_false,Bool.true_or,Bool.false_or] at hgo
  ·simp only [↓Sh.dn,sx,Nat.reduceBEq,reduceCtorEq,Nat.reduceEqDiff,f0,f3,hix,A6a,hlt,e33,h1,decide_true,hres,hbad hgo,true_and]
  ·simp only [↓Sh.dn,sx,Nat.reduceBEq,reduceCtorEq,Nat.reduceEqDiff,f0,f3,hix,A6a,hlt,e33,e126,h1,h2,decide_true,hres,hbad hgo,true_and]
  ·simp only [↓Sh.dn,sx,Nat.reduceBEq,reduceCtorEq,Nat.reduceEqDiff,f0,f3,hix,A6a,hlt,e33,e126,e60,h1,h2,h3,decide_true,hres,hbad hgo,true_and]
  ·simp only [↓Sh.dn,sx,Nat.reduceBEq,reduceCtorEq,Nat.reduceEqDiff,f0,f3,hix,A6a,hlt,e33,e126,e60,e62,h1,h2,h3,h4,decide_true,hres,hbad hgo,true_and]
  ·simp only [↓Sh.dn,sx,Nat.reduceBEq,reduceCtorEq,Nat.reduceEqDiff,f0,f3,hix,A6a,hlt,e33,e126,e60,e62,h1,h2,h3,h4,decide_true,hres]
   exact k _ _ hlt ⟨rfl,by simp only [↓Sh.dn,sx,Nat.reduceBEq,reduceCtorEq,Nat.reduceEqDiff,f0],by simp only [↓Sh.dn,sx,Nat.reduceBEq,reduceCtorEq,Nat.reduceEqDiff,wrap_succ hlt hl],hstep hgo⟩
 ·have hin:i=x.size:=by omega
  subst hin
  rw [← hsz,List.take_length] at hall
  have e1:decide ((1:Int)≤((x.size:Nat):Int))=decide (1≤x.size):=by by_cases h:1≤x.size <;> simp [h] <;> omega
  have e16:decide (((x.size:Nat):Int)≤16)=decide (x.size≤16):=by by_cases h:x.size≤16 <;> simp [h] <;> omega
  cases h1:decide (1≤x.size) <;>
   simp only [↓Sh.dn,sx,Nat.reduceBEq,reduceCtorEq,Nat.reduceEqDiff,f0,f3,A6a,hlt,e1,e16,h1,decide_false,Bool.not_true,forall_const,not_true_eq_false,reduceCtorEq,false_implies,and_true,true_and,hres] <;>
   simp [A8o,hall,h1]
end Go.Proofs.YtnoengaghabmjaaGreat
/- Whether all texts of a list are symbols. -/
namespace Go.Proofs.YtnoengaghabmjaaGreat
open Go Go.Proofs Go.Proofs.Sh
theorem B6d {H:AH} {v:Value} {l:List ByteArray} (hs:Sl H v 1 (l.map A9a)) (hl:l.length≤1048576) (hlx:∀ x∈l,x.size≤1048576) (hw:Wf H):
  Sh.Call Tryz.prog (knows 10) 80 [v] H (fun r H'=>H'=H∧r=.bool (l.all A8o)):=by
 refine A3b rfl Tryz.func80 rfl (Nat.le_of_ble_eq_true rfl) ?_
 have hres:Tryz.f80.results.toList=[.tmp 2]:=rfl
 have hlen:=hs.len Tryz.underlying22 H
 simp only [↓Sh.dn,sx,Nat.reduceBEq,reduceCtorEq,Nat.reduceEqDiff]
 refine A1v l.length (fun i F H'=>H'=H∧F.get 0=some v∧F.get 3=some (.int .i64 (i:Int))∧(l.take i).all A8o=true) (Nat.zero_le _) ⟨rfl,by simp only [↓Sh.dn,sx,Nat.reduceBEq,reduceCtorEq,Nat.reduceEqDiff],by simp only [↓Sh.dn,sx,Nat.reduceBEq,reduceCtorEq,Nat.reduceEqDiff]; rfl,rfl⟩ ?_
 rintro i F H' hi ⟨rfl,f0,f3,hall⟩ k
 by_cases hlt:i < l.length
 ·obtain ⟨g,o,kk,hia,hc,hcc⟩:=hs.at Tryz.underlying22 A0m (i:=i) (x:=A9a l[i]) (by simp [hlt]) .i64
  have hy:=hcc 0 _ rfl
  simp only [Nat.add_zero] at hy
  obtain ⟨r,H1,hd,rfl,rfl⟩:=isSymbol (H:=H') (x:=l[i]) (hlx _ (List.getElem_mem hlt)) hw
  simp only [↓Sh.dn,sx,Nat.reduceBEq,reduceCtorEq,Nat.reduceEqDiff,f0,f3,hlen,hia,hy,List.length_map,A6a,hlt,decide_true,forall_const,reduceCtorEq,false_implies,and_true,true_and,hres]
  refine ⟨_,_,hd,?_⟩
  cases hsy:A8o l[i] with
  | false=>
   have:l.all A8o=false:=by
    rw [List.all_eq_false]
    exact ⟨_,List.getElem_mem hlt,by simp [hsy]⟩
   simp only [↓Sh.dn,sx,Nat.reduceBEq,reduceCtorEq,Nat.reduceEqDiff,hres,this]
  | true=>
   simp only [↓Sh.dn,sx,Nat.reduceBEq,reduceCtorEq,Nat.reduceEqDiff,f0,f3]
   refine k _ _ hlt ⟨rfl,by simp only [↓Sh.dn,sx,Nat.reduceBEq,reduceCtorEq,Nat.reduceEqDiff,f0],by simp only [↓Sh.dn,sx,Nat.reduceBEq,reduceCtorEq,Nat.reduceEqDiff,wrap_succ hlt hl],?_⟩
   rw [List.take_add_one,List.getElem?_eq_getElem hlt]
   simp only [Option.toList,List.all_append,hall,Bool.true_and,List.all_cons,List.all_nil,Bool.and_true,hsy]
 ·have hin:i=l.length:=by omega
  subst hin
  rw [List.take_length] at hall
  simp only [↓Sh.dn,sx,Nat.reduceBEq,reduceCtorEq,Nat.reduceEqDiff,f0,f3,hlen,List.length_map,A6a,hlt,decide_false,forall_const,reduceCtorEq,false_implies,and_true,true_and,hres]
  rw [hall]
end Go.Proofs.YtnoengaghabmjaaGreat
/- Whether texts ascend. -/
namespace Go.Proofs.YtnoengaghabmjaaGreat
open Go Go.Proofs Go.Proofs.Sh
def ascB:List ByteArray→Bool
 | x :: y :: l=>A1l x y && ascB (y :: l)
 | _=>true
theorem A3u:∀ {l:List ByteArray},ascB l=true↔∀ (i:Nat) x y,l[i]?=some x→l[i+1]?=some y→A1l x y=true
 | []=>by simp [ascB]
 | [a]=>by simp [ascB]
 | a :: b :: l=>by
  simp only [ascB,Bool.and_eq_true,A3u (l:=b :: l)]
  constructor
  ·rintro ⟨h1,h2⟩ i x y hx hy
   cases i with
   | zero=>simp only [List.getElem?_cons_zero,List.getElem?_cons_succ,Option.some.injEq] at hx hy; subst hx hy; exact h1
   | succ i=>exact h2 i x y (by simpa using hx) (by simpa using hy)
  ·intro h
   exact ⟨h 0 a b rfl rfl,fun i x y hx hy=>h (i+1) x y (by simpa using hx) (by simpa using hy)⟩
theorem asc_of {l:List ByteArray} (h:ascB l=true):Asc l:=by
 rw [A3u] at h
 intro i j x y hij hx hy
 obtain ⟨d,rfl⟩:∃ d,j=i+1+d:=⟨j - i - 1,by omega⟩
 induction d generalizing y with
 | zero=>exact h i x y hx hy
 | succ d ih=>
  have hjl:=(List.getElem?_eq_some_iff.1 hy).1
  have hz:l[i+1+d]?=some (l[i+1+d]'(by omega)):=List.getElem?_eq_getElem (by omega)
  exact A7r (ih _ (by omega) hz) (h _ _ _ hz hy)
theorem isSet {H:AH} {v:Value} {l:List ByteArray} (hs:Sl H v 1 (l.map A9a)) (hl:l.length≤1048576) (hw:Wf H):
  Sh.Call Tryz.prog (knows 10) 135 [v] H (fun r H'=>H'=H∧r=.bool (ascB l)):=by
 refine A3b rfl Tryz.func135 rfl (Nat.le_of_ble_eq_true rfl) ?_
 have hres:Tryz.f135.results.toList=[.tmp 2]:=rfl
 have hlen:=hs.len Tryz.underlying22 H
 simp only [↓Sh.dn,sx,Nat.reduceBEq,reduceCtorEq,Nat.reduceEqDiff,↓Sh.wp_cond]
 refine A9o (fun m F H'=>H'=H∧∃ i:Nat,m=l.length - i∧1≤i∧F.get 0=some v∧F.get 3=some (.int .i64 (i:Int))∧(∀ (j:Nat) x y,j+1 < i→l[j]?=some x→l[j+1]?=some y→A1l x y=true)) (m:=l.length - 1) ⟨rfl,1,rfl,Nat.le_refl _,by simp only [↓Sh.dn,sx,Nat.reduceBEq,reduceCtorEq,Nat.reduceEqDiff,↓Sh.wp_cond],by simp only [↓Sh.dn,sx,Nat.reduceBEq,reduceCtorEq,Nat.reduceEqDiff,↓Sh.wp_cond]; rfl,fun j x y h=>by omega⟩ ?_
 rintro m F H' ⟨rfl,i,rfl,h1,f0,f3,hall⟩ k
 by_cases hlt:i < l.length
 ·obtain ⟨g,o,kk,hia,hc,hcc⟩:=hs.at Tryz.underlying22 A0m (i:=i) (x:=A9a l[i]) (by simp [hlt]) .i64
  have hy:=hcc 0 _ rfl
  obtain ⟨g',o',kk',hia',hc',hcc'⟩:=hs.at Tryz.underlying22 A0m (i:=i - 1) (x:=A9a (l[i - 1]'(by omega))) (by simp [List.getElem?_eq_getElem (show i - 1 < l.length by omega)]) .i64
  have hy':=hcc' 0 _ rfl
  have hw1:IntKind.wrap .i64 ((i:Int) - 1)=((i - 1:Nat):Int):=by rw [wrap64 (by omega) (by omega)]; omega
  simp only [Nat.add_zero] at hy hy'
  simp only [↓Sh.dn,sx,Nat.reduceBEq,reduceCtorEq,Nat.reduceEqDiff,↓Sh.wp_cond,f0,f3,hlen,hia,hia',hy,hy',hw1,List.length_map,A6a,hlt,decide_true,forall_const,reduceCtorEq,false_implies,and_true,true_and,hres,Bool.not_eq_true',Bool.not_eq_false']
  have hx1:l[i - 1]?=some (l[i - 1]'(by omega)):=List.getElem?_eq_getElem (by omega)
  have hx2:l[i - 1+1]?=some l[i]:=by rw [show i - 1+1=i by omega]; exact List.getElem?_eq_getElem hlt
  refine ⟨fun h=>?_,fun h=>k (l.length - (i+1)) _ _ (by omega) ⟨rfl,i+1,rfl,by omega,by simp only [↓Sh.dn,sx,Nat.reduceBEq,reduceCtorEq,Nat.reduceEqDiff,↓Sh.wp_cond,f0],by simp only [↓Sh.dn,sx,Nat.reduceBEq,reduceCtorEq,Nat.reduceEqDiff,↓Sh.wp_cond,wrap_succ hlt hl],fun j x y hj hx hy=>?_⟩⟩
  ·have : ascB l = false := by
     cases hb : ascB l with
     | false => rfl
     | true => rw [A3u.1 hb _ _ _ hx1 hx2] at h; cases h
   rw [this]
  ·by_cases hji:j+1 < i
   ·exact hall j x y hji hx hy
   ·have:j=i - 1:=by omega
    subst this
    rw [hx1] at hx
    rw [hx2] at hy
    rw [← Option.some.inj hx,← Option.some.inj hy]
    exact h
 ·simp only [↓Sh.dn,sx,Nat.reduceBEq,reduceCtorEq,Nat.reduceEqDiff,↓Sh.wp_cond,f0,f3,hlen,List.length_map,A6a,hlt,decide_false,forall_const,reduceCtorEq,false_implies,and_true,true_and,hres]
  have:ascB l=true:=A3u.2 fun j x y hx hy=>hall j x y (by have:=(List.getElem?_eq_some_iff.1 hy).1; omega) hx hy
  rw [this]
end Go.Proofs.YtnoengaghabmjaaGreat
/- What is wrong with an alphabet, by the reference. -/
namespace Go.Proofs.YtnoengaghabmjaaGreat
open Go Go.Proofs Go.Proofs.Sh
def A6i (l:List ByteArray):Bool:=l.any fun s=>decide (16 < s.size)
def A0j (l:List ByteArray):Int:=if (decide (40 < l.length) || A6i l)=true then 3 else if (l.all A8o && ascB l)=true then 0 else 1
theorem refSigma {H:AH} {v:Value} {l:List ByteArray} (hs:Sl H v 1 (l.map A9a)) (hl:l.length≤1048576) (hlx:∀ x∈l,x.size≤1048576) (hw:Wf H):
  Sh.Call Tryz.prog (knows 10) 98 [v] H (fun r H'=>Kept H H'∧r=.int .i64 (A0j l)):=by
 refine A3b rfl Tryz.func98 rfl (Nat.le_of_ble_eq_true rfl) ?_
 have hres:Tryz.f98.results.toList=[.tmp 2]:=rfl
 have hlen:=hs.len Tryz.underlying22 H
 have e40:decide ((40:Int) < ((l.length:Nat):Int))=decide (40 < l.length):=by by_cases h:40 < l.length <;> simp [h] <;> omega
 simp only [↓Sh.dn,sx,Nat.reduceBEq,reduceCtorEq,Nat.reduceEqDiff,hlen,List.length_map,e40]
 by_cases h40:40 < l.length
 ·simp only [↓Sh.dn,sx,Nat.reduceBEq,reduceCtorEq,Nat.reduceEqDiff,h40,decide_true,hres,A0j,Bool.true_or,forall_const,reduceCtorEq,false_implies,and_true,Kept.refl hw]
 ·simp only [↓Sh.dn,sx,Nat.reduceBEq,reduceCtorEq,Nat.reduceEqDiff,h40,decide_false]
  obtain ⟨r1,H1,hd1,hk1,rfl⟩:=C4c hs hl hw
  refine ⟨_,_,hd1,?_⟩
  cases hL:(l.any fun s=>decide (16 < s.size)) with
  | true=>simp only [↓Sh.dn,sx,Nat.reduceBEq,reduceCtorEq,Nat.reduceEqDiff,hres,hL,A0j,A6i,h40,decide_false,Bool.false_or,forall_const,reduceCtorEq,false_implies,and_true,hk1]
  | false=>
   simp only [↓Sh.dn,sx,Nat.reduceBEq,reduceCtorEq,Nat.reduceEqDiff,forall_const,reduceCtorEq,false_implies,and_true,true_and]
   obtain ⟨r2,H2,hd2,rfl,rfl⟩:=B6d (hs.grow (hk1.grow hw)) hl hlx hk1.wf
   refine ⟨_,_,hd2,?_⟩
   cases hA:l.all A8o with
   | false=>simp only [↓Sh.dn,sx,Nat.reduceBEq,reduceCtorEq,Nat.reduceEqDiff,hres,hL,hA,A0j,A6i,h40,decide_false,Bool.false_or,Bool.false_and,Bool.not_false,forall_const,reduceCtorEq,false_implies,and_true,hk1]
   | true=>
    obtain ⟨r3,H3,hd3,rfl,rfl⟩:=isSet (hs.grow (hk1.grow hw)) hl hk1.wf
    simp only [↓Sh.dn,sx,Nat.reduceBEq,reduceCtorEq,Nat.reduceEqDiff,Bool.not_true,forall_const,reduceCtorEq,false_implies,and_true,true_and]
    refine ⟨_,_,hd3,?_⟩
    cases hS:ascB l with
    | true=>simp only [↓Sh.dn,sx,Nat.reduceBEq,reduceCtorEq,Nat.reduceEqDiff,hres,hL,hA,hS,A0j,A6i,h40,decide_false,Bool.false_or,Bool.true_and,Bool.not_true,forall_const,reduceCtorEq,false_implies,and_true,true_and,hk1]
    | false=>simp only [↓Sh.dn,sx,Nat.reduceBEq,reduceCtorEq,Nat.reduceEqDiff,hres,hL,hA,hS,A0j,A6i,h40,decide_false,Bool.false_or,Bool.true_and,Bool.not_false,forall_const,reduceCtorEq,false_implies,and_true,true_and,hk1]
end Go.Proofs.YtnoengaghabmjaaGreat
/- sort.Search: the first place at which a question that stays true is true. -/
namespace Go.Proofs.YtnoengaghabmjaaGreat
open Go Go.Proofs Go.Proofs.Sh
theorem half (a b:Nat) (h:a+b < 2097152):A7q false .u64 (IntKind.wrap .u64 (IntKind.wrap .i64 ((a:Int)+(b:Int)))) 1=some (.int .u64 (((a+b) / 2:Nat):Int)):=by
 rw [wrap64 (by omega) (by omega)]
 have e:IntKind.wrap .u64 ((a:Int)+(b:Int))=((a+b:Nat):Int):=by
  simp only [IntKind.wrap]
  simp [IntKind.bits,IntKind.signed]
  omega
 rw [e]
 simp only [A7q,A4l]
 simp [IntKind.bits,Int.fdiv_eq_ediv]
theorem search {H:AH} {n fid:Nat} {caps:List Value} (p:Nat→Bool) (hn:n≤1048576) (hp:∀ i,i < n→Sh.Call Tryz.prog (knows 10) fid (.int .i64 (i:Int) :: caps) H (fun r H'=>r=.bool (p i)∧H'=H)) (hm:∀ a b,a≤b→b < n→p a=true→p b=true) (hw:Wf H):
  Sh.Call Tryz.prog (knows 10) 159 [.int .i64 (n:Int),.func (.func fid) #[] caps.toArray] H (fun r H'=>H'=H∧∃ k:Nat,r=.int .i64 (k:Int)∧k≤n∧(∀ i,i < k→p i=false)∧(∀ i,k≤i→i < n→p i=true)):=by
 refine A3b rfl Tryz.func159 rfl (Nat.le_of_ble_eq_true rfl) ?_
 have hres:Tryz.f159.results.toList=[.tmp 4]:=rfl
 simp only [↓Sh.dn,sx,Nat.reduceBEq,reduceCtorEq,Nat.reduceEqDiff]
 refine A9o (fun m F H'=>H'=H∧∃ a b:Nat,m=b - a∧a≤b∧b≤n∧F.get 5=some (.int .i64 (a:Int))∧F.get 6=some (.int .i64 (b:Int))∧F.get 1=some (.func (.func fid) #[] caps.toArray)∧(∀ i,i < a→p i=false)∧(∀ i,b≤i→i < n→p i=true)) (m:=n) ⟨rfl,0,n,by omega,by omega,by omega,by simp only [↓Sh.dn,sx,Nat.reduceBEq,reduceCtorEq,Nat.reduceEqDiff]; rfl,by simp only [↓Sh.dn,sx,Nat.reduceBEq,reduceCtorEq,Nat.reduceEqDiff],by simp only [↓Sh.dn,sx,Nat.reduceBEq,reduceCtorEq,Nat.reduceEqDiff],fun i h=>by omega,fun i h1 h2=>by omega⟩ ?_
 rintro m F H' ⟨rfl,a,b,rfl,hab,hbn,f5,f6,f1,hlo,hhi⟩ k
 by_cases hlt:a < b
 ·obtain ⟨r,H1,hd,rfl,rfl⟩:=hp ((a+b) / 2) (by omega)
  have hw2:IntKind.wrap .i64 (((a+b) / 2:Nat):Int)=(((a+b) / 2:Nat):Int):=wrap64 (by omega) (by omega)
  simp only [↓Sh.dn,sx,Nat.reduceBEq,reduceCtorEq,Nat.reduceEqDiff,f5,f6,f1,A6a,hlt,decide_true,forall_const,reduceCtorEq,false_implies,and_true,true_and,b_shr,half a b (by omega),hw2,Value.func.injEq,Fn.func.injEq]
  refine ⟨_,_,hd,?_⟩
  cases hpv:p ((a+b) / 2) with
  | false=>
   have hw3:IntKind.wrap .i64 ((((a+b) / 2:Nat):Int)+1)=(((a+b) / 2+1:Nat):Int):=wrap_succ (n:=n) (by omega) hn
   simp only [↓Sh.dn,sx,Nat.reduceBEq,reduceCtorEq,Nat.reduceEqDiff,hpv,Bool.not_false,Bool.not_true,forall_const,reduceCtorEq,false_implies,and_true,true_and,hw3]
   refine k (b - ((a+b) / 2+1)) _ _ (by omega) ⟨rfl,(a+b) / 2+1,b,rfl,by omega,hbn,by simp only [↓Sh.dn,sx,Nat.reduceBEq,reduceCtorEq,Nat.reduceEqDiff],by simp only [↓Sh.dn,sx,Nat.reduceBEq,reduceCtorEq,Nat.reduceEqDiff,f6],by simp only [↓Sh.dn,sx,Nat.reduceBEq,reduceCtorEq,Nat.reduceEqDiff,f1],fun i hi=>?_,hhi⟩
   cases hpi:p i with
   | false=>rfl
   | true=>rw [hm i ((a+b) / 2) (by omega) (by omega) hpi] at hpv; cases hpv
  | true=>
   simp only [↓Sh.dn,sx,Nat.reduceBEq,reduceCtorEq,Nat.reduceEqDiff,hpv,Bool.not_false,Bool.not_true,forall_const,reduceCtorEq,false_implies,and_true,true_and]
   exact k ((a+b) / 2 - a) _ _ (by omega) ⟨rfl,a,(a+b) / 2,rfl,by omega,by omega,by simp only [↓Sh.dn,sx,Nat.reduceBEq,reduceCtorEq,Nat.reduceEqDiff,f5],by simp only [↓Sh.dn,sx,Nat.reduceBEq,reduceCtorEq,Nat.reduceEqDiff],by simp only [↓Sh.dn,sx,Nat.reduceBEq,reduceCtorEq,Nat.reduceEqDiff,f1],hlo,fun i h1 h2=>hm _ i h1 h2 hpv⟩
 ·have hab':a=b:=by omega
  subst hab'
  simp only [↓Sh.dn,sx,Nat.reduceBEq,reduceCtorEq,Nat.reduceEqDiff,f5,f6,f1,A6a,hlt,decide_false,forall_const,reduceCtorEq,false_implies,and_true,true_and,hres]
  exact ⟨a,rfl,hbn,hlo,hhi⟩
end Go.Proofs.YtnoengaghabmjaaGreat
/- What sort.SearchStrings asks of a place. -/
namespace Go.Proofs.YtnoengaghabmjaaGreat
open Go Go.Proofs Go.Proofs.Sh
theorem searchAt {H:AH} {g1 o1 k1 g2 o2 k2 i:Nat} {v:Value} {x y:ByteArray} {l:List ByteArray} (h1:H.cell ⟨g1,o1,some k1⟩=some v) (h2:H.cell ⟨g2,o2,some k2⟩=some (.string x)) (hs:Sl H v 1 (l.map A9a)) (hi:l[i]?=some y) (hw:Wf H):
  Sh.Call Tryz.prog (knows 10) 160 [.int .i64 (i:Int),.pointer (some ⟨g1,o1,some k1⟩),.pointer (some ⟨g2,o2,some k2⟩)] H (fun r H'=>r=.bool (!A1l y x)∧H'=H):=by
 refine A3b rfl Tryz.func160 rfl (Nat.le_of_ble_eq_true rfl) ?_
 have hres:Tryz.f160.results.toList=[.tmp 4]:=rfl
 obtain ⟨g,o,kk,hia,hc,hcc⟩:=hs.at Tryz.underlying22 A0m (i:=i) (x:=A9a y) (by simp [hi]) .i64
 have hy:=hcc 0 _ rfl
 simp only [Nat.add_zero] at hy
 simp only [↓Sh.dn,sx,Nat.reduceBEq,reduceCtorEq,Nat.reduceEqDiff,h1,h2,hia,hy,hres,true_and,and_true]
end Go.Proofs.YtnoengaghabmjaaGreat
/- sort.SearchStrings over an ascending list. -/
namespace Go.Proofs.YtnoengaghabmjaaGreat
open Go Go.Proofs Go.Proofs.Sh
theorem B0h {H:AH} {v:Value} {x:ByteArray} {l:List ByteArray} (hs:Sl H v 1 (l.map A9a)) (ha:Asc l) (hl:l.length≤1048576) (hw:Wf H):
  Sh.Call Tryz.prog (knows 10) 136 [v,.string x] H (fun r H'=>Kept H H'∧∃ k:Nat,r=.int .i64 (k:Int)∧k≤l.length∧(∀ (i:Nat) y,i < k→l[i]?=some y→A1l y x=true)∧(∀ (i:Nat) y,k≤i→l[i]?=some y→A1l y x=false)):=by
 refine A3b rfl Tryz.func136 rfl (Nat.le_of_ble_eq_true rfl) ?_
 have hres:Tryz.f136.results.toList=[.tmp 4]:=rfl
 have hn1:=B3h (P:=Tryz.prog) (H:=H) (t:=22) A3t hs.isCell
 have hk1:=Kept.new hw 1 [v]
 have hO1:=Obj.new (H:=H) 1 [v]
 have hn2:=B3h (P:=Tryz.prog) (H:=(H.new 1 [v]).2) (t:=9) (v:=.string x) A0m rfl
 have hk2:=hk1.trans (Kept.new hk1.wf 1 [.string x])
 have hO2:=Obj.new (H:=(H.new 1 [v]).2) 1 [.string x]
 have hO1':Sh.Obj ((H.new 1 [v]).2.new 1 [.string x]).2 H.next 1 [v] true:=by
  unfold Sh.Obj
  rw [B75 (by rw [new_nx]; omega)]
  exact hO1
 simp only [↓Sh.dn,sx,Nat.reduceBEq,reduceCtorEq,Nat.reduceEqDiff,hn1,hn2]
 have hx1:(H.new 1 [v]).2.next=H.next+1:=rfl
 rw [hx1] at hO2 ⊢
 generalize ((H.new 1 [v]).2.new 1 [.string x]).2=H2 at hO1' hO2 hk2 ⊢
 have c1:H2.cell ⟨H.next,0,some 0⟩=some v:=hO1'.cell
 have c2:H2.cell ⟨H.next+1,0,some 0⟩=some (.string x):=hO2.cell
 have hs2:=hs.grow (hk2.grow hw)
 have hlen:=hs2.len Tryz.underlying22 H2
 simp only [c1,hlen,List.length_map,↓Sh.dn,sx,Nat.reduceBEq,reduceCtorEq,Nat.reduceEqDiff]
 obtain ⟨r,H3,hd,rfl,k,rfl,hk,hlo,hhi⟩:=search (H:=H2) (n:=l.length) (caps:=[.pointer (some ⟨H.next,0,some 0⟩),.pointer (some ⟨H.next+1,0,some 0⟩)]) (fid:=160) (fun i=>match l[i]? with | some y=>!A1l y x | none=>true) hl
  (fun i hi=>by
   have hy:l[i]?=some (l[i]'hi):=List.getElem?_eq_getElem hi
   simp only [hy]
   exact searchAt c1 c2 hs2 hy hk2.wf)
  (fun a b hab hb=>by
   have hya:l[a]?=some (l[a]'(by omega)):=List.getElem?_eq_getElem (by omega)
   have hyb:l[b]?=some (l[b]'hb):=List.getElem?_eq_getElem hb
   simp only [hya,hyb,Bool.not_eq_true']
   intro h
   rcases Nat.lt_or_ge a b with hlt | hge
   ·cases h2:A1l l[b] x with
    | false=>rfl
    | true=>rw [A7r (ha a b _ _ hlt hya hyb) h2] at h; cases h
   ·have:a=b:=by omega
    subst this
    exact h) hk2.wf
 refine ⟨_,_,hd,?_⟩
 simp only [↓Sh.dn,sx,Nat.reduceBEq,reduceCtorEq,Nat.reduceEqDiff,hres]
 refine ⟨hk2,k,rfl,hk,fun i y hi hy=>?_,fun i y hi hy=>?_⟩
 ·have:=hlo i hi
  simpa [hy] using this
 ·have hil:=(List.getElem?_eq_some_iff.1 hy).1
  have:=hhi i hi hil
  simpa [hy] using this
end Go.Proofs.YtnoengaghabmjaaGreat
/- Whether a text is in an ascending list. -/
namespace Go.Proofs.YtnoengaghabmjaaGreat
open Go Go.Proofs Go.Proofs.Sh
theorem isIn {H:AH} {v:Value} {x:ByteArray} {l:List ByteArray} (hs:Sl H v 1 (l.map A9a)) (ha:Asc l) (hl:l.length≤1048576) (hw:Wf H):
  Sh.Call Tryz.prog (knows 10) 99 [v,.string x] H (fun r H'=>Kept H H'∧r=.bool (A8m l x)):=by
 refine A3b rfl Tryz.func99 rfl (Nat.le_of_ble_eq_true rfl) ?_
 have hres:Tryz.f99.results.toList=[.tmp 4]:=rfl
 obtain ⟨r,H1,hd,hk1,k,rfl,hk,hlo,hhi⟩:=B0h hs ha hl hw (x:=x)
 have hp:=B3l ha x hlo hhi
 simp only [↓Sh.dn,sx,Nat.reduceBEq,reduceCtorEq,Nat.reduceEqDiff]
 refine ⟨_,_,hd,?_⟩
 have hs1:=hs.grow (hk1.grow hw)
 have hlen:=hs1.len Tryz.underlying22 H1
 by_cases hlt:k < l.length
 ·have hy:l[k]?=some (l[k]'hlt):=List.getElem?_eq_getElem hlt
  obtain ⟨g,o,kk,hia,hc,hcc⟩:=hs1.at Tryz.underlying22 A0m (i:=k) (x:=A9a l[k]) (by simp [hlt]) .i64
  have hyc:=hcc 0 _ rfl
  simp only [Nat.add_zero] at hyc
  simp only [↓Sh.dn,sx,Nat.reduceBEq,reduceCtorEq,Nat.reduceEqDiff,hlen,List.length_map,A6a,hlt,decide_true,hia,hyc,hres,forall_const,not_true_eq_false,false_implies,and_true,true_and]
  refine ⟨hk1,?_⟩
  have:decide (l[k]=x)=A8m l x:=by
   rw [Bool.eq_iff_iff,decide_eq_true_eq,A4g,← hp,hy,Option.some.injEq]
  rw [this]
 ·simp only [↓Sh.dn,sx,Nat.reduceBEq,reduceCtorEq,Nat.reduceEqDiff,hlen,List.length_map,A6a,hlt,decide_false,Bool.not_true,hres,forall_const,not_true_eq_false,false_implies,and_true,true_and]
  refine ⟨hk1,?_⟩
  have:A8m l x=false:=by
   cases h:A8m l x with
   | false=>rfl
   | true=>
    have:=hp.2 (A4g.1 h)
    rw [List.getElem?_eq_none (by omega)] at this; cases this
  rw [this]
end Go.Proofs.YtnoengaghabmjaaGreat
/- What is wrong with a net of any kind, by the reference. -/
namespace Go.Proofs.YtnoengaghabmjaaGreat
open Go Go.Proofs Go.Proofs.Sh
def A0i (N:NetD) (s:ByteArray):Bool:=!decide (s=⟨#[]⟩) && !A8m N.sigma s
def A3g (N:NetD) (a:ArcD):Bool:=decide (a.fr < 0) || decide (N.states≤a.fr) || decide (a.to < 0) || decide (N.states≤a.to) || A0i N a.inn || A0i N a.out
def A3n (N:NetD) (e:EndD):Bool:=decide (e.state < 0) || decide (N.states≤e.state)
def A4k (N:NetD):Bool:=decide (3000 < N.states) || decide (60000 < N.arcs.length) || decide (60000 < N.ends.length)
def A4f (N:NetD):Int:=if A4k N=true then 3 else if A0j N.sigma≠0 then A0j N.sigma else if N.states < 1 then 1 else if N.arcs.any (A3g N)=true then 1 else if N.ends.any (A3n N)=true then 1 else 0
theorem A61 {l:List ByteArray} (h:A0j l=0):Asc l:=by
 unfold A0j at h
 split at h
 ·cases h
 ·split at h
  ·rename_i h1
   simp only [Bool.and_eq_true] at h1
   exact asc_of h1.2
  ·cases h
theorem B3s {H:AH} {v:Value} {N:NetD} (h:A8v H v N) (hsm:A5h N) (hw:Wf H):
  Sh.Call Tryz.prog (knows 10) 45 [v] H (fun r H'=>Kept H H'∧r=.int .i64 (A4f N)):=by
 refine A3b rfl Tryz.func45 rfl (Nat.le_of_ble_eq_true rfl) ?_
 have hres:Tryz.f45.results.toList=[.tmp 2]:=rfl
 obtain ⟨sg,ar,en,rfl,hsg,har,hen⟩:=h
 have hb1:=NetBox.of (N:=N) hw hsg har hen
 have hk1:Kept H (H.new 4 [sg,.int .i64 N.states,ar,en]).2:=Kept.new hw 4 _
 have eA:decide ((60000:Int) < (N.arcs.length:Int))=decide (60000 < N.arcs.length):=decide_eq_decide.2 (by omega)
 have eE:decide ((60000:Int) < (N.ends.length:Int))=decide (60000 < N.ends.length):=decide_eq_decide.2 (by omega)
 simp only [↓Sh.dn,sx,Nat.reduceBEq,reduceCtorEq,Nat.reduceEqDiff,A5q hsg.isCell har.isCell hen.isCell]
 generalize hg:H.next=gg at hb1 ⊢
 generalize (H.new 4 [sg,.int .i64 N.states,ar,en]).2=H1 at hb1 hk1 ⊢
 simp only [↓Sh.dn,sx,Nat.reduceBEq,reduceCtorEq,Nat.reduceEqDiff,hb1.c0,hb1.c1,hb1.c2,hb1.c3,hb1.ca,A2a hb1,A1a hb1,A3a hb1]
 by_cases hA:3000 < N.states
 ·simp only [↓Sh.dn,sx,Nat.reduceBEq,reduceCtorEq,Nat.reduceEqDiff,hA,decide_true,hres,A4f,A4k,Bool.true_or,hk1]
 by_cases hB:60000 < N.arcs.length
 ·simp only [↓Sh.dn,sx,Nat.reduceBEq,reduceCtorEq,Nat.reduceEqDiff,hb1.c0,hb1.c1,hb1.c2,hb1.c3,hb1.ca,A2a hb1,A1a hb1,A3a hb1,hA,eA,hB,decide_true,decide_false,hres,A4f,A4k,Bool.true_or,Bool.or_true,hk1]
 by_cases hC:60000 < N.ends.length
 ·simp only [↓Sh.dn,sx,Nat.reduceBEq,reduceCtorEq,Nat.reduceEqDiff,hb1.c0,hb1.c1,hb1.c2,hb1.c3,hb1.ca,A2a hb1,A1a hb1,A3a hb1,hA,eA,eE,hB,hC,decide_true,decide_false,hres,A4f,A4k,Bool.true_or,Bool.or_true,hk1]
 have hT:A4k N=false:=by simp [A4k,hA,hB,hC]
 simp only [↓Sh.dn,sx,Nat.reduceBEq,reduceCtorEq,Nat.reduceEqDiff,hb1.c0,hb1.c1,hb1.c2,hb1.c3,hb1.ca,A2a hb1,A1a hb1,A3a hb1,hA,eA,eE,hB,hC,decide_true,decide_false,hres]
 obtain ⟨r,H2,hd,hk2,rfl⟩:=refSigma hb1.hsg hsm.sg hsm.sx hk1.wf
 refine ⟨_,_,hd,?_⟩
 have hb2:=hb1.kept hk1.wf hk2
 have hk12:=hk1.trans hk2
 by_cases hS:A0j N.sigma=0
 case neg=>simp only [↓Sh.dn,sx,Nat.reduceBEq,reduceCtorEq,Nat.reduceEqDiff,hS,decide_false,hres,A4f,hT,Bool.false_eq_true,if_false,ne_eq,not_false_eq_true,if_true,hk12]
 have hasc:=A61 hS
 simp only [↓Sh.dn,sx,Nat.reduceBEq,reduceCtorEq,Nat.reduceEqDiff,hS,decide_true,hb2.c0,hb2.c1,hb2.c2,hb2.c3,hb2.ca,A2a hb2,A1a hb2,A3a hb2]
 by_cases hst:N.states < 1
 ·simp only [↓Sh.dn,sx,Nat.reduceBEq,reduceCtorEq,Nat.reduceEqDiff,hst,decide_true,hres,A4f,hT,hS,ne_eq,not_true_eq_false,if_false,if_true,hk12,Bool.false_eq_true]
 simp only [↓Sh.dn,sx,Nat.reduceBEq,reduceCtorEq,Nat.reduceEqDiff,hst,decide_false]
 have e1:N.arcs.any (A3g N)=true→A4f N=1:=by intro h; simp [A4f,hT,hS,hst,h]
 have e2:N.ends.any (A3n N)=true→A4f N=1:=by intro h; simp [A4f,hT,hS,hst,h]
 have e3:N.arcs.any (A3g N)=false→N.ends.any (A3n N)=false→A4f N=0:=by intro h h'; simp [A4f,hT,hS,hst,h,h']
 refine A8h N.arcs.length 4 (List.range' 4 87++[2]) (fun i F H'=>Kept H2 H'∧(N.arcs.take i).any (A3g N)=false) (by simp only [↓Sh.dn,sx,Nat.reduceBEq,reduceCtorEq,Nat.reduceEqDiff]) ⟨Kept.refl hk12.wf,rfl⟩ ?_ ?_
 ·rintro i F H' hlt hF f4 ⟨hk,hall⟩ k
  have f1:=hF 1 rfl
  simp only [↓Sh.dn,sx,Nat.reduceBEq,reduceCtorEq,Nat.reduceEqDiff] at f1
  have hb':=hb2.kept hk12.wf hk
  have hb3:=hb'.new hk.wf 5 (N.arcs[i].cells)
  have hk3:=hk.news 5 (N.arcs[i].cells)
  obtain ⟨g,o,kk,hia,hc,hcc⟩:=hb'.har.at Tryz.underlying23 A8k (i:=i) (x:=N.arcs[i].cells) (by simp [hlt]) .i64
  clear hcc
  have hin:N.arcs[i]∈N.arcs:=List.getElem_mem hlt
  have hnext:A3g N N.arcs[i]=false→(N.arcs.take (i+1)).any (A3g N)=false:=by
   intro h
   rw [List.take_add_one,List.getElem?_eq_getElem hlt]
   simp only [Option.toList,List.any_append,hall,List.any_cons,List.any_nil,h,Bool.or_false]
  have hbad:A3g N N.arcs[i]=true→A4f N=1:=fun h=>e1 (List.any_eq_true.2 ⟨_,hin,h⟩)
  generalize N.arcs[i]=a at hb3 hk3 hc hnext hbad
  have hi2:=isIn (x:=a.inn) hb3.hsg hasc hsm.sg hk3.wf
  simp only [↓Sh.dn,sx,Nat.reduceBEq,reduceCtorEq,Nat.reduceEqDiff,hb'.c0,hb'.c1,hb'.c2,hb'.c3,hb'.ca,A2a hb',A1a hb',A3a hb',A3c,A5c,A7c,A6e,A4e,A5b,A4b,A4c,A8c,A6c,arc0,arc1,arc2,arc3,arc4,end0,end1,f1,f4,Option.map_some,A6a,hlt,decide_true,hia,hc,hres]
  by_cases h1:a.fr < 0
  ·simp only [↓Sh.dn,sx,Nat.reduceBEq,reduceCtorEq,Nat.reduceEqDiff,hb3.c0,hb3.c1,hb3.c2,hb3.c3,hb3.ca,A2a hb3,A1a hb3,A3a hb3,A3c,A5c,A7c,A6e,A4e,A5b,A4b,A4c,A8c,A6c,arc0,arc1,arc2,arc3,arc4,end0,end1,h1,decide_true,hres,hbad (by simp [A3g,h1]),hk12.trans hk3]
  simp only [↓Sh.dn,sx,Nat.reduceBEq,reduceCtorEq,Nat.reduceEqDiff,hb3.c0,hb3.c1,hb3.c2,hb3.c3,hb3.ca,A2a hb3,A1a hb3,A3a hb3,A3c,A5c,A7c,A6e,A4e,A5b,A4b,A4c,A8c,A6c,arc0,arc1,arc2,arc3,arc4,end0,end1,f1,h1,decide_false]
  by_cases h2:N.states≤a.fr
  ·simp only [↓Sh.dn,sx,Nat.reduceBEq,reduceCtorEq,Nat.reduceEqDiff,hb3.c0,hb3.c1,hb3.c2,hb3.c3,hb3.ca,A2a hb3,A1a hb3,A3a hb3,A3c,A5c,A7c,A6e,A4e,A5b,A4b,A4c,A8c,A6c,arc0,arc1,arc2,arc3,arc4,end0,end1,h2,decide_true,hres,hbad (by simp [A3g,h2]),hk12.trans hk3]
  simp only [↓Sh.dn,sx,Nat.reduceBEq,reduceCtorEq,Nat.reduceEqDiff,hb3.c0,hb3.c1,hb3.c2,hb3.c3,hb3.ca,A2a hb3,A1a hb3,A3a hb3,A3c,A5c,A7c,A6e,A4e,A5b,A4b,A4c,A8c,A6c,arc0,arc1,arc2,arc3,arc4,end0,end1,f1,h2,decide_false]
  by_cases h3:a.to < 0
  ·simp only [↓Sh.dn,sx,Nat.reduceBEq,reduceCtorEq,Nat.reduceEqDiff,hb3.c0,hb3.c1,hb3.c2,hb3.c3,hb3.ca,A2a hb3,A1a hb3,A3a hb3,A3c,A5c,A7c,A6e,A4e,A5b,A4b,A4c,A8c,A6c,arc0,arc1,arc2,arc3,arc4,end0,end1,h3,decide_true,hres,hbad (by simp [A3g,h3]),hk12.trans hk3]
  simp only [↓Sh.dn,sx,Nat.reduceBEq,reduceCtorEq,Nat.reduceEqDiff,hb3.c0,hb3.c1,hb3.c2,hb3.c3,hb3.ca,A2a hb3,A1a hb3,A3a hb3,A3c,A5c,A7c,A6e,A4e,A5b,A4b,A4c,A8c,A6c,arc0,arc1,arc2,arc3,arc4,end0,end1,f1,h3,decide_false]
  by_cases h4:N.states≤a.to
  ·simp only [↓Sh.dn,sx,Nat.reduceBEq,reduceCtorEq,Nat.reduceEqDiff,hb3.c0,hb3.c1,hb3.c2,hb3.c3,hb3.ca,A2a hb3,A1a hb3,A3a hb3,A3c,A5c,A7c,A6e,A4e,A5b,A4b,A4c,A8c,A6c,arc0,arc1,arc2,arc3,arc4,end0,end1,h4,decide_true,hres,hbad (by simp [A3g,h4]),hk12.trans hk3]
  simp only [↓Sh.dn,sx,Nat.reduceBEq,reduceCtorEq,Nat.reduceEqDiff,hb3.c0,hb3.c1,hb3.c2,hb3.c3,hb3.ca,A2a hb3,A1a hb3,A3a hb3,A3c,A5c,A7c,A6e,A4e,A5b,A4b,A4c,A8c,A6c,arc0,arc1,arc2,arc3,arc4,end0,end1,f1,h4,decide_false]
  have hgo:A0i N a.inn=false→A0i N a.out=false→A3g N a=false:=by intro h h'; simp [A3g,h1,h2,h3,h4,h,h']
  have hout:∀ (H4:AH) (F4:Fr),Kept (H'.new 5 a.cells).2 H4→A0i N a.inn=false→True:=fun _ _ _ _=>trivial
  by_cases h5:a.inn=⟨#[]⟩
  ·have hI:A0i N a.inn=false:=by simp [A0i,h5]
   simp only [↓Sh.dn,sx,Nat.reduceBEq,reduceCtorEq,Nat.reduceEqDiff,hb3.c0,hb3.c1,hb3.c2,hb3.c3,hb3.ca,A2a hb3,A1a hb3,A3a hb3,A3c,A5c,A7c,A6e,A4e,A5b,A4b,A4c,A8c,A6c,arc0,arc1,arc2,arc3,arc4,end0,end1,f1,h5,decide_true]
   by_cases h6:a.out=⟨#[]⟩
   ·have hO:A0i N a.out=false:=by simp [A0i,h6]
    simp only [↓Sh.dn,sx,Nat.reduceBEq,reduceCtorEq,Nat.reduceEqDiff,hb3.c0,hb3.c1,hb3.c2,hb3.c3,hb3.ca,A2a hb3,A1a hb3,A3a hb3,A3c,A5c,A7c,A6e,A4e,A5b,A4b,A4c,A8c,A6c,arc0,arc1,arc2,arc3,arc4,end0,end1,f1,f4,h6,decide_true,wrap_succ hlt hsm.ar]
    exact k _ _ (by repeat (first | refine Same.put ?_ rfl | exact Same.rfl' _)) (by simp only [↓Sh.dn,sx,Nat.reduceBEq,reduceCtorEq,Nat.reduceEqDiff]) ⟨hk3,hnext (hgo hI hO)⟩
   ·obtain ⟨r,H4,hd4,hk4,rfl⟩:=isIn (x:=a.out) hb3.hsg hasc hsm.sg hk3.wf
    simp only [↓Sh.dn,sx,Nat.reduceBEq,reduceCtorEq,Nat.reduceEqDiff,hb3.c0,hb3.c1,hb3.c2,hb3.c3,hb3.ca,A2a hb3,A1a hb3,A3a hb3,A3c,A5c,A7c,A6e,A4e,A5b,A4b,A4c,A8c,A6c,arc0,arc1,arc2,arc3,arc4,end0,end1,f1,h6,decide_false]
    refine ⟨_,_,hd4,?_⟩
    cases h7:A8m N.sigma a.out with
    | true=>
     have hO:A0i N a.out=false:=by simp [A0i,h7]
     simp only [↓Sh.dn,sx,Nat.reduceBEq,reduceCtorEq,Nat.reduceEqDiff,f4,wrap_succ hlt hsm.ar]
     exact k _ _ (by repeat (first | refine Same.put ?_ rfl | exact Same.rfl' _)) (by simp only [↓Sh.dn,sx,Nat.reduceBEq,reduceCtorEq,Nat.reduceEqDiff]) ⟨hk3.trans hk4,hnext (hgo hI hO)⟩
    | false=>
     simp only [↓Sh.dn,sx,Nat.reduceBEq,reduceCtorEq,Nat.reduceEqDiff,hres,hbad (by simp [A3g,A0i,h6,h7]),(hk12.trans hk3).trans hk4]
  ·obtain ⟨r,H4,hd4,hk4,rfl⟩:=isIn (x:=a.inn) hb3.hsg hasc hsm.sg hk3.wf
   simp only [↓Sh.dn,sx,Nat.reduceBEq,reduceCtorEq,Nat.reduceEqDiff,hb3.c0,hb3.c1,hb3.c2,hb3.c3,hb3.ca,A2a hb3,A1a hb3,A3a hb3,A3c,A5c,A7c,A6e,A4e,A5b,A4b,A4c,A8c,A6c,arc0,arc1,arc2,arc3,arc4,end0,end1,f1,h5,decide_false]
   refine ⟨_,_,hd4,?_⟩
   have hb4:=hb3.kept hk3.wf hk4
   have q2:=A5f (hk4.grow hk3.wf) (arc2 (H:=H') (a:=a))
   cases h7:A8m N.sigma a.inn with
   | false=>
    simp only [↓Sh.dn,sx,Nat.reduceBEq,reduceCtorEq,Nat.reduceEqDiff,hres,hbad (by simp [A3g,A0i,h5,h7]),(hk12.trans hk3).trans hk4]
   | true=>
    have hI:A0i N a.inn=false:=by simp [A0i,h7]
    simp only [↓Sh.dn,sx,Nat.reduceBEq,reduceCtorEq,Nat.reduceEqDiff,hb4.c0,hb4.c1,hb4.c2,hb4.c3,hb4.ca,A2a hb4,A1a hb4,A3a hb4,q2,f1]
    by_cases h6:a.out=⟨#[]⟩
    ·have hO:A0i N a.out=false:=by simp [A0i,h6]
     simp only [↓Sh.dn,sx,Nat.reduceBEq,reduceCtorEq,Nat.reduceEqDiff,hb4.c0,hb4.c1,hb4.c2,hb4.c3,hb4.ca,A2a hb4,A1a hb4,A3a hb4,q2,f1,f4,h6,decide_true,wrap_succ hlt hsm.ar]
     exact k _ _ (by repeat (first | refine Same.put ?_ rfl | exact Same.rfl' _)) (by simp only [↓Sh.dn,sx,Nat.reduceBEq,reduceCtorEq,Nat.reduceEqDiff]) ⟨hk3.trans hk4,hnext (hgo hI hO)⟩
    ·obtain ⟨r,H5,hd5,hk5,rfl⟩:=isIn (x:=a.out) hb4.hsg hasc hsm.sg hk4.wf
     simp only [↓Sh.dn,sx,Nat.reduceBEq,reduceCtorEq,Nat.reduceEqDiff,hb4.c0,hb4.c1,hb4.c2,hb4.c3,hb4.ca,A2a hb4,A1a hb4,A3a hb4,q2,f1,h6,decide_false]
     refine ⟨_,_,hd5,?_⟩
     cases h8:A8m N.sigma a.out with
     | true=>
      have hO:A0i N a.out=false:=by simp [A0i,h8]
      simp only [↓Sh.dn,sx,Nat.reduceBEq,reduceCtorEq,Nat.reduceEqDiff,f4,wrap_succ hlt hsm.ar]
      exact k _ _ (by repeat (first | refine Same.put ?_ rfl | exact Same.rfl' _)) (by simp only [↓Sh.dn,sx,Nat.reduceBEq,reduceCtorEq,Nat.reduceEqDiff]) ⟨(hk3.trans hk4).trans hk5,hnext (hgo hI hO)⟩
     | false=>
      simp only [↓Sh.dn,sx,Nat.reduceBEq,reduceCtorEq,Nat.reduceEqDiff,hres,hbad (by simp [A3g,A0i,h6,h8]),((hk12.trans hk3).trans hk4).trans hk5]
 ·rintro F H' hF f4 ⟨hk,hall⟩
  have f1:=hF 1 rfl
  simp only [↓Sh.dn,sx,Nat.reduceBEq,reduceCtorEq,Nat.reduceEqDiff] at f1
  rw [List.take_length] at hall
  have hb':=hb2.kept hk12.wf hk
  have hkk:=hk12.trans hk
  simp only [↓Sh.dn,sx,Nat.reduceBEq,reduceCtorEq,Nat.reduceEqDiff,hb'.c0,hb'.c1,hb'.c2,hb'.c3,hb'.ca,A2a hb',A1a hb',A3a hb',f1,f4,A6a,Nat.lt_irrefl,decide_false]
  refine A8h N.ends.length 6 (List.range' 91 26++[2,6]) (fun i F H''=>H''=H'∧(N.ends.take i).any (A3n N)=false) (by simp only [↓Sh.dn,sx,Nat.reduceBEq,reduceCtorEq,Nat.reduceEqDiff]) ⟨rfl,rfl⟩ ?_ ?_
  ·rintro i F2 H'' hlt hF2 f6 ⟨rfl,hall2⟩ k
   have g1:=hF2 1 rfl
   simp only [↓Sh.dn,sx,Nat.reduceBEq,reduceCtorEq,Nat.reduceEqDiff,f1] at g1
   obtain ⟨g,o,kk,hia,hc,hcc⟩:=hb'.hen.at Tryz.underlying24 A5o (i:=i) (x:=N.ends[i].cells) (by simp [hlt]) .i64
   have q0:=hcc 0 _ rfl
   simp only [Nat.add_zero] at q0
   have hbad:A3n N N.ends[i]=true→A4f N=1:=fun h=>e2 (List.any_eq_true.2 ⟨_,List.getElem_mem hlt,h⟩)
   simp only [↓Sh.dn,sx,Nat.reduceBEq,reduceCtorEq,Nat.reduceEqDiff,hb'.c0,hb'.c1,hb'.c2,hb'.c3,hb'.ca,A2a hb',A1a hb',A3a hb',g1,f6,A6a,hlt,decide_true,hia,q0,Nat.add_zero]
   by_cases h1:N.ends[i].state < 0
   ·simp only [↓Sh.dn,sx,Nat.reduceBEq,reduceCtorEq,Nat.reduceEqDiff,h1,decide_true,hres,hbad (by simp [A3n,h1]),hkk]
   simp only [↓Sh.dn,sx,Nat.reduceBEq,reduceCtorEq,Nat.reduceEqDiff,hb'.c0,hb'.c1,hb'.c2,hb'.c3,hb'.ca,A2a hb',A1a hb',A3a hb',g1,f6,hia,q0,h1,decide_false]
   by_cases h2:N.states≤N.ends[i].state
   ·simp only [↓Sh.dn,sx,Nat.reduceBEq,reduceCtorEq,Nat.reduceEqDiff,h2,decide_true,hres,hbad (by simp [A3n,h2]),hkk]
   simp only [↓Sh.dn,sx,Nat.reduceBEq,reduceCtorEq,Nat.reduceEqDiff,f6,h2,decide_false,wrap_succ hlt hsm.en]
   refine k _ _ (by repeat (first | refine Same.put ?_ rfl | exact Same.rfl' _)) (by simp only [↓Sh.dn,sx,Nat.reduceBEq,reduceCtorEq,Nat.reduceEqDiff]) ⟨rfl,?_⟩
   rw [List.take_add_one,List.getElem?_eq_getElem hlt]
   simp only [Option.toList,List.any_append,hall2,List.any_cons,List.any_nil,Bool.or_false,A3n,h1,h2,decide_false]
  ·rintro F2 H'' hF2 f6 ⟨rfl,hall2⟩
   have g1:=hF2 1 rfl
   simp only [↓Sh.dn,sx,Nat.reduceBEq,reduceCtorEq,Nat.reduceEqDiff,f1] at g1
   rw [List.take_length] at hall2
   simp only [↓Sh.dn,sx,Nat.reduceBEq,reduceCtorEq,Nat.reduceEqDiff,hb'.c0,hb'.c1,hb'.c2,hb'.c3,hb'.ca,A2a hb',A1a hb',A3a hb',g1,f6,A6a,Nat.lt_irrefl,decide_false,hres,e3 hall hall2,hkk]
end Go.Proofs.YtnoengaghabmjaaGreat
/- syms.isLong and syms.isSymbol. -/
namespace Go.Proofs.YtnoengaghabmjaaGreat
open Go Go.Proofs Go.Proofs.Sh
theorem B8a {H:AH} {x:ByteArray}:Sh.Call Tryz.prog (knows 10) 91 [.string x] H (fun r H'=>H'=H∧r=.bool (decide (16 < x.size))):=by
 refine A3b rfl Tryz.func91 rfl (Nat.le_of_ble_eq_true rfl) ?_
 have hres:Tryz.f91.results.toList=[.tmp 2]:=rfl
 have e:decide ((16:Int) < (x.size:Int))=decide (16 < x.size):=decide_eq_decide.2 (by omega)
 simp only [↓Sh.dn,sx,Nat.reduceBEq,reduceCtorEq,Nat.reduceEqDiff,hres,e]
def chOk (s:ByteArray):Bool:=!s.data.toList.any badByte && decide (1≤s.size)
theorem B2c (s:ByteArray):A8o s=(chOk s && decide (s.size≤16)):=rfl
theorem B44 {x:ByteArray}:decide (x=⟨#[]⟩)=!decide (1≤x.size):=by
 by_cases h:x=⟨#[]⟩
 ·subst h; rfl
 ·have : 1 ≤ x.size := by
    refine Nat.one_le_iff_ne_zero.2 fun h0 => h (ByteArray.ext ?_)
    exact Array.eq_empty_of_size_eq_zero h0
  simp [h, this]
theorem A03 {H:AH} {x:ByteArray} (hl:x.size≤1048576):
  Sh.Call Tryz.prog (knows 10) 93 [.string x] H (fun r H'=>H'=H∧r=.bool (chOk x)):=by
 refine A3b rfl Tryz.func93 rfl (Nat.le_of_ble_eq_true rfl) ?_
 have hres:Tryz.f93.results.toList=[.tmp 2]:=rfl
 have hsz:x.data.toList.length=x.size:=by rw [Array.length_toList]; rfl
 simp only [↓Sh.dn,sx,Nat.reduceBEq,reduceCtorEq,Nat.reduceEqDiff]
 refine A8h x.size 6 (List.range' 6 26++[2,3]) (fun i F H'=>H'=H∧(x.data.toList.take i).any badByte=false) (by simp only [↓Sh.dn,sx,Nat.reduceBEq,reduceCtorEq,Nat.reduceEqDiff]) ⟨rfl,rfl⟩ ?_ ?_
 ·rintro i F H' hlt hF f6 ⟨rfl,hall⟩ k
  have f0:=hF 0 rfl
  have f5:=hF 5 rfl
  simp only [↓Sh.dn,sx,Nat.reduceBEq,reduceCtorEq,Nat.reduceEqDiff] at f0 f5
  obtain ⟨u,hu⟩:∃ u,x.data.toList[i]?=some u:=⟨x.data.toList[i]'(by omega),List.getElem?_eq_getElem (by omega)⟩
  have hix:=B3q (P:=Tryz.prog) (j:=.i64) Tryz.underlying9 hu
  have e33:decide ((u.toNat:Int) < 33)=decide (u.toNat < 33):=decide_eq_decide.2 (by omega)
  have e126:decide (126 < (u.toNat:Int))=decide (126 < u.toNat):=decide_eq_decide.2 (by omega)
  have e60:decide ((u.toNat:Int)=60)=decide (u.toNat=60):=decide_eq_decide.2 (by omega)
  have e62:decide ((u.toNat:Int)=62)=decide (u.toNat=62):=decide_eq_decide.2 (by omega)
  have hbad:badByte u=true→chOk x=false:=by
   intro h
   have:x.data.toList.any badByte=true:=List.any_eq_true.2 ⟨_,List.mem_of_getElem? hu,h⟩
   simp [chOk,this]
  simp only [↓Sh.dn,sx,Nat.reduceBEq,reduceCtorEq,Nat.reduceEqDiff,f0,f5,f6,hix,A6a,hlt,e33,decide_true]
  by_cases h1:u.toNat < 33
  ·simp only [↓Sh.dn,sx,Nat.reduceBEq,reduceCtorEq,Nat.reduceEqDiff,h1,decide_true,hres,hbad (by simp [badByte,h1])]
  simp only [↓Sh.dn,sx,Nat.reduceBEq,reduceCtorEq,Nat.reduceEqDiff,f0,hix,h1,e126,decide_false]
  by_cases h2:126 < u.toNat
  ·simp only [↓Sh.dn,sx,Nat.reduceBEq,reduceCtorEq,Nat.reduceEqDiff,h2,decide_true,hres,hbad (by simp [badByte,h2])]
  simp only [↓Sh.dn,sx,Nat.reduceBEq,reduceCtorEq,Nat.reduceEqDiff,f0,hix,h2,e60,decide_false]
  by_cases h3:u.toNat=60
  ·simp only [↓Sh.dn,sx,Nat.reduceBEq,reduceCtorEq,Nat.reduceEqDiff,h3,decide_true,hres,hbad (by simp [badByte,h3])]
  simp only [↓Sh.dn,sx,Nat.reduceBEq,reduceCtorEq,Nat.reduceEqDiff,f0,hix,h3,e62,decide_false]
  by_cases h4:u.toNat=62
  ·simp only [↓Sh.dn,sx,Nat.reduceBEq,reduceCtorEq,Nat.reduceEqDiff,h4,decide_true,hres,hbad (by simp [badByte,h4])]
  simp only [↓Sh.dn,sx,Nat.reduceBEq,reduceCtorEq,Nat.reduceEqDiff,f6,h4,decide_false,wrap_succ hlt hl]
  refine k _ _ (by repeat (first | refine Same.put ?_ rfl | exact Same.rfl' _)) (by simp only [↓Sh.dn,sx,Nat.reduceBEq,reduceCtorEq,Nat.reduceEqDiff]) ⟨rfl,?_⟩
  rw [List.take_add_one,hu]
  simp only [Option.toList,List.any_append,hall,Bool.false_or,List.any_cons,List.any_nil,Bool.or_false,badByte,h1,h2,h3,h4,decide_false]
 ·rintro F H' hF f6 ⟨rfl,hall⟩
  have f0:=hF 0 rfl
  have f5:=hF 5 rfl
  simp only [↓Sh.dn,sx,Nat.reduceBEq,reduceCtorEq,Nat.reduceEqDiff] at f0 f5
  rw [← hsz,List.take_length] at hall
  simp only [↓Sh.dn,sx,Nat.reduceBEq,reduceCtorEq,Nat.reduceEqDiff,f0,f5,f6,A6a,Nat.lt_irrefl,decide_false,hres,chOk,hall,B44]
end Go.Proofs.YtnoengaghabmjaaGreat
/- slices.IndexFunc and ContainsFunc: whether some element is so. -/
namespace Go.Proofs.YtnoengaghabmjaaGreat
open Go Go.Proofs Go.Proofs.Sh
theorem B8k {H:AH} {v:Value} {l:List ByteArray} {fid:Nat} {caps:List Value} (p:ByteArray→Bool) (hs:Sl H v 1 (l.map A9a)) (hl:l.length≤1048576) (hw:Wf H)
  (hp:∀ H',Kept H H'→∀ x∈l,Sh.Call Tryz.prog (knows 10) fid ((fun s=>Value.string s) x :: caps) H' (fun r H''=>Kept H' H''∧r=.bool (p x))):
  Sh.Call Tryz.prog (knows 10) 133 [v,.func (.func fid) #[] caps.toArray] H (fun r H'=>Kept H H'∧∃ k:Int,r=.int .i64 k∧decide (0≤k)=l.any p):=by
 refine A3b rfl Tryz.func133 rfl (Nat.le_of_ble_eq_true rfl) ?_
 have hres:Tryz.f133.results.toList=[.tmp 4]:=rfl
 have hlen:=hs.len Tryz.underlying22 H
 simp only [↓Sh.dn,sx,Nat.reduceBEq,reduceCtorEq,Nat.reduceEqDiff,hlen,List.length_map]
 refine A8h l.length 8 [5,8,9,10,11,12,13,14,15,16,18] (fun i F H'=>Kept H H'∧(l.take i).any p=false) (by simp only [↓Sh.dn,sx,Nat.reduceBEq,reduceCtorEq,Nat.reduceEqDiff]) ⟨Kept.refl hw,rfl⟩ ?_ ?_
 ·rintro i F H' hlt hF f8 ⟨hk,hall⟩ k
  have hs1:=hs.grow (hk.grow hw)
  obtain ⟨g,o,kk,hia,hc,hcc⟩:=hs1.at Tryz.underlying22 A0m (i:=i) (x:=A9a l[i]) (by simp [hlt]) .i64
  have hld:=hcc 0 _ rfl; simp only [Nat.add_zero] at hld
  have f0:=hF 0 rfl
  have f1:=hF 1 rfl
  have f7:=hF 7 rfl
  simp only [↓Sh.dn,sx,Nat.reduceBEq,reduceCtorEq,Nat.reduceEqDiff] at f0 f1 f7
  obtain ⟨r,H2,hd,hk2,rfl⟩:=hp H' hk l[i] (List.getElem_mem hlt)
  simp only [↓Sh.dn,sx,Nat.reduceBEq,reduceCtorEq,Nat.reduceEqDiff,f0,f1,f7,f8,A6a,hlt,decide_true,hia,hld,Option.map_some,forall_const,reduceCtorEq,false_implies,and_true,true_and]
  refine ⟨_,_,hd,?_⟩
  cases hpv:p l[i] with
  | true=>
   simp only [↓Sh.dn,sx,Nat.reduceBEq,reduceCtorEq,Nat.reduceEqDiff,hres,forall_const,reduceCtorEq,false_implies,and_true,true_and]
   refine ⟨hk.trans hk2,_,rfl,?_⟩
   rw [List.any_eq_true.2 ⟨_,List.getElem_mem hlt,hpv⟩]
   simp
  | false=>
   simp only [↓Sh.dn,sx,Nat.reduceBEq,reduceCtorEq,Nat.reduceEqDiff,hres,f8,wrap_succ hlt hl,forall_const,reduceCtorEq,false_implies,and_true,true_and]
   refine k _ _ (by repeat (first | refine Same.put ?_ rfl | exact Same.rfl' _)) (by simp only [↓Sh.dn,sx,Nat.reduceBEq,reduceCtorEq,Nat.reduceEqDiff]) ⟨hk.trans hk2,?_⟩
   rw [List.take_add_one,List.getElem?_eq_getElem hlt]
   simp only [Option.toList,List.any_append,hall,List.any_cons,List.any_nil,hpv,Bool.or_false]
 ·rintro F H' hF f8 ⟨hk,hall⟩
  have f7:=hF 7 rfl
  simp only [↓Sh.dn,sx,Nat.reduceBEq,reduceCtorEq,Nat.reduceEqDiff] at f7
  rw [List.take_length] at hall
  simp only [↓Sh.dn,sx,Nat.reduceBEq,reduceCtorEq,Nat.reduceEqDiff,f7,f8,A6a,Nat.lt_irrefl,decide_false,hres,forall_const,reduceCtorEq,false_implies,and_true,true_and]
  exact ⟨hk,_,rfl,by rw [hall]; rfl⟩
theorem A3o {H:AH} {v:Value} {l:List ByteArray} {fid:Nat} {caps:List Value} (p:ByteArray→Bool) (hs:Sl H v 1 (l.map A9a)) (hl:l.length≤1048576) (hw:Wf H)
  (hp:∀ H',Kept H H'→∀ x∈l,Sh.Call Tryz.prog (knows 10) fid ((fun s=>Value.string s) x :: caps) H' (fun r H''=>Kept H' H''∧r=.bool (p x))):
  Sh.Call Tryz.prog (knows 10) 90 [v,.func (.func fid) #[] caps.toArray] H (fun r H'=>Kept H H'∧r=.bool (l.any p)):=by
 refine A3b rfl Tryz.func90 rfl (Nat.le_of_ble_eq_true rfl) ?_
 have hres:Tryz.f90.results.toList=[.tmp 4]:=rfl
 obtain ⟨r,H2,hd,hk,k,rfl,hk0⟩:=B8k p hs hl hw hp
 simp only [↓Sh.dn,sx,Nat.reduceBEq,reduceCtorEq,Nat.reduceEqDiff]
 refine ⟨_,_,hd,?_⟩
 simp only [↓Sh.dn,sx,Nat.reduceBEq,reduceCtorEq,Nat.reduceEqDiff,hres,hk0,and_true]
 exact hk
end Go.Proofs.YtnoengaghabmjaaGreat
/- What is wrong with an alphabet, by the program. -/
namespace Go.Proofs.YtnoengaghabmjaaGreat
open Go Go.Proofs Go.Proofs.Sh
theorem B1n {H:AH} {v:Value} {l:List ByteArray} (hs:Sl H v 1 (l.map A9a)) (hl:l.length≤1048576) (hlx:∀ x∈l,x.size≤1048576) (hw:Wf H):
  Sh.Call Tryz.prog (knows 10) 113 [v] H (fun r H'=>Kept H H'∧r=.int .i64 (A0j l)):=by
 refine A3b rfl Tryz.func113 rfl (Nat.le_of_ble_eq_true rfl) ?_
 have hres:Tryz.f113.results.toList=[.tmp 2]:=rfl
 have hlen:=hs.len Tryz.underlying22 H
 have e40:decide ((40:Int) < ((l.length:Nat):Int))=decide (40 < l.length):=decide_eq_decide.2 (by omega)
 simp only [↓Sh.dn,sx,Nat.reduceBEq,reduceCtorEq,Nat.reduceEqDiff,hlen,List.length_map,e40]
 by_cases h40:40 < l.length
 ·simp only [↓Sh.dn,sx,Nat.reduceBEq,reduceCtorEq,Nat.reduceEqDiff,h40,decide_true,hres,A0j,Bool.true_or,Kept.refl hw]
 simp only [↓Sh.dn,sx,Nat.reduceBEq,reduceCtorEq,Nat.reduceEqDiff,h40,decide_false]
 obtain ⟨r1,H1,hd1,hk1,rfl⟩:=A3o (caps:=[]) (fid:=91) (fun s=>decide (16 < s.size)) hs hl hw (fun H' hk x hx=>(B8a (H:=H') (x:=x)).mono fun r H'' h=>by rcases h with ⟨rfl,h⟩; exact ⟨Kept.refl hk.wf,h⟩)
 refine ⟨_,_,hd1,?_⟩
 cases hL:(l.any fun s=>decide (16 < s.size)) with
 | true=>simp only [↓Sh.dn,sx,Nat.reduceBEq,reduceCtorEq,Nat.reduceEqDiff,hres,hL,A0j,A6i,h40,decide_false,Bool.false_or,hk1]
 | false=>
  have hs1:=hs.grow (hk1.grow hw)
  have hlen1:=hs1.len Tryz.underlying22 H1
  simp only [↓Sh.dn,sx,Nat.reduceBEq,reduceCtorEq,Nat.reduceEqDiff,hlen1,List.length_map]
  have h16:∀ x∈l,decide (x.size≤16)=true:=by
   intro x hx
   have:=List.any_eq_false.1 hL x hx
   simp only [decide_eq_true_eq,Nat.not_lt] at this
   simpa using this
  have e1:(l.all A8o && ascB l)=false→A0j l=1:=by intro h; simp [A0j,A6i,h40,hL]; simpa using h
  have e0:(l.all A8o && ascB l)=true→A0j l=0:=by intro h; simp [A0j,A6i,h40,hL]; simpa using h
  have hsy:∀ x∈l,A8o x=chOk x:=by intro x hx; rw [B2c,h16 x hx,Bool.and_true]
  refine A8h l.length 14 (List.range' 14 22++[2,3,4]) (fun i F H'=>H'=H1∧(∀ (j:Nat) x,j < i→l[j]?=some x→chOk x=true)∧(∀ (j:Nat) x y,j+1 < i→l[j]?=some x→l[j+1]?=some y→A1l x y=true)) (by simp only [↓Sh.dn,sx,Nat.reduceBEq,reduceCtorEq,Nat.reduceEqDiff]) ⟨rfl,fun j x h=>by omega,fun j x y h=>by omega⟩ ?_ ?_
  ·rintro i F H' hlt hF f14 ⟨rfl,hall,hasc⟩ k
   have f0:=hF 0 rfl
   have f12:=hF 12 rfl
   have f13:=hF 13 rfl
   simp only [↓Sh.dn,sx,Nat.reduceBEq,reduceCtorEq,Nat.reduceEqDiff] at f0 f12 f13
   obtain ⟨g,o,kk,hia,hc,hcc⟩:=hs1.at Tryz.underlying22 A0m (i:=i) (x:=A9a l[i]) (by simp [hlt]) .i64
   have hy:=hcc 0 _ rfl
   simp only [Nat.add_zero] at hy
   have hget:l[i]?=some l[i]:=List.getElem?_eq_getElem hlt
   obtain ⟨r,H2,hd2,rfl,rfl⟩:=A03 (H:=H') (x:=l[i]) (hlx _ (List.getElem_mem hlt))
   simp only [↓Sh.dn,sx,Nat.reduceBEq,reduceCtorEq,Nat.reduceEqDiff,f0,f12,f13,f14,A6a,hlt,decide_true,hia,hy]
   refine ⟨_,_,hd2,?_⟩
   cases hch:chOk l[i] with
   | false=>
    have hbad:A0j l=1:=e1 (by
     rw [Bool.and_eq_false_iff]; left
     exact List.all_eq_false.2 ⟨_,List.getElem_mem hlt,by rw [hsy _ (List.getElem_mem hlt),hch]; simp⟩)
    simp only [↓Sh.dn,sx,Nat.reduceBEq,reduceCtorEq,Nat.reduceEqDiff,hres,hbad,hk1]
   | true=>
    have hall':∀ (j:Nat) x,j < i+1→l[j]?=some x→chOk x=true:=by
     intro j x hj hx
     by_cases he:j=i
     ·subst he; rw [hget] at hx; rw [← Option.some.inj hx]; exact hch
     ·exact hall j x (by omega) hx
    by_cases hi0:0 < i
    ·have hlt1:i - 1 < l.length:=by omega
     obtain ⟨g',o',kk',hia',hc',hcc'⟩:=hs1.at Tryz.underlying22 A0m (i:=i - 1) (x:=A9a l[i - 1]) (by simp [hlt1]) .i64
     have hy':=hcc' 0 _ rfl
     simp only [Nat.add_zero] at hy'
     have hw1:IntKind.wrap .i64 ((i:Int) - 1)=((i - 1:Nat):Int):=by rw [wrap64 (by omega) (by omega)]; omega
     have ei:decide ((0:Int) < (i:Int))=true:=by simpa using hi0
     have hget':l[i - 1]?=some l[i - 1]:=List.getElem?_eq_getElem hlt1
     simp only [↓Sh.dn,sx,Nat.reduceBEq,reduceCtorEq,Nat.reduceEqDiff,f0,ei,hw1,hia',hy']
     cases hq:A1l l[i - 1] l[i] with
     | false=>
      have hbad:A0j l=1:=e1 (by
       rw [Bool.and_eq_false_iff]; right
       cases hb:ascB l with
       | false=>rfl
       | true=>
        have:=A3u.1 hb (i - 1) _ _ hget' (by rw [show i - 1+1=i by omega]; exact hget)
        rw [this] at hq; cases hq)
      simp only [↓Sh.dn,sx,Nat.reduceBEq,reduceCtorEq,Nat.reduceEqDiff,hres,hbad,hk1]
     | true=>
      simp only [↓Sh.dn,sx,Nat.reduceBEq,reduceCtorEq,Nat.reduceEqDiff,f14,wrap_succ hlt hl]
      refine k _ _ (by repeat (first | refine Same.put ?_ rfl | exact Same.rfl' _)) (by simp only [↓Sh.dn,sx,Nat.reduceBEq,reduceCtorEq,Nat.reduceEqDiff]) ⟨rfl,hall',fun j x y hj hx hy=>?_⟩
      by_cases he:j+1=i
      ·have:j=i - 1:=by omega
       subst this
       rw [he,hget] at hy
       rw [hget'] at hx
       rw [← Option.some.inj hx,← Option.some.inj hy]; exact hq
      ·exact hasc j x y (by omega) hx hy
    ·have ei:decide ((0:Int) < (i:Int))=false:=by simpa using hi0
     simp only [↓Sh.dn,sx,Nat.reduceBEq,reduceCtorEq,Nat.reduceEqDiff,f14,ei,wrap_succ hlt hl]
     exact k _ _ (by repeat (first | refine Same.put ?_ rfl | exact Same.rfl' _)) (by simp only [↓Sh.dn,sx,Nat.reduceBEq,reduceCtorEq,Nat.reduceEqDiff]) ⟨rfl,hall',fun j x y hj hx hy=>by omega⟩
  ·rintro F H' hF f14 ⟨rfl,hall,hasc⟩
   have f13:=hF 13 rfl
   simp only [↓Sh.dn,sx,Nat.reduceBEq,reduceCtorEq,Nat.reduceEqDiff] at f13
   have hgood:A0j l=0:=e0 (by
    rw [Bool.and_eq_true]
    refine ⟨List.all_eq_true.2 fun x hx=>?_,A3u.2 fun j x y hx hy=>hasc j x y (List.getElem?_eq_some_iff.1 hy).1 hx hy⟩
    obtain ⟨j,hj⟩:=List.mem_iff_getElem?.1 hx
    rw [hsy x hx]
    exact hall j x (List.getElem?_eq_some_iff.1 hj).1 hj)
   simp only [↓Sh.dn,sx,Nat.reduceBEq,reduceCtorEq,Nat.reduceEqDiff,f13,f14,A6a,Nat.lt_irrefl,decide_false,hres,hgood,hk1]
end Go.Proofs.YtnoengaghabmjaaGreat
/- cmp.Less, where nothing is no number. -/
namespace Go.Proofs.YtnoengaghabmjaaGreat
open Go Go.Proofs Go.Proofs.Sh
theorem B4s {H:AH} {x:ByteArray}:Sh.Call Tryz.prog (knows 10) 161 [Value.string x] H (fun r H'=>H'=H∧r=.bool false):=by
 refine A3b rfl Tryz.func161 rfl (Nat.le_of_ble_eq_true rfl) ?_
 have hres:Tryz.f161.results.toList=[.tmp 2]:=rfl
 simp only [↓Sh.dn,sx,Nat.reduceBEq,reduceCtorEq,Nat.reduceEqDiff,hres,decide_true,Bool.not_true,and_self]
theorem B83 {H:AH} {x y:ByteArray}:Sh.Call Tryz.prog (knows 10) 139 [Value.string x,Value.string y] H (fun r H'=>H'=H∧r=.bool (A1l x y)):=by
 refine A3b rfl Tryz.func139 rfl (Nat.le_of_ble_eq_true rfl) ?_
 have hres:Tryz.f139.results.toList=[.tmp 4]:=rfl
 obtain ⟨r,H1,hd,rfl,rfl⟩:=B4s (H:=H) (x:=x)
 simp only [↓Sh.dn,sx,Nat.reduceBEq,reduceCtorEq,Nat.reduceEqDiff]
 refine ⟨_,_,hd,?_⟩
 simp only [↓Sh.dn,sx,Nat.reduceBEq,reduceCtorEq,Nat.reduceEqDiff,hres,and_self]
 try rfl
section
variable {H:AH} {g k n m cap i:Nat} {l:List ByteArray}
end
end Go.Proofs.YtnoengaghabmjaaGreat
/- slices.BinarySearch of an ascending list of texts. -/
namespace Go.Proofs.YtnoengaghabmjaaGreat
open Go Go.Proofs Go.Proofs.Sh
theorem isNaNStr {H:AH} {x:ByteArray}:Sh.Call Tryz.prog (knows 10) 140 [.string x] H (fun r H'=>H'=H∧r=.bool false):=by
 refine A3b rfl Tryz.func140 rfl (Nat.le_of_ble_eq_true rfl) ?_
 have hres:Tryz.f140.results.toList=[.tmp 2]:=rfl
 simp only [↓Sh.dn,sx,Nat.reduceBEq,reduceCtorEq,Nat.reduceEqDiff,hres,decide_true,Bool.not_true,and_self]
theorem A33 {H:AH} {v:Value} {x:ByteArray} {l:List ByteArray} (hs:Sl H v 1 (l.map A9a)) (ha:Asc l) (hl:l.length≤1048576):
  Sh.Call Tryz.prog (knows 10) 115 [v,.string x] H (fun r H'=>H'=H∧∃ k:Nat,r=.tuple #[.int .i64 (k:Int),.bool (A8m l x)]∧k≤l.length∧(l[k]?=some x↔x∈l)):=by
 refine A3b rfl Tryz.func115 rfl (Nat.le_of_ble_eq_true rfl) ?_
 have hres:Tryz.f115.results.toList=[.tmp 4,.tmp 5]:=rfl
 have hlen:=hs.len Tryz.underlying22 H
 simp only [↓Sh.dn,sx,Nat.reduceBEq,reduceCtorEq,Nat.reduceEqDiff,hlen,List.length_map]
 refine A9o (fun m F H'=>H'=H∧∃ a b:Nat,m=b - a∧a≤b∧b≤l.length∧F.get 7=some (.int .i64 (a:Int))∧F.get 8=some (.int .i64 (b:Int))∧F.get 0=some v∧F.get 1=some (.string x)∧F.get 6=some (.int .i64 (l.length:Int))∧
  (∀ (i:Nat) y,i < a→l[i]?=some y→A1l y x=true)∧(∀ (i:Nat) y,b≤i→l[i]?=some y→A1l y x=false)) (m:=l.length)
  ⟨rfl,0,l.length,by omega,by omega,by omega,by simp only [↓Sh.dn,sx,Nat.reduceBEq,reduceCtorEq,Nat.reduceEqDiff]; rfl,by simp only [↓Sh.dn,sx,Nat.reduceBEq,reduceCtorEq,Nat.reduceEqDiff],by simp only [↓Sh.dn,sx,Nat.reduceBEq,reduceCtorEq,Nat.reduceEqDiff],by simp only [↓Sh.dn,sx,Nat.reduceBEq,reduceCtorEq,Nat.reduceEqDiff],by simp only [↓Sh.dn,sx,Nat.reduceBEq,reduceCtorEq,Nat.reduceEqDiff],fun i y h=>by omega,fun i y h1 h2=>by have:=(List.getElem?_eq_some_iff.1 h2).1; omega⟩ ?_
 rintro m F H' ⟨rfl,a,b,rfl,hab,hbn,f7,f8,f0,f1,f6,hlo,hhi⟩ k
 by_cases hlt:a < b
 ·have hm:(a+b) / 2 < l.length:=by omega
  have hw2:IntKind.wrap .i64 (((a+b) / 2:Nat):Int)=(((a+b) / 2:Nat):Int):=wrap64 (by omega) (by omega)
  obtain ⟨g,o,kk,hia,hc,hcc⟩:=hs.at Tryz.underlying22 A0m (i:=(a+b) / 2) (x:=A9a l[(a+b) / 2]) (by simp [hm]) .i64
  have hy:=hcc 0 _ rfl
  simp only [Nat.add_zero] at hy
  obtain ⟨r,H1,hd,rfl,rfl⟩:=B83 (H:=H') (x:=l[(a+b) / 2]) (y:=x)
  have hget:l[(a+b) / 2]?=some l[(a+b) / 2]:=List.getElem?_eq_getElem hm
  simp only [↓Sh.dn,sx,Nat.reduceBEq,reduceCtorEq,Nat.reduceEqDiff,f0,f1,f6,f7,f8,A6a,hlt,decide_true,b_shr,half a b (by omega),hw2,hia,hy,forall_const,reduceCtorEq,false_implies,and_true,true_and]
  refine ⟨_,_,hd,?_⟩
  cases hpv:A1l l[(a+b) / 2] x with
  | true=>
   have hw3:IntKind.wrap .i64 ((((a+b) / 2:Nat):Int)+1)=(((a+b) / 2+1:Nat):Int):=wrap_succ (n:=l.length) (by omega) hl
   simp only [↓Sh.dn,sx,Nat.reduceBEq,reduceCtorEq,Nat.reduceEqDiff,forall_const,reduceCtorEq,false_implies,and_true,true_and,hw3]
   refine k (b - ((a+b) / 2+1)) _ _ (by omega) ⟨rfl,(a+b) / 2+1,b,rfl,by omega,hbn,by simp only [↓Sh.dn,sx,Nat.reduceBEq,reduceCtorEq,Nat.reduceEqDiff],by simp only [↓Sh.dn,sx,Nat.reduceBEq,reduceCtorEq,Nat.reduceEqDiff,f8],by simp only [↓Sh.dn,sx,Nat.reduceBEq,reduceCtorEq,Nat.reduceEqDiff,f0],by simp only [↓Sh.dn,sx,Nat.reduceBEq,reduceCtorEq,Nat.reduceEqDiff,f1],by simp only [↓Sh.dn,sx,Nat.reduceBEq,reduceCtorEq,Nat.reduceEqDiff,f6],fun i y hi hy=>?_,hhi⟩
   by_cases he:i=(a+b) / 2
   ·subst he; rw [hget] at hy; rw [← Option.some.inj hy]; exact hpv
   ·exact A7r (ha _ _ _ _ (by omega) hy hget) hpv
  | false=>
   simp only [↓Sh.dn,sx,Nat.reduceBEq,reduceCtorEq,Nat.reduceEqDiff,forall_const,reduceCtorEq,false_implies,and_true,true_and]
   refine k ((a+b) / 2 - a) _ _ (by omega) ⟨rfl,a,(a+b) / 2,rfl,by omega,by omega,by simp only [↓Sh.dn,sx,Nat.reduceBEq,reduceCtorEq,Nat.reduceEqDiff,f7],by simp only [↓Sh.dn,sx,Nat.reduceBEq,reduceCtorEq,Nat.reduceEqDiff],by simp only [↓Sh.dn,sx,Nat.reduceBEq,reduceCtorEq,Nat.reduceEqDiff,f0],by simp only [↓Sh.dn,sx,Nat.reduceBEq,reduceCtorEq,Nat.reduceEqDiff,f1],by simp only [↓Sh.dn,sx,Nat.reduceBEq,reduceCtorEq,Nat.reduceEqDiff,f6],hlo,fun i y h1 hy=>?_⟩
   by_cases he:i=(a+b) / 2
   ·subst he; rw [hget] at hy; rw [← Option.some.inj hy]; exact hpv
   ·cases hlt2:A1l y x with
    | false=>rfl
    | true=>rw [A7r (ha _ _ _ _ (by omega) hget hy) hlt2] at hpv; cases hpv
 ·have hab':a=b:=by omega
  subst hab'
  have hp:=B3l ha x hlo hhi
  by_cases hla:a < l.length
  ·obtain ⟨g,o,kk,hia,hc,hcc⟩:=hs.at Tryz.underlying22 A0m (i:=a) (x:=A9a l[a]) (by simp [hla]) .i64
   have hy:=hcc 0 _ rfl
   simp only [Nat.add_zero] at hy
   have hget:l[a]?=some l[a]:=List.getElem?_eq_getElem hla
   by_cases hex:l[a]=x
   ·have hin:A8m l x=true:=A4g.2 (hp.1 (by rw [hget,hex]))
    simp only [↓Sh.dn,sx,Nat.reduceBEq,reduceCtorEq,Nat.reduceEqDiff,f0,f1,f6,f7,f8,A6a,hlt,hla,hia,hy,hex,decide_true,decide_false,hres,hin,forall_const,reduceCtorEq,false_implies,and_true,true_and]
    exact ⟨a,rfl,hbn,hp⟩
   ·have hin : A8m l x = false := by
      cases h : A8m l x with
      | false => rfl
      | true => have := hp.2 (A4g.1 h); rw [hget] at this; exact absurd (Option.some.inj this) hex
    obtain ⟨r, H1, hd, rfl, rfl⟩ := isNaNStr (H := H') (x := l[a])
    simp only [↓Sh.dn, sx, Nat.reduceBEq, reduceCtorEq, Nat.reduceEqDiff, f0, f1, f6, f7, f8, A6a, hlt, hla, hia, hy, hex, decide_true, decide_false, hres, hin, forall_const, reduceCtorEq, false_implies, and_true, true_and]
    refine ⟨_, _, hd, ?_⟩
    simp only [↓Sh.dn, sx, Nat.reduceBEq, reduceCtorEq, Nat.reduceEqDiff, f7, forall_const, reduceCtorEq, false_implies, and_true, true_and, hres]
    exact ⟨a, rfl, hbn, hp⟩
  ·have hin : A8m l x = false := by
     cases h : A8m l x with
     | false => rfl
     | true => have := hp.2 (A4g.1 h); rw [List.getElem?_eq_none (by omega)] at this; cases this
   simp only [↓Sh.dn, sx, Nat.reduceBEq, reduceCtorEq, Nat.reduceEqDiff, f0, f1, f6, f7, f8, A6a, hlt, hla, decide_true, decide_false, hres, hin, forall_const, reduceCtorEq, false_implies, and_true, true_and]
   exact ⟨a, rfl, hbn, hp⟩
end Go.Proofs.YtnoengaghabmjaaGreat
/- What is wrong with a net of any kind, by the program. -/
namespace Go.Proofs.YtnoengaghabmjaaGreat
open Go Go.Proofs Go.Proofs.Sh
theorem B77 {H:AH} {gg:Nat} {sg ar en:Value} {N:NetD} {s:ByteArray} (hb:NetBox H gg sg ar en N) (ha:Asc N.sigma) (hl:N.sigma.length≤1048576):
  Sh.Call Tryz.prog (knows 10) 114 [.string s,.pointer (some ⟨gg,0,some 0⟩)] H (fun r H'=>H'=H∧r=.bool (!A0i N s)):=by
 refine A3b rfl Tryz.func114 rfl (Nat.le_of_ble_eq_true rfl) ?_
 have hres:Tryz.f114.results.toList=[.tmp 3]:=rfl
 obtain ⟨r,H1,hd,rfl,k,rfl,_,_⟩:=A33 (x:=s) hb.hsg ha hl
 simp only [↓Sh.dn,sx,Nat.reduceBEq,reduceCtorEq,Nat.reduceEqDiff,hb.c0,hb.c1,hb.c2,hb.c3,hb.ca,A2a hb,A1a hb,A3a hb]
 refine ⟨_,_,hd,?_⟩
 simp only [↓Sh.dn,sx,Nat.reduceBEq,reduceCtorEq,Nat.reduceEqDiff,A69]
 by_cases h:s=⟨#[]⟩
 ·simp only [↓Sh.dn,sx,Nat.reduceBEq,reduceCtorEq,Nat.reduceEqDiff,h,decide_true,hres,A0i]
 ·simp only [↓Sh.dn,sx,Nat.reduceBEq,reduceCtorEq,Nat.reduceEqDiff,h,decide_false,hres,A0i]
theorem B54 {H:AH} {v:Value} {N:NetD} (h:A8v H v N) (hsm:A5h N) (hw:Wf H):
  Sh.Call Tryz.prog (knows 10) 66 [v] H (fun r H'=>Kept H H'∧r=.int .i64 (A4f N)):=by
 refine A3b rfl Tryz.func66 rfl (Nat.le_of_ble_eq_true rfl) ?_
 have hres:Tryz.f66.results.toList=[.tmp 2]:=rfl
 obtain ⟨sg,ar,en,rfl,hsg,har,hen⟩:=h
 have hb1:=NetBox.of (N:=N) hw hsg har hen
 have hk1:Kept H (H.new 4 [sg,.int .i64 N.states,ar,en]).2:=Kept.new hw 4 _
 have eA:decide ((60000:Int) < (N.arcs.length:Int))=decide (60000 < N.arcs.length):=decide_eq_decide.2 (by omega)
 have eE:decide ((60000:Int) < (N.ends.length:Int))=decide (60000 < N.ends.length):=decide_eq_decide.2 (by omega)
 simp only [↓Sh.dn,sx,Nat.reduceBEq,reduceCtorEq,Nat.reduceEqDiff,A5q hsg.isCell har.isCell hen.isCell]
 generalize H.next=gg at hb1 ⊢
 generalize (H.new 4 [sg,.int .i64 N.states,ar,en]).2=H1 at hb1 hk1 ⊢
 simp only [↓Sh.dn,sx,Nat.reduceBEq,reduceCtorEq,Nat.reduceEqDiff,hb1.c0,hb1.c1,hb1.c2,hb1.c3,hb1.ca,A2a hb1,A1a hb1,A3a hb1]
 by_cases hA:3000 < N.states
 ·simp only [↓Sh.dn,sx,Nat.reduceBEq,reduceCtorEq,Nat.reduceEqDiff,hA,decide_true,hres,A4f,A4k,Bool.true_or,hk1]
 by_cases hB:60000 < N.arcs.length
 ·simp only [↓Sh.dn,sx,Nat.reduceBEq,reduceCtorEq,Nat.reduceEqDiff,hb1.c0,hb1.c1,hb1.c2,hb1.c3,hb1.ca,A2a hb1,A1a hb1,A3a hb1,hA,eA,hB,decide_true,decide_false,hres,A4f,A4k,Bool.true_or,Bool.or_true,hk1]
 by_cases hC:60000 < N.ends.length
 ·simp only [↓Sh.dn,sx,Nat.reduceBEq,reduceCtorEq,Nat.reduceEqDiff,hb1.c0,hb1.c1,hb1.c2,hb1.c3,hb1.ca,A2a hb1,A1a hb1,A3a hb1,hA,eA,eE,hB,hC,decide_true,decide_false,hres,A4f,A4k,Bool.true_or,Bool.or_true,hk1]
 have hT:A4k N=false:=by simp [A4k,hA,hB,hC]
 simp only [↓Sh.dn,sx,Nat.reduceBEq,reduceCtorEq,Nat.reduceEqDiff,hb1.c0,hb1.c1,hb1.c2,hb1.c3,hb1.ca,A2a hb1,A1a hb1,A3a hb1,hA,eA,eE,hB,hC,decide_true,decide_false,hres]
 obtain ⟨r,H2,hd,hk2,rfl⟩:=B1n hb1.hsg hsm.sg hsm.sx hk1.wf
 refine ⟨_,_,hd,?_⟩
 have hb2:=hb1.kept hk1.wf hk2
 have hk12:=hk1.trans hk2
 by_cases hS:A0j N.sigma=0
 case neg=>simp only [↓Sh.dn,sx,Nat.reduceBEq,reduceCtorEq,Nat.reduceEqDiff,hS,decide_false,hres,A4f,hT,Bool.false_eq_true,if_false,ne_eq,not_false_eq_true,if_true,hk12]
 have hasc:=A61 hS
 simp only [↓Sh.dn,sx,Nat.reduceBEq,reduceCtorEq,Nat.reduceEqDiff,hS,decide_true,hb2.c0,hb2.c1,hb2.c2,hb2.c3,hb2.ca,A2a hb2,A1a hb2,A3a hb2]
 by_cases hst:N.states < 1
 ·simp only [↓Sh.dn,sx,Nat.reduceBEq,reduceCtorEq,Nat.reduceEqDiff,hst,decide_true,hres,A4f,hT,hS,ne_eq,not_true_eq_false,if_false,if_true,hk12,Bool.false_eq_true]
 simp only [↓Sh.dn,sx,Nat.reduceBEq,reduceCtorEq,Nat.reduceEqDiff,hst,decide_false,hb2.c0,hb2.c1,hb2.c2,hb2.c3,hb2.ca,A2a hb2,A1a hb2,A3a hb2]
 have e1:N.arcs.any (A3g N)=true→A4f N=1:=by intro h; simp [A4f,hT,hS,hst,h]
 have e2:N.ends.any (A3n N)=true→A4f N=1:=by intro h; simp [A4f,hT,hS,hst,h]
 have e3:N.arcs.any (A3g N)=false→N.ends.any (A3n N)=false→A4f N=0:=by intro h h'; simp [A4f,hT,hS,hst,h,h']
 refine A8h N.arcs.length 37 (List.range' 37 41++[2,6]) (fun i F H'=>Kept H2 H'∧(N.arcs.take i).any (A3g N)=false) (by simp only [↓Sh.dn,sx,Nat.reduceBEq,reduceCtorEq,Nat.reduceEqDiff]) ⟨Kept.refl hk12.wf,rfl⟩ ?_ ?_
 ·rintro i F H' hlt hF f37 ⟨hk,hall⟩ k
  have f1:=hF 1 rfl
  have f4:=hF 4 rfl
  have f35:=hF 35 rfl
  have f36:=hF 36 rfl
  simp only [↓Sh.dn,sx,Nat.reduceBEq,reduceCtorEq,Nat.reduceEqDiff] at f1 f4 f35 f36
  have hb':=hb2.kept hk12.wf hk
  have hb3:=hb'.new hk.wf 5 (N.arcs[i].cells)
  have hk3:=hk.news 5 (N.arcs[i].cells)
  obtain ⟨g,o,kk,hia,hc,hcc⟩:=hb'.har.at Tryz.underlying23 A8k (i:=i) (x:=N.arcs[i].cells) (by simp [hlt]) .i64
  clear hcc
  have hin:N.arcs[i]∈N.arcs:=List.getElem_mem hlt
  have hnext:A3g N N.arcs[i]=false→(N.arcs.take (i+1)).any (A3g N)=false:=by
   intro h
   rw [List.take_add_one,List.getElem?_eq_getElem hlt]
   simp only [Option.toList,List.any_append,hall,List.any_cons,List.any_nil,h,Bool.or_false]
  have hbad:A3g N N.arcs[i]=true→A4f N=1:=fun h=>e1 (List.any_eq_true.2 ⟨_,hin,h⟩)
  generalize N.arcs[i]=a at hb3 hk3 hc hnext hbad
  simp only [↓Sh.dn,sx,Nat.reduceBEq,reduceCtorEq,Nat.reduceEqDiff,hb'.c0,hb'.c1,hb'.c2,hb'.c3,hb'.ca,A2a hb',A1a hb',A3a hb',A3c,A5c,A7c,A6e,A4e,A5b,A4b,A4c,A8c,A6c,arc0,arc1,arc2,arc3,arc4,end0,end1,f1,f35,f36,f37,Option.map_some,A6a,hlt,decide_true,hia,hc,hres]
  by_cases h1:a.fr < 0
  ·simp only [↓Sh.dn,sx,Nat.reduceBEq,reduceCtorEq,Nat.reduceEqDiff,hb3.c0,hb3.c1,hb3.c2,hb3.c3,hb3.ca,A2a hb3,A1a hb3,A3a hb3,A3c,A5c,A7c,A6e,A4e,A5b,A4b,A4c,A8c,A6c,arc0,arc1,arc2,arc3,arc4,end0,end1,h1,decide_true,hres,hbad (by simp [A3g,h1]),hk12.trans hk3]
  simp only [↓Sh.dn,sx,Nat.reduceBEq,reduceCtorEq,Nat.reduceEqDiff,hb3.c0,hb3.c1,hb3.c2,hb3.c3,hb3.ca,A2a hb3,A1a hb3,A3a hb3,A3c,A5c,A7c,A6e,A4e,A5b,A4b,A4c,A8c,A6c,arc0,arc1,arc2,arc3,arc4,end0,end1,f1,h1,decide_false]
  by_cases h2:N.states≤a.fr
  ·simp only [↓Sh.dn,sx,Nat.reduceBEq,reduceCtorEq,Nat.reduceEqDiff,hb3.c0,hb3.c1,hb3.c2,hb3.c3,hb3.ca,A2a hb3,A1a hb3,A3a hb3,A3c,A5c,A7c,A6e,A4e,A5b,A4b,A4c,A8c,A6c,arc0,arc1,arc2,arc3,arc4,end0,end1,h2,decide_true,hres,hbad (by simp [A3g,h2]),hk12.trans hk3]
  simp only [↓Sh.dn,sx,Nat.reduceBEq,reduceCtorEq,Nat.reduceEqDiff,hb3.c0,hb3.c1,hb3.c2,hb3.c3,hb3.ca,A2a hb3,A1a hb3,A3a hb3,A3c,A5c,A7c,A6e,A4e,A5b,A4b,A4c,A8c,A6c,arc0,arc1,arc2,arc3,arc4,end0,end1,f1,h2,decide_false]
  by_cases h3:a.to < 0
  ·simp only [↓Sh.dn,sx,Nat.reduceBEq,reduceCtorEq,Nat.reduceEqDiff,hb3.c0,hb3.c1,hb3.c2,hb3.c3,hb3.ca,A2a hb3,A1a hb3,A3a hb3,A3c,A5c,A7c,A6e,A4e,A5b,A4b,A4c,A8c,A6c,arc0,arc1,arc2,arc3,arc4,end0,end1,h3,decide_true,hres,hbad (by simp [A3g,h3]),hk12.trans hk3]
  simp only [↓Sh.dn,sx,Nat.reduceBEq,reduceCtorEq,Nat.reduceEqDiff,hb3.c0,hb3.c1,hb3.c2,hb3.c3,hb3.ca,A2a hb3,A1a hb3,A3a hb3,A3c,A5c,A7c,A6e,A4e,A5b,A4b,A4c,A8c,A6c,arc0,arc1,arc2,arc3,arc4,end0,end1,f1,h3,decide_false]
  by_cases h4:N.states≤a.to
  ·simp only [↓Sh.dn,sx,Nat.reduceBEq,reduceCtorEq,Nat.reduceEqDiff,hb3.c0,hb3.c1,hb3.c2,hb3.c3,hb3.ca,A2a hb3,A1a hb3,A3a hb3,A3c,A5c,A7c,A6e,A4e,A5b,A4b,A4c,A8c,A6c,arc0,arc1,arc2,arc3,arc4,end0,end1,h4,decide_true,hres,hbad (by simp [A3g,h4]),hk12.trans hk3]
  obtain ⟨r,H4,hd4,rfl,rfl⟩:=B77 (s:=a.inn) hb3 hasc hsm.sg
  simp only [↓Sh.dn,sx,Nat.reduceBEq,reduceCtorEq,Nat.reduceEqDiff,hb3.c0,hb3.c1,hb3.c2,hb3.c3,hb3.ca,A2a hb3,A1a hb3,A3a hb3,A3c,A5c,A7c,A6e,A4e,A5b,A4b,A4c,A8c,A6c,arc0,arc1,arc2,arc3,arc4,end0,end1,f1,f4,h4,decide_false]
  refine ⟨_,_,hd4,?_⟩
  have hb4:=hb3
  cases hI:A0i N a.inn with
  | true=>simp only [↓Sh.dn,sx,Nat.reduceBEq,reduceCtorEq,Nat.reduceEqDiff,hres,hbad (by simp [A3g,hI]),hk12.trans hk3]
  | false=>
   obtain ⟨r,H5,hd5,rfl,rfl⟩:=B77 (s:=a.out) hb3 hasc hsm.sg
   simp only [↓Sh.dn,sx,Nat.reduceBEq,reduceCtorEq,Nat.reduceEqDiff,hb3.c0,hb3.c1,hb3.c2,hb3.c3,hb3.ca,A2a hb3,A1a hb3,A3a hb3,A3c,A5c,A7c,A6e,A4e,A5b,A4b,A4c,A8c,A6c,arc0,arc1,arc2,arc3,arc4,end0,end1,f1,f4]
   refine ⟨_,_,hd5,?_⟩
   cases hO:A0i N a.out with
   | true=>simp only [↓Sh.dn,sx,Nat.reduceBEq,reduceCtorEq,Nat.reduceEqDiff,hres,hbad (by simp [A3g,hO]),hk12.trans hk3]
   | false=>
    simp only [↓Sh.dn,sx,Nat.reduceBEq,reduceCtorEq,Nat.reduceEqDiff,f37,wrap_succ hlt hsm.ar]
    exact k _ _ (by repeat (first | refine Same.put ?_ rfl | exact Same.rfl' _)) (by simp only [↓Sh.dn,sx,Nat.reduceBEq,reduceCtorEq,Nat.reduceEqDiff]) ⟨hk3,hnext (by simp [A3g,h1,h2,h3,h4,hI,hO])⟩
 ·rintro F H' hF f37 ⟨hk,hall⟩
  have f1:=hF 1 rfl
  have f36:=hF 36 rfl
  simp only [↓Sh.dn,sx,Nat.reduceBEq,reduceCtorEq,Nat.reduceEqDiff] at f1 f36
  rw [List.take_length] at hall
  have hb':=hb2.kept hk12.wf hk
  simp only [↓Sh.dn,sx,Nat.reduceBEq,reduceCtorEq,Nat.reduceEqDiff,hb'.c0,hb'.c1,hb'.c2,hb'.c3,hb'.ca,A2a hb',A1a hb',A3a hb',f1,f36,f37,A6a,Nat.lt_irrefl,decide_false]
  refine A8h N.ends.length 81 (List.range' 81 15++[2,8]) (fun i F H''=>Kept H' H''∧(N.ends.take i).any (A3n N)=false) (by simp only [↓Sh.dn,sx,Nat.reduceBEq,reduceCtorEq,Nat.reduceEqDiff]) ⟨Kept.refl hk.wf,rfl⟩ ?_ ?_
  ·rintro i F2 H'' hlt hF2 f81 ⟨hk2',hall2⟩ k
   have g1:=hF2 1 rfl
   have g79:=hF2 79 rfl
   have g80:=hF2 80 rfl
   simp only [↓Sh.dn,sx,Nat.reduceBEq,reduceCtorEq,Nat.reduceEqDiff,f1] at g1 g79 g80
   have hbx:=hb'.kept hk.wf hk2'
   have hb3:=hbx.new hk2'.wf 2 (N.ends[i].cells)
   have hk3:=hk2'.news 2 (N.ends[i].cells)
   have hkk:=(hk12.trans hk).trans hk3
   obtain ⟨g,o,kk,hia,hc,hcc⟩:=hbx.hen.at Tryz.underlying24 A5o (i:=i) (x:=N.ends[i].cells) (by simp [hlt]) .i64
   clear hcc
   have hbad:A3n N N.ends[i]=true→A4f N=1:=fun h=>e2 (List.any_eq_true.2 ⟨_,List.getElem_mem hlt,h⟩)
   simp only [↓Sh.dn,sx,Nat.reduceBEq,reduceCtorEq,Nat.reduceEqDiff,hbx.c0,hbx.c1,hbx.c2,hbx.c3,hbx.ca,A2a hbx,A1a hbx,A3a hbx,A3c,A5c,A7c,A6e,A4e,A5b,A4b,A4c,A8c,A6c,arc0,arc1,arc2,arc3,arc4,end0,end1,g1,g79,g80,f81,A6a,hlt,decide_true,hia,hc,Option.map_some]
   by_cases h1:N.ends[i].state < 0
   ·simp only [↓Sh.dn,sx,Nat.reduceBEq,reduceCtorEq,Nat.reduceEqDiff,hb3.c0,hb3.c1,hb3.c2,hb3.c3,hb3.ca,A2a hb3,A1a hb3,A3a hb3,A3c,A5c,A7c,A6e,A4e,A5b,A4b,A4c,A8c,A6c,arc0,arc1,arc2,arc3,arc4,end0,end1,h1,decide_true,hres,hbad (by simp [A3n,h1]),hkk]
   simp only [↓Sh.dn,sx,Nat.reduceBEq,reduceCtorEq,Nat.reduceEqDiff,hb3.c0,hb3.c1,hb3.c2,hb3.c3,hb3.ca,A2a hb3,A1a hb3,A3a hb3,A3c,A5c,A7c,A6e,A4e,A5b,A4b,A4c,A8c,A6c,arc0,arc1,arc2,arc3,arc4,end0,end1,g1,f81,h1,decide_false]
   by_cases h2:N.states≤N.ends[i].state
   ·simp only [↓Sh.dn,sx,Nat.reduceBEq,reduceCtorEq,Nat.reduceEqDiff,h2,decide_true,hres,hbad (by simp [A3n,h2]),hkk]
   simp only [↓Sh.dn,sx,Nat.reduceBEq,reduceCtorEq,Nat.reduceEqDiff,f81,h2,decide_false,wrap_succ hlt hsm.en]
   refine k _ _ (by repeat (first | refine Same.put ?_ rfl | exact Same.rfl' _)) (by simp only [↓Sh.dn,sx,Nat.reduceBEq,reduceCtorEq,Nat.reduceEqDiff]) ⟨hk3,?_⟩
   rw [List.take_add_one,List.getElem?_eq_getElem hlt]
   simp only [Option.toList,List.any_append,hall2,List.any_cons,List.any_nil,Bool.or_false,A3n,h1,h2,decide_false]
  ·rintro F2 H'' hF2 f81 ⟨hk2',hall2⟩
   have g80:=hF2 80 rfl
   simp only [↓Sh.dn,sx,Nat.reduceBEq,reduceCtorEq,Nat.reduceEqDiff] at g80
   rw [List.take_length] at hall2
   simp only [↓Sh.dn,sx,Nat.reduceBEq,reduceCtorEq,Nat.reduceEqDiff,g80,f81,A6a,Nat.lt_irrefl,decide_false,hres,e3 hall hall2,(hk12.trans hk).trans hk2']
end Go.Proofs.YtnoengaghabmjaaGreat
/- Whether a net has a cost out of bounds. -/
namespace Go.Proofs.YtnoengaghabmjaaGreat
open Go Go.Proofs Go.Proofs.Sh
def A8t (N:NetD) (m:Int):Bool:=N.arcs.any (fun a=>decide (a.cost < 0) || decide (m < a.cost)) || N.ends.any (fun a=>decide (a.cost < 0) || decide (m < a.cost))
theorem priced {H:AH} {v:Value} {N:NetD} {m:Int} (h:A8v H v N) (hsm:A5h N) (hw:Wf H):
  Sh.Call Tryz.prog (knows 10) 67 [v,.int .i64 m] H (fun r H'=>Kept H H'∧r=.bool (A8t N m)):=by
 refine A3b rfl Tryz.func67 rfl (Nat.le_of_ble_eq_true rfl) ?_
 have hres:Tryz.f67.results.toList=[.tmp 4]:=rfl
 obtain ⟨sg,ar,en,rfl,hsg,har,hen⟩:=h
 have hb1:=NetBox.of (N:=N) hw hsg har hen
 have hk1:Kept H (H.new 4 [sg,.int .i64 N.states,ar,en]).2:=Kept.new hw 4 _
 simp only [↓Sh.dn,sx,Nat.reduceBEq,reduceCtorEq,Nat.reduceEqDiff,A5q hsg.isCell har.isCell hen.isCell]
 generalize H.next=gg at hb1 ⊢
 generalize (H.new 4 [sg,.int .i64 N.states,ar,en]).2=H1 at hb1 hk1 ⊢
 simp only [↓Sh.dn,sx,Nat.reduceBEq,reduceCtorEq,Nat.reduceEqDiff,hb1.c0,hb1.c1,hb1.c2,hb1.c3,hb1.ca,A2a hb1,A1a hb1,A3a hb1]
 refine A8h N.arcs.length 12 (List.range' 12 14++[4,6]) (fun i F H'=>Kept H1 H'∧(N.arcs.take i).any (fun a=>decide (a.cost < 0) || decide (m < a.cost))=false) (by simp only [↓Sh.dn,sx,Nat.reduceBEq,reduceCtorEq,Nat.reduceEqDiff]) ⟨Kept.refl hk1.wf,rfl⟩ ?_ ?_
 ·rintro i F H' hlt hF f12 ⟨hk,hall⟩ k
  have f1:=hF 1 rfl
  have f10:=hF 10 rfl
  have f11:=hF 11 rfl
  simp only [↓Sh.dn,sx,Nat.reduceBEq,reduceCtorEq,Nat.reduceEqDiff] at f1 f10 f11
  have hb':=hb1.kept hk1.wf hk
  have hb3:=hb'.new hk.wf 5 (N.arcs[i].cells)
  have hk3:=hk.news 5 (N.arcs[i].cells)
  obtain ⟨g,o,kk,hia,hc,hcc⟩:=hb'.har.at Tryz.underlying23 A8k (i:=i) (x:=N.arcs[i].cells) (by simp [hlt]) .i64
  clear hcc
  have hbad:(decide (N.arcs[i].cost < 0) || decide (m < N.arcs[i].cost))=true→A8t N m=true:=fun h=>by
   rw [A8t,List.any_eq_true.2 ⟨_,List.getElem_mem hlt,h⟩]; rfl
  simp only [↓Sh.dn,sx,Nat.reduceBEq,reduceCtorEq,Nat.reduceEqDiff,hb'.c0,hb'.c1,hb'.c2,hb'.c3,hb'.ca,A2a hb',A1a hb',A3a hb',A3c,A5c,A7c,A6e,A4e,A5b,A4b,A4c,A8c,A6c,arc0,arc1,arc2,arc3,arc4,end0,end1,f1,f10,f11,f12,Option.map_some,A6a,hlt,decide_true,hia,hc,hres]
  by_cases h1:N.arcs[i].cost < 0
  ·simp only [↓Sh.dn,sx,Nat.reduceBEq,reduceCtorEq,Nat.reduceEqDiff,h1,decide_true,hres,hbad (by simp [h1]),hk1.trans hk3]
  simp only [↓Sh.dn,sx,Nat.reduceBEq,reduceCtorEq,Nat.reduceEqDiff,A3c,A5c,A7c,A6e,A4e,A5b,A4b,A4c,A8c,A6c,arc0,arc1,arc2,arc3,arc4,end0,end1,f1,h1,decide_false]
  by_cases h2:m < N.arcs[i].cost
  ·simp only [↓Sh.dn,sx,Nat.reduceBEq,reduceCtorEq,Nat.reduceEqDiff,h2,decide_true,hres,hbad (by simp [h2]),hk1.trans hk3]
  simp only [↓Sh.dn,sx,Nat.reduceBEq,reduceCtorEq,Nat.reduceEqDiff,f12,h2,decide_false,wrap_succ hlt hsm.ar]
  refine k _ _ (by repeat (first | refine Same.put ?_ rfl | exact Same.rfl' _)) (by simp only [↓Sh.dn,sx,Nat.reduceBEq,reduceCtorEq,Nat.reduceEqDiff]) ⟨hk3,?_⟩
  rw [List.take_add_one,List.getElem?_eq_getElem hlt]
  simp only [Option.toList,List.any_append,hall,List.any_cons,List.any_nil,Bool.or_false,h1,h2,decide_false]
 ·rintro F H' hF f12 ⟨hk,hall⟩
  have f2:=hF 2 rfl
  have f11:=hF 11 rfl
  simp only [↓Sh.dn,sx,Nat.reduceBEq,reduceCtorEq,Nat.reduceEqDiff] at f2 f11
  rw [List.take_length] at hall
  have hb':=hb1.kept hk1.wf hk
  simp only [↓Sh.dn,sx,Nat.reduceBEq,reduceCtorEq,Nat.reduceEqDiff,hb'.c0,hb'.c1,hb'.c2,hb'.c3,hb'.ca,A2a hb',A1a hb',A3a hb',f2,f11,f12,A6a,Nat.lt_irrefl,decide_false]
  refine A8h N.ends.length 29 (List.range' 29 14++[4,8]) (fun i F H''=>Kept H' H''∧(N.ends.take i).any (fun a=>decide (a.cost < 0) || decide (m < a.cost))=false) (by simp only [↓Sh.dn,sx,Nat.reduceBEq,reduceCtorEq,Nat.reduceEqDiff]) ⟨Kept.refl hk.wf,rfl⟩ ?_ ?_
  ·rintro i F2 H'' hlt hF2 f29 ⟨hk2',hall2⟩ k
   have g1:=hF2 1 rfl
   have h1':=hF 1 rfl
   have g27:=hF2 27 rfl
   have g28:=hF2 28 rfl
   simp only [↓Sh.dn,sx,Nat.reduceBEq,reduceCtorEq,Nat.reduceEqDiff] at g1 g27 g28 h1'
   have hbx:=hb'.kept hk.wf hk2'
   have hb3:=hbx.new hk2'.wf 2 (N.ends[i].cells)
   have hk3:=hk2'.news 2 (N.ends[i].cells)
   have hkk:=(hk1.trans hk).trans hk3
   obtain ⟨g,o,kk,hia,hc,hcc⟩:=hbx.hen.at Tryz.underlying24 A5o (i:=i) (x:=N.ends[i].cells) (by simp [hlt]) .i64
   clear hcc
   have hbad:(decide (N.ends[i].cost < 0) || decide (m < N.ends[i].cost))=true→A8t N m=true:=fun h=>by
    rw [A8t,List.any_eq_true.2 ⟨_,List.getElem_mem hlt,h⟩,Bool.or_true]
   simp only [↓Sh.dn,sx,Nat.reduceBEq,reduceCtorEq,Nat.reduceEqDiff,hbx.c0,hbx.c1,hbx.c2,hbx.c3,hbx.ca,A2a hbx,A1a hbx,A3a hbx,A3c,A5c,A7c,A6e,A4e,A5b,A4b,A4c,A8c,A6c,arc0,arc1,arc2,arc3,arc4,end0,end1,g1,h1',g27,g28,f29,A6a,hlt,decide_true,hia,hc,Option.map_some]
   by_cases h1:N.ends[i].cost < 0
   ·simp only [↓Sh.dn,sx,Nat.reduceBEq,reduceCtorEq,Nat.reduceEqDiff,h1,decide_true,hres,hbad (by simp [h1]),hkk]
   simp only [↓Sh.dn,sx,Nat.reduceBEq,reduceCtorEq,Nat.reduceEqDiff,A3c,A5c,A7c,A6e,A4e,A5b,A4b,A4c,A8c,A6c,arc0,arc1,arc2,arc3,arc4,end0,end1,g1,h1',f29,h1,decide_false]
   by_cases h2:m < N.ends[i].cost
   ·simp only [↓Sh.dn,sx,Nat.reduceBEq,reduceCtorEq,Nat.reduceEqDiff,h2,decide_true,hres,hbad (by simp [h2]),hkk]
   simp only [↓Sh.dn,sx,Nat.reduceBEq,reduceCtorEq,Nat.reduceEqDiff,f29,h2,decide_false,wrap_succ hlt hsm.en]
   refine k _ _ (by repeat (first | refine Same.put ?_ rfl | exact Same.rfl' _)) (by simp only [↓Sh.dn,sx,Nat.reduceBEq,reduceCtorEq,Nat.reduceEqDiff]) ⟨hk3,?_⟩
   rw [List.take_add_one,List.getElem?_eq_getElem hlt]
   simp only [Option.toList,List.any_append,hall2,List.any_cons,List.any_nil,Bool.or_false,h1,h2,decide_false]
  ·rintro F2 H'' hF2 f29 ⟨hk2',hall2⟩
   have g28:=hF2 28 rfl
   simp only [↓Sh.dn,sx,Nat.reduceBEq,reduceCtorEq,Nat.reduceEqDiff] at g28
   rw [List.take_length] at hall2
   simp only [↓Sh.dn,sx,Nat.reduceBEq,reduceCtorEq,Nat.reduceEqDiff,g28,f29,A6a,Nat.lt_irrefl,decide_false,hres,A8t,hall,hall2,(hk1.trans hk).trans hk2']
end Go.Proofs.YtnoengaghabmjaaGreat
/- Whether nothing of a net costs. -/
namespace Go.Proofs.YtnoengaghabmjaaGreat
open Go Go.Proofs Go.Proofs.Sh
def NetD.free (N:NetD):Bool:=N.arcs.all (fun a=>decide (a.cost=0)) && N.ends.all (fun a=>decide (a.cost=0))
theorem isFree {H:AH} {v:Value} {N:NetD} (h:A8v H v N) (hw:Wf H) (hl:N.arcs.length≤1048576) (hl2:N.ends.length≤1048576):Sh.Call Tryz.prog (knows 10) 46 [v] H (fun r H'=>r=.bool (NetD.free N)∧Kept H H'):=by
 obtain ⟨sg,ar,en,rfl,hsg,har,hen⟩:=h
 refine A3b rfl Tryz.func46 rfl (Nat.le_of_ble_eq_true rfl) ?_
 have hn:=A7n (P:=Tryz.prog) (H:=H) (t:=26) (vs:=[sg,.int .i64 N.states,ar,en]) A5x rfl (by simp [hsg.isCell,har.isCell,hen.isCell,show isCell (.int .i64 N.states)=true from rfl])
 have hO:=Obj.new (H:=H) 4 [sg,.int .i64 N.states,ar,en]
 have hk:Kept H (H.new 4 [sg,.int .i64 N.states,ar,en]).2:=Kept.new hw 4 _
 simp only [↓Sh.dn,sx,Nat.reduceBEq,reduceCtorEq,Nat.reduceEqDiff,↓Sh.wp_cond,hn]
 generalize (H.new 4 [sg,.int .i64 N.states,ar,en]).2=H1 at hO hk ⊢
 have c2:H1.cell ⟨H.next,2,some 0⟩=some ar:=hO.cell
 have c3:H1.cell ⟨H.next,3,some 0⟩=some en:=hO.cell
 have har1:=har.grow (hk.grow hw)
 have hen1:=hen.grow (hk.grow hw)
 have l2:=har1.len Tryz.underlying23 H1
 have l3:=hen1.len Tryz.underlying24 H1
 have hres:Tryz.f46.results.toList=[.tmp 2]:=rfl
 refine A1v N.arcs.length (fun i F H'=>H'=H1∧F.get 1=some (.pointer (some ⟨H.next,0,some 0⟩))∧F.get 3=some (.int .i64 (i:Int))∧(N.arcs.take i).all (fun a=>decide (a.cost=0))=true) (Nat.zero_le _) ⟨rfl,by simp only [↓Sh.dn,sx,Nat.reduceBEq,reduceCtorEq,Nat.reduceEqDiff,↓Sh.wp_cond],by simp only [↓Sh.dn,sx,Nat.reduceBEq,reduceCtorEq,Nat.reduceEqDiff,↓Sh.wp_cond]; rfl,rfl⟩ ?_
 rintro i F H' hi ⟨rfl,f1,f3,hall⟩ k
 by_cases hlt:i < N.arcs.length
 ·have hx:(N.arcs.map ArcD.cells)[i]?=some (N.arcs[i].cells):=by simp [hlt]
  obtain ⟨g,o,kk,hia,hc,hcc⟩:=har1.at Tryz.underlying23 A8k hx .i64
  have hcost:=hcc 4 _ rfl
  simp only [↓Sh.dn,sx,Nat.reduceBEq,reduceCtorEq,Nat.reduceEqDiff,↓Sh.wp_cond,f1,f3,c2,l2,hia,hcost,List.length_map,A6a,hlt,decide_true,forall_const,reduceCtorEq,false_implies,and_true,true_and,hres,resultsA,one]
  refine ⟨fun hne=>⟨?_,hk⟩,fun he=>k _ _ hlt ⟨rfl,by simp only [↓Sh.dn,sx,Nat.reduceBEq,reduceCtorEq,Nat.reduceEqDiff,↓Sh.wp_cond,f1],by simp only [↓Sh.dn,sx,Nat.reduceBEq,reduceCtorEq,Nat.reduceEqDiff,↓Sh.wp_cond,wrap_succ hlt hl],?_⟩⟩
  ·have : NetD.free N = false := by
     simp only [NetD.free, Bool.and_eq_false_iff, List.all_eq_false]
     exact .inl ⟨_, List.getElem_mem hlt, by simpa using hne⟩
   rw [this]
  ·rw [List.take_add_one,List.getElem?_eq_getElem hlt]
   simp only [Option.toList,List.all_append,hall,Bool.true_and,List.all_cons,List.all_nil,Bool.and_true]
   simpa using he
 ·have hin:i=N.arcs.length:=by omega
  subst hin
  rw [List.take_length] at hall
  simp only [↓Sh.dn,sx,Nat.reduceBEq,reduceCtorEq,Nat.reduceEqDiff,↓Sh.wp_cond,f1,f3,c2,l2,List.length_map,A6a,hlt,decide_false,forall_const,reduceCtorEq,false_implies,and_true,true_and]
  refine A1v N.ends.length (fun i F H''=>H''=H'∧F.get 1=some (.pointer (some ⟨H.next,0,some 0⟩))∧F.get 4=some (.int .i64 (i:Int))∧(N.ends.take i).all (fun a=>decide (a.cost=0))=true) (Nat.zero_le _) ⟨rfl,by simp only [↓Sh.dn,sx,Nat.reduceBEq,reduceCtorEq,Nat.reduceEqDiff,↓Sh.wp_cond,f1],by simp only [↓Sh.dn,sx,Nat.reduceBEq,reduceCtorEq,Nat.reduceEqDiff,↓Sh.wp_cond]; rfl,rfl⟩ ?_
  clear k
  rintro i F H'' hi ⟨rfl,f1,f4,hall2⟩ k
  by_cases hlt2:i < N.ends.length
  ·have hx:(N.ends.map EndD.cells)[i]?=some (N.ends[i].cells):=by simp [hlt2]
   obtain ⟨g,o,kk,hia,hc,hcc⟩:=hen1.at Tryz.underlying24 A5o hx .i64
   have hcost:=hcc 1 _ rfl
   simp only [↓Sh.dn,sx,Nat.reduceBEq,reduceCtorEq,Nat.reduceEqDiff,↓Sh.wp_cond,f1,f4,c3,l3,hia,hcost,List.length_map,A6a,hlt2,decide_true,forall_const,reduceCtorEq,false_implies,and_true,true_and,hres,resultsA,one]
   refine ⟨fun hne=>⟨?_,hk⟩,fun he=>k _ _ hlt2 ⟨rfl,by simp only [↓Sh.dn,sx,Nat.reduceBEq,reduceCtorEq,Nat.reduceEqDiff,↓Sh.wp_cond,f1],by simp only [↓Sh.dn,sx,Nat.reduceBEq,reduceCtorEq,Nat.reduceEqDiff,↓Sh.wp_cond,wrap_succ hlt2 hl2],?_⟩⟩
   ·have : NetD.free N = false := by
      simp only [NetD.free, Bool.and_eq_false_iff, List.all_eq_false]
      exact .inr ⟨_, List.getElem_mem hlt2, by simpa using hne⟩
    rw [this]
   ·rw [List.take_add_one,List.getElem?_eq_getElem hlt2]
    simp only [Option.toList,List.all_append,hall2,Bool.true_and,List.all_cons,List.all_nil,Bool.and_true]
    simpa using he
  ·have hin:i=N.ends.length:=by omega
   subst hin
   rw [List.take_length] at hall2
   simp only [↓Sh.dn,sx,Nat.reduceBEq,reduceCtorEq,Nat.reduceEqDiff,↓Sh.wp_cond,f1,f4,c3,l3,List.length_map,A6a,hlt2,decide_false,forall_const,reduceCtorEq,false_implies,and_true,true_and,hres,resultsA,one]
   refine ⟨?_,hk⟩
   rw [NetD.free,hall,hall2]
   rfl
end Go.Proofs.YtnoengaghabmjaaGreat
/- What is wrong with an acceptor, by the reference. -/
namespace Go.Proofs.YtnoengaghabmjaaGreat
open Go Go.Proofs Go.Proofs.Sh
end Go.Proofs.YtnoengaghabmjaaGreat
/- What a net is with which nothing is wrong. -/
namespace Go.Proofs.YtnoengaghabmjaaGreat
open Go Go.Proofs Go.Proofs.Sh
structure A2r (N:NetD):Prop where
 st1:1≤N.states
 st2:N.states≤3000
 ar:N.arcs.length≤60000
 en:N.ends.length≤60000
 sig:A0j N.sigma=0
 asc:Asc N.sigma
 sym:∀ x∈N.sigma,A8o x=true
 arc:∀ a∈N.arcs,0≤a.fr∧a.fr < N.states∧0≤a.to∧a.to < N.states∧(a.inn=⟨#[]⟩∨a.inn∈N.sigma)∧(a.out=⟨#[]⟩∨a.out∈N.sigma)
 fin:∀ e∈N.ends,0≤e.state∧e.state < N.states
theorem netOk {N:NetD} (h:A4f N=0):A2r N:=by
 unfold A4f at h
 split at h
 ·cases h
 rename_i h1
 split at h
 ·rename_i h2; exact absurd h h2
 rename_i h2
 split at h
 ·cases h
 rename_i h3
 split at h
 ·cases h
 rename_i h4
 split at h
 ·cases h
 rename_i h5
 simp only [ne_eq,Decidable.not_not] at h2
 simp only [A4k,Bool.or_eq_true,decide_eq_true_eq,not_or,Int.not_lt,Nat.not_lt] at h1 h3
 have sy:∀ x,A0i N x=false→x=⟨#[]⟩∨x∈N.sigma:=by
  intro x hx
  simp only [A0i,Bool.and_eq_false_iff,Bool.not_eq_false',decide_eq_true_eq] at hx
  rcases hx with h | h
  ·exact .inl h
  ·exact .inr (A4g.1 h)
 have hsym:∀ x∈N.sigma,A8o x=true:=by
  have:=h2
  unfold A0j at this
  split at this
  ·cases this
  split at this
  ·rename_i h6
   rw [Bool.and_eq_true] at h6
   exact List.all_eq_true.1 h6.1
  ·cases this
 refine ⟨h3,h1.1.1,h1.1.2,h1.2,h2,A61 h2,hsym,fun a ha=>?_,fun e he=>?_⟩
 ·have:¬(A3g N a=true):=fun hb=>h4 (List.any_eq_true.2 ⟨a,ha,hb⟩)
  simp only [A3g,Bool.or_eq_true,decide_eq_true_eq,not_or,Int.not_lt,Int.not_le,Bool.not_eq_true] at this
  obtain ⟨⟨⟨⟨⟨k1,k2⟩,k3⟩,k4⟩,k5⟩,k6⟩:=this
  exact ⟨k1,k2,k3,k4,sy _ k5,sy _ k6⟩
 ·have:¬(A3n N e=true):=fun hb=>h5 (List.any_eq_true.2 ⟨e,he,hb⟩)
  simp only [A3n,Bool.or_eq_true,decide_eq_true_eq,not_or,Int.not_lt,Int.not_le] at this
  exact this
end Go.Proofs.YtnoengaghabmjaaGreat
/- What is wrong with a relation, by both. -/
namespace Go.Proofs.YtnoengaghabmjaaGreat
open Go Go.Proofs Go.Proofs.Sh
def A9n (N:NetD):Int:=if A4f N≠0 then A4f N else if NetD.free N=true then 0 else 6
theorem B5p {N:NetD} (h:A9n N=0):A2r N∧A4f N=0∧NetD.free N=true:=by
 unfold A9n at h
 split at h
 ·rename_i h1; exact absurd h h1
 ·rename_i h1
  split at h
  ·rename_i h2
   exact ⟨netOk (by simpa using h1),by simpa using h1,h2⟩
  ·cases h
theorem A96 (N:NetD):A8t N 0=!NetD.free N:=by
 unfold A8t NetD.free
 rw [Bool.not_and,List.not_all_eq_any_not,List.not_all_eq_any_not]
 have e:∀ c:Int,(decide (c < 0) || decide (0 < c))=!decide (c=0):=fun c=>by
  by_cases h:c=0
  ·subst h; rfl
  ·rw [decide_eq_false h,Bool.not_false,Bool.or_eq_true,decide_eq_true_eq,decide_eq_true_eq]; omega
 simp only [e]
theorem A95 {H:AH} {v:Value} {N:NetD} (h:A8v H v N) (hsm:A5h N) (hw:Wf H):
  Sh.Call Tryz.prog (knows 10) 28 [v] H (fun r H'=>Kept H H'∧r=.int .i64 (A9n N)):=by
 refine A3b rfl Tryz.func28 rfl (Nat.le_of_ble_eq_true rfl) ?_
 have hres:Tryz.f28.results.toList=[.tmp 2]:=rfl
 obtain ⟨sg,ar,en,rfl,hsg,har,hen⟩:=h
 have hb1:=NetBox.of (N:=N) hw hsg har hen
 have hk1:Kept H (H.new 4 [sg,.int .i64 N.states,ar,en]).2:=Kept.new hw 4 _
 simp only [↓Sh.dn,sx,Nat.reduceBEq,reduceCtorEq,Nat.reduceEqDiff,A5q hsg.isCell har.isCell hen.isCell]
 generalize H.next=gg at hb1 ⊢
 generalize (H.new 4 [sg,.int .i64 N.states,ar,en]).2=H1 at hb1 hk1 ⊢
 simp only [↓Sh.dn,sx,Nat.reduceBEq,reduceCtorEq,Nat.reduceEqDiff,hb1.c0,hb1.c1,hb1.c2,hb1.c3,hb1.ca,A2a hb1,A1a hb1,A3a hb1,Option.map_some]
 obtain ⟨r,H2,hd,hk2,rfl⟩:=B54 hb1.netAt hsm hk1.wf
 refine ⟨_,_,hd,?_⟩
 have hb2:=hb1.kept hk1.wf hk2
 have hk12:=hk1.trans hk2
 by_cases hE:A4f N=0
 case neg=>simp only [↓Sh.dn,sx,Nat.reduceBEq,reduceCtorEq,Nat.reduceEqDiff,hE,decide_false,hres,A9n,hk12]
 simp only [↓Sh.dn,sx,Nat.reduceBEq,reduceCtorEq,Nat.reduceEqDiff,hE,decide_true,hb2.c0,hb2.c1,hb2.c2,hb2.c3,hb2.ca,A2a hb2,A1a hb2,A3a hb2,Option.map_some]
 obtain ⟨r,H4,hd4,hk4,rfl⟩:=priced (m:=0) hb2.netAt hsm hk12.wf
 refine ⟨_,_,hd4,?_⟩
 cases hp:NetD.free N with
 | true=>simp only [↓Sh.dn,sx,Nat.reduceBEq,reduceCtorEq,Nat.reduceEqDiff,hres,A9n,hE,hp,A96,hk12.trans hk4]
 | false=>simp only [↓Sh.dn,sx,Nat.reduceBEq,reduceCtorEq,Nat.reduceEqDiff,hres,A9n,hE,hp,A96,hk12.trans hk4]
theorem B7j {H:AH} {v:Value} {N:NetD} (h:A8v H v N) (hsm:A5h N) (hw:Wf H):
  Sh.Call Tryz.prog (knows 10) 29 [v] H (fun r H'=>Kept H H'∧r=.int .i64 (A9n N)):=by
 refine A3b rfl Tryz.func29 rfl (Nat.le_of_ble_eq_true rfl) ?_
 have hres:Tryz.f29.results.toList=[.tmp 2]:=rfl
 obtain ⟨sg,ar,en,rfl,hsg,har,hen⟩:=h
 have hb1:=NetBox.of (N:=N) hw hsg har hen
 have hk1:Kept H (H.new 4 [sg,.int .i64 N.states,ar,en]).2:=Kept.new hw 4 _
 simp only [↓Sh.dn,sx,Nat.reduceBEq,reduceCtorEq,Nat.reduceEqDiff,A5q hsg.isCell har.isCell hen.isCell]
 generalize H.next=gg at hb1 ⊢
 generalize (H.new 4 [sg,.int .i64 N.states,ar,en]).2=H1 at hb1 hk1 ⊢
 simp only [↓Sh.dn,sx,Nat.reduceBEq,reduceCtorEq,Nat.reduceEqDiff,hb1.c0,hb1.c1,hb1.c2,hb1.c3,hb1.ca,A2a hb1,A1a hb1,A3a hb1,Option.map_some]
 obtain ⟨r,H2,hd,hk2,rfl⟩:=B3s hb1.netAt hsm hk1.wf
 refine ⟨_,_,hd,?_⟩
 have hb2:=hb1.kept hk1.wf hk2
 have hk12:=hk1.trans hk2
 by_cases hE:A4f N=0
 case neg=>simp only [↓Sh.dn,sx,Nat.reduceBEq,reduceCtorEq,Nat.reduceEqDiff,hE,decide_false,hres,A9n,hk12]
 simp only [↓Sh.dn,sx,Nat.reduceBEq,reduceCtorEq,Nat.reduceEqDiff,hE,decide_true,hb2.c0,hb2.c1,hb2.c2,hb2.c3,hb2.ca,A2a hb2,A1a hb2,A3a hb2,Option.map_some]
 obtain ⟨r,H4,hd4,rfl,hk4⟩:=isFree hb2.netAt hk12.wf hsm.ar hsm.en
 refine ⟨_,_,hd4,?_⟩
 cases hp:NetD.free N with
 | true=>simp only [↓Sh.dn,sx,Nat.reduceBEq,reduceCtorEq,Nat.reduceEqDiff,hres,A9n,hE,hp,hk12.trans hk4]
 | false=>simp only [↓Sh.dn,sx,Nat.reduceBEq,reduceCtorEq,Nat.reduceEqDiff,hres,A9n,hE,hp,hk12.trans hk4]
end Go.Proofs.YtnoengaghabmjaaGreat
/- (*graph.Graph).Arc: an arc is noted. -/
namespace Go.Proofs.YtnoengaghabmjaaGreat
open Go Go.Proofs Go.Proofs.Sh
end Go.Proofs.YtnoengaghabmjaaGreat
/- (*graph.Graph).End: an end is noted. -/
namespace Go.Proofs.YtnoengaghabmjaaGreat
open Go Go.Proofs Go.Proofs.Sh
def A9t (n c x:Int):Int:=if n=0∨x < c then x else c
theorem graphEnd {H:AH} {g:Nat} {sv av ev cv:Value} {ends costs:List Int} {oe oc:Option Nat} {s:Nat} {x:Int}
  (hg:Arr H g 0 4 [sv,av,ev,cv]) (he:Buf H 1 ev (ends.map fun n=>[.int .i64 n]) oe) (hc:Buf H 1 cv (costs.map fun n=>[.int .i64 n]) oc)
  (hge:oe≠some g) (hgc:oc≠some g) (hec:∀ y,oe=some y→oc≠some y) (hs:s < ends.length) (hs':s < costs.length) (hw:Wf H)
  (h0:0≤ends[s]) (h1:ends[s]≤1048576):
  Sh.Call Tryz.prog (knows 10) 110 [.pointer (some ⟨g,0,some 0⟩),.int .i64 (s:Int),.int .i64 x] H (fun r H'=>Chg (fun y=>oe=some y∨oc=some y) H H'∧H'.next=H.next∧Buf H' 1 ev ((ends.set s (ends[s]+1)).map fun n=>[.int .i64 n]) oe∧Buf H' 1 cv ((costs.set s (A9t ends[s] costs[s] x)).map fun n=>[.int .i64 n]) oc):=by
 refine A3b rfl Tryz.func110 rfl (Nat.le_of_ble_eq_true rfl) ?_
 have hres:Tryz.f110.results.toList=[]:=rfl
 have hn:=hg.cell 2
 have hm:=hg.cell 3
 obtain ⟨q,o,k,hia,hcs,hcc⟩:=he.toSl.at Tryz.underlying88 A3i (i:=s) (x:=[.int .i64 ends[s]]) (by simp [hs]) .i64
 have hy:=hcc 0 _ rfl
 obtain ⟨q',o',k',hia',hcs',hcc'⟩:=hc.toSl.at Tryz.underlying88 A3i (i:=s) (x:=[.int .i64 costs[s]]) (by simp [hs']) .i64
 have hy':=hcc' 0 _ rfl
 simp only [Nat.add_zero] at hy hy'
 have wu:IntKind.wrap .i64 (ends[s]+1)=ends[s]+1:=by rw [wrap64 (by omega) (by omega)]
 have tl : ∀ H1, Chg (fun y => oc = some y) H H1 → H1.next = H.next → ∃ H2, H1.cell ⟨g, 2, some 0⟩ = some ev ∧ H1.cell ⟨q, o, some k⟩ = some (.int .i64 ends[s]) ∧
     H1.write ⟨q, o, some k⟩ [.int .i64 (ends[s] + 1)] = some H2 ∧ Buf H2 1 ev ((ends.set s (ends[s] + 1)).map fun n => [.int .i64 n]) oe ∧ Chg (fun y => oe = some y ∨ oc = some y) H H2 ∧ Chg (fun y => oe = some y) H1 H2 ∧ H2.next = H.next := by
   intro H1 hch hnx
   have he1 := he.chg hw hch fun y h1 h2 => hec y h1 h2
   obtain ⟨q1, o1, k1, hia1, hcs, hcc⟩ := he1.toSl.at Tryz.underlying88 A3i (i := s) (x := [.int .i64 ends[s]]) (by simp [hs]) .i64
   have hy := hcc 0 _ rfl
   simp only [Nat.add_zero] at hy
   obtain ⟨pe, H2, ia1, e1, b1, c1, n1⟩ := Buf.set (P := Tryz.prog) he1 hch.wf (i := s) (x := [.int .i64 (ends[s] + 1)]) (by simpa using hs) rfl
   have ia := ia1 Tryz.underlying88 A3i (j := .i64)
   rw [hia1] at ia
   injection ia with ia; injection ia with ia; injection ia with ia; subst ia
   rw [hia] at hia1
   injection hia1 with ib; injection ib with ib; injection ib with ib; rw [← ib] at hy e1
   have hg1 := hg.keep (hch.old g (hg.lt hw) hgc)
   exact ⟨H2, hg1.cell 2, hy, e1, by simpa only [List.map_set] using b1, (hch.weak fun _ h => Or.inr h).trans (c1.weak fun _ h => Or.inl h), c1, by rw [n1, hnx]⟩
 have st:∀ (H:AH) (a:Addr) (n:Int),A5j Tryz.prog 3 H (.int .i64 n) (.pointer (some a))=H.write a [.int .i64 n]:=fun H a n=>A8j A3i rfl
 have lastC:∀ H1 H2,Buf H1 1 cv ((costs.set s x).map fun n=>[.int .i64 n]) oc→Wf H1→Chg (fun y=>oe=some y) H1 H2→(ends[s]=0∨x < costs[s])→Buf H2 1 cv ((costs.set s (A9t ends[s] costs[s] x)).map fun n=>[.int .i64 n]) oc:=by
  intro H1 H2 hb hw1 hch h
  unfold A9t
  rw [if_pos h]
  exact hb.chg hw1 hch fun y h1 h2=>hec y h2 h1
 obtain ⟨pc,C1,ia2,f1,d1,g1,m1⟩:=Buf.set (P:=Tryz.prog) hc hw (i:=s) (x:=[.int .i64 x]) (by simpa using hs') rfl
 have ia:=ia2 Tryz.underlying88 A3i (j:=.i64)
 rw [hia'] at ia
 injection ia with ia; injection ia with ia; injection ia with ia; subst ia
 have d1':Buf C1 1 cv ((costs.set s x).map fun n=>[.int .i64 n]) oc:=by simpa only [List.map_set] using d1
 by_cases hz:ends[s]=0
 ·have d:decide (ends[s]=0)=true:=by simp [hz]
  obtain ⟨H2,j2,j3,j4,j5,j6,j7,j8⟩:=tl C1 g1 m1
  simp only [↓Sh.dn,sx,Nat.reduceBEq,reduceCtorEq,Nat.reduceEqDiff,hn,hm,hia,hy,hia',hy',d,st,f1,j2,j3,j4,wu,hres]
  exact ⟨j6,j8,j5,lastC _ _ d1' g1.wf j7 (Or.inl hz)⟩
 ·have d:decide (ends[s]=0)=false:=by simp [hz]
  by_cases hx:x < costs[s]
  ·have d':decide (x < costs[s])=true:=by simp [hx]
   obtain ⟨H2,j2,j3,j4,j5,j6,j7,j8⟩:=tl C1 g1 m1
   simp only [↓Sh.dn,sx,Nat.reduceBEq,reduceCtorEq,Nat.reduceEqDiff,hn,hm,hia,hy,hia',hy',d,d',st,f1,j2,j3,j4,wu,hres]
   exact ⟨j6,j8,j5,lastC _ _ d1' g1.wf j7 (Or.inr hx)⟩
  ·have d':decide (x < costs[s])=false:=by simp [hx]
   obtain ⟨H2,j2,j3,j4,j5,j6,j7,j8⟩:=tl H (Chg.refl hw) rfl
   simp only [↓Sh.dn,sx,Nat.reduceBEq,reduceCtorEq,Nat.reduceEqDiff,hn,hm,hia,hy,hia',hy',d,d',st,j2,j3,j4,wu,hres]
   refine ⟨j6,j8,j5,?_⟩
   have e:costs.set s (A9t ends[s] costs[s] x)=costs:=by
    unfold A9t
    rw [if_neg (by simp [hz,hx])]
    exact List.set_getElem_self hs'
   rw [e]; exact hc.chg hw j7 fun y h1 h2=>hec y h2 h1
end Go.Proofs.YtnoengaghabmjaaGreat
/- (*graph.Graph).Arc and End, of a graph that is being made. -/
namespace Go.Proofs.YtnoengaghabmjaaGreat
open Go Go.Proofs Go.Proofs.Sh
theorem GrB.arced {H H':AH} {base g:Nat} {sv av ev cv:Value} {os ot oe oc:Option Nat} {vals vals':List Value} {obs obs':List (Option Nat)} {sigma:List ByteArray} {rows rows':List (List (List Value))} {ends costs:List Int}
  (h:GrB H base g sv av ev cv os ot oe oc vals obs sigma rows ends costs) (hw:Wf H) (hc:Chg (JIn ot obs) H H') (hj:Jag H' av ot 4 vals' rows' obs') (hin:∀ y,JIn ot obs' y→JIn ot obs y∨H.next≤y):
  Chg (fun y=>base≤y) H H'∧Gr H' base g sigma rows' ends costs:=by
 have hg:=h.arr.lt hw
 refine ⟨hc.weak h.fj,sv,av,ev,cv,os,ot,oe,oc,vals',obs',?_⟩
 exact { h with
  arr:=h.arr.keep (hc.old g hg h.gj)
  sg:=h.sg.chg hw hc h.sj
  jag:=hj
  en:=h.en.chg hw hc h.je
  co:=h.co.chg hw hc h.jc
  fj:=fun y hy=>by
   rcases hin y hy with h1 | h1
   ·exact h.fj y h1
   ·have:=h.fg; omega
  gj:=fun hy=>by
   rcases hin g hy with h1 | h1
   ·exact h.gj h1
   ·omega
  sj:=fun y hy hy2=>by
   rcases hin y hy2 with h1 | h1
   ·exact h.sj y hy h1
   ·have:=h.sg.lt hw y hy; omega
  je:=fun y hy hy2=>by
   rcases hin y hy2 with h1 | h1
   ·exact h.je y hy h1
   ·have:=h.en.lt hw y hy; omega
  jc:=fun y hy hy2=>by
   rcases hin y hy2 with h1 | h1
   ·exact h.jc y hy h1
   ·have:=h.co.lt hw y hy; omega }
theorem grEnd {H:AH} {base g:Nat} {sigma:List ByteArray} {rows:List (List (List Value))} {ends costs:List Int} {s:Nat} {x:Int}
  (h:Gr H base g sigma rows ends costs) (hs:s < ends.length) (hs':s < costs.length) (hw:Wf H) (h0:0≤ends[s]) (h1:ends[s]≤1048576):
  Sh.Call Tryz.prog (knows 10) 110 [.pointer (some ⟨g,0,some 0⟩),.int .i64 (s:Int),.int .i64 x] H (fun _ H'=>Chg (fun y=>base≤y) H H'∧Gr H' base g sigma rows (ends.set s (ends[s]+1)) (costs.set s (A9t ends[s] costs[s] x))):=by
 obtain ⟨sv,av,ev,cv,os,ot,oe,oc,vals,obs,h⟩:=h
 refine (graphEnd h.arr h.en h.co h.ge h.gc h.ec hs hs' hw h0 h1).mono ?_
 rintro _ H' ⟨hc,hn,he,hcc⟩
 refine ⟨hc.weak fun y hy=>?_,sv,av,ev,cv,os,ot,oe,oc,vals,obs,{ h with arr:=h.arr.keep (hc.old g (h.arr.lt hw) ?_),sg:=h.sg.chg hw hc ?_,jag:=h.jag.chg hw hc ?_,en:=he,co:=hcc }⟩
 ·rcases hy with hy | hy
  ·exact h.fe y hy
  ·exact h.fc y hy
 ·rintro (hy | hy)
  ·exact h.ge hy
  ·exact h.gc hy
 ·rintro y hy (hy2 | hy2)
  ·exact h.se y hy hy2
  ·exact h.sc y hy hy2
 ·rintro y hy (hy2 | hy2)
  ·exact h.je y hy2 hy
  ·exact h.jc y hy2 hy
end Go.Proofs.YtnoengaghabmjaaGreat
/- slices.Clone. -/
namespace Go.Proofs.YtnoengaghabmjaaGreat
open Go Go.Proofs Go.Proofs.Sh
theorem B2s {H:AH} {v:Value} {l:List (List Value)} (hs:Sl H v 1 l) (hl:l.length≤1073741823) (hw:Wf H):
  Sh.Call Tryz.prog (knows 10) 96 [v] H (fun r H'=>Kept H H'∧∃ b,Buf H' 1 r l b∧∀ g,b=some g→H.next≤g):=by
 refine A3b rfl Tryz.func96 rfl (Nat.le_of_ble_eq_true rfl) ?_
 have hres:Tryz.f96.results.toList=[.tmp 2]:=rfl
 obtain ⟨a,cap,rfl,h2,h3,h4⟩:=id hs
 cases a with
 | none=>
  obtain ⟨rfl,rfl⟩:=h3 rfl
  simp only [↓Sh.dn,sx,Nat.reduceBEq,reduceCtorEq,Nat.reduceEqDiff,List.length_nil,Option.isNone_none,hres]
  exact ⟨Kept.refl hw,none,.void none,fun g h=>by cases h⟩
 | some a=>
  have hs1:=hs.grow (HGrow.new hw 1 [])
  have hk1:Kept H (H.new 1 []).2:=Kept.new hw 1 []
  obtain ⟨v',H',b',e1,e2,e3,e4⟩:=(Buf.void (H:=(H.new 1 []).2) (s:=1) (some ⟨H.next,0,some 0⟩)).append hk1.wf h2
  have happ:=app_22 (base:=some ⟨H.next,0,some 0⟩) (len:=0) (cap:=0) (hs1.srcKind Tryz.underlying22) hs1.newCells (by omega)
  have hk2:Kept (H.new 1 []).2 H':=e3.kept fun g hg h=>by cases h
  simp only [↓Sh.dn,sx,Nat.reduceBEq,reduceCtorEq,Nat.reduceEqDiff,Option.isNone_some,happ,e1,hres]
  refine ⟨hk1.trans hk2,b',by simpa using e2,fun g hg=>?_⟩
  rcases e4 with rfl | ⟨rfl,_⟩
  ·cases hg
  ·cases hg; exact Nat.le_succ _
theorem cloneStr {H:AH} {v:Value} {l:List (List Value)} (hs:Sl H v 1 l) (hl:l.length≤1048576) (hw:Wf H):
  Sh.Call Tryz.prog (knows 10) 96 [v] H (fun r H'=>Kept H H'∧∃ b,Buf H' 1 r l b∧∀ g,b=some g→H.next≤g):=B2s hs (Nat.le_trans hl (by decide)) hw
end Go.Proofs.YtnoengaghabmjaaGreat
/- graph.New. -/
namespace Go.Proofs.YtnoengaghabmjaaGreat
open Go Go.Proofs Go.Proofs.Sh
theorem objNew {H:AH} {s:Nat} {vals:List Value} (h:veqs vals vals=true):∀ x,(H.new s vals).2.objs.get H.next=some x→B8f x x=true:=by
 intro x hx
 have:=Obj.new (H:=H) s vals
 unfold Obj at this
 rw [this] at hx
 injection hx with hx
 subst hx
 simp [B8f,rowEq,h]
theorem B94 {H:AH} {n:Nat} {z:Value} (hz:veq z z=true):∀ x,(H.new 1 (List.replicate n z)).2.objs.get H.next=some x→B8f x x=true:=
 objNew (A86 fun x hx=>by rw [(List.mem_replicate.1 hx).2]; exact hz)
theorem graphNew {H:AH} {v:Value} {l:List ByteArray} {n:Nat} (hs:Sl H v 1 (l.map A9a)) (hl:l.length≤1048576) (hn:n≤1048576) (hw:Wf H):
  Sh.Call Tryz.prog (knows 10) 43 [v,.int .i64 (n:Int)] H (fun r H'=>Kept H H'∧∃ g,r=.pointer (some ⟨g,0,some 0⟩)∧Gr H' H.next g l (List.replicate n []) (List.replicate n 0) (List.replicate n 0)):=by
 refine A3b rfl Tryz.func43 rfl (Nat.le_of_ble_eq_true rfl) ?_
 have hres:Tryz.f43.results.toList=[.tmp 4]:=rfl
 have m1:=mk_123 (H:=H) (l:=n) (c:=n) (Nat.le_refl _) (by omega)
 obtain ⟨K1,hK1⟩:∃ K,(H.new 1 (List.replicate n (.slice none 0 0))).2=K:=⟨_,rfl⟩
 have k1:=Kept.new hw 1 (List.replicate n (.slice none 0 0))
 have jg:=Jag.make hw 4 (n:=n) (by omega)
 rw [hK1] at m1 k1 jg
 have m2:=mk_88 (H:=K1) (l:=n) (c:=n) (Nat.le_refl _) (by omega)
 have k2:=Kept.new k1.wf 1 (List.replicate n (.int .i64 0))
 have f2:=Buf.fill k1.wf (.int .i64 0) (c:=n) (by omega)
 obtain ⟨K2,hK2⟩:∃ K,(K1.new 1 (List.replicate n (.int .i64 0))).2=K:=⟨_,rfl⟩
 rw [hK2] at m2 k2 f2
 have m3:=mk_88 (H:=K2) (l:=n) (c:=n) (Nat.le_refl _) (by omega)
 have k3:=Kept.new k2.wf 1 (List.replicate n (.int .i64 0))
 have f3:=Buf.fill k2.wf (.int .i64 0) (c:=n) (by omega)
 obtain ⟨K3,hK3⟩:∃ K,(K2.new 1 (List.replicate n (.int .i64 0))).2=K:=⟨_,rfl⟩
 rw [hK3] at m3 k3 f3
 have x1:H.next < K1.next:=by rw [← hK1]; exact Nat.lt_succ_self _
 have x2:K1.next < K2.next:=by rw [← hK2]; exact Nat.lt_succ_self _
 have x3:K2.next < K3.next:=by rw [← hK3]; exact Nat.lt_succ_self _
 have k123:=(k1.trans k2).trans k3
 obtain ⟨r,H1,hd,hk,b,hb,hf⟩:=cloneStr (hs.grow (k123.grow hw)) (by simpa using hl) k123.wf
 have o1:=B94 (H:=H) (n:=n) (z:=.slice none 0 0) rfl
 have o2:=B94 (H:=K1) (n:=n) (z:=.int .i64 0) A2i
 have o3:=B94 (H:=K2) (n:=n) (z:=.int .i64 0) A2i
 rw [hK1] at o1; rw [hK2] at o2; rw [hK3] at o3
 simp only [↓Sh.wp_seq]
 simp only [↓Sh.dn,sx,Nat.reduceBEq,reduceCtorEq,Nat.reduceEqDiff]
 refine A74 (fl:=[(0,true),(2,true),(3,false),(4,true),(5,false),(6,true),(7,false),(1,false),(8,true),(9,false),(10,true)]) (by kernel_rfl) (by kernel_rfl) hw ?_
 simp only [↓Sh.dn,sx,Nat.reduceBEq,reduceCtorEq,Nat.reduceEqDiff,wpg,B0a,isEff,A0d,isRead,A3l,A2i,A8l,A1j,A0h,forall_eq,forall_eq',m1,m2,m3,k1.wf,k2.wf,k3.wf]
 refine ⟨o1,o2,o3,_,_,hd,hk.wf,hk.grow k123.wf,?_⟩
 have nw:∀ (H:AH) (a b c d:Value),isCell a=true→isCell b=true→isCell c=true→isCell d=true→anew Tryz.prog 125 H (.agg #[a,b,c,d])=some (.pointer (some ⟨H.next,0,some 0⟩),(H.new 4 [a,b,c,d]).2):=
  fun H a b c d ha hb hc hd=>A7n B11 rfl (by simp [ha,hb,hc,hd])
 have bl:∀ a b c d:Value,isCell a=true→isCell b=true→isCell c=true→isCell d=true→A2q Tryz.prog 125 [(0,a),(1,b),(2,c),(3,d)]=some (.agg #[a,b,c,d]):=by
  intro a b c d ha hb hc hd
  have va:∀ xs:Array Value,A8a (.agg xs)=xs.toList:=fun _=>rfl
  refine A6p (pl:=[(0,1),(1,1),(2,1),(3,1)]) Tryz.underlying125 B3g (by kernel_rfl) ?_
  simp [A3y,A4d ha,A4d hb,A4d hc,A4d hd,va,ha,hb,hc,hd,setCells,A4a,A6b]
 have cr:=hb.isCell
 have q:=nw H1 r (.slice (some ⟨H.next,0,some 0⟩) n n) (.slice (some ⟨K1.next,0,some 0⟩) n n) (.slice (some ⟨K2.next,0,some 0⟩) n n) cr rfl rfl rfl
 have oq:=Obj.new (H:=H1) 4 [r,.slice (some ⟨H.next,0,some 0⟩) n n,.slice (some ⟨K1.next,0,some 0⟩) n n,.slice (some ⟨K2.next,0,some 0⟩) n n]
 have ee:veqs [r,.slice (some ⟨H.next,0,some 0⟩) n n,.slice (some ⟨K1.next,0,some 0⟩) n n,.slice (some ⟨K2.next,0,some 0⟩) n n] [r,.slice (some ⟨H.next,0,some 0⟩) n n,.slice (some ⟨K1.next,0,some 0⟩) n n,.slice (some ⟨K2.next,0,some 0⟩) n n]=true:=by
  refine A86 fun x hx=>?_
  simp only [List.mem_cons,List.not_mem_nil,or_false] at hx
  rcases hx with rfl | rfl | rfl | rfl
  ·exact hb.toSl.veq
  ·exact A4j
  ·exact A4j
  ·exact A4j
 have o4:=objNew (H:=H1) (s:=4) ee
 have k4:=Kept.new hk.wf 4 [r,.slice (some ⟨H.next,0,some 0⟩) n n,.slice (some ⟨K1.next,0,some 0⟩) n n,.slice (some ⟨K2.next,0,some 0⟩) n n]
 have bq:=bl r (.slice (some ⟨H.next,0,some 0⟩) n n) (.slice (some ⟨K1.next,0,some 0⟩) n n) (.slice (some ⟨K2.next,0,some 0⟩) n n) cr rfl rfl rfl
 simp only [↓Sh.dn,sx,Nat.reduceBEq,reduceCtorEq,Nat.reduceEqDiff,wpg,B0a,isEff,A0d,isRead,A3l,A2i,A8l,A1j,A0h,forall_eq,forall_eq',bq,q,hres]
 have hbs:∀ g,b=some g→K3.next≤g:=hf
 have if1:∀ {m y:Nat},(if n=0 then none else some m)=some y→y=m:=by
  intro m y h
  by_cases hn0:n=0
  ·rw [if_pos hn0] at h; cases h
  ·rw [if_neg hn0] at h; exact (Option.some.inj h).symm
 have jin:∀ y,JIn (if n=0 then none else some H.next) (List.replicate n none) y→y=H.next:=by
  rintro y (h | ⟨i,h⟩)
  ·exact if1 h
  ·rw [List.getElem?_replicate] at h
   split at h <;> cases h
 have hn:=hk.next
 have c1:=(((jg.kept k1.wf k2).kept k2.wf k3).kept k3.wf hk).kept hk.wf k4
 have c2:=((f2.kept k2.wf k3).kept k3.wf hk).kept hk.wf k4
 have c3:=(f3.kept k3.wf hk).kept hk.wf k4
 have rp:∀ m:Int,(List.replicate n m).map intC=List.replicate n [.int .i64 m]:=fun m=>by simp [intC]
 have hlt:=fun y (h:b=some y)=>hb.lt hk.wf y h
 refine ⟨o4,k123.trans (hk.trans k4),_,rfl,_,_,_,_,b,_,_,_,_,_,⟨oq.arr,hb.kept hk.wf k4,c1,by rw [rp]; exact c2,by rw [rp]; exact c3,?_,?_,?_,?_,?_,?_,?_,?_,?_,?_,?_,?_,?_,?_,?_⟩⟩
 ·omega
 ·intro y h; have:=hbs y h; omega
 ·intro y h; rw [jin y h]; exact Nat.le_refl _
 ·intro y h; rw [if1 h]; omega
 ·intro y h; rw [if1 h]; omega
 ·intro h; have:=hlt _ h; omega
 ·intro h; have:=jin _ h; omega
 ·intro h; have:=if1 h; omega
 ·intro h; have:=if1 h; omega
 ·intro y h h2; have:=hbs y h; have:=jin y h2; omega
 ·intro y h h2; have:=hbs y h; have:=if1 h2; omega
 ·intro y h h2; have:=hbs y h; have:=if1 h2; omega
 ·intro y h h2; have:=if1 h; have:=jin y h2; omega
 ·intro y h h2; have:=if1 h; have:=jin y h2; omega
 ·intro y h h2; have:=if1 h; have:=if1 h2; omega
end Go.Proofs.YtnoengaghabmjaaGreat
/- The number of a symbol; a word as numbers. -/
namespace Go.Proofs.YtnoengaghabmjaaGreat
open Go Go.Proofs Go.Proofs.Sh
theorem place {H:AH} {v:Value} {x:ByteArray} {l:List ByteArray} (hs:Sl H v 1 (l.map A9a)) (ha:Asc l) (hl:l.length≤1048576):
  Sh.Call Tryz.prog (knows 10) 109 [v,.string x] H (fun r H'=>H'=H∧r=.int .i64 (A6k l x)):=by
 refine A3b rfl Tryz.func109 rfl (Nat.le_of_ble_eq_true rfl) ?_
 have hres:Tryz.f109.results.toList=[.tmp 4]:=rfl
 obtain ⟨r,H1,hd,rfl,k,rfl,_,hk⟩:=A33 (x:=x) hs ha hl
 simp only [↓Sh.dn,sx,Nat.reduceBEq,reduceCtorEq,Nat.reduceEqDiff]
 refine ⟨_,_,hd,?_⟩
 cases hin:A8m l x with
 | true=>
  have:=A22 ha (hk.2 (A4g.1 hin))
  simp only [↓Sh.dn,sx,Nat.reduceBEq,reduceCtorEq,Nat.reduceEqDiff,hres,this]
 | false=>
  have:=B3b (l:=l) (x:=x) (fun h=>by rw [A4g.2 h] at hin; cases hin)
  simp only [↓Sh.dn,sx,Nat.reduceBEq,reduceCtorEq,Nat.reduceEqDiff,hres,this]
theorem A67 {l:List ByteArray} {x:ByteArray} (ha:Asc l):decide (A6k l x < 0)=!A8m l x:=by
 cases hin:A8m l x with
 | true=>
  obtain ⟨k,hk⟩:=List.mem_iff_getElem?.1 (A4g.1 hin)
  rw [A22 ha hk]; simp
 | false=>
  rw [B3b (fun h=>by rw [A4g.2 h] at hin; cases hin)]; rfl
def B1y (l:List ByteArray) (s:ByteArray):List Value:=[.int .i64 (A6k l s)]
theorem B5q {H:AH} {v u:Value} {l w:List ByteArray} (hs:Sl H v 1 (l.map A9a)) (ha:Asc l) (hl:l.length≤1048576) (hu:Sl H u 1 (w.map A9a)) (hlw:w.length≤1048576) (hw:Wf H):
  Sh.Call Tryz.prog (knows 10) 63 [v,u] H (fun r H'=>Kept H H'∧∃ z,r=.tuple #[z,.bool (w.all (A8m l))]∧(w.all (A8m l)=true→∃ b,Buf H' 1 z (w.map (B1y l)) b∧∀ g,b=some g→H.next≤g)):=by
 refine A3b rfl Tryz.func63 rfl (Nat.le_of_ble_eq_true rfl) ?_
 have hres:Tryz.f63.results.toList=[.tmp 4,.tmp 5]:=rfl
 have hlen:=hu.len Tryz.underlying22
 rw [List.length_map] at hlen
 have hmk:=mk_88 (H:=H) (l:=0) (c:=w.length) (Nat.zero_le _) (by omega)
 have hk1:Kept H (H.new 1 (List.replicate w.length (.int .i64 0))).2:=Kept.new hw 1 _
 have hb1:=Buf.room hw (.int .i64 0) (c:=w.length) (by omega)
 have e0:((0:Nat):Int)=0:=rfl
 rw [e0] at hmk
 simp only [↓Sh.dn,sx,Nat.reduceBEq,reduceCtorEq,Nat.reduceEqDiff,hlen,hmk]
 have hfar:∀ g,(if w.length=0 then none else some H.next)=some g→H.next≤g:=by
  intro g h
  split at h
  ·cases h
  ·injection h with h; omega
 generalize (H.new 1 (List.replicate w.length (.int .i64 0))).2=H1 at hk1 hb1 ⊢
 refine A8h w.length 15 (List.range' 15 14++[6,8,9]) (fun i F H'=>Kept H H'∧(w.take i).all (A8m l)=true∧∃ z b,F.get 6=some z∧Buf H' 1 z ((w.take i).map (B1y l)) b∧∀ g,b=some g→H.next≤g) (by simp only [↓Sh.dn,sx,Nat.reduceBEq,reduceCtorEq,Nat.reduceEqDiff]) ⟨hk1,rfl,.slice (some ⟨H.next,0,some 0⟩) 0 w.length,_,by simp only [↓Sh.dn,sx,Nat.reduceBEq,reduceCtorEq,Nat.reduceEqDiff],by simpa using hb1,hfar⟩ ?_ ?_
 ·rintro i F H' hlt hF f15 ⟨hk,hall,z,b,f6,hb,hbf⟩ k
  have f0:=hF 0 rfl
  have f13:=hF 13 rfl
  have f14:=hF 14 rfl
  simp only [↓Sh.dn,sx,Nat.reduceBEq,reduceCtorEq,Nat.reduceEqDiff] at f0 f13 f14
  have hs':=hs.grow (hk.grow hw)
  have hu':=hu.grow (hk.grow hw)
  obtain ⟨g,o,kk,hia,hc,hcc⟩:=hu'.at Tryz.underlying22 A0m (i:=i) (x:=A9a w[i]) (by simp [hlt]) .i64
  have hy:=hcc 0 _ rfl
  simp only [Nat.add_zero] at hy
  have htake:w.take (i+1)=w.take i++[w[i]]:=by rw [List.take_add_one,List.getElem?_eq_getElem hlt]; rfl
  obtain ⟨r,H2,hd,rfl,rfl⟩:=place (x:=w[i]) hs' ha hl
  simp only [↓Sh.dn,sx,Nat.reduceBEq,reduceCtorEq,Nat.reduceEqDiff,f0,f13,f14,f15,A6a,hlt,decide_true,hia,hy]
  refine ⟨_,_,hd,?_⟩
  cases hin:A8m l w[i] with
  | false=>
   have hno:w.all (A8m l)=false:=List.all_eq_false.2 ⟨_,List.getElem_mem hlt,by rw [hin]; simp⟩
   simp only [↓Sh.dn,sx,Nat.reduceBEq,reduceCtorEq,Nat.reduceEqDiff,A67 ha,hin,hres,hno]
   exact ⟨hk,_,rfl⟩
  | true=>
   obtain ⟨a,cap,rfl⟩:=hb.shape
   have hk3:=hk.news 1 [.int .i64 (A6k l w[i])]
   have hb3:=hb.kept hk.wf (Kept.new hk.wf 1 [.int .i64 (A6k l w[i])])
   have hbld:=B0q (H:=H2) (x:=.int .i64 (A6k l w[i])) rfl rfl
   have hnew:Sl (H2.new 1 [.int .i64 (A6k l w[i])]).2 (.slice (some ⟨H2.next,0,some 0⟩) 1 1) 1 [[.int .i64 (A6k l w[i])]]:=
    (Buf.fresh (H:=H2) (s:=1) (xs:=[[.int .i64 (A6k l w[i])]]) hk.wf (by simp) (by simp) 1 rfl).toSl
   have happ:=app_88 (H:=(H2.new 1 [.int .i64 (A6k l w[i])]).2) (base:=a) (len:=((w.take i).map (B1y l)).length) (cap:=cap) (hnew.srcKind Tryz.underlying88) hnew.newCells (by simp; omega)
   obtain ⟨z',H4,b',e1,e2,e3,e4⟩:=hb3.append hk3.wf (xs:=[[.int .i64 (A6k l w[i])]]) (by simp)
   rw [e1] at happ
   have hk4 : Kept H H4 := ⟨fun y hy => by
       rw [e3.old y (Nat.lt_of_lt_of_le hy hk3.next) (fun hyb => by have := hbf y hyb; omega)]
       exact hk3.old y hy, Nat.le_trans hk3.next e3.next, e3.wf⟩
   simp only [↓Sh.dn,sx,Nat.reduceBEq,reduceCtorEq,Nat.reduceEqDiff,A67 ha,hin,f6,f15,hbld,A8a,happ,wrap_succ hlt hlw]
   refine k _ _ (by repeat (first | refine Same.put ?_ rfl | exact Same.rfl' _)) (by simp only [↓Sh.dn,sx,Nat.reduceBEq,reduceCtorEq,Nat.reduceEqDiff]) ⟨hk4,?_,z',b',by simp only [↓Sh.dn,sx,Nat.reduceBEq,reduceCtorEq,Nat.reduceEqDiff],?_,fun g hg=>?_⟩
   ·rw [htake,List.all_append,hall]; simp [hin]
   ·rw [htake,List.map_append]; exact e2
   ·rcases e4 with h4 | ⟨h4,_⟩
    ·exact hbf g (by rw [← h4,hg])
    ·rw [h4] at hg; injection hg with hg
     have:=hk3.next
     omega
 ·rintro F H' hF f15 ⟨hk,hall,z,b,f6,hb,hbf⟩
  have f14:=hF 14 rfl
  simp only [↓Sh.dn,sx,Nat.reduceBEq,reduceCtorEq,Nat.reduceEqDiff] at f14
  rw [List.take_length] at hall hb
  simp only [↓Sh.dn,sx,Nat.reduceBEq,reduceCtorEq,Nat.reduceEqDiff,f14,f15,f6,A6a,Nat.lt_irrefl,decide_false,hres,hall]
  exact ⟨hk,z,rfl,b,hb,hbf⟩
end Go.Proofs.YtnoengaghabmjaaGreat
/- graph.Of: the graph of a net. -/
namespace Go.Proofs.YtnoengaghabmjaaGreat
open Go Go.Proofs Go.Proofs.Sh
theorem graphOf {H:AH} {v:Value} {N:NetD} (h:A8v H v N) (hok:A2r N) (hsm:A5h N) (hw:Wf H):
  Sh.Call Tryz.prog (knows 10) 64 [v] H (fun r H'=>Kept H H'∧∃ g,r=.pointer (some ⟨g,0,some 0⟩)∧∃ base,H.next≤base∧Gr H' base g N.sigma (A52 N N.arcs) (A2m N N.ends) (A4m N N.ends)):=by
 refine A3b rfl Tryz.func64 rfl (Nat.le_of_ble_eq_true rfl) ?_
 have hres:Tryz.f64.results.toList=[.tmp 2]:=rfl
 obtain ⟨sg,ar,en,rfl,hsg,har,hen⟩:=h
 have hb1:=NetBox.of (N:=N) hw hsg har hen
 have hk1:Kept H (H.new 4 [sg,.int .i64 N.states,ar,en]).2:=Kept.new hw 4 _
 have h1:=hok.st1
 have h2:=hok.st2
 obtain ⟨n,hn⟩:∃ n:Nat,N.states=(n:Int):=⟨N.states.toNat,by omega⟩
 have hnn:N.states.toNat=n:=by omega
 simp only [↓Sh.dn,sx,Nat.reduceBEq,reduceCtorEq,Nat.reduceEqDiff,A5q hsg.isCell har.isCell hen.isCell]
 have hnx:H.next < (H.new 4 [sg,.int .i64 N.states,ar,en]).2.next:=Nat.lt_succ_self _
 generalize H.next=gg at hb1 hnx ⊢
 generalize (H.new 4 [sg,.int .i64 N.states,ar,en]).2=H1 at hb1 hk1 hnx ⊢
 obtain ⟨r,H2,hd2,hk2,g,rfl,hgr⟩:=graphNew (n:=n) hb1.hsg (by simpa using hsm.sg) (by omega) hk1.wf
 simp only [↓Sh.dn,sx,Nat.reduceBEq,reduceCtorEq,Nat.reduceEqDiff,hb1.c0,hb1.c1,hb1.c2,hb1.c3,hb1.ca,A2a hb1,A1a hb1,A3a hb1,Option.map_some,hn]
 refine ⟨_,_,hd2,?_⟩
 have hb2:=hb1.kept hk1.wf hk2
 simp only [↓Sh.dn,sx,Nat.reduceBEq,reduceCtorEq,Nat.reduceEqDiff,hb2.c0,hb2.c1,hb2.c2,hb2.c3,hb2.ca,A2a hb2,A1a hb2,A3a hb2,Option.map_some]
 have hz:∀ f:List Int→Int,f []=0→(rowsOf EndD.state EndD.cost N.states.toNat []).map f=List.replicate n 0:=by
  intro f hf
  rw [A7x,hnn,List.map_replicate,hf]
 refine A8h N.arcs.length 16 (List.range' 16 37++[5]) (fun i F H'=>Kept H1 H'∧Gr H' H1.next g N.sigma (A52 N (N.arcs.take i)) (A2m N []) (A4m N [])) (by simp only [↓Sh.dn,sx,Nat.reduceBEq,reduceCtorEq,Nat.reduceEqDiff]) ⟨hk2,by
  rw [List.take_zero]; unfold A52 A2m A4m; rw [A7x,hz _ rfl,hz _ rfl,hnn]; exact hgr⟩ ?_ ?_
 ·rintro i F H' hlt hF f16 ⟨hk,hg⟩ k
  have f1:=hF 1 rfl
  have f3:=hF 3 rfl
  have f14:=hF 14 rfl
  have f15:=hF 15 rfl
  simp only [↓Sh.dn,sx,Nat.reduceBEq,reduceCtorEq,Nat.reduceEqDiff] at f1 f3 f14 f15
  have hb':=hb1.kept hk1.wf hk
  obtain ⟨q,o,kk,hia,hc,hcc⟩:=hb'.har.at Tryz.underlying23 A8k (i:=i) (x:=N.arcs[i].cells) (by simp [hlt]) .i64
  clear hcc
  have htake:N.arcs.take (i+1)=N.arcs.take i++[N.arcs[i]]:=by rw [List.take_add_one,List.getElem?_eq_getElem hlt]; rfl
  obtain ⟨k0,k1,k2,k3,k4,k5⟩:=hok.arc _ (List.getElem_mem hlt)
  have hb3:=hb'.new hk.wf 5 (N.arcs[i].cells)
  have hk3:=hk.news 5 (N.arcs[i].cells)
  generalize N.arcs[i]=a at hb3 hk3 hc htake k0 k1 k2 k3 k4 k5
  obtain ⟨s,hs⟩:∃ s:Nat,a.fr=(s:Int):=⟨a.fr.toNat,by omega⟩
  have hsn:s < N.states.toNat:=by omega
  obtain ⟨r1,K1,hd1,rfl,rfl⟩:=place (x:=a.inn) hb3.hsg hok.asc hsm.sg
  obtain ⟨r2,K2,hd2,rfl,rfl⟩:=place (x:=a.out) hb3.hsg hok.asc hsm.sg
  have hrow:=A7g (key:=ArcD.fr) (f:=B6s N.sigma) (l:=N.arcs.take i) hsn
  have hrl:=A9y hrow
  have hsmA:=hsm.ar
  have htl:(N.arcs.take i).length≤1048576:=by rw [List.length_take]; omega
  obtain ⟨sv,av,ev,cv,os,ot,oe,oc,vals,obs,hG0⟩:=hg
  have hG:=hG0.chg hk.wf ((Kept.new hk.wf 5 a.cells).chg (X:=none')) fun _ _ h=>h
  have hnj:¬JIn ot obs H'.next:=fun h=>by have:=hG0.jag.lt hk.wf _ h; omega
  have hn:=hG.arr.cell 1
  obtain ⟨ba,cap,w',H4,H5,o',p,e1,e2,e3,e4,e5,e6,e7,e8,e9⟩:=hG.jag.pushAt Tryz.underlying123 A93 hk3.wf hrow (x:=B6s N.sigma a) rfl
  rw [← hs] at e2
  have bl:=bld_100 (v0:=.int .i64 a.to) (v1:=.int .i64 (A6k N.sigma a.inn)) (v2:=.int .i64 (A6k N.sigma a.out)) (v3:=.int .i64 a.cost) rfl rfl rfl rfl
  have hbs:=B63 (H:=(H'.new 5 a.cells).2) (x:=.agg (B6s N.sigma a).toArray) rfl rfl
  have ha:=app1_126 (H:=(H'.new 5 a.cells).2) (base:=ba) (len:=_) (cap:=cap) (x:=B6s N.sigma a) rfl (Nat.le_trans hrl (by omega))
  rw [e1] at ha
  have hn4:=(hG.arr.keep (e7.old g (hG.arr.lt hk3.wf) hG.gj)).cell 1
  have c4:=((Obj.new (H:=H') 5 a.cells).arr.keep (e7.old H'.next (Nat.lt_succ_self _) hnj)).cell 0
  have c4':(a.cells)[0]?=some (.int .i64 a.fr):=rfl
  rw [c4'] at c4
  have st:A5j Tryz.prog 126 H4 w' (.pointer (some p))=some H5:=by rw [A8j A93 e8,e4]
  have va:∀ xs:Array Value,A8a (.agg xs)=xs.toList:=fun _=>rfl
  have hav:=hG.jag.top.veq
  simp only [va] at hbs
  obtain ⟨z1,z2⟩:=GrB.arced hG hk3.wf e6 e5 e9
  simp only [↓Sh.dn,sx,Nat.reduceBEq,reduceCtorEq,Nat.reduceEqDiff,hb'.c0,hb'.c1,hb'.c2,hb'.c3,hb'.ca,A2a hb',A1a hb',A3a hb',A3c,A5c,A7c,A6e,A4e,A5b,A4b,A4c,A8c,A6c,arc0,arc1,arc2,arc3,arc4,end0,end1,f1,f3,f14,f15,f16,Option.map_some,A6a,hlt,decide_true,hia,hc]
  refine B6r (fl:=[(0,[]),(1,[]),(2,[]),(3,[]),(4,[]),(5,[]),(6,[]),(7,[]),(8,[]),(9,[]),(10,[]),(11,[]),(12,[]),(13,[]),(14,[]),(15,[]),(16,[]),(17,[]),(18,[]),(19,[]),(21,[]),(22,[]),(23,[]),(24,[]),(26,[]),(27,[]),(20,[27,24,22,15,13,11,9,5,3]),(25,[27,15,13,11,9,5,3]),(28,[]),(29,[]),(30,[5,3]),(31,[]),(32,[])]) (by kernel_rfl) (by kernel_rfl) (by kernel_rfl) ?_
  simp only [↓Sh.dn,sx,Nat.reduceBEq,reduceCtorEq,Nat.reduceEqDiff,wpr,again,A0d,A3l,A2i,A8l,A1j,A0h,A4j,forall_eq,forall_eq',hb3.c0,hb3.c1,hb3.c2,hb3.c3,hb3.ca,A2a hb3,A1a hb3,A3a hb3,A3c,A5c,A7c,A6e,A4e,A5b,A4b,A4c,A8c,A6c,arc0,arc1,arc2,arc3,arc4,end0,end1,f1,f3,hn,e2,e3,Option.map_some]
  refine ⟨_,_,hd1,?_⟩
  simp only [↓Sh.dn,sx,Nat.reduceBEq,reduceCtorEq,Nat.reduceEqDiff,wpr,again,A0d,A3l,A2i,A8l,A1j,A0h,A4j,forall_eq,forall_eq',hb3.c0,hb3.c1,hb3.c2,hb3.c3,hb3.ca,A2a hb3,A1a hb3,A3a hb3,A3c,A5c,A7c,A6e,A4e,A5b,A4b,A4c,A8c,A6c,arc0,arc1,arc2,arc3,arc4,end0,end1,f1,f3,hn,e2,e3,Option.map_some,hav,hsg.veq]
  refine ⟨_,_,hd2,?_⟩
  have bl':A2q Tryz.prog 100 [(0,.int .i64 a.to),(1,.int .i64 (A6k N.sigma a.inn)),(2,.int .i64 (A6k N.sigma a.out)),(3,.int .i64 a.cost)]=some (.agg (B6s N.sigma a).toArray):=bl
  simp only [↓Sh.dn,sx,Nat.reduceBEq,reduceCtorEq,Nat.reduceEqDiff,wpr,again,A0d,A3l,A2i,A8l,A1j,A0h,A4j,forall_eq,forall_eq',hb3.c0,hb3.c1,hb3.c2,hb3.c3,hb3.ca,A2a hb3,A1a hb3,A3a hb3,A3c,A5c,A7c,A6e,A4e,A5b,A4b,A4c,A8c,A6c,arc0,arc1,arc2,arc3,arc4,end0,end1,f1,f3,hn,e2,e3,Option.map_some,hav,hsg.veq,bl',hbs,ha,hn4,st,c4,f16,wrap_succ hlt hsm.ar]
  refine k _ _ (by repeat (first | refine Same.put ?_ rfl | exact Same.rfl' _)) (by simp only [↓Sh.dn,sx,Nat.reduceBEq,reduceCtorEq,Nat.reduceEqDiff]) ⟨hk3.then (Nat.le_refl _) z1,?_⟩
  rw [htake]
  unfold A52
  rw [A6r hsn hs]
  exact z2
 ·rintro F H' hF f16 ⟨hk,hg⟩
  have f1:=hF 1 rfl
  have f3:=hF 3 rfl
  have f15:=hF 15 rfl
  simp only [↓Sh.dn,sx,Nat.reduceBEq,reduceCtorEq,Nat.reduceEqDiff] at f1 f3 f15
  rw [List.take_length] at hg
  have hb':=hb1.kept hk1.wf hk
  simp only [↓Sh.dn,sx,Nat.reduceBEq,reduceCtorEq,Nat.reduceEqDiff,hb'.c0,hb'.c1,hb'.c2,hb'.c3,hb'.ca,A2a hb',A1a hb',A3a hb',f1,f3,f15,f16,A6a,Nat.lt_irrefl,decide_false,Option.map_some]
  refine A8h N.ends.length 56 (List.range' 56 11++[7]) (fun i F H'=>Kept H1 H'∧Gr H' H1.next g N.sigma (A52 N N.arcs) (A2m N (N.ends.take i)) (A4m N (N.ends.take i))) (by simp only [↓Sh.dn,sx,Nat.reduceBEq,reduceCtorEq,Nat.reduceEqDiff]) ⟨hk,hg⟩ ?_ ?_
  ·rintro i F' H' hlt hF' f56 ⟨hk,hg⟩ k
   have g1:=hF' 1 rfl
   have g3:=hF' 3 rfl
   have f54:=hF' 54 rfl
   have f55:=hF' 55 rfl
   simp only [↓Sh.dn,sx,Nat.reduceBEq,reduceCtorEq,Nat.reduceEqDiff,f1,f3] at g1 g3 f54 f55
   have hb':=hb1.kept hk1.wf hk
   obtain ⟨q,o,kk,hia,hc,hcc⟩:=hb'.hen.at Tryz.underlying24 A5o (i:=i) (x:=N.ends[i].cells) (by simp [hlt]) .i64
   clear hcc
   have htake:N.ends.take (i+1)=N.ends.take i++[N.ends[i]]:=by rw [List.take_add_one,List.getElem?_eq_getElem hlt]; rfl
   obtain ⟨k0,k1⟩:=hok.fin _ (List.getElem_mem hlt)
   have hk3:=hk.news 2 (N.ends[i].cells)
   have hg3:=hg.kept hk.wf (Kept.new hk.wf 2 (N.ends[i].cells))
   generalize N.ends[i]=e at hk3 hg3 hc htake k0 k1
   obtain ⟨s,hs⟩:∃ s:Nat,e.state=(s:Int):=⟨e.state.toNat,by omega⟩
   have hsn:s < N.states.toNat:=by omega
   have hrow:=A7g (key:=EndD.state) (f:=EndD.cost) (l:=N.ends.take i) hsn
   have hrl:=A9y hrow
   have htl:(N.ends.take i).length≤60000:=by rw [List.length_take]; have:=hok.en; omega
   have l1:s < (A2m N (N.ends.take i)).length:=by unfold A2m; rw [List.length_map,A2e]; exact hsn
   have l2:s < (A4m N (N.ends.take i)).length:=by unfold A4m; rw [List.length_map,A2e]; exact hsn
   have v1:(A2m N (N.ends.take i))[s]=((((N.ends.take i).filter fun a=>decide (a.state=(s:Int))).map EndD.cost).length:Int):=by
    apply Option.some.inj
    rw [← List.getElem?_eq_getElem l1]
    unfold A2m
    rw [List.getElem?_map,hrow]; rfl
   have v2:(A4m N (N.ends.take i))[s]=leastOf (((N.ends.take i).filter fun a=>decide (a.state=(s:Int))).map EndD.cost):=by
    apply Option.some.inj
    rw [← List.getElem?_eq_getElem l2]
    unfold A4m
    rw [List.getElem?_map,hrow]; rfl
   obtain ⟨r,H5,hd5,hc5,hg5⟩:=grEnd (x:=e.cost) hg3 l1 l2 hk3.wf (by rw [v1]; omega) (by rw [v1]; omega)
   rw [v1,v2] at hg5
   rw [← hs] at hd5
   simp only [↓Sh.dn,sx,Nat.reduceBEq,reduceCtorEq,Nat.reduceEqDiff,hb'.c0,hb'.c1,hb'.c2,hb'.c3,hb'.ca,A2a hb',A1a hb',A3a hb',A3c,A5c,A7c,A6e,A4e,A5b,A4b,A4c,A8c,A6c,arc0,arc1,arc2,arc3,arc4,end0,end1,g1,g3,f54,f55,f56,Option.map_some,A6a,hlt,decide_true,hia,hc]
   refine ⟨_,_,hd5,?_⟩
   have hen:=hsm.en
   simp only [↓Sh.dn,sx,Nat.reduceBEq,reduceCtorEq,Nat.reduceEqDiff,f56,wrap_succ hlt hen]
   refine k _ _ (by repeat (first | refine Same.put ?_ rfl | exact Same.rfl' _)) (by simp only [↓Sh.dn,sx,Nat.reduceBEq,reduceCtorEq,Nat.reduceEqDiff]) ⟨hk3.then (Nat.le_refl _) hc5,?_⟩
   rw [htake]
   have e1:A2m N (N.ends.take i++[e])=(A2m N (N.ends.take i)).set s (((((N.ends.take i).filter fun a=>decide (a.state=(s:Int))).map EndD.cost).length:Int)+1):=by
    unfold A2m
    rw [A6r hsn hs,List.map_set]
    congr 1
    rw [List.length_append]; simp
   have e2:A4m N (N.ends.take i++[e])=(A4m N (N.ends.take i)).set s (A9t ((((N.ends.take i).filter fun a=>decide (a.state=(s:Int))).map EndD.cost).length:Int) (leastOf (((N.ends.take i).filter fun a=>decide (a.state=(s:Int))).map EndD.cost)) e.cost):=by
    unfold A4m
    rw [A6r hsn hs,List.map_set]
    congr 1
    rw [B0l]
    unfold A9t
    have:((((N.ends.take i).filter fun a=>decide (a.state=(s:Int))).map EndD.cost).length:Int)=0↔((N.ends.take i).filter fun a=>decide (a.state=(s:Int))).map EndD.cost=[]:=by
     rw [← List.length_eq_zero_iff]; omega
    simp only [this]
   rw [e1,e2]
   exact hg5
  ·rintro F' H' hF' f56 ⟨hk,hg⟩
   have g3:=hF' 3 rfl
   have f55:=hF' 55 rfl
   simp only [↓Sh.dn,sx,Nat.reduceBEq,reduceCtorEq,Nat.reduceEqDiff,f3] at g3 f55
   rw [List.take_length] at hg
   simp only [↓Sh.dn,sx,Nat.reduceBEq,reduceCtorEq,Nat.reduceEqDiff,g3,f55,f56,A6a,Nat.lt_irrefl,decide_false,hres]
   exact ⟨hk1.trans hk,_,rfl,_,Nat.le_of_lt hnx,hg⟩
end Go.Proofs.YtnoengaghabmjaaGreat
