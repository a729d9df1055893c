/- A part of the proof: Facts, NetFacts. -/
import Derived.Test.YtnoengaghabmjaaGreatProg
import Derived.Test.YtnoengaghabmjaaGreatMClose2RelTurns1
import Derived.KernelRfl
set_option linter.unusedVariables false
set_option linter.unusedSimpArgs false
/- What the types of this program are, for walking. Made by program. -/
set_option linter.unusedVariables false
set_option maxRecDepth 20000
namespace Go.Proofs.YtnoengaghabmjaaGreat
open Go Go.Proofs Go.Proofs.Sh
theorem agg_1:A8h Tryz.prog 1=some false:=by kernel_rfl
theorem zero_1:zeroAt Tryz.prog 1=some (.nilFunc):=by kernel_rfl
theorem ld_1 {H:AH} {a:Addr}:A2h Tryz.prog 1 H (.pointer (some a))=H.cell a:=A0c agg_1
theorem agg_2:A8h Tryz.prog 2=some false:=by kernel_rfl
theorem zero_2:zeroAt Tryz.prog 2=some (.int .i64 0):=by kernel_rfl
theorem ld_2 {H:AH} {a:Addr}:A2h Tryz.prog 2 H (.pointer (some a))=H.cell a:=A0c agg_2
theorem B58:A8h Tryz.prog 3=some false:=by kernel_rfl
theorem A6d:A8c Tryz.prog 3=some 1:=by kernel_rfl
theorem C1c:Tryz.prog.cellsOf 3=1:=by kernel_rfl
theorem B2h:zeroAt Tryz.prog 3=some (.int .i64 0):=by kernel_rfl
theorem ld_3 {H:AH} {a:Addr}:A2h Tryz.prog 3 H (.pointer (some a))=H.cell a:=A0c B58
theorem agg_4:A8h Tryz.prog 4=some false:=by kernel_rfl
theorem A3n:A8c Tryz.prog 4=some 1:=by kernel_rfl
theorem A76:zeroAt Tryz.prog 4=some (.bool false):=by kernel_rfl
theorem ld_4 {H:AH} {a:Addr}:A2h Tryz.prog 4 H (.pointer (some a))=H.cell a:=A0c agg_4
theorem agg_5:A8h Tryz.prog 5=some false:=by kernel_rfl
theorem zero_5:zeroAt Tryz.prog 5=some (.int .u8 0):=by kernel_rfl
theorem ld_5 {H:AH} {a:Addr}:A2h Tryz.prog 5 H (.pointer (some a))=H.cell a:=A0c agg_5
theorem agg_9:A8h Tryz.prog 9=some false:=by kernel_rfl
theorem A2n:A8c Tryz.prog 9=some 1:=by kernel_rfl
theorem C42:Tryz.prog.cellsOf 9=1:=by kernel_rfl
theorem C6k:zeroAt Tryz.prog 9=some (.string ⟨#[]⟩):=by kernel_rfl
theorem ld_9 {H:AH} {a:Addr}:A2h Tryz.prog 9 H (.pointer (some a))=H.cell a:=A0c agg_9
theorem agg_22:A8h Tryz.prog 22=some false:=by kernel_rfl
theorem A99:A8c Tryz.prog 22=some 1:=by kernel_rfl
theorem cells_22:Tryz.prog.cellsOf 22=1:=by kernel_rfl
theorem B7s:zeroAt Tryz.prog 22=some (.slice none 0 0):=by kernel_rfl
theorem ld_22 {H:AH} {a:Addr}:A2h Tryz.prog 22 H (.pointer (some a))=H.cell a:=A0c agg_22
theorem agg_23:A8h Tryz.prog 23=some false:=by kernel_rfl
theorem A14:A8c Tryz.prog 23=some 1:=by kernel_rfl
theorem cells_23:Tryz.prog.cellsOf 23=1:=by kernel_rfl
theorem B8v:zeroAt Tryz.prog 23=some (.slice none 0 0):=by kernel_rfl
theorem ld_23 {H:AH} {a:Addr}:A2h Tryz.prog 23 H (.pointer (some a))=H.cell a:=A0c agg_23
theorem agg_24:A8h Tryz.prog 24=some false:=by kernel_rfl
theorem C07:A8c Tryz.prog 24=some 1:=by kernel_rfl
theorem cells_24:Tryz.prog.cellsOf 24=1:=by kernel_rfl
theorem C7z:zeroAt Tryz.prog 24=some (.slice none 0 0):=by kernel_rfl
theorem ld_24 {H:AH} {a:Addr}:A2h Tryz.prog 24 H (.pointer (some a))=H.cell a:=A0c agg_24
theorem agg_26:A8h Tryz.prog 26=some true:=by kernel_rfl
theorem A0w:A8c Tryz.prog 26=some 4:=by kernel_rfl
theorem cells_26:Tryz.prog.cellsOf 26=4:=by kernel_rfl
theorem A04:zeroAt Tryz.prog 26=some (.agg #[.slice none 0 0,.int .i64 0,.slice none 0 0,.slice none 0 0]):=by kernel_rfl
theorem ld_26 {H:AH} {a:Addr}:A2h Tryz.prog 26 H (.pointer (some a))=(H.cells a 4).map fun l=>.agg l.toArray:=A5s agg_26 A0w
theorem agg_30:A8h Tryz.prog 30=some false:=by kernel_rfl
theorem C2x:zeroAt Tryz.prog 30=some (.slice none 0 0):=by kernel_rfl
theorem ld_30 {H:AH} {a:Addr}:A2h Tryz.prog 30 H (.pointer (some a))=H.cell a:=A0c agg_30
theorem agg_31:A8h Tryz.prog 31=some false:=by kernel_rfl
theorem C15:zeroAt Tryz.prog 31=some (.int .i64 0):=by kernel_rfl
theorem ld_31 {H:AH} {a:Addr}:A2h Tryz.prog 31 H (.pointer (some a))=H.cell a:=A0c agg_31
theorem agg_52:A8h Tryz.prog 52=some false:=by kernel_rfl
theorem C01:zeroAt Tryz.prog 52=some (.slice none 0 0):=by kernel_rfl
theorem ld_52 {H:AH} {a:Addr}:A2h Tryz.prog 52 H (.pointer (some a))=H.cell a:=A0c agg_52
theorem agg_54:A8h Tryz.prog 54=some true:=by kernel_rfl
theorem A9l:A8c Tryz.prog 54=some 5:=by kernel_rfl
theorem C8f:Tryz.prog.cellsOf 54=5:=by kernel_rfl
theorem A49:zeroAt Tryz.prog 54=some (.agg #[.int .i64 0,.string ⟨#[]⟩,.string ⟨#[]⟩,.int .i64 0,.int .i64 0]):=by kernel_rfl
theorem ld_54 {H:AH} {a:Addr}:A2h Tryz.prog 54 H (.pointer (some a))=(H.cells a 5).map fun l=>.agg l.toArray:=A5s agg_54 A9l
theorem agg_56:A8h Tryz.prog 56=some true:=by kernel_rfl
theorem A1r:A8c Tryz.prog 56=some 2:=by kernel_rfl
theorem C2h:Tryz.prog.cellsOf 56=2:=by kernel_rfl
theorem A78:zeroAt Tryz.prog 56=some (.agg #[.int .i64 0,.int .i64 0]):=by kernel_rfl
theorem ld_56 {H:AH} {a:Addr}:A2h Tryz.prog 56 H (.pointer (some a))=(H.cells a 2).map fun l=>.agg l.toArray:=A5s agg_56 A1r
theorem agg_59:A8h Tryz.prog 59=some false:=by kernel_rfl
theorem size_59:A8c Tryz.prog 59=some 1:=by kernel_rfl
theorem C21:zeroAt Tryz.prog 59=some (.nilFunc):=by kernel_rfl
theorem ld_59 {H:AH} {a:Addr}:A2h Tryz.prog 59 H (.pointer (some a))=H.cell a:=A0c agg_59
theorem agg_61:A8h Tryz.prog 61=some true:=by kernel_rfl
theorem C3b:A8c Tryz.prog 61=some 1:=by kernel_rfl
theorem B67:zeroAt Tryz.prog 61=some (.agg #[.nilFunc]):=by kernel_rfl
theorem ld_61 {H:AH} {a:Addr}:A2h Tryz.prog 61 H (.pointer (some a))=(H.cells a 1).map fun l=>.agg l.toArray:=A5s agg_61 C3b
theorem agg_65:A8h Tryz.prog 65=some false:=by kernel_rfl
theorem size_65:A8c Tryz.prog 65=some 1:=by kernel_rfl
theorem C9y:zeroAt Tryz.prog 65=some (.slice none 0 0):=by kernel_rfl
theorem ld_65 {H:AH} {a:Addr}:A2h Tryz.prog 65 H (.pointer (some a))=H.cell a:=A0c agg_65
theorem agg_66:A8h Tryz.prog 66=some false:=by kernel_rfl
theorem size_66:A8c Tryz.prog 66=some 1:=by kernel_rfl
theorem C32:zeroAt Tryz.prog 66=some (.slice none 0 0):=by kernel_rfl
theorem ld_66 {H:AH} {a:Addr}:A2h Tryz.prog 66 H (.pointer (some a))=H.cell a:=A0c agg_66
theorem agg_68:A8h Tryz.prog 68=some true:=by kernel_rfl
theorem B4u:A8c Tryz.prog 68=some 3:=by kernel_rfl
theorem B78:zeroAt Tryz.prog 68=some (.agg #[.int .i64 0,.slice none 0 0,.slice none 0 0]):=by kernel_rfl
theorem ld_68 {H:AH} {a:Addr}:A2h Tryz.prog 68 H (.pointer (some a))=(H.cells a 3).map fun l=>.agg l.toArray:=A5s agg_68 B4u
theorem agg_73:A8h Tryz.prog 73=some false:=by kernel_rfl
theorem C96:zeroAt Tryz.prog 73=some (.pointer none):=by kernel_rfl
theorem ld_73 {H:AH} {a:Addr}:A2h Tryz.prog 73 H (.pointer (some a))=H.cell a:=A0c agg_73
theorem agg_80:A8h Tryz.prog 80=some false:=by kernel_rfl
theorem C3u:zeroAt Tryz.prog 80=some (.slice none 0 0):=by kernel_rfl
theorem ld_80 {H:AH} {a:Addr}:A2h Tryz.prog 80 H (.pointer (some a))=H.cell a:=A0c agg_80
theorem C2z:A8h Tryz.prog 83=some true:=by kernel_rfl
theorem A1v:A8c Tryz.prog 83=some 2:=by kernel_rfl
theorem B0a:zeroAt Tryz.prog 83=some (.agg #[.int .i64 0,.int .i64 0]):=by kernel_rfl
theorem ld_83 {H:AH} {a:Addr}:A2h Tryz.prog 83 H (.pointer (some a))=(H.cells a 2).map fun l=>.agg l.toArray:=A5s C2z A1v
theorem agg_88:A8h Tryz.prog 88=some false:=by kernel_rfl
theorem B3w:A8c Tryz.prog 88=some 1:=by kernel_rfl
theorem C6w:zeroAt Tryz.prog 88=some (.slice none 0 0):=by kernel_rfl
theorem ld_88 {H:AH} {a:Addr}:A2h Tryz.prog 88 H (.pointer (some a))=H.cell a:=A0c agg_88
theorem agg_100:A8h Tryz.prog 100=some true:=by kernel_rfl
theorem A1x:A8c Tryz.prog 100=some 4:=by kernel_rfl
theorem A82:zeroAt Tryz.prog 100=some (.agg #[.int .i64 0,.int .i64 0,.int .i64 0,.int .i64 0]):=by kernel_rfl
theorem ld_100 {H:AH} {a:Addr}:A2h Tryz.prog 100 H (.pointer (some a))=(H.cells a 4).map fun l=>.agg l.toArray:=A5s agg_100 A1x
theorem agg_105:A8h Tryz.prog 105=some false:=by kernel_rfl
theorem A0s:A8c Tryz.prog 105=some 1:=by kernel_rfl
theorem B5d:zeroAt Tryz.prog 105=some (.slice none 0 0):=by kernel_rfl
theorem ld_105 {H:AH} {a:Addr}:A2h Tryz.prog 105 H (.pointer (some a))=H.cell a:=A0c agg_105
theorem agg_107:A8h Tryz.prog 107=some true:=by kernel_rfl
theorem A5t:A8c Tryz.prog 107=some 2:=by kernel_rfl
theorem A42:zeroAt Tryz.prog 107=some (.agg #[.string ⟨#[]⟩,.int .i64 0]):=by kernel_rfl
theorem ld_107 {H:AH} {a:Addr}:A2h Tryz.prog 107 H (.pointer (some a))=(H.cells a 2).map fun l=>.agg l.toArray:=A5s agg_107 A5t
theorem agg_117:A8h Tryz.prog 117=some false:=by kernel_rfl
theorem C6n:zeroAt Tryz.prog 117=some (.nilFunc):=by kernel_rfl
theorem ld_117 {H:AH} {a:Addr}:A2h Tryz.prog 117 H (.pointer (some a))=H.cell a:=A0c agg_117
theorem agg_119:A8h Tryz.prog 119=some false:=by kernel_rfl
theorem C9m:zeroAt Tryz.prog 119=some (.nilFunc):=by kernel_rfl
theorem ld_119 {H:AH} {a:Addr}:A2h Tryz.prog 119 H (.pointer (some a))=H.cell a:=A0c agg_119
theorem agg_123:A8h Tryz.prog 123=some false:=by kernel_rfl
theorem C0d:A8c Tryz.prog 123=some 1:=by kernel_rfl
theorem C2d:zeroAt Tryz.prog 123=some (.slice none 0 0):=by kernel_rfl
theorem ld_123 {H:AH} {a:Addr}:A2h Tryz.prog 123 H (.pointer (some a))=H.cell a:=A0c agg_123
theorem agg_125:A8h Tryz.prog 125=some true:=by kernel_rfl
theorem C6e:A8c Tryz.prog 125=some 4:=by kernel_rfl
theorem B1v:zeroAt Tryz.prog 125=some (.agg #[.slice none 0 0,.slice none 0 0,.slice none 0 0,.slice none 0 0]):=by kernel_rfl
theorem ld_125 {H:AH} {a:Addr}:A2h Tryz.prog 125 H (.pointer (some a))=(H.cells a 4).map fun l=>.agg l.toArray:=A5s agg_125 C6e
theorem agg_126:A8h Tryz.prog 126=some false:=by kernel_rfl
theorem A2t:A8c Tryz.prog 126=some 1:=by kernel_rfl
theorem A32:zeroAt Tryz.prog 126=some (.slice none 0 0):=by kernel_rfl
theorem ld_126 {H:AH} {a:Addr}:A2h Tryz.prog 126 H (.pointer (some a))=H.cell a:=A0c agg_126
theorem agg_127:A8h Tryz.prog 127=some false:=by kernel_rfl
theorem C9i:zeroAt Tryz.prog 127=some (.map none):=by kernel_rfl
theorem ld_127 {H:AH} {a:Addr}:A2h Tryz.prog 127 H (.pointer (some a))=H.cell a:=A0c agg_127
theorem agg_131:A8h Tryz.prog 131=some false:=by kernel_rfl
theorem C4d:zeroAt Tryz.prog 131=some (.slice none 0 0):=by kernel_rfl
theorem ld_131 {H:AH} {a:Addr}:A2h Tryz.prog 131 H (.pointer (some a))=H.cell a:=A0c agg_131
theorem agg_134:A8h Tryz.prog 134=some false:=by kernel_rfl
theorem C2g:zeroAt Tryz.prog 134=some (.slice none 0 0):=by kernel_rfl
theorem ld_134 {H:AH} {a:Addr}:A2h Tryz.prog 134 H (.pointer (some a))=H.cell a:=A0c agg_134
theorem agg_135:A8h Tryz.prog 135=some false:=by kernel_rfl
theorem C6j:zeroAt Tryz.prog 135=some (.map none):=by kernel_rfl
theorem ld_135 {H:AH} {a:Addr}:A2h Tryz.prog 135 H (.pointer (some a))=H.cell a:=A0c agg_135
theorem agg_137:A8h Tryz.prog 137=some true:=by kernel_rfl
theorem A91:A8c Tryz.prog 137=some 3:=by kernel_rfl
theorem A41:zeroAt Tryz.prog 137=some (.agg #[.int .i64 0,.int .i64 0,.int .i64 0]):=by kernel_rfl
theorem ld_137 {H:AH} {a:Addr}:A2h Tryz.prog 137 H (.pointer (some a))=(H.cells a 3).map fun l=>.agg l.toArray:=A5s agg_137 A91
theorem agg_138:A8h Tryz.prog 138=some false:=by kernel_rfl
theorem C9j:zeroAt Tryz.prog 138=some (.map none):=by kernel_rfl
theorem ld_138 {H:AH} {a:Addr}:A2h Tryz.prog 138 H (.pointer (some a))=H.cell a:=A0c agg_138
theorem agg_144:A8h Tryz.prog 144=some false:=by kernel_rfl
theorem C3i:zeroAt Tryz.prog 144=some (.slice none 0 0):=by kernel_rfl
theorem ld_144 {H:AH} {a:Addr}:A2h Tryz.prog 144 H (.pointer (some a))=H.cell a:=A0c agg_144
theorem agg_145:A8h Tryz.prog 145=some false:=by kernel_rfl
theorem size_145:A8c Tryz.prog 145=some 1:=by kernel_rfl
theorem B4t:zeroAt Tryz.prog 145=some (.int .u64 0):=by kernel_rfl
theorem ld_145 {H:AH} {a:Addr}:A2h Tryz.prog 145 H (.pointer (some a))=H.cell a:=A0c agg_145
theorem agg_146:A8h Tryz.prog 146=some false:=by kernel_rfl
theorem C5k:zeroAt Tryz.prog 146=some (.int .u64 0):=by kernel_rfl
theorem ld_146 {H:AH} {a:Addr}:A2h Tryz.prog 146 H (.pointer (some a))=H.cell a:=A0c agg_146
theorem agg_147:A8h Tryz.prog 147=some false:=by kernel_rfl
theorem C1e:zeroAt Tryz.prog 147=some (.nilFunc):=by kernel_rfl
theorem ld_147 {H:AH} {a:Addr}:A2h Tryz.prog 147 H (.pointer (some a))=H.cell a:=A0c agg_147
theorem agg_158:A8h Tryz.prog 158=some false:=by kernel_rfl
theorem C3e:zeroAt Tryz.prog 158=some (.nilFunc):=by kernel_rfl
theorem ld_158 {H:AH} {a:Addr}:A2h Tryz.prog 158 H (.pointer (some a))=H.cell a:=A0c agg_158
theorem agg_179:A8h Tryz.prog 179=some false:=by kernel_rfl
theorem C6g:zeroAt Tryz.prog 179=some (.nilFunc):=by kernel_rfl
theorem ld_179 {H:AH} {a:Addr}:A2h Tryz.prog 179 H (.pointer (some a))=H.cell a:=A0c agg_179
theorem agg_193:A8h Tryz.prog 193=some false:=by kernel_rfl
theorem C3j:zeroAt Tryz.prog 193=some (.int .i64 0):=by kernel_rfl
theorem ld_193 {H:AH} {a:Addr}:A2h Tryz.prog 193 H (.pointer (some a))=H.cell a:=A0c agg_193
theorem agg_201:A8h Tryz.prog 201=some false:=by kernel_rfl
theorem C2f:zeroAt Tryz.prog 201=some (.int .u32 0):=by kernel_rfl
theorem ld_201 {H:AH} {a:Addr}:A2h Tryz.prog 201 H (.pointer (some a))=H.cell a:=A0c agg_201
theorem agg_208:A8h Tryz.prog 208=some false:=by kernel_rfl
theorem B5v:A8c Tryz.prog 208=some 1:=by kernel_rfl
theorem C5h:zeroAt Tryz.prog 208=some (.int .u64 0):=by kernel_rfl
theorem ld_208 {H:AH} {a:Addr}:A2h Tryz.prog 208 H (.pointer (some a))=H.cell a:=A0c agg_208
theorem agg_212:A8h Tryz.prog 212=some false:=by kernel_rfl
theorem C2m:zeroAt Tryz.prog 212=some (.pointer none):=by kernel_rfl
theorem ld_212 {H:AH} {a:Addr}:A2h Tryz.prog 212 H (.pointer (some a))=H.cell a:=A0c agg_212
theorem agg_216:A8h Tryz.prog 216=some false:=by kernel_rfl
theorem C5i:zeroAt Tryz.prog 216=some (.pointer none):=by kernel_rfl
theorem ld_216 {H:AH} {a:Addr}:A2h Tryz.prog 216 H (.pointer (some a))=H.cell a:=A0c agg_216
theorem len_9 {H:AH} {s:ByteArray}:A6a Tryz.prog .len [9] [.string s] H=some (.int .i64 (s.size:Int),H):=C9p Tryz.underlying9
theorem len_22 {H:AH} {n c:Nat} {a:Option Addr}:A6a Tryz.prog .len [22] [.slice a n c] H=some (.int .i64 (n:Int),H):=A0j Tryz.underlying22
theorem info_22:((Tryz.prog.info? 9).map fun i=>Nat.beq i.size 1 && Nat.ble i.bytes 65536)=some true:=by kernel_rfl
theorem app_22 {H:AH} {t' len cap n:Nat} {base:Option Addr} {x:Value} {new:List Value} (hx:Sh.srcKind Tryz.prog t' x=true) (hn:Sh.newCells 1 H x=some (n,new)) (hb:len+n≤1073741824):A6a Tryz.prog .append [22,t'] [.slice base len cap,x] H=A9f 1 base len cap n new H:=A8z Tryz.underlying22 info_22 C6k rfl (Nat.le_of_ble_eq_true rfl) hx hn hb
theorem C5j {c:Bool} {a:Option Addr} {n m:Nat}:abin Tryz.prog 22 c .eql (.slice a n m) (.slice none 0 0)=some (.bool a.isNone):=A5j Tryz.underlying22
theorem B06 {c:Bool} {a:Option Addr} {n m:Nat}:abin Tryz.prog 22 c .neq (.slice a n m) (.slice none 0 0)=some (.bool a.isSome):=A3f Tryz.underlying22
theorem B3y {H:AH}:A9a Tryz.prog 22 0 [] H=some (.slice (some ⟨H.next,0,some 0⟩) 0 0,(H.new 1 []).2):=A6j Tryz.underlying22 A2n C6k rfl (Nat.le_of_ble_eq_true rfl)
theorem len_23 {H:AH} {n c:Nat} {a:Option Addr}:A6a Tryz.prog .len [23] [.slice a n c] H=some (.int .i64 (n:Int),H):=A0j Tryz.underlying23
theorem info_23:((Tryz.prog.info? 54).map fun i=>Nat.beq i.size 5 && Nat.ble i.bytes 65536)=some true:=by kernel_rfl
theorem C3a {H:AH} {len cap:Nat} {base:Option Addr} {x:List Value} (hx:x.length=5) (hb:len≤1073741823):A6a Tryz.prog .append [23,23] [.slice base len cap,.slice (some ⟨H.next,0,some 0⟩) 1 1] (H.new 5 x).2=A9f 5 base len cap 1 x (H.new 5 x).2:=A2r Tryz.underlying23 info_23 A49 rfl (Nat.le_of_ble_eq_true rfl) hx hb
theorem C3f {c:Bool} {a:Option Addr} {n m:Nat}:abin Tryz.prog 23 c .eql (.slice a n m) (.slice none 0 0)=some (.bool a.isNone):=A5j Tryz.underlying23
theorem B3z {c:Bool} {a:Option Addr} {n m:Nat}:abin Tryz.prog 23 c .neq (.slice a n m) (.slice none 0 0)=some (.bool a.isSome):=A3f Tryz.underlying23
theorem B2z {H:AH}:A9a Tryz.prog 23 0 [] H=some (.slice (some ⟨H.next,0,some 0⟩) 0 0,(H.new 5 []).2):=A6j Tryz.underlying23 A9l A49 rfl (Nat.le_of_ble_eq_true rfl)
theorem B2e {H:AH} {x:Value} (hx:(A0b x).length=5) (hc:(A0b x).all isCell=true):A9a Tryz.prog 23 1 [(0,x)] H=some (.slice (some ⟨H.next,0,some 0⟩) 1 1,(H.new 5 (A0b x)).2):=A1q Tryz.underlying23 A9l A49 rfl (Nat.le_of_ble_eq_true rfl) (Nat.le_of_ble_eq_true rfl) hx hc
theorem len_24 {H:AH} {n c:Nat} {a:Option Addr}:A6a Tryz.prog .len [24] [.slice a n c] H=some (.int .i64 (n:Int),H):=A0j Tryz.underlying24
theorem info_24:((Tryz.prog.info? 56).map fun i=>Nat.beq i.size 2 && Nat.ble i.bytes 65536)=some true:=by kernel_rfl
theorem app1_24 {H:AH} {len cap:Nat} {base:Option Addr} {x:List Value} (hx:x.length=2) (hb:len≤1073741823):A6a Tryz.prog .append [24,24] [.slice base len cap,.slice (some ⟨H.next,0,some 0⟩) 1 1] (H.new 2 x).2=A9f 2 base len cap 1 x (H.new 2 x).2:=A2r Tryz.underlying24 info_24 A78 rfl (Nat.le_of_ble_eq_true rfl) hx hb
theorem C0k {c:Bool} {a:Option Addr} {n m:Nat}:abin Tryz.prog 24 c .eql (.slice a n m) (.slice none 0 0)=some (.bool a.isNone):=A5j Tryz.underlying24
theorem B15 {c:Bool} {a:Option Addr} {n m:Nat}:abin Tryz.prog 24 c .neq (.slice a n m) (.slice none 0 0)=some (.bool a.isSome):=A3f Tryz.underlying24
theorem B95 {H:AH}:A9a Tryz.prog 24 0 [] H=some (.slice (some ⟨H.next,0,some 0⟩) 0 0,(H.new 2 []).2):=A6j Tryz.underlying24 A1r A78 rfl (Nat.le_of_ble_eq_true rfl)
theorem C05 {H:AH} {x:Value} (hx:(A0b x).length=2) (hc:(A0b x).all isCell=true):A9a Tryz.prog 24 1 [(0,x)] H=some (.slice (some ⟨H.next,0,some 0⟩) 1 1,(H.new 2 (A0b x)).2):=A1q Tryz.underlying24 A1r A78 rfl (Nat.le_of_ble_eq_true rfl) (Nat.le_of_ble_eq_true rfl) hx hc
theorem C9u {g o k:Nat}:A8b Tryz.prog 26 0 (.pointer (some ⟨g,o,some k⟩))=some (.pointer (some ⟨g,o+0,some k⟩)):=by have h:=A4b (g:=g) (o:=o) (k:=k) (f:=0) Tryz.underlying26 (Eq.refl (some _)) A99 rfl; exact h
theorem C3w {g o k:Nat}:A8b Tryz.prog 26 1 (.pointer (some ⟨g,o,some k⟩))=some (.pointer (some ⟨g,o+1,some k⟩)):=by have h:=A4b (g:=g) (o:=o) (k:=k) (f:=1) Tryz.underlying26 (Eq.refl (some _)) A6d rfl; exact h
theorem C91 {g o k:Nat}:A8b Tryz.prog 26 2 (.pointer (some ⟨g,o,some k⟩))=some (.pointer (some ⟨g,o+2,some k⟩)):=by have h:=A4b (g:=g) (o:=o) (k:=k) (f:=2) Tryz.underlying26 (Eq.refl (some _)) A14 rfl; exact h
theorem C8x {g o k:Nat}:A8b Tryz.prog 26 3 (.pointer (some ⟨g,o,some k⟩))=some (.pointer (some ⟨g,o+3,some k⟩)):=by have h:=A4b (g:=g) (o:=o) (k:=k) (f:=3) Tryz.underlying26 (Eq.refl (some _)) C07 rfl; exact h
theorem len_30 {H:AH} {n c:Nat} {a:Option Addr}:A6a Tryz.prog .len [30] [.slice a n c] H=some (.int .i64 (n:Int),H):=A0j Tryz.underlying30
theorem C3d {c:Bool} {a:Option Addr} {n m:Nat}:abin Tryz.prog 30 c .eql (.slice a n m) (.slice none 0 0)=some (.bool a.isNone):=A5j Tryz.underlying30
theorem B70 {c:Bool} {a:Option Addr} {n m:Nat}:abin Tryz.prog 30 c .neq (.slice a n m) (.slice none 0 0)=some (.bool a.isSome):=A3f Tryz.underlying30
theorem B21 {H:AH}:A9a Tryz.prog 30 0 [] H=some (.slice (some ⟨H.next,0,some 0⟩) 0 0,(H.new 1 []).2):=A6j Tryz.underlying30 A99 B7s rfl (Nat.le_of_ble_eq_true rfl)
theorem len_52 {H:AH} {n c:Nat} {a:Option Addr}:A6a Tryz.prog .len [52] [.slice a n c] H=some (.int .i64 (n:Int),H):=A0j Tryz.underlying52
theorem C1j {c:Bool} {a:Option Addr} {n m:Nat}:abin Tryz.prog 52 c .eql (.slice a n m) (.slice none 0 0)=some (.bool a.isNone):=A5j Tryz.underlying52
theorem B8y {c:Bool} {a:Option Addr} {n m:Nat}:abin Tryz.prog 52 c .neq (.slice a n m) (.slice none 0 0)=some (.bool a.isSome):=A3f Tryz.underlying52
theorem B47 {H:AH}:A9a Tryz.prog 52 0 [] H=some (.slice (some ⟨H.next,0,some 0⟩) 0 0,(H.new 4 []).2):=A6j Tryz.underlying52 A0w A04 rfl (Nat.le_of_ble_eq_true rfl)
theorem B13 {H:AH} {x:Value} (hx:(A0b x).length=4) (hc:(A0b x).all isCell=true):A9a Tryz.prog 52 1 [(0,x)] H=some (.slice (some ⟨H.next,0,some 0⟩) 1 1,(H.new 4 (A0b x)).2):=A1q Tryz.underlying52 A0w A04 rfl (Nat.le_of_ble_eq_true rfl) (Nat.le_of_ble_eq_true rfl) hx hc
theorem C0z {g o k:Nat}:A8b Tryz.prog 54 0 (.pointer (some ⟨g,o,some k⟩))=some (.pointer (some ⟨g,o+0,some k⟩)):=by have h:=A4b (g:=g) (o:=o) (k:=k) (f:=0) Tryz.underlying54 (Eq.refl (some _)) A6d rfl; exact h
theorem C85 {g o k:Nat}:A8b Tryz.prog 54 1 (.pointer (some ⟨g,o,some k⟩))=some (.pointer (some ⟨g,o+1,some k⟩)):=by have h:=A4b (g:=g) (o:=o) (k:=k) (f:=1) Tryz.underlying54 (Eq.refl (some _)) A2n rfl; exact h
theorem C9x {g o k:Nat}:A8b Tryz.prog 54 2 (.pointer (some ⟨g,o,some k⟩))=some (.pointer (some ⟨g,o+2,some k⟩)):=by have h:=A4b (g:=g) (o:=o) (k:=k) (f:=2) Tryz.underlying54 (Eq.refl (some _)) A2n rfl; exact h
theorem C33 {g o k:Nat}:A8b Tryz.prog 54 3 (.pointer (some ⟨g,o,some k⟩))=some (.pointer (some ⟨g,o+3,some k⟩)):=by have h:=A4b (g:=g) (o:=o) (k:=k) (f:=3) Tryz.underlying54 (Eq.refl (some _)) A6d rfl; exact h
theorem C51 {g o k:Nat}:A8b Tryz.prog 54 4 (.pointer (some ⟨g,o,some k⟩))=some (.pointer (some ⟨g,o+4,some k⟩)):=by have h:=A4b (g:=g) (o:=o) (k:=k) (f:=4) Tryz.underlying54 (Eq.refl (some _)) A6d rfl; exact h
theorem bld_54 {v0 v1 v2 v3 v4:Value} (h0:isCell v0=true) (h1:isCell v1=true) (h2:isCell v2=true) (h3:isCell v3=true) (h4:isCell v4=true):A2m Tryz.prog 54 [(0,v0),(1,v1),(2,v2),(3,v3),(4,v4)]=some (.agg #[v0,v1,v2,v3,v4]):=by refine A0i (pl:=[(0,1),(1,1),(2,1),(3,1),(4,1)]) Tryz.underlying54 A49 (by kernel_rfl) ?_; have va:∀ xs:Array Value,A0b (.agg xs)=xs.toList:=fun _=>rfl; simp [A5u,A7b h0,A7b h1,A7b h2,A7b h3,A7b h4,va,h0,h1,h2,h3,h4,setCells,A8a,A3c]
theorem C7u {g o k:Nat}:A8b Tryz.prog 56 0 (.pointer (some ⟨g,o,some k⟩))=some (.pointer (some ⟨g,o+0,some k⟩)):=by have h:=A4b (g:=g) (o:=o) (k:=k) (f:=0) Tryz.underlying56 (Eq.refl (some _)) A6d rfl; exact h
theorem C5t {g o k:Nat}:A8b Tryz.prog 56 1 (.pointer (some ⟨g,o,some k⟩))=some (.pointer (some ⟨g,o+1,some k⟩)):=by have h:=A4b (g:=g) (o:=o) (k:=k) (f:=1) Tryz.underlying56 (Eq.refl (some _)) A6d rfl; exact h
theorem bld_56 {v0 v1:Value} (h0:isCell v0=true) (h1:isCell v1=true):A2m Tryz.prog 56 [(0,v0),(1,v1)]=some (.agg #[v0,v1]):=by refine A0i (pl:=[(0,1),(1,1)]) Tryz.underlying56 A78 (by kernel_rfl) ?_; have va:∀ xs:Array Value,A0b (.agg xs)=xs.toList:=fun _=>rfl; simp [A5u,A7b h0,A7b h1,va,h0,h1,setCells,A8a,A3c]
theorem C9v {g o k:Nat}:A8b Tryz.prog 61 0 (.pointer (some ⟨g,o,some k⟩))=some (.pointer (some ⟨g,o+0,some k⟩)):=by have h:=A4b (g:=g) (o:=o) (k:=k) (f:=0) Tryz.underlying61 (Eq.refl (some _)) size_59 rfl; exact h
theorem bld_61 {v0:Value} (h0:isCell v0=true):A2m Tryz.prog 61 [(0,v0)]=some (.agg #[v0]):=by refine A0i (pl:=[(0,1)]) Tryz.underlying61 B67 (by kernel_rfl) ?_; have va:∀ xs:Array Value,A0b (.agg xs)=xs.toList:=fun _=>rfl; simp [A5u,A7b h0,va,h0,setCells,A8a,A3c]
theorem len_65 {H:AH} {n c:Nat} {a:Option Addr}:A6a Tryz.prog .len [65] [.slice a n c] H=some (.int .i64 (n:Int),H):=A0j Tryz.underlying65
theorem info_65:((Tryz.prog.info? 105).map fun i=>Nat.beq i.size 1 && Nat.ble i.bytes 65536)=some true:=by kernel_rfl
theorem C5e {c:Bool} {a:Option Addr} {n m:Nat}:abin Tryz.prog 65 c .eql (.slice a n m) (.slice none 0 0)=some (.bool a.isNone):=A5j Tryz.underlying65
theorem B8x {c:Bool} {a:Option Addr} {n m:Nat}:abin Tryz.prog 65 c .neq (.slice a n m) (.slice none 0 0)=some (.bool a.isSome):=A3f Tryz.underlying65
theorem mk_65 {H:AH} {l c:Nat} (hlc:l≤c) (hc:c≤1073741824):A8i Tryz.prog 65 (.int .i64 (l:Int)) (.int .i64 (c:Int)) H=some (.slice (some ⟨H.next,0,some 0⟩) l c,(H.new 1 (List.replicate c (.slice none 0 0))).2):=by rw [← A06]; exact B2i Tryz.underlying65 info_65 B5d rfl (Nat.le_of_ble_eq_true rfl) hlc hc
theorem B02 {H:AH}:A9a Tryz.prog 65 0 [] H=some (.slice (some ⟨H.next,0,some 0⟩) 0 0,(H.new 1 []).2):=A6j Tryz.underlying65 A0s B5d rfl (Nat.le_of_ble_eq_true rfl)
theorem len_66 {H:AH} {n c:Nat} {a:Option Addr}:A6a Tryz.prog .len [66] [.slice a n c] H=some (.int .i64 (n:Int),H):=A0j Tryz.underlying66
theorem C17:((Tryz.prog.info? 4).map fun i=>Nat.beq i.size 1 && Nat.ble i.bytes 65536)=some true:=by kernel_rfl
theorem app_66 {H:AH} {t' len cap n:Nat} {base:Option Addr} {x:Value} {new:List Value} (hx:Sh.srcKind Tryz.prog t' x=true) (hn:Sh.newCells 1 H x=some (n,new)) (hb:len+n≤1073741824):A6a Tryz.prog .append [66,t'] [.slice base len cap,x] H=A9f 1 base len cap n new H:=A8z Tryz.underlying66 C17 A76 rfl (Nat.le_of_ble_eq_true rfl) hx hn hb
theorem C7k {c:Bool} {a:Option Addr} {n m:Nat}:abin Tryz.prog 66 c .eql (.slice a n m) (.slice none 0 0)=some (.bool a.isNone):=A5j Tryz.underlying66
theorem B1x {c:Bool} {a:Option Addr} {n m:Nat}:abin Tryz.prog 66 c .neq (.slice a n m) (.slice none 0 0)=some (.bool a.isSome):=A3f Tryz.underlying66
theorem C31 {H:AH} {l c:Nat} (hlc:l≤c) (hc:c≤1073741824):A8i Tryz.prog 66 (.int .i64 (l:Int)) (.int .i64 (c:Int)) H=some (.slice (some ⟨H.next,0,some 0⟩) l c,(H.new 1 (List.replicate c (.bool false))).2):=by rw [← A06]; exact B2i Tryz.underlying66 C17 A76 rfl (Nat.le_of_ble_eq_true rfl) hlc hc
theorem B85 {H:AH}:A9a Tryz.prog 66 0 [] H=some (.slice (some ⟨H.next,0,some 0⟩) 0 0,(H.new 1 []).2):=A6j Tryz.underlying66 A3n A76 rfl (Nat.le_of_ble_eq_true rfl)
theorem C4u {g o k:Nat}:A8b Tryz.prog 68 0 (.pointer (some ⟨g,o,some k⟩))=some (.pointer (some ⟨g,o+0,some k⟩)):=by have h:=A4b (g:=g) (o:=o) (k:=k) (f:=0) Tryz.underlying68 (Eq.refl (some _)) A6d rfl; exact h
theorem C63 {g o k:Nat}:A8b Tryz.prog 68 1 (.pointer (some ⟨g,o,some k⟩))=some (.pointer (some ⟨g,o+1,some k⟩)):=by have h:=A4b (g:=g) (o:=o) (k:=k) (f:=1) Tryz.underlying68 (Eq.refl (some _)) size_65 rfl; exact h
theorem C34 {g o k:Nat}:A8b Tryz.prog 68 2 (.pointer (some ⟨g,o,some k⟩))=some (.pointer (some ⟨g,o+2,some k⟩)):=by have h:=A4b (g:=g) (o:=o) (k:=k) (f:=2) Tryz.underlying68 (Eq.refl (some _)) size_66 rfl; exact h
theorem len_80 {H:AH} {n c:Nat} {a:Option Addr}:A6a Tryz.prog .len [80] [.slice a n c] H=some (.int .i64 (n:Int),H):=A0j Tryz.underlying80
theorem info_80:((Tryz.prog.info? 83).map fun i=>Nat.beq i.size 2 && Nat.ble i.bytes 65536)=some true:=by kernel_rfl
theorem app1_80 {H:AH} {len cap:Nat} {base:Option Addr} {x:List Value} (hx:x.length=2) (hb:len≤1073741823):A6a Tryz.prog .append [80,80] [.slice base len cap,.slice (some ⟨H.next,0,some 0⟩) 1 1] (H.new 2 x).2=A9f 2 base len cap 1 x (H.new 2 x).2:=A2r Tryz.underlying80 info_80 B0a rfl (Nat.le_of_ble_eq_true rfl) hx hb
theorem C4e {c:Bool} {a:Option Addr} {n m:Nat}:abin Tryz.prog 80 c .eql (.slice a n m) (.slice none 0 0)=some (.bool a.isNone):=A5j Tryz.underlying80
theorem B6x {c:Bool} {a:Option Addr} {n m:Nat}:abin Tryz.prog 80 c .neq (.slice a n m) (.slice none 0 0)=some (.bool a.isSome):=A3f Tryz.underlying80
theorem B5y {H:AH}:A9a Tryz.prog 80 0 [] H=some (.slice (some ⟨H.next,0,some 0⟩) 0 0,(H.new 2 []).2):=A6j Tryz.underlying80 A1v B0a rfl (Nat.le_of_ble_eq_true rfl)
theorem C50 {H:AH} {x:Value} (hx:(A0b x).length=2) (hc:(A0b x).all isCell=true):A9a Tryz.prog 80 1 [(0,x)] H=some (.slice (some ⟨H.next,0,some 0⟩) 1 1,(H.new 2 (A0b x)).2):=A1q Tryz.underlying80 A1v B0a rfl (Nat.le_of_ble_eq_true rfl) (Nat.le_of_ble_eq_true rfl) hx hc
theorem C8w {g o k:Nat}:A8b Tryz.prog 83 0 (.pointer (some ⟨g,o,some k⟩))=some (.pointer (some ⟨g,o+0,some k⟩)):=by have h:=A4b (g:=g) (o:=o) (k:=k) (f:=0) Tryz.underlying83 (Eq.refl (some _)) A6d rfl; exact h
theorem C1z {g o k:Nat}:A8b Tryz.prog 83 1 (.pointer (some ⟨g,o,some k⟩))=some (.pointer (some ⟨g,o+1,some k⟩)):=by have h:=A4b (g:=g) (o:=o) (k:=k) (f:=1) Tryz.underlying83 (Eq.refl (some _)) A6d rfl; exact h
theorem ia_88 {g o k n c i:Nat} {j:IntKind} (h:i < n):A4c Tryz.prog 88 (.slice (some ⟨g,o,some k⟩) n c) (.int j (i:Int))=some (.pointer (some ⟨g,o+i * 1,some k⟩)):=A9z Tryz.underlying88 A6d h
theorem len_88 {H:AH} {n c:Nat} {a:Option Addr}:A6a Tryz.prog .len [88] [.slice a n c] H=some (.int .i64 (n:Int),H):=A0j Tryz.underlying88
theorem C1b:((Tryz.prog.info? 3).map fun i=>Nat.beq i.size 1 && Nat.ble i.bytes 65536)=some true:=by kernel_rfl
theorem C8z {H:AH} {t' len cap n:Nat} {base:Option Addr} {x:Value} {new:List Value} (hx:Sh.srcKind Tryz.prog t' x=true) (hn:Sh.newCells 1 H x=some (n,new)) (hb:len+n≤1073741824):A6a Tryz.prog .append [88,t'] [.slice base len cap,x] H=A9f 1 base len cap n new H:=A8z Tryz.underlying88 C1b B2h rfl (Nat.le_of_ble_eq_true rfl) hx hn hb
theorem C41 {H:AH} {len cap:Nat} {base:Option Addr} {x:List Value} (hx:x.length=1) (hb:len≤1073741823):A6a Tryz.prog .append [88,88] [.slice base len cap,.slice (some ⟨H.next,0,some 0⟩) 1 1] (H.new 1 x).2=A9f 1 base len cap 1 x (H.new 1 x).2:=A2r Tryz.underlying88 C1b B2h rfl (Nat.le_of_ble_eq_true rfl) hx hb
theorem C0h {c:Bool} {a:Option Addr} {n m:Nat}:abin Tryz.prog 88 c .eql (.slice a n m) (.slice none 0 0)=some (.bool a.isNone):=A5j Tryz.underlying88
theorem B37 {c:Bool} {a:Option Addr} {n m:Nat}:abin Tryz.prog 88 c .neq (.slice a n m) (.slice none 0 0)=some (.bool a.isSome):=A3f Tryz.underlying88
theorem mk_88 {H:AH} {l c:Nat} (hlc:l≤c) (hc:c≤1073741824):A8i Tryz.prog 88 (.int .i64 (l:Int)) (.int .i64 (c:Int)) H=some (.slice (some ⟨H.next,0,some 0⟩) l c,(H.new 1 (List.replicate c (.int .i64 0))).2):=by rw [← A06]; exact B2i Tryz.underlying88 C1b B2h rfl (Nat.le_of_ble_eq_true rfl) hlc hc
theorem B92 {H:AH}:A9a Tryz.prog 88 0 [] H=some (.slice (some ⟨H.next,0,some 0⟩) 0 0,(H.new 1 []).2):=A6j Tryz.underlying88 A6d B2h rfl (Nat.le_of_ble_eq_true rfl)
theorem A2w {H:AH} {x:Value} (hx:(A0b x).length=1) (hc:(A0b x).all isCell=true):A9a Tryz.prog 88 1 [(0,x)] H=some (.slice (some ⟨H.next,0,some 0⟩) 1 1,(H.new 1 (A0b x)).2):=A1q Tryz.underlying88 A6d B2h rfl (Nat.le_of_ble_eq_true rfl) (Nat.le_of_ble_eq_true rfl) hx hc
theorem C1h {g o k:Nat}:A8b Tryz.prog 100 0 (.pointer (some ⟨g,o,some k⟩))=some (.pointer (some ⟨g,o+0,some k⟩)):=by have h:=A4b (g:=g) (o:=o) (k:=k) (f:=0) Tryz.underlying100 (Eq.refl (some _)) A6d rfl; exact h
theorem C7l {g o k:Nat}:A8b Tryz.prog 100 1 (.pointer (some ⟨g,o,some k⟩))=some (.pointer (some ⟨g,o+1,some k⟩)):=by have h:=A4b (g:=g) (o:=o) (k:=k) (f:=1) Tryz.underlying100 (Eq.refl (some _)) A6d rfl; exact h
theorem C9e {g o k:Nat}:A8b Tryz.prog 100 2 (.pointer (some ⟨g,o,some k⟩))=some (.pointer (some ⟨g,o+2,some k⟩)):=by have h:=A4b (g:=g) (o:=o) (k:=k) (f:=2) Tryz.underlying100 (Eq.refl (some _)) A6d rfl; exact h
theorem C1n {g o k:Nat}:A8b Tryz.prog 100 3 (.pointer (some ⟨g,o,some k⟩))=some (.pointer (some ⟨g,o+3,some k⟩)):=by have h:=A4b (g:=g) (o:=o) (k:=k) (f:=3) Tryz.underlying100 (Eq.refl (some _)) A6d rfl; exact h
theorem C1x {v0 v1 v2 v3:Value} (h0:isCell v0=true) (h1:isCell v1=true) (h2:isCell v2=true) (h3:isCell v3=true):A2m Tryz.prog 100 [(0,v0),(1,v1),(2,v2),(3,v3)]=some (.agg #[v0,v1,v2,v3]):=by refine A0i (pl:=[(0,1),(1,1),(2,1),(3,1)]) Tryz.underlying100 A82 (by kernel_rfl) ?_; have va:∀ xs:Array Value,A0b (.agg xs)=xs.toList:=fun _=>rfl; simp [A5u,A7b h0,A7b h1,A7b h2,A7b h3,va,h0,h1,h2,h3,setCells,A8a,A3c]
theorem C9t {H:AH} {n c:Nat} {a:Option Addr}:A6a Tryz.prog .len [105] [.slice a n c] H=some (.int .i64 (n:Int),H):=A0j Tryz.underlying105
theorem info_105:((Tryz.prog.info? 107).map fun i=>Nat.beq i.size 2 && Nat.ble i.bytes 65536)=some true:=by kernel_rfl
theorem C8l {H:AH} {len cap:Nat} {base:Option Addr} {x:List Value} (hx:x.length=2) (hb:len≤1073741823):A6a Tryz.prog .append [105,105] [.slice base len cap,.slice (some ⟨H.next,0,some 0⟩) 1 1] (H.new 2 x).2=A9f 2 base len cap 1 x (H.new 2 x).2:=A2r Tryz.underlying105 info_105 A42 rfl (Nat.le_of_ble_eq_true rfl) hx hb
theorem B44 {c:Bool} {a:Option Addr} {n m:Nat}:abin Tryz.prog 105 c .eql (.slice a n m) (.slice none 0 0)=some (.bool a.isNone):=A5j Tryz.underlying105
theorem B0n {c:Bool} {a:Option Addr} {n m:Nat}:abin Tryz.prog 105 c .neq (.slice a n m) (.slice none 0 0)=some (.bool a.isSome):=A3f Tryz.underlying105
theorem B1s {H:AH}:A9a Tryz.prog 105 0 [] H=some (.slice (some ⟨H.next,0,some 0⟩) 0 0,(H.new 2 []).2):=A6j Tryz.underlying105 A5t A42 rfl (Nat.le_of_ble_eq_true rfl)
theorem B0o {H:AH} {x:Value} (hx:(A0b x).length=2) (hc:(A0b x).all isCell=true):A9a Tryz.prog 105 1 [(0,x)] H=some (.slice (some ⟨H.next,0,some 0⟩) 1 1,(H.new 2 (A0b x)).2):=A1q Tryz.underlying105 A5t A42 rfl (Nat.le_of_ble_eq_true rfl) (Nat.le_of_ble_eq_true rfl) hx hc
theorem C3g {g o k:Nat}:A8b Tryz.prog 107 0 (.pointer (some ⟨g,o,some k⟩))=some (.pointer (some ⟨g,o+0,some k⟩)):=by have h:=A4b (g:=g) (o:=o) (k:=k) (f:=0) Tryz.underlying107 (Eq.refl (some _)) A2n rfl; exact h
theorem C7h {g o k:Nat}:A8b Tryz.prog 107 1 (.pointer (some ⟨g,o,some k⟩))=some (.pointer (some ⟨g,o+1,some k⟩)):=by have h:=A4b (g:=g) (o:=o) (k:=k) (f:=1) Tryz.underlying107 (Eq.refl (some _)) A6d rfl; exact h
theorem C5x {v0 v1:Value} (h0:isCell v0=true) (h1:isCell v1=true):A2m Tryz.prog 107 [(0,v0),(1,v1)]=some (.agg #[v0,v1]):=by refine A0i (pl:=[(0,1),(1,1)]) Tryz.underlying107 A42 (by kernel_rfl) ?_; have va:∀ xs:Array Value,A0b (.agg xs)=xs.toList:=fun _=>rfl; simp [A5u,A7b h0,A7b h1,va,h0,h1,setCells,A8a,A3c]
theorem C43 {H:AH} {n c:Nat} {a:Option Addr}:A6a Tryz.prog .len [123] [.slice a n c] H=some (.int .i64 (n:Int),H):=A0j Tryz.underlying123
theorem C5n:((Tryz.prog.info? 126).map fun i=>Nat.beq i.size 1 && Nat.ble i.bytes 65536)=some true:=by kernel_rfl
theorem app_123 {H:AH} {t' len cap n:Nat} {base:Option Addr} {x:Value} {new:List Value} (hx:Sh.srcKind Tryz.prog t' x=true) (hn:Sh.newCells 1 H x=some (n,new)) (hb:len+n≤1073741824):A6a Tryz.prog .append [123,t'] [.slice base len cap,x] H=A9f 1 base len cap n new H:=A8z Tryz.underlying123 C5n A32 rfl (Nat.le_of_ble_eq_true rfl) hx hn hb
theorem B26 {c:Bool} {a:Option Addr} {n m:Nat}:abin Tryz.prog 123 c .eql (.slice a n m) (.slice none 0 0)=some (.bool a.isNone):=A5j Tryz.underlying123
theorem B8m {c:Bool} {a:Option Addr} {n m:Nat}:abin Tryz.prog 123 c .neq (.slice a n m) (.slice none 0 0)=some (.bool a.isSome):=A3f Tryz.underlying123
theorem mk_123 {H:AH} {l c:Nat} (hlc:l≤c) (hc:c≤1073741824):A8i Tryz.prog 123 (.int .i64 (l:Int)) (.int .i64 (c:Int)) H=some (.slice (some ⟨H.next,0,some 0⟩) l c,(H.new 1 (List.replicate c (.slice none 0 0))).2):=by rw [← A06]; exact B2i Tryz.underlying123 C5n A32 rfl (Nat.le_of_ble_eq_true rfl) hlc hc
theorem B2s {H:AH}:A9a Tryz.prog 123 0 [] H=some (.slice (some ⟨H.next,0,some 0⟩) 0 0,(H.new 1 []).2):=A6j Tryz.underlying123 A2t A32 rfl (Nat.le_of_ble_eq_true rfl)
theorem C4r {H:AH} {x:Value} (hx:(A0b x).length=1) (hc:(A0b x).all isCell=true):A9a Tryz.prog 123 1 [(0,x)] H=some (.slice (some ⟨H.next,0,some 0⟩) 1 1,(H.new 1 (A0b x)).2):=A1q Tryz.underlying123 A2t A32 rfl (Nat.le_of_ble_eq_true rfl) (Nat.le_of_ble_eq_true rfl) hx hc
theorem C2j {g o k:Nat}:A8b Tryz.prog 125 0 (.pointer (some ⟨g,o,some k⟩))=some (.pointer (some ⟨g,o+0,some k⟩)):=by have h:=A4b (g:=g) (o:=o) (k:=k) (f:=0) Tryz.underlying125 (Eq.refl (some _)) A99 rfl; exact h
theorem C1l {g o k:Nat}:A8b Tryz.prog 125 1 (.pointer (some ⟨g,o,some k⟩))=some (.pointer (some ⟨g,o+1,some k⟩)):=by have h:=A4b (g:=g) (o:=o) (k:=k) (f:=1) Tryz.underlying125 (Eq.refl (some _)) C0d rfl; exact h
theorem C9k {g o k:Nat}:A8b Tryz.prog 125 2 (.pointer (some ⟨g,o,some k⟩))=some (.pointer (some ⟨g,o+2,some k⟩)):=by have h:=A4b (g:=g) (o:=o) (k:=k) (f:=2) Tryz.underlying125 (Eq.refl (some _)) B3w rfl; exact h
theorem C1i {g o k:Nat}:A8b Tryz.prog 125 3 (.pointer (some ⟨g,o,some k⟩))=some (.pointer (some ⟨g,o+3,some k⟩)):=by have h:=A4b (g:=g) (o:=o) (k:=k) (f:=3) Tryz.underlying125 (Eq.refl (some _)) B3w rfl; exact h
theorem C2v {H:AH} {n c:Nat} {a:Option Addr}:A6a Tryz.prog .len [126] [.slice a n c] H=some (.int .i64 (n:Int),H):=A0j Tryz.underlying126
theorem info_126:((Tryz.prog.info? 100).map fun i=>Nat.beq i.size 4 && Nat.ble i.bytes 65536)=some true:=by kernel_rfl
theorem C7d {H:AH} {len cap:Nat} {base:Option Addr} {x:List Value} (hx:x.length=4) (hb:len≤1073741823):A6a Tryz.prog .append [126,126] [.slice base len cap,.slice (some ⟨H.next,0,some 0⟩) 1 1] (H.new 4 x).2=A9f 4 base len cap 1 x (H.new 4 x).2:=A2r Tryz.underlying126 info_126 A82 rfl (Nat.le_of_ble_eq_true rfl) hx hb
theorem B52 {c:Bool} {a:Option Addr} {n m:Nat}:abin Tryz.prog 126 c .eql (.slice a n m) (.slice none 0 0)=some (.bool a.isNone):=A5j Tryz.underlying126
theorem B7r {c:Bool} {a:Option Addr} {n m:Nat}:abin Tryz.prog 126 c .neq (.slice a n m) (.slice none 0 0)=some (.bool a.isSome):=A3f Tryz.underlying126
theorem B9o {H:AH}:A9a Tryz.prog 126 0 [] H=some (.slice (some ⟨H.next,0,some 0⟩) 0 0,(H.new 4 []).2):=A6j Tryz.underlying126 A1x A82 rfl (Nat.le_of_ble_eq_true rfl)
theorem B8l {H:AH} {x:Value} (hx:(A0b x).length=4) (hc:(A0b x).all isCell=true):A9a Tryz.prog 126 1 [(0,x)] H=some (.slice (some ⟨H.next,0,some 0⟩) 1 1,(H.new 4 (A0b x)).2):=A1q Tryz.underlying126 A1x A82 rfl (Nat.le_of_ble_eq_true rfl) (Nat.le_of_ble_eq_true rfl) hx hc
theorem C40 {H:AH} {n c:Nat} {a:Option Addr}:A6a Tryz.prog .len [131] [.slice a n c] H=some (.int .i64 (n:Int),H):=A0j Tryz.underlying131
theorem info_131:((Tryz.prog.info? 23).map fun i=>Nat.beq i.size 1 && Nat.ble i.bytes 65536)=some true:=by kernel_rfl
theorem B63 {c:Bool} {a:Option Addr} {n m:Nat}:abin Tryz.prog 131 c .eql (.slice a n m) (.slice none 0 0)=some (.bool a.isNone):=A5j Tryz.underlying131
theorem B8q {c:Bool} {a:Option Addr} {n m:Nat}:abin Tryz.prog 131 c .neq (.slice a n m) (.slice none 0 0)=some (.bool a.isSome):=A3f Tryz.underlying131
theorem mk_131 {H:AH} {l c:Nat} (hlc:l≤c) (hc:c≤1073741824):A8i Tryz.prog 131 (.int .i64 (l:Int)) (.int .i64 (c:Int)) H=some (.slice (some ⟨H.next,0,some 0⟩) l c,(H.new 1 (List.replicate c (.slice none 0 0))).2):=by rw [← A06]; exact B2i Tryz.underlying131 info_131 B8v rfl (Nat.le_of_ble_eq_true rfl) hlc hc
theorem B7p {H:AH}:A9a Tryz.prog 131 0 [] H=some (.slice (some ⟨H.next,0,some 0⟩) 0 0,(H.new 1 []).2):=A6j Tryz.underlying131 A14 B8v rfl (Nat.le_of_ble_eq_true rfl)
theorem C4y {H:AH} {n c:Nat} {a:Option Addr}:A6a Tryz.prog .len [134] [.slice a n c] H=some (.int .i64 (n:Int),H):=A0j Tryz.underlying134
theorem info_134:((Tryz.prog.info? 137).map fun i=>Nat.beq i.size 3 && Nat.ble i.bytes 65536)=some true:=by kernel_rfl
theorem app1_134 {H:AH} {len cap:Nat} {base:Option Addr} {x:List Value} (hx:x.length=3) (hb:len≤1073741823):A6a Tryz.prog .append [134,134] [.slice base len cap,.slice (some ⟨H.next,0,some 0⟩) 1 1] (H.new 3 x).2=A9f 3 base len cap 1 x (H.new 3 x).2:=A2r Tryz.underlying134 info_134 A41 rfl (Nat.le_of_ble_eq_true rfl) hx hb
theorem B35 {c:Bool} {a:Option Addr} {n m:Nat}:abin Tryz.prog 134 c .eql (.slice a n m) (.slice none 0 0)=some (.bool a.isNone):=A5j Tryz.underlying134
theorem B2p {c:Bool} {a:Option Addr} {n m:Nat}:abin Tryz.prog 134 c .neq (.slice a n m) (.slice none 0 0)=some (.bool a.isSome):=A3f Tryz.underlying134
theorem B5q {H:AH}:A9a Tryz.prog 134 0 [] H=some (.slice (some ⟨H.next,0,some 0⟩) 0 0,(H.new 3 []).2):=A6j Tryz.underlying134 A91 A41 rfl (Nat.le_of_ble_eq_true rfl)
theorem C5o {H:AH} {x:Value} (hx:(A0b x).length=3) (hc:(A0b x).all isCell=true):A9a Tryz.prog 134 1 [(0,x)] H=some (.slice (some ⟨H.next,0,some 0⟩) 1 1,(H.new 3 (A0b x)).2):=A1q Tryz.underlying134 A91 A41 rfl (Nat.le_of_ble_eq_true rfl) (Nat.le_of_ble_eq_true rfl) hx hc
theorem C3n {g o k:Nat}:A8b Tryz.prog 137 0 (.pointer (some ⟨g,o,some k⟩))=some (.pointer (some ⟨g,o+0,some k⟩)):=by have h:=A4b (g:=g) (o:=o) (k:=k) (f:=0) Tryz.underlying137 (Eq.refl (some _)) A6d rfl; exact h
theorem C3m {g o k:Nat}:A8b Tryz.prog 137 1 (.pointer (some ⟨g,o,some k⟩))=some (.pointer (some ⟨g,o+1,some k⟩)):=by have h:=A4b (g:=g) (o:=o) (k:=k) (f:=1) Tryz.underlying137 (Eq.refl (some _)) A1v rfl; exact h
theorem C7t {H:AH} {n c:Nat} {a:Option Addr}:A6a Tryz.prog .len [144] [.slice a n c] H=some (.int .i64 (n:Int),H):=A0j Tryz.underlying144
theorem B1z {c:Bool} {a:Option Addr} {n m:Nat}:abin Tryz.prog 144 c .eql (.slice a n m) (.slice none 0 0)=some (.bool a.isNone):=A5j Tryz.underlying144
theorem B3n {c:Bool} {a:Option Addr} {n m:Nat}:abin Tryz.prog 144 c .neq (.slice a n m) (.slice none 0 0)=some (.bool a.isSome):=A3f Tryz.underlying144
theorem B7n {H:AH}:A9a Tryz.prog 144 0 [] H=some (.slice (some ⟨H.next,0,some 0⟩) 0 0,(H.new 1 []).2):=A6j Tryz.underlying144 size_145 B4t rfl (Nat.le_of_ble_eq_true rfl)
theorem C1g {H:AH} {n:Int}:A9k Tryz.prog 3 146 (.int .i64 n) H=some (.int .u64 (IntKind.wrap .u64 n),H):=A0z Tryz.underlying3 Tryz.underlying146
theorem C4i {H:AH} {n:Int}:A9k Tryz.prog 3 208 (.int .i64 n) H=some (.int .u64 (IntKind.wrap .u64 n),H):=A0z Tryz.underlying3 Tryz.underlying208
theorem cv_5_3 {H:AH} {n:Int}:A9k Tryz.prog 5 3 (.int .u8 n) H=some (.int .i64 (IntKind.wrap .i64 n),H):=A0z Tryz.underlying5 Tryz.underlying3
theorem C4j {H:AH} {n:Int}:A9k Tryz.prog 145 5 (.int .u64 n) H=some (.int .u8 (IntKind.wrap .u8 n),H):=A0z Tryz.underlying145 Tryz.underlying5
theorem C1o {H:AH} {n:Int}:A9k Tryz.prog 146 3 (.int .u64 n) H=some (.int .i64 (IntKind.wrap .i64 n),H):=A0z Tryz.underlying146 Tryz.underlying3
theorem B2m {H:AH} {n:Int}:A9k Tryz.prog 146 201 (.int .u64 n) H=some (.int .u32 (IntKind.wrap .u32 n),H):=A0z Tryz.underlying146 Tryz.underlying201
theorem C0g {H:AH} {n:Int}:A9k Tryz.prog 201 5 (.int .u32 n) H=some (.int .u8 (IntKind.wrap .u8 n),H):=A0z Tryz.underlying201 Tryz.underlying5
theorem B16:type_of% (And.intro @zero_1 (And.intro @ld_1 (And.intro @zero_2 (And.intro @ld_2 (And.intro @B2h (And.intro @ld_3 (And.intro @A76 (And.intro @ld_4 (And.intro @zero_5 (And.intro @ld_5 (And.intro @C6k (And.intro @ld_9 (And.intro @B7s (And.intro @ld_22 (And.intro @B8v (And.intro @ld_23 (And.intro @C7z (And.intro @ld_24 (And.intro @A04 (And.intro @ld_26 (And.intro @C2x (And.intro @ld_30 (And.intro @C15 (And.intro @ld_31 (And.intro @C01 (And.intro @ld_52 (And.intro @A49 (And.intro @ld_54 (And.intro @A78 (And.intro @ld_56 (And.intro @C21 (And.intro @ld_59 (And.intro @B67 (And.intro @ld_61 (And.intro @C9y (And.intro @ld_65 (And.intro @C32 (And.intro @ld_66 (And.intro @B78 (And.intro @ld_68 (And.intro @C96 (And.intro @ld_73 (And.intro @C3u (And.intro @ld_80 (And.intro @B0a (And.intro @ld_83 (And.intro @C6w (And.intro @ld_88 (And.intro @A82 (And.intro @ld_100 (And.intro @B5d (And.intro @ld_105 (And.intro @A42 (And.intro @ld_107 (And.intro @C6n (And.intro @ld_117 (And.intro @C9m (And.intro @ld_119 (And.intro @C2d (And.intro @ld_123 (And.intro @B1v (And.intro @ld_125 (And.intro @A32 (And.intro @ld_126 (And.intro @C9i (And.intro @ld_127 (And.intro @C4d (And.intro @ld_131 (And.intro @C2g (And.intro @ld_134 (And.intro @C6j (And.intro @ld_135 (And.intro @A41 (And.intro @ld_137 (And.intro @C9j (And.intro @ld_138 (And.intro @C3i (And.intro @ld_144 (And.intro @B4t (And.intro @ld_145 (And.intro @C5k (And.intro @ld_146 (And.intro @C1e (And.intro @ld_147 (And.intro @C3e (And.intro @ld_158 (And.intro @C6g (And.intro @ld_179 (And.intro @C3j (And.intro @ld_193 (And.intro @C2f (And.intro @ld_201 (And.intro @C5h (And.intro @ld_208 (And.intro @C2m (And.intro @ld_212 (And.intro @C5i (And.intro @ld_216 (And.intro @len_9 (And.intro @len_22 (And.intro @C5j (And.intro @B06 (And.intro @B3y (And.intro @len_23 (And.intro @C3f (And.intro @B3z (And.intro @B2z (And.intro @len_24 (And.intro @C0k (And.intro @B15 (And.intro @B95 (And.intro @C9u (And.intro @C3w (And.intro @C91 (And.intro @C8x (And.intro @len_30 (And.intro @C3d (And.intro @B70 (And.intro @B21 (And.intro @len_52 (And.intro @C1j (And.intro @B8y (And.intro @B47 (And.intro @C0z (And.intro @C85 (And.intro @C9x (And.intro @C33 (And.intro @C51 (And.intro @C7u (And.intro @C5t (And.intro @C9v (And.intro @len_65 (And.intro @C5e (And.intro @B8x (And.intro @B02 (And.intro @len_66 (And.intro @C7k (And.intro @B1x (And.intro @B85 (And.intro @C4u (And.intro @C63 (And.intro @C34 (And.intro @len_80 (And.intro @C4e (And.intro @B6x (And.intro @B5y (And.intro @C8w (And.intro @C1z (And.intro @len_88 (And.intro @C0h (And.intro @B37 (And.intro @B92 (And.intro @C1h (And.intro @C7l (And.intro @C9e (And.intro @C1n (And.intro @C9t (And.intro @B44 (And.intro @B0n (And.intro @B1s (And.intro @C3g (And.intro @C7h (And.intro @C43 (And.intro @B26 (And.intro @B8m (And.intro @B2s (And.intro @C2j (And.intro @C1l (And.intro @C9k (And.intro @C1i (And.intro @C2v (And.intro @B52 (And.intro @B7r (And.intro @B9o (And.intro @C40 (And.intro @B63 (And.intro @B8q (And.intro @B7p (And.intro @C4y (And.intro @B35 (And.intro @B2p (And.intro @B5q (And.intro @C3n (And.intro @C3m (And.intro @C7t (And.intro @B1z (And.intro @B3n (And.intro @B7n (And.intro @C1g (And.intro @C4i (And.intro @cv_5_3 (And.intro @C4j (And.intro @C1o (And.intro @B2m (@C0g))))))))))))))))))))))))))))))))))))))))))))))))))))))))))))))))))))))))))))))))))))))))))))))))))))))))))))))))))))))))))))))))))))))))))))))))))))))))))))))))))))))))))))))))))))))))))))))))))):=And.intro @zero_1 (And.intro @ld_1 (And.intro @zero_2 (And.intro @ld_2 (And.intro @B2h (And.intro @ld_3 (And.intro @A76 (And.intro @ld_4 (And.intro @zero_5 (And.intro @ld_5 (And.intro @C6k (And.intro @ld_9 (And.intro @B7s (And.intro @ld_22 (And.intro @B8v (And.intro @ld_23 (And.intro @C7z (And.intro @ld_24 (And.intro @A04 (And.intro @ld_26 (And.intro @C2x (And.intro @ld_30 (And.intro @C15 (And.intro @ld_31 (And.intro @C01 (And.intro @ld_52 (And.intro @A49 (And.intro @ld_54 (And.intro @A78 (And.intro @ld_56 (And.intro @C21 (And.intro @ld_59 (And.intro @B67 (And.intro @ld_61 (And.intro @C9y (And.intro @ld_65 (And.intro @C32 (And.intro @ld_66 (And.intro @B78 (And.intro @ld_68 (And.intro @C96 (And.intro @ld_73 (And.intro @C3u (And.intro @ld_80 (And.intro @B0a (And.intro @ld_83 (And.intro @C6w (And.intro @ld_88 (And.intro @A82 (And.intro @ld_100 (And.intro @B5d (And.intro @ld_105 (And.intro @A42 (And.intro @ld_107 (And.intro @C6n (And.intro @ld_117 (And.intro @C9m (And.intro @ld_119 (And.intro @C2d (And.intro @ld_123 (And.intro @B1v (And.intro @ld_125 (And.intro @A32 (And.intro @ld_126 (And.intro @C9i (And.intro @ld_127 (And.intro @C4d (And.intro @ld_131 (And.intro @C2g (And.intro @ld_134 (And.intro @C6j (And.intro @ld_135 (And.intro @A41 (And.intro @ld_137 (And.intro @C9j (And.intro @ld_138 (And.intro @C3i (And.intro @ld_144 (And.intro @B4t (And.intro @ld_145 (And.intro @C5k (And.intro @ld_146 (And.intro @C1e (And.intro @ld_147 (And.intro @C3e (And.intro @ld_158 (And.intro @C6g (And.intro @ld_179 (And.intro @C3j (And.intro @ld_193 (And.intro @C2f (And.intro @ld_201 (And.intro @C5h (And.intro @ld_208 (And.intro @C2m (And.intro @ld_212 (And.intro @C5i (And.intro @ld_216 (And.intro @len_9 (And.intro @len_22 (And.intro @C5j (And.intro @B06 (And.intro @B3y (And.intro @len_23 (And.intro @C3f (And.intro @B3z (And.intro @B2z (And.intro @len_24 (And.intro @C0k (And.intro @B15 (And.intro @B95 (And.intro @C9u (And.intro @C3w (And.intro @C91 (And.intro @C8x (And.intro @len_30 (And.intro @C3d (And.intro @B70 (And.intro @B21 (And.intro @len_52 (And.intro @C1j (And.intro @B8y (And.intro @B47 (And.intro @C0z (And.intro @C85 (And.intro @C9x (And.intro @C33 (And.intro @C51 (And.intro @C7u (And.intro @C5t (And.intro @C9v (And.intro @len_65 (And.intro @C5e (And.intro @B8x (And.intro @B02 (And.intro @len_66 (And.intro @C7k (And.intro @B1x (And.intro @B85 (And.intro @C4u (And.intro @C63 (And.intro @C34 (And.intro @len_80 (And.intro @C4e (And.intro @B6x (And.intro @B5y (And.intro @C8w (And.intro @C1z (And.intro @len_88 (And.intro @C0h (And.intro @B37 (And.intro @B92 (And.intro @C1h (And.intro @C7l (And.intro @C9e (And.intro @C1n (And.intro @C9t (And.intro @B44 (And.intro @B0n (And.intro @B1s (And.intro @C3g (And.intro @C7h (And.intro @C43 (And.intro @B26 (And.intro @B8m (And.intro @B2s (And.intro @C2j (And.intro @C1l (And.intro @C9k (And.intro @C1i (And.intro @C2v (And.intro @B52 (And.intro @B7r (And.intro @B9o (And.intro @C40 (And.intro @B63 (And.intro @B8q (And.intro @B7p (And.intro @C4y (And.intro @B35 (And.intro @B2p (And.intro @B5q (And.intro @C3n (And.intro @C3m (And.intro @C7t (And.intro @B1z (And.intro @B3n (And.intro @B7n (And.intro @C1g (And.intro @C4i (And.intro @cv_5_3 (And.intro @C4j (And.intro @C1o (And.intro @B2m (@C0g))))))))))))))))))))))))))))))))))))))))))))))))))))))))))))))))))))))))))))))))))))))))))))))))))))))))))))))))))))))))))))))))))))))))))))))))))))))))))))))))))))))))))))))))))))))))))))))))))
theorem sx:type_of% (And.intro @Sh.sy @B16):=And.intro @Sh.sy @B16
end Go.Proofs.YtnoengaghabmjaaGreat
/- Nets in memory: what is made and written of them. -/
set_option maxHeartbeats 4000000
namespace Go.Proofs.YtnoengaghabmjaaGreat
open Go Go.Proofs Go.Proofs.Sh
section
variable {H:AH} {g:Nat} {sg ar en v:Value} {N:NetD}
theorem A1g (hsg:isCell sg=true) (har:isCell ar=true) (hen:isCell en=true) {n:Int}:anew Tryz.prog 26 H (.agg #[sg,.int .i64 n,ar,en])=some (.pointer (some ⟨H.next,0,some 0⟩),(H.new 4 [sg,.int .i64 n,ar,en]).2):=
 A4o (vs:=[sg,.int .i64 n,ar,en]) A0w rfl (by simp [hsg,har,hen,show isCell (.int .i64 n)=true from rfl])
theorem A02 (hsg:isCell sg=true) (har:isCell ar=true) (hen:isCell en=true) {n:Int} {p:Addr}:A4f Tryz.prog 26 H (.agg #[sg,.int .i64 n,ar,en]) (.pointer (some p))=H.write p [sg,.int .i64 n,ar,en]:=
 A7p (vs:=[sg,.int .i64 n,ar,en]) A0w rfl (by simp [hsg,har,hen,show isCell (.int .i64 n)=true from rfl])
theorem A5b:anew Tryz.prog 26 H (.agg #[.slice none 0 0,.int .i64 0,.slice none 0 0,.slice none 0 0])=some (.pointer (some ⟨H.next,0,some 0⟩),(H.new 4 [.slice none 0 0,.int .i64 0,.slice none 0 0,.slice none 0 0]).2):=A4o (vs:=[.slice none 0 0,.int .i64 0,.slice none 0 0,.slice none 0 0]) A0w rfl rfl
theorem A5e:anew Tryz.prog 54 H (.agg #[.int .i64 0,.string ⟨#[]⟩,.string ⟨#[]⟩,.int .i64 0,.int .i64 0])=some (.pointer (some ⟨H.next,0,some 0⟩),(H.new 5 [.int .i64 0,.string ⟨#[]⟩,.string ⟨#[]⟩,.int .i64 0,.int .i64 0]).2):=
 A4o (vs:=[.int .i64 0,.string ⟨#[]⟩,.string ⟨#[]⟩,.int .i64 0,.int .i64 0]) A9l rfl rfl
theorem A8e:anew Tryz.prog 56 H (.agg #[.int .i64 0,.int .i64 0])=some (.pointer (some ⟨H.next,0,some 0⟩),(H.new 2 [.int .i64 0,.int .i64 0]).2):=A4o (vs:=[.int .i64 0,.int .i64 0]) A1r rfl rfl
theorem A9g {a:ArcD}:anew Tryz.prog 54 H (.agg a.cells.toArray)=some (.pointer (some ⟨H.next,0,some 0⟩),(H.new 5 a.cells).2):=A4o (vs:=a.cells) A9l rfl rfl
theorem A1h {a:EndD}:anew Tryz.prog 56 H (.agg a.cells.toArray)=some (.pointer (some ⟨H.next,0,some 0⟩),(H.new 2 a.cells).2):=A4o (vs:=a.cells) A1r rfl rfl
theorem A5c {a:ArcD} {p:Addr}:A4f Tryz.prog 54 H (.agg a.cells.toArray) (.pointer (some p))=H.write p a.cells:=A7p A9l rfl rfl
theorem A7c {a:EndD} {p:Addr}:A4f Tryz.prog 56 H (.agg a.cells.toArray) (.pointer (some p))=H.write p a.cells:=A7p A1r rfl rfl
theorem A2e {a:ArcD} {x0 x1 x2 x3 x4:Value}:(H.new 5 [x0,x1,x2,x3,x4]).2.write ⟨H.next,0,some 0⟩ a.cells=some (H.new 5 a.cells).2:=A4p rfl
theorem A7e {a:EndD} {x0 x1:Value}:(H.new 2 [x0,x1]).2.write ⟨H.next,0,some 0⟩ a.cells=some (H.new 2 a.cells).2:=A4p rfl
theorem A5d {x0 x1 x2 x3 y0 y1 y2 y3:Value}:(H.new 4 [x0,x1,x2,x3]).2.write ⟨H.next,0,some 0⟩ [y0,y1,y2,y3]=some (H.new 4 [y0,y1,y2,y3]).2:=A4p rfl
theorem arc0 {a:ArcD}:(H.new 5 a.cells).2.cell ⟨H.next,0,some 0⟩=some (.int .i64 a.fr):=A9i _ _ _
theorem arc1 {a:ArcD}:(H.new 5 a.cells).2.cell ⟨H.next,1,some 0⟩=some (.string a.inn):=A9i _ _ _
theorem arc2 {a:ArcD}:(H.new 5 a.cells).2.cell ⟨H.next,2,some 0⟩=some (.string a.out):=A9i _ _ _
theorem arc3 {a:ArcD}:(H.new 5 a.cells).2.cell ⟨H.next,3,some 0⟩=some (.int .i64 a.to):=A9i _ _ _
theorem arc4 {a:ArcD}:(H.new 5 a.cells).2.cell ⟨H.next,4,some 0⟩=some (.int .i64 a.cost):=A9i _ _ _
theorem end0 {a:EndD}:(H.new 2 a.cells).2.cell ⟨H.next,0,some 0⟩=some (.int .i64 a.state):=A9i _ _ _
theorem end1 {a:EndD}:(H.new 2 a.cells).2.cell ⟨H.next,1,some 0⟩=some (.int .i64 a.cost):=A9i _ _ _
theorem A2a (h:NetBox H g sg ar en N) {H':AH}:A6a Tryz.prog .len [22] [sg] H'=some (.int .i64 (N.sigma.length:Int),H'):=by rw [h.hsg.len Tryz.underlying22 H',List.length_map]
theorem A1a (h:NetBox H g sg ar en N) {H':AH}:A6a Tryz.prog .len [23] [ar] H'=some (.int .i64 (N.arcs.length:Int),H'):=by rw [h.har.len Tryz.underlying23 H',List.length_map]
theorem A3a (h:NetBox H g sg ar en N) {H':AH}:A6a Tryz.prog .len [24] [en] H'=some (.int .i64 (N.ends.length:Int),H'):=by rw [h.hen.len Tryz.underlying24 H',List.length_map]
theorem B1u {d:Nat} {a b:Int}:eqT Tryz.prog (d+1) 3 (.int .i64 a) (.int .i64 b)=some (decide (a=b)):=by
 simp only [eqT,Tryz.underlying3,A8g,cond_true,A3s]; rfl
end
end Go.Proofs.YtnoengaghabmjaaGreat
