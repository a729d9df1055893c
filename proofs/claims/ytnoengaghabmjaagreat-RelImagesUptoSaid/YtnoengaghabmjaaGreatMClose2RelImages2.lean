/- A part of the proof: Facts, NetFacts. -/
import Derived.Test.YtnoengaghabmjaaGreatProg
import Derived.Test.YtnoengaghabmjaaGreatMClose2RelImages1
import Derived.KernelRfl
set_option linter.unusedVariables false
set_option linter.unusedSimpArgs false
/- What the types of this program are, for walking. Made by program. -/
set_option linter.unusedVariables false
set_option maxRecDepth 20000
namespace Go.Proofs.YtnoengaghabmjaaGreat
open Go Go.Proofs Go.Proofs.Sh
theorem agg_1:A7f Tryz.prog 1=some false:=by kernel_rfl
theorem zero_1:zeroAt Tryz.prog 1=some (.nilFunc):=by kernel_rfl
theorem ld_1 {H:AH} {a:Addr}:A9e Tryz.prog 1 H (.pointer (some a))=H.cell a:=A4b agg_1
theorem agg_2:A7f Tryz.prog 2=some false:=by kernel_rfl
theorem zero_2:zeroAt Tryz.prog 2=some (.int .i64 0):=by kernel_rfl
theorem ld_2 {H:AH} {a:Addr}:A9e Tryz.prog 2 H (.pointer (some a))=H.cell a:=A4b agg_2
theorem B8w:A7f Tryz.prog 3=some false:=by kernel_rfl
theorem A0e:A7b Tryz.prog 3=some 1:=by kernel_rfl
theorem B5y:Tryz.prog.cellsOf 3=1:=by kernel_rfl
theorem B9a:zeroAt Tryz.prog 3=some (.int .i64 0):=by kernel_rfl
theorem ld_3 {H:AH} {a:Addr}:A9e Tryz.prog 3 H (.pointer (some a))=H.cell a:=A4b B8w
theorem agg_4:A7f Tryz.prog 4=some false:=by kernel_rfl
theorem A8p:A7b Tryz.prog 4=some 1:=by kernel_rfl
theorem A75:zeroAt Tryz.prog 4=some (.bool false):=by kernel_rfl
theorem ld_4 {H:AH} {a:Addr}:A9e Tryz.prog 4 H (.pointer (some a))=H.cell a:=A4b agg_4
theorem agg_5:A7f Tryz.prog 5=some false:=by kernel_rfl
theorem zero_5:zeroAt Tryz.prog 5=some (.int .u8 0):=by kernel_rfl
theorem ld_5 {H:AH} {a:Addr}:A9e Tryz.prog 5 H (.pointer (some a))=H.cell a:=A4b agg_5
theorem agg_9:A7f Tryz.prog 9=some false:=by kernel_rfl
theorem A1l:A7b Tryz.prog 9=some 1:=by kernel_rfl
theorem C9f:Tryz.prog.cellsOf 9=1:=by kernel_rfl
theorem B41:zeroAt Tryz.prog 9=some (.string ⟨#[]⟩):=by kernel_rfl
theorem ld_9 {H:AH} {a:Addr}:A9e Tryz.prog 9 H (.pointer (some a))=H.cell a:=A4b agg_9
theorem agg_22:A7f Tryz.prog 22=some false:=by kernel_rfl
theorem A92:A7b Tryz.prog 22=some 1:=by kernel_rfl
theorem cells_22:Tryz.prog.cellsOf 22=1:=by kernel_rfl
theorem B0k:zeroAt Tryz.prog 22=some (.slice none 0 0):=by kernel_rfl
theorem ld_22 {H:AH} {a:Addr}:A9e Tryz.prog 22 H (.pointer (some a))=H.cell a:=A4b agg_22
theorem agg_23:A7f Tryz.prog 23=some false:=by kernel_rfl
theorem A82:A7b Tryz.prog 23=some 1:=by kernel_rfl
theorem cells_23:Tryz.prog.cellsOf 23=1:=by kernel_rfl
theorem B8l:zeroAt Tryz.prog 23=some (.slice none 0 0):=by kernel_rfl
theorem ld_23 {H:AH} {a:Addr}:A9e Tryz.prog 23 H (.pointer (some a))=H.cell a:=A4b agg_23
theorem agg_24:A7f Tryz.prog 24=some false:=by kernel_rfl
theorem C8h:A7b Tryz.prog 24=some 1:=by kernel_rfl
theorem cells_24:Tryz.prog.cellsOf 24=1:=by kernel_rfl
theorem C1l:zeroAt Tryz.prog 24=some (.slice none 0 0):=by kernel_rfl
theorem ld_24 {H:AH} {a:Addr}:A9e Tryz.prog 24 H (.pointer (some a))=H.cell a:=A4b agg_24
theorem agg_26:A7f Tryz.prog 26=some true:=by kernel_rfl
theorem A1t:A7b Tryz.prog 26=some 4:=by kernel_rfl
theorem cells_26:Tryz.prog.cellsOf 26=4:=by kernel_rfl
theorem A62:zeroAt Tryz.prog 26=some (.agg #[.slice none 0 0,.int .i64 0,.slice none 0 0,.slice none 0 0]):=by kernel_rfl
theorem ld_26 {H:AH} {a:Addr}:A9e Tryz.prog 26 H (.pointer (some a))=(H.cells a 4).map fun l=>.agg l.toArray:=A3o agg_26 A1t
theorem agg_30:A7f Tryz.prog 30=some false:=by kernel_rfl
theorem C4d:zeroAt Tryz.prog 30=some (.slice none 0 0):=by kernel_rfl
theorem ld_30 {H:AH} {a:Addr}:A9e Tryz.prog 30 H (.pointer (some a))=H.cell a:=A4b agg_30
theorem agg_31:A7f Tryz.prog 31=some false:=by kernel_rfl
theorem C6o:zeroAt Tryz.prog 31=some (.int .i64 0):=by kernel_rfl
theorem ld_31 {H:AH} {a:Addr}:A9e Tryz.prog 31 H (.pointer (some a))=H.cell a:=A4b agg_31
theorem agg_52:A7f Tryz.prog 52=some false:=by kernel_rfl
theorem C2n:zeroAt Tryz.prog 52=some (.slice none 0 0):=by kernel_rfl
theorem ld_52 {H:AH} {a:Addr}:A9e Tryz.prog 52 H (.pointer (some a))=H.cell a:=A4b agg_52
theorem agg_54:A7f Tryz.prog 54=some true:=by kernel_rfl
theorem A3l:A7b Tryz.prog 54=some 5:=by kernel_rfl
theorem B62:Tryz.prog.cellsOf 54=5:=by kernel_rfl
theorem A44:zeroAt Tryz.prog 54=some (.agg #[.int .i64 0,.string ⟨#[]⟩,.string ⟨#[]⟩,.int .i64 0,.int .i64 0]):=by kernel_rfl
theorem ld_54 {H:AH} {a:Addr}:A9e Tryz.prog 54 H (.pointer (some a))=(H.cells a 5).map fun l=>.agg l.toArray:=A3o agg_54 A3l
theorem agg_56:A7f Tryz.prog 56=some true:=by kernel_rfl
theorem A8o:A7b Tryz.prog 56=some 2:=by kernel_rfl
theorem B21:Tryz.prog.cellsOf 56=2:=by kernel_rfl
theorem A03:zeroAt Tryz.prog 56=some (.agg #[.int .i64 0,.int .i64 0]):=by kernel_rfl
theorem ld_56 {H:AH} {a:Addr}:A9e Tryz.prog 56 H (.pointer (some a))=(H.cells a 2).map fun l=>.agg l.toArray:=A3o agg_56 A8o
theorem agg_59:A7f Tryz.prog 59=some false:=by kernel_rfl
theorem size_59:A7b Tryz.prog 59=some 1:=by kernel_rfl
theorem C6h:zeroAt Tryz.prog 59=some (.nilFunc):=by kernel_rfl
theorem ld_59 {H:AH} {a:Addr}:A9e Tryz.prog 59 H (.pointer (some a))=H.cell a:=A4b agg_59
theorem agg_61:A7f Tryz.prog 61=some true:=by kernel_rfl
theorem B7w:A7b Tryz.prog 61=some 1:=by kernel_rfl
theorem B4y:zeroAt Tryz.prog 61=some (.agg #[.nilFunc]):=by kernel_rfl
theorem ld_61 {H:AH} {a:Addr}:A9e Tryz.prog 61 H (.pointer (some a))=(H.cells a 1).map fun l=>.agg l.toArray:=A3o agg_61 B7w
theorem agg_65:A7f Tryz.prog 65=some false:=by kernel_rfl
theorem size_65:A7b Tryz.prog 65=some 1:=by kernel_rfl
theorem C0j:zeroAt Tryz.prog 65=some (.slice none 0 0):=by kernel_rfl
theorem ld_65 {H:AH} {a:Addr}:A9e Tryz.prog 65 H (.pointer (some a))=H.cell a:=A4b agg_65
theorem agg_66:A7f Tryz.prog 66=some false:=by kernel_rfl
theorem size_66:A7b Tryz.prog 66=some 1:=by kernel_rfl
theorem C7o:zeroAt Tryz.prog 66=some (.slice none 0 0):=by kernel_rfl
theorem ld_66 {H:AH} {a:Addr}:A9e Tryz.prog 66 H (.pointer (some a))=H.cell a:=A4b agg_66
theorem agg_68:A7f Tryz.prog 68=some true:=by kernel_rfl
theorem size_68:A7b Tryz.prog 68=some 3:=by kernel_rfl
theorem C6g:zeroAt Tryz.prog 68=some (.agg #[.int .i64 0,.slice none 0 0,.slice none 0 0]):=by kernel_rfl
theorem ld_68 {H:AH} {a:Addr}:A9e Tryz.prog 68 H (.pointer (some a))=(H.cells a 3).map fun l=>.agg l.toArray:=A3o agg_68 size_68
theorem agg_73:A7f Tryz.prog 73=some false:=by kernel_rfl
theorem C4o:zeroAt Tryz.prog 73=some (.pointer none):=by kernel_rfl
theorem ld_73 {H:AH} {a:Addr}:A9e Tryz.prog 73 H (.pointer (some a))=H.cell a:=A4b agg_73
theorem agg_80:A7f Tryz.prog 80=some false:=by kernel_rfl
theorem C7g:zeroAt Tryz.prog 80=some (.slice none 0 0):=by kernel_rfl
theorem ld_80 {H:AH} {a:Addr}:A9e Tryz.prog 80 H (.pointer (some a))=H.cell a:=A4b agg_80
theorem C8i:A7f Tryz.prog 83=some true:=by kernel_rfl
theorem A0t:A7b Tryz.prog 83=some 2:=by kernel_rfl
theorem A43:zeroAt Tryz.prog 83=some (.agg #[.int .i64 0,.int .i64 0]):=by kernel_rfl
theorem ld_83 {H:AH} {a:Addr}:A9e Tryz.prog 83 H (.pointer (some a))=(H.cells a 2).map fun l=>.agg l.toArray:=A3o C8i A0t
theorem agg_88:A7f Tryz.prog 88=some false:=by kernel_rfl
theorem C3e:A7b Tryz.prog 88=some 1:=by kernel_rfl
theorem C4i:zeroAt Tryz.prog 88=some (.slice none 0 0):=by kernel_rfl
theorem ld_88 {H:AH} {a:Addr}:A9e Tryz.prog 88 H (.pointer (some a))=H.cell a:=A4b agg_88
theorem agg_100:A7f Tryz.prog 100=some true:=by kernel_rfl
theorem A6u:A7b Tryz.prog 100=some 4:=by kernel_rfl
theorem A5w:zeroAt Tryz.prog 100=some (.agg #[.int .i64 0,.int .i64 0,.int .i64 0,.int .i64 0]):=by kernel_rfl
theorem ld_100 {H:AH} {a:Addr}:A9e Tryz.prog 100 H (.pointer (some a))=(H.cells a 4).map fun l=>.agg l.toArray:=A3o agg_100 A6u
theorem agg_105:A7f Tryz.prog 105=some false:=by kernel_rfl
theorem size_105:A7b Tryz.prog 105=some 1:=by kernel_rfl
theorem B0l:zeroAt Tryz.prog 105=some (.slice none 0 0):=by kernel_rfl
theorem ld_105 {H:AH} {a:Addr}:A9e Tryz.prog 105 H (.pointer (some a))=H.cell a:=A4b agg_105
theorem agg_107:A7f Tryz.prog 107=some true:=by kernel_rfl
theorem B49:A7b Tryz.prog 107=some 2:=by kernel_rfl
theorem B2k:zeroAt Tryz.prog 107=some (.agg #[.string ⟨#[]⟩,.int .i64 0]):=by kernel_rfl
theorem ld_107 {H:AH} {a:Addr}:A9e Tryz.prog 107 H (.pointer (some a))=(H.cells a 2).map fun l=>.agg l.toArray:=A3o agg_107 B49
theorem agg_117:A7f Tryz.prog 117=some false:=by kernel_rfl
theorem B07:zeroAt Tryz.prog 117=some (.nilFunc):=by kernel_rfl
theorem ld_117 {H:AH} {a:Addr}:A9e Tryz.prog 117 H (.pointer (some a))=H.cell a:=A4b agg_117
theorem agg_119:A7f Tryz.prog 119=some false:=by kernel_rfl
theorem B38:zeroAt Tryz.prog 119=some (.nilFunc):=by kernel_rfl
theorem ld_119 {H:AH} {a:Addr}:A9e Tryz.prog 119 H (.pointer (some a))=H.cell a:=A4b agg_119
theorem agg_123:A7f Tryz.prog 123=some false:=by kernel_rfl
theorem size_123:A7b Tryz.prog 123=some 1:=by kernel_rfl
theorem B17:zeroAt Tryz.prog 123=some (.slice none 0 0):=by kernel_rfl
theorem ld_123 {H:AH} {a:Addr}:A9e Tryz.prog 123 H (.pointer (some a))=H.cell a:=A4b agg_123
theorem agg_125:A7f Tryz.prog 125=some true:=by kernel_rfl
theorem B20:A7b Tryz.prog 125=some 4:=by kernel_rfl
theorem B1m:zeroAt Tryz.prog 125=some (.agg #[.slice none 0 0,.slice none 0 0,.slice none 0 0,.slice none 0 0]):=by kernel_rfl
theorem ld_125 {H:AH} {a:Addr}:A9e Tryz.prog 125 H (.pointer (some a))=(H.cells a 4).map fun l=>.agg l.toArray:=A3o agg_125 B20
theorem agg_126:A7f Tryz.prog 126=some false:=by kernel_rfl
theorem A8q:A7b Tryz.prog 126=some 1:=by kernel_rfl
theorem A96:zeroAt Tryz.prog 126=some (.slice none 0 0):=by kernel_rfl
theorem ld_126 {H:AH} {a:Addr}:A9e Tryz.prog 126 H (.pointer (some a))=H.cell a:=A4b agg_126
theorem agg_127:A7f Tryz.prog 127=some false:=by kernel_rfl
theorem B30:zeroAt Tryz.prog 127=some (.map none):=by kernel_rfl
theorem ld_127 {H:AH} {a:Addr}:A9e Tryz.prog 127 H (.pointer (some a))=H.cell a:=A4b agg_127
theorem agg_131:A7f Tryz.prog 131=some false:=by kernel_rfl
theorem B25:zeroAt Tryz.prog 131=some (.slice none 0 0):=by kernel_rfl
theorem ld_131 {H:AH} {a:Addr}:A9e Tryz.prog 131 H (.pointer (some a))=H.cell a:=A4b agg_131
theorem agg_134:A7f Tryz.prog 134=some false:=by kernel_rfl
theorem B63:zeroAt Tryz.prog 134=some (.slice none 0 0):=by kernel_rfl
theorem ld_134 {H:AH} {a:Addr}:A9e Tryz.prog 134 H (.pointer (some a))=H.cell a:=A4b agg_134
theorem agg_135:A7f Tryz.prog 135=some false:=by kernel_rfl
theorem B78:zeroAt Tryz.prog 135=some (.map none):=by kernel_rfl
theorem ld_135 {H:AH} {a:Addr}:A9e Tryz.prog 135 H (.pointer (some a))=H.cell a:=A4b agg_135
theorem agg_137:A7f Tryz.prog 137=some true:=by kernel_rfl
theorem A8w:A7b Tryz.prog 137=some 3:=by kernel_rfl
theorem A9w:zeroAt Tryz.prog 137=some (.agg #[.int .i64 0,.int .i64 0,.int .i64 0]):=by kernel_rfl
theorem ld_137 {H:AH} {a:Addr}:A9e Tryz.prog 137 H (.pointer (some a))=(H.cells a 3).map fun l=>.agg l.toArray:=A3o agg_137 A8w
theorem agg_138:A7f Tryz.prog 138=some false:=by kernel_rfl
theorem B85:zeroAt Tryz.prog 138=some (.map none):=by kernel_rfl
theorem ld_138 {H:AH} {a:Addr}:A9e Tryz.prog 138 H (.pointer (some a))=H.cell a:=A4b agg_138
theorem agg_144:A7f Tryz.prog 144=some false:=by kernel_rfl
theorem B46:zeroAt Tryz.prog 144=some (.slice none 0 0):=by kernel_rfl
theorem ld_144 {H:AH} {a:Addr}:A9e Tryz.prog 144 H (.pointer (some a))=H.cell a:=A4b agg_144
theorem agg_145:A7f Tryz.prog 145=some false:=by kernel_rfl
theorem size_145:A7b Tryz.prog 145=some 1:=by kernel_rfl
theorem B7l:zeroAt Tryz.prog 145=some (.int .u64 0):=by kernel_rfl
theorem ld_145 {H:AH} {a:Addr}:A9e Tryz.prog 145 H (.pointer (some a))=H.cell a:=A4b agg_145
theorem agg_146:A7f Tryz.prog 146=some false:=by kernel_rfl
theorem B34:zeroAt Tryz.prog 146=some (.int .u64 0):=by kernel_rfl
theorem ld_146 {H:AH} {a:Addr}:A9e Tryz.prog 146 H (.pointer (some a))=H.cell a:=A4b agg_146
theorem agg_147:A7f Tryz.prog 147=some false:=by kernel_rfl
theorem B91:zeroAt Tryz.prog 147=some (.nilFunc):=by kernel_rfl
theorem ld_147 {H:AH} {a:Addr}:A9e Tryz.prog 147 H (.pointer (some a))=H.cell a:=A4b agg_147
theorem agg_158:A7f Tryz.prog 158=some false:=by kernel_rfl
theorem B80:zeroAt Tryz.prog 158=some (.nilFunc):=by kernel_rfl
theorem ld_158 {H:AH} {a:Addr}:A9e Tryz.prog 158 H (.pointer (some a))=H.cell a:=A4b agg_158
theorem agg_179:A7f Tryz.prog 179=some false:=by kernel_rfl
theorem B01:zeroAt Tryz.prog 179=some (.nilFunc):=by kernel_rfl
theorem ld_179 {H:AH} {a:Addr}:A9e Tryz.prog 179 H (.pointer (some a))=H.cell a:=A4b agg_179
theorem agg_193:A7f Tryz.prog 193=some false:=by kernel_rfl
theorem B04:zeroAt Tryz.prog 193=some (.int .i64 0):=by kernel_rfl
theorem ld_193 {H:AH} {a:Addr}:A9e Tryz.prog 193 H (.pointer (some a))=H.cell a:=A4b agg_193
theorem agg_201:A7f Tryz.prog 201=some false:=by kernel_rfl
theorem B83:zeroAt Tryz.prog 201=some (.int .u32 0):=by kernel_rfl
theorem ld_201 {H:AH} {a:Addr}:A9e Tryz.prog 201 H (.pointer (some a))=H.cell a:=A4b agg_201
theorem agg_208:A7f Tryz.prog 208=some false:=by kernel_rfl
theorem B59:zeroAt Tryz.prog 208=some (.int .u64 0):=by kernel_rfl
theorem ld_208 {H:AH} {a:Addr}:A9e Tryz.prog 208 H (.pointer (some a))=H.cell a:=A4b agg_208
theorem agg_212:A7f Tryz.prog 212=some false:=by kernel_rfl
theorem B82:zeroAt Tryz.prog 212=some (.pointer none):=by kernel_rfl
theorem ld_212 {H:AH} {a:Addr}:A9e Tryz.prog 212 H (.pointer (some a))=H.cell a:=A4b agg_212
theorem agg_216:A7f Tryz.prog 216=some false:=by kernel_rfl
theorem B84:zeroAt Tryz.prog 216=some (.pointer none):=by kernel_rfl
theorem ld_216 {H:AH} {a:Addr}:A9e Tryz.prog 216 H (.pointer (some a))=H.cell a:=A4b agg_216
theorem len_9 {H:AH} {s:ByteArray}:A6a Tryz.prog .len [9] [.string s] H=some (.int .i64 (s.size:Int),H):=C1c Tryz.underlying9
theorem len_22 {H:AH} {n c:Nat} {a:Option Addr}:A6a Tryz.prog .len [22] [.slice a n c] H=some (.int .i64 (n:Int),H):=A0h Tryz.underlying22
theorem info_22:((Tryz.prog.info? 9).map fun i=>Nat.beq i.size 1 && Nat.ble i.bytes 65536)=some true:=by kernel_rfl
theorem app_22 {H:AH} {t' len cap n:Nat} {base:Option Addr} {x:Value} {new:List Value} (hx:Sh.srcKind Tryz.prog t' x=true) (hn:Sh.newCells 1 H x=some (n,new)) (hb:len+n≤1073741824):A6a Tryz.prog .append [22,t'] [.slice base len cap,x] H=A6e 1 base len cap n new H:=A18 Tryz.underlying22 info_22 B41 rfl (Nat.le_of_ble_eq_true rfl) hx hn hb
theorem B71 {c:Bool} {a:Option Addr} {n m:Nat}:abin Tryz.prog 22 c .eql (.slice a n m) (.slice none 0 0)=some (.bool a.isNone):=A9h Tryz.underlying22
theorem B7n {c:Bool} {a:Option Addr} {n m:Nat}:abin Tryz.prog 22 c .neq (.slice a n m) (.slice none 0 0)=some (.bool a.isSome):=A1d Tryz.underlying22
theorem B5r {H:AH}:A7a Tryz.prog 22 0 [] H=some (.slice (some ⟨H.next,0,some 0⟩) 0 0,(H.new 1 []).2):=A0i Tryz.underlying22 A1l B41 rfl (Nat.le_of_ble_eq_true rfl)
theorem len_23 {H:AH} {n c:Nat} {a:Option Addr}:A6a Tryz.prog .len [23] [.slice a n c] H=some (.int .i64 (n:Int),H):=A0h Tryz.underlying23
theorem info_23:((Tryz.prog.info? 54).map fun i=>Nat.beq i.size 5 && Nat.ble i.bytes 65536)=some true:=by kernel_rfl
theorem C4f {H:AH} {len cap:Nat} {base:Option Addr} {x:List Value} (hx:x.length=5) (hb:len≤1073741823):A6a Tryz.prog .append [23,23] [.slice base len cap,.slice (some ⟨H.next,0,some 0⟩) 1 1] (H.new 5 x).2=A6e 5 base len cap 1 x (H.new 5 x).2:=A6p Tryz.underlying23 info_23 A44 rfl (Nat.le_of_ble_eq_true rfl) hx hb
theorem B12 {c:Bool} {a:Option Addr} {n m:Nat}:abin Tryz.prog 23 c .eql (.slice a n m) (.slice none 0 0)=some (.bool a.isNone):=A9h Tryz.underlying23
theorem B4p {c:Bool} {a:Option Addr} {n m:Nat}:abin Tryz.prog 23 c .neq (.slice a n m) (.slice none 0 0)=some (.bool a.isSome):=A1d Tryz.underlying23
theorem B6p {H:AH}:A7a Tryz.prog 23 0 [] H=some (.slice (some ⟨H.next,0,some 0⟩) 0 0,(H.new 5 []).2):=A0i Tryz.underlying23 A3l A44 rfl (Nat.le_of_ble_eq_true rfl)
theorem B9r {H:AH} {x:Value} (hx:(A8a x).length=5) (hc:(A8a x).all isCell=true):A7a Tryz.prog 23 1 [(0,x)] H=some (.slice (some ⟨H.next,0,some 0⟩) 1 1,(H.new 5 (A8a x)).2):=A3q Tryz.underlying23 A3l A44 rfl (Nat.le_of_ble_eq_true rfl) (Nat.le_of_ble_eq_true rfl) hx hc
theorem len_24 {H:AH} {n c:Nat} {a:Option Addr}:A6a Tryz.prog .len [24] [.slice a n c] H=some (.int .i64 (n:Int),H):=A0h Tryz.underlying24
theorem info_24:((Tryz.prog.info? 56).map fun i=>Nat.beq i.size 2 && Nat.ble i.bytes 65536)=some true:=by kernel_rfl
theorem app1_24 {H:AH} {len cap:Nat} {base:Option Addr} {x:List Value} (hx:x.length=2) (hb:len≤1073741823):A6a Tryz.prog .append [24,24] [.slice base len cap,.slice (some ⟨H.next,0,some 0⟩) 1 1] (H.new 2 x).2=A6e 2 base len cap 1 x (H.new 2 x).2:=A6p Tryz.underlying24 info_24 A03 rfl (Nat.le_of_ble_eq_true rfl) hx hb
theorem B55 {c:Bool} {a:Option Addr} {n m:Nat}:abin Tryz.prog 24 c .eql (.slice a n m) (.slice none 0 0)=some (.bool a.isNone):=A9h Tryz.underlying24
theorem B0s {c:Bool} {a:Option Addr} {n m:Nat}:abin Tryz.prog 24 c .neq (.slice a n m) (.slice none 0 0)=some (.bool a.isSome):=A1d Tryz.underlying24
theorem B9o {H:AH}:A7a Tryz.prog 24 0 [] H=some (.slice (some ⟨H.next,0,some 0⟩) 0 0,(H.new 2 []).2):=A0i Tryz.underlying24 A8o A03 rfl (Nat.le_of_ble_eq_true rfl)
theorem C1d {H:AH} {x:Value} (hx:(A8a x).length=2) (hc:(A8a x).all isCell=true):A7a Tryz.prog 24 1 [(0,x)] H=some (.slice (some ⟨H.next,0,some 0⟩) 1 1,(H.new 2 (A8a x)).2):=A3q Tryz.underlying24 A8o A03 rfl (Nat.le_of_ble_eq_true rfl) (Nat.le_of_ble_eq_true rfl) hx hc
theorem C3k {g o k:Nat}:A2b Tryz.prog 26 0 (.pointer (some ⟨g,o,some k⟩))=some (.pointer (some ⟨g,o+0,some k⟩)):=by have h:=A0b (g:=g) (o:=o) (k:=k) (f:=0) Tryz.underlying26 (Eq.refl (some _)) A92 rfl; exact h
theorem C2m {g o k:Nat}:A2b Tryz.prog 26 1 (.pointer (some ⟨g,o,some k⟩))=some (.pointer (some ⟨g,o+1,some k⟩)):=by have h:=A0b (g:=g) (o:=o) (k:=k) (f:=1) Tryz.underlying26 (Eq.refl (some _)) A0e rfl; exact h
theorem C5n {g o k:Nat}:A2b Tryz.prog 26 2 (.pointer (some ⟨g,o,some k⟩))=some (.pointer (some ⟨g,o+2,some k⟩)):=by have h:=A0b (g:=g) (o:=o) (k:=k) (f:=2) Tryz.underlying26 (Eq.refl (some _)) A82 rfl; exact h
theorem C4h {g o k:Nat}:A2b Tryz.prog 26 3 (.pointer (some ⟨g,o,some k⟩))=some (.pointer (some ⟨g,o+3,some k⟩)):=by have h:=A0b (g:=g) (o:=o) (k:=k) (f:=3) Tryz.underlying26 (Eq.refl (some _)) C8h rfl; exact h
theorem len_30 {H:AH} {n c:Nat} {a:Option Addr}:A6a Tryz.prog .len [30] [.slice a n c] H=some (.int .i64 (n:Int),H):=A0h Tryz.underlying30
theorem B64 {c:Bool} {a:Option Addr} {n m:Nat}:abin Tryz.prog 30 c .eql (.slice a n m) (.slice none 0 0)=some (.bool a.isNone):=A9h Tryz.underlying30
theorem B1v {c:Bool} {a:Option Addr} {n m:Nat}:abin Tryz.prog 30 c .neq (.slice a n m) (.slice none 0 0)=some (.bool a.isSome):=A1d Tryz.underlying30
theorem B1s {H:AH}:A7a Tryz.prog 30 0 [] H=some (.slice (some ⟨H.next,0,some 0⟩) 0 0,(H.new 1 []).2):=A0i Tryz.underlying30 A92 B0k rfl (Nat.le_of_ble_eq_true rfl)
theorem len_52 {H:AH} {n c:Nat} {a:Option Addr}:A6a Tryz.prog .len [52] [.slice a n c] H=some (.int .i64 (n:Int),H):=A0h Tryz.underlying52
theorem B87 {c:Bool} {a:Option Addr} {n m:Nat}:abin Tryz.prog 52 c .eql (.slice a n m) (.slice none 0 0)=some (.bool a.isNone):=A9h Tryz.underlying52
theorem B6r {c:Bool} {a:Option Addr} {n m:Nat}:abin Tryz.prog 52 c .neq (.slice a n m) (.slice none 0 0)=some (.bool a.isSome):=A1d Tryz.underlying52
theorem B4q {H:AH}:A7a Tryz.prog 52 0 [] H=some (.slice (some ⟨H.next,0,some 0⟩) 0 0,(H.new 4 []).2):=A0i Tryz.underlying52 A1t A62 rfl (Nat.le_of_ble_eq_true rfl)
theorem C9h {H:AH} {x:Value} (hx:(A8a x).length=4) (hc:(A8a x).all isCell=true):A7a Tryz.prog 52 1 [(0,x)] H=some (.slice (some ⟨H.next,0,some 0⟩) 1 1,(H.new 4 (A8a x)).2):=A3q Tryz.underlying52 A1t A62 rfl (Nat.le_of_ble_eq_true rfl) (Nat.le_of_ble_eq_true rfl) hx hc
theorem C2i {g o k:Nat}:A2b Tryz.prog 54 0 (.pointer (some ⟨g,o,some k⟩))=some (.pointer (some ⟨g,o+0,some k⟩)):=by have h:=A0b (g:=g) (o:=o) (k:=k) (f:=0) Tryz.underlying54 (Eq.refl (some _)) A0e rfl; exact h
theorem C6j {g o k:Nat}:A2b Tryz.prog 54 1 (.pointer (some ⟨g,o,some k⟩))=some (.pointer (some ⟨g,o+1,some k⟩)):=by have h:=A0b (g:=g) (o:=o) (k:=k) (f:=1) Tryz.underlying54 (Eq.refl (some _)) A1l rfl; exact h
theorem C4k {g o k:Nat}:A2b Tryz.prog 54 2 (.pointer (some ⟨g,o,some k⟩))=some (.pointer (some ⟨g,o+2,some k⟩)):=by have h:=A0b (g:=g) (o:=o) (k:=k) (f:=2) Tryz.underlying54 (Eq.refl (some _)) A1l rfl; exact h
theorem C1i {g o k:Nat}:A2b Tryz.prog 54 3 (.pointer (some ⟨g,o,some k⟩))=some (.pointer (some ⟨g,o+3,some k⟩)):=by have h:=A0b (g:=g) (o:=o) (k:=k) (f:=3) Tryz.underlying54 (Eq.refl (some _)) A0e rfl; exact h
theorem C0h {g o k:Nat}:A2b Tryz.prog 54 4 (.pointer (some ⟨g,o,some k⟩))=some (.pointer (some ⟨g,o+4,some k⟩)):=by have h:=A0b (g:=g) (o:=o) (k:=k) (f:=4) Tryz.underlying54 (Eq.refl (some _)) A0e rfl; exact h
theorem bld_54 {v0 v1 v2 v3 v4:Value} (h0:isCell v0=true) (h1:isCell v1=true) (h2:isCell v2=true) (h3:isCell v3=true) (h4:isCell v4=true):A5l Tryz.prog 54 [(0,v0),(1,v1),(2,v2),(3,v3),(4,v4)]=some (.agg #[v0,v1,v2,v3,v4]):=by refine A7i (pl:=[(0,1),(1,1),(2,1),(3,1),(4,1)]) Tryz.underlying54 A44 (by kernel_rfl) ?_; have va:∀ xs:Array Value,A8a (.agg xs)=xs.toList:=fun _=>rfl; simp [A6t,A6b h0,A6b h1,A6b h2,A6b h3,A6b h4,va,h0,h1,h2,h3,h4,setCells,A5a,A8b]
theorem C2o {g o k:Nat}:A2b Tryz.prog 56 0 (.pointer (some ⟨g,o,some k⟩))=some (.pointer (some ⟨g,o+0,some k⟩)):=by have h:=A0b (g:=g) (o:=o) (k:=k) (f:=0) Tryz.underlying56 (Eq.refl (some _)) A0e rfl; exact h
theorem C3o {g o k:Nat}:A2b Tryz.prog 56 1 (.pointer (some ⟨g,o,some k⟩))=some (.pointer (some ⟨g,o+1,some k⟩)):=by have h:=A0b (g:=g) (o:=o) (k:=k) (f:=1) Tryz.underlying56 (Eq.refl (some _)) A0e rfl; exact h
theorem bld_56 {v0 v1:Value} (h0:isCell v0=true) (h1:isCell v1=true):A5l Tryz.prog 56 [(0,v0),(1,v1)]=some (.agg #[v0,v1]):=by refine A7i (pl:=[(0,1),(1,1)]) Tryz.underlying56 A03 (by kernel_rfl) ?_; have va:∀ xs:Array Value,A8a (.agg xs)=xs.toList:=fun _=>rfl; simp [A6t,A6b h0,A6b h1,va,h0,h1,setCells,A5a,A8b]
theorem C9m {g o k:Nat}:A2b Tryz.prog 61 0 (.pointer (some ⟨g,o,some k⟩))=some (.pointer (some ⟨g,o+0,some k⟩)):=by have h:=A0b (g:=g) (o:=o) (k:=k) (f:=0) Tryz.underlying61 (Eq.refl (some _)) size_59 rfl; exact h
theorem bld_61 {v0:Value} (h0:isCell v0=true):A5l Tryz.prog 61 [(0,v0)]=some (.agg #[v0]):=by refine A7i (pl:=[(0,1)]) Tryz.underlying61 B4y (by kernel_rfl) ?_; have va:∀ xs:Array Value,A8a (.agg xs)=xs.toList:=fun _=>rfl; simp [A6t,A6b h0,va,h0,setCells,A5a,A8b]
theorem len_65 {H:AH} {n c:Nat} {a:Option Addr}:A6a Tryz.prog .len [65] [.slice a n c] H=some (.int .i64 (n:Int),H):=A0h Tryz.underlying65
theorem B53 {c:Bool} {a:Option Addr} {n m:Nat}:abin Tryz.prog 65 c .eql (.slice a n m) (.slice none 0 0)=some (.bool a.isNone):=A9h Tryz.underlying65
theorem B5s {c:Bool} {a:Option Addr} {n m:Nat}:abin Tryz.prog 65 c .neq (.slice a n m) (.slice none 0 0)=some (.bool a.isSome):=A1d Tryz.underlying65
theorem B2s {H:AH}:A7a Tryz.prog 65 0 [] H=some (.slice (some ⟨H.next,0,some 0⟩) 0 0,(H.new 1 []).2):=A0i Tryz.underlying65 size_105 B0l rfl (Nat.le_of_ble_eq_true rfl)
theorem len_66 {H:AH} {n c:Nat} {a:Option Addr}:A6a Tryz.prog .len [66] [.slice a n c] H=some (.int .i64 (n:Int),H):=A0h Tryz.underlying66
theorem info_66:((Tryz.prog.info? 4).map fun i=>Nat.beq i.size 1 && Nat.ble i.bytes 65536)=some true:=by kernel_rfl
theorem B11 {c:Bool} {a:Option Addr} {n m:Nat}:abin Tryz.prog 66 c .eql (.slice a n m) (.slice none 0 0)=some (.bool a.isNone):=A9h Tryz.underlying66
theorem B1u {c:Bool} {a:Option Addr} {n m:Nat}:abin Tryz.prog 66 c .neq (.slice a n m) (.slice none 0 0)=some (.bool a.isSome):=A1d Tryz.underlying66
theorem mk_66 {H:AH} {l c:Nat} (hlc:l≤c) (hc:c≤1073741824):A4h Tryz.prog 66 (.int .i64 (l:Int)) (.int .i64 (c:Int)) H=some (.slice (some ⟨H.next,0,some 0⟩) l c,(H.new 1 (List.replicate c (.bool false))).2):=by rw [← A26]; exact B5l Tryz.underlying66 info_66 A75 rfl (Nat.le_of_ble_eq_true rfl) hlc hc
theorem B3t {H:AH}:A7a Tryz.prog 66 0 [] H=some (.slice (some ⟨H.next,0,some 0⟩) 0 0,(H.new 1 []).2):=A0i Tryz.underlying66 A8p A75 rfl (Nat.le_of_ble_eq_true rfl)
theorem C9o {g o k:Nat}:A2b Tryz.prog 68 0 (.pointer (some ⟨g,o,some k⟩))=some (.pointer (some ⟨g,o+0,some k⟩)):=by have h:=A0b (g:=g) (o:=o) (k:=k) (f:=0) Tryz.underlying68 (Eq.refl (some _)) A0e rfl; exact h
theorem C3i {g o k:Nat}:A2b Tryz.prog 68 1 (.pointer (some ⟨g,o,some k⟩))=some (.pointer (some ⟨g,o+1,some k⟩)):=by have h:=A0b (g:=g) (o:=o) (k:=k) (f:=1) Tryz.underlying68 (Eq.refl (some _)) size_65 rfl; exact h
theorem C9g {g o k:Nat}:A2b Tryz.prog 68 2 (.pointer (some ⟨g,o,some k⟩))=some (.pointer (some ⟨g,o+2,some k⟩)):=by have h:=A0b (g:=g) (o:=o) (k:=k) (f:=2) Tryz.underlying68 (Eq.refl (some _)) size_66 rfl; exact h
theorem len_80 {H:AH} {n c:Nat} {a:Option Addr}:A6a Tryz.prog .len [80] [.slice a n c] H=some (.int .i64 (n:Int),H):=A0h Tryz.underlying80
theorem info_80:((Tryz.prog.info? 83).map fun i=>Nat.beq i.size 2 && Nat.ble i.bytes 65536)=some true:=by kernel_rfl
theorem app1_80 {H:AH} {len cap:Nat} {base:Option Addr} {x:List Value} (hx:x.length=2) (hb:len≤1073741823):A6a Tryz.prog .append [80,80] [.slice base len cap,.slice (some ⟨H.next,0,some 0⟩) 1 1] (H.new 2 x).2=A6e 2 base len cap 1 x (H.new 2 x).2:=A6p Tryz.underlying80 info_80 A43 rfl (Nat.le_of_ble_eq_true rfl) hx hb
theorem B48 {c:Bool} {a:Option Addr} {n m:Nat}:abin Tryz.prog 80 c .eql (.slice a n m) (.slice none 0 0)=some (.bool a.isNone):=A9h Tryz.underlying80
theorem B8s {c:Bool} {a:Option Addr} {n m:Nat}:abin Tryz.prog 80 c .neq (.slice a n m) (.slice none 0 0)=some (.bool a.isSome):=A1d Tryz.underlying80
theorem B0t {H:AH}:A7a Tryz.prog 80 0 [] H=some (.slice (some ⟨H.next,0,some 0⟩) 0 0,(H.new 2 []).2):=A0i Tryz.underlying80 A0t A43 rfl (Nat.le_of_ble_eq_true rfl)
theorem C7n {H:AH} {x:Value} (hx:(A8a x).length=2) (hc:(A8a x).all isCell=true):A7a Tryz.prog 80 1 [(0,x)] H=some (.slice (some ⟨H.next,0,some 0⟩) 1 1,(H.new 2 (A8a x)).2):=A3q Tryz.underlying80 A0t A43 rfl (Nat.le_of_ble_eq_true rfl) (Nat.le_of_ble_eq_true rfl) hx hc
theorem C4n {g o k:Nat}:A2b Tryz.prog 83 0 (.pointer (some ⟨g,o,some k⟩))=some (.pointer (some ⟨g,o+0,some k⟩)):=by have h:=A0b (g:=g) (o:=o) (k:=k) (f:=0) Tryz.underlying83 (Eq.refl (some _)) A0e rfl; exact h
theorem C5j {g o k:Nat}:A2b Tryz.prog 83 1 (.pointer (some ⟨g,o,some k⟩))=some (.pointer (some ⟨g,o+1,some k⟩)):=by have h:=A0b (g:=g) (o:=o) (k:=k) (f:=1) Tryz.underlying83 (Eq.refl (some _)) A0e rfl; exact h
theorem len_88 {H:AH} {n c:Nat} {a:Option Addr}:A6a Tryz.prog .len [88] [.slice a n c] H=some (.int .i64 (n:Int),H):=A0h Tryz.underlying88
theorem B7y:((Tryz.prog.info? 3).map fun i=>Nat.beq i.size 1 && Nat.ble i.bytes 65536)=some true:=by kernel_rfl
theorem app_88 {H:AH} {t' len cap n:Nat} {base:Option Addr} {x:Value} {new:List Value} (hx:Sh.srcKind Tryz.prog t' x=true) (hn:Sh.newCells 1 H x=some (n,new)) (hb:len+n≤1073741824):A6a Tryz.prog .append [88,t'] [.slice base len cap,x] H=A6e 1 base len cap n new H:=A18 Tryz.underlying88 B7y B9a rfl (Nat.le_of_ble_eq_true rfl) hx hn hb
theorem app1_88 {H:AH} {len cap:Nat} {base:Option Addr} {x:List Value} (hx:x.length=1) (hb:len≤1073741823):A6a Tryz.prog .append [88,88] [.slice base len cap,.slice (some ⟨H.next,0,some 0⟩) 1 1] (H.new 1 x).2=A6e 1 base len cap 1 x (H.new 1 x).2:=A6p Tryz.underlying88 B7y B9a rfl (Nat.le_of_ble_eq_true rfl) hx hb
theorem B09 {c:Bool} {a:Option Addr} {n m:Nat}:abin Tryz.prog 88 c .eql (.slice a n m) (.slice none 0 0)=some (.bool a.isNone):=A9h Tryz.underlying88
theorem B0q {c:Bool} {a:Option Addr} {n m:Nat}:abin Tryz.prog 88 c .neq (.slice a n m) (.slice none 0 0)=some (.bool a.isSome):=A1d Tryz.underlying88
theorem mk_88 {H:AH} {l c:Nat} (hlc:l≤c) (hc:c≤1073741824):A4h Tryz.prog 88 (.int .i64 (l:Int)) (.int .i64 (c:Int)) H=some (.slice (some ⟨H.next,0,some 0⟩) l c,(H.new 1 (List.replicate c (.int .i64 0))).2):=by rw [← A26]; exact B5l Tryz.underlying88 B7y B9a rfl (Nat.le_of_ble_eq_true rfl) hlc hc
theorem B7s {H:AH}:A7a Tryz.prog 88 0 [] H=some (.slice (some ⟨H.next,0,some 0⟩) 0 0,(H.new 1 []).2):=A0i Tryz.underlying88 A0e B9a rfl (Nat.le_of_ble_eq_true rfl)
theorem A78 {H:AH} {x:Value} (hx:(A8a x).length=1) (hc:(A8a x).all isCell=true):A7a Tryz.prog 88 1 [(0,x)] H=some (.slice (some ⟨H.next,0,some 0⟩) 1 1,(H.new 1 (A8a x)).2):=A3q Tryz.underlying88 A0e B9a rfl (Nat.le_of_ble_eq_true rfl) (Nat.le_of_ble_eq_true rfl) hx hc
theorem B31 {g o k:Nat}:A2b Tryz.prog 100 0 (.pointer (some ⟨g,o,some k⟩))=some (.pointer (some ⟨g,o+0,some k⟩)):=by have h:=A0b (g:=g) (o:=o) (k:=k) (f:=0) Tryz.underlying100 (Eq.refl (some _)) A0e rfl; exact h
theorem B13 {g o k:Nat}:A2b Tryz.prog 100 1 (.pointer (some ⟨g,o,some k⟩))=some (.pointer (some ⟨g,o+1,some k⟩)):=by have h:=A0b (g:=g) (o:=o) (k:=k) (f:=1) Tryz.underlying100 (Eq.refl (some _)) A0e rfl; exact h
theorem B68 {g o k:Nat}:A2b Tryz.prog 100 2 (.pointer (some ⟨g,o,some k⟩))=some (.pointer (some ⟨g,o+2,some k⟩)):=by have h:=A0b (g:=g) (o:=o) (k:=k) (f:=2) Tryz.underlying100 (Eq.refl (some _)) A0e rfl; exact h
theorem B10 {g o k:Nat}:A2b Tryz.prog 100 3 (.pointer (some ⟨g,o,some k⟩))=some (.pointer (some ⟨g,o+3,some k⟩)):=by have h:=A0b (g:=g) (o:=o) (k:=k) (f:=3) Tryz.underlying100 (Eq.refl (some _)) A0e rfl; exact h
theorem C1j {v0 v1 v2 v3:Value} (h0:isCell v0=true) (h1:isCell v1=true) (h2:isCell v2=true) (h3:isCell v3=true):A5l Tryz.prog 100 [(0,v0),(1,v1),(2,v2),(3,v3)]=some (.agg #[v0,v1,v2,v3]):=by refine A7i (pl:=[(0,1),(1,1),(2,1),(3,1)]) Tryz.underlying100 A5w (by kernel_rfl) ?_; have va:∀ xs:Array Value,A8a (.agg xs)=xs.toList:=fun _=>rfl; simp [A6t,A6b h0,A6b h1,A6b h2,A6b h3,va,h0,h1,h2,h3,setCells,A5a,A8b]
theorem C9j {H:AH} {n c:Nat} {a:Option Addr}:A6a Tryz.prog .len [105] [.slice a n c] H=some (.int .i64 (n:Int),H):=A0h Tryz.underlying105
theorem B1o {c:Bool} {a:Option Addr} {n m:Nat}:abin Tryz.prog 105 c .eql (.slice a n m) (.slice none 0 0)=some (.bool a.isNone):=A9h Tryz.underlying105
theorem B4f {c:Bool} {a:Option Addr} {n m:Nat}:abin Tryz.prog 105 c .neq (.slice a n m) (.slice none 0 0)=some (.bool a.isSome):=A1d Tryz.underlying105
theorem B1i {H:AH}:A7a Tryz.prog 105 0 [] H=some (.slice (some ⟨H.next,0,some 0⟩) 0 0,(H.new 2 []).2):=A0i Tryz.underlying105 B49 B2k rfl (Nat.le_of_ble_eq_true rfl)
theorem B43 {g o k:Nat}:A2b Tryz.prog 107 0 (.pointer (some ⟨g,o,some k⟩))=some (.pointer (some ⟨g,o+0,some k⟩)):=by have h:=A0b (g:=g) (o:=o) (k:=k) (f:=0) Tryz.underlying107 (Eq.refl (some _)) A1l rfl; exact h
theorem B35 {g o k:Nat}:A2b Tryz.prog 107 1 (.pointer (some ⟨g,o,some k⟩))=some (.pointer (some ⟨g,o+1,some k⟩)):=by have h:=A0b (g:=g) (o:=o) (k:=k) (f:=1) Tryz.underlying107 (Eq.refl (some _)) A0e rfl; exact h
theorem C7l {H:AH} {n c:Nat} {a:Option Addr}:A6a Tryz.prog .len [123] [.slice a n c] H=some (.int .i64 (n:Int),H):=A0h Tryz.underlying123
theorem info_123:((Tryz.prog.info? 126).map fun i=>Nat.beq i.size 1 && Nat.ble i.bytes 65536)=some true:=by kernel_rfl
theorem B5v {c:Bool} {a:Option Addr} {n m:Nat}:abin Tryz.prog 123 c .eql (.slice a n m) (.slice none 0 0)=some (.bool a.isNone):=A9h Tryz.underlying123
theorem B0g {c:Bool} {a:Option Addr} {n m:Nat}:abin Tryz.prog 123 c .neq (.slice a n m) (.slice none 0 0)=some (.bool a.isSome):=A1d Tryz.underlying123
theorem mk_123 {H:AH} {l c:Nat} (hlc:l≤c) (hc:c≤1073741824):A4h Tryz.prog 123 (.int .i64 (l:Int)) (.int .i64 (c:Int)) H=some (.slice (some ⟨H.next,0,some 0⟩) l c,(H.new 1 (List.replicate c (.slice none 0 0))).2):=by rw [← A26]; exact B5l Tryz.underlying123 info_123 A96 rfl (Nat.le_of_ble_eq_true rfl) hlc hc
theorem B4g {H:AH}:A7a Tryz.prog 123 0 [] H=some (.slice (some ⟨H.next,0,some 0⟩) 0 0,(H.new 1 []).2):=A0i Tryz.underlying123 A8q A96 rfl (Nat.le_of_ble_eq_true rfl)
theorem B39 {g o k:Nat}:A2b Tryz.prog 125 0 (.pointer (some ⟨g,o,some k⟩))=some (.pointer (some ⟨g,o+0,some k⟩)):=by have h:=A0b (g:=g) (o:=o) (k:=k) (f:=0) Tryz.underlying125 (Eq.refl (some _)) A92 rfl; exact h
theorem B45 {g o k:Nat}:A2b Tryz.prog 125 1 (.pointer (some ⟨g,o,some k⟩))=some (.pointer (some ⟨g,o+1,some k⟩)):=by have h:=A0b (g:=g) (o:=o) (k:=k) (f:=1) Tryz.underlying125 (Eq.refl (some _)) size_123 rfl; exact h
theorem B42 {g o k:Nat}:A2b Tryz.prog 125 2 (.pointer (some ⟨g,o,some k⟩))=some (.pointer (some ⟨g,o+2,some k⟩)):=by have h:=A0b (g:=g) (o:=o) (k:=k) (f:=2) Tryz.underlying125 (Eq.refl (some _)) C3e rfl; exact h
theorem B05 {g o k:Nat}:A2b Tryz.prog 125 3 (.pointer (some ⟨g,o,some k⟩))=some (.pointer (some ⟨g,o+3,some k⟩)):=by have h:=A0b (g:=g) (o:=o) (k:=k) (f:=3) Tryz.underlying125 (Eq.refl (some _)) C3e rfl; exact h
theorem C7d {H:AH} {n c:Nat} {a:Option Addr}:A6a Tryz.prog .len [126] [.slice a n c] H=some (.int .i64 (n:Int),H):=A0h Tryz.underlying126
theorem info_126:((Tryz.prog.info? 100).map fun i=>Nat.beq i.size 4 && Nat.ble i.bytes 65536)=some true:=by kernel_rfl
theorem B52 {H:AH} {len cap:Nat} {base:Option Addr} {x:List Value} (hx:x.length=4) (hb:len≤1073741823):A6a Tryz.prog .append [126,126] [.slice base len cap,.slice (some ⟨H.next,0,some 0⟩) 1 1] (H.new 4 x).2=A6e 4 base len cap 1 x (H.new 4 x).2:=A6p Tryz.underlying126 info_126 A5w rfl (Nat.le_of_ble_eq_true rfl) hx hb
theorem B1r {c:Bool} {a:Option Addr} {n m:Nat}:abin Tryz.prog 126 c .eql (.slice a n m) (.slice none 0 0)=some (.bool a.isNone):=A9h Tryz.underlying126
theorem B3j {c:Bool} {a:Option Addr} {n m:Nat}:abin Tryz.prog 126 c .neq (.slice a n m) (.slice none 0 0)=some (.bool a.isSome):=A1d Tryz.underlying126
theorem B4i {H:AH}:A7a Tryz.prog 126 0 [] H=some (.slice (some ⟨H.next,0,some 0⟩) 0 0,(H.new 4 []).2):=A0i Tryz.underlying126 A6u A5w rfl (Nat.le_of_ble_eq_true rfl)
theorem B0i {H:AH} {x:Value} (hx:(A8a x).length=4) (hc:(A8a x).all isCell=true):A7a Tryz.prog 126 1 [(0,x)] H=some (.slice (some ⟨H.next,0,some 0⟩) 1 1,(H.new 4 (A8a x)).2):=A3q Tryz.underlying126 A6u A5w rfl (Nat.le_of_ble_eq_true rfl) (Nat.le_of_ble_eq_true rfl) hx hc
theorem C9l {H:AH} {n c:Nat} {a:Option Addr}:A6a Tryz.prog .len [131] [.slice a n c] H=some (.int .i64 (n:Int),H):=A0h Tryz.underlying131
theorem info_131:((Tryz.prog.info? 23).map fun i=>Nat.beq i.size 1 && Nat.ble i.bytes 65536)=some true:=by kernel_rfl
theorem B3o {c:Bool} {a:Option Addr} {n m:Nat}:abin Tryz.prog 131 c .eql (.slice a n m) (.slice none 0 0)=some (.bool a.isNone):=A9h Tryz.underlying131
theorem B5h {c:Bool} {a:Option Addr} {n m:Nat}:abin Tryz.prog 131 c .neq (.slice a n m) (.slice none 0 0)=some (.bool a.isSome):=A1d Tryz.underlying131
theorem mk_131 {H:AH} {l c:Nat} (hlc:l≤c) (hc:c≤1073741824):A4h Tryz.prog 131 (.int .i64 (l:Int)) (.int .i64 (c:Int)) H=some (.slice (some ⟨H.next,0,some 0⟩) l c,(H.new 1 (List.replicate c (.slice none 0 0))).2):=by rw [← A26]; exact B5l Tryz.underlying131 info_131 B8l rfl (Nat.le_of_ble_eq_true rfl) hlc hc
theorem B8d {H:AH}:A7a Tryz.prog 131 0 [] H=some (.slice (some ⟨H.next,0,some 0⟩) 0 0,(H.new 1 []).2):=A0i Tryz.underlying131 A82 B8l rfl (Nat.le_of_ble_eq_true rfl)
theorem C1m {H:AH} {n c:Nat} {a:Option Addr}:A6a Tryz.prog .len [134] [.slice a n c] H=some (.int .i64 (n:Int),H):=A0h Tryz.underlying134
theorem info_134:((Tryz.prog.info? 137).map fun i=>Nat.beq i.size 3 && Nat.ble i.bytes 65536)=some true:=by kernel_rfl
theorem app1_134 {H:AH} {len cap:Nat} {base:Option Addr} {x:List Value} (hx:x.length=3) (hb:len≤1073741823):A6a Tryz.prog .append [134,134] [.slice base len cap,.slice (some ⟨H.next,0,some 0⟩) 1 1] (H.new 3 x).2=A6e 3 base len cap 1 x (H.new 3 x).2:=A6p Tryz.underlying134 info_134 A9w rfl (Nat.le_of_ble_eq_true rfl) hx hb
theorem B7o {c:Bool} {a:Option Addr} {n m:Nat}:abin Tryz.prog 134 c .eql (.slice a n m) (.slice none 0 0)=some (.bool a.isNone):=A9h Tryz.underlying134
theorem B5g {c:Bool} {a:Option Addr} {n m:Nat}:abin Tryz.prog 134 c .neq (.slice a n m) (.slice none 0 0)=some (.bool a.isSome):=A1d Tryz.underlying134
theorem B6g {H:AH}:A7a Tryz.prog 134 0 [] H=some (.slice (some ⟨H.next,0,some 0⟩) 0 0,(H.new 3 []).2):=A0i Tryz.underlying134 A8w A9w rfl (Nat.le_of_ble_eq_true rfl)
theorem B69 {H:AH} {x:Value} (hx:(A8a x).length=3) (hc:(A8a x).all isCell=true):A7a Tryz.prog 134 1 [(0,x)] H=some (.slice (some ⟨H.next,0,some 0⟩) 1 1,(H.new 3 (A8a x)).2):=A3q Tryz.underlying134 A8w A9w rfl (Nat.le_of_ble_eq_true rfl) (Nat.le_of_ble_eq_true rfl) hx hc
theorem B74 {g o k:Nat}:A2b Tryz.prog 137 0 (.pointer (some ⟨g,o,some k⟩))=some (.pointer (some ⟨g,o+0,some k⟩)):=by have h:=A0b (g:=g) (o:=o) (k:=k) (f:=0) Tryz.underlying137 (Eq.refl (some _)) A0e rfl; exact h
theorem B88 {g o k:Nat}:A2b Tryz.prog 137 1 (.pointer (some ⟨g,o,some k⟩))=some (.pointer (some ⟨g,o+1,some k⟩)):=by have h:=A0b (g:=g) (o:=o) (k:=k) (f:=1) Tryz.underlying137 (Eq.refl (some _)) A0t rfl; exact h
theorem C5g {H:AH} {n c:Nat} {a:Option Addr}:A6a Tryz.prog .len [144] [.slice a n c] H=some (.int .i64 (n:Int),H):=A0h Tryz.underlying144
theorem B0v {c:Bool} {a:Option Addr} {n m:Nat}:abin Tryz.prog 144 c .eql (.slice a n m) (.slice none 0 0)=some (.bool a.isNone):=A9h Tryz.underlying144
theorem B9d {c:Bool} {a:Option Addr} {n m:Nat}:abin Tryz.prog 144 c .neq (.slice a n m) (.slice none 0 0)=some (.bool a.isSome):=A1d Tryz.underlying144
theorem B9e {H:AH}:A7a Tryz.prog 144 0 [] H=some (.slice (some ⟨H.next,0,some 0⟩) 0 0,(H.new 1 []).2):=A0i Tryz.underlying144 size_145 B7l rfl (Nat.le_of_ble_eq_true rfl)
theorem B24 {H:AH} {n:Int}:A6i Tryz.prog 3 146 (.int .i64 n) H=some (.int .u64 (IntKind.wrap .u64 n),H):=A8s Tryz.underlying3 Tryz.underlying146
theorem B44 {H:AH} {n:Int}:A6i Tryz.prog 3 208 (.int .i64 n) H=some (.int .u64 (IntKind.wrap .u64 n),H):=A8s Tryz.underlying3 Tryz.underlying208
theorem cv_5_3 {H:AH} {n:Int}:A6i Tryz.prog 5 3 (.int .u8 n) H=some (.int .i64 (IntKind.wrap .i64 n),H):=A8s Tryz.underlying5 Tryz.underlying3
theorem B47 {H:AH} {n:Int}:A6i Tryz.prog 145 5 (.int .u64 n) H=some (.int .u8 (IntKind.wrap .u8 n),H):=A8s Tryz.underlying145 Tryz.underlying5
theorem B00 {H:AH} {n:Int}:A6i Tryz.prog 146 3 (.int .u64 n) H=some (.int .i64 (IntKind.wrap .i64 n),H):=A8s Tryz.underlying146 Tryz.underlying3
theorem B9i {H:AH} {n:Int}:A6i Tryz.prog 146 201 (.int .u64 n) H=some (.int .u32 (IntKind.wrap .u32 n),H):=A8s Tryz.underlying146 Tryz.underlying201
theorem B66 {H:AH} {n:Int}:A6i Tryz.prog 201 5 (.int .u32 n) H=some (.int .u8 (IntKind.wrap .u8 n),H):=A8s Tryz.underlying201 Tryz.underlying5
theorem B2n:type_of% (And.intro @zero_1 (And.intro @ld_1 (And.intro @zero_2 (And.intro @ld_2 (And.intro @B9a (And.intro @ld_3 (And.intro @A75 (And.intro @ld_4 (And.intro @zero_5 (And.intro @ld_5 (And.intro @B41 (And.intro @ld_9 (And.intro @B0k (And.intro @ld_22 (And.intro @B8l (And.intro @ld_23 (And.intro @C1l (And.intro @ld_24 (And.intro @A62 (And.intro @ld_26 (And.intro @C4d (And.intro @ld_30 (And.intro @C6o (And.intro @ld_31 (And.intro @C2n (And.intro @ld_52 (And.intro @A44 (And.intro @ld_54 (And.intro @A03 (And.intro @ld_56 (And.intro @C6h (And.intro @ld_59 (And.intro @B4y (And.intro @ld_61 (And.intro @C0j (And.intro @ld_65 (And.intro @C7o (And.intro @ld_66 (And.intro @C6g (And.intro @ld_68 (And.intro @C4o (And.intro @ld_73 (And.intro @C7g (And.intro @ld_80 (And.intro @A43 (And.intro @ld_83 (And.intro @C4i (And.intro @ld_88 (And.intro @A5w (And.intro @ld_100 (And.intro @B0l (And.intro @ld_105 (And.intro @B2k (And.intro @ld_107 (And.intro @B07 (And.intro @ld_117 (And.intro @B38 (And.intro @ld_119 (And.intro @B17 (And.intro @ld_123 (And.intro @B1m (And.intro @ld_125 (And.intro @A96 (And.intro @ld_126 (And.intro @B30 (And.intro @ld_127 (And.intro @B25 (And.intro @ld_131 (And.intro @B63 (And.intro @ld_134 (And.intro @B78 (And.intro @ld_135 (And.intro @A9w (And.intro @ld_137 (And.intro @B85 (And.intro @ld_138 (And.intro @B46 (And.intro @ld_144 (And.intro @B7l (And.intro @ld_145 (And.intro @B34 (And.intro @ld_146 (And.intro @B91 (And.intro @ld_147 (And.intro @B80 (And.intro @ld_158 (And.intro @B01 (And.intro @ld_179 (And.intro @B04 (And.intro @ld_193 (And.intro @B83 (And.intro @ld_201 (And.intro @B59 (And.intro @ld_208 (And.intro @B82 (And.intro @ld_212 (And.intro @B84 (And.intro @ld_216 (And.intro @len_9 (And.intro @len_22 (And.intro @B71 (And.intro @B7n (And.intro @B5r (And.intro @len_23 (And.intro @B12 (And.intro @B4p (And.intro @B6p (And.intro @len_24 (And.intro @B55 (And.intro @B0s (And.intro @B9o (And.intro @C3k (And.intro @C2m (And.intro @C5n (And.intro @C4h (And.intro @len_30 (And.intro @B64 (And.intro @B1v (And.intro @B1s (And.intro @len_52 (And.intro @B87 (And.intro @B6r (And.intro @B4q (And.intro @C2i (And.intro @C6j (And.intro @C4k (And.intro @C1i (And.intro @C0h (And.intro @C2o (And.intro @C3o (And.intro @C9m (And.intro @len_65 (And.intro @B53 (And.intro @B5s (And.intro @B2s (And.intro @len_66 (And.intro @B11 (And.intro @B1u (And.intro @B3t (And.intro @C9o (And.intro @C3i (And.intro @C9g (And.intro @len_80 (And.intro @B48 (And.intro @B8s (And.intro @B0t (And.intro @C4n (And.intro @C5j (And.intro @len_88 (And.intro @B09 (And.intro @B0q (And.intro @B7s (And.intro @B31 (And.intro @B13 (And.intro @B68 (And.intro @B10 (And.intro @C9j (And.intro @B1o (And.intro @B4f (And.intro @B1i (And.intro @B43 (And.intro @B35 (And.intro @C7l (And.intro @B5v (And.intro @B0g (And.intro @B4g (And.intro @B39 (And.intro @B45 (And.intro @B42 (And.intro @B05 (And.intro @C7d (And.intro @B1r (And.intro @B3j (And.intro @B4i (And.intro @C9l (And.intro @B3o (And.intro @B5h (And.intro @B8d (And.intro @C1m (And.intro @B7o (And.intro @B5g (And.intro @B6g (And.intro @B74 (And.intro @B88 (And.intro @C5g (And.intro @B0v (And.intro @B9d (And.intro @B9e (And.intro @B24 (And.intro @B44 (And.intro @cv_5_3 (And.intro @B47 (And.intro @B00 (And.intro @B9i (@B66))))))))))))))))))))))))))))))))))))))))))))))))))))))))))))))))))))))))))))))))))))))))))))))))))))))))))))))))))))))))))))))))))))))))))))))))))))))))))))))))))))))))))))))))))))))))))))))))))):=And.intro @zero_1 (And.intro @ld_1 (And.intro @zero_2 (And.intro @ld_2 (And.intro @B9a (And.intro @ld_3 (And.intro @A75 (And.intro @ld_4 (And.intro @zero_5 (And.intro @ld_5 (And.intro @B41 (And.intro @ld_9 (And.intro @B0k (And.intro @ld_22 (And.intro @B8l (And.intro @ld_23 (And.intro @C1l (And.intro @ld_24 (And.intro @A62 (And.intro @ld_26 (And.intro @C4d (And.intro @ld_30 (And.intro @C6o (And.intro @ld_31 (And.intro @C2n (And.intro @ld_52 (And.intro @A44 (And.intro @ld_54 (And.intro @A03 (And.intro @ld_56 (And.intro @C6h (And.intro @ld_59 (And.intro @B4y (And.intro @ld_61 (And.intro @C0j (And.intro @ld_65 (And.intro @C7o (And.intro @ld_66 (And.intro @C6g (And.intro @ld_68 (And.intro @C4o (And.intro @ld_73 (And.intro @C7g (And.intro @ld_80 (And.intro @A43 (And.intro @ld_83 (And.intro @C4i (And.intro @ld_88 (And.intro @A5w (And.intro @ld_100 (And.intro @B0l (And.intro @ld_105 (And.intro @B2k (And.intro @ld_107 (And.intro @B07 (And.intro @ld_117 (And.intro @B38 (And.intro @ld_119 (And.intro @B17 (And.intro @ld_123 (And.intro @B1m (And.intro @ld_125 (And.intro @A96 (And.intro @ld_126 (And.intro @B30 (And.intro @ld_127 (And.intro @B25 (And.intro @ld_131 (And.intro @B63 (And.intro @ld_134 (And.intro @B78 (And.intro @ld_135 (And.intro @A9w (And.intro @ld_137 (And.intro @B85 (And.intro @ld_138 (And.intro @B46 (And.intro @ld_144 (And.intro @B7l (And.intro @ld_145 (And.intro @B34 (And.intro @ld_146 (And.intro @B91 (And.intro @ld_147 (And.intro @B80 (And.intro @ld_158 (And.intro @B01 (And.intro @ld_179 (And.intro @B04 (And.intro @ld_193 (And.intro @B83 (And.intro @ld_201 (And.intro @B59 (And.intro @ld_208 (And.intro @B82 (And.intro @ld_212 (And.intro @B84 (And.intro @ld_216 (And.intro @len_9 (And.intro @len_22 (And.intro @B71 (And.intro @B7n (And.intro @B5r (And.intro @len_23 (And.intro @B12 (And.intro @B4p (And.intro @B6p (And.intro @len_24 (And.intro @B55 (And.intro @B0s (And.intro @B9o (And.intro @C3k (And.intro @C2m (And.intro @C5n (And.intro @C4h (And.intro @len_30 (And.intro @B64 (And.intro @B1v (And.intro @B1s (And.intro @len_52 (And.intro @B87 (And.intro @B6r (And.intro @B4q (And.intro @C2i (And.intro @C6j (And.intro @C4k (And.intro @C1i (And.intro @C0h (And.intro @C2o (And.intro @C3o (And.intro @C9m (And.intro @len_65 (And.intro @B53 (And.intro @B5s (And.intro @B2s (And.intro @len_66 (And.intro @B11 (And.intro @B1u (And.intro @B3t (And.intro @C9o (And.intro @C3i (And.intro @C9g (And.intro @len_80 (And.intro @B48 (And.intro @B8s (And.intro @B0t (And.intro @C4n (And.intro @C5j (And.intro @len_88 (And.intro @B09 (And.intro @B0q (And.intro @B7s (And.intro @B31 (And.intro @B13 (And.intro @B68 (And.intro @B10 (And.intro @C9j (And.intro @B1o (And.intro @B4f (And.intro @B1i (And.intro @B43 (And.intro @B35 (And.intro @C7l (And.intro @B5v (And.intro @B0g (And.intro @B4g (And.intro @B39 (And.intro @B45 (And.intro @B42 (And.intro @B05 (And.intro @C7d (And.intro @B1r (And.intro @B3j (And.intro @B4i (And.intro @C9l (And.intro @B3o (And.intro @B5h (And.intro @B8d (And.intro @C1m (And.intro @B7o (And.intro @B5g (And.intro @B6g (And.intro @B74 (And.intro @B88 (And.intro @C5g (And.intro @B0v (And.intro @B9d (And.intro @B9e (And.intro @B24 (And.intro @B44 (And.intro @cv_5_3 (And.intro @B47 (And.intro @B00 (And.intro @B9i (@B66))))))))))))))))))))))))))))))))))))))))))))))))))))))))))))))))))))))))))))))))))))))))))))))))))))))))))))))))))))))))))))))))))))))))))))))))))))))))))))))))))))))))))))))))))))))))))))))))))
theorem sx:type_of% (And.intro @Sh.sy @B2n):=And.intro @Sh.sy @B2n
end Go.Proofs.YtnoengaghabmjaaGreat
/- Nets in memory: what is made and written of them. -/
set_option maxHeartbeats 4000000
namespace Go.Proofs.YtnoengaghabmjaaGreat
open Go Go.Proofs Go.Proofs.Sh
section
variable {H:AH} {g:Nat} {sg ar en v:Value} {N:NetD}
theorem A1p (hsg:isCell sg=true) (har:isCell ar=true) (hen:isCell en=true) {n:Int}:anew Tryz.prog 26 H (.agg #[sg,.int .i64 n,ar,en])=some (.pointer (some ⟨H.next,0,some 0⟩),(H.new 4 [sg,.int .i64 n,ar,en]).2):=
 A1o (vs:=[sg,.int .i64 n,ar,en]) A1t rfl (by simp [hsg,har,hen,show isCell (.int .i64 n)=true from rfl])
theorem A86 (hsg:isCell sg=true) (har:isCell ar=true) (hen:isCell en=true) {n:Int} {p:Addr}:A9g Tryz.prog 26 H (.agg #[sg,.int .i64 n,ar,en]) (.pointer (some p))=H.write p [sg,.int .i64 n,ar,en]:=
 A7p (vs:=[sg,.int .i64 n,ar,en]) A1t rfl (by simp [hsg,har,hen,show isCell (.int .i64 n)=true from rfl])
theorem A4c:anew Tryz.prog 26 H (.agg #[.slice none 0 0,.int .i64 0,.slice none 0 0,.slice none 0 0])=some (.pointer (some ⟨H.next,0,some 0⟩),(H.new 4 [.slice none 0 0,.int .i64 0,.slice none 0 0,.slice none 0 0]).2):=A1o (vs:=[.slice none 0 0,.int .i64 0,.slice none 0 0,.slice none 0 0]) A1t rfl rfl
theorem A3d:anew Tryz.prog 54 H (.agg #[.int .i64 0,.string ⟨#[]⟩,.string ⟨#[]⟩,.int .i64 0,.int .i64 0])=some (.pointer (some ⟨H.next,0,some 0⟩),(H.new 5 [.int .i64 0,.string ⟨#[]⟩,.string ⟨#[]⟩,.int .i64 0,.int .i64 0]).2):=
 A1o (vs:=[.int .i64 0,.string ⟨#[]⟩,.string ⟨#[]⟩,.int .i64 0,.int .i64 0]) A3l rfl rfl
theorem A4d:anew Tryz.prog 56 H (.agg #[.int .i64 0,.int .i64 0])=some (.pointer (some ⟨H.next,0,some 0⟩),(H.new 2 [.int .i64 0,.int .i64 0]).2):=A1o (vs:=[.int .i64 0,.int .i64 0]) A8o rfl rfl
theorem A0g {a:ArcD}:anew Tryz.prog 54 H (.agg a.cells.toArray)=some (.pointer (some ⟨H.next,0,some 0⟩),(H.new 5 a.cells).2):=A1o (vs:=a.cells) A3l rfl rfl
theorem A1g {a:EndD}:anew Tryz.prog 56 H (.agg a.cells.toArray)=some (.pointer (some ⟨H.next,0,some 0⟩),(H.new 2 a.cells).2):=A1o (vs:=a.cells) A8o rfl rfl
theorem A0c {a:ArcD} {p:Addr}:A9g Tryz.prog 54 H (.agg a.cells.toArray) (.pointer (some p))=H.write p a.cells:=A7p A3l rfl rfl
theorem A9b {a:EndD} {p:Addr}:A9g Tryz.prog 56 H (.agg a.cells.toArray) (.pointer (some p))=H.write p a.cells:=A7p A8o rfl rfl
theorem A2d {a:ArcD} {x0 x1 x2 x3 x4:Value}:(H.new 5 [x0,x1,x2,x3,x4]).2.write ⟨H.next,0,some 0⟩ a.cells=some (H.new 5 a.cells).2:=A8r rfl
theorem A5d {a:EndD} {x0 x1:Value}:(H.new 2 [x0,x1]).2.write ⟨H.next,0,some 0⟩ a.cells=some (H.new 2 a.cells).2:=A8r rfl
theorem A0d {x0 x1 x2 x3 y0 y1 y2 y3:Value}:(H.new 4 [x0,x1,x2,x3]).2.write ⟨H.next,0,some 0⟩ [y0,y1,y2,y3]=some (H.new 4 [y0,y1,y2,y3]).2:=A8r rfl
theorem arc0 {a:ArcD}:(H.new 5 a.cells).2.cell ⟨H.next,0,some 0⟩=some (.int .i64 a.fr):=A2k _ _ _
theorem arc1 {a:ArcD}:(H.new 5 a.cells).2.cell ⟨H.next,1,some 0⟩=some (.string a.inn):=A2k _ _ _
theorem arc2 {a:ArcD}:(H.new 5 a.cells).2.cell ⟨H.next,2,some 0⟩=some (.string a.out):=A2k _ _ _
theorem arc3 {a:ArcD}:(H.new 5 a.cells).2.cell ⟨H.next,3,some 0⟩=some (.int .i64 a.to):=A2k _ _ _
theorem arc4 {a:ArcD}:(H.new 5 a.cells).2.cell ⟨H.next,4,some 0⟩=some (.int .i64 a.cost):=A2k _ _ _
theorem end0 {a:EndD}:(H.new 2 a.cells).2.cell ⟨H.next,0,some 0⟩=some (.int .i64 a.state):=A2k _ _ _
theorem end1 {a:EndD}:(H.new 2 a.cells).2.cell ⟨H.next,1,some 0⟩=some (.int .i64 a.cost):=A2k _ _ _
theorem A3a (h:NetBox H g sg ar en N) {H':AH}:A6a Tryz.prog .len [22] [sg] H'=some (.int .i64 (N.sigma.length:Int),H'):=by rw [h.hsg.len Tryz.underlying22 H',List.length_map]
theorem A2a (h:NetBox H g sg ar en N) {H':AH}:A6a Tryz.prog .len [23] [ar] H'=some (.int .i64 (N.arcs.length:Int),H'):=by rw [h.har.len Tryz.underlying23 H',List.length_map]
theorem A1a (h:NetBox H g sg ar en N) {H':AH}:A6a Tryz.prog .len [24] [en] H'=some (.int .i64 (N.ends.length:Int),H'):=by rw [h.hen.len Tryz.underlying24 H',List.length_map]
theorem B4k {d:Nat} {a b:Int}:eqT Tryz.prog (d+1) 3 (.int .i64 a) (.int .i64 b)=some (decide (a=b)):=by
 simp only [eqT,Tryz.underlying3,A7h,cond_true,A9q]; rfl
end
end Go.Proofs.YtnoengaghabmjaaGreat
