/- A part of the proof: Facts, NetFacts, AnyLong, IsSymbol, AllSymbols, IsSet, RefSigma, Search, SearchAt, SearchStrings, IsIn, ValidateNet, SymsSmall, IndexFuncStr, SymsValidate, CmpLessStr, BinarySearch, GraphCheck, Priced, IsFree, RefValidate, NetOk, RelVal. -/
import Derived.Test.YtnoengaghabmjaaGreatDoorProg
import Derived.Test.YtnoengaghabmjaaGreatDoorMClose3RelComposes1
import Derived.KernelRfl
set_option linter.unusedVariables false
set_option linter.unusedSimpArgs false
/- What the types of this program are, for walking. Made by program. -/
set_option linter.unusedVariables false
set_option maxRecDepth 20000
namespace Go.Proofs.YtnoengaghabmjaaGreatDoor
open Go Go.Proofs Go.Proofs.Sh
theorem agg_1:A2f Tryz.prog 1=some false:=by kernel_rfl
theorem zero_1:zeroAt Tryz.prog 1=some (.nilFunc):=by kernel_rfl
theorem ld_1 {H:AH} {a:Addr}:A8e Tryz.prog 1 H (.pointer (some a))=H.cell a:=A2b agg_1
theorem agg_2:A2f Tryz.prog 2=some false:=by kernel_rfl
theorem zero_2:zeroAt Tryz.prog 2=some (.int .i64 0):=by kernel_rfl
theorem ld_2 {H:AH} {a:Addr}:A8e Tryz.prog 2 H (.pointer (some a))=H.cell a:=A2b agg_2
theorem B7c:A2f Tryz.prog 3=some false:=by kernel_rfl
theorem A7h:A9b Tryz.prog 3=some 1:=by kernel_rfl
theorem B04:Tryz.prog.cellsOf 3=1:=by kernel_rfl
theorem B6f:zeroAt Tryz.prog 3=some (.int .i64 0):=by kernel_rfl
theorem ld_3 {H:AH} {a:Addr}:A8e Tryz.prog 3 H (.pointer (some a))=H.cell a:=A2b B7c
theorem agg_4:A2f Tryz.prog 4=some false:=by kernel_rfl
theorem B9k:A9b Tryz.prog 4=some 1:=by kernel_rfl
theorem A94:zeroAt Tryz.prog 4=some (.bool false):=by kernel_rfl
theorem ld_4 {H:AH} {a:Addr}:A8e Tryz.prog 4 H (.pointer (some a))=H.cell a:=A2b agg_4
theorem agg_5:A2f Tryz.prog 5=some false:=by kernel_rfl
theorem zero_5:zeroAt Tryz.prog 5=some (.int .u8 0):=by kernel_rfl
theorem ld_5 {H:AH} {a:Addr}:A8e Tryz.prog 5 H (.pointer (some a))=H.cell a:=A2b agg_5
theorem agg_9:A2f Tryz.prog 9=some false:=by kernel_rfl
theorem A6l:A9b Tryz.prog 9=some 1:=by kernel_rfl
theorem C1s:Tryz.prog.cellsOf 9=1:=by kernel_rfl
theorem C2c:zeroAt Tryz.prog 9=some (.string ⟨#[]⟩):=by kernel_rfl
theorem ld_9 {H:AH} {a:Addr}:A8e Tryz.prog 9 H (.pointer (some a))=H.cell a:=A2b agg_9
theorem agg_22:A2f Tryz.prog 22=some false:=by kernel_rfl
theorem A0x:A9b Tryz.prog 22=some 1:=by kernel_rfl
theorem B14:Tryz.prog.cellsOf 22=1:=by kernel_rfl
theorem B8m:zeroAt Tryz.prog 22=some (.slice none 0 0):=by kernel_rfl
theorem ld_22 {H:AH} {a:Addr}:A8e Tryz.prog 22 H (.pointer (some a))=H.cell a:=A2b agg_22
theorem agg_23:A2f Tryz.prog 23=some false:=by kernel_rfl
theorem A9w:A9b Tryz.prog 23=some 1:=by kernel_rfl
theorem cells_23:Tryz.prog.cellsOf 23=1:=by kernel_rfl
theorem B8p:zeroAt Tryz.prog 23=some (.slice none 0 0):=by kernel_rfl
theorem ld_23 {H:AH} {a:Addr}:A8e Tryz.prog 23 H (.pointer (some a))=H.cell a:=A2b agg_23
theorem agg_24:A2f Tryz.prog 24=some false:=by kernel_rfl
theorem C9u:A9b Tryz.prog 24=some 1:=by kernel_rfl
theorem cells_24:Tryz.prog.cellsOf 24=1:=by kernel_rfl
theorem C1m:zeroAt Tryz.prog 24=some (.slice none 0 0):=by kernel_rfl
theorem ld_24 {H:AH} {a:Addr}:A8e Tryz.prog 24 H (.pointer (some a))=H.cell a:=A2b agg_24
theorem agg_26:A2f Tryz.prog 26=some true:=by kernel_rfl
theorem A6o:A9b Tryz.prog 26=some 4:=by kernel_rfl
theorem C4b:Tryz.prog.cellsOf 26=4:=by kernel_rfl
theorem A01:zeroAt Tryz.prog 26=some (.agg #[.slice none 0 0,.int .i64 0,.slice none 0 0,.slice none 0 0]):=by kernel_rfl
theorem ld_26 {H:AH} {a:Addr}:A8e Tryz.prog 26 H (.pointer (some a))=(H.cells a 4).map fun l=>.agg l.toArray:=A3m agg_26 A6o
theorem agg_28:A2f Tryz.prog 28=some true:=by kernel_rfl
theorem C8o:A9b Tryz.prog 28=some 10:=by kernel_rfl
theorem cells_28:Tryz.prog.cellsOf 28=10:=by kernel_rfl
theorem C1q:zeroAt Tryz.prog 28=some (.agg #[.slice none 0 0,.int .i64 0,.slice none 0 0,.slice none 0 0,.slice none 0 0,.int .i64 0,.slice none 0 0,.slice none 0 0,.slice none 0 0,.slice none 0 0]):=by kernel_rfl
theorem ld_28 {H:AH} {a:Addr}:A8e Tryz.prog 28 H (.pointer (some a))=(H.cells a 10).map fun l=>.agg l.toArray:=A3m agg_28 C8o
theorem agg_34:A2f Tryz.prog 34=some false:=by kernel_rfl
theorem C6v:zeroAt Tryz.prog 34=some (.int .i64 0):=by kernel_rfl
theorem ld_34 {H:AH} {a:Addr}:A8e Tryz.prog 34 H (.pointer (some a))=H.cell a:=A2b agg_34
theorem agg_43:A2f Tryz.prog 43=some true:=by kernel_rfl
theorem A2l:A9b Tryz.prog 43=some 5:=by kernel_rfl
theorem C6e:Tryz.prog.cellsOf 43=5:=by kernel_rfl
theorem A16:zeroAt Tryz.prog 43=some (.agg #[.int .i64 0,.string ⟨#[]⟩,.string ⟨#[]⟩,.int .i64 0,.int .i64 0]):=by kernel_rfl
theorem ld_43 {H:AH} {a:Addr}:A8e Tryz.prog 43 H (.pointer (some a))=(H.cells a 5).map fun l=>.agg l.toArray:=A3m agg_43 A2l
theorem agg_45:A2f Tryz.prog 45=some true:=by kernel_rfl
theorem A9q:A9b Tryz.prog 45=some 2:=by kernel_rfl
theorem B84:Tryz.prog.cellsOf 45=2:=by kernel_rfl
theorem A45:zeroAt Tryz.prog 45=some (.agg #[.int .i64 0,.int .i64 0]):=by kernel_rfl
theorem ld_45 {H:AH} {a:Addr}:A8e Tryz.prog 45 H (.pointer (some a))=(H.cells a 2).map fun l=>.agg l.toArray:=A3m agg_45 A9q
theorem agg_48:A2f Tryz.prog 48=some false:=by kernel_rfl
theorem C9p:zeroAt Tryz.prog 48=some (.slice none 0 0):=by kernel_rfl
theorem ld_48 {H:AH} {a:Addr}:A8e Tryz.prog 48 H (.pointer (some a))=H.cell a:=A2b agg_48
theorem agg_51:A2f Tryz.prog 51=some false:=by kernel_rfl
theorem C5p:zeroAt Tryz.prog 51=some (.slice none 0 0):=by kernel_rfl
theorem ld_51 {H:AH} {a:Addr}:A8e Tryz.prog 51 H (.pointer (some a))=H.cell a:=A2b agg_51
theorem agg_60:A2f Tryz.prog 60=some false:=by kernel_rfl
theorem C1w:A9b Tryz.prog 60=some 1:=by kernel_rfl
theorem B80:zeroAt Tryz.prog 60=some (.pointer none):=by kernel_rfl
theorem ld_60 {H:AH} {a:Addr}:A8e Tryz.prog 60 H (.pointer (some a))=H.cell a:=A2b agg_60
theorem agg_62:A2f Tryz.prog 62=some false:=by kernel_rfl
theorem size_62:A9b Tryz.prog 62=some 1:=by kernel_rfl
theorem C9m:zeroAt Tryz.prog 62=some (.nilFunc):=by kernel_rfl
theorem ld_62 {H:AH} {a:Addr}:A8e Tryz.prog 62 H (.pointer (some a))=H.cell a:=A2b agg_62
theorem agg_64:A2f Tryz.prog 64=some true:=by kernel_rfl
theorem size_64:A9b Tryz.prog 64=some 1:=by kernel_rfl
theorem C5q:zeroAt Tryz.prog 64=some (.agg #[.nilFunc]):=by kernel_rfl
theorem ld_64 {H:AH} {a:Addr}:A8e Tryz.prog 64 H (.pointer (some a))=(H.cells a 1).map fun l=>.agg l.toArray:=A3m agg_64 size_64
theorem agg_76:A2f Tryz.prog 76=some false:=by kernel_rfl
theorem C7l:zeroAt Tryz.prog 76=some (.slice none 0 0):=by kernel_rfl
theorem ld_76 {H:AH} {a:Addr}:A8e Tryz.prog 76 H (.pointer (some a))=H.cell a:=A2b agg_76
theorem B0r:A2f Tryz.prog 79=some true:=by kernel_rfl
theorem A1r:A9b Tryz.prog 79=some 2:=by kernel_rfl
theorem A27:zeroAt Tryz.prog 79=some (.agg #[.int .i64 0,.int .i64 0]):=by kernel_rfl
theorem ld_79 {H:AH} {a:Addr}:A8e Tryz.prog 79 H (.pointer (some a))=(H.cells a 2).map fun l=>.agg l.toArray:=A3m B0r A1r
theorem agg_80:A2f Tryz.prog 80=some false:=by kernel_rfl
theorem size_80:A9b Tryz.prog 80=some 1:=by kernel_rfl
theorem C4n:zeroAt Tryz.prog 80=some (.slice none 0 0):=by kernel_rfl
theorem ld_80 {H:AH} {a:Addr}:A8e Tryz.prog 80 H (.pointer (some a))=H.cell a:=A2b agg_80
theorem agg_81:A2f Tryz.prog 81=some false:=by kernel_rfl
theorem size_81:A9b Tryz.prog 81=some 1:=by kernel_rfl
theorem C5r:zeroAt Tryz.prog 81=some (.slice none 0 0):=by kernel_rfl
theorem ld_81 {H:AH} {a:Addr}:A8e Tryz.prog 81 H (.pointer (some a))=H.cell a:=A2b agg_81
theorem agg_83:A2f Tryz.prog 83=some true:=by kernel_rfl
theorem size_83:A9b Tryz.prog 83=some 3:=by kernel_rfl
theorem C9r:zeroAt Tryz.prog 83=some (.agg #[.int .i64 0,.slice none 0 0,.slice none 0 0]):=by kernel_rfl
theorem ld_83 {H:AH} {a:Addr}:A8e Tryz.prog 83 H (.pointer (some a))=(H.cells a 3).map fun l=>.agg l.toArray:=A3m agg_83 size_83
theorem agg_86:A2f Tryz.prog 86=some false:=by kernel_rfl
theorem B9n:A9b Tryz.prog 86=some 1:=by kernel_rfl
theorem C5u:zeroAt Tryz.prog 86=some (.slice none 0 0):=by kernel_rfl
theorem ld_86 {H:AH} {a:Addr}:A8e Tryz.prog 86 H (.pointer (some a))=H.cell a:=A2b agg_86
theorem agg_88:A2f Tryz.prog 88=some false:=by kernel_rfl
theorem C8v:zeroAt Tryz.prog 88=some (.slice none 0 0):=by kernel_rfl
theorem ld_88 {H:AH} {a:Addr}:A8e Tryz.prog 88 H (.pointer (some a))=H.cell a:=A2b agg_88
theorem agg_92:A2f Tryz.prog 92=some true:=by kernel_rfl
theorem A6x:A9b Tryz.prog 92=some 4:=by kernel_rfl
theorem A51:zeroAt Tryz.prog 92=some (.agg #[.int .i64 0,.int .i64 0,.int .i64 0,.int .i64 0]):=by kernel_rfl
theorem ld_92 {H:AH} {a:Addr}:A8e Tryz.prog 92 H (.pointer (some a))=(H.cells a 4).map fun l=>.agg l.toArray:=A3m agg_92 A6x
theorem agg_93:A2f Tryz.prog 93=some false:=by kernel_rfl
theorem C6q:zeroAt Tryz.prog 93=some (.slice none 0 0):=by kernel_rfl
theorem ld_93 {H:AH} {a:Addr}:A8e Tryz.prog 93 H (.pointer (some a))=H.cell a:=A2b agg_93
theorem agg_94:A2f Tryz.prog 94=some false:=by kernel_rfl
theorem C7t:zeroAt Tryz.prog 94=some (.map none):=by kernel_rfl
theorem ld_94 {H:AH} {a:Addr}:A8e Tryz.prog 94 H (.pointer (some a))=H.cell a:=A2b agg_94
theorem agg_99:A2f Tryz.prog 99=some false:=by kernel_rfl
theorem C0n:zeroAt Tryz.prog 99=some (.nilFunc):=by kernel_rfl
theorem ld_99 {H:AH} {a:Addr}:A8e Tryz.prog 99 H (.pointer (some a))=H.cell a:=A2b agg_99
theorem agg_101:A2f Tryz.prog 101=some false:=by kernel_rfl
theorem C3d:A9b Tryz.prog 101=some 1:=by kernel_rfl
theorem B18:zeroAt Tryz.prog 101=some (.slice none 0 0):=by kernel_rfl
theorem ld_101 {H:AH} {a:Addr}:A8e Tryz.prog 101 H (.pointer (some a))=H.cell a:=A2b agg_101
theorem agg_103:A2f Tryz.prog 103=some true:=by kernel_rfl
theorem B46:A9b Tryz.prog 103=some 4:=by kernel_rfl
theorem B6o:zeroAt Tryz.prog 103=some (.agg #[.slice none 0 0,.slice none 0 0,.slice none 0 0,.slice none 0 0]):=by kernel_rfl
theorem ld_103 {H:AH} {a:Addr}:A8e Tryz.prog 103 H (.pointer (some a))=(H.cells a 4).map fun l=>.agg l.toArray:=A3m agg_103 B46
theorem agg_107:A2f Tryz.prog 107=some true:=by kernel_rfl
theorem A6z:A9b Tryz.prog 107=some 4:=by kernel_rfl
theorem A8y:zeroAt Tryz.prog 107=some (.agg #[.int .i64 0,.int .i64 0,.int .i64 0,.int .i64 0]):=by kernel_rfl
theorem ld_107 {H:AH} {a:Addr}:A8e Tryz.prog 107 H (.pointer (some a))=(H.cells a 4).map fun l=>.agg l.toArray:=A3m agg_107 A6z
theorem agg_108:A2f Tryz.prog 108=some false:=by kernel_rfl
theorem A9r:A9b Tryz.prog 108=some 1:=by kernel_rfl
theorem A40:zeroAt Tryz.prog 108=some (.slice none 0 0):=by kernel_rfl
theorem ld_108 {H:AH} {a:Addr}:A8e Tryz.prog 108 H (.pointer (some a))=H.cell a:=A2b agg_108
theorem agg_113:A2f Tryz.prog 113=some false:=by kernel_rfl
theorem B85:zeroAt Tryz.prog 113=some (.map none):=by kernel_rfl
theorem ld_113 {H:AH} {a:Addr}:A8e Tryz.prog 113 H (.pointer (some a))=H.cell a:=A2b agg_113
theorem agg_118:A2f Tryz.prog 118=some false:=by kernel_rfl
theorem C1e:zeroAt Tryz.prog 118=some (.slice none 0 0):=by kernel_rfl
theorem ld_118 {H:AH} {a:Addr}:A8e Tryz.prog 118 H (.pointer (some a))=H.cell a:=A2b agg_118
theorem agg_120:A2f Tryz.prog 120=some true:=by kernel_rfl
theorem A5u:A9b Tryz.prog 120=some 2:=by kernel_rfl
theorem A3z:zeroAt Tryz.prog 120=some (.agg #[.int .i64 0,.int .i64 0]):=by kernel_rfl
theorem ld_120 {H:AH} {a:Addr}:A8e Tryz.prog 120 H (.pointer (some a))=(H.cells a 2).map fun l=>.agg l.toArray:=A3m agg_120 A5u
theorem agg_121:A2f Tryz.prog 121=some false:=by kernel_rfl
theorem size_121:A9b Tryz.prog 121=some 1:=by kernel_rfl
theorem B54:zeroAt Tryz.prog 121=some (.map none):=by kernel_rfl
theorem ld_121 {H:AH} {a:Addr}:A8e Tryz.prog 121 H (.pointer (some a))=H.cell a:=A2b agg_121
theorem agg_122:A2f Tryz.prog 122=some false:=by kernel_rfl
theorem B79:A9b Tryz.prog 122=some 1:=by kernel_rfl
theorem C0c:zeroAt Tryz.prog 122=some (.slice none 0 0):=by kernel_rfl
theorem ld_122 {H:AH} {a:Addr}:A8e Tryz.prog 122 H (.pointer (some a))=H.cell a:=A2b agg_122
theorem agg_124:A2f Tryz.prog 124=some false:=by kernel_rfl
theorem C2d:zeroAt Tryz.prog 124=some (.nilFunc):=by kernel_rfl
theorem ld_124 {H:AH} {a:Addr}:A8e Tryz.prog 124 H (.pointer (some a))=H.cell a:=A2b agg_124
theorem agg_131:A2f Tryz.prog 131=some false:=by kernel_rfl
theorem B35:zeroAt Tryz.prog 131=some (.slice none 0 0):=by kernel_rfl
theorem ld_131 {H:AH} {a:Addr}:A8e Tryz.prog 131 H (.pointer (some a))=H.cell a:=A2b agg_131
theorem agg_132:A2f Tryz.prog 132=some false:=by kernel_rfl
theorem B99:zeroAt Tryz.prog 132=some (.map none):=by kernel_rfl
theorem ld_132 {H:AH} {a:Addr}:A8e Tryz.prog 132 H (.pointer (some a))=H.cell a:=A2b agg_132
theorem agg_134:A2f Tryz.prog 134=some true:=by kernel_rfl
theorem A6y:A9b Tryz.prog 134=some 3:=by kernel_rfl
theorem A10:zeroAt Tryz.prog 134=some (.agg #[.int .i64 0,.int .i64 0,.int .i64 0]):=by kernel_rfl
theorem ld_134 {H:AH} {a:Addr}:A8e Tryz.prog 134 H (.pointer (some a))=(H.cells a 3).map fun l=>.agg l.toArray:=A3m agg_134 A6y
theorem agg_135:A2f Tryz.prog 135=some false:=by kernel_rfl
theorem B77:zeroAt Tryz.prog 135=some (.map none):=by kernel_rfl
theorem ld_135 {H:AH} {a:Addr}:A8e Tryz.prog 135 H (.pointer (some a))=H.cell a:=A2b agg_135
theorem agg_137:A2f Tryz.prog 137=some false:=by kernel_rfl
theorem size_137:A9b Tryz.prog 137=some 1:=by kernel_rfl
theorem B4o:zeroAt Tryz.prog 137=some (.slice none 0 0):=by kernel_rfl
theorem ld_137 {H:AH} {a:Addr}:A8e Tryz.prog 137 H (.pointer (some a))=H.cell a:=A2b agg_137
theorem agg_139:A2f Tryz.prog 139=some true:=by kernel_rfl
theorem C4c:A9b Tryz.prog 139=some 2:=by kernel_rfl
theorem B5q:zeroAt Tryz.prog 139=some (.agg #[.string ⟨#[]⟩,.int .i64 0]):=by kernel_rfl
theorem ld_139 {H:AH} {a:Addr}:A8e Tryz.prog 139 H (.pointer (some a))=(H.cells a 2).map fun l=>.agg l.toArray:=A3m agg_139 C4c
theorem agg_146:A2f Tryz.prog 146=some false:=by kernel_rfl
theorem B34:zeroAt Tryz.prog 146=some (.nilFunc):=by kernel_rfl
theorem ld_146 {H:AH} {a:Addr}:A8e Tryz.prog 146 H (.pointer (some a))=H.cell a:=A2b agg_146
theorem agg_152:A2f Tryz.prog 152=some false:=by kernel_rfl
theorem C1c:zeroAt Tryz.prog 152=some (.nilFunc):=by kernel_rfl
theorem ld_152 {H:AH} {a:Addr}:A8e Tryz.prog 152 H (.pointer (some a))=H.cell a:=A2b agg_152
theorem agg_169:A2f Tryz.prog 169=some false:=by kernel_rfl
theorem B15:zeroAt Tryz.prog 169=some (.int .u64 0):=by kernel_rfl
theorem ld_169 {H:AH} {a:Addr}:A8e Tryz.prog 169 H (.pointer (some a))=H.cell a:=A2b agg_169
theorem agg_212:A2f Tryz.prog 212=some false:=by kernel_rfl
theorem B36:zeroAt Tryz.prog 212=some (.int .u64 0):=by kernel_rfl
theorem ld_212 {H:AH} {a:Addr}:A8e Tryz.prog 212 H (.pointer (some a))=H.cell a:=A2b agg_212
theorem agg_218:A2f Tryz.prog 218=some false:=by kernel_rfl
theorem C2b:zeroAt Tryz.prog 218=some (.int .i64 0):=by kernel_rfl
theorem ld_218 {H:AH} {a:Addr}:A8e Tryz.prog 218 H (.pointer (some a))=H.cell a:=A2b agg_218
theorem agg_226:A2f Tryz.prog 226=some false:=by kernel_rfl
theorem C7e:zeroAt Tryz.prog 226=some (.int .u32 0):=by kernel_rfl
theorem ld_226 {H:AH} {a:Addr}:A8e Tryz.prog 226 H (.pointer (some a))=H.cell a:=A2b agg_226
theorem agg_231:A2f Tryz.prog 231=some false:=by kernel_rfl
theorem B24:zeroAt Tryz.prog 231=some (.int .u64 0):=by kernel_rfl
theorem ld_231 {H:AH} {a:Addr}:A8e Tryz.prog 231 H (.pointer (some a))=H.cell a:=A2b agg_231
theorem agg_235:A2f Tryz.prog 235=some false:=by kernel_rfl
theorem B56:zeroAt Tryz.prog 235=some (.pointer none):=by kernel_rfl
theorem ld_235 {H:AH} {a:Addr}:A8e Tryz.prog 235 H (.pointer (some a))=H.cell a:=A2b agg_235
theorem agg_237:A2f Tryz.prog 237=some false:=by kernel_rfl
theorem C4a:zeroAt Tryz.prog 237=some (.pointer none):=by kernel_rfl
theorem ld_237 {H:AH} {a:Addr}:A8e Tryz.prog 237 H (.pointer (some a))=H.cell a:=A2b agg_237
theorem len_9 {H:AH} {s:ByteArray}:A5a Tryz.prog .len [9] [.string s] H=some (.int .i64 (s.size:Int),H):=C1i Tryz.underlying9
theorem len_22 {H:AH} {n c:Nat} {a:Option Addr}:A5a Tryz.prog .len [22] [.slice a n c] H=some (.int .i64 (n:Int),H):=A1g Tryz.underlying22
theorem info_22:((Tryz.prog.info? 9).map fun i=>Nat.beq i.size 1 && Nat.ble i.bytes 65536)=some true:=by kernel_rfl
theorem app_22 {H:AH} {t' len cap n:Nat} {base:Option Addr} {x:Value} {new:List Value} (hx:Sh.srcKind Tryz.prog t' x=true) (hn:Sh.newCells 1 H x=some (n,new)) (hb:len+n≤1073741824):A5a Tryz.prog .append [22,t'] [.slice base len cap,x] H=A6e 1 base len cap n new H:=A04 Tryz.underlying22 info_22 C2c rfl (Nat.le_of_ble_eq_true rfl) hx hn hb
theorem C4e {c:Bool} {a:Option Addr} {n m:Nat}:abin Tryz.prog 22 c .eql (.slice a n m) (.slice none 0 0)=some (.bool a.isNone):=A6g Tryz.underlying22
theorem B4w {c:Bool} {a:Option Addr} {n m:Nat}:abin Tryz.prog 22 c .neq (.slice a n m) (.slice none 0 0)=some (.bool a.isSome):=A1d Tryz.underlying22
theorem B6t {H:AH}:A4a Tryz.prog 22 0 [] H=some (.slice (some ⟨H.next,0,some 0⟩) 0 0,(H.new 1 []).2):=A5g Tryz.underlying22 A6l C2c rfl (Nat.le_of_ble_eq_true rfl)
theorem len_23 {H:AH} {n c:Nat} {a:Option Addr}:A5a Tryz.prog .len [23] [.slice a n c] H=some (.int .i64 (n:Int),H):=A1g Tryz.underlying23
theorem info_23:((Tryz.prog.info? 43).map fun i=>Nat.beq i.size 5 && Nat.ble i.bytes 65536)=some true:=by kernel_rfl
theorem C9n {H:AH} {len cap:Nat} {base:Option Addr} {x:List Value} (hx:x.length=5) (hb:len≤1073741823):A5a Tryz.prog .append [23,23] [.slice base len cap,.slice (some ⟨H.next,0,some 0⟩) 1 1] (H.new 5 x).2=A6e 5 base len cap 1 x (H.new 5 x).2:=A5p Tryz.underlying23 info_23 A16 rfl (Nat.le_of_ble_eq_true rfl) hx hb
theorem B67 {c:Bool} {a:Option Addr} {n m:Nat}:abin Tryz.prog 23 c .eql (.slice a n m) (.slice none 0 0)=some (.bool a.isNone):=A6g Tryz.underlying23
theorem B1w {c:Bool} {a:Option Addr} {n m:Nat}:abin Tryz.prog 23 c .neq (.slice a n m) (.slice none 0 0)=some (.bool a.isSome):=A1d Tryz.underlying23
theorem B9t {H:AH}:A4a Tryz.prog 23 0 [] H=some (.slice (some ⟨H.next,0,some 0⟩) 0 0,(H.new 5 []).2):=A5g Tryz.underlying23 A2l A16 rfl (Nat.le_of_ble_eq_true rfl)
theorem B7t {H:AH} {x:Value} (hx:(A8a x).length=5) (hc:(A8a x).all isCell=true):A4a Tryz.prog 23 1 [(0,x)] H=some (.slice (some ⟨H.next,0,some 0⟩) 1 1,(H.new 5 (A8a x)).2):=A3o Tryz.underlying23 A2l A16 rfl (Nat.le_of_ble_eq_true rfl) (Nat.le_of_ble_eq_true rfl) hx hc
theorem len_24 {H:AH} {n c:Nat} {a:Option Addr}:A5a Tryz.prog .len [24] [.slice a n c] H=some (.int .i64 (n:Int),H):=A1g Tryz.underlying24
theorem info_24:((Tryz.prog.info? 45).map fun i=>Nat.beq i.size 2 && Nat.ble i.bytes 65536)=some true:=by kernel_rfl
theorem app1_24 {H:AH} {len cap:Nat} {base:Option Addr} {x:List Value} (hx:x.length=2) (hb:len≤1073741823):A5a Tryz.prog .append [24,24] [.slice base len cap,.slice (some ⟨H.next,0,some 0⟩) 1 1] (H.new 2 x).2=A6e 2 base len cap 1 x (H.new 2 x).2:=A5p Tryz.underlying24 info_24 A45 rfl (Nat.le_of_ble_eq_true rfl) hx hb
theorem C6c {c:Bool} {a:Option Addr} {n m:Nat}:abin Tryz.prog 24 c .eql (.slice a n m) (.slice none 0 0)=some (.bool a.isNone):=A6g Tryz.underlying24
theorem B1x {c:Bool} {a:Option Addr} {n m:Nat}:abin Tryz.prog 24 c .neq (.slice a n m) (.slice none 0 0)=some (.bool a.isSome):=A1d Tryz.underlying24
theorem B0u {H:AH}:A4a Tryz.prog 24 0 [] H=some (.slice (some ⟨H.next,0,some 0⟩) 0 0,(H.new 2 []).2):=A5g Tryz.underlying24 A9q A45 rfl (Nat.le_of_ble_eq_true rfl)
theorem C8t {H:AH} {x:Value} (hx:(A8a x).length=2) (hc:(A8a x).all isCell=true):A4a Tryz.prog 24 1 [(0,x)] H=some (.slice (some ⟨H.next,0,some 0⟩) 1 1,(H.new 2 (A8a x)).2):=A3o Tryz.underlying24 A9q A45 rfl (Nat.le_of_ble_eq_true rfl) (Nat.le_of_ble_eq_true rfl) hx hc
theorem C3t {g o k:Nat}:A0b Tryz.prog 26 0 (.pointer (some ⟨g,o,some k⟩))=some (.pointer (some ⟨g,o+0,some k⟩)):=by have h:=A7a (g:=g) (o:=o) (k:=k) (f:=0) Tryz.underlying26 (Eq.refl (some _)) A0x rfl; exact h
theorem C0u {g o k:Nat}:A0b Tryz.prog 26 1 (.pointer (some ⟨g,o,some k⟩))=some (.pointer (some ⟨g,o+1,some k⟩)):=by have h:=A7a (g:=g) (o:=o) (k:=k) (f:=1) Tryz.underlying26 (Eq.refl (some _)) A7h rfl; exact h
theorem C9q {g o k:Nat}:A0b Tryz.prog 26 2 (.pointer (some ⟨g,o,some k⟩))=some (.pointer (some ⟨g,o+2,some k⟩)):=by have h:=A7a (g:=g) (o:=o) (k:=k) (f:=2) Tryz.underlying26 (Eq.refl (some _)) A9w rfl; exact h
theorem C2u {g o k:Nat}:A0b Tryz.prog 26 3 (.pointer (some ⟨g,o,some k⟩))=some (.pointer (some ⟨g,o+3,some k⟩)):=by have h:=A7a (g:=g) (o:=o) (k:=k) (f:=3) Tryz.underlying26 (Eq.refl (some _)) C9u rfl; exact h
theorem C3m {g o k:Nat}:A0b Tryz.prog 28 0 (.pointer (some ⟨g,o,some k⟩))=some (.pointer (some ⟨g,o+0,some k⟩)):=by have h:=A7a (g:=g) (o:=o) (k:=k) (f:=0) Tryz.underlying28 (Eq.refl (some _)) A6o rfl; exact h
theorem C7i {g o k:Nat}:A0b Tryz.prog 28 1 (.pointer (some ⟨g,o,some k⟩))=some (.pointer (some ⟨g,o+4,some k⟩)):=by have h:=A7a (g:=g) (o:=o) (k:=k) (f:=1) Tryz.underlying28 (Eq.refl (some _)) A6o rfl; exact h
theorem C8m {g o k:Nat}:A0b Tryz.prog 28 2 (.pointer (some ⟨g,o,some k⟩))=some (.pointer (some ⟨g,o+8,some k⟩)):=by have h:=A7a (g:=g) (o:=o) (k:=k) (f:=2) Tryz.underlying28 (Eq.refl (some _)) A0x rfl; exact h
theorem C8k {g o k:Nat}:A0b Tryz.prog 28 3 (.pointer (some ⟨g,o,some k⟩))=some (.pointer (some ⟨g,o+9,some k⟩)):=by have h:=A7a (g:=g) (o:=o) (k:=k) (f:=3) Tryz.underlying28 (Eq.refl (some _)) A0x rfl; exact h
theorem C6k {g o k:Nat}:A0b Tryz.prog 43 0 (.pointer (some ⟨g,o,some k⟩))=some (.pointer (some ⟨g,o+0,some k⟩)):=by have h:=A7a (g:=g) (o:=o) (k:=k) (f:=0) Tryz.underlying43 (Eq.refl (some _)) A7h rfl; exact h
theorem C0j {g o k:Nat}:A0b Tryz.prog 43 1 (.pointer (some ⟨g,o,some k⟩))=some (.pointer (some ⟨g,o+1,some k⟩)):=by have h:=A7a (g:=g) (o:=o) (k:=k) (f:=1) Tryz.underlying43 (Eq.refl (some _)) A6l rfl; exact h
theorem C0t {g o k:Nat}:A0b Tryz.prog 43 2 (.pointer (some ⟨g,o,some k⟩))=some (.pointer (some ⟨g,o+2,some k⟩)):=by have h:=A7a (g:=g) (o:=o) (k:=k) (f:=2) Tryz.underlying43 (Eq.refl (some _)) A6l rfl; exact h
theorem C0k {g o k:Nat}:A0b Tryz.prog 43 3 (.pointer (some ⟨g,o,some k⟩))=some (.pointer (some ⟨g,o+3,some k⟩)):=by have h:=A7a (g:=g) (o:=o) (k:=k) (f:=3) Tryz.underlying43 (Eq.refl (some _)) A7h rfl; exact h
theorem C7s {g o k:Nat}:A0b Tryz.prog 43 4 (.pointer (some ⟨g,o,some k⟩))=some (.pointer (some ⟨g,o+4,some k⟩)):=by have h:=A7a (g:=g) (o:=o) (k:=k) (f:=4) Tryz.underlying43 (Eq.refl (some _)) A7h rfl; exact h
theorem bld_43 {v0 v1 v2 v3 v4:Value} (h0:isCell v0=true) (h1:isCell v1=true) (h2:isCell v2=true) (h3:isCell v3=true) (h4:isCell v4=true):A2m Tryz.prog 43 [(0,v0),(1,v1),(2,v2),(3,v3),(4,v4)]=some (.agg #[v0,v1,v2,v3,v4]):=by refine A9g (pl:=[(0,1),(1,1),(2,1),(3,1),(4,1)]) Tryz.underlying43 A16 (by kernel_rfl) ?_; have va:∀ xs:Array Value,A8a (.agg xs)=xs.toList:=fun _=>rfl; simp [A5r,A8b h0,A8b h1,A8b h2,A8b h3,A8b h4,va,h0,h1,h2,h3,h4,setCells,A6a,A0c]
theorem C4l {g o k:Nat}:A0b Tryz.prog 45 0 (.pointer (some ⟨g,o,some k⟩))=some (.pointer (some ⟨g,o+0,some k⟩)):=by have h:=A7a (g:=g) (o:=o) (k:=k) (f:=0) Tryz.underlying45 (Eq.refl (some _)) A7h rfl; exact h
theorem C6s {g o k:Nat}:A0b Tryz.prog 45 1 (.pointer (some ⟨g,o,some k⟩))=some (.pointer (some ⟨g,o+1,some k⟩)):=by have h:=A7a (g:=g) (o:=o) (k:=k) (f:=1) Tryz.underlying45 (Eq.refl (some _)) A7h rfl; exact h
theorem bld_45 {v0 v1:Value} (h0:isCell v0=true) (h1:isCell v1=true):A2m Tryz.prog 45 [(0,v0),(1,v1)]=some (.agg #[v0,v1]):=by refine A9g (pl:=[(0,1),(1,1)]) Tryz.underlying45 A45 (by kernel_rfl) ?_; have va:∀ xs:Array Value,A8a (.agg xs)=xs.toList:=fun _=>rfl; simp [A5r,A8b h0,A8b h1,va,h0,h1,setCells,A6a,A0c]
theorem len_48 {H:AH} {n c:Nat} {a:Option Addr}:A5a Tryz.prog .len [48] [.slice a n c] H=some (.int .i64 (n:Int),H):=A1g Tryz.underlying48
theorem C3a {c:Bool} {a:Option Addr} {n m:Nat}:abin Tryz.prog 48 c .eql (.slice a n m) (.slice none 0 0)=some (.bool a.isNone):=A6g Tryz.underlying48
theorem B0w {c:Bool} {a:Option Addr} {n m:Nat}:abin Tryz.prog 48 c .neq (.slice a n m) (.slice none 0 0)=some (.bool a.isSome):=A1d Tryz.underlying48
theorem B8t {H:AH}:A4a Tryz.prog 48 0 [] H=some (.slice (some ⟨H.next,0,some 0⟩) 0 0,(H.new 1 []).2):=A5g Tryz.underlying48 A0x B8m rfl (Nat.le_of_ble_eq_true rfl)
theorem ia_51 {g o k n c i:Nat} {j:IntKind} (h:i < n):A8d Tryz.prog 51 (.slice (some ⟨g,o,some k⟩) n c) (.int j (i:Int))=some (.pointer (some ⟨g,o+i * 4,some k⟩)):=A8w Tryz.underlying51 A6o h
theorem C4r {H:AH} {n c:Nat} {a:Option Addr}:A5a Tryz.prog .len [51] [.slice a n c] H=some (.int .i64 (n:Int),H):=A1g Tryz.underlying51
theorem C5e {c:Bool} {a:Option Addr} {n m:Nat}:abin Tryz.prog 51 c .eql (.slice a n m) (.slice none 0 0)=some (.bool a.isNone):=A6g Tryz.underlying51
theorem B1u {c:Bool} {a:Option Addr} {n m:Nat}:abin Tryz.prog 51 c .neq (.slice a n m) (.slice none 0 0)=some (.bool a.isSome):=A1d Tryz.underlying51
theorem B2u {H:AH}:A4a Tryz.prog 51 0 [] H=some (.slice (some ⟨H.next,0,some 0⟩) 0 0,(H.new 4 []).2):=A5g Tryz.underlying51 A6o A01 rfl (Nat.le_of_ble_eq_true rfl)
theorem C8r {g o k:Nat}:A0b Tryz.prog 64 0 (.pointer (some ⟨g,o,some k⟩))=some (.pointer (some ⟨g,o+0,some k⟩)):=by have h:=A7a (g:=g) (o:=o) (k:=k) (f:=0) Tryz.underlying64 (Eq.refl (some _)) size_62 rfl; exact h
theorem len_76 {H:AH} {n c:Nat} {a:Option Addr}:A5a Tryz.prog .len [76] [.slice a n c] H=some (.int .i64 (n:Int),H):=A1g Tryz.underlying76
theorem info_76:((Tryz.prog.info? 79).map fun i=>Nat.beq i.size 2 && Nat.ble i.bytes 65536)=some true:=by kernel_rfl
theorem app1_76 {H:AH} {len cap:Nat} {base:Option Addr} {x:List Value} (hx:x.length=2) (hb:len≤1073741823):A5a Tryz.prog .append [76,76] [.slice base len cap,.slice (some ⟨H.next,0,some 0⟩) 1 1] (H.new 2 x).2=A6e 2 base len cap 1 x (H.new 2 x).2:=A5p Tryz.underlying76 info_76 A27 rfl (Nat.le_of_ble_eq_true rfl) hx hb
theorem B87 {c:Bool} {a:Option Addr} {n m:Nat}:abin Tryz.prog 76 c .eql (.slice a n m) (.slice none 0 0)=some (.bool a.isNone):=A6g Tryz.underlying76
theorem B1r {c:Bool} {a:Option Addr} {n m:Nat}:abin Tryz.prog 76 c .neq (.slice a n m) (.slice none 0 0)=some (.bool a.isSome):=A1d Tryz.underlying76
theorem B6r {H:AH}:A4a Tryz.prog 76 0 [] H=some (.slice (some ⟨H.next,0,some 0⟩) 0 0,(H.new 2 []).2):=A5g Tryz.underlying76 A1r A27 rfl (Nat.le_of_ble_eq_true rfl)
theorem C1o {H:AH} {x:Value} (hx:(A8a x).length=2) (hc:(A8a x).all isCell=true):A4a Tryz.prog 76 1 [(0,x)] H=some (.slice (some ⟨H.next,0,some 0⟩) 1 1,(H.new 2 (A8a x)).2):=A3o Tryz.underlying76 A1r A27 rfl (Nat.le_of_ble_eq_true rfl) (Nat.le_of_ble_eq_true rfl) hx hc
theorem C5m {g o k:Nat}:A0b Tryz.prog 79 0 (.pointer (some ⟨g,o,some k⟩))=some (.pointer (some ⟨g,o+0,some k⟩)):=by have h:=A7a (g:=g) (o:=o) (k:=k) (f:=0) Tryz.underlying79 (Eq.refl (some _)) A7h rfl; exact h
theorem C2l {g o k:Nat}:A0b Tryz.prog 79 1 (.pointer (some ⟨g,o,some k⟩))=some (.pointer (some ⟨g,o+1,some k⟩)):=by have h:=A7a (g:=g) (o:=o) (k:=k) (f:=1) Tryz.underlying79 (Eq.refl (some _)) A7h rfl; exact h
theorem len_80 {H:AH} {n c:Nat} {a:Option Addr}:A5a Tryz.prog .len [80] [.slice a n c] H=some (.int .i64 (n:Int),H):=A1g Tryz.underlying80
theorem B76 {c:Bool} {a:Option Addr} {n m:Nat}:abin Tryz.prog 80 c .eql (.slice a n m) (.slice none 0 0)=some (.bool a.isNone):=A6g Tryz.underlying80
theorem B4s {c:Bool} {a:Option Addr} {n m:Nat}:abin Tryz.prog 80 c .neq (.slice a n m) (.slice none 0 0)=some (.bool a.isSome):=A1d Tryz.underlying80
theorem B9q {H:AH}:A4a Tryz.prog 80 0 [] H=some (.slice (some ⟨H.next,0,some 0⟩) 0 0,(H.new 1 []).2):=A5g Tryz.underlying80 size_137 B4o rfl (Nat.le_of_ble_eq_true rfl)
theorem len_81 {H:AH} {n c:Nat} {a:Option Addr}:A5a Tryz.prog .len [81] [.slice a n c] H=some (.int .i64 (n:Int),H):=A1g Tryz.underlying81
theorem info_81:((Tryz.prog.info? 4).map fun i=>Nat.beq i.size 1 && Nat.ble i.bytes 65536)=some true:=by kernel_rfl
theorem B94 {c:Bool} {a:Option Addr} {n m:Nat}:abin Tryz.prog 81 c .eql (.slice a n m) (.slice none 0 0)=some (.bool a.isNone):=A6g Tryz.underlying81
theorem B2x {c:Bool} {a:Option Addr} {n m:Nat}:abin Tryz.prog 81 c .neq (.slice a n m) (.slice none 0 0)=some (.bool a.isSome):=A1d Tryz.underlying81
theorem mk_81 {H:AH} {l c:Nat} (hlc:l≤c) (hc:c≤1073741824):A2i Tryz.prog 81 (.int .i64 (l:Int)) (.int .i64 (c:Int)) H=some (.slice (some ⟨H.next,0,some 0⟩) l c,(H.new 1 (List.replicate c (.bool false))).2):=by rw [← A79]; exact B9o Tryz.underlying81 info_81 A94 rfl (Nat.le_of_ble_eq_true rfl) hlc hc
theorem B6w {H:AH}:A4a Tryz.prog 81 0 [] H=some (.slice (some ⟨H.next,0,some 0⟩) 0 0,(H.new 1 []).2):=A5g Tryz.underlying81 B9k A94 rfl (Nat.le_of_ble_eq_true rfl)
theorem C3k {g o k:Nat}:A0b Tryz.prog 83 0 (.pointer (some ⟨g,o,some k⟩))=some (.pointer (some ⟨g,o+0,some k⟩)):=by have h:=A7a (g:=g) (o:=o) (k:=k) (f:=0) Tryz.underlying83 (Eq.refl (some _)) A7h rfl; exact h
theorem C1r {g o k:Nat}:A0b Tryz.prog 83 1 (.pointer (some ⟨g,o,some k⟩))=some (.pointer (some ⟨g,o+1,some k⟩)):=by have h:=A7a (g:=g) (o:=o) (k:=k) (f:=1) Tryz.underlying83 (Eq.refl (some _)) size_80 rfl; exact h
theorem C0q {g o k:Nat}:A0b Tryz.prog 83 2 (.pointer (some ⟨g,o,some k⟩))=some (.pointer (some ⟨g,o+2,some k⟩)):=by have h:=A7a (g:=g) (o:=o) (k:=k) (f:=2) Tryz.underlying83 (Eq.refl (some _)) size_81 rfl; exact h
theorem len_86 {H:AH} {n c:Nat} {a:Option Addr}:A5a Tryz.prog .len [86] [.slice a n c] H=some (.int .i64 (n:Int),H):=A1g Tryz.underlying86
theorem C9i:((Tryz.prog.info? 3).map fun i=>Nat.beq i.size 1 && Nat.ble i.bytes 65536)=some true:=by kernel_rfl
theorem app_86 {H:AH} {t' len cap n:Nat} {base:Option Addr} {x:Value} {new:List Value} (hx:Sh.srcKind Tryz.prog t' x=true) (hn:Sh.newCells 1 H x=some (n,new)) (hb:len+n≤1073741824):A5a Tryz.prog .append [86,t'] [.slice base len cap,x] H=A6e 1 base len cap n new H:=A04 Tryz.underlying86 C9i B6f rfl (Nat.le_of_ble_eq_true rfl) hx hn hb
theorem B66 {c:Bool} {a:Option Addr} {n m:Nat}:abin Tryz.prog 86 c .eql (.slice a n m) (.slice none 0 0)=some (.bool a.isNone):=A6g Tryz.underlying86
theorem B9w {c:Bool} {a:Option Addr} {n m:Nat}:abin Tryz.prog 86 c .neq (.slice a n m) (.slice none 0 0)=some (.bool a.isSome):=A1d Tryz.underlying86
theorem mk_86 {H:AH} {l c:Nat} (hlc:l≤c) (hc:c≤1073741824):A2i Tryz.prog 86 (.int .i64 (l:Int)) (.int .i64 (c:Int)) H=some (.slice (some ⟨H.next,0,some 0⟩) l c,(H.new 1 (List.replicate c (.int .i64 0))).2):=by rw [← A79]; exact B9o Tryz.underlying86 C9i B6f rfl (Nat.le_of_ble_eq_true rfl) hlc hc
theorem B4t {H:AH}:A4a Tryz.prog 86 0 [] H=some (.slice (some ⟨H.next,0,some 0⟩) 0 0,(H.new 1 []).2):=A5g Tryz.underlying86 A7h B6f rfl (Nat.le_of_ble_eq_true rfl)
theorem B7s {H:AH} {x:Value} (hx:(A8a x).length=1) (hc:(A8a x).all isCell=true):A4a Tryz.prog 86 1 [(0,x)] H=some (.slice (some ⟨H.next,0,some 0⟩) 1 1,(H.new 1 (A8a x)).2):=A3o Tryz.underlying86 A7h B6f rfl (Nat.le_of_ble_eq_true rfl) (Nat.le_of_ble_eq_true rfl) hx hc
theorem len_88 {H:AH} {n c:Nat} {a:Option Addr}:A5a Tryz.prog .len [88] [.slice a n c] H=some (.int .i64 (n:Int),H):=A1g Tryz.underlying88
theorem info_88:((Tryz.prog.info? 23).map fun i=>Nat.beq i.size 1 && Nat.ble i.bytes 65536)=some true:=by kernel_rfl
theorem B29 {c:Bool} {a:Option Addr} {n m:Nat}:abin Tryz.prog 88 c .eql (.slice a n m) (.slice none 0 0)=some (.bool a.isNone):=A6g Tryz.underlying88
theorem B2v {c:Bool} {a:Option Addr} {n m:Nat}:abin Tryz.prog 88 c .neq (.slice a n m) (.slice none 0 0)=some (.bool a.isSome):=A1d Tryz.underlying88
theorem mk_88 {H:AH} {l c:Nat} (hlc:l≤c) (hc:c≤1073741824):A2i Tryz.prog 88 (.int .i64 (l:Int)) (.int .i64 (c:Int)) H=some (.slice (some ⟨H.next,0,some 0⟩) l c,(H.new 1 (List.replicate c (.slice none 0 0))).2):=by rw [← A79]; exact B9o Tryz.underlying88 info_88 B8p rfl (Nat.le_of_ble_eq_true rfl) hlc hc
theorem B2w {H:AH}:A4a Tryz.prog 88 0 [] H=some (.slice (some ⟨H.next,0,some 0⟩) 0 0,(H.new 1 []).2):=A5g Tryz.underlying88 A9w B8p rfl (Nat.le_of_ble_eq_true rfl)
theorem C1j {g o k:Nat}:A0b Tryz.prog 92 0 (.pointer (some ⟨g,o,some k⟩))=some (.pointer (some ⟨g,o+0,some k⟩)):=by have h:=A7a (g:=g) (o:=o) (k:=k) (f:=0) Tryz.underlying92 (Eq.refl (some _)) A7h rfl; exact h
theorem C7v {g o k:Nat}:A0b Tryz.prog 92 1 (.pointer (some ⟨g,o,some k⟩))=some (.pointer (some ⟨g,o+1,some k⟩)):=by have h:=A7a (g:=g) (o:=o) (k:=k) (f:=1) Tryz.underlying92 (Eq.refl (some _)) A7h rfl; exact h
theorem C8j {g o k:Nat}:A0b Tryz.prog 92 2 (.pointer (some ⟨g,o,some k⟩))=some (.pointer (some ⟨g,o+2,some k⟩)):=by have h:=A7a (g:=g) (o:=o) (k:=k) (f:=2) Tryz.underlying92 (Eq.refl (some _)) A1r rfl; exact h
theorem len_93 {H:AH} {n c:Nat} {a:Option Addr}:A5a Tryz.prog .len [93] [.slice a n c] H=some (.int .i64 (n:Int),H):=A1g Tryz.underlying93
theorem info_93:((Tryz.prog.info? 92).map fun i=>Nat.beq i.size 4 && Nat.ble i.bytes 65536)=some true:=by kernel_rfl
theorem app1_93 {H:AH} {len cap:Nat} {base:Option Addr} {x:List Value} (hx:x.length=4) (hb:len≤1073741823):A5a Tryz.prog .append [93,93] [.slice base len cap,.slice (some ⟨H.next,0,some 0⟩) 1 1] (H.new 4 x).2=A6e 4 base len cap 1 x (H.new 4 x).2:=A5p Tryz.underlying93 info_93 A51 rfl (Nat.le_of_ble_eq_true rfl) hx hb
theorem C9a {c:Bool} {a:Option Addr} {n m:Nat}:abin Tryz.prog 93 c .eql (.slice a n m) (.slice none 0 0)=some (.bool a.isNone):=A6g Tryz.underlying93
theorem B8s {c:Bool} {a:Option Addr} {n m:Nat}:abin Tryz.prog 93 c .neq (.slice a n m) (.slice none 0 0)=some (.bool a.isSome):=A1d Tryz.underlying93
theorem B6x {H:AH}:A4a Tryz.prog 93 0 [] H=some (.slice (some ⟨H.next,0,some 0⟩) 0 0,(H.new 4 []).2):=A5g Tryz.underlying93 A6x A51 rfl (Nat.le_of_ble_eq_true rfl)
theorem C9s {H:AH} {x:Value} (hx:(A8a x).length=4) (hc:(A8a x).all isCell=true):A4a Tryz.prog 93 1 [(0,x)] H=some (.slice (some ⟨H.next,0,some 0⟩) 1 1,(H.new 4 (A8a x)).2):=A3o Tryz.underlying93 A6x A51 rfl (Nat.le_of_ble_eq_true rfl) (Nat.le_of_ble_eq_true rfl) hx hc
theorem C2p {H:AH} {n c:Nat} {a:Option Addr}:A5a Tryz.prog .len [101] [.slice a n c] H=some (.int .i64 (n:Int),H):=A1g Tryz.underlying101
theorem C9b:((Tryz.prog.info? 108).map fun i=>Nat.beq i.size 1 && Nat.ble i.bytes 65536)=some true:=by kernel_rfl
theorem app_101 {H:AH} {t' len cap n:Nat} {base:Option Addr} {x:Value} {new:List Value} (hx:Sh.srcKind Tryz.prog t' x=true) (hn:Sh.newCells 1 H x=some (n,new)) (hb:len+n≤1073741824):A5a Tryz.prog .append [101,t'] [.slice base len cap,x] H=A6e 1 base len cap n new H:=A04 Tryz.underlying101 C9b A40 rfl (Nat.le_of_ble_eq_true rfl) hx hn hb
theorem B4r {c:Bool} {a:Option Addr} {n m:Nat}:abin Tryz.prog 101 c .eql (.slice a n m) (.slice none 0 0)=some (.bool a.isNone):=A6g Tryz.underlying101
theorem B0i {c:Bool} {a:Option Addr} {n m:Nat}:abin Tryz.prog 101 c .neq (.slice a n m) (.slice none 0 0)=some (.bool a.isSome):=A1d Tryz.underlying101
theorem mk_101 {H:AH} {l c:Nat} (hlc:l≤c) (hc:c≤1073741824):A2i Tryz.prog 101 (.int .i64 (l:Int)) (.int .i64 (c:Int)) H=some (.slice (some ⟨H.next,0,some 0⟩) l c,(H.new 1 (List.replicate c (.slice none 0 0))).2):=by rw [← A79]; exact B9o Tryz.underlying101 C9b A40 rfl (Nat.le_of_ble_eq_true rfl) hlc hc
theorem B7g {H:AH}:A4a Tryz.prog 101 0 [] H=some (.slice (some ⟨H.next,0,some 0⟩) 0 0,(H.new 1 []).2):=A5g Tryz.underlying101 A9r A40 rfl (Nat.le_of_ble_eq_true rfl)
theorem C7h {H:AH} {x:Value} (hx:(A8a x).length=1) (hc:(A8a x).all isCell=true):A4a Tryz.prog 101 1 [(0,x)] H=some (.slice (some ⟨H.next,0,some 0⟩) 1 1,(H.new 1 (A8a x)).2):=A3o Tryz.underlying101 A9r A40 rfl (Nat.le_of_ble_eq_true rfl) (Nat.le_of_ble_eq_true rfl) hx hc
theorem C7a {g o k:Nat}:A0b Tryz.prog 103 0 (.pointer (some ⟨g,o,some k⟩))=some (.pointer (some ⟨g,o+0,some k⟩)):=by have h:=A7a (g:=g) (o:=o) (k:=k) (f:=0) Tryz.underlying103 (Eq.refl (some _)) A0x rfl; exact h
theorem B09 {g o k:Nat}:A0b Tryz.prog 103 1 (.pointer (some ⟨g,o,some k⟩))=some (.pointer (some ⟨g,o+1,some k⟩)):=by have h:=A7a (g:=g) (o:=o) (k:=k) (f:=1) Tryz.underlying103 (Eq.refl (some _)) C3d rfl; exact h
theorem B37 {g o k:Nat}:A0b Tryz.prog 103 2 (.pointer (some ⟨g,o,some k⟩))=some (.pointer (some ⟨g,o+2,some k⟩)):=by have h:=A7a (g:=g) (o:=o) (k:=k) (f:=2) Tryz.underlying103 (Eq.refl (some _)) B9n rfl; exact h
theorem B47 {g o k:Nat}:A0b Tryz.prog 103 3 (.pointer (some ⟨g,o,some k⟩))=some (.pointer (some ⟨g,o+3,some k⟩)):=by have h:=A7a (g:=g) (o:=o) (k:=k) (f:=3) Tryz.underlying103 (Eq.refl (some _)) B9n rfl; exact h
theorem C7d {g o k:Nat}:A0b Tryz.prog 107 0 (.pointer (some ⟨g,o,some k⟩))=some (.pointer (some ⟨g,o+0,some k⟩)):=by have h:=A7a (g:=g) (o:=o) (k:=k) (f:=0) Tryz.underlying107 (Eq.refl (some _)) A7h rfl; exact h
theorem B96 {g o k:Nat}:A0b Tryz.prog 107 1 (.pointer (some ⟨g,o,some k⟩))=some (.pointer (some ⟨g,o+1,some k⟩)):=by have h:=A7a (g:=g) (o:=o) (k:=k) (f:=1) Tryz.underlying107 (Eq.refl (some _)) A7h rfl; exact h
theorem B59 {g o k:Nat}:A0b Tryz.prog 107 2 (.pointer (some ⟨g,o,some k⟩))=some (.pointer (some ⟨g,o+2,some k⟩)):=by have h:=A7a (g:=g) (o:=o) (k:=k) (f:=2) Tryz.underlying107 (Eq.refl (some _)) A7h rfl; exact h
theorem C1d {g o k:Nat}:A0b Tryz.prog 107 3 (.pointer (some ⟨g,o,some k⟩))=some (.pointer (some ⟨g,o+3,some k⟩)):=by have h:=A7a (g:=g) (o:=o) (k:=k) (f:=3) Tryz.underlying107 (Eq.refl (some _)) A7h rfl; exact h
theorem C6j {v0 v1 v2 v3:Value} (h0:isCell v0=true) (h1:isCell v1=true) (h2:isCell v2=true) (h3:isCell v3=true):A2m Tryz.prog 107 [(0,v0),(1,v1),(2,v2),(3,v3)]=some (.agg #[v0,v1,v2,v3]):=by refine A9g (pl:=[(0,1),(1,1),(2,1),(3,1)]) Tryz.underlying107 A8y (by kernel_rfl) ?_; have va:∀ xs:Array Value,A8a (.agg xs)=xs.toList:=fun _=>rfl; simp [A5r,A8b h0,A8b h1,A8b h2,A8b h3,va,h0,h1,h2,h3,setCells,A6a,A0c]
theorem C3p {H:AH} {n c:Nat} {a:Option Addr}:A5a Tryz.prog .len [108] [.slice a n c] H=some (.int .i64 (n:Int),H):=A1g Tryz.underlying108
theorem info_108:((Tryz.prog.info? 107).map fun i=>Nat.beq i.size 4 && Nat.ble i.bytes 65536)=some true:=by kernel_rfl
theorem C2a {H:AH} {len cap:Nat} {base:Option Addr} {x:List Value} (hx:x.length=4) (hb:len≤1073741823):A5a Tryz.prog .append [108,108] [.slice base len cap,.slice (some ⟨H.next,0,some 0⟩) 1 1] (H.new 4 x).2=A6e 4 base len cap 1 x (H.new 4 x).2:=A5p Tryz.underlying108 info_108 A8y rfl (Nat.le_of_ble_eq_true rfl) hx hb
theorem B2t {c:Bool} {a:Option Addr} {n m:Nat}:abin Tryz.prog 108 c .eql (.slice a n m) (.slice none 0 0)=some (.bool a.isNone):=A6g Tryz.underlying108
theorem B3h {c:Bool} {a:Option Addr} {n m:Nat}:abin Tryz.prog 108 c .neq (.slice a n m) (.slice none 0 0)=some (.bool a.isSome):=A1d Tryz.underlying108
theorem B9l {H:AH}:A4a Tryz.prog 108 0 [] H=some (.slice (some ⟨H.next,0,some 0⟩) 0 0,(H.new 4 []).2):=A5g Tryz.underlying108 A6z A8y rfl (Nat.le_of_ble_eq_true rfl)
theorem B1m {H:AH} {x:Value} (hx:(A8a x).length=4) (hc:(A8a x).all isCell=true):A4a Tryz.prog 108 1 [(0,x)] H=some (.slice (some ⟨H.next,0,some 0⟩) 1 1,(H.new 4 (A8a x)).2):=A3o Tryz.underlying108 A6z A8y rfl (Nat.le_of_ble_eq_true rfl) (Nat.le_of_ble_eq_true rfl) hx hc
theorem C5o {H:AH} {n c:Nat} {a:Option Addr}:A5a Tryz.prog .len [118] [.slice a n c] H=some (.int .i64 (n:Int),H):=A1g Tryz.underlying118
theorem B3z {c:Bool} {a:Option Addr} {n m:Nat}:abin Tryz.prog 118 c .eql (.slice a n m) (.slice none 0 0)=some (.bool a.isNone):=A6g Tryz.underlying118
theorem B4i {c:Bool} {a:Option Addr} {n m:Nat}:abin Tryz.prog 118 c .neq (.slice a n m) (.slice none 0 0)=some (.bool a.isSome):=A1d Tryz.underlying118
theorem B4k {H:AH}:A4a Tryz.prog 118 0 [] H=some (.slice (some ⟨H.next,0,some 0⟩) 0 0,(H.new 1 []).2):=A5g Tryz.underlying118 C1w B80 rfl (Nat.le_of_ble_eq_true rfl)
theorem B97 {g o k:Nat}:A0b Tryz.prog 120 0 (.pointer (some ⟨g,o,some k⟩))=some (.pointer (some ⟨g,o+0,some k⟩)):=by have h:=A7a (g:=g) (o:=o) (k:=k) (f:=0) Tryz.underlying120 (Eq.refl (some _)) A7h rfl; exact h
theorem B28 {g o k:Nat}:A0b Tryz.prog 120 1 (.pointer (some ⟨g,o,some k⟩))=some (.pointer (some ⟨g,o+1,some k⟩)):=by have h:=A7a (g:=g) (o:=o) (k:=k) (f:=1) Tryz.underlying120 (Eq.refl (some _)) A7h rfl; exact h
theorem C5v {H:AH} {n c:Nat} {a:Option Addr}:A5a Tryz.prog .len [122] [.slice a n c] H=some (.int .i64 (n:Int),H):=A1g Tryz.underlying122
theorem info_122:((Tryz.prog.info? 120).map fun i=>Nat.beq i.size 2 && Nat.ble i.bytes 65536)=some true:=by kernel_rfl
theorem app1_122 {H:AH} {len cap:Nat} {base:Option Addr} {x:List Value} (hx:x.length=2) (hb:len≤1073741823):A5a Tryz.prog .append [122,122] [.slice base len cap,.slice (some ⟨H.next,0,some 0⟩) 1 1] (H.new 2 x).2=A6e 2 base len cap 1 x (H.new 2 x).2:=A5p Tryz.underlying122 info_122 A3z rfl (Nat.le_of_ble_eq_true rfl) hx hb
theorem B6v {c:Bool} {a:Option Addr} {n m:Nat}:abin Tryz.prog 122 c .eql (.slice a n m) (.slice none 0 0)=some (.bool a.isNone):=A6g Tryz.underlying122
theorem B4h {c:Bool} {a:Option Addr} {n m:Nat}:abin Tryz.prog 122 c .neq (.slice a n m) (.slice none 0 0)=some (.bool a.isSome):=A1d Tryz.underlying122
theorem B4j {H:AH}:A4a Tryz.prog 122 0 [] H=some (.slice (some ⟨H.next,0,some 0⟩) 0 0,(H.new 2 []).2):=A5g Tryz.underlying122 A5u A3z rfl (Nat.le_of_ble_eq_true rfl)
theorem C4f {H:AH} {x:Value} (hx:(A8a x).length=2) (hc:(A8a x).all isCell=true):A4a Tryz.prog 122 1 [(0,x)] H=some (.slice (some ⟨H.next,0,some 0⟩) 1 1,(H.new 2 (A8a x)).2):=A3o Tryz.underlying122 A5u A3z rfl (Nat.le_of_ble_eq_true rfl) (Nat.le_of_ble_eq_true rfl) hx hc
theorem C6u {H:AH} {n c:Nat} {a:Option Addr}:A5a Tryz.prog .len [131] [.slice a n c] H=some (.int .i64 (n:Int),H):=A1g Tryz.underlying131
theorem info_131:((Tryz.prog.info? 134).map fun i=>Nat.beq i.size 3 && Nat.ble i.bytes 65536)=some true:=by kernel_rfl
theorem app1_131 {H:AH} {len cap:Nat} {base:Option Addr} {x:List Value} (hx:x.length=3) (hb:len≤1073741823):A5a Tryz.prog .append [131,131] [.slice base len cap,.slice (some ⟨H.next,0,some 0⟩) 1 1] (H.new 3 x).2=A6e 3 base len cap 1 x (H.new 3 x).2:=A5p Tryz.underlying131 info_131 A10 rfl (Nat.le_of_ble_eq_true rfl) hx hb
theorem B0v {c:Bool} {a:Option Addr} {n m:Nat}:abin Tryz.prog 131 c .eql (.slice a n m) (.slice none 0 0)=some (.bool a.isNone):=A6g Tryz.underlying131
theorem B1k {c:Bool} {a:Option Addr} {n m:Nat}:abin Tryz.prog 131 c .neq (.slice a n m) (.slice none 0 0)=some (.bool a.isSome):=A1d Tryz.underlying131
theorem B3l {H:AH}:A4a Tryz.prog 131 0 [] H=some (.slice (some ⟨H.next,0,some 0⟩) 0 0,(H.new 3 []).2):=A5g Tryz.underlying131 A6y A10 rfl (Nat.le_of_ble_eq_true rfl)
theorem C5g {H:AH} {x:Value} (hx:(A8a x).length=3) (hc:(A8a x).all isCell=true):A4a Tryz.prog 131 1 [(0,x)] H=some (.slice (some ⟨H.next,0,some 0⟩) 1 1,(H.new 3 (A8a x)).2):=A3o Tryz.underlying131 A6y A10 rfl (Nat.le_of_ble_eq_true rfl) (Nat.le_of_ble_eq_true rfl) hx hc
theorem C2e {g o k:Nat}:A0b Tryz.prog 134 0 (.pointer (some ⟨g,o,some k⟩))=some (.pointer (some ⟨g,o+0,some k⟩)):=by have h:=A7a (g:=g) (o:=o) (k:=k) (f:=0) Tryz.underlying134 (Eq.refl (some _)) A7h rfl; exact h
theorem B07 {g o k:Nat}:A0b Tryz.prog 134 1 (.pointer (some ⟨g,o,some k⟩))=some (.pointer (some ⟨g,o+1,some k⟩)):=by have h:=A7a (g:=g) (o:=o) (k:=k) (f:=1) Tryz.underlying134 (Eq.refl (some _)) A1r rfl; exact h
theorem C3r {H:AH} {n c:Nat} {a:Option Addr}:A5a Tryz.prog .len [137] [.slice a n c] H=some (.int .i64 (n:Int),H):=A1g Tryz.underlying137
theorem B6u {c:Bool} {a:Option Addr} {n m:Nat}:abin Tryz.prog 137 c .eql (.slice a n m) (.slice none 0 0)=some (.bool a.isNone):=A6g Tryz.underlying137
theorem B2l {c:Bool} {a:Option Addr} {n m:Nat}:abin Tryz.prog 137 c .neq (.slice a n m) (.slice none 0 0)=some (.bool a.isSome):=A1d Tryz.underlying137
theorem B6h {H:AH}:A4a Tryz.prog 137 0 [] H=some (.slice (some ⟨H.next,0,some 0⟩) 0 0,(H.new 2 []).2):=A5g Tryz.underlying137 C4c B5q rfl (Nat.le_of_ble_eq_true rfl)
theorem C7b {g o k:Nat}:A0b Tryz.prog 139 0 (.pointer (some ⟨g,o,some k⟩))=some (.pointer (some ⟨g,o+0,some k⟩)):=by have h:=A7a (g:=g) (o:=o) (k:=k) (f:=0) Tryz.underlying139 (Eq.refl (some _)) A6l rfl; exact h
theorem C6d {g o k:Nat}:A0b Tryz.prog 139 1 (.pointer (some ⟨g,o,some k⟩))=some (.pointer (some ⟨g,o+1,some k⟩)):=by have h:=A7a (g:=g) (o:=o) (k:=k) (f:=1) Tryz.underlying139 (Eq.refl (some _)) A7h rfl; exact h
theorem C0a {H:AH} {n:Int}:A1j Tryz.prog 3 169 (.int .i64 n) H=some (.int .u64 (IntKind.wrap .u64 n),H):=A3u Tryz.underlying3 Tryz.underlying169
theorem C8b {H:AH} {n:Int}:A1j Tryz.prog 3 231 (.int .i64 n) H=some (.int .u64 (IntKind.wrap .u64 n),H):=A3u Tryz.underlying3 Tryz.underlying231
theorem cv_5_3 {H:AH} {n:Int}:A1j Tryz.prog 5 3 (.int .u8 n) H=some (.int .i64 (IntKind.wrap .i64 n),H):=A3u Tryz.underlying5 Tryz.underlying3
theorem C6a {H:AH} {n:Int}:A1j Tryz.prog 169 3 (.int .u64 n) H=some (.int .i64 (IntKind.wrap .i64 n),H):=A3u Tryz.underlying169 Tryz.underlying3
theorem B1j {H:AH} {n:Int}:A1j Tryz.prog 169 226 (.int .u64 n) H=some (.int .u32 (IntKind.wrap .u32 n),H):=A3u Tryz.underlying169 Tryz.underlying226
theorem C5d {H:AH} {n:Int}:A1j Tryz.prog 212 5 (.int .u64 n) H=some (.int .u8 (IntKind.wrap .u8 n),H):=A3u Tryz.underlying212 Tryz.underlying5
theorem C0d {H:AH} {n:Int}:A1j Tryz.prog 226 5 (.int .u32 n) H=some (.int .u8 (IntKind.wrap .u8 n),H):=A3u Tryz.underlying226 Tryz.underlying5
theorem B4u:type_of% (And.intro @zero_1 (And.intro @ld_1 (And.intro @zero_2 (And.intro @ld_2 (And.intro @B6f (And.intro @ld_3 (And.intro @A94 (And.intro @ld_4 (And.intro @zero_5 (And.intro @ld_5 (And.intro @C2c (And.intro @ld_9 (And.intro @B8m (And.intro @ld_22 (And.intro @B8p (And.intro @ld_23 (And.intro @C1m (And.intro @ld_24 (And.intro @A01 (And.intro @ld_26 (And.intro @C1q (And.intro @ld_28 (And.intro @C6v (And.intro @ld_34 (And.intro @A16 (And.intro @ld_43 (And.intro @A45 (And.intro @ld_45 (And.intro @C9p (And.intro @ld_48 (And.intro @C5p (And.intro @ld_51 (And.intro @B80 (And.intro @ld_60 (And.intro @C9m (And.intro @ld_62 (And.intro @C5q (And.intro @ld_64 (And.intro @C7l (And.intro @ld_76 (And.intro @A27 (And.intro @ld_79 (And.intro @C4n (And.intro @ld_80 (And.intro @C5r (And.intro @ld_81 (And.intro @C9r (And.intro @ld_83 (And.intro @C5u (And.intro @ld_86 (And.intro @C8v (And.intro @ld_88 (And.intro @A51 (And.intro @ld_92 (And.intro @C6q (And.intro @ld_93 (And.intro @C7t (And.intro @ld_94 (And.intro @C0n (And.intro @ld_99 (And.intro @B18 (And.intro @ld_101 (And.intro @B6o (And.intro @ld_103 (And.intro @A8y (And.intro @ld_107 (And.intro @A40 (And.intro @ld_108 (And.intro @B85 (And.intro @ld_113 (And.intro @C1e (And.intro @ld_118 (And.intro @A3z (And.intro @ld_120 (And.intro @B54 (And.intro @ld_121 (And.intro @C0c (And.intro @ld_122 (And.intro @C2d (And.intro @ld_124 (And.intro @B35 (And.intro @ld_131 (And.intro @B99 (And.intro @ld_132 (And.intro @A10 (And.intro @ld_134 (And.intro @B77 (And.intro @ld_135 (And.intro @B4o (And.intro @ld_137 (And.intro @B5q (And.intro @ld_139 (And.intro @B34 (And.intro @ld_146 (And.intro @C1c (And.intro @ld_152 (And.intro @B15 (And.intro @ld_169 (And.intro @B36 (And.intro @ld_212 (And.intro @C2b (And.intro @ld_218 (And.intro @C7e (And.intro @ld_226 (And.intro @B24 (And.intro @ld_231 (And.intro @B56 (And.intro @ld_235 (And.intro @C4a (And.intro @ld_237 (And.intro @len_9 (And.intro @len_22 (And.intro @C4e (And.intro @B4w (And.intro @B6t (And.intro @len_23 (And.intro @B67 (And.intro @B1w (And.intro @B9t (And.intro @len_24 (And.intro @C6c (And.intro @B1x (And.intro @B0u (And.intro @C3t (And.intro @C0u (And.intro @C9q (And.intro @C2u (And.intro @C3m (And.intro @C7i (And.intro @C8m (And.intro @C8k (And.intro @C6k (And.intro @C0j (And.intro @C0t (And.intro @C0k (And.intro @C7s (And.intro @C4l (And.intro @C6s (And.intro @len_48 (And.intro @C3a (And.intro @B0w (And.intro @B8t (And.intro @C4r (And.intro @C5e (And.intro @B1u (And.intro @B2u (And.intro @C8r (And.intro @len_76 (And.intro @B87 (And.intro @B1r (And.intro @B6r (And.intro @C5m (And.intro @C2l (And.intro @len_80 (And.intro @B76 (And.intro @B4s (And.intro @B9q (And.intro @len_81 (And.intro @B94 (And.intro @B2x (And.intro @B6w (And.intro @C3k (And.intro @C1r (And.intro @C0q (And.intro @len_86 (And.intro @B66 (And.intro @B9w (And.intro @B4t (And.intro @len_88 (And.intro @B29 (And.intro @B2v (And.intro @B2w (And.intro @C1j (And.intro @C7v (And.intro @C8j (And.intro @len_93 (And.intro @C9a (And.intro @B8s (And.intro @B6x (And.intro @C2p (And.intro @B4r (And.intro @B0i (And.intro @B7g (And.intro @C7a (And.intro @B09 (And.intro @B37 (And.intro @B47 (And.intro @C7d (And.intro @B96 (And.intro @B59 (And.intro @C1d (And.intro @C3p (And.intro @B2t (And.intro @B3h (And.intro @B9l (And.intro @C5o (And.intro @B3z (And.intro @B4i (And.intro @B4k (And.intro @B97 (And.intro @B28 (And.intro @C5v (And.intro @B6v (And.intro @B4h (And.intro @B4j (And.intro @C6u (And.intro @B0v (And.intro @B1k (And.intro @B3l (And.intro @C2e (And.intro @B07 (And.intro @C3r (And.intro @B6u (And.intro @B2l (And.intro @B6h (And.intro @C7b (And.intro @C6d (And.intro @C0a (And.intro @C8b (And.intro @cv_5_3 (And.intro @C6a (And.intro @B1j (And.intro @C5d (@C0d)))))))))))))))))))))))))))))))))))))))))))))))))))))))))))))))))))))))))))))))))))))))))))))))))))))))))))))))))))))))))))))))))))))))))))))))))))))))))))))))))))))))))))))))))))))))))))))))))))))))))))))))))))))))))))))))):=And.intro @zero_1 (And.intro @ld_1 (And.intro @zero_2 (And.intro @ld_2 (And.intro @B6f (And.intro @ld_3 (And.intro @A94 (And.intro @ld_4 (And.intro @zero_5 (And.intro @ld_5 (And.intro @C2c (And.intro @ld_9 (And.intro @B8m (And.intro @ld_22 (And.intro @B8p (And.intro @ld_23 (And.intro @C1m (And.intro @ld_24 (And.intro @A01 (And.intro @ld_26 (And.intro @C1q (And.intro @ld_28 (And.intro @C6v (And.intro @ld_34 (And.intro @A16 (And.intro @ld_43 (And.intro @A45 (And.intro @ld_45 (And.intro @C9p (And.intro @ld_48 (And.intro @C5p (And.intro @ld_51 (And.intro @B80 (And.intro @ld_60 (And.intro @C9m (And.intro @ld_62 (And.intro @C5q (And.intro @ld_64 (And.intro @C7l (And.intro @ld_76 (And.intro @A27 (And.intro @ld_79 (And.intro @C4n (And.intro @ld_80 (And.intro @C5r (And.intro @ld_81 (And.intro @C9r (And.intro @ld_83 (And.intro @C5u (And.intro @ld_86 (And.intro @C8v (And.intro @ld_88 (And.intro @A51 (And.intro @ld_92 (And.intro @C6q (And.intro @ld_93 (And.intro @C7t (And.intro @ld_94 (And.intro @C0n (And.intro @ld_99 (And.intro @B18 (And.intro @ld_101 (And.intro @B6o (And.intro @ld_103 (And.intro @A8y (And.intro @ld_107 (And.intro @A40 (And.intro @ld_108 (And.intro @B85 (And.intro @ld_113 (And.intro @C1e (And.intro @ld_118 (And.intro @A3z (And.intro @ld_120 (And.intro @B54 (And.intro @ld_121 (And.intro @C0c (And.intro @ld_122 (And.intro @C2d (And.intro @ld_124 (And.intro @B35 (And.intro @ld_131 (And.intro @B99 (And.intro @ld_132 (And.intro @A10 (And.intro @ld_134 (And.intro @B77 (And.intro @ld_135 (And.intro @B4o (And.intro @ld_137 (And.intro @B5q (And.intro @ld_139 (And.intro @B34 (And.intro @ld_146 (And.intro @C1c (And.intro @ld_152 (And.intro @B15 (And.intro @ld_169 (And.intro @B36 (And.intro @ld_212 (And.intro @C2b (And.intro @ld_218 (And.intro @C7e (And.intro @ld_226 (And.intro @B24 (And.intro @ld_231 (And.intro @B56 (And.intro @ld_235 (And.intro @C4a (And.intro @ld_237 (And.intro @len_9 (And.intro @len_22 (And.intro @C4e (And.intro @B4w (And.intro @B6t (And.intro @len_23 (And.intro @B67 (And.intro @B1w (And.intro @B9t (And.intro @len_24 (And.intro @C6c (And.intro @B1x (And.intro @B0u (And.intro @C3t (And.intro @C0u (And.intro @C9q (And.intro @C2u (And.intro @C3m (And.intro @C7i (And.intro @C8m (And.intro @C8k (And.intro @C6k (And.intro @C0j (And.intro @C0t (And.intro @C0k (And.intro @C7s (And.intro @C4l (And.intro @C6s (And.intro @len_48 (And.intro @C3a (And.intro @B0w (And.intro @B8t (And.intro @C4r (And.intro @C5e (And.intro @B1u (And.intro @B2u (And.intro @C8r (And.intro @len_76 (And.intro @B87 (And.intro @B1r (And.intro @B6r (And.intro @C5m (And.intro @C2l (And.intro @len_80 (And.intro @B76 (And.intro @B4s (And.intro @B9q (And.intro @len_81 (And.intro @B94 (And.intro @B2x (And.intro @B6w (And.intro @C3k (And.intro @C1r (And.intro @C0q (And.intro @len_86 (And.intro @B66 (And.intro @B9w (And.intro @B4t (And.intro @len_88 (And.intro @B29 (And.intro @B2v (And.intro @B2w (And.intro @C1j (And.intro @C7v (And.intro @C8j (And.intro @len_93 (And.intro @C9a (And.intro @B8s (And.intro @B6x (And.intro @C2p (And.intro @B4r (And.intro @B0i (And.intro @B7g (And.intro @C7a (And.intro @B09 (And.intro @B37 (And.intro @B47 (And.intro @C7d (And.intro @B96 (And.intro @B59 (And.intro @C1d (And.intro @C3p (And.intro @B2t (And.intro @B3h (And.intro @B9l (And.intro @C5o (And.intro @B3z (And.intro @B4i (And.intro @B4k (And.intro @B97 (And.intro @B28 (And.intro @C5v (And.intro @B6v (And.intro @B4h (And.intro @B4j (And.intro @C6u (And.intro @B0v (And.intro @B1k (And.intro @B3l (And.intro @C2e (And.intro @B07 (And.intro @C3r (And.intro @B6u (And.intro @B2l (And.intro @B6h (And.intro @C7b (And.intro @C6d (And.intro @C0a (And.intro @C8b (And.intro @cv_5_3 (And.intro @C6a (And.intro @B1j (And.intro @C5d (@C0d)))))))))))))))))))))))))))))))))))))))))))))))))))))))))))))))))))))))))))))))))))))))))))))))))))))))))))))))))))))))))))))))))))))))))))))))))))))))))))))))))))))))))))))))))))))))))))))))))))))))))))))))))))))))))))))))
theorem sx:type_of% (And.intro @Sh.sy @B4u):=And.intro @Sh.sy @B4u
end Go.Proofs.YtnoengaghabmjaaGreatDoor
/- Nets in memory: what is made and written of them. -/
set_option maxHeartbeats 4000000
namespace Go.Proofs.YtnoengaghabmjaaGreatDoor
open Go Go.Proofs Go.Proofs.Sh
section
variable {H:AH} {g:Nat} {sg ar en v:Value} {N:NetD}
theorem A7k (hsg:isCell sg=true) (har:isCell ar=true) (hen:isCell en=true) {n:Int}:anew Tryz.prog 26 H (.agg #[sg,.int .i64 n,ar,en])=some (.pointer (some ⟨H.next,0,some 0⟩),(H.new 4 [sg,.int .i64 n,ar,en]).2):=
 A4n (vs:=[sg,.int .i64 n,ar,en]) A6o rfl (by simp [hsg,har,hen,show isCell (.int .i64 n)=true from rfl])
theorem A9z (hsg:isCell sg=true) (har:isCell ar=true) (hen:isCell en=true) {n:Int} {p:Addr}:A4h Tryz.prog 26 H (.agg #[sg,.int .i64 n,ar,en]) (.pointer (some p))=H.write p [sg,.int .i64 n,ar,en]:=
 A4q (vs:=[sg,.int .i64 n,ar,en]) A6o rfl (by simp [hsg,har,hen,show isCell (.int .i64 n)=true from rfl])
theorem A1c:anew Tryz.prog 26 H (.agg #[.slice none 0 0,.int .i64 0,.slice none 0 0,.slice none 0 0])=some (.pointer (some ⟨H.next,0,some 0⟩),(H.new 4 [.slice none 0 0,.int .i64 0,.slice none 0 0,.slice none 0 0]).2):=A4n (vs:=[.slice none 0 0,.int .i64 0,.slice none 0 0,.slice none 0 0]) A6o rfl rfl
theorem A9c:anew Tryz.prog 43 H (.agg #[.int .i64 0,.string ⟨#[]⟩,.string ⟨#[]⟩,.int .i64 0,.int .i64 0])=some (.pointer (some ⟨H.next,0,some 0⟩),(H.new 5 [.int .i64 0,.string ⟨#[]⟩,.string ⟨#[]⟩,.int .i64 0,.int .i64 0]).2):=
 A4n (vs:=[.int .i64 0,.string ⟨#[]⟩,.string ⟨#[]⟩,.int .i64 0,.int .i64 0]) A2l rfl rfl
theorem A7c:anew Tryz.prog 45 H (.agg #[.int .i64 0,.int .i64 0])=some (.pointer (some ⟨H.next,0,some 0⟩),(H.new 2 [.int .i64 0,.int .i64 0]).2):=A4n (vs:=[.int .i64 0,.int .i64 0]) A9q rfl rfl
theorem A9e {a:ArcD}:anew Tryz.prog 43 H (.agg a.cells.toArray)=some (.pointer (some ⟨H.next,0,some 0⟩),(H.new 5 a.cells).2):=A4n (vs:=a.cells) A2l rfl rfl
theorem A0f {a:EndD}:anew Tryz.prog 45 H (.agg a.cells.toArray)=some (.pointer (some ⟨H.next,0,some 0⟩),(H.new 2 a.cells).2):=A4n (vs:=a.cells) A9q rfl rfl
theorem A5b {a:ArcD} {p:Addr}:A4h Tryz.prog 43 H (.agg a.cells.toArray) (.pointer (some p))=H.write p a.cells:=A4q A2l rfl rfl
theorem A6b {a:EndD} {p:Addr}:A4h Tryz.prog 45 H (.agg a.cells.toArray) (.pointer (some p))=H.write p a.cells:=A4q A9q rfl rfl
theorem A0d {a:ArcD} {x0 x1 x2 x3 x4:Value}:(H.new 5 [x0,x1,x2,x3,x4]).2.write ⟨H.next,0,some 0⟩ a.cells=some (H.new 5 a.cells).2:=A3q rfl
theorem A8c {a:EndD} {x0 x1:Value}:(H.new 2 [x0,x1]).2.write ⟨H.next,0,some 0⟩ a.cells=some (H.new 2 a.cells).2:=A3q rfl
theorem A3c {x0 x1 x2 x3 y0 y1 y2 y3:Value}:(H.new 4 [x0,x1,x2,x3]).2.write ⟨H.next,0,some 0⟩ [y0,y1,y2,y3]=some (H.new 4 [y0,y1,y2,y3]).2:=A3q rfl
theorem arc0 {a:ArcD}:(H.new 5 a.cells).2.cell ⟨H.next,0,some 0⟩=some (.int .i64 a.fr):=A1k _ _ _
theorem arc1 {a:ArcD}:(H.new 5 a.cells).2.cell ⟨H.next,1,some 0⟩=some (.string a.inn):=A1k _ _ _
theorem arc2 {a:ArcD}:(H.new 5 a.cells).2.cell ⟨H.next,2,some 0⟩=some (.string a.out):=A1k _ _ _
theorem arc3 {a:ArcD}:(H.new 5 a.cells).2.cell ⟨H.next,3,some 0⟩=some (.int .i64 a.to):=A1k _ _ _
theorem arc4 {a:ArcD}:(H.new 5 a.cells).2.cell ⟨H.next,4,some 0⟩=some (.int .i64 a.cost):=A1k _ _ _
theorem end0 {a:EndD}:(H.new 2 a.cells).2.cell ⟨H.next,0,some 0⟩=some (.int .i64 a.state):=A1k _ _ _
theorem end1 {a:EndD}:(H.new 2 a.cells).2.cell ⟨H.next,1,some 0⟩=some (.int .i64 a.cost):=A1k _ _ _
theorem A3a (h:NetBox H g sg ar en N) {H':AH}:A5a Tryz.prog .len [22] [sg] H'=some (.int .i64 (N.sigma.length:Int),H'):=by rw [h.hsg.len Tryz.underlying22 H',List.length_map]
theorem A1a (h:NetBox H g sg ar en N) {H':AH}:A5a Tryz.prog .len [23] [ar] H'=some (.int .i64 (N.arcs.length:Int),H'):=by rw [h.har.len Tryz.underlying23 H',List.length_map]
theorem A2a (h:NetBox H g sg ar en N) {H':AH}:A5a Tryz.prog .len [24] [en] H'=some (.int .i64 (N.ends.length:Int),H'):=by rw [h.hen.len Tryz.underlying24 H',List.length_map]
theorem A17 {d:Nat} {a b:Int}:eqT Tryz.prog (d+1) 3 (.int .i64 a) (.int .i64 b)=some (decide (a=b)):=by
 simp only [eqT,Tryz.underlying3,A5i,cond_true,A3s]; rfl
end
end Go.Proofs.YtnoengaghabmjaaGreatDoor
/- Whether a text of a list is too long for a symbol. -/
set_option linter.unusedSimpArgs false
namespace Go.Proofs.YtnoengaghabmjaaGreatDoor
open Go Go.Proofs Go.Proofs.Sh
theorem anyLong {H:AH} {v:Value} {l:List ByteArray} (hs:Sl H v 1 (l.map A1b)) (hl:l.length≤1048576) (hw:Wf H):
  Sh.Call Tryz.prog (knows 8) 117 [v] H (fun r H'=>Kept H H'∧r=.bool (l.any fun s=>decide (16 < s.size))):=by
 refine A3b rfl Tryz.func117 rfl (Nat.le_of_ble_eq_true rfl) ?_
 have hres:Tryz.f117.results.toList=[.tmp 2]:=rfl
 have hlen:=hs.len Tryz.underlying22 H
 simp only [↓Sh.dn,sx,Nat.reduceBEq,reduceCtorEq,Nat.reduceEqDiff,↓Sh.wp_cond]
 refine A30 l.length (fun i F H'=>H'=H∧F.get 0=some v∧F.get 3=some (.int .i64 (i:Int))∧(l.take i).any (fun s=>decide (16 < s.size))=false) (Nat.zero_le _) ⟨rfl,by simp only [↓Sh.dn,sx,Nat.reduceBEq,reduceCtorEq,Nat.reduceEqDiff,↓Sh.wp_cond],by simp only [↓Sh.dn,sx,Nat.reduceBEq,reduceCtorEq,Nat.reduceEqDiff,↓Sh.wp_cond]; rfl,rfl⟩ ?_
 rintro i F H' hi ⟨rfl,f0,f3,hall⟩ k
 by_cases hlt:i < l.length
 ·obtain ⟨g,o,kk,hia,hc,hcc⟩:=hs.at Tryz.underlying22 A6l (i:=i) (x:=A1b l[i]) (by simp [hlt]) .i64
  have hy:=hcc 0 _ rfl
  simp only [Nat.add_zero] at hy
  have hc16:decide ((16:Int) < ((l[i].size:Nat):Int))=decide (16 < l[i].size):=by
   by_cases h:16 < l[i].size
   ·simp [h]; omega
   ·simp [h]; omega
  simp only [↓Sh.dn,sx,Nat.reduceBEq,reduceCtorEq,Nat.reduceEqDiff,↓Sh.wp_cond,f0,f3,hlen,hia,hy,List.length_map,A9a,hlt,hc16,decide_true,forall_const,reduceCtorEq,false_implies,and_true,true_and,hres]
  refine ⟨fun h=>⟨Kept.refl hw,?_⟩,fun h=>k _ _ hlt ⟨rfl,by simp only [↓Sh.dn,sx,Nat.reduceBEq,reduceCtorEq,Nat.reduceEqDiff,↓Sh.wp_cond,f0],by simp only [↓Sh.dn,sx,Nat.reduceBEq,reduceCtorEq,Nat.reduceEqDiff,↓Sh.wp_cond,wrap_succ hlt hl],?_⟩⟩
  ·have:(l.any fun s=>decide (16 < s.size))=true:=List.any_eq_true.2 ⟨_,List.getElem_mem hlt,h⟩
   rw [this]
  ·rw [List.take_add_one,List.getElem?_eq_getElem hlt]
   simp only [Option.toList,List.any_append,hall,Bool.false_or,List.any_cons,List.any_nil,Bool.or_false]
   exact h
 ·have hin:i=l.length:=by omega
  subst hin
  rw [List.take_length] at hall
  simp only [↓Sh.dn,sx,Nat.reduceBEq,reduceCtorEq,Nat.reduceEqDiff,↓Sh.wp_cond,f0,f3,hlen,List.length_map,A9a,hlt,decide_false,forall_const,reduceCtorEq,false_implies,and_true,true_and,hres]
  exact ⟨Kept.refl hw,by rw [hall]⟩
end Go.Proofs.YtnoengaghabmjaaGreatDoor
/- Whether a text is a symbol. -/
namespace Go.Proofs.YtnoengaghabmjaaGreatDoor
open Go Go.Proofs Go.Proofs.Sh
def badByte (u:UInt8):Bool:=decide (u.toNat < 33) || decide (126 < u.toNat) || decide (u.toNat=60) || decide (u.toNat=62)
def A7w (s:ByteArray):Bool:=!s.data.toList.any badByte && decide (1≤s.size) && decide (s.size≤16)
theorem isSymbol {H:AH} {x:ByteArray} (hl:x.size≤1048576) (hw:Wf H):
  Sh.Call Tryz.prog (knows 8) 145 [.string x] H (fun r H'=>H'=H∧r=.bool (A7w x)):=by
 refine A3b rfl Tryz.func145 rfl (Nat.le_of_ble_eq_true rfl) ?_
 have hres:Tryz.f145.results.toList=[.tmp 2]:=rfl
 have hsz:x.data.toList.length=x.size:=by rw [Array.length_toList]; rfl
 simp only [↓Sh.dn,sx,Nat.reduceBEq,reduceCtorEq,Nat.reduceEqDiff]
 refine A30 x.size (fun i F H'=>H'=H∧F.get 0=some (.string x)∧F.get 3=some (.int .i64 (i:Int))∧(x.data.toList.take i).any badByte=false) (Nat.zero_le _) ⟨rfl,by simp only [↓Sh.dn,sx,Nat.reduceBEq,reduceCtorEq,Nat.reduceEqDiff],by simp only [↓Sh.dn,sx,Nat.reduceBEq,reduceCtorEq,Nat.reduceEqDiff]; rfl,rfl⟩ ?_
 rintro i F H' hi ⟨rfl,f0,f3,hall⟩ k
 by_cases hlt:i < x.size
 ·obtain ⟨u,hu⟩:∃ u,x.data.toList[i]?=some u:=⟨x.data.toList[i]'(by omega),List.getElem?_eq_getElem (by omega)⟩
  have hix:=B5z (P:=Tryz.prog) (j:=.i64) Tryz.underlying9 hu
  have e33:decide ((u.toNat:Int) < 33)=decide (u.toNat < 33):=by by_cases h:u.toNat < 33 <;> simp [h] <;> omega
  have e126:decide (126 < (u.toNat:Int))=decide (126 < u.toNat):=by by_cases h:126 < u.toNat <;> simp [h] <;> omega
  have e60:decide ((u.toNat:Int)=60)=decide (u.toNat=60):=by by_cases h:u.toNat=60 <;> simp [h]; omega
  have e62:decide ((u.toNat:Int)=62)=decide (u.toNat=62):=by by_cases h:u.toNat=62 <;> simp [h]; omega
  have hstep:badByte u=false→(x.data.toList.take (i+1)).any badByte=false:=by
   intro h
   rw [List.take_add_one,hu]
   simp only [Option.toList,List.any_append,hall,Bool.false_or,List.any_cons,List.any_nil,Bool.or_false]
   exact h
  have hbad:badByte u=true→A7w x=false:=by
   intro h
   have:x.data.toList.any badByte=true:=List.any_eq_true.2 ⟨_,List.mem_of_getElem? hu,h⟩
   simp [A7w,this]
  have hgo:badByte u=(decide (u.toNat < 33) || decide (126 < u.toNat) || decide (u.toNat=60) || decide (u.toNat=62)):=rfl
  have five:∀ a b c d:Bool,a=true∨(a=false∧b=true)∨(a=false∧b=false∧c=true)∨(a=false∧b=false∧c=false∧d=true)∨(a=false∧b=false∧c=false∧d=false):=by decide
  rcases five (decide (u.toNat < 33)) (decide (126 < u.toNat)) (decide (u.toNat=60)) (decide (u.toNat=62)) with h1 | ⟨h1,h2⟩ | ⟨h1,h2,h3⟩ | ⟨h1,h2,h3,h4⟩ | ⟨h1,h2,h3,h4⟩ <;> simp only [h1, *,Bool.or_true,Bool.or_false,Bool.true_or,Bool.false_or] at hgo
  ·simp only [↓Sh.dn,sx,Nat.reduceBEq,reduceCtorEq,Nat.reduceEqDiff,f0,f3,hix,A9a,hlt,e33,h1,decide_true,hres,hbad hgo,true_and]
  ·simp only [↓Sh.dn,sx,Nat.reduceBEq,reduceCtorEq,Nat.reduceEqDiff,f0,f3,hix,A9a,hlt,e33,e126,h1,h2,decide_true,hres,hbad hgo,true_and]
  ·simp only [↓Sh.dn,sx,Nat.reduceBEq,reduceCtorEq,Nat.reduceEqDiff,f0,f3,hix,A9a,hlt,e33,e126,e60,h1,h2,h3,decide_true,hres,hbad hgo,true_and]
  ·simp only [↓Sh.dn,sx,Nat.reduceBEq,reduceCtorEq,Nat.reduceEqDiff,f0,f3,hix,A9a,hlt,e33,e126,e60,e62,h1,h2,h3,h4,decide_true,hres,hbad hgo,true_and]
  ·simp only [↓Sh.dn,sx,Nat.reduceBEq,reduceCtorEq,Nat.reduceEqDiff,f0,f3,hix,A9a,hlt,e33,e126,e60,e62,h1,h2,h3,h4,decide_true,hres]
   exact k _ _ hlt ⟨rfl,by simp only [↓Sh.dn,sx,Nat.reduceBEq,reduceCtorEq,Nat.reduceEqDiff,f0],by simp only [↓Sh.dn,sx,Nat.reduceBEq,reduceCtorEq,Nat.reduceEqDiff,wrap_succ hlt hl],hstep hgo⟩
 ·have hin:i=x.size:=by omega
  subst hin
  rw [← hsz,List.take_length] at hall
  have e1:decide ((1:Int)≤((x.size:Nat):Int))=decide (1≤x.size):=by by_cases h:1≤x.size <;> simp [h] <;> omega
  have e16:decide (((x.size:Nat):Int)≤16)=decide (x.size≤16):=by by_cases h:x.size≤16 <;> simp [h] <;> omega
  cases h1:decide (1≤x.size) <;>
   simp only [↓Sh.dn,sx,Nat.reduceBEq,reduceCtorEq,Nat.reduceEqDiff,f0,f3,A9a,hlt,e1,e16,h1,decide_false,Bool.not_true,forall_const,not_true_eq_false,reduceCtorEq,false_implies,and_true,true_and,hres] <;>
   simp [A7w,hall,h1]
end Go.Proofs.YtnoengaghabmjaaGreatDoor
/- Whether all texts of a list are symbols. -/
namespace Go.Proofs.YtnoengaghabmjaaGreatDoor
open Go Go.Proofs Go.Proofs.Sh
theorem C6h {H:AH} {v:Value} {l:List ByteArray} (hs:Sl H v 1 (l.map A1b)) (hl:l.length≤1048576) (hlx:∀ x∈l,x.size≤1048576) (hw:Wf H):
  Sh.Call Tryz.prog (knows 8) 118 [v] H (fun r H'=>H'=H∧r=.bool (l.all A7w)):=by
 refine A3b rfl Tryz.func118 rfl (Nat.le_of_ble_eq_true rfl) ?_
 have hres:Tryz.f118.results.toList=[.tmp 2]:=rfl
 have hlen:=hs.len Tryz.underlying22 H
 simp only [↓Sh.dn,sx,Nat.reduceBEq,reduceCtorEq,Nat.reduceEqDiff]
 refine A30 l.length (fun i F H'=>H'=H∧F.get 0=some v∧F.get 3=some (.int .i64 (i:Int))∧(l.take i).all A7w=true) (Nat.zero_le _) ⟨rfl,by simp only [↓Sh.dn,sx,Nat.reduceBEq,reduceCtorEq,Nat.reduceEqDiff],by simp only [↓Sh.dn,sx,Nat.reduceBEq,reduceCtorEq,Nat.reduceEqDiff]; rfl,rfl⟩ ?_
 rintro i F H' hi ⟨rfl,f0,f3,hall⟩ k
 by_cases hlt:i < l.length
 ·obtain ⟨g,o,kk,hia,hc,hcc⟩:=hs.at Tryz.underlying22 A6l (i:=i) (x:=A1b l[i]) (by simp [hlt]) .i64
  have hy:=hcc 0 _ rfl
  simp only [Nat.add_zero] at hy
  obtain ⟨r,H1,hd,rfl,rfl⟩:=isSymbol (H:=H') (x:=l[i]) (hlx _ (List.getElem_mem hlt)) hw
  simp only [↓Sh.dn,sx,Nat.reduceBEq,reduceCtorEq,Nat.reduceEqDiff,f0,f3,hlen,hia,hy,List.length_map,A9a,hlt,decide_true,forall_const,reduceCtorEq,false_implies,and_true,true_and,hres]
  refine ⟨_,_,hd,?_⟩
  cases hsy:A7w l[i] with
  | false=>
   have:l.all A7w=false:=by
    rw [List.all_eq_false]
    exact ⟨_,List.getElem_mem hlt,by simp [hsy]⟩
   simp only [↓Sh.dn,sx,Nat.reduceBEq,reduceCtorEq,Nat.reduceEqDiff,hres,this]
  | true=>
   simp only [↓Sh.dn,sx,Nat.reduceBEq,reduceCtorEq,Nat.reduceEqDiff,f0,f3]
   refine k _ _ hlt ⟨rfl,by simp only [↓Sh.dn,sx,Nat.reduceBEq,reduceCtorEq,Nat.reduceEqDiff,f0],by simp only [↓Sh.dn,sx,Nat.reduceBEq,reduceCtorEq,Nat.reduceEqDiff,wrap_succ hlt hl],?_⟩
   rw [List.take_add_one,List.getElem?_eq_getElem hlt]
   simp only [Option.toList,List.all_append,hall,Bool.true_and,List.all_cons,List.all_nil,Bool.and_true,hsy]
 ·have hin:i=l.length:=by omega
  subst hin
  rw [List.take_length] at hall
  simp only [↓Sh.dn,sx,Nat.reduceBEq,reduceCtorEq,Nat.reduceEqDiff,f0,f3,hlen,List.length_map,A9a,hlt,decide_false,forall_const,reduceCtorEq,false_implies,and_true,true_and,hres]
  rw [hall]
end Go.Proofs.YtnoengaghabmjaaGreatDoor
/- Whether texts ascend. -/
namespace Go.Proofs.YtnoengaghabmjaaGreatDoor
open Go Go.Proofs Go.Proofs.Sh
def ascB:List ByteArray→Bool
 | x :: y :: l=>A7m x y && ascB (y :: l)
 | _=>true
theorem A9y:∀ {l:List ByteArray},ascB l=true↔∀ (i:Nat) x y,l[i]?=some x→l[i+1]?=some y→A7m x y=true
 | []=>by simp [ascB]
 | [a]=>by simp [ascB]
 | a :: b :: l=>by
  simp only [ascB,Bool.and_eq_true,A9y (l:=b :: l)]
  constructor
  ·rintro ⟨h1,h2⟩ i x y hx hy
   cases i with
   | zero=>simp only [List.getElem?_cons_zero,List.getElem?_cons_succ,Option.some.injEq] at hx hy; subst hx hy; exact h1
   | succ i=>exact h2 i x y (by simpa using hx) (by simpa using hy)
  ·intro h
   exact ⟨h 0 a b rfl rfl,fun i x y hx hy=>h (i+1) x y (by simpa using hx) (by simpa using hy)⟩
theorem asc_of {l:List ByteArray} (h:ascB l=true):Asc l:=by
 rw [A9y] at h
 intro i j x y hij hx hy
 obtain ⟨d,rfl⟩:∃ d,j=i+1+d:=⟨j - i - 1,by omega⟩
 induction d generalizing y with
 | zero=>exact h i x y hx hy
 | succ d ih=>
  have hjl:=(List.getElem?_eq_some_iff.1 hy).1
  have hz:l[i+1+d]?=some (l[i+1+d]'(by omega)):=List.getElem?_eq_getElem (by omega)
  exact A1u (ih _ (by omega) hz) (h _ _ _ hz hy)
theorem isSet {H:AH} {v:Value} {l:List ByteArray} (hs:Sl H v 1 (l.map A1b)) (hl:l.length≤1048576) (hw:Wf H):
  Sh.Call Tryz.prog (knows 8) 119 [v] H (fun r H'=>H'=H∧r=.bool (ascB l)):=by
 refine A3b rfl Tryz.func119 rfl (Nat.le_of_ble_eq_true rfl) ?_
 have hres:Tryz.f119.results.toList=[.tmp 2]:=rfl
 have hlen:=hs.len Tryz.underlying22 H
 simp only [↓Sh.dn,sx,Nat.reduceBEq,reduceCtorEq,Nat.reduceEqDiff,↓Sh.wp_cond]
 refine A5s (fun m F H'=>H'=H∧∃ i:Nat,m=l.length - i∧1≤i∧F.get 0=some v∧F.get 3=some (.int .i64 (i:Int))∧(∀ (j:Nat) x y,j+1 < i→l[j]?=some x→l[j+1]?=some y→A7m x y=true)) (m:=l.length - 1) ⟨rfl,1,rfl,Nat.le_refl _,by simp only [↓Sh.dn,sx,Nat.reduceBEq,reduceCtorEq,Nat.reduceEqDiff,↓Sh.wp_cond],by simp only [↓Sh.dn,sx,Nat.reduceBEq,reduceCtorEq,Nat.reduceEqDiff,↓Sh.wp_cond]; rfl,fun j x y h=>by omega⟩ ?_
 rintro m F H' ⟨rfl,i,rfl,h1,f0,f3,hall⟩ k
 by_cases hlt:i < l.length
 ·obtain ⟨g,o,kk,hia,hc,hcc⟩:=hs.at Tryz.underlying22 A6l (i:=i) (x:=A1b l[i]) (by simp [hlt]) .i64
  have hy:=hcc 0 _ rfl
  obtain ⟨g',o',kk',hia',hc',hcc'⟩:=hs.at Tryz.underlying22 A6l (i:=i - 1) (x:=A1b (l[i - 1]'(by omega))) (by simp [List.getElem?_eq_getElem (show i - 1 < l.length by omega)]) .i64
  have hy':=hcc' 0 _ rfl
  have hw1:IntKind.wrap .i64 ((i:Int) - 1)=((i - 1:Nat):Int):=by rw [wrap64 (by omega) (by omega)]; omega
  simp only [Nat.add_zero] at hy hy'
  simp only [↓Sh.dn,sx,Nat.reduceBEq,reduceCtorEq,Nat.reduceEqDiff,↓Sh.wp_cond,f0,f3,hlen,hia,hia',hy,hy',hw1,List.length_map,A9a,hlt,decide_true,forall_const,reduceCtorEq,false_implies,and_true,true_and,hres,Bool.not_eq_true',Bool.not_eq_false']
  have hx1:l[i - 1]?=some (l[i - 1]'(by omega)):=List.getElem?_eq_getElem (by omega)
  have hx2:l[i - 1+1]?=some l[i]:=by rw [show i - 1+1=i by omega]; exact List.getElem?_eq_getElem hlt
  refine ⟨fun h=>?_,fun h=>k (l.length - (i+1)) _ _ (by omega) ⟨rfl,i+1,rfl,by omega,by simp only [↓Sh.dn,sx,Nat.reduceBEq,reduceCtorEq,Nat.reduceEqDiff,↓Sh.wp_cond,f0],by simp only [↓Sh.dn,sx,Nat.reduceBEq,reduceCtorEq,Nat.reduceEqDiff,↓Sh.wp_cond,wrap_succ hlt hl],fun j x y hj hx hy=>?_⟩⟩
  ·have : ascB l = false := by
     cases hb : ascB l with
     | false => rfl
     | true => rw [A9y.1 hb _ _ _ hx1 hx2] at h; cases h
   rw [this]
  ·by_cases hji:j+1 < i
   ·exact hall j x y hji hx hy
   ·have:j=i - 1:=by omega
    subst this
    rw [hx1] at hx
    rw [hx2] at hy
    rw [← Option.some.inj hx,← Option.some.inj hy]
    exact h
 ·simp only [↓Sh.dn,sx,Nat.reduceBEq,reduceCtorEq,Nat.reduceEqDiff,↓Sh.wp_cond,f0,f3,hlen,List.length_map,A9a,hlt,decide_false,forall_const,reduceCtorEq,false_implies,and_true,true_and,hres]
  have:ascB l=true:=A9y.2 fun j x y hx hy=>hall j x y (by have:=(List.getElem?_eq_some_iff.1 hy).1; omega) hx hy
  rw [this]
end Go.Proofs.YtnoengaghabmjaaGreatDoor
/- What is wrong with an alphabet, by the reference. -/
namespace Go.Proofs.YtnoengaghabmjaaGreatDoor
open Go Go.Proofs Go.Proofs.Sh
def A6s (l:List ByteArray):Bool:=l.any fun s=>decide (16 < s.size)
def A7i (l:List ByteArray):Int:=if (decide (40 < l.length) || A6s l)=true then 3 else if (l.all A7w && ascB l)=true then 0 else 1
theorem refSigma {H:AH} {v:Value} {l:List ByteArray} (hs:Sl H v 1 (l.map A1b)) (hl:l.length≤1048576) (hlx:∀ x∈l,x.size≤1048576) (hw:Wf H):
  Sh.Call Tryz.prog (knows 8) 86 [v] H (fun r H'=>Kept H H'∧r=.int .i64 (A7i l)):=by
 refine A3b rfl Tryz.func86 rfl (Nat.le_of_ble_eq_true rfl) ?_
 have hres:Tryz.f86.results.toList=[.tmp 2]:=rfl
 have hlen:=hs.len Tryz.underlying22 H
 have e40:decide ((40:Int) < ((l.length:Nat):Int))=decide (40 < l.length):=by by_cases h:40 < l.length <;> simp [h] <;> omega
 simp only [↓Sh.dn,sx,Nat.reduceBEq,reduceCtorEq,Nat.reduceEqDiff,hlen,List.length_map,e40]
 by_cases h40:40 < l.length
 ·simp only [↓Sh.dn,sx,Nat.reduceBEq,reduceCtorEq,Nat.reduceEqDiff,h40,decide_true,hres,A7i,Bool.true_or,forall_const,reduceCtorEq,false_implies,and_true,Kept.refl hw]
 ·simp only [↓Sh.dn,sx,Nat.reduceBEq,reduceCtorEq,Nat.reduceEqDiff,h40,decide_false]
  obtain ⟨r1,H1,hd1,hk1,rfl⟩:=anyLong hs hl hw
  refine ⟨_,_,hd1,?_⟩
  cases hL:(l.any fun s=>decide (16 < s.size)) with
  | true=>simp only [↓Sh.dn,sx,Nat.reduceBEq,reduceCtorEq,Nat.reduceEqDiff,hres,hL,A7i,A6s,h40,decide_false,Bool.false_or,forall_const,reduceCtorEq,false_implies,and_true,hk1]
  | false=>
   simp only [↓Sh.dn,sx,Nat.reduceBEq,reduceCtorEq,Nat.reduceEqDiff,forall_const,reduceCtorEq,false_implies,and_true,true_and]
   obtain ⟨r2,H2,hd2,rfl,rfl⟩:=C6h (hs.grow (hk1.grow hw)) hl hlx hk1.wf
   refine ⟨_,_,hd2,?_⟩
   cases hA:l.all A7w with
   | false=>simp only [↓Sh.dn,sx,Nat.reduceBEq,reduceCtorEq,Nat.reduceEqDiff,hres,hL,hA,A7i,A6s,h40,decide_false,Bool.false_or,Bool.false_and,Bool.not_false,forall_const,reduceCtorEq,false_implies,and_true,hk1]
   | true=>
    obtain ⟨r3,H3,hd3,rfl,rfl⟩:=isSet (hs.grow (hk1.grow hw)) hl hk1.wf
    simp only [↓Sh.dn,sx,Nat.reduceBEq,reduceCtorEq,Nat.reduceEqDiff,Bool.not_true,forall_const,reduceCtorEq,false_implies,and_true,true_and]
    refine ⟨_,_,hd3,?_⟩
    cases hS:ascB l with
    | true=>simp only [↓Sh.dn,sx,Nat.reduceBEq,reduceCtorEq,Nat.reduceEqDiff,hres,hL,hA,hS,A7i,A6s,h40,decide_false,Bool.false_or,Bool.true_and,Bool.not_true,forall_const,reduceCtorEq,false_implies,and_true,true_and,hk1]
    | false=>simp only [↓Sh.dn,sx,Nat.reduceBEq,reduceCtorEq,Nat.reduceEqDiff,hres,hL,hA,hS,A7i,A6s,h40,decide_false,Bool.false_or,Bool.true_and,Bool.not_false,forall_const,reduceCtorEq,false_implies,and_true,true_and,hk1]
end Go.Proofs.YtnoengaghabmjaaGreatDoor
/- sort.Search: the first place at which a question that stays true is true. -/
namespace Go.Proofs.YtnoengaghabmjaaGreatDoor
open Go Go.Proofs Go.Proofs.Sh
theorem half (a b:Nat) (h:a+b < 2097152):B9a false .u64 (IntKind.wrap .u64 (IntKind.wrap .i64 ((a:Int)+(b:Int)))) 1=some (.int .u64 (((a+b) / 2:Nat):Int)):=by
 rw [wrap64 (by omega) (by omega)]
 have e:IntKind.wrap .u64 ((a:Int)+(b:Int))=((a+b:Nat):Int):=by
  simp only [IntKind.wrap]
  simp [IntKind.bits,IntKind.signed]
  omega
 rw [e]
 simp only [B9a,A9o]
 simp [IntKind.bits,Int.fdiv_eq_ediv]
theorem search {H:AH} {n fid:Nat} {caps:List Value} (p:Nat→Bool) (hn:n≤1048576) (hp:∀ i,i < n→Sh.Call Tryz.prog (knows 8) fid (.int .i64 (i:Int) :: caps) H (fun r H'=>r=.bool (p i)∧H'=H)) (hm:∀ a b,a≤b→b < n→p a=true→p b=true) (hw:Wf H):
  Sh.Call Tryz.prog (knows 8) 146 [.int .i64 (n:Int),.func (.func fid) #[] caps.toArray] H (fun r H'=>H'=H∧∃ k:Nat,r=.int .i64 (k:Int)∧k≤n∧(∀ i,i < k→p i=false)∧(∀ i,k≤i→i < n→p i=true)):=by
 refine A3b rfl Tryz.func146 rfl (Nat.le_of_ble_eq_true rfl) ?_
 have hres:Tryz.f146.results.toList=[.tmp 4]:=rfl
 simp only [↓Sh.dn,sx,Nat.reduceBEq,reduceCtorEq,Nat.reduceEqDiff]
 refine A5s (fun m F H'=>H'=H∧∃ a b:Nat,m=b - a∧a≤b∧b≤n∧F.get 5=some (.int .i64 (a:Int))∧F.get 6=some (.int .i64 (b:Int))∧F.get 1=some (.func (.func fid) #[] caps.toArray)∧(∀ i,i < a→p i=false)∧(∀ i,b≤i→i < n→p i=true)) (m:=n) ⟨rfl,0,n,by omega,by omega,by omega,by simp only [↓Sh.dn,sx,Nat.reduceBEq,reduceCtorEq,Nat.reduceEqDiff]; rfl,by simp only [↓Sh.dn,sx,Nat.reduceBEq,reduceCtorEq,Nat.reduceEqDiff],by simp only [↓Sh.dn,sx,Nat.reduceBEq,reduceCtorEq,Nat.reduceEqDiff],fun i h=>by omega,fun i h1 h2=>by omega⟩ ?_
 rintro m F H' ⟨rfl,a,b,rfl,hab,hbn,f5,f6,f1,hlo,hhi⟩ k
 by_cases hlt:a < b
 ·obtain ⟨r,H1,hd,rfl,rfl⟩:=hp ((a+b) / 2) (by omega)
  have hw2:IntKind.wrap .i64 (((a+b) / 2:Nat):Int)=(((a+b) / 2:Nat):Int):=wrap64 (by omega) (by omega)
  simp only [↓Sh.dn,sx,Nat.reduceBEq,reduceCtorEq,Nat.reduceEqDiff,f5,f6,f1,A9a,hlt,decide_true,forall_const,reduceCtorEq,false_implies,and_true,true_and,b_shr,half a b (by omega),hw2,Value.func.injEq,Fn.func.injEq]
  refine ⟨_,_,hd,?_⟩
  cases hpv:p ((a+b) / 2) with
  | false=>
   have hw3:IntKind.wrap .i64 ((((a+b) / 2:Nat):Int)+1)=(((a+b) / 2+1:Nat):Int):=wrap_succ (n:=n) (by omega) hn
   simp only [↓Sh.dn,sx,Nat.reduceBEq,reduceCtorEq,Nat.reduceEqDiff,hpv,Bool.not_false,Bool.not_true,forall_const,reduceCtorEq,false_implies,and_true,true_and,hw3]
   refine k (b - ((a+b) / 2+1)) _ _ (by omega) ⟨rfl,(a+b) / 2+1,b,rfl,by omega,hbn,by simp only [↓Sh.dn,sx,Nat.reduceBEq,reduceCtorEq,Nat.reduceEqDiff],by simp only [↓Sh.dn,sx,Nat.reduceBEq,reduceCtorEq,Nat.reduceEqDiff,f6],by simp only [↓Sh.dn,sx,Nat.reduceBEq,reduceCtorEq,Nat.reduceEqDiff,f1],fun i hi=>?_,hhi⟩
   cases hpi:p i with
   | false=>rfl
   | true=>rw [hm i ((a+b) / 2) (by omega) (by omega) hpi] at hpv; cases hpv
  | true=>
   simp only [↓Sh.dn,sx,Nat.reduceBEq,reduceCtorEq,Nat.reduceEqDiff,hpv,Bool.not_false,Bool.not_true,forall_const,reduceCtorEq,false_implies,and_true,true_and]
   exact k ((a+b) / 2 - a) _ _ (by omega) ⟨rfl,a,(a+b) / 2,rfl,by omega,by omega,by simp only [↓Sh.dn,sx,Nat.reduceBEq,reduceCtorEq,Nat.reduceEqDiff,f5],by simp only [↓Sh.dn,sx,Nat.reduceBEq,reduceCtorEq,Nat.reduceEqDiff],by simp only [↓Sh.dn,sx,Nat.reduceBEq,reduceCtorEq,Nat.reduceEqDiff,f1],hlo,fun i h1 h2=>hm _ i h1 h2 hpv⟩
 ·have hab':a=b:=by omega
  subst hab'
  simp only [↓Sh.dn,sx,Nat.reduceBEq,reduceCtorEq,Nat.reduceEqDiff,f5,f6,f1,A9a,hlt,decide_false,forall_const,reduceCtorEq,false_implies,and_true,true_and,hres]
  exact ⟨a,rfl,hbn,hlo,hhi⟩
end Go.Proofs.YtnoengaghabmjaaGreatDoor
/- What sort.SearchStrings asks of a place. -/
namespace Go.Proofs.YtnoengaghabmjaaGreatDoor
open Go Go.Proofs Go.Proofs.Sh
theorem searchAt {H:AH} {g1 o1 k1 g2 o2 k2 i:Nat} {v:Value} {x y:ByteArray} {l:List ByteArray} (h1:H.cell ⟨g1,o1,some k1⟩=some v) (h2:H.cell ⟨g2,o2,some k2⟩=some (.string x)) (hs:Sl H v 1 (l.map A1b)) (hi:l[i]?=some y) (hw:Wf H):
  Sh.Call Tryz.prog (knows 8) 147 [.int .i64 (i:Int),.pointer (some ⟨g1,o1,some k1⟩),.pointer (some ⟨g2,o2,some k2⟩)] H (fun r H'=>r=.bool (!A7m y x)∧H'=H):=by
 refine A3b rfl Tryz.func147 rfl (Nat.le_of_ble_eq_true rfl) ?_
 have hres:Tryz.f147.results.toList=[.tmp 4]:=rfl
 obtain ⟨g,o,kk,hia,hc,hcc⟩:=hs.at Tryz.underlying22 A6l (i:=i) (x:=A1b y) (by simp [hi]) .i64
 have hy:=hcc 0 _ rfl
 simp only [Nat.add_zero] at hy
 simp only [↓Sh.dn,sx,Nat.reduceBEq,reduceCtorEq,Nat.reduceEqDiff,h1,h2,hia,hy,hres,true_and,and_true]
end Go.Proofs.YtnoengaghabmjaaGreatDoor
/- sort.SearchStrings over an ascending list. -/
namespace Go.Proofs.YtnoengaghabmjaaGreatDoor
open Go Go.Proofs Go.Proofs.Sh
theorem B4m {H:AH} {v:Value} {x:ByteArray} {l:List ByteArray} (hs:Sl H v 1 (l.map A1b)) (ha:Asc l) (hl:l.length≤1048576) (hw:Wf H):
  Sh.Call Tryz.prog (knows 8) 120 [v,.string x] H (fun r H'=>Kept H H'∧∃ k:Nat,r=.int .i64 (k:Int)∧k≤l.length∧(∀ (i:Nat) y,i < k→l[i]?=some y→A7m y x=true)∧(∀ (i:Nat) y,k≤i→l[i]?=some y→A7m y x=false)):=by
 refine A3b rfl Tryz.func120 rfl (Nat.le_of_ble_eq_true rfl) ?_
 have hres:Tryz.f120.results.toList=[.tmp 4]:=rfl
 have hn1:=B9m (P:=Tryz.prog) (H:=H) (t:=22) A0x hs.isCell
 have hk1:=Kept.new hw 1 [v]
 have hO1:=Obj.new (H:=H) 1 [v]
 have hn2:=B9m (P:=Tryz.prog) (H:=(H.new 1 [v]).2) (t:=9) (v:=.string x) A6l rfl
 have hk2:=hk1.trans (Kept.new hk1.wf 1 [.string x])
 have hO2:=Obj.new (H:=(H.new 1 [v]).2) 1 [.string x]
 have hO1':Sh.Obj ((H.new 1 [v]).2.new 1 [.string x]).2 H.next 1 [v] true:=by
  unfold Sh.Obj
  rw [C7u (by rw [new_nx]; omega)]
  exact hO1
 simp only [↓Sh.dn,sx,Nat.reduceBEq,reduceCtorEq,Nat.reduceEqDiff,hn1,hn2]
 have hx1:(H.new 1 [v]).2.next=H.next+1:=rfl
 rw [hx1] at hO2 ⊢
 generalize ((H.new 1 [v]).2.new 1 [.string x]).2=H2 at hO1' hO2 hk2 ⊢
 have c1:H2.cell ⟨H.next,0,some 0⟩=some v:=hO1'.cell
 have c2:H2.cell ⟨H.next+1,0,some 0⟩=some (.string x):=hO2.cell
 have hs2:=hs.grow (hk2.grow hw)
 have hlen:=hs2.len Tryz.underlying22 H2
 simp only [c1,hlen,List.length_map,↓Sh.dn,sx,Nat.reduceBEq,reduceCtorEq,Nat.reduceEqDiff]
 obtain ⟨r,H3,hd,rfl,k,rfl,hk,hlo,hhi⟩:=search (H:=H2) (n:=l.length) (caps:=[.pointer (some ⟨H.next,0,some 0⟩),.pointer (some ⟨H.next+1,0,some 0⟩)]) (fid:=147) (fun i=>match l[i]? with | some y=>!A7m y x | none=>true) hl
  (fun i hi=>by
   have hy:l[i]?=some (l[i]'hi):=List.getElem?_eq_getElem hi
   simp only [hy]
   exact searchAt c1 c2 hs2 hy hk2.wf)
  (fun a b hab hb=>by
   have hya:l[a]?=some (l[a]'(by omega)):=List.getElem?_eq_getElem (by omega)
   have hyb:l[b]?=some (l[b]'hb):=List.getElem?_eq_getElem hb
   simp only [hya,hyb,Bool.not_eq_true']
   intro h
   rcases Nat.lt_or_ge a b with hlt | hge
   ·cases h2:A7m l[b] x with
    | false=>rfl
    | true=>rw [A1u (ha a b _ _ hlt hya hyb) h2] at h; cases h
   ·have:a=b:=by omega
    subst this
    exact h) hk2.wf
 refine ⟨_,_,hd,?_⟩
 simp only [↓Sh.dn,sx,Nat.reduceBEq,reduceCtorEq,Nat.reduceEqDiff,hres]
 refine ⟨hk2,k,rfl,hk,fun i y hi hy=>?_,fun i y hi hy=>?_⟩
 ·have:=hlo i hi
  simpa [hy] using this
 ·have hil:=(List.getElem?_eq_some_iff.1 hy).1
  have:=hhi i hi hil
  simpa [hy] using this
end Go.Proofs.YtnoengaghabmjaaGreatDoor
/- Whether a text is in an ascending list. -/
namespace Go.Proofs.YtnoengaghabmjaaGreatDoor
open Go Go.Proofs Go.Proofs.Sh
theorem isIn {H:AH} {v:Value} {x:ByteArray} {l:List ByteArray} (hs:Sl H v 1 (l.map A1b)) (ha:Asc l) (hl:l.length≤1048576) (hw:Wf H):
  Sh.Call Tryz.prog (knows 8) 87 [v,.string x] H (fun r H'=>Kept H H'∧r=.bool (A8t l x)):=by
 refine A3b rfl Tryz.func87 rfl (Nat.le_of_ble_eq_true rfl) ?_
 have hres:Tryz.f87.results.toList=[.tmp 4]:=rfl
 obtain ⟨r,H1,hd,hk1,k,rfl,hk,hlo,hhi⟩:=B4m hs ha hl hw (x:=x)
 have hp:=B0t ha x hlo hhi
 simp only [↓Sh.dn,sx,Nat.reduceBEq,reduceCtorEq,Nat.reduceEqDiff]
 refine ⟨_,_,hd,?_⟩
 have hs1:=hs.grow (hk1.grow hw)
 have hlen:=hs1.len Tryz.underlying22 H1
 by_cases hlt:k < l.length
 ·have hy:l[k]?=some (l[k]'hlt):=List.getElem?_eq_getElem hlt
  obtain ⟨g,o,kk,hia,hc,hcc⟩:=hs1.at Tryz.underlying22 A6l (i:=k) (x:=A1b l[k]) (by simp [hlt]) .i64
  have hyc:=hcc 0 _ rfl
  simp only [Nat.add_zero] at hyc
  simp only [↓Sh.dn,sx,Nat.reduceBEq,reduceCtorEq,Nat.reduceEqDiff,hlen,List.length_map,A9a,hlt,decide_true,hia,hyc,hres,forall_const,not_true_eq_false,false_implies,and_true,true_and]
  refine ⟨hk1,?_⟩
  have:decide (l[k]=x)=A8t l x:=by
   rw [Bool.eq_iff_iff,decide_eq_true_eq,A4k,← hp,hy,Option.some.injEq]
  rw [this]
 ·simp only [↓Sh.dn,sx,Nat.reduceBEq,reduceCtorEq,Nat.reduceEqDiff,hlen,List.length_map,A9a,hlt,decide_false,Bool.not_true,hres,forall_const,not_true_eq_false,false_implies,and_true,true_and]
  refine ⟨hk1,?_⟩
  have:A8t l x=false:=by
   cases h:A8t l x with
   | false=>rfl
   | true=>
    have:=hp.2 (A4k.1 h)
    rw [List.getElem?_eq_none (by omega)] at this; cases this
  rw [this]
end Go.Proofs.YtnoengaghabmjaaGreatDoor
/- What is wrong with a net of any kind, by the reference. -/
namespace Go.Proofs.YtnoengaghabmjaaGreatDoor
open Go Go.Proofs Go.Proofs.Sh
def A2j (N:NetD) (s:ByteArray):Bool:=!decide (s=⟨#[]⟩) && !A8t N.sigma s
def A1i (N:NetD) (a:ArcD):Bool:=decide (a.fr < 0) || decide (N.states≤a.fr) || decide (a.to < 0) || decide (N.states≤a.to) || A2j N a.inn || A2j N a.out
def A1p (N:NetD) (e:EndD):Bool:=decide (e.state < 0) || decide (N.states≤e.state)
def A4m (N:NetD):Bool:=decide (3000 < N.states) || decide (60000 < N.arcs.length) || decide (60000 < N.ends.length)
def A2g (N:NetD):Int:=if A4m N=true then 3 else if A7i N.sigma≠0 then A7i N.sigma else if N.states < 1 then 1 else if N.arcs.any (A1i N)=true then 1 else if N.ends.any (A1p N)=true then 1 else 0
theorem A1z {l:List ByteArray} (h:A7i l=0):Asc l:=by
 unfold A7i at h
 split at h
 ·cases h
 ·split at h
  ·rename_i h1
   simp only [Bool.and_eq_true] at h1
   exact asc_of h1.2
  ·cases h
theorem B41 {H:AH} {v:Value} {N:NetD} (h:A8k H v N) (hsm:A4c N) (hw:Wf H):
  Sh.Call Tryz.prog (knows 8) 49 [v] H (fun r H'=>Kept H H'∧r=.int .i64 (A2g N)):=by
 refine A3b rfl Tryz.func49 rfl (Nat.le_of_ble_eq_true rfl) ?_
 have hres:Tryz.f49.results.toList=[.tmp 2]:=rfl
 obtain ⟨sg,ar,en,rfl,hsg,har,hen⟩:=h
 have hb1:=NetBox.of (N:=N) hw hsg har hen
 have hk1:Kept H (H.new 4 [sg,.int .i64 N.states,ar,en]).2:=Kept.new hw 4 _
 have eA:decide ((60000:Int) < (N.arcs.length:Int))=decide (60000 < N.arcs.length):=decide_eq_decide.2 (by omega)
 have eE:decide ((60000:Int) < (N.ends.length:Int))=decide (60000 < N.ends.length):=decide_eq_decide.2 (by omega)
 simp only [↓Sh.dn,sx,Nat.reduceBEq,reduceCtorEq,Nat.reduceEqDiff,A7k hsg.isCell har.isCell hen.isCell]
 generalize hg:H.next=gg at hb1 ⊢
 generalize (H.new 4 [sg,.int .i64 N.states,ar,en]).2=H1 at hb1 hk1 ⊢
 simp only [↓Sh.dn,sx,Nat.reduceBEq,reduceCtorEq,Nat.reduceEqDiff,hb1.c0,hb1.c1,hb1.c2,hb1.c3,hb1.ca,A3a hb1,A1a hb1,A2a hb1]
 by_cases hA:3000 < N.states
 ·simp only [↓Sh.dn,sx,Nat.reduceBEq,reduceCtorEq,Nat.reduceEqDiff,hA,decide_true,hres,A2g,A4m,Bool.true_or,hk1]
 by_cases hB:60000 < N.arcs.length
 ·simp only [↓Sh.dn,sx,Nat.reduceBEq,reduceCtorEq,Nat.reduceEqDiff,hb1.c0,hb1.c1,hb1.c2,hb1.c3,hb1.ca,A3a hb1,A1a hb1,A2a hb1,hA,eA,hB,decide_true,decide_false,hres,A2g,A4m,Bool.true_or,Bool.or_true,hk1]
 by_cases hC:60000 < N.ends.length
 ·simp only [↓Sh.dn,sx,Nat.reduceBEq,reduceCtorEq,Nat.reduceEqDiff,hb1.c0,hb1.c1,hb1.c2,hb1.c3,hb1.ca,A3a hb1,A1a hb1,A2a hb1,hA,eA,eE,hB,hC,decide_true,decide_false,hres,A2g,A4m,Bool.true_or,Bool.or_true,hk1]
 have hT:A4m N=false:=by simp [A4m,hA,hB,hC]
 simp only [↓Sh.dn,sx,Nat.reduceBEq,reduceCtorEq,Nat.reduceEqDiff,hb1.c0,hb1.c1,hb1.c2,hb1.c3,hb1.ca,A3a hb1,A1a hb1,A2a hb1,hA,eA,eE,hB,hC,decide_true,decide_false,hres]
 obtain ⟨r,H2,hd,hk2,rfl⟩:=refSigma hb1.hsg hsm.sg hsm.sx hk1.wf
 refine ⟨_,_,hd,?_⟩
 have hb2:=hb1.kept hk1.wf hk2
 have hk12:=hk1.trans hk2
 by_cases hS:A7i N.sigma=0
 case neg=>simp only [↓Sh.dn,sx,Nat.reduceBEq,reduceCtorEq,Nat.reduceEqDiff,hS,decide_false,hres,A2g,hT,Bool.false_eq_true,if_false,ne_eq,not_false_eq_true,if_true,hk12]
 have hasc:=A1z hS
 simp only [↓Sh.dn,sx,Nat.reduceBEq,reduceCtorEq,Nat.reduceEqDiff,hS,decide_true,hb2.c0,hb2.c1,hb2.c2,hb2.c3,hb2.ca,A3a hb2,A1a hb2,A2a hb2]
 by_cases hst:N.states < 1
 ·simp only [↓Sh.dn,sx,Nat.reduceBEq,reduceCtorEq,Nat.reduceEqDiff,hst,decide_true,hres,A2g,hT,hS,ne_eq,not_true_eq_false,if_false,if_true,hk12,Bool.false_eq_true]
 simp only [↓Sh.dn,sx,Nat.reduceBEq,reduceCtorEq,Nat.reduceEqDiff,hst,decide_false]
 have e1:N.arcs.any (A1i N)=true→A2g N=1:=by intro h; simp [A2g,hT,hS,hst,h]
 have e2:N.ends.any (A1p N)=true→A2g N=1:=by intro h; simp [A2g,hT,hS,hst,h]
 have e3:N.arcs.any (A1i N)=false→N.ends.any (A1p N)=false→A2g N=0:=by intro h h'; simp [A2g,hT,hS,hst,h,h']
 refine A0i N.arcs.length 4 (List.range' 4 87++[2]) (fun i F H'=>Kept H2 H'∧(N.arcs.take i).any (A1i N)=false) (by simp only [↓Sh.dn,sx,Nat.reduceBEq,reduceCtorEq,Nat.reduceEqDiff]) ⟨Kept.refl hk12.wf,rfl⟩ ?_ ?_
 ·rintro i F H' hlt hF f4 ⟨hk,hall⟩ k
  have f1:=hF 1 rfl
  simp only [↓Sh.dn,sx,Nat.reduceBEq,reduceCtorEq,Nat.reduceEqDiff] at f1
  have hb':=hb2.kept hk12.wf hk
  have hb3:=hb'.new hk.wf 5 (N.arcs[i].cells)
  have hk3:=hk.news 5 (N.arcs[i].cells)
  obtain ⟨g,o,kk,hia,hc,hcc⟩:=hb'.har.at Tryz.underlying23 A2l (i:=i) (x:=N.arcs[i].cells) (by simp [hlt]) .i64
  clear hcc
  have hin:N.arcs[i]∈N.arcs:=List.getElem_mem hlt
  have hnext:A1i N N.arcs[i]=false→(N.arcs.take (i+1)).any (A1i N)=false:=by
   intro h
   rw [List.take_add_one,List.getElem?_eq_getElem hlt]
   simp only [Option.toList,List.any_append,hall,List.any_cons,List.any_nil,h,Bool.or_false]
  have hbad:A1i N N.arcs[i]=true→A2g N=1:=fun h=>e1 (List.any_eq_true.2 ⟨_,hin,h⟩)
  generalize N.arcs[i]=a at hb3 hk3 hc hnext hbad
  have hi2:=isIn (x:=a.inn) hb3.hsg hasc hsm.sg hk3.wf
  simp only [↓Sh.dn,sx,Nat.reduceBEq,reduceCtorEq,Nat.reduceEqDiff,hb'.c0,hb'.c1,hb'.c2,hb'.c3,hb'.ca,A3a hb',A1a hb',A2a hb',A1c,A9c,A7c,A9e,A0f,A5b,A6b,A0d,A8c,A3c,arc0,arc1,arc2,arc3,arc4,end0,end1,f1,f4,Option.map_some,A9a,hlt,decide_true,hia,hc,hres]
  by_cases h1:a.fr < 0
  ·simp only [↓Sh.dn,sx,Nat.reduceBEq,reduceCtorEq,Nat.reduceEqDiff,hb3.c0,hb3.c1,hb3.c2,hb3.c3,hb3.ca,A3a hb3,A1a hb3,A2a hb3,A1c,A9c,A7c,A9e,A0f,A5b,A6b,A0d,A8c,A3c,arc0,arc1,arc2,arc3,arc4,end0,end1,h1,decide_true,hres,hbad (by simp [A1i,h1]),hk12.trans hk3]
  simp only [↓Sh.dn,sx,Nat.reduceBEq,reduceCtorEq,Nat.reduceEqDiff,hb3.c0,hb3.c1,hb3.c2,hb3.c3,hb3.ca,A3a hb3,A1a hb3,A2a hb3,A1c,A9c,A7c,A9e,A0f,A5b,A6b,A0d,A8c,A3c,arc0,arc1,arc2,arc3,arc4,end0,end1,f1,h1,decide_false]
  by_cases h2:N.states≤a.fr
  ·simp only [↓Sh.dn,sx,Nat.reduceBEq,reduceCtorEq,Nat.reduceEqDiff,hb3.c0,hb3.c1,hb3.c2,hb3.c3,hb3.ca,A3a hb3,A1a hb3,A2a hb3,A1c,A9c,A7c,A9e,A0f,A5b,A6b,A0d,A8c,A3c,arc0,arc1,arc2,arc3,arc4,end0,end1,h2,decide_true,hres,hbad (by simp [A1i,h2]),hk12.trans hk3]
  simp only [↓Sh.dn,sx,Nat.reduceBEq,reduceCtorEq,Nat.reduceEqDiff,hb3.c0,hb3.c1,hb3.c2,hb3.c3,hb3.ca,A3a hb3,A1a hb3,A2a hb3,A1c,A9c,A7c,A9e,A0f,A5b,A6b,A0d,A8c,A3c,arc0,arc1,arc2,arc3,arc4,end0,end1,f1,h2,decide_false]
  by_cases h3:a.to < 0
  ·simp only [↓Sh.dn,sx,Nat.reduceBEq,reduceCtorEq,Nat.reduceEqDiff,hb3.c0,hb3.c1,hb3.c2,hb3.c3,hb3.ca,A3a hb3,A1a hb3,A2a hb3,A1c,A9c,A7c,A9e,A0f,A5b,A6b,A0d,A8c,A3c,arc0,arc1,arc2,arc3,arc4,end0,end1,h3,decide_true,hres,hbad (by simp [A1i,h3]),hk12.trans hk3]
  simp only [↓Sh.dn,sx,Nat.reduceBEq,reduceCtorEq,Nat.reduceEqDiff,hb3.c0,hb3.c1,hb3.c2,hb3.c3,hb3.ca,A3a hb3,A1a hb3,A2a hb3,A1c,A9c,A7c,A9e,A0f,A5b,A6b,A0d,A8c,A3c,arc0,arc1,arc2,arc3,arc4,end0,end1,f1,h3,decide_false]
  by_cases h4:N.states≤a.to
  ·simp only [↓Sh.dn,sx,Nat.reduceBEq,reduceCtorEq,Nat.reduceEqDiff,hb3.c0,hb3.c1,hb3.c2,hb3.c3,hb3.ca,A3a hb3,A1a hb3,A2a hb3,A1c,A9c,A7c,A9e,A0f,A5b,A6b,A0d,A8c,A3c,arc0,arc1,arc2,arc3,arc4,end0,end1,h4,decide_true,hres,hbad (by simp [A1i,h4]),hk12.trans hk3]
  simp only [↓Sh.dn,sx,Nat.reduceBEq,reduceCtorEq,Nat.reduceEqDiff,hb3.c0,hb3.c1,hb3.c2,hb3.c3,hb3.ca,A3a hb3,A1a hb3,A2a hb3,A1c,A9c,A7c,A9e,A0f,A5b,A6b,A0d,A8c,A3c,arc0,arc1,arc2,arc3,arc4,end0,end1,f1,h4,decide_false]
  have hgo:A2j N a.inn=false→A2j N a.out=false→A1i N a=false:=by intro h h'; simp [A1i,h1,h2,h3,h4,h,h']
  have hout:∀ (H4:AH) (F4:Fr),Kept (H'.new 5 a.cells).2 H4→A2j N a.inn=false→True:=fun _ _ _ _=>trivial
  by_cases h5:a.inn=⟨#[]⟩
  ·have hI:A2j N a.inn=false:=by simp [A2j,h5]
   simp only [↓Sh.dn,sx,Nat.reduceBEq,reduceCtorEq,Nat.reduceEqDiff,hb3.c0,hb3.c1,hb3.c2,hb3.c3,hb3.ca,A3a hb3,A1a hb3,A2a hb3,A1c,A9c,A7c,A9e,A0f,A5b,A6b,A0d,A8c,A3c,arc0,arc1,arc2,arc3,arc4,end0,end1,f1,h5,decide_true]
   by_cases h6:a.out=⟨#[]⟩
   ·have hO:A2j N a.out=false:=by simp [A2j,h6]
    simp only [↓Sh.dn,sx,Nat.reduceBEq,reduceCtorEq,Nat.reduceEqDiff,hb3.c0,hb3.c1,hb3.c2,hb3.c3,hb3.ca,A3a hb3,A1a hb3,A2a hb3,A1c,A9c,A7c,A9e,A0f,A5b,A6b,A0d,A8c,A3c,arc0,arc1,arc2,arc3,arc4,end0,end1,f1,f4,h6,decide_true,wrap_succ hlt hsm.ar]
    exact k _ _ (by repeat (first | refine Same.put ?_ rfl | exact Same.rfl' _)) (by simp only [↓Sh.dn,sx,Nat.reduceBEq,reduceCtorEq,Nat.reduceEqDiff]) ⟨hk3,hnext (hgo hI hO)⟩
   ·obtain ⟨r,H4,hd4,hk4,rfl⟩:=isIn (x:=a.out) hb3.hsg hasc hsm.sg hk3.wf
    simp only [↓Sh.dn,sx,Nat.reduceBEq,reduceCtorEq,Nat.reduceEqDiff,hb3.c0,hb3.c1,hb3.c2,hb3.c3,hb3.ca,A3a hb3,A1a hb3,A2a hb3,A1c,A9c,A7c,A9e,A0f,A5b,A6b,A0d,A8c,A3c,arc0,arc1,arc2,arc3,arc4,end0,end1,f1,h6,decide_false]
    refine ⟨_,_,hd4,?_⟩
    cases h7:A8t N.sigma a.out with
    | true=>
     have hO:A2j N a.out=false:=by simp [A2j,h7]
     simp only [↓Sh.dn,sx,Nat.reduceBEq,reduceCtorEq,Nat.reduceEqDiff,f4,wrap_succ hlt hsm.ar]
     exact k _ _ (by repeat (first | refine Same.put ?_ rfl | exact Same.rfl' _)) (by simp only [↓Sh.dn,sx,Nat.reduceBEq,reduceCtorEq,Nat.reduceEqDiff]) ⟨hk3.trans hk4,hnext (hgo hI hO)⟩
    | false=>
     simp only [↓Sh.dn,sx,Nat.reduceBEq,reduceCtorEq,Nat.reduceEqDiff,hres,hbad (by simp [A1i,A2j,h6,h7]),(hk12.trans hk3).trans hk4]
  ·obtain ⟨r,H4,hd4,hk4,rfl⟩:=isIn (x:=a.inn) hb3.hsg hasc hsm.sg hk3.wf
   simp only [↓Sh.dn,sx,Nat.reduceBEq,reduceCtorEq,Nat.reduceEqDiff,hb3.c0,hb3.c1,hb3.c2,hb3.c3,hb3.ca,A3a hb3,A1a hb3,A2a hb3,A1c,A9c,A7c,A9e,A0f,A5b,A6b,A0d,A8c,A3c,arc0,arc1,arc2,arc3,arc4,end0,end1,f1,h5,decide_false]
   refine ⟨_,_,hd4,?_⟩
   have hb4:=hb3.kept hk3.wf hk4
   have q2:=A8g (hk4.grow hk3.wf) (arc2 (H:=H') (a:=a))
   cases h7:A8t N.sigma a.inn with
   | false=>
    simp only [↓Sh.dn,sx,Nat.reduceBEq,reduceCtorEq,Nat.reduceEqDiff,hres,hbad (by simp [A1i,A2j,h5,h7]),(hk12.trans hk3).trans hk4]
   | true=>
    have hI:A2j N a.inn=false:=by simp [A2j,h7]
    simp only [↓Sh.dn,sx,Nat.reduceBEq,reduceCtorEq,Nat.reduceEqDiff,hb4.c0,hb4.c1,hb4.c2,hb4.c3,hb4.ca,A3a hb4,A1a hb4,A2a hb4,q2,f1]
    by_cases h6:a.out=⟨#[]⟩
    ·have hO:A2j N a.out=false:=by simp [A2j,h6]
     simp only [↓Sh.dn,sx,Nat.reduceBEq,reduceCtorEq,Nat.reduceEqDiff,hb4.c0,hb4.c1,hb4.c2,hb4.c3,hb4.ca,A3a hb4,A1a hb4,A2a hb4,q2,f1,f4,h6,decide_true,wrap_succ hlt hsm.ar]
     exact k _ _ (by repeat (first | refine Same.put ?_ rfl | exact Same.rfl' _)) (by simp only [↓Sh.dn,sx,Nat.reduceBEq,reduceCtorEq,Nat.reduceEqDiff]) ⟨hk3.trans hk4,hnext (hgo hI hO)⟩
    ·obtain ⟨r,H5,hd5,hk5,rfl⟩:=isIn (x:=a.out) hb4.hsg hasc hsm.sg hk4.wf
     simp only [↓Sh.dn,sx,Nat.reduceBEq,reduceCtorEq,Nat.reduceEqDiff,hb4.c0,hb4.c1,hb4.c2,hb4.c3,hb4.ca,A3a hb4,A1a hb4,A2a hb4,q2,f1,h6,decide_false]
     refine ⟨_,_,hd5,?_⟩
     cases h8:A8t N.sigma a.out with
     | true=>
      have hO:A2j N a.out=false:=by simp [A2j,h8]
      simp only [↓Sh.dn,sx,Nat.reduceBEq,reduceCtorEq,Nat.reduceEqDiff,f4,wrap_succ hlt hsm.ar]
      exact k _ _ (by repeat (first | refine Same.put ?_ rfl | exact Same.rfl' _)) (by simp only [↓Sh.dn,sx,Nat.reduceBEq,reduceCtorEq,Nat.reduceEqDiff]) ⟨(hk3.trans hk4).trans hk5,hnext (hgo hI hO)⟩
     | false=>
      simp only [↓Sh.dn,sx,Nat.reduceBEq,reduceCtorEq,Nat.reduceEqDiff,hres,hbad (by simp [A1i,A2j,h6,h8]),((hk12.trans hk3).trans hk4).trans hk5]
 ·rintro F H' hF f4 ⟨hk,hall⟩
  have f1:=hF 1 rfl
  simp only [↓Sh.dn,sx,Nat.reduceBEq,reduceCtorEq,Nat.reduceEqDiff] at f1
  rw [List.take_length] at hall
  have hb':=hb2.kept hk12.wf hk
  have hkk:=hk12.trans hk
  simp only [↓Sh.dn,sx,Nat.reduceBEq,reduceCtorEq,Nat.reduceEqDiff,hb'.c0,hb'.c1,hb'.c2,hb'.c3,hb'.ca,A3a hb',A1a hb',A2a hb',f1,f4,A9a,Nat.lt_irrefl,decide_false]
  refine A0i N.ends.length 6 (List.range' 91 26++[2,6]) (fun i F H''=>H''=H'∧(N.ends.take i).any (A1p N)=false) (by simp only [↓Sh.dn,sx,Nat.reduceBEq,reduceCtorEq,Nat.reduceEqDiff]) ⟨rfl,rfl⟩ ?_ ?_
  ·rintro i F2 H'' hlt hF2 f6 ⟨rfl,hall2⟩ k
   have g1:=hF2 1 rfl
   simp only [↓Sh.dn,sx,Nat.reduceBEq,reduceCtorEq,Nat.reduceEqDiff,f1] at g1
   obtain ⟨g,o,kk,hia,hc,hcc⟩:=hb'.hen.at Tryz.underlying24 A9q (i:=i) (x:=N.ends[i].cells) (by simp [hlt]) .i64
   have q0:=hcc 0 _ rfl
   simp only [Nat.add_zero] at q0
   have hbad:A1p N N.ends[i]=true→A2g N=1:=fun h=>e2 (List.any_eq_true.2 ⟨_,List.getElem_mem hlt,h⟩)
   simp only [↓Sh.dn,sx,Nat.reduceBEq,reduceCtorEq,Nat.reduceEqDiff,hb'.c0,hb'.c1,hb'.c2,hb'.c3,hb'.ca,A3a hb',A1a hb',A2a hb',g1,f6,A9a,hlt,decide_true,hia,q0,Nat.add_zero]
   by_cases h1:N.ends[i].state < 0
   ·simp only [↓Sh.dn,sx,Nat.reduceBEq,reduceCtorEq,Nat.reduceEqDiff,h1,decide_true,hres,hbad (by simp [A1p,h1]),hkk]
   simp only [↓Sh.dn,sx,Nat.reduceBEq,reduceCtorEq,Nat.reduceEqDiff,hb'.c0,hb'.c1,hb'.c2,hb'.c3,hb'.ca,A3a hb',A1a hb',A2a hb',g1,f6,hia,q0,h1,decide_false]
   by_cases h2:N.states≤N.ends[i].state
   ·simp only [↓Sh.dn,sx,Nat.reduceBEq,reduceCtorEq,Nat.reduceEqDiff,h2,decide_true,hres,hbad (by simp [A1p,h2]),hkk]
   simp only [↓Sh.dn,sx,Nat.reduceBEq,reduceCtorEq,Nat.reduceEqDiff,f6,h2,decide_false,wrap_succ hlt hsm.en]
   refine k _ _ (by repeat (first | refine Same.put ?_ rfl | exact Same.rfl' _)) (by simp only [↓Sh.dn,sx,Nat.reduceBEq,reduceCtorEq,Nat.reduceEqDiff]) ⟨rfl,?_⟩
   rw [List.take_add_one,List.getElem?_eq_getElem hlt]
   simp only [Option.toList,List.any_append,hall2,List.any_cons,List.any_nil,Bool.or_false,A1p,h1,h2,decide_false]
  ·rintro F2 H'' hF2 f6 ⟨rfl,hall2⟩
   have g1:=hF2 1 rfl
   simp only [↓Sh.dn,sx,Nat.reduceBEq,reduceCtorEq,Nat.reduceEqDiff,f1] at g1
   rw [List.take_length] at hall2
   simp only [↓Sh.dn,sx,Nat.reduceBEq,reduceCtorEq,Nat.reduceEqDiff,hb'.c0,hb'.c1,hb'.c2,hb'.c3,hb'.ca,A3a hb',A1a hb',A2a hb',g1,f6,A9a,Nat.lt_irrefl,decide_false,hres,e3 hall hall2,hkk]
end Go.Proofs.YtnoengaghabmjaaGreatDoor
/- syms.isLong and syms.isSymbol. -/
namespace Go.Proofs.YtnoengaghabmjaaGreatDoor
open Go Go.Proofs Go.Proofs.Sh
theorem C6f {H:AH} {x:ByteArray}:Sh.Call Tryz.prog (knows 8) 97 [.string x] H (fun r H'=>H'=H∧r=.bool (decide (16 < x.size))):=by
 refine A3b rfl Tryz.func97 rfl (Nat.le_of_ble_eq_true rfl) ?_
 have hres:Tryz.f97.results.toList=[.tmp 2]:=rfl
 have e:decide ((16:Int) < (x.size:Int))=decide (16 < x.size):=decide_eq_decide.2 (by omega)
 simp only [↓Sh.dn,sx,Nat.reduceBEq,reduceCtorEq,Nat.reduceEqDiff,hres,e]
def chOk (s:ByteArray):Bool:=!s.data.toList.any badByte && decide (1≤s.size)
theorem C8g (s:ByteArray):A7w s=(chOk s && decide (s.size≤16)):=rfl
theorem C5f {x:ByteArray}:decide (x=⟨#[]⟩)=!decide (1≤x.size):=by
 by_cases h:x=⟨#[]⟩
 ·subst h; rfl
 ·have : 1 ≤ x.size := by
    refine Nat.one_le_iff_ne_zero.2 fun h0 => h (ByteArray.ext ?_)
    exact Array.eq_empty_of_size_eq_zero h0
  simp [h, this]
theorem B0y {H:AH} {x:ByteArray} (hl:x.size≤1048576):
  Sh.Call Tryz.prog (knows 8) 99 [.string x] H (fun r H'=>H'=H∧r=.bool (chOk x)):=by
 refine A3b rfl Tryz.func99 rfl (Nat.le_of_ble_eq_true rfl) ?_
 have hres:Tryz.f99.results.toList=[.tmp 2]:=rfl
 have hsz:x.data.toList.length=x.size:=by rw [Array.length_toList]; rfl
 simp only [↓Sh.dn,sx,Nat.reduceBEq,reduceCtorEq,Nat.reduceEqDiff]
 refine A0i x.size 6 (List.range' 6 26++[2,3]) (fun i F H'=>H'=H∧(x.data.toList.take i).any badByte=false) (by simp only [↓Sh.dn,sx,Nat.reduceBEq,reduceCtorEq,Nat.reduceEqDiff]) ⟨rfl,rfl⟩ ?_ ?_
 ·rintro i F H' hlt hF f6 ⟨rfl,hall⟩ k
  have f0:=hF 0 rfl
  have f5:=hF 5 rfl
  simp only [↓Sh.dn,sx,Nat.reduceBEq,reduceCtorEq,Nat.reduceEqDiff] at f0 f5
  obtain ⟨u,hu⟩:∃ u,x.data.toList[i]?=some u:=⟨x.data.toList[i]'(by omega),List.getElem?_eq_getElem (by omega)⟩
  have hix:=B5z (P:=Tryz.prog) (j:=.i64) Tryz.underlying9 hu
  have e33:decide ((u.toNat:Int) < 33)=decide (u.toNat < 33):=decide_eq_decide.2 (by omega)
  have e126:decide (126 < (u.toNat:Int))=decide (126 < u.toNat):=decide_eq_decide.2 (by omega)
  have e60:decide ((u.toNat:Int)=60)=decide (u.toNat=60):=decide_eq_decide.2 (by omega)
  have e62:decide ((u.toNat:Int)=62)=decide (u.toNat=62):=decide_eq_decide.2 (by omega)
  have hbad:badByte u=true→chOk x=false:=by
   intro h
   have:x.data.toList.any badByte=true:=List.any_eq_true.2 ⟨_,List.mem_of_getElem? hu,h⟩
   simp [chOk,this]
  simp only [↓Sh.dn,sx,Nat.reduceBEq,reduceCtorEq,Nat.reduceEqDiff,f0,f5,f6,hix,A9a,hlt,e33,decide_true]
  by_cases h1:u.toNat < 33
  ·simp only [↓Sh.dn,sx,Nat.reduceBEq,reduceCtorEq,Nat.reduceEqDiff,h1,decide_true,hres,hbad (by simp [badByte,h1])]
  simp only [↓Sh.dn,sx,Nat.reduceBEq,reduceCtorEq,Nat.reduceEqDiff,f0,hix,h1,e126,decide_false]
  by_cases h2:126 < u.toNat
  ·simp only [↓Sh.dn,sx,Nat.reduceBEq,reduceCtorEq,Nat.reduceEqDiff,h2,decide_true,hres,hbad (by simp [badByte,h2])]
  simp only [↓Sh.dn,sx,Nat.reduceBEq,reduceCtorEq,Nat.reduceEqDiff,f0,hix,h2,e60,decide_false]
  by_cases h3:u.toNat=60
  ·simp only [↓Sh.dn,sx,Nat.reduceBEq,reduceCtorEq,Nat.reduceEqDiff,h3,decide_true,hres,hbad (by simp [badByte,h3])]
  simp only [↓Sh.dn,sx,Nat.reduceBEq,reduceCtorEq,Nat.reduceEqDiff,f0,hix,h3,e62,decide_false]
  by_cases h4:u.toNat=62
  ·simp only [↓Sh.dn,sx,Nat.reduceBEq,reduceCtorEq,Nat.reduceEqDiff,h4,decide_true,hres,hbad (by simp [badByte,h4])]
  simp only [↓Sh.dn,sx,Nat.reduceBEq,reduceCtorEq,Nat.reduceEqDiff,f6,h4,decide_false,wrap_succ hlt hl]
  refine k _ _ (by repeat (first | refine Same.put ?_ rfl | exact Same.rfl' _)) (by simp only [↓Sh.dn,sx,Nat.reduceBEq,reduceCtorEq,Nat.reduceEqDiff]) ⟨rfl,?_⟩
  rw [List.take_add_one,hu]
  simp only [Option.toList,List.any_append,hall,Bool.false_or,List.any_cons,List.any_nil,Bool.or_false,badByte,h1,h2,h3,h4,decide_false]
 ·rintro F H' hF f6 ⟨rfl,hall⟩
  have f0:=hF 0 rfl
  have f5:=hF 5 rfl
  simp only [↓Sh.dn,sx,Nat.reduceBEq,reduceCtorEq,Nat.reduceEqDiff] at f0 f5
  rw [← hsz,List.take_length] at hall
  simp only [↓Sh.dn,sx,Nat.reduceBEq,reduceCtorEq,Nat.reduceEqDiff,f0,f5,f6,A9a,Nat.lt_irrefl,decide_false,hres,chOk,hall,C5f]
end Go.Proofs.YtnoengaghabmjaaGreatDoor
/- slices.IndexFunc and ContainsFunc: whether some element is so. -/
namespace Go.Proofs.YtnoengaghabmjaaGreatDoor
open Go Go.Proofs Go.Proofs.Sh
theorem B3r {H:AH} {v:Value} {l:List ByteArray} {fid:Nat} {caps:List Value} (p:ByteArray→Bool) (hs:Sl H v 1 (l.map A1b)) (hl:l.length≤1048576) (hw:Wf H)
  (hp:∀ H',Kept H H'→∀ x∈l,Sh.Call Tryz.prog (knows 8) fid ((fun s=>Value.string s) x :: caps) H' (fun r H''=>Kept H' H''∧r=.bool (p x))):
  Sh.Call Tryz.prog (knows 8) 126 [v,.func (.func fid) #[] caps.toArray] H (fun r H'=>Kept H H'∧∃ k:Int,r=.int .i64 k∧decide (0≤k)=l.any p):=by
 refine A3b rfl Tryz.func126 rfl (Nat.le_of_ble_eq_true rfl) ?_
 have hres:Tryz.f126.results.toList=[.tmp 4]:=rfl
 have hlen:=hs.len Tryz.underlying22 H
 simp only [↓Sh.dn,sx,Nat.reduceBEq,reduceCtorEq,Nat.reduceEqDiff,hlen,List.length_map]
 refine A0i l.length 8 [5,8,9,10,11,12,13,14,15,16,18] (fun i F H'=>Kept H H'∧(l.take i).any p=false) (by simp only [↓Sh.dn,sx,Nat.reduceBEq,reduceCtorEq,Nat.reduceEqDiff]) ⟨Kept.refl hw,rfl⟩ ?_ ?_
 ·rintro i F H' hlt hF f8 ⟨hk,hall⟩ k
  have hs1:=hs.grow (hk.grow hw)
  obtain ⟨g,o,kk,hia,hc,hcc⟩:=hs1.at Tryz.underlying22 A6l (i:=i) (x:=A1b l[i]) (by simp [hlt]) .i64
  have hld:=hcc 0 _ rfl; simp only [Nat.add_zero] at hld
  have f0:=hF 0 rfl
  have f1:=hF 1 rfl
  have f7:=hF 7 rfl
  simp only [↓Sh.dn,sx,Nat.reduceBEq,reduceCtorEq,Nat.reduceEqDiff] at f0 f1 f7
  obtain ⟨r,H2,hd,hk2,rfl⟩:=hp H' hk l[i] (List.getElem_mem hlt)
  simp only [↓Sh.dn,sx,Nat.reduceBEq,reduceCtorEq,Nat.reduceEqDiff,f0,f1,f7,f8,A9a,hlt,decide_true,hia,hld,Option.map_some,forall_const,reduceCtorEq,false_implies,and_true,true_and]
  refine ⟨_,_,hd,?_⟩
  cases hpv:p l[i] with
  | true=>
   simp only [↓Sh.dn,sx,Nat.reduceBEq,reduceCtorEq,Nat.reduceEqDiff,hres,forall_const,reduceCtorEq,false_implies,and_true,true_and]
   refine ⟨hk.trans hk2,_,rfl,?_⟩
   rw [List.any_eq_true.2 ⟨_,List.getElem_mem hlt,hpv⟩]
   simp
  | false=>
   simp only [↓Sh.dn,sx,Nat.reduceBEq,reduceCtorEq,Nat.reduceEqDiff,hres,f8,wrap_succ hlt hl,forall_const,reduceCtorEq,false_implies,and_true,true_and]
   refine k _ _ (by repeat (first | refine Same.put ?_ rfl | exact Same.rfl' _)) (by simp only [↓Sh.dn,sx,Nat.reduceBEq,reduceCtorEq,Nat.reduceEqDiff]) ⟨hk.trans hk2,?_⟩
   rw [List.take_add_one,List.getElem?_eq_getElem hlt]
   simp only [Option.toList,List.any_append,hall,List.any_cons,List.any_nil,hpv,Bool.or_false]
 ·rintro F H' hF f8 ⟨hk,hall⟩
  have f7:=hF 7 rfl
  simp only [↓Sh.dn,sx,Nat.reduceBEq,reduceCtorEq,Nat.reduceEqDiff] at f7
  rw [List.take_length] at hall
  simp only [↓Sh.dn,sx,Nat.reduceBEq,reduceCtorEq,Nat.reduceEqDiff,f7,f8,A9a,Nat.lt_irrefl,decide_false,hres,forall_const,reduceCtorEq,false_implies,and_true,true_and]
  exact ⟨hk,_,rfl,by rw [hall]; rfl⟩
theorem B4e {H:AH} {v:Value} {l:List ByteArray} {fid:Nat} {caps:List Value} (p:ByteArray→Bool) (hs:Sl H v 1 (l.map A1b)) (hl:l.length≤1048576) (hw:Wf H)
  (hp:∀ H',Kept H H'→∀ x∈l,Sh.Call Tryz.prog (knows 8) fid ((fun s=>Value.string s) x :: caps) H' (fun r H''=>Kept H' H''∧r=.bool (p x))):
  Sh.Call Tryz.prog (knows 8) 96 [v,.func (.func fid) #[] caps.toArray] H (fun r H'=>Kept H H'∧r=.bool (l.any p)):=by
 refine A3b rfl Tryz.func96 rfl (Nat.le_of_ble_eq_true rfl) ?_
 have hres:Tryz.f96.results.toList=[.tmp 4]:=rfl
 obtain ⟨r,H2,hd,hk,k,rfl,hk0⟩:=B3r p hs hl hw hp
 simp only [↓Sh.dn,sx,Nat.reduceBEq,reduceCtorEq,Nat.reduceEqDiff]
 refine ⟨_,_,hd,?_⟩
 simp only [↓Sh.dn,sx,Nat.reduceBEq,reduceCtorEq,Nat.reduceEqDiff,hres,hk0,and_true]
 exact hk
end Go.Proofs.YtnoengaghabmjaaGreatDoor
/- What is wrong with an alphabet, by the program. -/
namespace Go.Proofs.YtnoengaghabmjaaGreatDoor
open Go Go.Proofs Go.Proofs.Sh
theorem B5w {H:AH} {v:Value} {l:List ByteArray} (hs:Sl H v 1 (l.map A1b)) (hl:l.length≤1048576) (hlx:∀ x∈l,x.size≤1048576) (hw:Wf H):
  Sh.Call Tryz.prog (knows 8) 122 [v] H (fun r H'=>Kept H H'∧r=.int .i64 (A7i l)):=by
 refine A3b rfl Tryz.func122 rfl (Nat.le_of_ble_eq_true rfl) ?_
 have hres:Tryz.f122.results.toList=[.tmp 2]:=rfl
 have hlen:=hs.len Tryz.underlying22 H
 have e40:decide ((40:Int) < ((l.length:Nat):Int))=decide (40 < l.length):=decide_eq_decide.2 (by omega)
 simp only [↓Sh.dn,sx,Nat.reduceBEq,reduceCtorEq,Nat.reduceEqDiff,hlen,List.length_map,e40]
 by_cases h40:40 < l.length
 ·simp only [↓Sh.dn,sx,Nat.reduceBEq,reduceCtorEq,Nat.reduceEqDiff,h40,decide_true,hres,A7i,Bool.true_or,Kept.refl hw]
 simp only [↓Sh.dn,sx,Nat.reduceBEq,reduceCtorEq,Nat.reduceEqDiff,h40,decide_false]
 obtain ⟨r1,H1,hd1,hk1,rfl⟩:=B4e (caps:=[]) (fid:=97) (fun s=>decide (16 < s.size)) hs hl hw (fun H' hk x hx=>(C6f (H:=H') (x:=x)).mono fun r H'' h=>by rcases h with ⟨rfl,h⟩; exact ⟨Kept.refl hk.wf,h⟩)
 refine ⟨_,_,hd1,?_⟩
 cases hL:(l.any fun s=>decide (16 < s.size)) with
 | true=>simp only [↓Sh.dn,sx,Nat.reduceBEq,reduceCtorEq,Nat.reduceEqDiff,hres,hL,A7i,A6s,h40,decide_false,Bool.false_or,hk1]
 | false=>
  have hs1:=hs.grow (hk1.grow hw)
  have hlen1:=hs1.len Tryz.underlying22 H1
  simp only [↓Sh.dn,sx,Nat.reduceBEq,reduceCtorEq,Nat.reduceEqDiff,hlen1,List.length_map]
  have h16:∀ x∈l,decide (x.size≤16)=true:=by
   intro x hx
   have:=List.any_eq_false.1 hL x hx
   simp only [decide_eq_true_eq,Nat.not_lt] at this
   simpa using this
  have e1:(l.all A7w && ascB l)=false→A7i l=1:=by intro h; simp [A7i,A6s,h40,hL]; simpa using h
  have e0:(l.all A7w && ascB l)=true→A7i l=0:=by intro h; simp [A7i,A6s,h40,hL]; simpa using h
  have hsy:∀ x∈l,A7w x=chOk x:=by intro x hx; rw [C8g,h16 x hx,Bool.and_true]
  refine A0i l.length 14 (List.range' 14 22++[2,3,4]) (fun i F H'=>H'=H1∧(∀ (j:Nat) x,j < i→l[j]?=some x→chOk x=true)∧(∀ (j:Nat) x y,j+1 < i→l[j]?=some x→l[j+1]?=some y→A7m x y=true)) (by simp only [↓Sh.dn,sx,Nat.reduceBEq,reduceCtorEq,Nat.reduceEqDiff]) ⟨rfl,fun j x h=>by omega,fun j x y h=>by omega⟩ ?_ ?_
  ·rintro i F H' hlt hF f14 ⟨rfl,hall,hasc⟩ k
   have f0:=hF 0 rfl
   have f12:=hF 12 rfl
   have f13:=hF 13 rfl
   simp only [↓Sh.dn,sx,Nat.reduceBEq,reduceCtorEq,Nat.reduceEqDiff] at f0 f12 f13
   obtain ⟨g,o,kk,hia,hc,hcc⟩:=hs1.at Tryz.underlying22 A6l (i:=i) (x:=A1b l[i]) (by simp [hlt]) .i64
   have hy:=hcc 0 _ rfl
   simp only [Nat.add_zero] at hy
   have hget:l[i]?=some l[i]:=List.getElem?_eq_getElem hlt
   obtain ⟨r,H2,hd2,rfl,rfl⟩:=B0y (H:=H') (x:=l[i]) (hlx _ (List.getElem_mem hlt))
   simp only [↓Sh.dn,sx,Nat.reduceBEq,reduceCtorEq,Nat.reduceEqDiff,f0,f12,f13,f14,A9a,hlt,decide_true,hia,hy]
   refine ⟨_,_,hd2,?_⟩
   cases hch:chOk l[i] with
   | false=>
    have hbad:A7i l=1:=e1 (by
     rw [Bool.and_eq_false_iff]; left
     exact List.all_eq_false.2 ⟨_,List.getElem_mem hlt,by rw [hsy _ (List.getElem_mem hlt),hch]; simp⟩)
    simp only [↓Sh.dn,sx,Nat.reduceBEq,reduceCtorEq,Nat.reduceEqDiff,hres,hbad,hk1]
   | true=>
    have hall':∀ (j:Nat) x,j < i+1→l[j]?=some x→chOk x=true:=by
     intro j x hj hx
     by_cases he:j=i
     ·subst he; rw [hget] at hx; rw [← Option.some.inj hx]; exact hch
     ·exact hall j x (by omega) hx
    by_cases hi0:0 < i
    ·have hlt1:i - 1 < l.length:=by omega
     obtain ⟨g',o',kk',hia',hc',hcc'⟩:=hs1.at Tryz.underlying22 A6l (i:=i - 1) (x:=A1b l[i - 1]) (by simp [hlt1]) .i64
     have hy':=hcc' 0 _ rfl
     simp only [Nat.add_zero] at hy'
     have hw1:IntKind.wrap .i64 ((i:Int) - 1)=((i - 1:Nat):Int):=by rw [wrap64 (by omega) (by omega)]; omega
     have ei:decide ((0:Int) < (i:Int))=true:=by simpa using hi0
     have hget':l[i - 1]?=some l[i - 1]:=List.getElem?_eq_getElem hlt1
     simp only [↓Sh.dn,sx,Nat.reduceBEq,reduceCtorEq,Nat.reduceEqDiff,f0,ei,hw1,hia',hy']
     cases hq:A7m l[i - 1] l[i] with
     | false=>
      have hbad:A7i l=1:=e1 (by
       rw [Bool.and_eq_false_iff]; right
       cases hb:ascB l with
       | false=>rfl
       | true=>
        have:=A9y.1 hb (i - 1) _ _ hget' (by rw [show i - 1+1=i by omega]; exact hget)
        rw [this] at hq; cases hq)
      simp only [↓Sh.dn,sx,Nat.reduceBEq,reduceCtorEq,Nat.reduceEqDiff,hres,hbad,hk1]
     | true=>
      simp only [↓Sh.dn,sx,Nat.reduceBEq,reduceCtorEq,Nat.reduceEqDiff,f14,wrap_succ hlt hl]
      refine k _ _ (by repeat (first | refine Same.put ?_ rfl | exact Same.rfl' _)) (by simp only [↓Sh.dn,sx,Nat.reduceBEq,reduceCtorEq,Nat.reduceEqDiff]) ⟨rfl,hall',fun j x y hj hx hy=>?_⟩
      by_cases he:j+1=i
      ·have:j=i - 1:=by omega
       subst this
       rw [he,hget] at hy
       rw [hget'] at hx
       rw [← Option.some.inj hx,← Option.some.inj hy]; exact hq
      ·exact hasc j x y (by omega) hx hy
    ·have ei:decide ((0:Int) < (i:Int))=false:=by simpa using hi0
     simp only [↓Sh.dn,sx,Nat.reduceBEq,reduceCtorEq,Nat.reduceEqDiff,f14,ei,wrap_succ hlt hl]
     exact k _ _ (by repeat (first | refine Same.put ?_ rfl | exact Same.rfl' _)) (by simp only [↓Sh.dn,sx,Nat.reduceBEq,reduceCtorEq,Nat.reduceEqDiff]) ⟨rfl,hall',fun j x y hj hx hy=>by omega⟩
  ·rintro F H' hF f14 ⟨rfl,hall,hasc⟩
   have f13:=hF 13 rfl
   simp only [↓Sh.dn,sx,Nat.reduceBEq,reduceCtorEq,Nat.reduceEqDiff] at f13
   have hgood:A7i l=0:=e0 (by
    rw [Bool.and_eq_true]
    refine ⟨List.all_eq_true.2 fun x hx=>?_,A9y.2 fun j x y hx hy=>hasc j x y (List.getElem?_eq_some_iff.1 hy).1 hx hy⟩
    obtain ⟨j,hj⟩:=List.mem_iff_getElem?.1 hx
    rw [hsy x hx]
    exact hall j x (List.getElem?_eq_some_iff.1 hj).1 hj)
   simp only [↓Sh.dn,sx,Nat.reduceBEq,reduceCtorEq,Nat.reduceEqDiff,f13,f14,A9a,Nat.lt_irrefl,decide_false,hres,hgood,hk1]
end Go.Proofs.YtnoengaghabmjaaGreatDoor
/- cmp.Less, where nothing is no number. -/
namespace Go.Proofs.YtnoengaghabmjaaGreatDoor
open Go Go.Proofs Go.Proofs.Sh
theorem B22 {H:AH} {x:ByteArray}:Sh.Call Tryz.prog (knows 8) 149 [Value.string x] H (fun r H'=>H'=H∧r=.bool false):=by
 refine A3b rfl Tryz.func149 rfl (Nat.le_of_ble_eq_true rfl) ?_
 have hres:Tryz.f149.results.toList=[.tmp 2]:=rfl
 simp only [↓Sh.dn,sx,Nat.reduceBEq,reduceCtorEq,Nat.reduceEqDiff,hres,decide_true,Bool.not_true,and_self]
theorem C1f {H:AH} {x y:ByteArray}:Sh.Call Tryz.prog (knows 8) 124 [Value.string x,Value.string y] H (fun r H'=>H'=H∧r=.bool (A7m x y)):=by
 refine A3b rfl Tryz.func124 rfl (Nat.le_of_ble_eq_true rfl) ?_
 have hres:Tryz.f124.results.toList=[.tmp 4]:=rfl
 obtain ⟨r,H1,hd,rfl,rfl⟩:=B22 (H:=H) (x:=x)
 simp only [↓Sh.dn,sx,Nat.reduceBEq,reduceCtorEq,Nat.reduceEqDiff]
 refine ⟨_,_,hd,?_⟩
 simp only [↓Sh.dn,sx,Nat.reduceBEq,reduceCtorEq,Nat.reduceEqDiff,hres,and_self]
 try rfl
section
variable {H:AH} {g k n m cap i:Nat} {l:List ByteArray}
end
end Go.Proofs.YtnoengaghabmjaaGreatDoor
/- slices.BinarySearch of an ascending list of texts. -/
namespace Go.Proofs.YtnoengaghabmjaaGreatDoor
open Go Go.Proofs Go.Proofs.Sh
theorem isNaNStr {H:AH} {x:ByteArray}:Sh.Call Tryz.prog (knows 8) 125 [.string x] H (fun r H'=>H'=H∧r=.bool false):=by
 refine A3b rfl Tryz.func125 rfl (Nat.le_of_ble_eq_true rfl) ?_
 have hres:Tryz.f125.results.toList=[.tmp 2]:=rfl
 simp only [↓Sh.dn,sx,Nat.reduceBEq,reduceCtorEq,Nat.reduceEqDiff,hres,decide_true,Bool.not_true,and_self]
theorem A18 {H:AH} {v:Value} {x:ByteArray} {l:List ByteArray} (hs:Sl H v 1 (l.map A1b)) (ha:Asc l) (hl:l.length≤1048576):
  Sh.Call Tryz.prog (knows 8) 95 [v,.string x] H (fun r H'=>H'=H∧∃ k:Nat,r=.tuple #[.int .i64 (k:Int),.bool (A8t l x)]∧k≤l.length∧(l[k]?=some x↔x∈l)):=by
 refine A3b rfl Tryz.func95 rfl (Nat.le_of_ble_eq_true rfl) ?_
 have hres:Tryz.f95.results.toList=[.tmp 4,.tmp 5]:=rfl
 have hlen:=hs.len Tryz.underlying22 H
 simp only [↓Sh.dn,sx,Nat.reduceBEq,reduceCtorEq,Nat.reduceEqDiff,hlen,List.length_map]
 refine A5s (fun m F H'=>H'=H∧∃ a b:Nat,m=b - a∧a≤b∧b≤l.length∧F.get 7=some (.int .i64 (a:Int))∧F.get 8=some (.int .i64 (b:Int))∧F.get 0=some v∧F.get 1=some (.string x)∧F.get 6=some (.int .i64 (l.length:Int))∧
  (∀ (i:Nat) y,i < a→l[i]?=some y→A7m y x=true)∧(∀ (i:Nat) y,b≤i→l[i]?=some y→A7m y x=false)) (m:=l.length)
  ⟨rfl,0,l.length,by omega,by omega,by omega,by simp only [↓Sh.dn,sx,Nat.reduceBEq,reduceCtorEq,Nat.reduceEqDiff]; rfl,by simp only [↓Sh.dn,sx,Nat.reduceBEq,reduceCtorEq,Nat.reduceEqDiff],by simp only [↓Sh.dn,sx,Nat.reduceBEq,reduceCtorEq,Nat.reduceEqDiff],by simp only [↓Sh.dn,sx,Nat.reduceBEq,reduceCtorEq,Nat.reduceEqDiff],by simp only [↓Sh.dn,sx,Nat.reduceBEq,reduceCtorEq,Nat.reduceEqDiff],fun i y h=>by omega,fun i y h1 h2=>by have:=(List.getElem?_eq_some_iff.1 h2).1; omega⟩ ?_
 rintro m F H' ⟨rfl,a,b,rfl,hab,hbn,f7,f8,f0,f1,f6,hlo,hhi⟩ k
 by_cases hlt:a < b
 ·have hm:(a+b) / 2 < l.length:=by omega
  have hw2:IntKind.wrap .i64 (((a+b) / 2:Nat):Int)=(((a+b) / 2:Nat):Int):=wrap64 (by omega) (by omega)
  obtain ⟨g,o,kk,hia,hc,hcc⟩:=hs.at Tryz.underlying22 A6l (i:=(a+b) / 2) (x:=A1b l[(a+b) / 2]) (by simp [hm]) .i64
  have hy:=hcc 0 _ rfl
  simp only [Nat.add_zero] at hy
  obtain ⟨r,H1,hd,rfl,rfl⟩:=C1f (H:=H') (x:=l[(a+b) / 2]) (y:=x)
  have hget:l[(a+b) / 2]?=some l[(a+b) / 2]:=List.getElem?_eq_getElem hm
  simp only [↓Sh.dn,sx,Nat.reduceBEq,reduceCtorEq,Nat.reduceEqDiff,f0,f1,f6,f7,f8,A9a,hlt,decide_true,b_shr,half a b (by omega),hw2,hia,hy,forall_const,reduceCtorEq,false_implies,and_true,true_and]
  refine ⟨_,_,hd,?_⟩
  cases hpv:A7m l[(a+b) / 2] x with
  | true=>
   have hw3:IntKind.wrap .i64 ((((a+b) / 2:Nat):Int)+1)=(((a+b) / 2+1:Nat):Int):=wrap_succ (n:=l.length) (by omega) hl
   simp only [↓Sh.dn,sx,Nat.reduceBEq,reduceCtorEq,Nat.reduceEqDiff,forall_const,reduceCtorEq,false_implies,and_true,true_and,hw3]
   refine k (b - ((a+b) / 2+1)) _ _ (by omega) ⟨rfl,(a+b) / 2+1,b,rfl,by omega,hbn,by simp only [↓Sh.dn,sx,Nat.reduceBEq,reduceCtorEq,Nat.reduceEqDiff],by simp only [↓Sh.dn,sx,Nat.reduceBEq,reduceCtorEq,Nat.reduceEqDiff,f8],by simp only [↓Sh.dn,sx,Nat.reduceBEq,reduceCtorEq,Nat.reduceEqDiff,f0],by simp only [↓Sh.dn,sx,Nat.reduceBEq,reduceCtorEq,Nat.reduceEqDiff,f1],by simp only [↓Sh.dn,sx,Nat.reduceBEq,reduceCtorEq,Nat.reduceEqDiff,f6],fun i y hi hy=>?_,hhi⟩
   by_cases he:i=(a+b) / 2
   ·subst he; rw [hget] at hy; rw [← Option.some.inj hy]; exact hpv
   ·exact A1u (ha _ _ _ _ (by omega) hy hget) hpv
  | false=>
   simp only [↓Sh.dn,sx,Nat.reduceBEq,reduceCtorEq,Nat.reduceEqDiff,forall_const,reduceCtorEq,false_implies,and_true,true_and]
   refine k ((a+b) / 2 - a) _ _ (by omega) ⟨rfl,a,(a+b) / 2,rfl,by omega,by omega,by simp only [↓Sh.dn,sx,Nat.reduceBEq,reduceCtorEq,Nat.reduceEqDiff,f7],by simp only [↓Sh.dn,sx,Nat.reduceBEq,reduceCtorEq,Nat.reduceEqDiff],by simp only [↓Sh.dn,sx,Nat.reduceBEq,reduceCtorEq,Nat.reduceEqDiff,f0],by simp only [↓Sh.dn,sx,Nat.reduceBEq,reduceCtorEq,Nat.reduceEqDiff,f1],by simp only [↓Sh.dn,sx,Nat.reduceBEq,reduceCtorEq,Nat.reduceEqDiff,f6],hlo,fun i y h1 hy=>?_⟩
   by_cases he:i=(a+b) / 2
   ·subst he; rw [hget] at hy; rw [← Option.some.inj hy]; exact hpv
   ·cases hlt2:A7m y x with
    | false=>rfl
    | true=>rw [A1u (ha _ _ _ _ (by omega) hget hy) hlt2] at hpv; cases hpv
 ·have hab':a=b:=by omega
  subst hab'
  have hp:=B0t ha x hlo hhi
  by_cases hla:a < l.length
  ·obtain ⟨g,o,kk,hia,hc,hcc⟩:=hs.at Tryz.underlying22 A6l (i:=a) (x:=A1b l[a]) (by simp [hla]) .i64
   have hy:=hcc 0 _ rfl
   simp only [Nat.add_zero] at hy
   have hget:l[a]?=some l[a]:=List.getElem?_eq_getElem hla
   by_cases hex:l[a]=x
   ·have hin:A8t l x=true:=A4k.2 (hp.1 (by rw [hget,hex]))
    simp only [↓Sh.dn,sx,Nat.reduceBEq,reduceCtorEq,Nat.reduceEqDiff,f0,f1,f6,f7,f8,A9a,hlt,hla,hia,hy,hex,decide_true,decide_false,hres,hin,forall_const,reduceCtorEq,false_implies,and_true,true_and]
    exact ⟨a,rfl,hbn,hp⟩
   ·have hin : A8t l x = false := by
      cases h : A8t l x with
      | false => rfl
      | true => have := hp.2 (A4k.1 h); rw [hget] at this; exact absurd (Option.some.inj this) hex
    obtain ⟨r, H1, hd, rfl, rfl⟩ := isNaNStr (H := H') (x := l[a])
    simp only [↓Sh.dn, sx, Nat.reduceBEq, reduceCtorEq, Nat.reduceEqDiff, f0, f1, f6, f7, f8, A9a, hlt, hla, hia, hy, hex, decide_true, decide_false, hres, hin, forall_const, reduceCtorEq, false_implies, and_true, true_and]
    refine ⟨_, _, hd, ?_⟩
    simp only [↓Sh.dn, sx, Nat.reduceBEq, reduceCtorEq, Nat.reduceEqDiff, f7, forall_const, reduceCtorEq, false_implies, and_true, true_and, hres]
    exact ⟨a, rfl, hbn, hp⟩
  ·have hin : A8t l x = false := by
     cases h : A8t l x with
     | false => rfl
     | true => have := hp.2 (A4k.1 h); rw [List.getElem?_eq_none (by omega)] at this; cases this
   simp only [↓Sh.dn, sx, Nat.reduceBEq, reduceCtorEq, Nat.reduceEqDiff, f0, f1, f6, f7, f8, A9a, hlt, hla, decide_true, decide_false, hres, hin, forall_const, reduceCtorEq, false_implies, and_true, true_and]
   exact ⟨a, rfl, hbn, hp⟩
end Go.Proofs.YtnoengaghabmjaaGreatDoor
/- What is wrong with a net of any kind, by the program. -/
namespace Go.Proofs.YtnoengaghabmjaaGreatDoor
open Go Go.Proofs Go.Proofs.Sh
theorem C2n {H:AH} {gg:Nat} {sg ar en:Value} {N:NetD} {s:ByteArray} (hb:NetBox H gg sg ar en N) (ha:Asc N.sigma) (hl:N.sigma.length≤1048576):
  Sh.Call Tryz.prog (knows 8) 123 [.string s,.pointer (some ⟨gg,0,some 0⟩)] H (fun r H'=>H'=H∧r=.bool (!A2j N s)):=by
 refine A3b rfl Tryz.func123 rfl (Nat.le_of_ble_eq_true rfl) ?_
 have hres:Tryz.f123.results.toList=[.tmp 3]:=rfl
 obtain ⟨r,H1,hd,rfl,k,rfl,_,_⟩:=A18 (x:=s) hb.hsg ha hl
 simp only [↓Sh.dn,sx,Nat.reduceBEq,reduceCtorEq,Nat.reduceEqDiff,hb.c0,hb.c1,hb.c2,hb.c3,hb.ca,A3a hb,A1a hb,A2a hb]
 refine ⟨_,_,hd,?_⟩
 simp only [↓Sh.dn,sx,Nat.reduceBEq,reduceCtorEq,Nat.reduceEqDiff,B0f]
 by_cases h:s=⟨#[]⟩
 ·simp only [↓Sh.dn,sx,Nat.reduceBEq,reduceCtorEq,Nat.reduceEqDiff,h,decide_true,hres,A2j]
 ·simp only [↓Sh.dn,sx,Nat.reduceBEq,reduceCtorEq,Nat.reduceEqDiff,h,decide_false,hres,A2j]
theorem C3h {H:AH} {v:Value} {N:NetD} (h:A8k H v N) (hsm:A4c N) (hw:Wf H):
  Sh.Call Tryz.prog (knows 8) 91 [v] H (fun r H'=>Kept H H'∧r=.int .i64 (A2g N)):=by
 refine A3b rfl Tryz.func91 rfl (Nat.le_of_ble_eq_true rfl) ?_
 have hres:Tryz.f91.results.toList=[.tmp 2]:=rfl
 obtain ⟨sg,ar,en,rfl,hsg,har,hen⟩:=h
 have hb1:=NetBox.of (N:=N) hw hsg har hen
 have hk1:Kept H (H.new 4 [sg,.int .i64 N.states,ar,en]).2:=Kept.new hw 4 _
 have eA:decide ((60000:Int) < (N.arcs.length:Int))=decide (60000 < N.arcs.length):=decide_eq_decide.2 (by omega)
 have eE:decide ((60000:Int) < (N.ends.length:Int))=decide (60000 < N.ends.length):=decide_eq_decide.2 (by omega)
 simp only [↓Sh.dn,sx,Nat.reduceBEq,reduceCtorEq,Nat.reduceEqDiff,A7k hsg.isCell har.isCell hen.isCell]
 generalize H.next=gg at hb1 ⊢
 generalize (H.new 4 [sg,.int .i64 N.states,ar,en]).2=H1 at hb1 hk1 ⊢
 simp only [↓Sh.dn,sx,Nat.reduceBEq,reduceCtorEq,Nat.reduceEqDiff,hb1.c0,hb1.c1,hb1.c2,hb1.c3,hb1.ca,A3a hb1,A1a hb1,A2a hb1]
 by_cases hA:3000 < N.states
 ·simp only [↓Sh.dn,sx,Nat.reduceBEq,reduceCtorEq,Nat.reduceEqDiff,hA,decide_true,hres,A2g,A4m,Bool.true_or,hk1]
 by_cases hB:60000 < N.arcs.length
 ·simp only [↓Sh.dn,sx,Nat.reduceBEq,reduceCtorEq,Nat.reduceEqDiff,hb1.c0,hb1.c1,hb1.c2,hb1.c3,hb1.ca,A3a hb1,A1a hb1,A2a hb1,hA,eA,hB,decide_true,decide_false,hres,A2g,A4m,Bool.true_or,Bool.or_true,hk1]
 by_cases hC:60000 < N.ends.length
 ·simp only [↓Sh.dn,sx,Nat.reduceBEq,reduceCtorEq,Nat.reduceEqDiff,hb1.c0,hb1.c1,hb1.c2,hb1.c3,hb1.ca,A3a hb1,A1a hb1,A2a hb1,hA,eA,eE,hB,hC,decide_true,decide_false,hres,A2g,A4m,Bool.true_or,Bool.or_true,hk1]
 have hT:A4m N=false:=by simp [A4m,hA,hB,hC]
 simp only [↓Sh.dn,sx,Nat.reduceBEq,reduceCtorEq,Nat.reduceEqDiff,hb1.c0,hb1.c1,hb1.c2,hb1.c3,hb1.ca,A3a hb1,A1a hb1,A2a hb1,hA,eA,eE,hB,hC,decide_true,decide_false,hres]
 obtain ⟨r,H2,hd,hk2,rfl⟩:=B5w hb1.hsg hsm.sg hsm.sx hk1.wf
 refine ⟨_,_,hd,?_⟩
 have hb2:=hb1.kept hk1.wf hk2
 have hk12:=hk1.trans hk2
 by_cases hS:A7i N.sigma=0
 case neg=>simp only [↓Sh.dn,sx,Nat.reduceBEq,reduceCtorEq,Nat.reduceEqDiff,hS,decide_false,hres,A2g,hT,Bool.false_eq_true,if_false,ne_eq,not_false_eq_true,if_true,hk12]
 have hasc:=A1z hS
 simp only [↓Sh.dn,sx,Nat.reduceBEq,reduceCtorEq,Nat.reduceEqDiff,hS,decide_true,hb2.c0,hb2.c1,hb2.c2,hb2.c3,hb2.ca,A3a hb2,A1a hb2,A2a hb2]
 by_cases hst:N.states < 1
 ·simp only [↓Sh.dn,sx,Nat.reduceBEq,reduceCtorEq,Nat.reduceEqDiff,hst,decide_true,hres,A2g,hT,hS,ne_eq,not_true_eq_false,if_false,if_true,hk12,Bool.false_eq_true]
 simp only [↓Sh.dn,sx,Nat.reduceBEq,reduceCtorEq,Nat.reduceEqDiff,hst,decide_false,hb2.c0,hb2.c1,hb2.c2,hb2.c3,hb2.ca,A3a hb2,A1a hb2,A2a hb2]
 have e1:N.arcs.any (A1i N)=true→A2g N=1:=by intro h; simp [A2g,hT,hS,hst,h]
 have e2:N.ends.any (A1p N)=true→A2g N=1:=by intro h; simp [A2g,hT,hS,hst,h]
 have e3:N.arcs.any (A1i N)=false→N.ends.any (A1p N)=false→A2g N=0:=by intro h h'; simp [A2g,hT,hS,hst,h,h']
 refine A0i N.arcs.length 37 (List.range' 37 41++[2,6]) (fun i F H'=>Kept H2 H'∧(N.arcs.take i).any (A1i N)=false) (by simp only [↓Sh.dn,sx,Nat.reduceBEq,reduceCtorEq,Nat.reduceEqDiff]) ⟨Kept.refl hk12.wf,rfl⟩ ?_ ?_
 ·rintro i F H' hlt hF f37 ⟨hk,hall⟩ k
  have f1:=hF 1 rfl
  have f4:=hF 4 rfl
  have f35:=hF 35 rfl
  have f36:=hF 36 rfl
  simp only [↓Sh.dn,sx,Nat.reduceBEq,reduceCtorEq,Nat.reduceEqDiff] at f1 f4 f35 f36
  have hb':=hb2.kept hk12.wf hk
  have hb3:=hb'.new hk.wf 5 (N.arcs[i].cells)
  have hk3:=hk.news 5 (N.arcs[i].cells)
  obtain ⟨g,o,kk,hia,hc,hcc⟩:=hb'.har.at Tryz.underlying23 A2l (i:=i) (x:=N.arcs[i].cells) (by simp [hlt]) .i64
  clear hcc
  have hin:N.arcs[i]∈N.arcs:=List.getElem_mem hlt
  have hnext:A1i N N.arcs[i]=false→(N.arcs.take (i+1)).any (A1i N)=false:=by
   intro h
   rw [List.take_add_one,List.getElem?_eq_getElem hlt]
   simp only [Option.toList,List.any_append,hall,List.any_cons,List.any_nil,h,Bool.or_false]
  have hbad:A1i N N.arcs[i]=true→A2g N=1:=fun h=>e1 (List.any_eq_true.2 ⟨_,hin,h⟩)
  generalize N.arcs[i]=a at hb3 hk3 hc hnext hbad
  simp only [↓Sh.dn,sx,Nat.reduceBEq,reduceCtorEq,Nat.reduceEqDiff,hb'.c0,hb'.c1,hb'.c2,hb'.c3,hb'.ca,A3a hb',A1a hb',A2a hb',A1c,A9c,A7c,A9e,A0f,A5b,A6b,A0d,A8c,A3c,arc0,arc1,arc2,arc3,arc4,end0,end1,f1,f35,f36,f37,Option.map_some,A9a,hlt,decide_true,hia,hc,hres]
  by_cases h1:a.fr < 0
  ·simp only [↓Sh.dn,sx,Nat.reduceBEq,reduceCtorEq,Nat.reduceEqDiff,hb3.c0,hb3.c1,hb3.c2,hb3.c3,hb3.ca,A3a hb3,A1a hb3,A2a hb3,A1c,A9c,A7c,A9e,A0f,A5b,A6b,A0d,A8c,A3c,arc0,arc1,arc2,arc3,arc4,end0,end1,h1,decide_true,hres,hbad (by simp [A1i,h1]),hk12.trans hk3]
  simp only [↓Sh.dn,sx,Nat.reduceBEq,reduceCtorEq,Nat.reduceEqDiff,hb3.c0,hb3.c1,hb3.c2,hb3.c3,hb3.ca,A3a hb3,A1a hb3,A2a hb3,A1c,A9c,A7c,A9e,A0f,A5b,A6b,A0d,A8c,A3c,arc0,arc1,arc2,arc3,arc4,end0,end1,f1,h1,decide_false]
  by_cases h2:N.states≤a.fr
  ·simp only [↓Sh.dn,sx,Nat.reduceBEq,reduceCtorEq,Nat.reduceEqDiff,hb3.c0,hb3.c1,hb3.c2,hb3.c3,hb3.ca,A3a hb3,A1a hb3,A2a hb3,A1c,A9c,A7c,A9e,A0f,A5b,A6b,A0d,A8c,A3c,arc0,arc1,arc2,arc3,arc4,end0,end1,h2,decide_true,hres,hbad (by simp [A1i,h2]),hk12.trans hk3]
  simp only [↓Sh.dn,sx,Nat.reduceBEq,reduceCtorEq,Nat.reduceEqDiff,hb3.c0,hb3.c1,hb3.c2,hb3.c3,hb3.ca,A3a hb3,A1a hb3,A2a hb3,A1c,A9c,A7c,A9e,A0f,A5b,A6b,A0d,A8c,A3c,arc0,arc1,arc2,arc3,arc4,end0,end1,f1,h2,decide_false]
  by_cases h3:a.to < 0
  ·simp only [↓Sh.dn,sx,Nat.reduceBEq,reduceCtorEq,Nat.reduceEqDiff,hb3.c0,hb3.c1,hb3.c2,hb3.c3,hb3.ca,A3a hb3,A1a hb3,A2a hb3,A1c,A9c,A7c,A9e,A0f,A5b,A6b,A0d,A8c,A3c,arc0,arc1,arc2,arc3,arc4,end0,end1,h3,decide_true,hres,hbad (by simp [A1i,h3]),hk12.trans hk3]
  simp only [↓Sh.dn,sx,Nat.reduceBEq,reduceCtorEq,Nat.reduceEqDiff,hb3.c0,hb3.c1,hb3.c2,hb3.c3,hb3.ca,A3a hb3,A1a hb3,A2a hb3,A1c,A9c,A7c,A9e,A0f,A5b,A6b,A0d,A8c,A3c,arc0,arc1,arc2,arc3,arc4,end0,end1,f1,h3,decide_false]
  by_cases h4:N.states≤a.to
  ·simp only [↓Sh.dn,sx,Nat.reduceBEq,reduceCtorEq,Nat.reduceEqDiff,hb3.c0,hb3.c1,hb3.c2,hb3.c3,hb3.ca,A3a hb3,A1a hb3,A2a hb3,A1c,A9c,A7c,A9e,A0f,A5b,A6b,A0d,A8c,A3c,arc0,arc1,arc2,arc3,arc4,end0,end1,h4,decide_true,hres,hbad (by simp [A1i,h4]),hk12.trans hk3]
  obtain ⟨r,H4,hd4,rfl,rfl⟩:=C2n (s:=a.inn) hb3 hasc hsm.sg
  simp only [↓Sh.dn,sx,Nat.reduceBEq,reduceCtorEq,Nat.reduceEqDiff,hb3.c0,hb3.c1,hb3.c2,hb3.c3,hb3.ca,A3a hb3,A1a hb3,A2a hb3,A1c,A9c,A7c,A9e,A0f,A5b,A6b,A0d,A8c,A3c,arc0,arc1,arc2,arc3,arc4,end0,end1,f1,f4,h4,decide_false]
  refine ⟨_,_,hd4,?_⟩
  have hb4:=hb3
  cases hI:A2j N a.inn with
  | true=>simp only [↓Sh.dn,sx,Nat.reduceBEq,reduceCtorEq,Nat.reduceEqDiff,hres,hbad (by simp [A1i,hI]),hk12.trans hk3]
  | false=>
   obtain ⟨r,H5,hd5,rfl,rfl⟩:=C2n (s:=a.out) hb3 hasc hsm.sg
   simp only [↓Sh.dn,sx,Nat.reduceBEq,reduceCtorEq,Nat.reduceEqDiff,hb3.c0,hb3.c1,hb3.c2,hb3.c3,hb3.ca,A3a hb3,A1a hb3,A2a hb3,A1c,A9c,A7c,A9e,A0f,A5b,A6b,A0d,A8c,A3c,arc0,arc1,arc2,arc3,arc4,end0,end1,f1,f4]
   refine ⟨_,_,hd5,?_⟩
   cases hO:A2j N a.out with
   | true=>simp only [↓Sh.dn,sx,Nat.reduceBEq,reduceCtorEq,Nat.reduceEqDiff,hres,hbad (by simp [A1i,hO]),hk12.trans hk3]
   | false=>
    simp only [↓Sh.dn,sx,Nat.reduceBEq,reduceCtorEq,Nat.reduceEqDiff,f37,wrap_succ hlt hsm.ar]
    exact k _ _ (by repeat (first | refine Same.put ?_ rfl | exact Same.rfl' _)) (by simp only [↓Sh.dn,sx,Nat.reduceBEq,reduceCtorEq,Nat.reduceEqDiff]) ⟨hk3,hnext (by simp [A1i,h1,h2,h3,h4,hI,hO])⟩
 ·rintro F H' hF f37 ⟨hk,hall⟩
  have f1:=hF 1 rfl
  have f36:=hF 36 rfl
  simp only [↓Sh.dn,sx,Nat.reduceBEq,reduceCtorEq,Nat.reduceEqDiff] at f1 f36
  rw [List.take_length] at hall
  have hb':=hb2.kept hk12.wf hk
  simp only [↓Sh.dn,sx,Nat.reduceBEq,reduceCtorEq,Nat.reduceEqDiff,hb'.c0,hb'.c1,hb'.c2,hb'.c3,hb'.ca,A3a hb',A1a hb',A2a hb',f1,f36,f37,A9a,Nat.lt_irrefl,decide_false]
  refine A0i N.ends.length 81 (List.range' 81 15++[2,8]) (fun i F H''=>Kept H' H''∧(N.ends.take i).any (A1p N)=false) (by simp only [↓Sh.dn,sx,Nat.reduceBEq,reduceCtorEq,Nat.reduceEqDiff]) ⟨Kept.refl hk.wf,rfl⟩ ?_ ?_
  ·rintro i F2 H'' hlt hF2 f81 ⟨hk2',hall2⟩ k
   have g1:=hF2 1 rfl
   have g79:=hF2 79 rfl
   have g80:=hF2 80 rfl
   simp only [↓Sh.dn,sx,Nat.reduceBEq,reduceCtorEq,Nat.reduceEqDiff,f1] at g1 g79 g80
   have hbx:=hb'.kept hk.wf hk2'
   have hb3:=hbx.new hk2'.wf 2 (N.ends[i].cells)
   have hk3:=hk2'.news 2 (N.ends[i].cells)
   have hkk:=(hk12.trans hk).trans hk3
   obtain ⟨g,o,kk,hia,hc,hcc⟩:=hbx.hen.at Tryz.underlying24 A9q (i:=i) (x:=N.ends[i].cells) (by simp [hlt]) .i64
   clear hcc
   have hbad:A1p N N.ends[i]=true→A2g N=1:=fun h=>e2 (List.any_eq_true.2 ⟨_,List.getElem_mem hlt,h⟩)
   simp only [↓Sh.dn,sx,Nat.reduceBEq,reduceCtorEq,Nat.reduceEqDiff,hbx.c0,hbx.c1,hbx.c2,hbx.c3,hbx.ca,A3a hbx,A1a hbx,A2a hbx,A1c,A9c,A7c,A9e,A0f,A5b,A6b,A0d,A8c,A3c,arc0,arc1,arc2,arc3,arc4,end0,end1,g1,g79,g80,f81,A9a,hlt,decide_true,hia,hc,Option.map_some]
   by_cases h1:N.ends[i].state < 0
   ·simp only [↓Sh.dn,sx,Nat.reduceBEq,reduceCtorEq,Nat.reduceEqDiff,hb3.c0,hb3.c1,hb3.c2,hb3.c3,hb3.ca,A3a hb3,A1a hb3,A2a hb3,A1c,A9c,A7c,A9e,A0f,A5b,A6b,A0d,A8c,A3c,arc0,arc1,arc2,arc3,arc4,end0,end1,h1,decide_true,hres,hbad (by simp [A1p,h1]),hkk]
   simp only [↓Sh.dn,sx,Nat.reduceBEq,reduceCtorEq,Nat.reduceEqDiff,hb3.c0,hb3.c1,hb3.c2,hb3.c3,hb3.ca,A3a hb3,A1a hb3,A2a hb3,A1c,A9c,A7c,A9e,A0f,A5b,A6b,A0d,A8c,A3c,arc0,arc1,arc2,arc3,arc4,end0,end1,g1,f81,h1,decide_false]
   by_cases h2:N.states≤N.ends[i].state
   ·simp only [↓Sh.dn,sx,Nat.reduceBEq,reduceCtorEq,Nat.reduceEqDiff,h2,decide_true,hres,hbad (by simp [A1p,h2]),hkk]
   simp only [↓Sh.dn,sx,Nat.reduceBEq,reduceCtorEq,Nat.reduceEqDiff,f81,h2,decide_false,wrap_succ hlt hsm.en]
   refine k _ _ (by repeat (first | refine Same.put ?_ rfl | exact Same.rfl' _)) (by simp only [↓Sh.dn,sx,Nat.reduceBEq,reduceCtorEq,Nat.reduceEqDiff]) ⟨hk3,?_⟩
   rw [List.take_add_one,List.getElem?_eq_getElem hlt]
   simp only [Option.toList,List.any_append,hall2,List.any_cons,List.any_nil,Bool.or_false,A1p,h1,h2,decide_false]
  ·rintro F2 H'' hF2 f81 ⟨hk2',hall2⟩
   have g80:=hF2 80 rfl
   simp only [↓Sh.dn,sx,Nat.reduceBEq,reduceCtorEq,Nat.reduceEqDiff] at g80
   rw [List.take_length] at hall2
   simp only [↓Sh.dn,sx,Nat.reduceBEq,reduceCtorEq,Nat.reduceEqDiff,g80,f81,A9a,Nat.lt_irrefl,decide_false,hres,e3 hall hall2,(hk12.trans hk).trans hk2']
end Go.Proofs.YtnoengaghabmjaaGreatDoor
/- Whether a net has a cost out of bounds. -/
namespace Go.Proofs.YtnoengaghabmjaaGreatDoor
open Go Go.Proofs Go.Proofs.Sh
def A7x (N:NetD) (m:Int):Bool:=N.arcs.any (fun a=>decide (a.cost < 0) || decide (m < a.cost)) || N.ends.any (fun a=>decide (a.cost < 0) || decide (m < a.cost))
theorem priced {H:AH} {v:Value} {N:NetD} {m:Int} (h:A8k H v N) (hsm:A4c N) (hw:Wf H):
  Sh.Call Tryz.prog (knows 8) 92 [v,.int .i64 m] H (fun r H'=>Kept H H'∧r=.bool (A7x N m)):=by
 refine A3b rfl Tryz.func92 rfl (Nat.le_of_ble_eq_true rfl) ?_
 have hres:Tryz.f92.results.toList=[.tmp 4]:=rfl
 obtain ⟨sg,ar,en,rfl,hsg,har,hen⟩:=h
 have hb1:=NetBox.of (N:=N) hw hsg har hen
 have hk1:Kept H (H.new 4 [sg,.int .i64 N.states,ar,en]).2:=Kept.new hw 4 _
 simp only [↓Sh.dn,sx,Nat.reduceBEq,reduceCtorEq,Nat.reduceEqDiff,A7k hsg.isCell har.isCell hen.isCell]
 generalize H.next=gg at hb1 ⊢
 generalize (H.new 4 [sg,.int .i64 N.states,ar,en]).2=H1 at hb1 hk1 ⊢
 simp only [↓Sh.dn,sx,Nat.reduceBEq,reduceCtorEq,Nat.reduceEqDiff,hb1.c0,hb1.c1,hb1.c2,hb1.c3,hb1.ca,A3a hb1,A1a hb1,A2a hb1]
 refine A0i N.arcs.length 12 (List.range' 12 14++[4,6]) (fun i F H'=>Kept H1 H'∧(N.arcs.take i).any (fun a=>decide (a.cost < 0) || decide (m < a.cost))=false) (by simp only [↓Sh.dn,sx,Nat.reduceBEq,reduceCtorEq,Nat.reduceEqDiff]) ⟨Kept.refl hk1.wf,rfl⟩ ?_ ?_
 ·rintro i F H' hlt hF f12 ⟨hk,hall⟩ k
  have f1:=hF 1 rfl
  have f10:=hF 10 rfl
  have f11:=hF 11 rfl
  simp only [↓Sh.dn,sx,Nat.reduceBEq,reduceCtorEq,Nat.reduceEqDiff] at f1 f10 f11
  have hb':=hb1.kept hk1.wf hk
  have hb3:=hb'.new hk.wf 5 (N.arcs[i].cells)
  have hk3:=hk.news 5 (N.arcs[i].cells)
  obtain ⟨g,o,kk,hia,hc,hcc⟩:=hb'.har.at Tryz.underlying23 A2l (i:=i) (x:=N.arcs[i].cells) (by simp [hlt]) .i64
  clear hcc
  have hbad:(decide (N.arcs[i].cost < 0) || decide (m < N.arcs[i].cost))=true→A7x N m=true:=fun h=>by
   rw [A7x,List.any_eq_true.2 ⟨_,List.getElem_mem hlt,h⟩]; rfl
  simp only [↓Sh.dn,sx,Nat.reduceBEq,reduceCtorEq,Nat.reduceEqDiff,hb'.c0,hb'.c1,hb'.c2,hb'.c3,hb'.ca,A3a hb',A1a hb',A2a hb',A1c,A9c,A7c,A9e,A0f,A5b,A6b,A0d,A8c,A3c,arc0,arc1,arc2,arc3,arc4,end0,end1,f1,f10,f11,f12,Option.map_some,A9a,hlt,decide_true,hia,hc,hres]
  by_cases h1:N.arcs[i].cost < 0
  ·simp only [↓Sh.dn,sx,Nat.reduceBEq,reduceCtorEq,Nat.reduceEqDiff,h1,decide_true,hres,hbad (by simp [h1]),hk1.trans hk3]
  simp only [↓Sh.dn,sx,Nat.reduceBEq,reduceCtorEq,Nat.reduceEqDiff,A1c,A9c,A7c,A9e,A0f,A5b,A6b,A0d,A8c,A3c,arc0,arc1,arc2,arc3,arc4,end0,end1,f1,h1,decide_false]
  by_cases h2:m < N.arcs[i].cost
  ·simp only [↓Sh.dn,sx,Nat.reduceBEq,reduceCtorEq,Nat.reduceEqDiff,h2,decide_true,hres,hbad (by simp [h2]),hk1.trans hk3]
  simp only [↓Sh.dn,sx,Nat.reduceBEq,reduceCtorEq,Nat.reduceEqDiff,f12,h2,decide_false,wrap_succ hlt hsm.ar]
  refine k _ _ (by repeat (first | refine Same.put ?_ rfl | exact Same.rfl' _)) (by simp only [↓Sh.dn,sx,Nat.reduceBEq,reduceCtorEq,Nat.reduceEqDiff]) ⟨hk3,?_⟩
  rw [List.take_add_one,List.getElem?_eq_getElem hlt]
  simp only [Option.toList,List.any_append,hall,List.any_cons,List.any_nil,Bool.or_false,h1,h2,decide_false]
 ·rintro F H' hF f12 ⟨hk,hall⟩
  have f2:=hF 2 rfl
  have f11:=hF 11 rfl
  simp only [↓Sh.dn,sx,Nat.reduceBEq,reduceCtorEq,Nat.reduceEqDiff] at f2 f11
  rw [List.take_length] at hall
  have hb':=hb1.kept hk1.wf hk
  simp only [↓Sh.dn,sx,Nat.reduceBEq,reduceCtorEq,Nat.reduceEqDiff,hb'.c0,hb'.c1,hb'.c2,hb'.c3,hb'.ca,A3a hb',A1a hb',A2a hb',f2,f11,f12,A9a,Nat.lt_irrefl,decide_false]
  refine A0i N.ends.length 29 (List.range' 29 14++[4,8]) (fun i F H''=>Kept H' H''∧(N.ends.take i).any (fun a=>decide (a.cost < 0) || decide (m < a.cost))=false) (by simp only [↓Sh.dn,sx,Nat.reduceBEq,reduceCtorEq,Nat.reduceEqDiff]) ⟨Kept.refl hk.wf,rfl⟩ ?_ ?_
  ·rintro i F2 H'' hlt hF2 f29 ⟨hk2',hall2⟩ k
   have g1:=hF2 1 rfl
   have h1':=hF 1 rfl
   have g27:=hF2 27 rfl
   have g28:=hF2 28 rfl
   simp only [↓Sh.dn,sx,Nat.reduceBEq,reduceCtorEq,Nat.reduceEqDiff] at g1 g27 g28 h1'
   have hbx:=hb'.kept hk.wf hk2'
   have hb3:=hbx.new hk2'.wf 2 (N.ends[i].cells)
   have hk3:=hk2'.news 2 (N.ends[i].cells)
   have hkk:=(hk1.trans hk).trans hk3
   obtain ⟨g,o,kk,hia,hc,hcc⟩:=hbx.hen.at Tryz.underlying24 A9q (i:=i) (x:=N.ends[i].cells) (by simp [hlt]) .i64
   clear hcc
   have hbad:(decide (N.ends[i].cost < 0) || decide (m < N.ends[i].cost))=true→A7x N m=true:=fun h=>by
    rw [A7x,List.any_eq_true.2 ⟨_,List.getElem_mem hlt,h⟩,Bool.or_true]
   simp only [↓Sh.dn,sx,Nat.reduceBEq,reduceCtorEq,Nat.reduceEqDiff,hbx.c0,hbx.c1,hbx.c2,hbx.c3,hbx.ca,A3a hbx,A1a hbx,A2a hbx,A1c,A9c,A7c,A9e,A0f,A5b,A6b,A0d,A8c,A3c,arc0,arc1,arc2,arc3,arc4,end0,end1,g1,h1',g27,g28,f29,A9a,hlt,decide_true,hia,hc,Option.map_some]
   by_cases h1:N.ends[i].cost < 0
   ·simp only [↓Sh.dn,sx,Nat.reduceBEq,reduceCtorEq,Nat.reduceEqDiff,h1,decide_true,hres,hbad (by simp [h1]),hkk]
   simp only [↓Sh.dn,sx,Nat.reduceBEq,reduceCtorEq,Nat.reduceEqDiff,A1c,A9c,A7c,A9e,A0f,A5b,A6b,A0d,A8c,A3c,arc0,arc1,arc2,arc3,arc4,end0,end1,g1,h1',f29,h1,decide_false]
   by_cases h2:m < N.ends[i].cost
   ·simp only [↓Sh.dn,sx,Nat.reduceBEq,reduceCtorEq,Nat.reduceEqDiff,h2,decide_true,hres,hbad (by simp [h2]),hkk]
   simp only [↓Sh.dn,sx,Nat.reduceBEq,reduceCtorEq,Nat.reduceEqDiff,f29,h2,decide_false,wrap_succ hlt hsm.en]
   refine k _ _ (by repeat (first | refine Same.put ?_ rfl | exact Same.rfl' _)) (by simp only [↓Sh.dn,sx,Nat.reduceBEq,reduceCtorEq,Nat.reduceEqDiff]) ⟨hk3,?_⟩
   rw [List.take_add_one,List.getElem?_eq_getElem hlt]
   simp only [Option.toList,List.any_append,hall2,List.any_cons,List.any_nil,Bool.or_false,h1,h2,decide_false]
  ·rintro F2 H'' hF2 f29 ⟨hk2',hall2⟩
   have g28:=hF2 28 rfl
   simp only [↓Sh.dn,sx,Nat.reduceBEq,reduceCtorEq,Nat.reduceEqDiff] at g28
   rw [List.take_length] at hall2
   simp only [↓Sh.dn,sx,Nat.reduceBEq,reduceCtorEq,Nat.reduceEqDiff,g28,f29,A9a,Nat.lt_irrefl,decide_false,hres,A7x,hall,hall2,(hk1.trans hk).trans hk2']
end Go.Proofs.YtnoengaghabmjaaGreatDoor
/- Whether nothing of a net costs. -/
namespace Go.Proofs.YtnoengaghabmjaaGreatDoor
open Go Go.Proofs Go.Proofs.Sh
def NetD.free (N:NetD):Bool:=N.arcs.all (fun a=>decide (a.cost=0)) && N.ends.all (fun a=>decide (a.cost=0))
theorem isFree {H:AH} {v:Value} {N:NetD} (h:A8k H v N) (hw:Wf H) (hl:N.arcs.length≤1048576) (hl2:N.ends.length≤1048576):Sh.Call Tryz.prog (knows 8) 50 [v] H (fun r H'=>r=.bool (NetD.free N)∧Kept H H'):=by
 obtain ⟨sg,ar,en,rfl,hsg,har,hen⟩:=h
 refine A3b rfl Tryz.func50 rfl (Nat.le_of_ble_eq_true rfl) ?_
 have hn:=A4n (P:=Tryz.prog) (H:=H) (t:=26) (vs:=[sg,.int .i64 N.states,ar,en]) A6o rfl (by simp [hsg.isCell,har.isCell,hen.isCell,show isCell (.int .i64 N.states)=true from rfl])
 have hO:=Obj.new (H:=H) 4 [sg,.int .i64 N.states,ar,en]
 have hk:Kept H (H.new 4 [sg,.int .i64 N.states,ar,en]).2:=Kept.new hw 4 _
 simp only [↓Sh.dn,sx,Nat.reduceBEq,reduceCtorEq,Nat.reduceEqDiff,↓Sh.wp_cond,hn]
 generalize (H.new 4 [sg,.int .i64 N.states,ar,en]).2=H1 at hO hk ⊢
 have c2:H1.cell ⟨H.next,2,some 0⟩=some ar:=hO.cell
 have c3:H1.cell ⟨H.next,3,some 0⟩=some en:=hO.cell
 have har1:=har.grow (hk.grow hw)
 have hen1:=hen.grow (hk.grow hw)
 have l2:=har1.len Tryz.underlying23 H1
 have l3:=hen1.len Tryz.underlying24 H1
 have hres:Tryz.f50.results.toList=[.tmp 2]:=rfl
 refine A30 N.arcs.length (fun i F H'=>H'=H1∧F.get 1=some (.pointer (some ⟨H.next,0,some 0⟩))∧F.get 3=some (.int .i64 (i:Int))∧(N.arcs.take i).all (fun a=>decide (a.cost=0))=true) (Nat.zero_le _) ⟨rfl,by simp only [↓Sh.dn,sx,Nat.reduceBEq,reduceCtorEq,Nat.reduceEqDiff,↓Sh.wp_cond],by simp only [↓Sh.dn,sx,Nat.reduceBEq,reduceCtorEq,Nat.reduceEqDiff,↓Sh.wp_cond]; rfl,rfl⟩ ?_
 rintro i F H' hi ⟨rfl,f1,f3,hall⟩ k
 by_cases hlt:i < N.arcs.length
 ·have hx:(N.arcs.map ArcD.cells)[i]?=some (N.arcs[i].cells):=by simp [hlt]
  obtain ⟨g,o,kk,hia,hc,hcc⟩:=har1.at Tryz.underlying23 A2l hx .i64
  have hcost:=hcc 4 _ rfl
  simp only [↓Sh.dn,sx,Nat.reduceBEq,reduceCtorEq,Nat.reduceEqDiff,↓Sh.wp_cond,f1,f3,c2,l2,hia,hcost,List.length_map,A9a,hlt,decide_true,forall_const,reduceCtorEq,false_implies,and_true,true_and,hres,resultsA,one]
  refine ⟨fun hne=>⟨?_,hk⟩,fun he=>k _ _ hlt ⟨rfl,by simp only [↓Sh.dn,sx,Nat.reduceBEq,reduceCtorEq,Nat.reduceEqDiff,↓Sh.wp_cond,f1],by simp only [↓Sh.dn,sx,Nat.reduceBEq,reduceCtorEq,Nat.reduceEqDiff,↓Sh.wp_cond,wrap_succ hlt hl],?_⟩⟩
  ·have : NetD.free N = false := by
     simp only [NetD.free, Bool.and_eq_false_iff, List.all_eq_false]
     exact .inl ⟨_, List.getElem_mem hlt, by simpa using hne⟩
   rw [this]
  ·rw [List.take_add_one,List.getElem?_eq_getElem hlt]
   simp only [Option.toList,List.all_append,hall,Bool.true_and,List.all_cons,List.all_nil,Bool.and_true]
   simpa using he
 ·have hin:i=N.arcs.length:=by omega
  subst hin
  rw [List.take_length] at hall
  simp only [↓Sh.dn,sx,Nat.reduceBEq,reduceCtorEq,Nat.reduceEqDiff,↓Sh.wp_cond,f1,f3,c2,l2,List.length_map,A9a,hlt,decide_false,forall_const,reduceCtorEq,false_implies,and_true,true_and]
  refine A30 N.ends.length (fun i F H''=>H''=H'∧F.get 1=some (.pointer (some ⟨H.next,0,some 0⟩))∧F.get 4=some (.int .i64 (i:Int))∧(N.ends.take i).all (fun a=>decide (a.cost=0))=true) (Nat.zero_le _) ⟨rfl,by simp only [↓Sh.dn,sx,Nat.reduceBEq,reduceCtorEq,Nat.reduceEqDiff,↓Sh.wp_cond,f1],by simp only [↓Sh.dn,sx,Nat.reduceBEq,reduceCtorEq,Nat.reduceEqDiff,↓Sh.wp_cond]; rfl,rfl⟩ ?_
  clear k
  rintro i F H'' hi ⟨rfl,f1,f4,hall2⟩ k
  by_cases hlt2:i < N.ends.length
  ·have hx:(N.ends.map EndD.cells)[i]?=some (N.ends[i].cells):=by simp [hlt2]
   obtain ⟨g,o,kk,hia,hc,hcc⟩:=hen1.at Tryz.underlying24 A9q hx .i64
   have hcost:=hcc 1 _ rfl
   simp only [↓Sh.dn,sx,Nat.reduceBEq,reduceCtorEq,Nat.reduceEqDiff,↓Sh.wp_cond,f1,f4,c3,l3,hia,hcost,List.length_map,A9a,hlt2,decide_true,forall_const,reduceCtorEq,false_implies,and_true,true_and,hres,resultsA,one]
   refine ⟨fun hne=>⟨?_,hk⟩,fun he=>k _ _ hlt2 ⟨rfl,by simp only [↓Sh.dn,sx,Nat.reduceBEq,reduceCtorEq,Nat.reduceEqDiff,↓Sh.wp_cond,f1],by simp only [↓Sh.dn,sx,Nat.reduceBEq,reduceCtorEq,Nat.reduceEqDiff,↓Sh.wp_cond,wrap_succ hlt2 hl2],?_⟩⟩
   ·have : NetD.free N = false := by
      simp only [NetD.free, Bool.and_eq_false_iff, List.all_eq_false]
      exact .inr ⟨_, List.getElem_mem hlt2, by simpa using hne⟩
    rw [this]
   ·rw [List.take_add_one,List.getElem?_eq_getElem hlt2]
    simp only [Option.toList,List.all_append,hall2,Bool.true_and,List.all_cons,List.all_nil,Bool.and_true]
    simpa using he
  ·have hin:i=N.ends.length:=by omega
   subst hin
   rw [List.take_length] at hall2
   simp only [↓Sh.dn,sx,Nat.reduceBEq,reduceCtorEq,Nat.reduceEqDiff,↓Sh.wp_cond,f1,f4,c3,l3,List.length_map,A9a,hlt2,decide_false,forall_const,reduceCtorEq,false_implies,and_true,true_and,hres,resultsA,one]
   refine ⟨?_,hk⟩
   rw [NetD.free,hall,hall2]
   rfl
end Go.Proofs.YtnoengaghabmjaaGreatDoor
/- What is wrong with an acceptor, by the reference. -/
namespace Go.Proofs.YtnoengaghabmjaaGreatDoor
open Go Go.Proofs Go.Proofs.Sh
end Go.Proofs.YtnoengaghabmjaaGreatDoor
/- What a net is with which nothing is wrong. -/
namespace Go.Proofs.YtnoengaghabmjaaGreatDoor
open Go Go.Proofs Go.Proofs.Sh
structure A5j (N:NetD):Prop where
 st1:1≤N.states
 st2:N.states≤3000
 ar:N.arcs.length≤60000
 en:N.ends.length≤60000
 sig:A7i N.sigma=0
 asc:Asc N.sigma
 sym:∀ x∈N.sigma,A7w x=true
 arc:∀ a∈N.arcs,0≤a.fr∧a.fr < N.states∧0≤a.to∧a.to < N.states∧(a.inn=⟨#[]⟩∨a.inn∈N.sigma)∧(a.out=⟨#[]⟩∨a.out∈N.sigma)
 fin:∀ e∈N.ends,0≤e.state∧e.state < N.states
theorem netOk {N:NetD} (h:A2g N=0):A5j N:=by
 unfold A2g at h
 split at h
 ·cases h
 rename_i h1
 split at h
 ·rename_i h2; exact absurd h h2
 rename_i h2
 split at h
 ·cases h
 rename_i h3
 split at h
 ·cases h
 rename_i h4
 split at h
 ·cases h
 rename_i h5
 simp only [ne_eq,Decidable.not_not] at h2
 simp only [A4m,Bool.or_eq_true,decide_eq_true_eq,not_or,Int.not_lt,Nat.not_lt] at h1 h3
 have sy:∀ x,A2j N x=false→x=⟨#[]⟩∨x∈N.sigma:=by
  intro x hx
  simp only [A2j,Bool.and_eq_false_iff,Bool.not_eq_false',decide_eq_true_eq] at hx
  rcases hx with h | h
  ·exact .inl h
  ·exact .inr (A4k.1 h)
 have hsym:∀ x∈N.sigma,A7w x=true:=by
  have:=h2
  unfold A7i at this
  split at this
  ·cases this
  split at this
  ·rename_i h6
   rw [Bool.and_eq_true] at h6
   exact List.all_eq_true.1 h6.1
  ·cases this
 refine ⟨h3,h1.1.1,h1.1.2,h1.2,h2,A1z h2,hsym,fun a ha=>?_,fun e he=>?_⟩
 ·have:¬(A1i N a=true):=fun hb=>h4 (List.any_eq_true.2 ⟨a,ha,hb⟩)
  simp only [A1i,Bool.or_eq_true,decide_eq_true_eq,not_or,Int.not_lt,Int.not_le,Bool.not_eq_true] at this
  obtain ⟨⟨⟨⟨⟨k1,k2⟩,k3⟩,k4⟩,k5⟩,k6⟩:=this
  exact ⟨k1,k2,k3,k4,sy _ k5,sy _ k6⟩
 ·have:¬(A1p N e=true):=fun hb=>h5 (List.any_eq_true.2 ⟨e,he,hb⟩)
  simp only [A1p,Bool.or_eq_true,decide_eq_true_eq,not_or,Int.not_lt,Int.not_le] at this
  exact this
end Go.Proofs.YtnoengaghabmjaaGreatDoor
/- What is wrong with a relation, by both. -/
namespace Go.Proofs.YtnoengaghabmjaaGreatDoor
open Go Go.Proofs Go.Proofs.Sh
def A5h (N:NetD):Int:=if A2g N≠0 then A2g N else if NetD.free N=true then 0 else 6
theorem A3i {N:NetD} (h:A5h N=0):A5j N∧A2g N=0∧NetD.free N=true:=by
 unfold A5h at h
 split at h
 ·rename_i h1; exact absurd h h1
 ·rename_i h1
  split at h
  ·rename_i h2
   exact ⟨netOk (by simpa using h1),by simpa using h1,h2⟩
  ·cases h
theorem B5d (N:NetD):A7x N 0=!NetD.free N:=by
 unfold A7x NetD.free
 rw [Bool.not_and,List.not_all_eq_any_not,List.not_all_eq_any_not]
 have e:∀ c:Int,(decide (c < 0) || decide (0 < c))=!decide (c=0):=fun c=>by
  by_cases h:c=0
  ·subst h; rfl
  ·rw [decide_eq_false h,Bool.not_false,Bool.or_eq_true,decide_eq_true_eq,decide_eq_true_eq]; omega
 simp only [e]
theorem B93 {H:AH} {v:Value} {N:NetD} (h:A8k H v N) (hsm:A4c N) (hw:Wf H):
  Sh.Call Tryz.prog (knows 8) 61 [v] H (fun r H'=>Kept H H'∧r=.int .i64 (A5h N)):=by
 refine A3b rfl Tryz.func61 rfl (Nat.le_of_ble_eq_true rfl) ?_
 have hres:Tryz.f61.results.toList=[.tmp 2]:=rfl
 obtain ⟨sg,ar,en,rfl,hsg,har,hen⟩:=h
 have hb1:=NetBox.of (N:=N) hw hsg har hen
 have hk1:Kept H (H.new 4 [sg,.int .i64 N.states,ar,en]).2:=Kept.new hw 4 _
 simp only [↓Sh.dn,sx,Nat.reduceBEq,reduceCtorEq,Nat.reduceEqDiff,A7k hsg.isCell har.isCell hen.isCell]
 generalize H.next=gg at hb1 ⊢
 generalize (H.new 4 [sg,.int .i64 N.states,ar,en]).2=H1 at hb1 hk1 ⊢
 simp only [↓Sh.dn,sx,Nat.reduceBEq,reduceCtorEq,Nat.reduceEqDiff,hb1.c0,hb1.c1,hb1.c2,hb1.c3,hb1.ca,A3a hb1,A1a hb1,A2a hb1,Option.map_some]
 obtain ⟨r,H2,hd,hk2,rfl⟩:=C3h hb1.netAt hsm hk1.wf
 refine ⟨_,_,hd,?_⟩
 have hb2:=hb1.kept hk1.wf hk2
 have hk12:=hk1.trans hk2
 by_cases hE:A2g N=0
 case neg=>simp only [↓Sh.dn,sx,Nat.reduceBEq,reduceCtorEq,Nat.reduceEqDiff,hE,decide_false,hres,A5h,hk12]
 simp only [↓Sh.dn,sx,Nat.reduceBEq,reduceCtorEq,Nat.reduceEqDiff,hE,decide_true,hb2.c0,hb2.c1,hb2.c2,hb2.c3,hb2.ca,A3a hb2,A1a hb2,A2a hb2,Option.map_some]
 obtain ⟨r,H4,hd4,hk4,rfl⟩:=priced (m:=0) hb2.netAt hsm hk12.wf
 refine ⟨_,_,hd4,?_⟩
 cases hp:NetD.free N with
 | true=>simp only [↓Sh.dn,sx,Nat.reduceBEq,reduceCtorEq,Nat.reduceEqDiff,hres,A5h,hE,hp,B5d,hk12.trans hk4]
 | false=>simp only [↓Sh.dn,sx,Nat.reduceBEq,reduceCtorEq,Nat.reduceEqDiff,hres,A5h,hE,hp,B5d,hk12.trans hk4]
theorem B2b {H:AH} {v:Value} {N:NetD} (h:A8k H v N) (hsm:A4c N) (hw:Wf H):
  Sh.Call Tryz.prog (knows 8) 25 [v] H (fun r H'=>Kept H H'∧r=.int .i64 (A5h N)):=by
 refine A3b rfl Tryz.func25 rfl (Nat.le_of_ble_eq_true rfl) ?_
 have hres:Tryz.f25.results.toList=[.tmp 2]:=rfl
 obtain ⟨sg,ar,en,rfl,hsg,har,hen⟩:=h
 have hb1:=NetBox.of (N:=N) hw hsg har hen
 have hk1:Kept H (H.new 4 [sg,.int .i64 N.states,ar,en]).2:=Kept.new hw 4 _
 simp only [↓Sh.dn,sx,Nat.reduceBEq,reduceCtorEq,Nat.reduceEqDiff,A7k hsg.isCell har.isCell hen.isCell]
 generalize H.next=gg at hb1 ⊢
 generalize (H.new 4 [sg,.int .i64 N.states,ar,en]).2=H1 at hb1 hk1 ⊢
 simp only [↓Sh.dn,sx,Nat.reduceBEq,reduceCtorEq,Nat.reduceEqDiff,hb1.c0,hb1.c1,hb1.c2,hb1.c3,hb1.ca,A3a hb1,A1a hb1,A2a hb1,Option.map_some]
 obtain ⟨r,H2,hd,hk2,rfl⟩:=B41 hb1.netAt hsm hk1.wf
 refine ⟨_,_,hd,?_⟩
 have hb2:=hb1.kept hk1.wf hk2
 have hk12:=hk1.trans hk2
 by_cases hE:A2g N=0
 case neg=>simp only [↓Sh.dn,sx,Nat.reduceBEq,reduceCtorEq,Nat.reduceEqDiff,hE,decide_false,hres,A5h,hk12]
 simp only [↓Sh.dn,sx,Nat.reduceBEq,reduceCtorEq,Nat.reduceEqDiff,hE,decide_true,hb2.c0,hb2.c1,hb2.c2,hb2.c3,hb2.ca,A3a hb2,A1a hb2,A2a hb2,Option.map_some]
 obtain ⟨r,H4,hd4,rfl,hk4⟩:=isFree hb2.netAt hk12.wf hsm.ar hsm.en
 refine ⟨_,_,hd4,?_⟩
 cases hp:NetD.free N with
 | true=>simp only [↓Sh.dn,sx,Nat.reduceBEq,reduceCtorEq,Nat.reduceEqDiff,hres,A5h,hE,hp,hk12.trans hk4]
 | false=>simp only [↓Sh.dn,sx,Nat.reduceBEq,reduceCtorEq,Nat.reduceEqDiff,hres,A5h,hE,hp,hk12.trans hk4]
end Go.Proofs.YtnoengaghabmjaaGreatDoor
