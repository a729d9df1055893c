/- A part of the proof: Facts, NetFacts, AnyLong, IsSymbol, AllSymbols, IsSet, RefSigma, Search, SearchAt, SearchStrings, IsIn, ValidateNet, SymsSmall, IndexFuncStr, SymsValidate, CmpLessStr, BinarySearch, GraphCheck, Priced, IsFree, RefValidate, NetOk, RelVal. -/
import Derived.Test.YtnoengaghabmjaaGreatDoorProg
import Derived.Test.YtnoengaghabmjaaGreatDoorMClose3RelCrosses1
import Derived.KernelRfl
set_option linter.unusedVariables false
set_option linter.unusedSimpArgs false
/- What the types of this program are, for walking. Made by program. -/
set_option linter.unusedVariables false
set_option maxRecDepth 20000
namespace Go.Proofs.YtnoengaghabmjaaGreatDoor
open Go Go.Proofs Go.Proofs.Sh
theorem agg_1:A0g Tryz.prog 1=some false:=by kernel_rfl
theorem zero_1:zeroAt Tryz.prog 1=some (.nilFunc):=by kernel_rfl
theorem ld_1 {H:AH} {a:Addr}:A5f Tryz.prog 1 H (.pointer (some a))=H.cell a:=A3b agg_1
theorem agg_2:A0g Tryz.prog 2=some false:=by kernel_rfl
theorem zero_2:zeroAt Tryz.prog 2=some (.int .i64 0):=by kernel_rfl
theorem ld_2 {H:AH} {a:Addr}:A5f Tryz.prog 2 H (.pointer (some a))=H.cell a:=A3b agg_2
theorem B14:A0g Tryz.prog 3=some false:=by kernel_rfl
theorem A3e:A8b Tryz.prog 3=some 1:=by kernel_rfl
theorem B32:Tryz.prog.cellsOf 3=1:=by kernel_rfl
theorem B2d:zeroAt Tryz.prog 3=some (.int .i64 0):=by kernel_rfl
theorem ld_3 {H:AH} {a:Addr}:A5f Tryz.prog 3 H (.pointer (some a))=H.cell a:=A3b B14
theorem agg_4:A0g Tryz.prog 4=some false:=by kernel_rfl
theorem A1x:A8b Tryz.prog 4=some 1:=by kernel_rfl
theorem A79:zeroAt Tryz.prog 4=some (.bool false):=by kernel_rfl
theorem ld_4 {H:AH} {a:Addr}:A5f Tryz.prog 4 H (.pointer (some a))=H.cell a:=A3b agg_4
theorem agg_5:A0g Tryz.prog 5=some false:=by kernel_rfl
theorem zero_5:zeroAt Tryz.prog 5=some (.int .u8 0):=by kernel_rfl
theorem ld_5 {H:AH} {a:Addr}:A5f Tryz.prog 5 H (.pointer (some a))=H.cell a:=A3b agg_5
theorem agg_9:A0g Tryz.prog 9=some false:=by kernel_rfl
theorem A0m:A8b Tryz.prog 9=some 1:=by kernel_rfl
theorem C8n:Tryz.prog.cellsOf 9=1:=by kernel_rfl
theorem C1a:zeroAt Tryz.prog 9=some (.string ⟨#[]⟩):=by kernel_rfl
theorem ld_9 {H:AH} {a:Addr}:A5f Tryz.prog 9 H (.pointer (some a))=H.cell a:=A3b agg_9
theorem agg_22:A0g Tryz.prog 22=some false:=by kernel_rfl
theorem A8x:A8b Tryz.prog 22=some 1:=by kernel_rfl
theorem C3g:Tryz.prog.cellsOf 22=1:=by kernel_rfl
theorem B4q:zeroAt Tryz.prog 22=some (.slice none 0 0):=by kernel_rfl
theorem ld_22 {H:AH} {a:Addr}:A5f Tryz.prog 22 H (.pointer (some a))=H.cell a:=A3b agg_22
theorem agg_23:A0g Tryz.prog 23=some false:=by kernel_rfl
theorem A86:A8b Tryz.prog 23=some 1:=by kernel_rfl
theorem cells_23:Tryz.prog.cellsOf 23=1:=by kernel_rfl
theorem B2p:zeroAt Tryz.prog 23=some (.slice none 0 0):=by kernel_rfl
theorem ld_23 {H:AH} {a:Addr}:A5f Tryz.prog 23 H (.pointer (some a))=H.cell a:=A3b agg_23
theorem agg_24:A0g Tryz.prog 24=some false:=by kernel_rfl
theorem C5m:A8b Tryz.prog 24=some 1:=by kernel_rfl
theorem cells_24:Tryz.prog.cellsOf 24=1:=by kernel_rfl
theorem C1m:zeroAt Tryz.prog 24=some (.slice none 0 0):=by kernel_rfl
theorem ld_24 {H:AH} {a:Addr}:A5f Tryz.prog 24 H (.pointer (some a))=H.cell a:=A3b agg_24
theorem agg_26:A0g Tryz.prog 26=some true:=by kernel_rfl
theorem A6p:A8b Tryz.prog 26=some 4:=by kernel_rfl
theorem C1d:Tryz.prog.cellsOf 26=4:=by kernel_rfl
theorem A71:zeroAt Tryz.prog 26=some (.agg #[.slice none 0 0,.int .i64 0,.slice none 0 0,.slice none 0 0]):=by kernel_rfl
theorem ld_26 {H:AH} {a:Addr}:A5f Tryz.prog 26 H (.pointer (some a))=(H.cells a 4).map fun l=>.agg l.toArray:=A3n agg_26 A6p
theorem agg_28:A0g Tryz.prog 28=some true:=by kernel_rfl
theorem C2o:A8b Tryz.prog 28=some 10:=by kernel_rfl
theorem cells_28:Tryz.prog.cellsOf 28=10:=by kernel_rfl
theorem C0v:zeroAt Tryz.prog 28=some (.agg #[.slice none 0 0,.int .i64 0,.slice none 0 0,.slice none 0 0,.slice none 0 0,.int .i64 0,.slice none 0 0,.slice none 0 0,.slice none 0 0,.slice none 0 0]):=by kernel_rfl
theorem ld_28 {H:AH} {a:Addr}:A5f Tryz.prog 28 H (.pointer (some a))=(H.cells a 10).map fun l=>.agg l.toArray:=A3n agg_28 C2o
theorem agg_34:A0g Tryz.prog 34=some false:=by kernel_rfl
theorem C3y:zeroAt Tryz.prog 34=some (.int .i64 0):=by kernel_rfl
theorem ld_34 {H:AH} {a:Addr}:A5f Tryz.prog 34 H (.pointer (some a))=H.cell a:=A3b agg_34
theorem agg_43:A0g Tryz.prog 43=some true:=by kernel_rfl
theorem A8l:A8b Tryz.prog 43=some 5:=by kernel_rfl
theorem C0c:Tryz.prog.cellsOf 43=5:=by kernel_rfl
theorem A76:zeroAt Tryz.prog 43=some (.agg #[.int .i64 0,.string ⟨#[]⟩,.string ⟨#[]⟩,.int .i64 0,.int .i64 0]):=by kernel_rfl
theorem ld_43 {H:AH} {a:Addr}:A5f Tryz.prog 43 H (.pointer (some a))=(H.cells a 5).map fun l=>.agg l.toArray:=A3n agg_43 A8l
theorem agg_45:A0g Tryz.prog 45=some true:=by kernel_rfl
theorem A6q:A8b Tryz.prog 45=some 2:=by kernel_rfl
theorem B39:Tryz.prog.cellsOf 45=2:=by kernel_rfl
theorem A46:zeroAt Tryz.prog 45=some (.agg #[.int .i64 0,.int .i64 0]):=by kernel_rfl
theorem ld_45 {H:AH} {a:Addr}:A5f Tryz.prog 45 H (.pointer (some a))=(H.cells a 2).map fun l=>.agg l.toArray:=A3n agg_45 A6q
theorem agg_48:A0g Tryz.prog 48=some false:=by kernel_rfl
theorem C0n:zeroAt Tryz.prog 48=some (.slice none 0 0):=by kernel_rfl
theorem ld_48 {H:AH} {a:Addr}:A5f Tryz.prog 48 H (.pointer (some a))=H.cell a:=A3b agg_48
theorem agg_51:A0g Tryz.prog 51=some false:=by kernel_rfl
theorem C7l:zeroAt Tryz.prog 51=some (.slice none 0 0):=by kernel_rfl
theorem ld_51 {H:AH} {a:Addr}:A5f Tryz.prog 51 H (.pointer (some a))=H.cell a:=A3b agg_51
theorem agg_60:A0g Tryz.prog 60=some false:=by kernel_rfl
theorem size_60:A8b Tryz.prog 60=some 1:=by kernel_rfl
theorem B83:zeroAt Tryz.prog 60=some (.pointer none):=by kernel_rfl
theorem ld_60 {H:AH} {a:Addr}:A5f Tryz.prog 60 H (.pointer (some a))=H.cell a:=A3b agg_60
theorem agg_62:A0g Tryz.prog 62=some false:=by kernel_rfl
theorem size_62:A8b Tryz.prog 62=some 1:=by kernel_rfl
theorem C9l:zeroAt Tryz.prog 62=some (.nilFunc):=by kernel_rfl
theorem ld_62 {H:AH} {a:Addr}:A5f Tryz.prog 62 H (.pointer (some a))=H.cell a:=A3b agg_62
theorem agg_64:A0g Tryz.prog 64=some true:=by kernel_rfl
theorem B92:A8b Tryz.prog 64=some 1:=by kernel_rfl
theorem B93:zeroAt Tryz.prog 64=some (.agg #[.nilFunc]):=by kernel_rfl
theorem ld_64 {H:AH} {a:Addr}:A5f Tryz.prog 64 H (.pointer (some a))=(H.cells a 1).map fun l=>.agg l.toArray:=A3n agg_64 B92
theorem agg_76:A0g Tryz.prog 76=some false:=by kernel_rfl
theorem C0q:zeroAt Tryz.prog 76=some (.slice none 0 0):=by kernel_rfl
theorem ld_76 {H:AH} {a:Addr}:A5f Tryz.prog 76 H (.pointer (some a))=H.cell a:=A3b agg_76
theorem C6m:A0g Tryz.prog 79=some true:=by kernel_rfl
theorem A9t:A8b Tryz.prog 79=some 2:=by kernel_rfl
theorem A57:zeroAt Tryz.prog 79=some (.agg #[.int .i64 0,.int .i64 0]):=by kernel_rfl
theorem ld_79 {H:AH} {a:Addr}:A5f Tryz.prog 79 H (.pointer (some a))=(H.cells a 2).map fun l=>.agg l.toArray:=A3n C6m A9t
theorem agg_80:A0g Tryz.prog 80=some false:=by kernel_rfl
theorem size_80:A8b Tryz.prog 80=some 1:=by kernel_rfl
theorem C0l:zeroAt Tryz.prog 80=some (.slice none 0 0):=by kernel_rfl
theorem ld_80 {H:AH} {a:Addr}:A5f Tryz.prog 80 H (.pointer (some a))=H.cell a:=A3b agg_80
theorem agg_81:A0g Tryz.prog 81=some false:=by kernel_rfl
theorem size_81:A8b Tryz.prog 81=some 1:=by kernel_rfl
theorem C1l:zeroAt Tryz.prog 81=some (.slice none 0 0):=by kernel_rfl
theorem ld_81 {H:AH} {a:Addr}:A5f Tryz.prog 81 H (.pointer (some a))=H.cell a:=A3b agg_81
theorem agg_83:A0g Tryz.prog 83=some true:=by kernel_rfl
theorem B9n:A8b Tryz.prog 83=some 3:=by kernel_rfl
theorem B41:zeroAt Tryz.prog 83=some (.agg #[.int .i64 0,.slice none 0 0,.slice none 0 0]):=by kernel_rfl
theorem ld_83 {H:AH} {a:Addr}:A5f Tryz.prog 83 H (.pointer (some a))=(H.cells a 3).map fun l=>.agg l.toArray:=A3n agg_83 B9n
theorem agg_86:A0g Tryz.prog 86=some false:=by kernel_rfl
theorem B0q:A8b Tryz.prog 86=some 1:=by kernel_rfl
theorem C9o:zeroAt Tryz.prog 86=some (.slice none 0 0):=by kernel_rfl
theorem ld_86 {H:AH} {a:Addr}:A5f Tryz.prog 86 H (.pointer (some a))=H.cell a:=A3b agg_86
theorem agg_88:A0g Tryz.prog 88=some false:=by kernel_rfl
theorem C2t:zeroAt Tryz.prog 88=some (.slice none 0 0):=by kernel_rfl
theorem ld_88 {H:AH} {a:Addr}:A5f Tryz.prog 88 H (.pointer (some a))=H.cell a:=A3b agg_88
theorem agg_92:A0g Tryz.prog 92=some true:=by kernel_rfl
theorem C2l:A8b Tryz.prog 92=some 4:=by kernel_rfl
theorem B51:zeroAt Tryz.prog 92=some (.agg #[.int .i64 0,.int .i64 0,.int .i64 0,.int .i64 0]):=by kernel_rfl
theorem ld_92 {H:AH} {a:Addr}:A5f Tryz.prog 92 H (.pointer (some a))=(H.cells a 4).map fun l=>.agg l.toArray:=A3n agg_92 C2l
theorem agg_93:A0g Tryz.prog 93=some false:=by kernel_rfl
theorem C8p:zeroAt Tryz.prog 93=some (.slice none 0 0):=by kernel_rfl
theorem ld_93 {H:AH} {a:Addr}:A5f Tryz.prog 93 H (.pointer (some a))=H.cell a:=A3b agg_93
theorem agg_94:A0g Tryz.prog 94=some false:=by kernel_rfl
theorem C7z:zeroAt Tryz.prog 94=some (.map none):=by kernel_rfl
theorem ld_94 {H:AH} {a:Addr}:A5f Tryz.prog 94 H (.pointer (some a))=H.cell a:=A3b agg_94
theorem agg_99:A0g Tryz.prog 99=some false:=by kernel_rfl
theorem C5x:zeroAt Tryz.prog 99=some (.nilFunc):=by kernel_rfl
theorem ld_99 {H:AH} {a:Addr}:A5f Tryz.prog 99 H (.pointer (some a))=H.cell a:=A3b agg_99
theorem agg_101:A0g Tryz.prog 101=some false:=by kernel_rfl
theorem B49:A8b Tryz.prog 101=some 1:=by kernel_rfl
theorem C8e:zeroAt Tryz.prog 101=some (.slice none 0 0):=by kernel_rfl
theorem ld_101 {H:AH} {a:Addr}:A5f Tryz.prog 101 H (.pointer (some a))=H.cell a:=A3b agg_101
theorem agg_103:A0g Tryz.prog 103=some true:=by kernel_rfl
theorem B67:A8b Tryz.prog 103=some 4:=by kernel_rfl
theorem B3r:zeroAt Tryz.prog 103=some (.agg #[.slice none 0 0,.slice none 0 0,.slice none 0 0,.slice none 0 0]):=by kernel_rfl
theorem ld_103 {H:AH} {a:Addr}:A5f Tryz.prog 103 H (.pointer (some a))=(H.cells a 4).map fun l=>.agg l.toArray:=A3n agg_103 B67
theorem agg_107:A0g Tryz.prog 107=some true:=by kernel_rfl
theorem A4w:A8b Tryz.prog 107=some 4:=by kernel_rfl
theorem A3z:zeroAt Tryz.prog 107=some (.agg #[.int .i64 0,.int .i64 0,.int .i64 0,.int .i64 0]):=by kernel_rfl
theorem ld_107 {H:AH} {a:Addr}:A5f Tryz.prog 107 H (.pointer (some a))=(H.cells a 4).map fun l=>.agg l.toArray:=A3n agg_107 A4w
theorem agg_108:A0g Tryz.prog 108=some false:=by kernel_rfl
theorem A1s:A8b Tryz.prog 108=some 1:=by kernel_rfl
theorem A8z:zeroAt Tryz.prog 108=some (.slice none 0 0):=by kernel_rfl
theorem ld_108 {H:AH} {a:Addr}:A5f Tryz.prog 108 H (.pointer (some a))=H.cell a:=A3b agg_108
theorem agg_113:A0g Tryz.prog 113=some false:=by kernel_rfl
theorem B36:zeroAt Tryz.prog 113=some (.map none):=by kernel_rfl
theorem ld_113 {H:AH} {a:Addr}:A5f Tryz.prog 113 H (.pointer (some a))=H.cell a:=A3b agg_113
theorem agg_118:A0g Tryz.prog 118=some false:=by kernel_rfl
theorem B29:zeroAt Tryz.prog 118=some (.slice none 0 0):=by kernel_rfl
theorem ld_118 {H:AH} {a:Addr}:A5f Tryz.prog 118 H (.pointer (some a))=H.cell a:=A3b agg_118
theorem agg_120:A0g Tryz.prog 120=some true:=by kernel_rfl
theorem C3e:A8b Tryz.prog 120=some 2:=by kernel_rfl
theorem B8n:zeroAt Tryz.prog 120=some (.agg #[.int .i64 0,.int .i64 0]):=by kernel_rfl
theorem ld_120 {H:AH} {a:Addr}:A5f Tryz.prog 120 H (.pointer (some a))=(H.cells a 2).map fun l=>.agg l.toArray:=A3n agg_120 C3e
theorem agg_121:A0g Tryz.prog 121=some false:=by kernel_rfl
theorem C7a:zeroAt Tryz.prog 121=some (.map none):=by kernel_rfl
theorem ld_121 {H:AH} {a:Addr}:A5f Tryz.prog 121 H (.pointer (some a))=H.cell a:=A3b agg_121
theorem agg_122:A0g Tryz.prog 122=some false:=by kernel_rfl
theorem B58:zeroAt Tryz.prog 122=some (.slice none 0 0):=by kernel_rfl
theorem ld_122 {H:AH} {a:Addr}:A5f Tryz.prog 122 H (.pointer (some a))=H.cell a:=A3b agg_122
theorem agg_124:A0g Tryz.prog 124=some false:=by kernel_rfl
theorem C9g:zeroAt Tryz.prog 124=some (.nilFunc):=by kernel_rfl
theorem ld_124 {H:AH} {a:Addr}:A5f Tryz.prog 124 H (.pointer (some a))=H.cell a:=A3b agg_124
theorem agg_131:A0g Tryz.prog 131=some false:=by kernel_rfl
theorem C6c:zeroAt Tryz.prog 131=some (.slice none 0 0):=by kernel_rfl
theorem ld_131 {H:AH} {a:Addr}:A5f Tryz.prog 131 H (.pointer (some a))=H.cell a:=A3b agg_131
theorem agg_132:A0g Tryz.prog 132=some false:=by kernel_rfl
theorem B78:zeroAt Tryz.prog 132=some (.map none):=by kernel_rfl
theorem ld_132 {H:AH} {a:Addr}:A5f Tryz.prog 132 H (.pointer (some a))=H.cell a:=A3b agg_132
theorem agg_134:A0g Tryz.prog 134=some true:=by kernel_rfl
theorem A40:A8b Tryz.prog 134=some 3:=by kernel_rfl
theorem A70:zeroAt Tryz.prog 134=some (.agg #[.int .i64 0,.int .i64 0,.int .i64 0]):=by kernel_rfl
theorem ld_134 {H:AH} {a:Addr}:A5f Tryz.prog 134 H (.pointer (some a))=(H.cells a 3).map fun l=>.agg l.toArray:=A3n agg_134 A40
theorem agg_135:A0g Tryz.prog 135=some false:=by kernel_rfl
theorem C2b:zeroAt Tryz.prog 135=some (.map none):=by kernel_rfl
theorem ld_135 {H:AH} {a:Addr}:A5f Tryz.prog 135 H (.pointer (some a))=H.cell a:=A3b agg_135
theorem agg_137:A0g Tryz.prog 137=some false:=by kernel_rfl
theorem A34:A8b Tryz.prog 137=some 1:=by kernel_rfl
theorem B9a:zeroAt Tryz.prog 137=some (.slice none 0 0):=by kernel_rfl
theorem ld_137 {H:AH} {a:Addr}:A5f Tryz.prog 137 H (.pointer (some a))=H.cell a:=A3b agg_137
theorem agg_139:A0g Tryz.prog 139=some true:=by kernel_rfl
theorem A6w:A8b Tryz.prog 139=some 2:=by kernel_rfl
theorem A7z:zeroAt Tryz.prog 139=some (.agg #[.string ⟨#[]⟩,.int .i64 0]):=by kernel_rfl
theorem ld_139 {H:AH} {a:Addr}:A5f Tryz.prog 139 H (.pointer (some a))=(H.cells a 2).map fun l=>.agg l.toArray:=A3n agg_139 A6w
theorem agg_146:A0g Tryz.prog 146=some false:=by kernel_rfl
theorem C6d:zeroAt Tryz.prog 146=some (.nilFunc):=by kernel_rfl
theorem ld_146 {H:AH} {a:Addr}:A5f Tryz.prog 146 H (.pointer (some a))=H.cell a:=A3b agg_146
theorem agg_152:A0g Tryz.prog 152=some false:=by kernel_rfl
theorem C3d:zeroAt Tryz.prog 152=some (.nilFunc):=by kernel_rfl
theorem ld_152 {H:AH} {a:Addr}:A5f Tryz.prog 152 H (.pointer (some a))=H.cell a:=A3b agg_152
theorem agg_169:A0g Tryz.prog 169=some false:=by kernel_rfl
theorem B99:zeroAt Tryz.prog 169=some (.int .u64 0):=by kernel_rfl
theorem ld_169 {H:AH} {a:Addr}:A5f Tryz.prog 169 H (.pointer (some a))=H.cell a:=A3b agg_169
theorem agg_212:A0g Tryz.prog 212=some false:=by kernel_rfl
theorem C4f:zeroAt Tryz.prog 212=some (.int .u64 0):=by kernel_rfl
theorem ld_212 {H:AH} {a:Addr}:A5f Tryz.prog 212 H (.pointer (some a))=H.cell a:=A3b agg_212
theorem agg_218:A0g Tryz.prog 218=some false:=by kernel_rfl
theorem C3f:zeroAt Tryz.prog 218=some (.int .i64 0):=by kernel_rfl
theorem ld_218 {H:AH} {a:Addr}:A5f Tryz.prog 218 H (.pointer (some a))=H.cell a:=A3b agg_218
theorem agg_226:A0g Tryz.prog 226=some false:=by kernel_rfl
theorem C0a:zeroAt Tryz.prog 226=some (.int .u32 0):=by kernel_rfl
theorem ld_226 {H:AH} {a:Addr}:A5f Tryz.prog 226 H (.pointer (some a))=H.cell a:=A3b agg_226
theorem agg_231:A0g Tryz.prog 231=some false:=by kernel_rfl
theorem B2r:A8b Tryz.prog 231=some 1:=by kernel_rfl
theorem C6a:zeroAt Tryz.prog 231=some (.int .u64 0):=by kernel_rfl
theorem ld_231 {H:AH} {a:Addr}:A5f Tryz.prog 231 H (.pointer (some a))=H.cell a:=A3b agg_231
theorem agg_235:A0g Tryz.prog 235=some false:=by kernel_rfl
theorem C9b:zeroAt Tryz.prog 235=some (.pointer none):=by kernel_rfl
theorem ld_235 {H:AH} {a:Addr}:A5f Tryz.prog 235 H (.pointer (some a))=H.cell a:=A3b agg_235
theorem agg_237:A0g Tryz.prog 237=some false:=by kernel_rfl
theorem B66:zeroAt Tryz.prog 237=some (.pointer none):=by kernel_rfl
theorem ld_237 {H:AH} {a:Addr}:A5f Tryz.prog 237 H (.pointer (some a))=H.cell a:=A3b agg_237
theorem len_9 {H:AH} {s:ByteArray}:A7a Tryz.prog .len [9] [.string s] H=some (.int .i64 (s.size:Int),H):=C6h Tryz.underlying9
theorem len_22 {H:AH} {n c:Nat} {a:Option Addr}:A7a Tryz.prog .len [22] [.slice a n c] H=some (.int .i64 (n:Int),H):=A4h Tryz.underlying22
theorem info_22:((Tryz.prog.info? 9).map fun i=>Nat.beq i.size 1 && Nat.ble i.bytes 65536)=some true:=by kernel_rfl
theorem app_22 {H:AH} {t' len cap n:Nat} {base:Option Addr} {x:Value} {new:List Value} (hx:Sh.srcKind Tryz.prog t' x=true) (hn:Sh.newCells 1 H x=some (n,new)) (hb:len+n≤1073741824):A7a Tryz.prog .append [22,t'] [.slice base len cap,x] H=A2f 1 base len cap n new H:=A83 Tryz.underlying22 info_22 C1a rfl (Nat.le_of_ble_eq_true rfl) hx hn hb
theorem C4d {c:Bool} {a:Option Addr} {n m:Nat}:abin Tryz.prog 22 c .eql (.slice a n m) (.slice none 0 0)=some (.bool a.isNone):=A2i Tryz.underlying22
theorem B1x {c:Bool} {a:Option Addr} {n m:Nat}:abin Tryz.prog 22 c .neq (.slice a n m) (.slice none 0 0)=some (.bool a.isSome):=A2d Tryz.underlying22
theorem B7y {H:AH}:A6a Tryz.prog 22 0 [] H=some (.slice (some ⟨H.next,0,some 0⟩) 0 0,(H.new 1 []).2):=A1i Tryz.underlying22 A0m C1a rfl (Nat.le_of_ble_eq_true rfl)
theorem len_23 {H:AH} {n c:Nat} {a:Option Addr}:A7a Tryz.prog .len [23] [.slice a n c] H=some (.int .i64 (n:Int),H):=A4h Tryz.underlying23
theorem info_23:((Tryz.prog.info? 43).map fun i=>Nat.beq i.size 5 && Nat.ble i.bytes 65536)=some true:=by kernel_rfl
theorem C6r {H:AH} {len cap:Nat} {base:Option Addr} {x:List Value} (hx:x.length=5) (hb:len≤1073741823):A7a Tryz.prog .append [23,23] [.slice base len cap,.slice (some ⟨H.next,0,some 0⟩) 1 1] (H.new 5 x).2=A2f 5 base len cap 1 x (H.new 5 x).2:=A7q Tryz.underlying23 info_23 A76 rfl (Nat.le_of_ble_eq_true rfl) hx hb
theorem B48 {c:Bool} {a:Option Addr} {n m:Nat}:abin Tryz.prog 23 c .eql (.slice a n m) (.slice none 0 0)=some (.bool a.isNone):=A2i Tryz.underlying23
theorem B1y {c:Bool} {a:Option Addr} {n m:Nat}:abin Tryz.prog 23 c .neq (.slice a n m) (.slice none 0 0)=some (.bool a.isSome):=A2d Tryz.underlying23
theorem B9u {H:AH}:A6a Tryz.prog 23 0 [] H=some (.slice (some ⟨H.next,0,some 0⟩) 0 0,(H.new 5 []).2):=A1i Tryz.underlying23 A8l A76 rfl (Nat.le_of_ble_eq_true rfl)
theorem B4w {H:AH} {x:Value} (hx:(A0b x).length=5) (hc:(A0b x).all isCell=true):A6a Tryz.prog 23 1 [(0,x)] H=some (.slice (some ⟨H.next,0,some 0⟩) 1 1,(H.new 5 (A0b x)).2):=A6r Tryz.underlying23 A8l A76 rfl (Nat.le_of_ble_eq_true rfl) (Nat.le_of_ble_eq_true rfl) hx hc
theorem len_24 {H:AH} {n c:Nat} {a:Option Addr}:A7a Tryz.prog .len [24] [.slice a n c] H=some (.int .i64 (n:Int),H):=A4h Tryz.underlying24
theorem info_24:((Tryz.prog.info? 45).map fun i=>Nat.beq i.size 2 && Nat.ble i.bytes 65536)=some true:=by kernel_rfl
theorem app1_24 {H:AH} {len cap:Nat} {base:Option Addr} {x:List Value} (hx:x.length=2) (hb:len≤1073741823):A7a Tryz.prog .append [24,24] [.slice base len cap,.slice (some ⟨H.next,0,some 0⟩) 1 1] (H.new 2 x).2=A2f 2 base len cap 1 x (H.new 2 x).2:=A7q Tryz.underlying24 info_24 A46 rfl (Nat.le_of_ble_eq_true rfl) hx hb
theorem C0g {c:Bool} {a:Option Addr} {n m:Nat}:abin Tryz.prog 24 c .eql (.slice a n m) (.slice none 0 0)=some (.bool a.isNone):=A2i Tryz.underlying24
theorem B20 {c:Bool} {a:Option Addr} {n m:Nat}:abin Tryz.prog 24 c .neq (.slice a n m) (.slice none 0 0)=some (.bool a.isSome):=A2d Tryz.underlying24
theorem B5x {H:AH}:A6a Tryz.prog 24 0 [] H=some (.slice (some ⟨H.next,0,some 0⟩) 0 0,(H.new 2 []).2):=A1i Tryz.underlying24 A6q A46 rfl (Nat.le_of_ble_eq_true rfl)
theorem C7v {H:AH} {x:Value} (hx:(A0b x).length=2) (hc:(A0b x).all isCell=true):A6a Tryz.prog 24 1 [(0,x)] H=some (.slice (some ⟨H.next,0,some 0⟩) 1 1,(H.new 2 (A0b x)).2):=A6r Tryz.underlying24 A6q A46 rfl (Nat.le_of_ble_eq_true rfl) (Nat.le_of_ble_eq_true rfl) hx hc
theorem C6q {g o k:Nat}:A1b Tryz.prog 26 0 (.pointer (some ⟨g,o,some k⟩))=some (.pointer (some ⟨g,o+0,some k⟩)):=by have h:=A9a (g:=g) (o:=o) (k:=k) (f:=0) Tryz.underlying26 (Eq.refl (some _)) A8x rfl; exact h
theorem C5s {g o k:Nat}:A1b Tryz.prog 26 1 (.pointer (some ⟨g,o,some k⟩))=some (.pointer (some ⟨g,o+1,some k⟩)):=by have h:=A9a (g:=g) (o:=o) (k:=k) (f:=1) Tryz.underlying26 (Eq.refl (some _)) A3e rfl; exact h
theorem C3q {g o k:Nat}:A1b Tryz.prog 26 2 (.pointer (some ⟨g,o,some k⟩))=some (.pointer (some ⟨g,o+2,some k⟩)):=by have h:=A9a (g:=g) (o:=o) (k:=k) (f:=2) Tryz.underlying26 (Eq.refl (some _)) A86 rfl; exact h
theorem C3o {g o k:Nat}:A1b Tryz.prog 26 3 (.pointer (some ⟨g,o,some k⟩))=some (.pointer (some ⟨g,o+3,some k⟩)):=by have h:=A9a (g:=g) (o:=o) (k:=k) (f:=3) Tryz.underlying26 (Eq.refl (some _)) C5m rfl; exact h
theorem C9x {g o k:Nat}:A1b Tryz.prog 28 0 (.pointer (some ⟨g,o,some k⟩))=some (.pointer (some ⟨g,o+0,some k⟩)):=by have h:=A9a (g:=g) (o:=o) (k:=k) (f:=0) Tryz.underlying28 (Eq.refl (some _)) A6p rfl; exact h
theorem C0m {g o k:Nat}:A1b Tryz.prog 28 1 (.pointer (some ⟨g,o,some k⟩))=some (.pointer (some ⟨g,o+4,some k⟩)):=by have h:=A9a (g:=g) (o:=o) (k:=k) (f:=1) Tryz.underlying28 (Eq.refl (some _)) A6p rfl; exact h
theorem C0s {g o k:Nat}:A1b Tryz.prog 28 2 (.pointer (some ⟨g,o,some k⟩))=some (.pointer (some ⟨g,o+8,some k⟩)):=by have h:=A9a (g:=g) (o:=o) (k:=k) (f:=2) Tryz.underlying28 (Eq.refl (some _)) A8x rfl; exact h
theorem C4p {g o k:Nat}:A1b Tryz.prog 28 3 (.pointer (some ⟨g,o,some k⟩))=some (.pointer (some ⟨g,o+9,some k⟩)):=by have h:=A9a (g:=g) (o:=o) (k:=k) (f:=3) Tryz.underlying28 (Eq.refl (some _)) A8x rfl; exact h
theorem C8s {g o k:Nat}:A1b Tryz.prog 43 0 (.pointer (some ⟨g,o,some k⟩))=some (.pointer (some ⟨g,o+0,some k⟩)):=by have h:=A9a (g:=g) (o:=o) (k:=k) (f:=0) Tryz.underlying43 (Eq.refl (some _)) A3e rfl; exact h
theorem C1r {g o k:Nat}:A1b Tryz.prog 43 1 (.pointer (some ⟨g,o,some k⟩))=some (.pointer (some ⟨g,o+1,some k⟩)):=by have h:=A9a (g:=g) (o:=o) (k:=k) (f:=1) Tryz.underlying43 (Eq.refl (some _)) A0m rfl; exact h
theorem C7t {g o k:Nat}:A1b Tryz.prog 43 2 (.pointer (some ⟨g,o,some k⟩))=some (.pointer (some ⟨g,o+2,some k⟩)):=by have h:=A9a (g:=g) (o:=o) (k:=k) (f:=2) Tryz.underlying43 (Eq.refl (some _)) A0m rfl; exact h
theorem C4y {g o k:Nat}:A1b Tryz.prog 43 3 (.pointer (some ⟨g,o,some k⟩))=some (.pointer (some ⟨g,o+3,some k⟩)):=by have h:=A9a (g:=g) (o:=o) (k:=k) (f:=3) Tryz.underlying43 (Eq.refl (some _)) A3e rfl; exact h
theorem C4x {g o k:Nat}:A1b Tryz.prog 43 4 (.pointer (some ⟨g,o,some k⟩))=some (.pointer (some ⟨g,o+4,some k⟩)):=by have h:=A9a (g:=g) (o:=o) (k:=k) (f:=4) Tryz.underlying43 (Eq.refl (some _)) A3e rfl; exact h
theorem bld_43 {v0 v1 v2 v3 v4:Value} (h0:isCell v0=true) (h1:isCell v1=true) (h2:isCell v2=true) (h3:isCell v3=true) (h4:isCell v4=true):A9l Tryz.prog 43 [(0,v0),(1,v1),(2,v2),(3,v3),(4,v4)]=some (.agg #[v0,v1,v2,v3,v4]):=by refine A3i (pl:=[(0,1),(1,1),(2,1),(3,1),(4,1)]) Tryz.underlying43 A76 (by kernel_rfl) ?_; have va:∀ xs:Array Value,A0b (.agg xs)=xs.toList:=fun _=>rfl; simp [A3s,A4b h0,A4b h1,A4b h2,A4b h3,A4b h4,va,h0,h1,h2,h3,h4,setCells,A8a,A5b]
theorem C6v {g o k:Nat}:A1b Tryz.prog 45 0 (.pointer (some ⟨g,o,some k⟩))=some (.pointer (some ⟨g,o+0,some k⟩)):=by have h:=A9a (g:=g) (o:=o) (k:=k) (f:=0) Tryz.underlying45 (Eq.refl (some _)) A3e rfl; exact h
theorem C4w {g o k:Nat}:A1b Tryz.prog 45 1 (.pointer (some ⟨g,o,some k⟩))=some (.pointer (some ⟨g,o+1,some k⟩)):=by have h:=A9a (g:=g) (o:=o) (k:=k) (f:=1) Tryz.underlying45 (Eq.refl (some _)) A3e rfl; exact h
theorem bld_45 {v0 v1:Value} (h0:isCell v0=true) (h1:isCell v1=true):A9l Tryz.prog 45 [(0,v0),(1,v1)]=some (.agg #[v0,v1]):=by refine A3i (pl:=[(0,1),(1,1)]) Tryz.underlying45 A46 (by kernel_rfl) ?_; have va:∀ xs:Array Value,A0b (.agg xs)=xs.toList:=fun _=>rfl; simp [A3s,A4b h0,A4b h1,va,h0,h1,setCells,A8a,A5b]
theorem len_48 {H:AH} {n c:Nat} {a:Option Addr}:A7a Tryz.prog .len [48] [.slice a n c] H=some (.int .i64 (n:Int),H):=A4h Tryz.underlying48
theorem C1g {c:Bool} {a:Option Addr} {n m:Nat}:abin Tryz.prog 48 c .eql (.slice a n m) (.slice none 0 0)=some (.bool a.isNone):=A2i Tryz.underlying48
theorem B0x {c:Bool} {a:Option Addr} {n m:Nat}:abin Tryz.prog 48 c .neq (.slice a n m) (.slice none 0 0)=some (.bool a.isSome):=A2d Tryz.underlying48
theorem B8y {H:AH}:A6a Tryz.prog 48 0 [] H=some (.slice (some ⟨H.next,0,some 0⟩) 0 0,(H.new 1 []).2):=A1i Tryz.underlying48 A8x B4q rfl (Nat.le_of_ble_eq_true rfl)
theorem ia_51 {g o k n c i:Nat} {j:IntKind} (h:i < n):A9b Tryz.prog 51 (.slice (some ⟨g,o,some k⟩) n c) (.int j (i:Int))=some (.pointer (some ⟨g,o+i * 4,some k⟩)):=A9s Tryz.underlying51 A6p h
theorem C1x {H:AH} {n c:Nat} {a:Option Addr}:A7a Tryz.prog .len [51] [.slice a n c] H=some (.int .i64 (n:Int),H):=A4h Tryz.underlying51
theorem B37 {c:Bool} {a:Option Addr} {n m:Nat}:abin Tryz.prog 51 c .eql (.slice a n m) (.slice none 0 0)=some (.bool a.isNone):=A2i Tryz.underlying51
theorem B5s {c:Bool} {a:Option Addr} {n m:Nat}:abin Tryz.prog 51 c .neq (.slice a n m) (.slice none 0 0)=some (.bool a.isSome):=A2d Tryz.underlying51
theorem B9s {H:AH}:A6a Tryz.prog 51 0 [] H=some (.slice (some ⟨H.next,0,some 0⟩) 0 0,(H.new 4 []).2):=A1i Tryz.underlying51 A6p A71 rfl (Nat.le_of_ble_eq_true rfl)
theorem C7u {g o k:Nat}:A1b Tryz.prog 64 0 (.pointer (some ⟨g,o,some k⟩))=some (.pointer (some ⟨g,o+0,some k⟩)):=by have h:=A9a (g:=g) (o:=o) (k:=k) (f:=0) Tryz.underlying64 (Eq.refl (some _)) size_62 rfl; exact h
theorem bld_64 {v0:Value} (h0:isCell v0=true):A9l Tryz.prog 64 [(0,v0)]=some (.agg #[v0]):=by refine A3i (pl:=[(0,1)]) Tryz.underlying64 B93 (by kernel_rfl) ?_; have va:∀ xs:Array Value,A0b (.agg xs)=xs.toList:=fun _=>rfl; simp [A3s,A4b h0,va,h0,setCells,A8a,A5b]
theorem len_76 {H:AH} {n c:Nat} {a:Option Addr}:A7a Tryz.prog .len [76] [.slice a n c] H=some (.int .i64 (n:Int),H):=A4h Tryz.underlying76
theorem info_76:((Tryz.prog.info? 79).map fun i=>Nat.beq i.size 2 && Nat.ble i.bytes 65536)=some true:=by kernel_rfl
theorem app1_76 {H:AH} {len cap:Nat} {base:Option Addr} {x:List Value} (hx:x.length=2) (hb:len≤1073741823):A7a Tryz.prog .append [76,76] [.slice base len cap,.slice (some ⟨H.next,0,some 0⟩) 1 1] (H.new 2 x).2=A2f 2 base len cap 1 x (H.new 2 x).2:=A7q Tryz.underlying76 info_76 A57 rfl (Nat.le_of_ble_eq_true rfl) hx hb
theorem B27 {c:Bool} {a:Option Addr} {n m:Nat}:abin Tryz.prog 76 c .eql (.slice a n m) (.slice none 0 0)=some (.bool a.isNone):=A2i Tryz.underlying76
theorem B9v {c:Bool} {a:Option Addr} {n m:Nat}:abin Tryz.prog 76 c .neq (.slice a n m) (.slice none 0 0)=some (.bool a.isSome):=A2d Tryz.underlying76
theorem B1u {H:AH}:A6a Tryz.prog 76 0 [] H=some (.slice (some ⟨H.next,0,some 0⟩) 0 0,(H.new 2 []).2):=A1i Tryz.underlying76 A9t A57 rfl (Nat.le_of_ble_eq_true rfl)
theorem C9v {H:AH} {x:Value} (hx:(A0b x).length=2) (hc:(A0b x).all isCell=true):A6a Tryz.prog 76 1 [(0,x)] H=some (.slice (some ⟨H.next,0,some 0⟩) 1 1,(H.new 2 (A0b x)).2):=A6r Tryz.underlying76 A9t A57 rfl (Nat.le_of_ble_eq_true rfl) (Nat.le_of_ble_eq_true rfl) hx hc
theorem C3n {g o k:Nat}:A1b Tryz.prog 79 0 (.pointer (some ⟨g,o,some k⟩))=some (.pointer (some ⟨g,o+0,some k⟩)):=by have h:=A9a (g:=g) (o:=o) (k:=k) (f:=0) Tryz.underlying79 (Eq.refl (some _)) A3e rfl; exact h
theorem C9n {g o k:Nat}:A1b Tryz.prog 79 1 (.pointer (some ⟨g,o,some k⟩))=some (.pointer (some ⟨g,o+1,some k⟩)):=by have h:=A9a (g:=g) (o:=o) (k:=k) (f:=1) Tryz.underlying79 (Eq.refl (some _)) A3e rfl; exact h
theorem len_80 {H:AH} {n c:Nat} {a:Option Addr}:A7a Tryz.prog .len [80] [.slice a n c] H=some (.int .i64 (n:Int),H):=A4h Tryz.underlying80
theorem info_80:((Tryz.prog.info? 137).map fun i=>Nat.beq i.size 1 && Nat.ble i.bytes 65536)=some true:=by kernel_rfl
theorem C4a {c:Bool} {a:Option Addr} {n m:Nat}:abin Tryz.prog 80 c .eql (.slice a n m) (.slice none 0 0)=some (.bool a.isNone):=A2i Tryz.underlying80
theorem B0u {c:Bool} {a:Option Addr} {n m:Nat}:abin Tryz.prog 80 c .neq (.slice a n m) (.slice none 0 0)=some (.bool a.isSome):=A2d Tryz.underlying80
theorem mk_80 {H:AH} {l c:Nat} (hlc:l≤c) (hc:c≤1073741824):A6i Tryz.prog 80 (.int .i64 (l:Int)) (.int .i64 (c:Int)) H=some (.slice (some ⟨H.next,0,some 0⟩) l c,(H.new 1 (List.replicate c (.slice none 0 0))).2):=by rw [← A14]; exact B8e Tryz.underlying80 info_80 B9a rfl (Nat.le_of_ble_eq_true rfl) hlc hc
theorem B8r {H:AH}:A6a Tryz.prog 80 0 [] H=some (.slice (some ⟨H.next,0,some 0⟩) 0 0,(H.new 1 []).2):=A1i Tryz.underlying80 A34 B9a rfl (Nat.le_of_ble_eq_true rfl)
theorem len_81 {H:AH} {n c:Nat} {a:Option Addr}:A7a Tryz.prog .len [81] [.slice a n c] H=some (.int .i64 (n:Int),H):=A4h Tryz.underlying81
theorem info_81:((Tryz.prog.info? 4).map fun i=>Nat.beq i.size 1 && Nat.ble i.bytes 65536)=some true:=by kernel_rfl
theorem B59 {c:Bool} {a:Option Addr} {n m:Nat}:abin Tryz.prog 81 c .eql (.slice a n m) (.slice none 0 0)=some (.bool a.isNone):=A2i Tryz.underlying81
theorem B5u {c:Bool} {a:Option Addr} {n m:Nat}:abin Tryz.prog 81 c .neq (.slice a n m) (.slice none 0 0)=some (.bool a.isSome):=A2d Tryz.underlying81
theorem mk_81 {H:AH} {l c:Nat} (hlc:l≤c) (hc:c≤1073741824):A6i Tryz.prog 81 (.int .i64 (l:Int)) (.int .i64 (c:Int)) H=some (.slice (some ⟨H.next,0,some 0⟩) l c,(H.new 1 (List.replicate c (.bool false))).2):=by rw [← A14]; exact B8e Tryz.underlying81 info_81 A79 rfl (Nat.le_of_ble_eq_true rfl) hlc hc
theorem B10 {H:AH}:A6a Tryz.prog 81 0 [] H=some (.slice (some ⟨H.next,0,some 0⟩) 0 0,(H.new 1 []).2):=A1i Tryz.underlying81 A1x A79 rfl (Nat.le_of_ble_eq_true rfl)
theorem C9w {g o k:Nat}:A1b Tryz.prog 83 0 (.pointer (some ⟨g,o,some k⟩))=some (.pointer (some ⟨g,o+0,some k⟩)):=by have h:=A9a (g:=g) (o:=o) (k:=k) (f:=0) Tryz.underlying83 (Eq.refl (some _)) A3e rfl; exact h
theorem C8l {g o k:Nat}:A1b Tryz.prog 83 1 (.pointer (some ⟨g,o,some k⟩))=some (.pointer (some ⟨g,o+1,some k⟩)):=by have h:=A9a (g:=g) (o:=o) (k:=k) (f:=1) Tryz.underlying83 (Eq.refl (some _)) size_80 rfl; exact h
theorem C7q {g o k:Nat}:A1b Tryz.prog 83 2 (.pointer (some ⟨g,o,some k⟩))=some (.pointer (some ⟨g,o+2,some k⟩)):=by have h:=A9a (g:=g) (o:=o) (k:=k) (f:=2) Tryz.underlying83 (Eq.refl (some _)) size_81 rfl; exact h
theorem ia_86 {g o k n c i:Nat} {j:IntKind} (h:i < n):A9b Tryz.prog 86 (.slice (some ⟨g,o,some k⟩) n c) (.int j (i:Int))=some (.pointer (some ⟨g,o+i * 1,some k⟩)):=A9s Tryz.underlying86 A3e h
theorem len_86 {H:AH} {n c:Nat} {a:Option Addr}:A7a Tryz.prog .len [86] [.slice a n c] H=some (.int .i64 (n:Int),H):=A4h Tryz.underlying86
theorem B81:((Tryz.prog.info? 3).map fun i=>Nat.beq i.size 1 && Nat.ble i.bytes 65536)=some true:=by kernel_rfl
theorem app_86 {H:AH} {t' len cap n:Nat} {base:Option Addr} {x:Value} {new:List Value} (hx:Sh.srcKind Tryz.prog t' x=true) (hn:Sh.newCells 1 H x=some (n,new)) (hb:len+n≤1073741824):A7a Tryz.prog .append [86,t'] [.slice base len cap,x] H=A2f 1 base len cap n new H:=A83 Tryz.underlying86 B81 B2d rfl (Nat.le_of_ble_eq_true rfl) hx hn hb
theorem app1_86 {H:AH} {len cap:Nat} {base:Option Addr} {x:List Value} (hx:x.length=1) (hb:len≤1073741823):A7a Tryz.prog .append [86,86] [.slice base len cap,.slice (some ⟨H.next,0,some 0⟩) 1 1] (H.new 1 x).2=A2f 1 base len cap 1 x (H.new 1 x).2:=A7q Tryz.underlying86 B81 B2d rfl (Nat.le_of_ble_eq_true rfl) hx hb
theorem C4g {c:Bool} {a:Option Addr} {n m:Nat}:abin Tryz.prog 86 c .eql (.slice a n m) (.slice none 0 0)=some (.bool a.isNone):=A2i Tryz.underlying86
theorem B4x {c:Bool} {a:Option Addr} {n m:Nat}:abin Tryz.prog 86 c .neq (.slice a n m) (.slice none 0 0)=some (.bool a.isSome):=A2d Tryz.underlying86
theorem mk_86 {H:AH} {l c:Nat} (hlc:l≤c) (hc:c≤1073741824):A6i Tryz.prog 86 (.int .i64 (l:Int)) (.int .i64 (c:Int)) H=some (.slice (some ⟨H.next,0,some 0⟩) l c,(H.new 1 (List.replicate c (.int .i64 0))).2):=by rw [← A14]; exact B8e Tryz.underlying86 B81 B2d rfl (Nat.le_of_ble_eq_true rfl) hlc hc
theorem B3z {H:AH}:A6a Tryz.prog 86 0 [] H=some (.slice (some ⟨H.next,0,some 0⟩) 0 0,(H.new 1 []).2):=A1i Tryz.underlying86 A3e B2d rfl (Nat.le_of_ble_eq_true rfl)
theorem A45 {H:AH} {x:Value} (hx:(A0b x).length=1) (hc:(A0b x).all isCell=true):A6a Tryz.prog 86 1 [(0,x)] H=some (.slice (some ⟨H.next,0,some 0⟩) 1 1,(H.new 1 (A0b x)).2):=A6r Tryz.underlying86 A3e B2d rfl (Nat.le_of_ble_eq_true rfl) (Nat.le_of_ble_eq_true rfl) hx hc
theorem len_88 {H:AH} {n c:Nat} {a:Option Addr}:A7a Tryz.prog .len [88] [.slice a n c] H=some (.int .i64 (n:Int),H):=A4h Tryz.underlying88
theorem info_88:((Tryz.prog.info? 23).map fun i=>Nat.beq i.size 1 && Nat.ble i.bytes 65536)=some true:=by kernel_rfl
theorem C7f {c:Bool} {a:Option Addr} {n m:Nat}:abin Tryz.prog 88 c .eql (.slice a n m) (.slice none 0 0)=some (.bool a.isNone):=A2i Tryz.underlying88
theorem B6t {c:Bool} {a:Option Addr} {n m:Nat}:abin Tryz.prog 88 c .neq (.slice a n m) (.slice none 0 0)=some (.bool a.isSome):=A2d Tryz.underlying88
theorem mk_88 {H:AH} {l c:Nat} (hlc:l≤c) (hc:c≤1073741824):A6i Tryz.prog 88 (.int .i64 (l:Int)) (.int .i64 (c:Int)) H=some (.slice (some ⟨H.next,0,some 0⟩) l c,(H.new 1 (List.replicate c (.slice none 0 0))).2):=by rw [← A14]; exact B8e Tryz.underlying88 info_88 B2p rfl (Nat.le_of_ble_eq_true rfl) hlc hc
theorem B2v {H:AH}:A6a Tryz.prog 88 0 [] H=some (.slice (some ⟨H.next,0,some 0⟩) 0 0,(H.new 1 []).2):=A1i Tryz.underlying88 A86 B2p rfl (Nat.le_of_ble_eq_true rfl)
theorem C4n {g o k:Nat}:A1b Tryz.prog 92 0 (.pointer (some ⟨g,o,some k⟩))=some (.pointer (some ⟨g,o+0,some k⟩)):=by have h:=A9a (g:=g) (o:=o) (k:=k) (f:=0) Tryz.underlying92 (Eq.refl (some _)) A3e rfl; exact h
theorem C4z {g o k:Nat}:A1b Tryz.prog 92 1 (.pointer (some ⟨g,o,some k⟩))=some (.pointer (some ⟨g,o+1,some k⟩)):=by have h:=A9a (g:=g) (o:=o) (k:=k) (f:=1) Tryz.underlying92 (Eq.refl (some _)) A3e rfl; exact h
theorem C3l {g o k:Nat}:A1b Tryz.prog 92 2 (.pointer (some ⟨g,o,some k⟩))=some (.pointer (some ⟨g,o+2,some k⟩)):=by have h:=A9a (g:=g) (o:=o) (k:=k) (f:=2) Tryz.underlying92 (Eq.refl (some _)) A9t rfl; exact h
theorem len_93 {H:AH} {n c:Nat} {a:Option Addr}:A7a Tryz.prog .len [93] [.slice a n c] H=some (.int .i64 (n:Int),H):=A4h Tryz.underlying93
theorem B96 {c:Bool} {a:Option Addr} {n m:Nat}:abin Tryz.prog 93 c .eql (.slice a n m) (.slice none 0 0)=some (.bool a.isNone):=A2i Tryz.underlying93
theorem B4r {c:Bool} {a:Option Addr} {n m:Nat}:abin Tryz.prog 93 c .neq (.slice a n m) (.slice none 0 0)=some (.bool a.isSome):=A2d Tryz.underlying93
theorem B7w {H:AH}:A6a Tryz.prog 93 0 [] H=some (.slice (some ⟨H.next,0,some 0⟩) 0 0,(H.new 4 []).2):=A1i Tryz.underlying93 C2l B51 rfl (Nat.le_of_ble_eq_true rfl)
theorem C3m {H:AH} {n c:Nat} {a:Option Addr}:A7a Tryz.prog .len [101] [.slice a n c] H=some (.int .i64 (n:Int),H):=A4h Tryz.underlying101
theorem C9e:((Tryz.prog.info? 108).map fun i=>Nat.beq i.size 1 && Nat.ble i.bytes 65536)=some true:=by kernel_rfl
theorem app_101 {H:AH} {t' len cap n:Nat} {base:Option Addr} {x:Value} {new:List Value} (hx:Sh.srcKind Tryz.prog t' x=true) (hn:Sh.newCells 1 H x=some (n,new)) (hb:len+n≤1073741824):A7a Tryz.prog .append [101,t'] [.slice base len cap,x] H=A2f 1 base len cap n new H:=A83 Tryz.underlying101 C9e A8z rfl (Nat.le_of_ble_eq_true rfl) hx hn hb
theorem B8w {c:Bool} {a:Option Addr} {n m:Nat}:abin Tryz.prog 101 c .eql (.slice a n m) (.slice none 0 0)=some (.bool a.isNone):=A2i Tryz.underlying101
theorem B9j {c:Bool} {a:Option Addr} {n m:Nat}:abin Tryz.prog 101 c .neq (.slice a n m) (.slice none 0 0)=some (.bool a.isSome):=A2d Tryz.underlying101
theorem mk_101 {H:AH} {l c:Nat} (hlc:l≤c) (hc:c≤1073741824):A6i Tryz.prog 101 (.int .i64 (l:Int)) (.int .i64 (c:Int)) H=some (.slice (some ⟨H.next,0,some 0⟩) l c,(H.new 1 (List.replicate c (.slice none 0 0))).2):=by rw [← A14]; exact B8e Tryz.underlying101 C9e A8z rfl (Nat.le_of_ble_eq_true rfl) hlc hc
theorem B5m {H:AH}:A6a Tryz.prog 101 0 [] H=some (.slice (some ⟨H.next,0,some 0⟩) 0 0,(H.new 1 []).2):=A1i Tryz.underlying101 A1s A8z rfl (Nat.le_of_ble_eq_true rfl)
theorem C7j {H:AH} {x:Value} (hx:(A0b x).length=1) (hc:(A0b x).all isCell=true):A6a Tryz.prog 101 1 [(0,x)] H=some (.slice (some ⟨H.next,0,some 0⟩) 1 1,(H.new 1 (A0b x)).2):=A6r Tryz.underlying101 A1s A8z rfl (Nat.le_of_ble_eq_true rfl) (Nat.le_of_ble_eq_true rfl) hx hc
theorem C6e {g o k:Nat}:A1b Tryz.prog 103 0 (.pointer (some ⟨g,o,some k⟩))=some (.pointer (some ⟨g,o+0,some k⟩)):=by have h:=A9a (g:=g) (o:=o) (k:=k) (f:=0) Tryz.underlying103 (Eq.refl (some _)) A8x rfl; exact h
theorem B68 {g o k:Nat}:A1b Tryz.prog 103 1 (.pointer (some ⟨g,o,some k⟩))=some (.pointer (some ⟨g,o+1,some k⟩)):=by have h:=A9a (g:=g) (o:=o) (k:=k) (f:=1) Tryz.underlying103 (Eq.refl (some _)) B49 rfl; exact h
theorem C2d {g o k:Nat}:A1b Tryz.prog 103 2 (.pointer (some ⟨g,o,some k⟩))=some (.pointer (some ⟨g,o+2,some k⟩)):=by have h:=A9a (g:=g) (o:=o) (k:=k) (f:=2) Tryz.underlying103 (Eq.refl (some _)) B0q rfl; exact h
theorem C8g {g o k:Nat}:A1b Tryz.prog 103 3 (.pointer (some ⟨g,o,some k⟩))=some (.pointer (some ⟨g,o+3,some k⟩)):=by have h:=A9a (g:=g) (o:=o) (k:=k) (f:=3) Tryz.underlying103 (Eq.refl (some _)) B0q rfl; exact h
theorem B89 {g o k:Nat}:A1b Tryz.prog 107 0 (.pointer (some ⟨g,o,some k⟩))=some (.pointer (some ⟨g,o+0,some k⟩)):=by have h:=A9a (g:=g) (o:=o) (k:=k) (f:=0) Tryz.underlying107 (Eq.refl (some _)) A3e rfl; exact h
theorem C5c {g o k:Nat}:A1b Tryz.prog 107 1 (.pointer (some ⟨g,o,some k⟩))=some (.pointer (some ⟨g,o+1,some k⟩)):=by have h:=A9a (g:=g) (o:=o) (k:=k) (f:=1) Tryz.underlying107 (Eq.refl (some _)) A3e rfl; exact h
theorem C0d {g o k:Nat}:A1b Tryz.prog 107 2 (.pointer (some ⟨g,o,some k⟩))=some (.pointer (some ⟨g,o+2,some k⟩)):=by have h:=A9a (g:=g) (o:=o) (k:=k) (f:=2) Tryz.underlying107 (Eq.refl (some _)) A3e rfl; exact h
theorem B57 {g o k:Nat}:A1b Tryz.prog 107 3 (.pointer (some ⟨g,o,some k⟩))=some (.pointer (some ⟨g,o+3,some k⟩)):=by have h:=A9a (g:=g) (o:=o) (k:=k) (f:=3) Tryz.underlying107 (Eq.refl (some _)) A3e rfl; exact h
theorem C5w {v0 v1 v2 v3:Value} (h0:isCell v0=true) (h1:isCell v1=true) (h2:isCell v2=true) (h3:isCell v3=true):A9l Tryz.prog 107 [(0,v0),(1,v1),(2,v2),(3,v3)]=some (.agg #[v0,v1,v2,v3]):=by refine A3i (pl:=[(0,1),(1,1),(2,1),(3,1)]) Tryz.underlying107 A3z (by kernel_rfl) ?_; have va:∀ xs:Array Value,A0b (.agg xs)=xs.toList:=fun _=>rfl; simp [A3s,A4b h0,A4b h1,A4b h2,A4b h3,va,h0,h1,h2,h3,setCells,A8a,A5b]
theorem C2u {H:AH} {n c:Nat} {a:Option Addr}:A7a Tryz.prog .len [108] [.slice a n c] H=some (.int .i64 (n:Int),H):=A4h Tryz.underlying108
theorem info_108:((Tryz.prog.info? 107).map fun i=>Nat.beq i.size 4 && Nat.ble i.bytes 65536)=some true:=by kernel_rfl
theorem B88 {H:AH} {len cap:Nat} {base:Option Addr} {x:List Value} (hx:x.length=4) (hb:len≤1073741823):A7a Tryz.prog .append [108,108] [.slice base len cap,.slice (some ⟨H.next,0,some 0⟩) 1 1] (H.new 4 x).2=A2f 4 base len cap 1 x (H.new 4 x).2:=A7q Tryz.underlying108 info_108 A3z rfl (Nat.le_of_ble_eq_true rfl) hx hb
theorem B8v {c:Bool} {a:Option Addr} {n m:Nat}:abin Tryz.prog 108 c .eql (.slice a n m) (.slice none 0 0)=some (.bool a.isNone):=A2i Tryz.underlying108
theorem B8k {c:Bool} {a:Option Addr} {n m:Nat}:abin Tryz.prog 108 c .neq (.slice a n m) (.slice none 0 0)=some (.bool a.isSome):=A2d Tryz.underlying108
theorem B7j {H:AH}:A6a Tryz.prog 108 0 [] H=some (.slice (some ⟨H.next,0,some 0⟩) 0 0,(H.new 4 []).2):=A1i Tryz.underlying108 A4w A3z rfl (Nat.le_of_ble_eq_true rfl)
theorem B9l {H:AH} {x:Value} (hx:(A0b x).length=4) (hc:(A0b x).all isCell=true):A6a Tryz.prog 108 1 [(0,x)] H=some (.slice (some ⟨H.next,0,some 0⟩) 1 1,(H.new 4 (A0b x)).2):=A6r Tryz.underlying108 A4w A3z rfl (Nat.le_of_ble_eq_true rfl) (Nat.le_of_ble_eq_true rfl) hx hc
theorem C8q {H:AH} {n c:Nat} {a:Option Addr}:A7a Tryz.prog .len [118] [.slice a n c] H=some (.int .i64 (n:Int),H):=A4h Tryz.underlying118
theorem B6u {c:Bool} {a:Option Addr} {n m:Nat}:abin Tryz.prog 118 c .eql (.slice a n m) (.slice none 0 0)=some (.bool a.isNone):=A2i Tryz.underlying118
theorem B3n {c:Bool} {a:Option Addr} {n m:Nat}:abin Tryz.prog 118 c .neq (.slice a n m) (.slice none 0 0)=some (.bool a.isSome):=A2d Tryz.underlying118
theorem B4j {H:AH}:A6a Tryz.prog 118 0 [] H=some (.slice (some ⟨H.next,0,some 0⟩) 0 0,(H.new 1 []).2):=A1i Tryz.underlying118 size_60 B83 rfl (Nat.le_of_ble_eq_true rfl)
theorem B95 {g o k:Nat}:A1b Tryz.prog 120 0 (.pointer (some ⟨g,o,some k⟩))=some (.pointer (some ⟨g,o+0,some k⟩)):=by have h:=A9a (g:=g) (o:=o) (k:=k) (f:=0) Tryz.underlying120 (Eq.refl (some _)) A3e rfl; exact h
theorem C0e {g o k:Nat}:A1b Tryz.prog 120 1 (.pointer (some ⟨g,o,some k⟩))=some (.pointer (some ⟨g,o+1,some k⟩)):=by have h:=A9a (g:=g) (o:=o) (k:=k) (f:=1) Tryz.underlying120 (Eq.refl (some _)) A3e rfl; exact h
theorem C7y {H:AH} {n c:Nat} {a:Option Addr}:A7a Tryz.prog .len [122] [.slice a n c] H=some (.int .i64 (n:Int),H):=A4h Tryz.underlying122
theorem B7u {c:Bool} {a:Option Addr} {n m:Nat}:abin Tryz.prog 122 c .eql (.slice a n m) (.slice none 0 0)=some (.bool a.isNone):=A2i Tryz.underlying122
theorem B6m {c:Bool} {a:Option Addr} {n m:Nat}:abin Tryz.prog 122 c .neq (.slice a n m) (.slice none 0 0)=some (.bool a.isSome):=A2d Tryz.underlying122
theorem B5k {H:AH}:A6a Tryz.prog 122 0 [] H=some (.slice (some ⟨H.next,0,some 0⟩) 0 0,(H.new 2 []).2):=A1i Tryz.underlying122 C3e B8n rfl (Nat.le_of_ble_eq_true rfl)
theorem C3z {H:AH} {n c:Nat} {a:Option Addr}:A7a Tryz.prog .len [131] [.slice a n c] H=some (.int .i64 (n:Int),H):=A4h Tryz.underlying131
theorem info_131:((Tryz.prog.info? 134).map fun i=>Nat.beq i.size 3 && Nat.ble i.bytes 65536)=some true:=by kernel_rfl
theorem app1_131 {H:AH} {len cap:Nat} {base:Option Addr} {x:List Value} (hx:x.length=3) (hb:len≤1073741823):A7a Tryz.prog .append [131,131] [.slice base len cap,.slice (some ⟨H.next,0,some 0⟩) 1 1] (H.new 3 x).2=A2f 3 base len cap 1 x (H.new 3 x).2:=A7q Tryz.underlying131 info_131 A70 rfl (Nat.le_of_ble_eq_true rfl) hx hb
theorem B8x {c:Bool} {a:Option Addr} {n m:Nat}:abin Tryz.prog 131 c .eql (.slice a n m) (.slice none 0 0)=some (.bool a.isNone):=A2i Tryz.underlying131
theorem B2i {c:Bool} {a:Option Addr} {n m:Nat}:abin Tryz.prog 131 c .neq (.slice a n m) (.slice none 0 0)=some (.bool a.isSome):=A2d Tryz.underlying131
theorem B5j {H:AH}:A6a Tryz.prog 131 0 [] H=some (.slice (some ⟨H.next,0,some 0⟩) 0 0,(H.new 3 []).2):=A1i Tryz.underlying131 A40 A70 rfl (Nat.le_of_ble_eq_true rfl)
theorem C9k {H:AH} {x:Value} (hx:(A0b x).length=3) (hc:(A0b x).all isCell=true):A6a Tryz.prog 131 1 [(0,x)] H=some (.slice (some ⟨H.next,0,some 0⟩) 1 1,(H.new 3 (A0b x)).2):=A6r Tryz.underlying131 A40 A70 rfl (Nat.le_of_ble_eq_true rfl) (Nat.le_of_ble_eq_true rfl) hx hc
theorem B06 {g o k:Nat}:A1b Tryz.prog 134 0 (.pointer (some ⟨g,o,some k⟩))=some (.pointer (some ⟨g,o+0,some k⟩)):=by have h:=A9a (g:=g) (o:=o) (k:=k) (f:=0) Tryz.underlying134 (Eq.refl (some _)) A3e rfl; exact h
theorem B47 {g o k:Nat}:A1b Tryz.prog 134 1 (.pointer (some ⟨g,o,some k⟩))=some (.pointer (some ⟨g,o+1,some k⟩)):=by have h:=A9a (g:=g) (o:=o) (k:=k) (f:=1) Tryz.underlying134 (Eq.refl (some _)) A9t rfl; exact h
theorem C5n {H:AH} {n c:Nat} {a:Option Addr}:A7a Tryz.prog .len [137] [.slice a n c] H=some (.int .i64 (n:Int),H):=A4h Tryz.underlying137
theorem info_137:((Tryz.prog.info? 139).map fun i=>Nat.beq i.size 2 && Nat.ble i.bytes 65536)=some true:=by kernel_rfl
theorem app1_137 {H:AH} {len cap:Nat} {base:Option Addr} {x:List Value} (hx:x.length=2) (hb:len≤1073741823):A7a Tryz.prog .append [137,137] [.slice base len cap,.slice (some ⟨H.next,0,some 0⟩) 1 1] (H.new 2 x).2=A2f 2 base len cap 1 x (H.new 2 x).2:=A7q Tryz.underlying137 info_137 A7z rfl (Nat.le_of_ble_eq_true rfl) hx hb
theorem B4s {c:Bool} {a:Option Addr} {n m:Nat}:abin Tryz.prog 137 c .eql (.slice a n m) (.slice none 0 0)=some (.bool a.isNone):=A2i Tryz.underlying137
theorem B2k {c:Bool} {a:Option Addr} {n m:Nat}:abin Tryz.prog 137 c .neq (.slice a n m) (.slice none 0 0)=some (.bool a.isSome):=A2d Tryz.underlying137
theorem B5n {H:AH}:A6a Tryz.prog 137 0 [] H=some (.slice (some ⟨H.next,0,some 0⟩) 0 0,(H.new 2 []).2):=A1i Tryz.underlying137 A6w A7z rfl (Nat.le_of_ble_eq_true rfl)
theorem C4h {H:AH} {x:Value} (hx:(A0b x).length=2) (hc:(A0b x).all isCell=true):A6a Tryz.prog 137 1 [(0,x)] H=some (.slice (some ⟨H.next,0,some 0⟩) 1 1,(H.new 2 (A0b x)).2):=A6r Tryz.underlying137 A6w A7z rfl (Nat.le_of_ble_eq_true rfl) (Nat.le_of_ble_eq_true rfl) hx hc
theorem C8a {g o k:Nat}:A1b Tryz.prog 139 0 (.pointer (some ⟨g,o,some k⟩))=some (.pointer (some ⟨g,o+0,some k⟩)):=by have h:=A9a (g:=g) (o:=o) (k:=k) (f:=0) Tryz.underlying139 (Eq.refl (some _)) A0m rfl; exact h
theorem C3b {g o k:Nat}:A1b Tryz.prog 139 1 (.pointer (some ⟨g,o,some k⟩))=some (.pointer (some ⟨g,o+1,some k⟩)):=by have h:=A9a (g:=g) (o:=o) (k:=k) (f:=1) Tryz.underlying139 (Eq.refl (some _)) A3e rfl; exact h
theorem bld_139 {v0 v1:Value} (h0:isCell v0=true) (h1:isCell v1=true):A9l Tryz.prog 139 [(0,v0),(1,v1)]=some (.agg #[v0,v1]):=by refine A3i (pl:=[(0,1),(1,1)]) Tryz.underlying139 A7z (by kernel_rfl) ?_; have va:∀ xs:Array Value,A0b (.agg xs)=xs.toList:=fun _=>rfl; simp [A3s,A4b h0,A4b h1,va,h0,h1,setCells,A8a,A5b]
theorem C6g {H:AH} {n:Int}:A3k Tryz.prog 3 169 (.int .i64 n) H=some (.int .u64 (IntKind.wrap .u64 n),H):=A4v Tryz.underlying3 Tryz.underlying169
theorem B16 {H:AH} {n:Int}:A3k Tryz.prog 3 231 (.int .i64 n) H=some (.int .u64 (IntKind.wrap .u64 n),H):=A4v Tryz.underlying3 Tryz.underlying231
theorem cv_5_3 {H:AH} {n:Int}:A3k Tryz.prog 5 3 (.int .u8 n) H=some (.int .i64 (IntKind.wrap .i64 n),H):=A4v Tryz.underlying5 Tryz.underlying3
theorem C0b {H:AH} {n:Int}:A3k Tryz.prog 169 3 (.int .u64 n) H=some (.int .i64 (IntKind.wrap .i64 n),H):=A4v Tryz.underlying169 Tryz.underlying3
theorem B8j {H:AH} {n:Int}:A3k Tryz.prog 169 226 (.int .u64 n) H=some (.int .u32 (IntKind.wrap .u32 n),H):=A4v Tryz.underlying169 Tryz.underlying226
theorem C1c {H:AH} {n:Int}:A3k Tryz.prog 212 5 (.int .u64 n) H=some (.int .u8 (IntKind.wrap .u8 n),H):=A4v Tryz.underlying212 Tryz.underlying5
theorem C5d {H:AH} {n:Int}:A3k Tryz.prog 226 5 (.int .u32 n) H=some (.int .u8 (IntKind.wrap .u8 n),H):=A4v Tryz.underlying226 Tryz.underlying5
theorem B3u:type_of% (And.intro @zero_1 (And.intro @ld_1 (And.intro @zero_2 (And.intro @ld_2 (And.intro @B2d (And.intro @ld_3 (And.intro @A79 (And.intro @ld_4 (And.intro @zero_5 (And.intro @ld_5 (And.intro @C1a (And.intro @ld_9 (And.intro @B4q (And.intro @ld_22 (And.intro @B2p (And.intro @ld_23 (And.intro @C1m (And.intro @ld_24 (And.intro @A71 (And.intro @ld_26 (And.intro @C0v (And.intro @ld_28 (And.intro @C3y (And.intro @ld_34 (And.intro @A76 (And.intro @ld_43 (And.intro @A46 (And.intro @ld_45 (And.intro @C0n (And.intro @ld_48 (And.intro @C7l (And.intro @ld_51 (And.intro @B83 (And.intro @ld_60 (And.intro @C9l (And.intro @ld_62 (And.intro @B93 (And.intro @ld_64 (And.intro @C0q (And.intro @ld_76 (And.intro @A57 (And.intro @ld_79 (And.intro @C0l (And.intro @ld_80 (And.intro @C1l (And.intro @ld_81 (And.intro @B41 (And.intro @ld_83 (And.intro @C9o (And.intro @ld_86 (And.intro @C2t (And.intro @ld_88 (And.intro @B51 (And.intro @ld_92 (And.intro @C8p (And.intro @ld_93 (And.intro @C7z (And.intro @ld_94 (And.intro @C5x (And.intro @ld_99 (And.intro @C8e (And.intro @ld_101 (And.intro @B3r (And.intro @ld_103 (And.intro @A3z (And.intro @ld_107 (And.intro @A8z (And.intro @ld_108 (And.intro @B36 (And.intro @ld_113 (And.intro @B29 (And.intro @ld_118 (And.intro @B8n (And.intro @ld_120 (And.intro @C7a (And.intro @ld_121 (And.intro @B58 (And.intro @ld_122 (And.intro @C9g (And.intro @ld_124 (And.intro @C6c (And.intro @ld_131 (And.intro @B78 (And.intro @ld_132 (And.intro @A70 (And.intro @ld_134 (And.intro @C2b (And.intro @ld_135 (And.intro @B9a (And.intro @ld_137 (And.intro @A7z (And.intro @ld_139 (And.intro @C6d (And.intro @ld_146 (And.intro @C3d (And.intro @ld_152 (And.intro @B99 (And.intro @ld_169 (And.intro @C4f (And.intro @ld_212 (And.intro @C3f (And.intro @ld_218 (And.intro @C0a (And.intro @ld_226 (And.intro @C6a (And.intro @ld_231 (And.intro @C9b (And.intro @ld_235 (And.intro @B66 (And.intro @ld_237 (And.intro @len_9 (And.intro @len_22 (And.intro @C4d (And.intro @B1x (And.intro @B7y (And.intro @len_23 (And.intro @B48 (And.intro @B1y (And.intro @B9u (And.intro @len_24 (And.intro @C0g (And.intro @B20 (And.intro @B5x (And.intro @C6q (And.intro @C5s (And.intro @C3q (And.intro @C3o (And.intro @C9x (And.intro @C0m (And.intro @C0s (And.intro @C4p (And.intro @C8s (And.intro @C1r (And.intro @C7t (And.intro @C4y (And.intro @C4x (And.intro @C6v (And.intro @C4w (And.intro @len_48 (And.intro @C1g (And.intro @B0x (And.intro @B8y (And.intro @C1x (And.intro @B37 (And.intro @B5s (And.intro @B9s (And.intro @C7u (And.intro @len_76 (And.intro @B27 (And.intro @B9v (And.intro @B1u (And.intro @C3n (And.intro @C9n (And.intro @len_80 (And.intro @C4a (And.intro @B0u (And.intro @B8r (And.intro @len_81 (And.intro @B59 (And.intro @B5u (And.intro @B10 (And.intro @C9w (And.intro @C8l (And.intro @C7q (And.intro @len_86 (And.intro @C4g (And.intro @B4x (And.intro @B3z (And.intro @len_88 (And.intro @C7f (And.intro @B6t (And.intro @B2v (And.intro @C4n (And.intro @C4z (And.intro @C3l (And.intro @len_93 (And.intro @B96 (And.intro @B4r (And.intro @B7w (And.intro @C3m (And.intro @B8w (And.intro @B9j (And.intro @B5m (And.intro @C6e (And.intro @B68 (And.intro @C2d (And.intro @C8g (And.intro @B89 (And.intro @C5c (And.intro @C0d (And.intro @B57 (And.intro @C2u (And.intro @B8v (And.intro @B8k (And.intro @B7j (And.intro @C8q (And.intro @B6u (And.intro @B3n (And.intro @B4j (And.intro @B95 (And.intro @C0e (And.intro @C7y (And.intro @B7u (And.intro @B6m (And.intro @B5k (And.intro @C3z (And.intro @B8x (And.intro @B2i (And.intro @B5j (And.intro @B06 (And.intro @B47 (And.intro @C5n (And.intro @B4s (And.intro @B2k (And.intro @B5n (And.intro @C8a (And.intro @C3b (And.intro @C6g (And.intro @B16 (And.intro @cv_5_3 (And.intro @C0b (And.intro @B8j (And.intro @C1c (@C5d)))))))))))))))))))))))))))))))))))))))))))))))))))))))))))))))))))))))))))))))))))))))))))))))))))))))))))))))))))))))))))))))))))))))))))))))))))))))))))))))))))))))))))))))))))))))))))))))))))))))))))))))))))))))))))))))):=And.intro @zero_1 (And.intro @ld_1 (And.intro @zero_2 (And.intro @ld_2 (And.intro @B2d (And.intro @ld_3 (And.intro @A79 (And.intro @ld_4 (And.intro @zero_5 (And.intro @ld_5 (And.intro @C1a (And.intro @ld_9 (And.intro @B4q (And.intro @ld_22 (And.intro @B2p (And.intro @ld_23 (And.intro @C1m (And.intro @ld_24 (And.intro @A71 (And.intro @ld_26 (And.intro @C0v (And.intro @ld_28 (And.intro @C3y (And.intro @ld_34 (And.intro @A76 (And.intro @ld_43 (And.intro @A46 (And.intro @ld_45 (And.intro @C0n (And.intro @ld_48 (And.intro @C7l (And.intro @ld_51 (And.intro @B83 (And.intro @ld_60 (And.intro @C9l (And.intro @ld_62 (And.intro @B93 (And.intro @ld_64 (And.intro @C0q (And.intro @ld_76 (And.intro @A57 (And.intro @ld_79 (And.intro @C0l (And.intro @ld_80 (And.intro @C1l (And.intro @ld_81 (And.intro @B41 (And.intro @ld_83 (And.intro @C9o (And.intro @ld_86 (And.intro @C2t (And.intro @ld_88 (And.intro @B51 (And.intro @ld_92 (And.intro @C8p (And.intro @ld_93 (And.intro @C7z (And.intro @ld_94 (And.intro @C5x (And.intro @ld_99 (And.intro @C8e (And.intro @ld_101 (And.intro @B3r (And.intro @ld_103 (And.intro @A3z (And.intro @ld_107 (And.intro @A8z (And.intro @ld_108 (And.intro @B36 (And.intro @ld_113 (And.intro @B29 (And.intro @ld_118 (And.intro @B8n (And.intro @ld_120 (And.intro @C7a (And.intro @ld_121 (And.intro @B58 (And.intro @ld_122 (And.intro @C9g (And.intro @ld_124 (And.intro @C6c (And.intro @ld_131 (And.intro @B78 (And.intro @ld_132 (And.intro @A70 (And.intro @ld_134 (And.intro @C2b (And.intro @ld_135 (And.intro @B9a (And.intro @ld_137 (And.intro @A7z (And.intro @ld_139 (And.intro @C6d (And.intro @ld_146 (And.intro @C3d (And.intro @ld_152 (And.intro @B99 (And.intro @ld_169 (And.intro @C4f (And.intro @ld_212 (And.intro @C3f (And.intro @ld_218 (And.intro @C0a (And.intro @ld_226 (And.intro @C6a (And.intro @ld_231 (And.intro @C9b (And.intro @ld_235 (And.intro @B66 (And.intro @ld_237 (And.intro @len_9 (And.intro @len_22 (And.intro @C4d (And.intro @B1x (And.intro @B7y (And.intro @len_23 (And.intro @B48 (And.intro @B1y (And.intro @B9u (And.intro @len_24 (And.intro @C0g (And.intro @B20 (And.intro @B5x (And.intro @C6q (And.intro @C5s (And.intro @C3q (And.intro @C3o (And.intro @C9x (And.intro @C0m (And.intro @C0s (And.intro @C4p (And.intro @C8s (And.intro @C1r (And.intro @C7t (And.intro @C4y (And.intro @C4x (And.intro @C6v (And.intro @C4w (And.intro @len_48 (And.intro @C1g (And.intro @B0x (And.intro @B8y (And.intro @C1x (And.intro @B37 (And.intro @B5s (And.intro @B9s (And.intro @C7u (And.intro @len_76 (And.intro @B27 (And.intro @B9v (And.intro @B1u (And.intro @C3n (And.intro @C9n (And.intro @len_80 (And.intro @C4a (And.intro @B0u (And.intro @B8r (And.intro @len_81 (And.intro @B59 (And.intro @B5u (And.intro @B10 (And.intro @C9w (And.intro @C8l (And.intro @C7q (And.intro @len_86 (And.intro @C4g (And.intro @B4x (And.intro @B3z (And.intro @len_88 (And.intro @C7f (And.intro @B6t (And.intro @B2v (And.intro @C4n (And.intro @C4z (And.intro @C3l (And.intro @len_93 (And.intro @B96 (And.intro @B4r (And.intro @B7w (And.intro @C3m (And.intro @B8w (And.intro @B9j (And.intro @B5m (And.intro @C6e (And.intro @B68 (And.intro @C2d (And.intro @C8g (And.intro @B89 (And.intro @C5c (And.intro @C0d (And.intro @B57 (And.intro @C2u (And.intro @B8v (And.intro @B8k (And.intro @B7j (And.intro @C8q (And.intro @B6u (And.intro @B3n (And.intro @B4j (And.intro @B95 (And.intro @C0e (And.intro @C7y (And.intro @B7u (And.intro @B6m (And.intro @B5k (And.intro @C3z (And.intro @B8x (And.intro @B2i (And.intro @B5j (And.intro @B06 (And.intro @B47 (And.intro @C5n (And.intro @B4s (And.intro @B2k (And.intro @B5n (And.intro @C8a (And.intro @C3b (And.intro @C6g (And.intro @B16 (And.intro @cv_5_3 (And.intro @C0b (And.intro @B8j (And.intro @C1c (@C5d)))))))))))))))))))))))))))))))))))))))))))))))))))))))))))))))))))))))))))))))))))))))))))))))))))))))))))))))))))))))))))))))))))))))))))))))))))))))))))))))))))))))))))))))))))))))))))))))))))))))))))))))))))))))))))))))
theorem sx:type_of% (And.intro @Sh.sy @B3u):=And.intro @Sh.sy @B3u
end Go.Proofs.YtnoengaghabmjaaGreatDoor
/- Nets in memory: what is made and written of them. -/
set_option maxHeartbeats 4000000
namespace Go.Proofs.YtnoengaghabmjaaGreatDoor
open Go Go.Proofs Go.Proofs.Sh
section
variable {H:AH} {g:Nat} {sg ar en v:Value} {N:NetD}
theorem A0n (hsg:isCell sg=true) (har:isCell ar=true) (hen:isCell en=true) {n:Int}:anew Tryz.prog 26 H (.agg #[sg,.int .i64 n,ar,en])=some (.pointer (some ⟨H.next,0,some 0⟩),(H.new 4 [sg,.int .i64 n,ar,en]).2):=
 A9m (vs:=[sg,.int .i64 n,ar,en]) A6p rfl (by simp [hsg,har,hen,show isCell (.int .i64 n)=true from rfl])
theorem A8v (hsg:isCell sg=true) (har:isCell ar=true) (hen:isCell en=true) {n:Int} {p:Addr}:A8f Tryz.prog 26 H (.agg #[sg,.int .i64 n,ar,en]) (.pointer (some p))=H.write p [sg,.int .i64 n,ar,en]:=
 A8o (vs:=[sg,.int .i64 n,ar,en]) A6p rfl (by simp [hsg,har,hen,show isCell (.int .i64 n)=true from rfl])
theorem A2c:anew Tryz.prog 26 H (.agg #[.slice none 0 0,.int .i64 0,.slice none 0 0,.slice none 0 0])=some (.pointer (some ⟨H.next,0,some 0⟩),(H.new 4 [.slice none 0 0,.int .i64 0,.slice none 0 0,.slice none 0 0]).2):=A9m (vs:=[.slice none 0 0,.int .i64 0,.slice none 0 0,.slice none 0 0]) A6p rfl rfl
theorem A1e:anew Tryz.prog 43 H (.agg #[.int .i64 0,.string ⟨#[]⟩,.string ⟨#[]⟩,.int .i64 0,.int .i64 0])=some (.pointer (some ⟨H.next,0,some 0⟩),(H.new 5 [.int .i64 0,.string ⟨#[]⟩,.string ⟨#[]⟩,.int .i64 0,.int .i64 0]).2):=
 A9m (vs:=[.int .i64 0,.string ⟨#[]⟩,.string ⟨#[]⟩,.int .i64 0,.int .i64 0]) A8l rfl rfl
theorem A7d:anew Tryz.prog 45 H (.agg #[.int .i64 0,.int .i64 0])=some (.pointer (some ⟨H.next,0,some 0⟩),(H.new 2 [.int .i64 0,.int .i64 0]).2):=A9m (vs:=[.int .i64 0,.int .i64 0]) A6q rfl rfl
theorem A4g {a:ArcD}:anew Tryz.prog 43 H (.agg a.cells.toArray)=some (.pointer (some ⟨H.next,0,some 0⟩),(H.new 5 a.cells).2):=A9m (vs:=a.cells) A8l rfl rfl
theorem A5g {a:EndD}:anew Tryz.prog 45 H (.agg a.cells.toArray)=some (.pointer (some ⟨H.next,0,some 0⟩),(H.new 2 a.cells).2):=A9m (vs:=a.cells) A6q rfl rfl
theorem A0c {a:ArcD} {p:Addr}:A8f Tryz.prog 43 H (.agg a.cells.toArray) (.pointer (some p))=H.write p a.cells:=A8o A8l rfl rfl
theorem A1c {a:EndD} {p:Addr}:A8f Tryz.prog 45 H (.agg a.cells.toArray) (.pointer (some p))=H.write p a.cells:=A8o A6q rfl rfl
theorem A0e {a:ArcD} {x0 x1 x2 x3 x4:Value}:(H.new 5 [x0,x1,x2,x3,x4]).2.write ⟨H.next,0,some 0⟩ a.cells=some (H.new 5 a.cells).2:=A3p rfl
theorem A8d {a:EndD} {x0 x1:Value}:(H.new 2 [x0,x1]).2.write ⟨H.next,0,some 0⟩ a.cells=some (H.new 2 a.cells).2:=A3p rfl
theorem A7c {x0 x1 x2 x3 y0 y1 y2 y3:Value}:(H.new 4 [x0,x1,x2,x3]).2.write ⟨H.next,0,some 0⟩ [y0,y1,y2,y3]=some (H.new 4 [y0,y1,y2,y3]).2:=A3p rfl
theorem arc0 {a:ArcD}:(H.new 5 a.cells).2.cell ⟨H.next,0,some 0⟩=some (.int .i64 a.fr):=A8k _ _ _
theorem arc1 {a:ArcD}:(H.new 5 a.cells).2.cell ⟨H.next,1,some 0⟩=some (.string a.inn):=A8k _ _ _
theorem arc2 {a:ArcD}:(H.new 5 a.cells).2.cell ⟨H.next,2,some 0⟩=some (.string a.out):=A8k _ _ _
theorem arc3 {a:ArcD}:(H.new 5 a.cells).2.cell ⟨H.next,3,some 0⟩=some (.int .i64 a.to):=A8k _ _ _
theorem arc4 {a:ArcD}:(H.new 5 a.cells).2.cell ⟨H.next,4,some 0⟩=some (.int .i64 a.cost):=A8k _ _ _
theorem end0 {a:EndD}:(H.new 2 a.cells).2.cell ⟨H.next,0,some 0⟩=some (.int .i64 a.state):=A8k _ _ _
theorem end1 {a:EndD}:(H.new 2 a.cells).2.cell ⟨H.next,1,some 0⟩=some (.int .i64 a.cost):=A8k _ _ _
theorem A3a (h:NetBox H g sg ar en N) {H':AH}:A7a Tryz.prog .len [22] [sg] H'=some (.int .i64 (N.sigma.length:Int),H'):=by rw [h.hsg.len Tryz.underlying22 H',List.length_map]
theorem A1a (h:NetBox H g sg ar en N) {H':AH}:A7a Tryz.prog .len [23] [ar] H'=some (.int .i64 (N.arcs.length:Int),H'):=by rw [h.har.len Tryz.underlying23 H',List.length_map]
theorem A2a (h:NetBox H g sg ar en N) {H':AH}:A7a Tryz.prog .len [24] [en] H'=some (.int .i64 (N.ends.length:Int),H'):=by rw [h.hen.len Tryz.underlying24 H',List.length_map]
theorem B9p {d:Nat} {a b:Int}:eqT Tryz.prog (d+1) 3 (.int .i64 a) (.int .i64 b)=some (decide (a=b)):=by
 simp only [eqT,Tryz.underlying3,A2g,cond_true,A2r]; rfl
end
end Go.Proofs.YtnoengaghabmjaaGreatDoor
/- Whether a text of a list is too long for a symbol. -/
set_option linter.unusedSimpArgs false
namespace Go.Proofs.YtnoengaghabmjaaGreatDoor
open Go Go.Proofs Go.Proofs.Sh
theorem anyLong {H:AH} {v:Value} {l:List ByteArray} (hs:Sl H v 1 (l.map A2b)) (hl:l.length≤1048576) (hw:Wf H):
  Sh.Call Tryz.prog (knows 8) 117 [v] H (fun r H'=>Kept H H'∧r=.bool (l.any fun s=>decide (16 < s.size))):=by
 refine A5a rfl Tryz.func117 rfl (Nat.le_of_ble_eq_true rfl) ?_
 have hres:Tryz.f117.results.toList=[.tmp 2]:=rfl
 have hlen:=hs.len Tryz.underlying22 H
 simp only [↓Sh.dn,sx,Nat.reduceBEq,reduceCtorEq,Nat.reduceEqDiff,↓Sh.wp_cond]
 refine A1z l.length (fun i F H'=>H'=H∧F.get 0=some v∧F.get 3=some (.int .i64 (i:Int))∧(l.take i).any (fun s=>decide (16 < s.size))=false) (Nat.zero_le _) ⟨rfl,by simp only [↓Sh.dn,sx,Nat.reduceBEq,reduceCtorEq,Nat.reduceEqDiff,↓Sh.wp_cond],by simp only [↓Sh.dn,sx,Nat.reduceBEq,reduceCtorEq,Nat.reduceEqDiff,↓Sh.wp_cond]; rfl,rfl⟩ ?_
 rintro i F H' hi ⟨rfl,f0,f3,hall⟩ k
 by_cases hlt:i < l.length
 ·obtain ⟨g,o,kk,hia,hc,hcc⟩:=hs.at Tryz.underlying22 A0m (i:=i) (x:=A2b l[i]) (by simp [hlt]) .i64
  have hy:=hcc 0 _ rfl
  simp only [Nat.add_zero] at hy
  have hc16:decide ((16:Int) < ((l[i].size:Nat):Int))=decide (16 < l[i].size):=by
   by_cases h:16 < l[i].size
   ·simp [h]; omega
   ·simp [h]; omega
  simp only [↓Sh.dn,sx,Nat.reduceBEq,reduceCtorEq,Nat.reduceEqDiff,↓Sh.wp_cond,f0,f3,hlen,hia,hy,List.length_map,A4a,hlt,hc16,decide_true,forall_const,reduceCtorEq,false_implies,and_true,true_and,hres]
  refine ⟨fun h=>⟨Kept.refl hw,?_⟩,fun h=>k _ _ hlt ⟨rfl,by simp only [↓Sh.dn,sx,Nat.reduceBEq,reduceCtorEq,Nat.reduceEqDiff,↓Sh.wp_cond,f0],by simp only [↓Sh.dn,sx,Nat.reduceBEq,reduceCtorEq,Nat.reduceEqDiff,↓Sh.wp_cond,wrap_succ hlt hl],?_⟩⟩
  ·have:(l.any fun s=>decide (16 < s.size))=true:=List.any_eq_true.2 ⟨_,List.getElem_mem hlt,h⟩
   rw [this]
  ·rw [List.take_add_one,List.getElem?_eq_getElem hlt]
   simp only [Option.toList,List.any_append,hall,Bool.false_or,List.any_cons,List.any_nil,Bool.or_false]
   exact h
 ·have hin:i=l.length:=by omega
  subst hin
  rw [List.take_length] at hall
  simp only [↓Sh.dn,sx,Nat.reduceBEq,reduceCtorEq,Nat.reduceEqDiff,↓Sh.wp_cond,f0,f3,hlen,List.length_map,A4a,hlt,decide_false,forall_const,reduceCtorEq,false_implies,and_true,true_and,hres]
  exact ⟨Kept.refl hw,by rw [hall]⟩
end Go.Proofs.YtnoengaghabmjaaGreatDoor
/- Whether a text is a symbol. -/
namespace Go.Proofs.YtnoengaghabmjaaGreatDoor
open Go Go.Proofs Go.Proofs.Sh
def badByte (u:UInt8):Bool:=decide (u.toNat < 33) || decide (126 < u.toNat) || decide (u.toNat=60) || decide (u.toNat=62)
def A7x (s:ByteArray):Bool:=!s.data.toList.any badByte && decide (1≤s.size) && decide (s.size≤16)
theorem isSymbol {H:AH} {x:ByteArray} (hl:x.size≤1048576) (hw:Wf H):
  Sh.Call Tryz.prog (knows 8) 145 [.string x] H (fun r H'=>H'=H∧r=.bool (A7x x)):=by
 refine A5a rfl Tryz.func145 rfl (Nat.le_of_ble_eq_true rfl) ?_
 have hres:Tryz.f145.results.toList=[.tmp 2]:=rfl
 have hsz:x.data.toList.length=x.size:=by rw [Array.length_toList]; rfl
 simp only [↓Sh.dn,sx,Nat.reduceBEq,reduceCtorEq,Nat.reduceEqDiff]
 refine A1z x.size (fun i F H'=>H'=H∧F.get 0=some (.string x)∧F.get 3=some (.int .i64 (i:Int))∧(x.data.toList.take i).any badByte=false) (Nat.zero_le _) ⟨rfl,by simp only [↓Sh.dn,sx,Nat.reduceBEq,reduceCtorEq,Nat.reduceEqDiff],by simp only [↓Sh.dn,sx,Nat.reduceBEq,reduceCtorEq,Nat.reduceEqDiff]; rfl,rfl⟩ ?_
 rintro i F H' hi ⟨rfl,f0,f3,hall⟩ k
 by_cases hlt:i < x.size
 ·obtain ⟨u,hu⟩:∃ u,x.data.toList[i]?=some u:=⟨x.data.toList[i]'(by omega),List.getElem?_eq_getElem (by omega)⟩
  have hix:=B0g (P:=Tryz.prog) (j:=.i64) Tryz.underlying9 hu
  have e33:decide ((u.toNat:Int) < 33)=decide (u.toNat < 33):=by by_cases h:u.toNat < 33 <;> simp [h] <;> omega
  have e126:decide (126 < (u.toNat:Int))=decide (126 < u.toNat):=by by_cases h:126 < u.toNat <;> simp [h] <;> omega
  have e60:decide ((u.toNat:Int)=60)=decide (u.toNat=60):=by by_cases h:u.toNat=60 <;> simp [h]; omega
  have e62:decide ((u.toNat:Int)=62)=decide (u.toNat=62):=by by_cases h:u.toNat=62 <;> simp [h]; omega
  have hstep:badByte u=false→(x.data.toList.take (i+1)).any badByte=false:=by
   intro h
   rw [List.take_add_one,hu]
   simp only [Option.toList,List.any_append,hall,Bool.false_or,List.any_cons,List.any_nil,Bool.or_false]
   exact h
  have hbad:badByte u=true→A7x x=false:=by
   intro h
   have:x.data.toList.any badByte=true:=List.any_eq_true.2 ⟨_,List.mem_of_getElem? hu,h⟩
   simp [A7x,this]
  have hgo:badByte u=(decide (u.toNat < 33) || decide (126 < u.toNat) || decide (u.toNat=60) || decide (u.toNat=62)):=rfl
  have five:∀ a b c d:Bool,a=true∨(a=false∧b=true)∨(a=false∧b=false∧c=true)∨(a=false∧b=false∧c=false∧d=true)∨(a=false∧b=false∧c=false∧d=false):=by decide
  rcases five (decide (u.toNat < 33)) (decide (126 < u.toNat)) (decide (u.toNat=60)) (decide (u.toNat=62)) with h1 | ⟨h1,h2⟩ | ⟨h1,h2,h3⟩ | ⟨h1,h2,h3,h4⟩ | ⟨h1,h2,h3,h4⟩ <;> simp only [h1, *,Bool.or_true,Bool.or_false,Bool.true_or,Bool.false_or] at hgo
  ·simp only [↓Sh.dn,sx,Nat.reduceBEq,reduceCtorEq,Nat.reduceEqDiff,f0,f3,hix,A4a,hlt,e33,h1,decide_true,hres,hbad hgo,true_and]
  ·simp only [↓Sh.dn,sx,Nat.reduceBEq,reduceCtorEq,Nat.reduceEqDiff,f0,f3,hix,A4a,hlt,e33,e126,h1,h2,decide_true,hres,hbad hgo,true_and]
  ·simp only [↓Sh.dn,sx,Nat.reduceBEq,reduceCtorEq,Nat.reduceEqDiff,f0,f3,hix,A4a,hlt,e33,e126,e60,h1,h2,h3,decide_true,hres,hbad hgo,true_and]
  ·simp only [↓Sh.dn,sx,Nat.reduceBEq,reduceCtorEq,Nat.reduceEqDiff,f0,f3,hix,A4a,hlt,e33,e126,e60,e62,h1,h2,h3,h4,decide_true,hres,hbad hgo,true_and]
  ·simp only [↓Sh.dn,sx,Nat.reduceBEq,reduceCtorEq,Nat.reduceEqDiff,f0,f3,hix,A4a,hlt,e33,e126,e60,e62,h1,h2,h3,h4,decide_true,hres]
   exact k _ _ hlt ⟨rfl,by simp only [↓Sh.dn,sx,Nat.reduceBEq,reduceCtorEq,Nat.reduceEqDiff,f0],by simp only [↓Sh.dn,sx,Nat.reduceBEq,reduceCtorEq,Nat.reduceEqDiff,wrap_succ hlt hl],hstep hgo⟩
 ·have hin:i=x.size:=by omega
  subst hin
  rw [← hsz,List.take_length] at hall
  have e1:decide ((1:Int)≤((x.size:Nat):Int))=decide (1≤x.size):=by by_cases h:1≤x.size <;> simp [h] <;> omega
  have e16:decide (((x.size:Nat):Int)≤16)=decide (x.size≤16):=by by_cases h:x.size≤16 <;> simp [h] <;> omega
  cases h1:decide (1≤x.size) <;>
   simp only [↓Sh.dn,sx,Nat.reduceBEq,reduceCtorEq,Nat.reduceEqDiff,f0,f3,A4a,hlt,e1,e16,h1,decide_false,Bool.not_true,forall_const,not_true_eq_false,reduceCtorEq,false_implies,and_true,true_and,hres] <;>
   simp [A7x,hall,h1]
end Go.Proofs.YtnoengaghabmjaaGreatDoor
/- Whether all texts of a list are symbols. -/
namespace Go.Proofs.YtnoengaghabmjaaGreatDoor
open Go Go.Proofs Go.Proofs.Sh
theorem C0k {H:AH} {v:Value} {l:List ByteArray} (hs:Sl H v 1 (l.map A2b)) (hl:l.length≤1048576) (hlx:∀ x∈l,x.size≤1048576) (hw:Wf H):
  Sh.Call Tryz.prog (knows 8) 118 [v] H (fun r H'=>H'=H∧r=.bool (l.all A7x)):=by
 refine A5a rfl Tryz.func118 rfl (Nat.le_of_ble_eq_true rfl) ?_
 have hres:Tryz.f118.results.toList=[.tmp 2]:=rfl
 have hlen:=hs.len Tryz.underlying22 H
 simp only [↓Sh.dn,sx,Nat.reduceBEq,reduceCtorEq,Nat.reduceEqDiff]
 refine A1z l.length (fun i F H'=>H'=H∧F.get 0=some v∧F.get 3=some (.int .i64 (i:Int))∧(l.take i).all A7x=true) (Nat.zero_le _) ⟨rfl,by simp only [↓Sh.dn,sx,Nat.reduceBEq,reduceCtorEq,Nat.reduceEqDiff],by simp only [↓Sh.dn,sx,Nat.reduceBEq,reduceCtorEq,Nat.reduceEqDiff]; rfl,rfl⟩ ?_
 rintro i F H' hi ⟨rfl,f0,f3,hall⟩ k
 by_cases hlt:i < l.length
 ·obtain ⟨g,o,kk,hia,hc,hcc⟩:=hs.at Tryz.underlying22 A0m (i:=i) (x:=A2b l[i]) (by simp [hlt]) .i64
  have hy:=hcc 0 _ rfl
  simp only [Nat.add_zero] at hy
  obtain ⟨r,H1,hd,rfl,rfl⟩:=isSymbol (H:=H') (x:=l[i]) (hlx _ (List.getElem_mem hlt)) hw
  simp only [↓Sh.dn,sx,Nat.reduceBEq,reduceCtorEq,Nat.reduceEqDiff,f0,f3,hlen,hia,hy,List.length_map,A4a,hlt,decide_true,forall_const,reduceCtorEq,false_implies,and_true,true_and,hres]
  refine ⟨_,_,hd,?_⟩
  cases hsy:A7x l[i] with
  | false=>
   have:l.all A7x=false:=by
    rw [List.all_eq_false]
    exact ⟨_,List.getElem_mem hlt,by simp [hsy]⟩
   simp only [↓Sh.dn,sx,Nat.reduceBEq,reduceCtorEq,Nat.reduceEqDiff,hres,this]
  | true=>
   simp only [↓Sh.dn,sx,Nat.reduceBEq,reduceCtorEq,Nat.reduceEqDiff,f0,f3]
   refine k _ _ hlt ⟨rfl,by simp only [↓Sh.dn,sx,Nat.reduceBEq,reduceCtorEq,Nat.reduceEqDiff,f0],by simp only [↓Sh.dn,sx,Nat.reduceBEq,reduceCtorEq,Nat.reduceEqDiff,wrap_succ hlt hl],?_⟩
   rw [List.take_add_one,List.getElem?_eq_getElem hlt]
   simp only [Option.toList,List.all_append,hall,Bool.true_and,List.all_cons,List.all_nil,Bool.and_true,hsy]
 ·have hin:i=l.length:=by omega
  subst hin
  rw [List.take_length] at hall
  simp only [↓Sh.dn,sx,Nat.reduceBEq,reduceCtorEq,Nat.reduceEqDiff,f0,f3,hlen,List.length_map,A4a,hlt,decide_false,forall_const,reduceCtorEq,false_implies,and_true,true_and,hres]
  rw [hall]
end Go.Proofs.YtnoengaghabmjaaGreatDoor
/- Whether texts ascend. -/
namespace Go.Proofs.YtnoengaghabmjaaGreatDoor
open Go Go.Proofs Go.Proofs.Sh
def ascB:List ByteArray→Bool
 | x :: y :: l=>A5n x y && ascB (y :: l)
 | _=>true
theorem A60:∀ {l:List ByteArray},ascB l=true↔∀ (i:Nat) x y,l[i]?=some x→l[i+1]?=some y→A5n x y=true
 | []=>by simp [ascB]
 | [a]=>by simp [ascB]
 | a :: b :: l=>by
  simp only [ascB,Bool.and_eq_true,A60 (l:=b :: l)]
  constructor
  ·rintro ⟨h1,h2⟩ i x y hx hy
   cases i with
   | zero=>simp only [List.getElem?_cons_zero,List.getElem?_cons_succ,Option.some.injEq] at hx hy; subst hx hy; exact h1
   | succ i=>exact h2 i x y (by simpa using hx) (by simpa using hy)
  ·intro h
   exact ⟨h 0 a b rfl rfl,fun i x y hx hy=>h (i+1) x y (by simpa using hx) (by simpa using hy)⟩
theorem asc_of {l:List ByteArray} (h:ascB l=true):Asc l:=by
 rw [A60] at h
 intro i j x y hij hx hy
 obtain ⟨d,rfl⟩:∃ d,j=i+1+d:=⟨j - i - 1,by omega⟩
 induction d generalizing y with
 | zero=>exact h i x y hx hy
 | succ d ih=>
  have hjl:=(List.getElem?_eq_some_iff.1 hy).1
  have hz:l[i+1+d]?=some (l[i+1+d]'(by omega)):=List.getElem?_eq_getElem (by omega)
  exact A8w (ih _ (by omega) hz) (h _ _ _ hz hy)
theorem isSet {H:AH} {v:Value} {l:List ByteArray} (hs:Sl H v 1 (l.map A2b)) (hl:l.length≤1048576) (hw:Wf H):
  Sh.Call Tryz.prog (knows 8) 119 [v] H (fun r H'=>H'=H∧r=.bool (ascB l)):=by
 refine A5a rfl Tryz.func119 rfl (Nat.le_of_ble_eq_true rfl) ?_
 have hres:Tryz.f119.results.toList=[.tmp 2]:=rfl
 have hlen:=hs.len Tryz.underlying22 H
 simp only [↓Sh.dn,sx,Nat.reduceBEq,reduceCtorEq,Nat.reduceEqDiff,↓Sh.wp_cond]
 refine A5e (fun m F H'=>H'=H∧∃ i:Nat,m=l.length - i∧1≤i∧F.get 0=some v∧F.get 3=some (.int .i64 (i:Int))∧(∀ (j:Nat) x y,j+1 < i→l[j]?=some x→l[j+1]?=some y→A5n x y=true)) (m:=l.length - 1) ⟨rfl,1,rfl,Nat.le_refl _,by simp only [↓Sh.dn,sx,Nat.reduceBEq,reduceCtorEq,Nat.reduceEqDiff,↓Sh.wp_cond],by simp only [↓Sh.dn,sx,Nat.reduceBEq,reduceCtorEq,Nat.reduceEqDiff,↓Sh.wp_cond]; rfl,fun j x y h=>by omega⟩ ?_
 rintro m F H' ⟨rfl,i,rfl,h1,f0,f3,hall⟩ k
 by_cases hlt:i < l.length
 ·obtain ⟨g,o,kk,hia,hc,hcc⟩:=hs.at Tryz.underlying22 A0m (i:=i) (x:=A2b l[i]) (by simp [hlt]) .i64
  have hy:=hcc 0 _ rfl
  obtain ⟨g',o',kk',hia',hc',hcc'⟩:=hs.at Tryz.underlying22 A0m (i:=i - 1) (x:=A2b (l[i - 1]'(by omega))) (by simp [List.getElem?_eq_getElem (show i - 1 < l.length by omega)]) .i64
  have hy':=hcc' 0 _ rfl
  have hw1:IntKind.wrap .i64 ((i:Int) - 1)=((i - 1:Nat):Int):=by rw [wrap64 (by omega) (by omega)]; omega
  simp only [Nat.add_zero] at hy hy'
  simp only [↓Sh.dn,sx,Nat.reduceBEq,reduceCtorEq,Nat.reduceEqDiff,↓Sh.wp_cond,f0,f3,hlen,hia,hia',hy,hy',hw1,List.length_map,A4a,hlt,decide_true,forall_const,reduceCtorEq,false_implies,and_true,true_and,hres,Bool.not_eq_true',Bool.not_eq_false']
  have hx1:l[i - 1]?=some (l[i - 1]'(by omega)):=List.getElem?_eq_getElem (by omega)
  have hx2:l[i - 1+1]?=some l[i]:=by rw [show i - 1+1=i by omega]; exact List.getElem?_eq_getElem hlt
  refine ⟨fun h=>?_,fun h=>k (l.length - (i+1)) _ _ (by omega) ⟨rfl,i+1,rfl,by omega,by simp only [↓Sh.dn,sx,Nat.reduceBEq,reduceCtorEq,Nat.reduceEqDiff,↓Sh.wp_cond,f0],by simp only [↓Sh.dn,sx,Nat.reduceBEq,reduceCtorEq,Nat.reduceEqDiff,↓Sh.wp_cond,wrap_succ hlt hl],fun j x y hj hx hy=>?_⟩⟩
  ·have : ascB l = false := by
     cases hb : ascB l with
     | false => rfl
     | true => rw [A60.1 hb _ _ _ hx1 hx2] at h; cases h
   rw [this]
  ·by_cases hji:j+1 < i
   ·exact hall j x y hji hx hy
   ·have:j=i - 1:=by omega
    subst this
    rw [hx1] at hx
    rw [hx2] at hy
    rw [← Option.some.inj hx,← Option.some.inj hy]
    exact h
 ·simp only [↓Sh.dn,sx,Nat.reduceBEq,reduceCtorEq,Nat.reduceEqDiff,↓Sh.wp_cond,f0,f3,hlen,List.length_map,A4a,hlt,decide_false,forall_const,reduceCtorEq,false_implies,and_true,true_and,hres]
  have:ascB l=true:=A60.2 fun j x y hx hy=>hall j x y (by have:=(List.getElem?_eq_some_iff.1 hy).1; omega) hx hy
  rw [this]
end Go.Proofs.YtnoengaghabmjaaGreatDoor
/- What is wrong with an alphabet, by the reference. -/
namespace Go.Proofs.YtnoengaghabmjaaGreatDoor
open Go Go.Proofs Go.Proofs.Sh
def A5t (l:List ByteArray):Bool:=l.any fun s=>decide (16 < s.size)
def A8j (l:List ByteArray):Int:=if (decide (40 < l.length) || A5t l)=true then 3 else if (l.all A7x && ascB l)=true then 0 else 1
theorem refSigma {H:AH} {v:Value} {l:List ByteArray} (hs:Sl H v 1 (l.map A2b)) (hl:l.length≤1048576) (hlx:∀ x∈l,x.size≤1048576) (hw:Wf H):
  Sh.Call Tryz.prog (knows 8) 86 [v] H (fun r H'=>Kept H H'∧r=.int .i64 (A8j l)):=by
 refine A5a rfl Tryz.func86 rfl (Nat.le_of_ble_eq_true rfl) ?_
 have hres:Tryz.f86.results.toList=[.tmp 2]:=rfl
 have hlen:=hs.len Tryz.underlying22 H
 have e40:decide ((40:Int) < ((l.length:Nat):Int))=decide (40 < l.length):=by by_cases h:40 < l.length <;> simp [h] <;> omega
 simp only [↓Sh.dn,sx,Nat.reduceBEq,reduceCtorEq,Nat.reduceEqDiff,hlen,List.length_map,e40]
 by_cases h40:40 < l.length
 ·simp only [↓Sh.dn,sx,Nat.reduceBEq,reduceCtorEq,Nat.reduceEqDiff,h40,decide_true,hres,A8j,Bool.true_or,forall_const,reduceCtorEq,false_implies,and_true,Kept.refl hw]
 ·simp only [↓Sh.dn,sx,Nat.reduceBEq,reduceCtorEq,Nat.reduceEqDiff,h40,decide_false]
  obtain ⟨r1,H1,hd1,hk1,rfl⟩:=anyLong hs hl hw
  refine ⟨_,_,hd1,?_⟩
  cases hL:(l.any fun s=>decide (16 < s.size)) with
  | true=>simp only [↓Sh.dn,sx,Nat.reduceBEq,reduceCtorEq,Nat.reduceEqDiff,hres,hL,A8j,A5t,h40,decide_false,Bool.false_or,forall_const,reduceCtorEq,false_implies,and_true,hk1]
  | false=>
   simp only [↓Sh.dn,sx,Nat.reduceBEq,reduceCtorEq,Nat.reduceEqDiff,forall_const,reduceCtorEq,false_implies,and_true,true_and]
   obtain ⟨r2,H2,hd2,rfl,rfl⟩:=C0k (hs.grow (hk1.grow hw)) hl hlx hk1.wf
   refine ⟨_,_,hd2,?_⟩
   cases hA:l.all A7x with
   | false=>simp only [↓Sh.dn,sx,Nat.reduceBEq,reduceCtorEq,Nat.reduceEqDiff,hres,hL,hA,A8j,A5t,h40,decide_false,Bool.false_or,Bool.false_and,Bool.not_false,forall_const,reduceCtorEq,false_implies,and_true,hk1]
   | true=>
    obtain ⟨r3,H3,hd3,rfl,rfl⟩:=isSet (hs.grow (hk1.grow hw)) hl hk1.wf
    simp only [↓Sh.dn,sx,Nat.reduceBEq,reduceCtorEq,Nat.reduceEqDiff,Bool.not_true,forall_const,reduceCtorEq,false_implies,and_true,true_and]
    refine ⟨_,_,hd3,?_⟩
    cases hS:ascB l with
    | true=>simp only [↓Sh.dn,sx,Nat.reduceBEq,reduceCtorEq,Nat.reduceEqDiff,hres,hL,hA,hS,A8j,A5t,h40,decide_false,Bool.false_or,Bool.true_and,Bool.not_true,forall_const,reduceCtorEq,false_implies,and_true,true_and,hk1]
    | false=>simp only [↓Sh.dn,sx,Nat.reduceBEq,reduceCtorEq,Nat.reduceEqDiff,hres,hL,hA,hS,A8j,A5t,h40,decide_false,Bool.false_or,Bool.true_and,Bool.not_false,forall_const,reduceCtorEq,false_implies,and_true,true_and,hk1]
end Go.Proofs.YtnoengaghabmjaaGreatDoor
/- sort.Search: the first place at which a question that stays true is true. -/
namespace Go.Proofs.YtnoengaghabmjaaGreatDoor
open Go Go.Proofs Go.Proofs.Sh
theorem half (a b:Nat) (h:a+b < 2097152):A2o false .u64 (IntKind.wrap .u64 (IntKind.wrap .i64 ((a:Int)+(b:Int)))) 1=some (.int .u64 (((a+b) / 2:Nat):Int)):=by
 rw [wrap64 (by omega) (by omega)]
 have e:IntKind.wrap .u64 ((a:Int)+(b:Int))=((a+b:Nat):Int):=by
  simp only [IntKind.wrap]
  simp [IntKind.bits,IntKind.signed]
  omega
 rw [e]
 simp only [A2o,A1m]
 simp [IntKind.bits,Int.fdiv_eq_ediv]
theorem search {H:AH} {n fid:Nat} {caps:List Value} (p:Nat→Bool) (hn:n≤1048576) (hp:∀ i,i < n→Sh.Call Tryz.prog (knows 8) fid (.int .i64 (i:Int) :: caps) H (fun r H'=>r=.bool (p i)∧H'=H)) (hm:∀ a b,a≤b→b < n→p a=true→p b=true) (hw:Wf H):
  Sh.Call Tryz.prog (knows 8) 146 [.int .i64 (n:Int),.func (.func fid) #[] caps.toArray] H (fun r H'=>H'=H∧∃ k:Nat,r=.int .i64 (k:Int)∧k≤n∧(∀ i,i < k→p i=false)∧(∀ i,k≤i→i < n→p i=true)):=by
 refine A5a rfl Tryz.func146 rfl (Nat.le_of_ble_eq_true rfl) ?_
 have hres:Tryz.f146.results.toList=[.tmp 4]:=rfl
 simp only [↓Sh.dn,sx,Nat.reduceBEq,reduceCtorEq,Nat.reduceEqDiff]
 refine A5e (fun m F H'=>H'=H∧∃ a b:Nat,m=b - a∧a≤b∧b≤n∧F.get 5=some (.int .i64 (a:Int))∧F.get 6=some (.int .i64 (b:Int))∧F.get 1=some (.func (.func fid) #[] caps.toArray)∧(∀ i,i < a→p i=false)∧(∀ i,b≤i→i < n→p i=true)) (m:=n) ⟨rfl,0,n,by omega,by omega,by omega,by simp only [↓Sh.dn,sx,Nat.reduceBEq,reduceCtorEq,Nat.reduceEqDiff]; rfl,by simp only [↓Sh.dn,sx,Nat.reduceBEq,reduceCtorEq,Nat.reduceEqDiff],by simp only [↓Sh.dn,sx,Nat.reduceBEq,reduceCtorEq,Nat.reduceEqDiff],fun i h=>by omega,fun i h1 h2=>by omega⟩ ?_
 rintro m F H' ⟨rfl,a,b,rfl,hab,hbn,f5,f6,f1,hlo,hhi⟩ k
 by_cases hlt:a < b
 ·obtain ⟨r,H1,hd,rfl,rfl⟩:=hp ((a+b) / 2) (by omega)
  have hw2:IntKind.wrap .i64 (((a+b) / 2:Nat):Int)=(((a+b) / 2:Nat):Int):=wrap64 (by omega) (by omega)
  simp only [↓Sh.dn,sx,Nat.reduceBEq,reduceCtorEq,Nat.reduceEqDiff,f5,f6,f1,A4a,hlt,decide_true,forall_const,reduceCtorEq,false_implies,and_true,true_and,C2p,half a b (by omega),hw2,Value.func.injEq,Fn.func.injEq]
  refine ⟨_,_,hd,?_⟩
  cases hpv:p ((a+b) / 2) with
  | false=>
   have hw3:IntKind.wrap .i64 ((((a+b) / 2:Nat):Int)+1)=(((a+b) / 2+1:Nat):Int):=wrap_succ (n:=n) (by omega) hn
   simp only [↓Sh.dn,sx,Nat.reduceBEq,reduceCtorEq,Nat.reduceEqDiff,hpv,Bool.not_false,Bool.not_true,forall_const,reduceCtorEq,false_implies,and_true,true_and,hw3]
   refine k (b - ((a+b) / 2+1)) _ _ (by omega) ⟨rfl,(a+b) / 2+1,b,rfl,by omega,hbn,by simp only [↓Sh.dn,sx,Nat.reduceBEq,reduceCtorEq,Nat.reduceEqDiff],by simp only [↓Sh.dn,sx,Nat.reduceBEq,reduceCtorEq,Nat.reduceEqDiff,f6],by simp only [↓Sh.dn,sx,Nat.reduceBEq,reduceCtorEq,Nat.reduceEqDiff,f1],fun i hi=>?_,hhi⟩
   cases hpi:p i with
   | false=>rfl
   | true=>rw [hm i ((a+b) / 2) (by omega) (by omega) hpi] at hpv; cases hpv
  | true=>
   simp only [↓Sh.dn,sx,Nat.reduceBEq,reduceCtorEq,Nat.reduceEqDiff,hpv,Bool.not_false,Bool.not_true,forall_const,reduceCtorEq,false_implies,and_true,true_and]
   exact k ((a+b) / 2 - a) _ _ (by omega) ⟨rfl,a,(a+b) / 2,rfl,by omega,by omega,by simp only [↓Sh.dn,sx,Nat.reduceBEq,reduceCtorEq,Nat.reduceEqDiff,f5],by simp only [↓Sh.dn,sx,Nat.reduceBEq,reduceCtorEq,Nat.reduceEqDiff],by simp only [↓Sh.dn,sx,Nat.reduceBEq,reduceCtorEq,Nat.reduceEqDiff,f1],hlo,fun i h1 h2=>hm _ i h1 h2 hpv⟩
 ·have hab':a=b:=by omega
  subst hab'
  simp only [↓Sh.dn,sx,Nat.reduceBEq,reduceCtorEq,Nat.reduceEqDiff,f5,f6,f1,A4a,hlt,decide_false,forall_const,reduceCtorEq,false_implies,and_true,true_and,hres]
  exact ⟨a,rfl,hbn,hlo,hhi⟩
end Go.Proofs.YtnoengaghabmjaaGreatDoor
/- What sort.SearchStrings asks of a place. -/
namespace Go.Proofs.YtnoengaghabmjaaGreatDoor
open Go Go.Proofs Go.Proofs.Sh
theorem searchAt {H:AH} {g1 o1 k1 g2 o2 k2 i:Nat} {v:Value} {x y:ByteArray} {l:List ByteArray} (h1:H.cell ⟨g1,o1,some k1⟩=some v) (h2:H.cell ⟨g2,o2,some k2⟩=some (.string x)) (hs:Sl H v 1 (l.map A2b)) (hi:l[i]?=some y) (hw:Wf H):
  Sh.Call Tryz.prog (knows 8) 147 [.int .i64 (i:Int),.pointer (some ⟨g1,o1,some k1⟩),.pointer (some ⟨g2,o2,some k2⟩)] H (fun r H'=>r=.bool (!A5n y x)∧H'=H):=by
 refine A5a rfl Tryz.func147 rfl (Nat.le_of_ble_eq_true rfl) ?_
 have hres:Tryz.f147.results.toList=[.tmp 4]:=rfl
 obtain ⟨g,o,kk,hia,hc,hcc⟩:=hs.at Tryz.underlying22 A0m (i:=i) (x:=A2b y) (by simp [hi]) .i64
 have hy:=hcc 0 _ rfl
 simp only [Nat.add_zero] at hy
 simp only [↓Sh.dn,sx,Nat.reduceBEq,reduceCtorEq,Nat.reduceEqDiff,h1,h2,hia,hy,hres,true_and,and_true]
end Go.Proofs.YtnoengaghabmjaaGreatDoor
/- sort.SearchStrings over an ascending list. -/
namespace Go.Proofs.YtnoengaghabmjaaGreatDoor
open Go Go.Proofs Go.Proofs.Sh
theorem B6q {H:AH} {v:Value} {x:ByteArray} {l:List ByteArray} (hs:Sl H v 1 (l.map A2b)) (ha:Asc l) (hl:l.length≤1048576) (hw:Wf H):
  Sh.Call Tryz.prog (knows 8) 120 [v,.string x] H (fun r H'=>Kept H H'∧∃ k:Nat,r=.int .i64 (k:Int)∧k≤l.length∧(∀ (i:Nat) y,i < k→l[i]?=some y→A5n y x=true)∧(∀ (i:Nat) y,k≤i→l[i]?=some y→A5n y x=false)):=by
 refine A5a rfl Tryz.func120 rfl (Nat.le_of_ble_eq_true rfl) ?_
 have hres:Tryz.f120.results.toList=[.tmp 4]:=rfl
 have hn1:=B0b (P:=Tryz.prog) (H:=H) (t:=22) A8x hs.isCell
 have hk1:=Kept.new hw 1 [v]
 have hO1:=Obj.new (H:=H) 1 [v]
 have hn2:=B0b (P:=Tryz.prog) (H:=(H.new 1 [v]).2) (t:=9) (v:=.string x) A0m rfl
 have hk2:=hk1.trans (Kept.new hk1.wf 1 [.string x])
 have hO2:=Obj.new (H:=(H.new 1 [v]).2) 1 [.string x]
 have hO1':Sh.Obj ((H.new 1 [v]).2.new 1 [.string x]).2 H.next 1 [v] true:=by
  unfold Sh.Obj
  rw [C1t (by rw [new_nx]; omega)]
  exact hO1
 simp only [↓Sh.dn,sx,Nat.reduceBEq,reduceCtorEq,Nat.reduceEqDiff,hn1,hn2]
 have hx1:(H.new 1 [v]).2.next=H.next+1:=rfl
 rw [hx1] at hO2 ⊢
 generalize ((H.new 1 [v]).2.new 1 [.string x]).2=H2 at hO1' hO2 hk2 ⊢
 have c1:H2.cell ⟨H.next,0,some 0⟩=some v:=hO1'.cell
 have c2:H2.cell ⟨H.next+1,0,some 0⟩=some (.string x):=hO2.cell
 have hs2:=hs.grow (hk2.grow hw)
 have hlen:=hs2.len Tryz.underlying22 H2
 simp only [c1,hlen,List.length_map,↓Sh.dn,sx,Nat.reduceBEq,reduceCtorEq,Nat.reduceEqDiff]
 obtain ⟨r,H3,hd,rfl,k,rfl,hk,hlo,hhi⟩:=search (H:=H2) (n:=l.length) (caps:=[.pointer (some ⟨H.next,0,some 0⟩),.pointer (some ⟨H.next+1,0,some 0⟩)]) (fid:=147) (fun i=>match l[i]? with | some y=>!A5n y x | none=>true) hl
  (fun i hi=>by
   have hy:l[i]?=some (l[i]'hi):=List.getElem?_eq_getElem hi
   simp only [hy]
   exact searchAt c1 c2 hs2 hy hk2.wf)
  (fun a b hab hb=>by
   have hya:l[a]?=some (l[a]'(by omega)):=List.getElem?_eq_getElem (by omega)
   have hyb:l[b]?=some (l[b]'hb):=List.getElem?_eq_getElem hb
   simp only [hya,hyb,Bool.not_eq_true']
   intro h
   rcases Nat.lt_or_ge a b with hlt | hge
   ·cases h2:A5n l[b] x with
    | false=>rfl
    | true=>rw [A8w (ha a b _ _ hlt hya hyb) h2] at h; cases h
   ·have:a=b:=by omega
    subst this
    exact h) hk2.wf
 refine ⟨_,_,hd,?_⟩
 simp only [↓Sh.dn,sx,Nat.reduceBEq,reduceCtorEq,Nat.reduceEqDiff,hres]
 refine ⟨hk2,k,rfl,hk,fun i y hi hy=>?_,fun i y hi hy=>?_⟩
 ·have:=hlo i hi
  simpa [hy] using this
 ·have hil:=(List.getElem?_eq_some_iff.1 hy).1
  have:=hhi i hi hil
  simpa [hy] using this
end Go.Proofs.YtnoengaghabmjaaGreatDoor
/- Whether a text is in an ascending list. -/
namespace Go.Proofs.YtnoengaghabmjaaGreatDoor
open Go Go.Proofs Go.Proofs.Sh
theorem isIn {H:AH} {v:Value} {x:ByteArray} {l:List ByteArray} (hs:Sl H v 1 (l.map A2b)) (ha:Asc l) (hl:l.length≤1048576) (hw:Wf H):
  Sh.Call Tryz.prog (knows 8) 87 [v,.string x] H (fun r H'=>Kept H H'∧r=.bool (A8u l x)):=by
 refine A5a rfl Tryz.func87 rfl (Nat.le_of_ble_eq_true rfl) ?_
 have hres:Tryz.f87.results.toList=[.tmp 4]:=rfl
 obtain ⟨r,H1,hd,hk1,k,rfl,hk,hlo,hhi⟩:=B6q hs ha hl hw (x:=x)
 have hp:=B9w ha x hlo hhi
 simp only [↓Sh.dn,sx,Nat.reduceBEq,reduceCtorEq,Nat.reduceEqDiff]
 refine ⟨_,_,hd,?_⟩
 have hs1:=hs.grow (hk1.grow hw)
 have hlen:=hs1.len Tryz.underlying22 H1
 by_cases hlt:k < l.length
 ·have hy:l[k]?=some (l[k]'hlt):=List.getElem?_eq_getElem hlt
  obtain ⟨g,o,kk,hia,hc,hcc⟩:=hs1.at Tryz.underlying22 A0m (i:=k) (x:=A2b l[k]) (by simp [hlt]) .i64
  have hyc:=hcc 0 _ rfl
  simp only [Nat.add_zero] at hyc
  simp only [↓Sh.dn,sx,Nat.reduceBEq,reduceCtorEq,Nat.reduceEqDiff,hlen,List.length_map,A4a,hlt,decide_true,hia,hyc,hres,forall_const,not_true_eq_false,false_implies,and_true,true_and]
  refine ⟨hk1,?_⟩
  have:decide (l[k]=x)=A8u l x:=by
   rw [Bool.eq_iff_iff,decide_eq_true_eq,A5l,← hp,hy,Option.some.injEq]
  rw [this]
 ·simp only [↓Sh.dn,sx,Nat.reduceBEq,reduceCtorEq,Nat.reduceEqDiff,hlen,List.length_map,A4a,hlt,decide_false,Bool.not_true,hres,forall_const,not_true_eq_false,false_implies,and_true,true_and]
  refine ⟨hk1,?_⟩
  have:A8u l x=false:=by
   cases h:A8u l x with
   | false=>rfl
   | true=>
    have:=hp.2 (A5l.1 h)
    rw [List.getElem?_eq_none (by omega)] at this; cases this
  rw [this]
end Go.Proofs.YtnoengaghabmjaaGreatDoor
/- What is wrong with a net of any kind, by the reference. -/
namespace Go.Proofs.YtnoengaghabmjaaGreatDoor
open Go Go.Proofs Go.Proofs.Sh
def A2k (N:NetD) (s:ByteArray):Bool:=!decide (s=⟨#[]⟩) && !A8u N.sigma s
def A3j (N:NetD) (a:ArcD):Bool:=decide (a.fr < 0) || decide (N.states≤a.fr) || decide (a.to < 0) || decide (N.states≤a.to) || A2k N a.inn || A2k N a.out
def A8p (N:NetD) (e:EndD):Bool:=decide (e.state < 0) || decide (N.states≤e.state)
def A2n (N:NetD):Bool:=decide (3000 < N.states) || decide (60000 < N.arcs.length) || decide (60000 < N.ends.length)
def A5h (N:NetD):Int:=if A2n N=true then 3 else if A8j N.sigma≠0 then A8j N.sigma else if N.states < 1 then 1 else if N.arcs.any (A3j N)=true then 1 else if N.ends.any (A8p N)=true then 1 else 0
theorem A20 {l:List ByteArray} (h:A8j l=0):Asc l:=by
 unfold A8j at h
 split at h
 ·cases h
 ·split at h
  ·rename_i h1
   simp only [Bool.and_eq_true] at h1
   exact asc_of h1.2
  ·cases h
theorem B73 {H:AH} {v:Value} {N:NetD} (h:A3m H v N) (hsm:A5c N) (hw:Wf H):
  Sh.Call Tryz.prog (knows 8) 49 [v] H (fun r H'=>Kept H H'∧r=.int .i64 (A5h N)):=by
 refine A5a rfl Tryz.func49 rfl (Nat.le_of_ble_eq_true rfl) ?_
 have hres:Tryz.f49.results.toList=[.tmp 2]:=rfl
 obtain ⟨sg,ar,en,rfl,hsg,har,hen⟩:=h
 have hb1:=NetBox.of (N:=N) hw hsg har hen
 have hk1:Kept H (H.new 4 [sg,.int .i64 N.states,ar,en]).2:=Kept.new hw 4 _
 have eA:decide ((60000:Int) < (N.arcs.length:Int))=decide (60000 < N.arcs.length):=decide_eq_decide.2 (by omega)
 have eE:decide ((60000:Int) < (N.ends.length:Int))=decide (60000 < N.ends.length):=decide_eq_decide.2 (by omega)
 simp only [↓Sh.dn,sx,Nat.reduceBEq,reduceCtorEq,Nat.reduceEqDiff,A0n hsg.isCell har.isCell hen.isCell]
 generalize hg:H.next=gg at hb1 ⊢
 generalize (H.new 4 [sg,.int .i64 N.states,ar,en]).2=H1 at hb1 hk1 ⊢
 simp only [↓Sh.dn,sx,Nat.reduceBEq,reduceCtorEq,Nat.reduceEqDiff,hb1.c0,hb1.c1,hb1.c2,hb1.c3,hb1.ca,A3a hb1,A1a hb1,A2a hb1]
 by_cases hA:3000 < N.states
 ·simp only [↓Sh.dn,sx,Nat.reduceBEq,reduceCtorEq,Nat.reduceEqDiff,hA,decide_true,hres,A5h,A2n,Bool.true_or,hk1]
 by_cases hB:60000 < N.arcs.length
 ·simp only [↓Sh.dn,sx,Nat.reduceBEq,reduceCtorEq,Nat.reduceEqDiff,hb1.c0,hb1.c1,hb1.c2,hb1.c3,hb1.ca,A3a hb1,A1a hb1,A2a hb1,hA,eA,hB,decide_true,decide_false,hres,A5h,A2n,Bool.true_or,Bool.or_true,hk1]
 by_cases hC:60000 < N.ends.length
 ·simp only [↓Sh.dn,sx,Nat.reduceBEq,reduceCtorEq,Nat.reduceEqDiff,hb1.c0,hb1.c1,hb1.c2,hb1.c3,hb1.ca,A3a hb1,A1a hb1,A2a hb1,hA,eA,eE,hB,hC,decide_true,decide_false,hres,A5h,A2n,Bool.true_or,Bool.or_true,hk1]
 have hT:A2n N=false:=by simp [A2n,hA,hB,hC]
 simp only [↓Sh.dn,sx,Nat.reduceBEq,reduceCtorEq,Nat.reduceEqDiff,hb1.c0,hb1.c1,hb1.c2,hb1.c3,hb1.ca,A3a hb1,A1a hb1,A2a hb1,hA,eA,eE,hB,hC,decide_true,decide_false,hres]
 obtain ⟨r,H2,hd,hk2,rfl⟩:=refSigma hb1.hsg hsm.sg hsm.sx hk1.wf
 refine ⟨_,_,hd,?_⟩
 have hb2:=hb1.kept hk1.wf hk2
 have hk12:=hk1.trans hk2
 by_cases hS:A8j N.sigma=0
 case neg=>simp only [↓Sh.dn,sx,Nat.reduceBEq,reduceCtorEq,Nat.reduceEqDiff,hS,decide_false,hres,A5h,hT,Bool.false_eq_true,if_false,ne_eq,not_false_eq_true,if_true,hk12]
 have hasc:=A20 hS
 simp only [↓Sh.dn,sx,Nat.reduceBEq,reduceCtorEq,Nat.reduceEqDiff,hS,decide_true,hb2.c0,hb2.c1,hb2.c2,hb2.c3,hb2.ca,A3a hb2,A1a hb2,A2a hb2]
 by_cases hst:N.states < 1
 ·simp only [↓Sh.dn,sx,Nat.reduceBEq,reduceCtorEq,Nat.reduceEqDiff,hst,decide_true,hres,A5h,hT,hS,ne_eq,not_true_eq_false,if_false,if_true,hk12,Bool.false_eq_true]
 simp only [↓Sh.dn,sx,Nat.reduceBEq,reduceCtorEq,Nat.reduceEqDiff,hst,decide_false]
 have e1:N.arcs.any (A3j N)=true→A5h N=1:=by intro h; simp [A5h,hT,hS,hst,h]
 have e2:N.ends.any (A8p N)=true→A5h N=1:=by intro h; simp [A5h,hT,hS,hst,h]
 have e3:N.arcs.any (A3j N)=false→N.ends.any (A8p N)=false→A5h N=0:=by intro h h'; simp [A5h,hT,hS,hst,h,h']
 refine A6g N.arcs.length 4 (List.range' 4 87++[2]) (fun i F H'=>Kept H2 H'∧(N.arcs.take i).any (A3j N)=false) (by simp only [↓Sh.dn,sx,Nat.reduceBEq,reduceCtorEq,Nat.reduceEqDiff]) ⟨Kept.refl hk12.wf,rfl⟩ ?_ ?_
 ·rintro i F H' hlt hF f4 ⟨hk,hall⟩ k
  have f1:=hF 1 rfl
  simp only [↓Sh.dn,sx,Nat.reduceBEq,reduceCtorEq,Nat.reduceEqDiff] at f1
  have hb':=hb2.kept hk12.wf hk
  have hb3:=hb'.new hk.wf 5 (N.arcs[i].cells)
  have hk3:=hk.news 5 (N.arcs[i].cells)
  obtain ⟨g,o,kk,hia,hc,hcc⟩:=hb'.har.at Tryz.underlying23 A8l (i:=i) (x:=N.arcs[i].cells) (by simp [hlt]) .i64
  clear hcc
  have hin:N.arcs[i]∈N.arcs:=List.getElem_mem hlt
  have hnext:A3j N N.arcs[i]=false→(N.arcs.take (i+1)).any (A3j N)=false:=by
   intro h
   rw [List.take_add_one,List.getElem?_eq_getElem hlt]
   simp only [Option.toList,List.any_append,hall,List.any_cons,List.any_nil,h,Bool.or_false]
  have hbad:A3j N N.arcs[i]=true→A5h N=1:=fun h=>e1 (List.any_eq_true.2 ⟨_,hin,h⟩)
  generalize N.arcs[i]=a at hb3 hk3 hc hnext hbad
  have hi2:=isIn (x:=a.inn) hb3.hsg hasc hsm.sg hk3.wf
  simp only [↓Sh.dn,sx,Nat.reduceBEq,reduceCtorEq,Nat.reduceEqDiff,hb'.c0,hb'.c1,hb'.c2,hb'.c3,hb'.ca,A3a hb',A1a hb',A2a hb',A2c,A1e,A7d,A4g,A5g,A0c,A1c,A0e,A8d,A7c,arc0,arc1,arc2,arc3,arc4,end0,end1,f1,f4,Option.map_some,A4a,hlt,decide_true,hia,hc,hres]
  by_cases h1:a.fr < 0
  ·simp only [↓Sh.dn,sx,Nat.reduceBEq,reduceCtorEq,Nat.reduceEqDiff,hb3.c0,hb3.c1,hb3.c2,hb3.c3,hb3.ca,A3a hb3,A1a hb3,A2a hb3,A2c,A1e,A7d,A4g,A5g,A0c,A1c,A0e,A8d,A7c,arc0,arc1,arc2,arc3,arc4,end0,end1,h1,decide_true,hres,hbad (by simp [A3j,h1]),hk12.trans hk3]
  simp only [↓Sh.dn,sx,Nat.reduceBEq,reduceCtorEq,Nat.reduceEqDiff,hb3.c0,hb3.c1,hb3.c2,hb3.c3,hb3.ca,A3a hb3,A1a hb3,A2a hb3,A2c,A1e,A7d,A4g,A5g,A0c,A1c,A0e,A8d,A7c,arc0,arc1,arc2,arc3,arc4,end0,end1,f1,h1,decide_false]
  by_cases h2:N.states≤a.fr
  ·simp only [↓Sh.dn,sx,Nat.reduceBEq,reduceCtorEq,Nat.reduceEqDiff,hb3.c0,hb3.c1,hb3.c2,hb3.c3,hb3.ca,A3a hb3,A1a hb3,A2a hb3,A2c,A1e,A7d,A4g,A5g,A0c,A1c,A0e,A8d,A7c,arc0,arc1,arc2,arc3,arc4,end0,end1,h2,decide_true,hres,hbad (by simp [A3j,h2]),hk12.trans hk3]
  simp only [↓Sh.dn,sx,Nat.reduceBEq,reduceCtorEq,Nat.reduceEqDiff,hb3.c0,hb3.c1,hb3.c2,hb3.c3,hb3.ca,A3a hb3,A1a hb3,A2a hb3,A2c,A1e,A7d,A4g,A5g,A0c,A1c,A0e,A8d,A7c,arc0,arc1,arc2,arc3,arc4,end0,end1,f1,h2,decide_false]
  by_cases h3:a.to < 0
  ·simp only [↓Sh.dn,sx,Nat.reduceBEq,reduceCtorEq,Nat.reduceEqDiff,hb3.c0,hb3.c1,hb3.c2,hb3.c3,hb3.ca,A3a hb3,A1a hb3,A2a hb3,A2c,A1e,A7d,A4g,A5g,A0c,A1c,A0e,A8d,A7c,arc0,arc1,arc2,arc3,arc4,end0,end1,h3,decide_true,hres,hbad (by simp [A3j,h3]),hk12.trans hk3]
  simp only [↓Sh.dn,sx,Nat.reduceBEq,reduceCtorEq,Nat.reduceEqDiff,hb3.c0,hb3.c1,hb3.c2,hb3.c3,hb3.ca,A3a hb3,A1a hb3,A2a hb3,A2c,A1e,A7d,A4g,A5g,A0c,A1c,A0e,A8d,A7c,arc0,arc1,arc2,arc3,arc4,end0,end1,f1,h3,decide_false]
  by_cases h4:N.states≤a.to
  ·simp only [↓Sh.dn,sx,Nat.reduceBEq,reduceCtorEq,Nat.reduceEqDiff,hb3.c0,hb3.c1,hb3.c2,hb3.c3,hb3.ca,A3a hb3,A1a hb3,A2a hb3,A2c,A1e,A7d,A4g,A5g,A0c,A1c,A0e,A8d,A7c,arc0,arc1,arc2,arc3,arc4,end0,end1,h4,decide_true,hres,hbad (by simp [A3j,h4]),hk12.trans hk3]
  simp only [↓Sh.dn,sx,Nat.reduceBEq,reduceCtorEq,Nat.reduceEqDiff,hb3.c0,hb3.c1,hb3.c2,hb3.c3,hb3.ca,A3a hb3,A1a hb3,A2a hb3,A2c,A1e,A7d,A4g,A5g,A0c,A1c,A0e,A8d,A7c,arc0,arc1,arc2,arc3,arc4,end0,end1,f1,h4,decide_false]
  have hgo:A2k N a.inn=false→A2k N a.out=false→A3j N a=false:=by intro h h'; simp [A3j,h1,h2,h3,h4,h,h']
  have hout:∀ (H4:AH) (F4:Fr),Kept (H'.new 5 a.cells).2 H4→A2k N a.inn=false→True:=fun _ _ _ _=>trivial
  by_cases h5:a.inn=⟨#[]⟩
  ·have hI:A2k N a.inn=false:=by simp [A2k,h5]
   simp only [↓Sh.dn,sx,Nat.reduceBEq,reduceCtorEq,Nat.reduceEqDiff,hb3.c0,hb3.c1,hb3.c2,hb3.c3,hb3.ca,A3a hb3,A1a hb3,A2a hb3,A2c,A1e,A7d,A4g,A5g,A0c,A1c,A0e,A8d,A7c,arc0,arc1,arc2,arc3,arc4,end0,end1,f1,h5,decide_true]
   by_cases h6:a.out=⟨#[]⟩
   ·have hO:A2k N a.out=false:=by simp [A2k,h6]
    simp only [↓Sh.dn,sx,Nat.reduceBEq,reduceCtorEq,Nat.reduceEqDiff,hb3.c0,hb3.c1,hb3.c2,hb3.c3,hb3.ca,A3a hb3,A1a hb3,A2a hb3,A2c,A1e,A7d,A4g,A5g,A0c,A1c,A0e,A8d,A7c,arc0,arc1,arc2,arc3,arc4,end0,end1,f1,f4,h6,decide_true,wrap_succ hlt hsm.ar]
    exact k _ _ (by repeat (first | refine Same.put ?_ rfl | exact Same.rfl' _)) (by simp only [↓Sh.dn,sx,Nat.reduceBEq,reduceCtorEq,Nat.reduceEqDiff]) ⟨hk3,hnext (hgo hI hO)⟩
   ·obtain ⟨r,H4,hd4,hk4,rfl⟩:=isIn (x:=a.out) hb3.hsg hasc hsm.sg hk3.wf
    simp only [↓Sh.dn,sx,Nat.reduceBEq,reduceCtorEq,Nat.reduceEqDiff,hb3.c0,hb3.c1,hb3.c2,hb3.c3,hb3.ca,A3a hb3,A1a hb3,A2a hb3,A2c,A1e,A7d,A4g,A5g,A0c,A1c,A0e,A8d,A7c,arc0,arc1,arc2,arc3,arc4,end0,end1,f1,h6,decide_false]
    refine ⟨_,_,hd4,?_⟩
    cases h7:A8u N.sigma a.out with
    | true=>
     have hO:A2k N a.out=false:=by simp [A2k,h7]
     simp only [↓Sh.dn,sx,Nat.reduceBEq,reduceCtorEq,Nat.reduceEqDiff,f4,wrap_succ hlt hsm.ar]
     exact k _ _ (by repeat (first | refine Same.put ?_ rfl | exact Same.rfl' _)) (by simp only [↓Sh.dn,sx,Nat.reduceBEq,reduceCtorEq,Nat.reduceEqDiff]) ⟨hk3.trans hk4,hnext (hgo hI hO)⟩
    | false=>
     simp only [↓Sh.dn,sx,Nat.reduceBEq,reduceCtorEq,Nat.reduceEqDiff,hres,hbad (by simp [A3j,A2k,h6,h7]),(hk12.trans hk3).trans hk4]
  ·obtain ⟨r,H4,hd4,hk4,rfl⟩:=isIn (x:=a.inn) hb3.hsg hasc hsm.sg hk3.wf
   simp only [↓Sh.dn,sx,Nat.reduceBEq,reduceCtorEq,Nat.reduceEqDiff,hb3.c0,hb3.c1,hb3.c2,hb3.c3,hb3.ca,A3a hb3,A1a hb3,A2a hb3,A2c,A1e,A7d,A4g,A5g,A0c,A1c,A0e,A8d,A7c,arc0,arc1,arc2,arc3,arc4,end0,end1,f1,h5,decide_false]
   refine ⟨_,_,hd4,?_⟩
   have hb4:=hb3.kept hk3.wf hk4
   have q2:=A9g (hk4.grow hk3.wf) (arc2 (H:=H') (a:=a))
   cases h7:A8u N.sigma a.inn with
   | false=>
    simp only [↓Sh.dn,sx,Nat.reduceBEq,reduceCtorEq,Nat.reduceEqDiff,hres,hbad (by simp [A3j,A2k,h5,h7]),(hk12.trans hk3).trans hk4]
   | true=>
    have hI:A2k N a.inn=false:=by simp [A2k,h7]
    simp only [↓Sh.dn,sx,Nat.reduceBEq,reduceCtorEq,Nat.reduceEqDiff,hb4.c0,hb4.c1,hb4.c2,hb4.c3,hb4.ca,A3a hb4,A1a hb4,A2a hb4,q2,f1]
    by_cases h6:a.out=⟨#[]⟩
    ·have hO:A2k N a.out=false:=by simp [A2k,h6]
     simp only [↓Sh.dn,sx,Nat.reduceBEq,reduceCtorEq,Nat.reduceEqDiff,hb4.c0,hb4.c1,hb4.c2,hb4.c3,hb4.ca,A3a hb4,A1a hb4,A2a hb4,q2,f1,f4,h6,decide_true,wrap_succ hlt hsm.ar]
     exact k _ _ (by repeat (first | refine Same.put ?_ rfl | exact Same.rfl' _)) (by simp only [↓Sh.dn,sx,Nat.reduceBEq,reduceCtorEq,Nat.reduceEqDiff]) ⟨hk3.trans hk4,hnext (hgo hI hO)⟩
    ·obtain ⟨r,H5,hd5,hk5,rfl⟩:=isIn (x:=a.out) hb4.hsg hasc hsm.sg hk4.wf
     simp only [↓Sh.dn,sx,Nat.reduceBEq,reduceCtorEq,Nat.reduceEqDiff,hb4.c0,hb4.c1,hb4.c2,hb4.c3,hb4.ca,A3a hb4,A1a hb4,A2a hb4,q2,f1,h6,decide_false]
     refine ⟨_,_,hd5,?_⟩
     cases h8:A8u N.sigma a.out with
     | true=>
      have hO:A2k N a.out=false:=by simp [A2k,h8]
      simp only [↓Sh.dn,sx,Nat.reduceBEq,reduceCtorEq,Nat.reduceEqDiff,f4,wrap_succ hlt hsm.ar]
      exact k _ _ (by repeat (first | refine Same.put ?_ rfl | exact Same.rfl' _)) (by simp only [↓Sh.dn,sx,Nat.reduceBEq,reduceCtorEq,Nat.reduceEqDiff]) ⟨(hk3.trans hk4).trans hk5,hnext (hgo hI hO)⟩
     | false=>
      simp only [↓Sh.dn,sx,Nat.reduceBEq,reduceCtorEq,Nat.reduceEqDiff,hres,hbad (by simp [A3j,A2k,h6,h8]),((hk12.trans hk3).trans hk4).trans hk5]
 ·rintro F H' hF f4 ⟨hk,hall⟩
  have f1:=hF 1 rfl
  simp only [↓Sh.dn,sx,Nat.reduceBEq,reduceCtorEq,Nat.reduceEqDiff] at f1
  rw [List.take_length] at hall
  have hb':=hb2.kept hk12.wf hk
  have hkk:=hk12.trans hk
  simp only [↓Sh.dn,sx,Nat.reduceBEq,reduceCtorEq,Nat.reduceEqDiff,hb'.c0,hb'.c1,hb'.c2,hb'.c3,hb'.ca,A3a hb',A1a hb',A2a hb',f1,f4,A4a,Nat.lt_irrefl,decide_false]
  refine A6g N.ends.length 6 (List.range' 91 26++[2,6]) (fun i F H''=>H''=H'∧(N.ends.take i).any (A8p N)=false) (by simp only [↓Sh.dn,sx,Nat.reduceBEq,reduceCtorEq,Nat.reduceEqDiff]) ⟨rfl,rfl⟩ ?_ ?_
  ·rintro i F2 H'' hlt hF2 f6 ⟨rfl,hall2⟩ k
   have g1:=hF2 1 rfl
   simp only [↓Sh.dn,sx,Nat.reduceBEq,reduceCtorEq,Nat.reduceEqDiff,f1] at g1
   obtain ⟨g,o,kk,hia,hc,hcc⟩:=hb'.hen.at Tryz.underlying24 A6q (i:=i) (x:=N.ends[i].cells) (by simp [hlt]) .i64
   have q0:=hcc 0 _ rfl
   simp only [Nat.add_zero] at q0
   have hbad:A8p N N.ends[i]=true→A5h N=1:=fun h=>e2 (List.any_eq_true.2 ⟨_,List.getElem_mem hlt,h⟩)
   simp only [↓Sh.dn,sx,Nat.reduceBEq,reduceCtorEq,Nat.reduceEqDiff,hb'.c0,hb'.c1,hb'.c2,hb'.c3,hb'.ca,A3a hb',A1a hb',A2a hb',g1,f6,A4a,hlt,decide_true,hia,q0,Nat.add_zero]
   by_cases h1:N.ends[i].state < 0
   ·simp only [↓Sh.dn,sx,Nat.reduceBEq,reduceCtorEq,Nat.reduceEqDiff,h1,decide_true,hres,hbad (by simp [A8p,h1]),hkk]
   simp only [↓Sh.dn,sx,Nat.reduceBEq,reduceCtorEq,Nat.reduceEqDiff,hb'.c0,hb'.c1,hb'.c2,hb'.c3,hb'.ca,A3a hb',A1a hb',A2a hb',g1,f6,hia,q0,h1,decide_false]
   by_cases h2:N.states≤N.ends[i].state
   ·simp only [↓Sh.dn,sx,Nat.reduceBEq,reduceCtorEq,Nat.reduceEqDiff,h2,decide_true,hres,hbad (by simp [A8p,h2]),hkk]
   simp only [↓Sh.dn,sx,Nat.reduceBEq,reduceCtorEq,Nat.reduceEqDiff,f6,h2,decide_false,wrap_succ hlt hsm.en]
   refine k _ _ (by repeat (first | refine Same.put ?_ rfl | exact Same.rfl' _)) (by simp only [↓Sh.dn,sx,Nat.reduceBEq,reduceCtorEq,Nat.reduceEqDiff]) ⟨rfl,?_⟩
   rw [List.take_add_one,List.getElem?_eq_getElem hlt]
   simp only [Option.toList,List.any_append,hall2,List.any_cons,List.any_nil,Bool.or_false,A8p,h1,h2,decide_false]
  ·rintro F2 H'' hF2 f6 ⟨rfl,hall2⟩
   have g1:=hF2 1 rfl
   simp only [↓Sh.dn,sx,Nat.reduceBEq,reduceCtorEq,Nat.reduceEqDiff,f1] at g1
   rw [List.take_length] at hall2
   simp only [↓Sh.dn,sx,Nat.reduceBEq,reduceCtorEq,Nat.reduceEqDiff,hb'.c0,hb'.c1,hb'.c2,hb'.c3,hb'.ca,A3a hb',A1a hb',A2a hb',g1,f6,A4a,Nat.lt_irrefl,decide_false,hres,e3 hall hall2,hkk]
end Go.Proofs.YtnoengaghabmjaaGreatDoor
/- syms.isLong and syms.isSymbol. -/
namespace Go.Proofs.YtnoengaghabmjaaGreatDoor
open Go Go.Proofs Go.Proofs.Sh
theorem C9i {H:AH} {x:ByteArray}:Sh.Call Tryz.prog (knows 8) 97 [.string x] H (fun r H'=>H'=H∧r=.bool (decide (16 < x.size))):=by
 refine A5a rfl Tryz.func97 rfl (Nat.le_of_ble_eq_true rfl) ?_
 have hres:Tryz.f97.results.toList=[.tmp 2]:=rfl
 have e:decide ((16:Int) < (x.size:Int))=decide (16 < x.size):=decide_eq_decide.2 (by omega)
 simp only [↓Sh.dn,sx,Nat.reduceBEq,reduceCtorEq,Nat.reduceEqDiff,hres,e]
def chOk (s:ByteArray):Bool:=!s.data.toList.any badByte && decide (1≤s.size)
theorem C8h (s:ByteArray):A7x s=(chOk s && decide (s.size≤16)):=rfl
theorem C1j {x:ByteArray}:decide (x=⟨#[]⟩)=!decide (1≤x.size):=by
 by_cases h:x=⟨#[]⟩
 ·subst h; rfl
 ·have : 1 ≤ x.size := by
    refine Nat.one_le_iff_ne_zero.2 fun h0 => h (ByteArray.ext ?_)
    exact Array.eq_empty_of_size_eq_zero h0
  simp [h, this]
theorem B6s {H:AH} {x:ByteArray} (hl:x.size≤1048576):
  Sh.Call Tryz.prog (knows 8) 99 [.string x] H (fun r H'=>H'=H∧r=.bool (chOk x)):=by
 refine A5a rfl Tryz.func99 rfl (Nat.le_of_ble_eq_true rfl) ?_
 have hres:Tryz.f99.results.toList=[.tmp 2]:=rfl
 have hsz:x.data.toList.length=x.size:=by rw [Array.length_toList]; rfl
 simp only [↓Sh.dn,sx,Nat.reduceBEq,reduceCtorEq,Nat.reduceEqDiff]
 refine A6g x.size 6 (List.range' 6 26++[2,3]) (fun i F H'=>H'=H∧(x.data.toList.take i).any badByte=false) (by simp only [↓Sh.dn,sx,Nat.reduceBEq,reduceCtorEq,Nat.reduceEqDiff]) ⟨rfl,rfl⟩ ?_ ?_
 ·rintro i F H' hlt hF f6 ⟨rfl,hall⟩ k
  have f0:=hF 0 rfl
  have f5:=hF 5 rfl
  simp only [↓Sh.dn,sx,Nat.reduceBEq,reduceCtorEq,Nat.reduceEqDiff] at f0 f5
  obtain ⟨u,hu⟩:∃ u,x.data.toList[i]?=some u:=⟨x.data.toList[i]'(by omega),List.getElem?_eq_getElem (by omega)⟩
  have hix:=B0g (P:=Tryz.prog) (j:=.i64) Tryz.underlying9 hu
  have e33:decide ((u.toNat:Int) < 33)=decide (u.toNat < 33):=decide_eq_decide.2 (by omega)
  have e126:decide (126 < (u.toNat:Int))=decide (126 < u.toNat):=decide_eq_decide.2 (by omega)
  have e60:decide ((u.toNat:Int)=60)=decide (u.toNat=60):=decide_eq_decide.2 (by omega)
  have e62:decide ((u.toNat:Int)=62)=decide (u.toNat=62):=decide_eq_decide.2 (by omega)
  have hbad:badByte u=true→chOk x=false:=by
   intro h
   have:x.data.toList.any badByte=true:=List.any_eq_true.2 ⟨_,List.mem_of_getElem? hu,h⟩
   simp [chOk,this]
  simp only [↓Sh.dn,sx,Nat.reduceBEq,reduceCtorEq,Nat.reduceEqDiff,f0,f5,f6,hix,A4a,hlt,e33,decide_true]
  by_cases h1:u.toNat < 33
  ·simp only [↓Sh.dn,sx,Nat.reduceBEq,reduceCtorEq,Nat.reduceEqDiff,h1,decide_true,hres,hbad (by simp [badByte,h1])]
  simp only [↓Sh.dn,sx,Nat.reduceBEq,reduceCtorEq,Nat.reduceEqDiff,f0,hix,h1,e126,decide_false]
  by_cases h2:126 < u.toNat
  ·simp only [↓Sh.dn,sx,Nat.reduceBEq,reduceCtorEq,Nat.reduceEqDiff,h2,decide_true,hres,hbad (by simp [badByte,h2])]
  simp only [↓Sh.dn,sx,Nat.reduceBEq,reduceCtorEq,Nat.reduceEqDiff,f0,hix,h2,e60,decide_false]
  by_cases h3:u.toNat=60
  ·simp only [↓Sh.dn,sx,Nat.reduceBEq,reduceCtorEq,Nat.reduceEqDiff,h3,decide_true,hres,hbad (by simp [badByte,h3])]
  simp only [↓Sh.dn,sx,Nat.reduceBEq,reduceCtorEq,Nat.reduceEqDiff,f0,hix,h3,e62,decide_false]
  by_cases h4:u.toNat=62
  ·simp only [↓Sh.dn,sx,Nat.reduceBEq,reduceCtorEq,Nat.reduceEqDiff,h4,decide_true,hres,hbad (by simp [badByte,h4])]
  simp only [↓Sh.dn,sx,Nat.reduceBEq,reduceCtorEq,Nat.reduceEqDiff,f6,h4,decide_false,wrap_succ hlt hl]
  refine k _ _ (by repeat (first | refine Same.put ?_ rfl | exact Same.rfl' _)) (by simp only [↓Sh.dn,sx,Nat.reduceBEq,reduceCtorEq,Nat.reduceEqDiff]) ⟨rfl,?_⟩
  rw [List.take_add_one,hu]
  simp only [Option.toList,List.any_append,hall,Bool.false_or,List.any_cons,List.any_nil,Bool.or_false,badByte,h1,h2,h3,h4,decide_false]
 ·rintro F H' hF f6 ⟨rfl,hall⟩
  have f0:=hF 0 rfl
  have f5:=hF 5 rfl
  simp only [↓Sh.dn,sx,Nat.reduceBEq,reduceCtorEq,Nat.reduceEqDiff] at f0 f5
  rw [← hsz,List.take_length] at hall
  simp only [↓Sh.dn,sx,Nat.reduceBEq,reduceCtorEq,Nat.reduceEqDiff,f0,f5,f6,A4a,Nat.lt_irrefl,decide_false,hres,chOk,hall,C1j]
end Go.Proofs.YtnoengaghabmjaaGreatDoor
/- slices.IndexFunc and ContainsFunc: whether some element is so. -/
namespace Go.Proofs.YtnoengaghabmjaaGreatDoor
open Go Go.Proofs Go.Proofs.Sh
theorem B0y {H:AH} {v:Value} {l:List ByteArray} {fid:Nat} {caps:List Value} (p:ByteArray→Bool) (hs:Sl H v 1 (l.map A2b)) (hl:l.length≤1048576) (hw:Wf H)
  (hp:∀ H',Kept H H'→∀ x∈l,Sh.Call Tryz.prog (knows 8) fid ((fun s=>Value.string s) x :: caps) H' (fun r H''=>Kept H' H''∧r=.bool (p x))):
  Sh.Call Tryz.prog (knows 8) 126 [v,.func (.func fid) #[] caps.toArray] H (fun r H'=>Kept H H'∧∃ k:Int,r=.int .i64 k∧decide (0≤k)=l.any p):=by
 refine A5a rfl Tryz.func126 rfl (Nat.le_of_ble_eq_true rfl) ?_
 have hres:Tryz.f126.results.toList=[.tmp 4]:=rfl
 have hlen:=hs.len Tryz.underlying22 H
 simp only [↓Sh.dn,sx,Nat.reduceBEq,reduceCtorEq,Nat.reduceEqDiff,hlen,List.length_map]
 refine A6g l.length 8 [5,8,9,10,11,12,13,14,15,16,18] (fun i F H'=>Kept H H'∧(l.take i).any p=false) (by simp only [↓Sh.dn,sx,Nat.reduceBEq,reduceCtorEq,Nat.reduceEqDiff]) ⟨Kept.refl hw,rfl⟩ ?_ ?_
 ·rintro i F H' hlt hF f8 ⟨hk,hall⟩ k
  have hs1:=hs.grow (hk.grow hw)
  obtain ⟨g,o,kk,hia,hc,hcc⟩:=hs1.at Tryz.underlying22 A0m (i:=i) (x:=A2b l[i]) (by simp [hlt]) .i64
  have hld:=hcc 0 _ rfl; simp only [Nat.add_zero] at hld
  have f0:=hF 0 rfl
  have f1:=hF 1 rfl
  have f7:=hF 7 rfl
  simp only [↓Sh.dn,sx,Nat.reduceBEq,reduceCtorEq,Nat.reduceEqDiff] at f0 f1 f7
  obtain ⟨r,H2,hd,hk2,rfl⟩:=hp H' hk l[i] (List.getElem_mem hlt)
  simp only [↓Sh.dn,sx,Nat.reduceBEq,reduceCtorEq,Nat.reduceEqDiff,f0,f1,f7,f8,A4a,hlt,decide_true,hia,hld,Option.map_some,forall_const,reduceCtorEq,false_implies,and_true,true_and]
  refine ⟨_,_,hd,?_⟩
  cases hpv:p l[i] with
  | true=>
   simp only [↓Sh.dn,sx,Nat.reduceBEq,reduceCtorEq,Nat.reduceEqDiff,hres,forall_const,reduceCtorEq,false_implies,and_true,true_and]
   refine ⟨hk.trans hk2,_,rfl,?_⟩
   rw [List.any_eq_true.2 ⟨_,List.getElem_mem hlt,hpv⟩]
   simp
  | false=>
   simp only [↓Sh.dn,sx,Nat.reduceBEq,reduceCtorEq,Nat.reduceEqDiff,hres,f8,wrap_succ hlt hl,forall_const,reduceCtorEq,false_implies,and_true,true_and]
   refine k _ _ (by repeat (first | refine Same.put ?_ rfl | exact Same.rfl' _)) (by simp only [↓Sh.dn,sx,Nat.reduceBEq,reduceCtorEq,Nat.reduceEqDiff]) ⟨hk.trans hk2,?_⟩
   rw [List.take_add_one,List.getElem?_eq_getElem hlt]
   simp only [Option.toList,List.any_append,hall,List.any_cons,List.any_nil,hpv,Bool.or_false]
 ·rintro F H' hF f8 ⟨hk,hall⟩
  have f7:=hF 7 rfl
  simp only [↓Sh.dn,sx,Nat.reduceBEq,reduceCtorEq,Nat.reduceEqDiff] at f7
  rw [List.take_length] at hall
  simp only [↓Sh.dn,sx,Nat.reduceBEq,reduceCtorEq,Nat.reduceEqDiff,f7,f8,A4a,Nat.lt_irrefl,decide_false,hres,forall_const,reduceCtorEq,false_implies,and_true,true_and]
  exact ⟨hk,_,rfl,by rw [hall]; rfl⟩
theorem B8b {H:AH} {v:Value} {l:List ByteArray} {fid:Nat} {caps:List Value} (p:ByteArray→Bool) (hs:Sl H v 1 (l.map A2b)) (hl:l.length≤1048576) (hw:Wf H)
  (hp:∀ H',Kept H H'→∀ x∈l,Sh.Call Tryz.prog (knows 8) fid ((fun s=>Value.string s) x :: caps) H' (fun r H''=>Kept H' H''∧r=.bool (p x))):
  Sh.Call Tryz.prog (knows 8) 96 [v,.func (.func fid) #[] caps.toArray] H (fun r H'=>Kept H H'∧r=.bool (l.any p)):=by
 refine A5a rfl Tryz.func96 rfl (Nat.le_of_ble_eq_true rfl) ?_
 have hres:Tryz.f96.results.toList=[.tmp 4]:=rfl
 obtain ⟨r,H2,hd,hk,k,rfl,hk0⟩:=B0y p hs hl hw hp
 simp only [↓Sh.dn,sx,Nat.reduceBEq,reduceCtorEq,Nat.reduceEqDiff]
 refine ⟨_,_,hd,?_⟩
 simp only [↓Sh.dn,sx,Nat.reduceBEq,reduceCtorEq,Nat.reduceEqDiff,hres,hk0,and_true]
 exact hk
end Go.Proofs.YtnoengaghabmjaaGreatDoor
/- What is wrong with an alphabet, by the program. -/
namespace Go.Proofs.YtnoengaghabmjaaGreatDoor
open Go Go.Proofs Go.Proofs.Sh
theorem B9x {H:AH} {v:Value} {l:List ByteArray} (hs:Sl H v 1 (l.map A2b)) (hl:l.length≤1048576) (hlx:∀ x∈l,x.size≤1048576) (hw:Wf H):
  Sh.Call Tryz.prog (knows 8) 122 [v] H (fun r H'=>Kept H H'∧r=.int .i64 (A8j l)):=by
 refine A5a rfl Tryz.func122 rfl (Nat.le_of_ble_eq_true rfl) ?_
 have hres:Tryz.f122.results.toList=[.tmp 2]:=rfl
 have hlen:=hs.len Tryz.underlying22 H
 have e40:decide ((40:Int) < ((l.length:Nat):Int))=decide (40 < l.length):=decide_eq_decide.2 (by omega)
 simp only [↓Sh.dn,sx,Nat.reduceBEq,reduceCtorEq,Nat.reduceEqDiff,hlen,List.length_map,e40]
 by_cases h40:40 < l.length
 ·simp only [↓Sh.dn,sx,Nat.reduceBEq,reduceCtorEq,Nat.reduceEqDiff,h40,decide_true,hres,A8j,Bool.true_or,Kept.refl hw]
 simp only [↓Sh.dn,sx,Nat.reduceBEq,reduceCtorEq,Nat.reduceEqDiff,h40,decide_false]
 obtain ⟨r1,H1,hd1,hk1,rfl⟩:=B8b (caps:=[]) (fid:=97) (fun s=>decide (16 < s.size)) hs hl hw (fun H' hk x hx=>(C9i (H:=H') (x:=x)).mono fun r H'' h=>by rcases h with ⟨rfl,h⟩; exact ⟨Kept.refl hk.wf,h⟩)
 refine ⟨_,_,hd1,?_⟩
 cases hL:(l.any fun s=>decide (16 < s.size)) with
 | true=>simp only [↓Sh.dn,sx,Nat.reduceBEq,reduceCtorEq,Nat.reduceEqDiff,hres,hL,A8j,A5t,h40,decide_false,Bool.false_or,hk1]
 | false=>
  have hs1:=hs.grow (hk1.grow hw)
  have hlen1:=hs1.len Tryz.underlying22 H1
  simp only [↓Sh.dn,sx,Nat.reduceBEq,reduceCtorEq,Nat.reduceEqDiff,hlen1,List.length_map]
  have h16:∀ x∈l,decide (x.size≤16)=true:=by
   intro x hx
   have:=List.any_eq_false.1 hL x hx
   simp only [decide_eq_true_eq,Nat.not_lt] at this
   simpa using this
  have e1:(l.all A7x && ascB l)=false→A8j l=1:=by intro h; simp [A8j,A5t,h40,hL]; simpa using h
  have e0:(l.all A7x && ascB l)=true→A8j l=0:=by intro h; simp [A8j,A5t,h40,hL]; simpa using h
  have hsy:∀ x∈l,A7x x=chOk x:=by intro x hx; rw [C8h,h16 x hx,Bool.and_true]
  refine A6g l.length 14 (List.range' 14 22++[2,3,4]) (fun i F H'=>H'=H1∧(∀ (j:Nat) x,j < i→l[j]?=some x→chOk x=true)∧(∀ (j:Nat) x y,j+1 < i→l[j]?=some x→l[j+1]?=some y→A5n x y=true)) (by simp only [↓Sh.dn,sx,Nat.reduceBEq,reduceCtorEq,Nat.reduceEqDiff]) ⟨rfl,fun j x h=>by omega,fun j x y h=>by omega⟩ ?_ ?_
  ·rintro i F H' hlt hF f14 ⟨rfl,hall,hasc⟩ k
   have f0:=hF 0 rfl
   have f12:=hF 12 rfl
   have f13:=hF 13 rfl
   simp only [↓Sh.dn,sx,Nat.reduceBEq,reduceCtorEq,Nat.reduceEqDiff] at f0 f12 f13
   obtain ⟨g,o,kk,hia,hc,hcc⟩:=hs1.at Tryz.underlying22 A0m (i:=i) (x:=A2b l[i]) (by simp [hlt]) .i64
   have hy:=hcc 0 _ rfl
   simp only [Nat.add_zero] at hy
   have hget:l[i]?=some l[i]:=List.getElem?_eq_getElem hlt
   obtain ⟨r,H2,hd2,rfl,rfl⟩:=B6s (H:=H') (x:=l[i]) (hlx _ (List.getElem_mem hlt))
   simp only [↓Sh.dn,sx,Nat.reduceBEq,reduceCtorEq,Nat.reduceEqDiff,f0,f12,f13,f14,A4a,hlt,decide_true,hia,hy]
   refine ⟨_,_,hd2,?_⟩
   cases hch:chOk l[i] with
   | false=>
    have hbad:A8j l=1:=e1 (by
     rw [Bool.and_eq_false_iff]; left
     exact List.all_eq_false.2 ⟨_,List.getElem_mem hlt,by rw [hsy _ (List.getElem_mem hlt),hch]; simp⟩)
    simp only [↓Sh.dn,sx,Nat.reduceBEq,reduceCtorEq,Nat.reduceEqDiff,hres,hbad,hk1]
   | true=>
    have hall':∀ (j:Nat) x,j < i+1→l[j]?=some x→chOk x=true:=by
     intro j x hj hx
     by_cases he:j=i
     ·subst he; rw [hget] at hx; rw [← Option.some.inj hx]; exact hch
     ·exact hall j x (by omega) hx
    by_cases hi0:0 < i
    ·have hlt1:i - 1 < l.length:=by omega
     obtain ⟨g',o',kk',hia',hc',hcc'⟩:=hs1.at Tryz.underlying22 A0m (i:=i - 1) (x:=A2b l[i - 1]) (by simp [hlt1]) .i64
     have hy':=hcc' 0 _ rfl
     simp only [Nat.add_zero] at hy'
     have hw1:IntKind.wrap .i64 ((i:Int) - 1)=((i - 1:Nat):Int):=by rw [wrap64 (by omega) (by omega)]; omega
     have ei:decide ((0:Int) < (i:Int))=true:=by simpa using hi0
     have hget':l[i - 1]?=some l[i - 1]:=List.getElem?_eq_getElem hlt1
     simp only [↓Sh.dn,sx,Nat.reduceBEq,reduceCtorEq,Nat.reduceEqDiff,f0,ei,hw1,hia',hy']
     cases hq:A5n l[i - 1] l[i] with
     | false=>
      have hbad:A8j l=1:=e1 (by
       rw [Bool.and_eq_false_iff]; right
       cases hb:ascB l with
       | false=>rfl
       | true=>
        have:=A60.1 hb (i - 1) _ _ hget' (by rw [show i - 1+1=i by omega]; exact hget)
        rw [this] at hq; cases hq)
      simp only [↓Sh.dn,sx,Nat.reduceBEq,reduceCtorEq,Nat.reduceEqDiff,hres,hbad,hk1]
     | true=>
      simp only [↓Sh.dn,sx,Nat.reduceBEq,reduceCtorEq,Nat.reduceEqDiff,f14,wrap_succ hlt hl]
      refine k _ _ (by repeat (first | refine Same.put ?_ rfl | exact Same.rfl' _)) (by simp only [↓Sh.dn,sx,Nat.reduceBEq,reduceCtorEq,Nat.reduceEqDiff]) ⟨rfl,hall',fun j x y hj hx hy=>?_⟩
      by_cases he:j+1=i
      ·have:j=i - 1:=by omega
       subst this
       rw [he,hget] at hy
       rw [hget'] at hx
       rw [← Option.some.inj hx,← Option.some.inj hy]; exact hq
      ·exact hasc j x y (by omega) hx hy
    ·have ei:decide ((0:Int) < (i:Int))=false:=by simpa using hi0
     simp only [↓Sh.dn,sx,Nat.reduceBEq,reduceCtorEq,Nat.reduceEqDiff,f14,ei,wrap_succ hlt hl]
     exact k _ _ (by repeat (first | refine Same.put ?_ rfl | exact Same.rfl' _)) (by simp only [↓Sh.dn,sx,Nat.reduceBEq,reduceCtorEq,Nat.reduceEqDiff]) ⟨rfl,hall',fun j x y hj hx hy=>by omega⟩
  ·rintro F H' hF f14 ⟨rfl,hall,hasc⟩
   have f13:=hF 13 rfl
   simp only [↓Sh.dn,sx,Nat.reduceBEq,reduceCtorEq,Nat.reduceEqDiff] at f13
   have hgood:A8j l=0:=e0 (by
    rw [Bool.and_eq_true]
    refine ⟨List.all_eq_true.2 fun x hx=>?_,A60.2 fun j x y hx hy=>hasc j x y (List.getElem?_eq_some_iff.1 hy).1 hx hy⟩
    obtain ⟨j,hj⟩:=List.mem_iff_getElem?.1 hx
    rw [hsy x hx]
    exact hall j x (List.getElem?_eq_some_iff.1 hj).1 hj)
   simp only [↓Sh.dn,sx,Nat.reduceBEq,reduceCtorEq,Nat.reduceEqDiff,f13,f14,A4a,Nat.lt_irrefl,decide_false,hres,hgood,hk1]
end Go.Proofs.YtnoengaghabmjaaGreatDoor
/- cmp.Less, where nothing is no number. -/
namespace Go.Proofs.YtnoengaghabmjaaGreatDoor
open Go Go.Proofs Go.Proofs.Sh
theorem B05 {H:AH} {x:ByteArray}:Sh.Call Tryz.prog (knows 8) 149 [Value.string x] H (fun r H'=>H'=H∧r=.bool false):=by
 refine A5a rfl Tryz.func149 rfl (Nat.le_of_ble_eq_true rfl) ?_
 have hres:Tryz.f149.results.toList=[.tmp 2]:=rfl
 simp only [↓Sh.dn,sx,Nat.reduceBEq,reduceCtorEq,Nat.reduceEqDiff,hres,decide_true,Bool.not_true,and_self]
theorem C6i {H:AH} {x y:ByteArray}:Sh.Call Tryz.prog (knows 8) 124 [Value.string x,Value.string y] H (fun r H'=>H'=H∧r=.bool (A5n x y)):=by
 refine A5a rfl Tryz.func124 rfl (Nat.le_of_ble_eq_true rfl) ?_
 have hres:Tryz.f124.results.toList=[.tmp 4]:=rfl
 obtain ⟨r,H1,hd,rfl,rfl⟩:=B05 (H:=H) (x:=x)
 simp only [↓Sh.dn,sx,Nat.reduceBEq,reduceCtorEq,Nat.reduceEqDiff]
 refine ⟨_,_,hd,?_⟩
 simp only [↓Sh.dn,sx,Nat.reduceBEq,reduceCtorEq,Nat.reduceEqDiff,hres,and_self]
 try rfl
section
variable {H:AH} {g k n m cap i:Nat} {l:List ByteArray}
end
end Go.Proofs.YtnoengaghabmjaaGreatDoor
/- slices.BinarySearch of an ascending list of texts. -/
namespace Go.Proofs.YtnoengaghabmjaaGreatDoor
open Go Go.Proofs Go.Proofs.Sh
theorem isNaNStr {H:AH} {x:ByteArray}:Sh.Call Tryz.prog (knows 8) 125 [.string x] H (fun r H'=>H'=H∧r=.bool false):=by
 refine A5a rfl Tryz.func125 rfl (Nat.le_of_ble_eq_true rfl) ?_
 have hres:Tryz.f125.results.toList=[.tmp 2]:=rfl
 simp only [↓Sh.dn,sx,Nat.reduceBEq,reduceCtorEq,Nat.reduceEqDiff,hres,decide_true,Bool.not_true,and_self]
theorem A68 {H:AH} {v:Value} {x:ByteArray} {l:List ByteArray} (hs:Sl H v 1 (l.map A2b)) (ha:Asc l) (hl:l.length≤1048576):
  Sh.Call Tryz.prog (knows 8) 95 [v,.string x] H (fun r H'=>H'=H∧∃ k:Nat,r=.tuple #[.int .i64 (k:Int),.bool (A8u l x)]∧k≤l.length∧(l[k]?=some x↔x∈l)):=by
 refine A5a rfl Tryz.func95 rfl (Nat.le_of_ble_eq_true rfl) ?_
 have hres:Tryz.f95.results.toList=[.tmp 4,.tmp 5]:=rfl
 have hlen:=hs.len Tryz.underlying22 H
 simp only [↓Sh.dn,sx,Nat.reduceBEq,reduceCtorEq,Nat.reduceEqDiff,hlen,List.length_map]
 refine A5e (fun m F H'=>H'=H∧∃ a b:Nat,m=b - a∧a≤b∧b≤l.length∧F.get 7=some (.int .i64 (a:Int))∧F.get 8=some (.int .i64 (b:Int))∧F.get 0=some v∧F.get 1=some (.string x)∧F.get 6=some (.int .i64 (l.length:Int))∧
  (∀ (i:Nat) y,i < a→l[i]?=some y→A5n y x=true)∧(∀ (i:Nat) y,b≤i→l[i]?=some y→A5n y x=false)) (m:=l.length)
  ⟨rfl,0,l.length,by omega,by omega,by omega,by simp only [↓Sh.dn,sx,Nat.reduceBEq,reduceCtorEq,Nat.reduceEqDiff]; rfl,by simp only [↓Sh.dn,sx,Nat.reduceBEq,reduceCtorEq,Nat.reduceEqDiff],by simp only [↓Sh.dn,sx,Nat.reduceBEq,reduceCtorEq,Nat.reduceEqDiff],by simp only [↓Sh.dn,sx,Nat.reduceBEq,reduceCtorEq,Nat.reduceEqDiff],by simp only [↓Sh.dn,sx,Nat.reduceBEq,reduceCtorEq,Nat.reduceEqDiff],fun i y h=>by omega,fun i y h1 h2=>by have:=(List.getElem?_eq_some_iff.1 h2).1; omega⟩ ?_
 rintro m F H' ⟨rfl,a,b,rfl,hab,hbn,f7,f8,f0,f1,f6,hlo,hhi⟩ k
 by_cases hlt:a < b
 ·have hm:(a+b) / 2 < l.length:=by omega
  have hw2:IntKind.wrap .i64 (((a+b) / 2:Nat):Int)=(((a+b) / 2:Nat):Int):=wrap64 (by omega) (by omega)
  obtain ⟨g,o,kk,hia,hc,hcc⟩:=hs.at Tryz.underlying22 A0m (i:=(a+b) / 2) (x:=A2b l[(a+b) / 2]) (by simp [hm]) .i64
  have hy:=hcc 0 _ rfl
  simp only [Nat.add_zero] at hy
  obtain ⟨r,H1,hd,rfl,rfl⟩:=C6i (H:=H') (x:=l[(a+b) / 2]) (y:=x)
  have hget:l[(a+b) / 2]?=some l[(a+b) / 2]:=List.getElem?_eq_getElem hm
  simp only [↓Sh.dn,sx,Nat.reduceBEq,reduceCtorEq,Nat.reduceEqDiff,f0,f1,f6,f7,f8,A4a,hlt,decide_true,C2p,half a b (by omega),hw2,hia,hy,forall_const,reduceCtorEq,false_implies,and_true,true_and]
  refine ⟨_,_,hd,?_⟩
  cases hpv:A5n l[(a+b) / 2] x with
  | true=>
   have hw3:IntKind.wrap .i64 ((((a+b) / 2:Nat):Int)+1)=(((a+b) / 2+1:Nat):Int):=wrap_succ (n:=l.length) (by omega) hl
   simp only [↓Sh.dn,sx,Nat.reduceBEq,reduceCtorEq,Nat.reduceEqDiff,forall_const,reduceCtorEq,false_implies,and_true,true_and,hw3]
   refine k (b - ((a+b) / 2+1)) _ _ (by omega) ⟨rfl,(a+b) / 2+1,b,rfl,by omega,hbn,by simp only [↓Sh.dn,sx,Nat.reduceBEq,reduceCtorEq,Nat.reduceEqDiff],by simp only [↓Sh.dn,sx,Nat.reduceBEq,reduceCtorEq,Nat.reduceEqDiff,f8],by simp only [↓Sh.dn,sx,Nat.reduceBEq,reduceCtorEq,Nat.reduceEqDiff,f0],by simp only [↓Sh.dn,sx,Nat.reduceBEq,reduceCtorEq,Nat.reduceEqDiff,f1],by simp only [↓Sh.dn,sx,Nat.reduceBEq,reduceCtorEq,Nat.reduceEqDiff,f6],fun i y hi hy=>?_,hhi⟩
   by_cases he:i=(a+b) / 2
   ·subst he; rw [hget] at hy; rw [← Option.some.inj hy]; exact hpv
   ·exact A8w (ha _ _ _ _ (by omega) hy hget) hpv
  | false=>
   simp only [↓Sh.dn,sx,Nat.reduceBEq,reduceCtorEq,Nat.reduceEqDiff,forall_const,reduceCtorEq,false_implies,and_true,true_and]
   refine k ((a+b) / 2 - a) _ _ (by omega) ⟨rfl,a,(a+b) / 2,rfl,by omega,by omega,by simp only [↓Sh.dn,sx,Nat.reduceBEq,reduceCtorEq,Nat.reduceEqDiff,f7],by simp only [↓Sh.dn,sx,Nat.reduceBEq,reduceCtorEq,Nat.reduceEqDiff],by simp only [↓Sh.dn,sx,Nat.reduceBEq,reduceCtorEq,Nat.reduceEqDiff,f0],by simp only [↓Sh.dn,sx,Nat.reduceBEq,reduceCtorEq,Nat.reduceEqDiff,f1],by simp only [↓Sh.dn,sx,Nat.reduceBEq,reduceCtorEq,Nat.reduceEqDiff,f6],hlo,fun i y h1 hy=>?_⟩
   by_cases he:i=(a+b) / 2
   ·subst he; rw [hget] at hy; rw [← Option.some.inj hy]; exact hpv
   ·cases hlt2:A5n y x with
    | false=>rfl
    | true=>rw [A8w (ha _ _ _ _ (by omega) hget hy) hlt2] at hpv; cases hpv
 ·have hab':a=b:=by omega
  subst hab'
  have hp:=B9w ha x hlo hhi
  by_cases hla:a < l.length
  ·obtain ⟨g,o,kk,hia,hc,hcc⟩:=hs.at Tryz.underlying22 A0m (i:=a) (x:=A2b l[a]) (by simp [hla]) .i64
   have hy:=hcc 0 _ rfl
   simp only [Nat.add_zero] at hy
   have hget:l[a]?=some l[a]:=List.getElem?_eq_getElem hla
   by_cases hex:l[a]=x
   ·have hin:A8u l x=true:=A5l.2 (hp.1 (by rw [hget,hex]))
    simp only [↓Sh.dn,sx,Nat.reduceBEq,reduceCtorEq,Nat.reduceEqDiff,f0,f1,f6,f7,f8,A4a,hlt,hla,hia,hy,hex,decide_true,decide_false,hres,hin,forall_const,reduceCtorEq,false_implies,and_true,true_and]
    exact ⟨a,rfl,hbn,hp⟩
   ·have hin : A8u l x = false := by
      cases h : A8u l x with
      | false => rfl
      | true => have := hp.2 (A5l.1 h); rw [hget] at this; exact absurd (Option.some.inj this) hex
    obtain ⟨r, H1, hd, rfl, rfl⟩ := isNaNStr (H := H') (x := l[a])
    simp only [↓Sh.dn, sx, Nat.reduceBEq, reduceCtorEq, Nat.reduceEqDiff, f0, f1, f6, f7, f8, A4a, hlt, hla, hia, hy, hex, decide_true, decide_false, hres, hin, forall_const, reduceCtorEq, false_implies, and_true, true_and]
    refine ⟨_, _, hd, ?_⟩
    simp only [↓Sh.dn, sx, Nat.reduceBEq, reduceCtorEq, Nat.reduceEqDiff, f7, forall_const, reduceCtorEq, false_implies, and_true, true_and, hres]
    exact ⟨a, rfl, hbn, hp⟩
  ·have hin : A8u l x = false := by
     cases h : A8u l x with
     | false => rfl
     | true => have := hp.2 (A5l.1 h); rw [List.getElem?_eq_none (by omega)] at this; cases this
   simp only [↓Sh.dn, sx, Nat.reduceBEq, reduceCtorEq, Nat.reduceEqDiff, f0, f1, f6, f7, f8, A4a, hlt, hla, decide_true, decide_false, hres, hin, forall_const, reduceCtorEq, false_implies, and_true, true_and]
   exact ⟨a, rfl, hbn, hp⟩
end Go.Proofs.YtnoengaghabmjaaGreatDoor
/- What is wrong with a net of any kind, by the program. -/
namespace Go.Proofs.YtnoengaghabmjaaGreatDoor
open Go Go.Proofs Go.Proofs.Sh
theorem C0z {H:AH} {gg:Nat} {sg ar en:Value} {N:NetD} {s:ByteArray} (hb:NetBox H gg sg ar en N) (ha:Asc N.sigma) (hl:N.sigma.length≤1048576):
  Sh.Call Tryz.prog (knows 8) 123 [.string s,.pointer (some ⟨gg,0,some 0⟩)] H (fun r H'=>H'=H∧r=.bool (!A2k N s)):=by
 refine A5a rfl Tryz.func123 rfl (Nat.le_of_ble_eq_true rfl) ?_
 have hres:Tryz.f123.results.toList=[.tmp 3]:=rfl
 obtain ⟨r,H1,hd,rfl,k,rfl,_,_⟩:=A68 (x:=s) hb.hsg ha hl
 simp only [↓Sh.dn,sx,Nat.reduceBEq,reduceCtorEq,Nat.reduceEqDiff,hb.c0,hb.c1,hb.c2,hb.c3,hb.ca,A3a hb,A1a hb,A2a hb]
 refine ⟨_,_,hd,?_⟩
 simp only [↓Sh.dn,sx,Nat.reduceBEq,reduceCtorEq,Nat.reduceEqDiff,B3c]
 by_cases h:s=⟨#[]⟩
 ·simp only [↓Sh.dn,sx,Nat.reduceBEq,reduceCtorEq,Nat.reduceEqDiff,h,decide_true,hres,A2k]
 ·simp only [↓Sh.dn,sx,Nat.reduceBEq,reduceCtorEq,Nat.reduceEqDiff,h,decide_false,hres,A2k]
theorem C1i {H:AH} {v:Value} {N:NetD} (h:A3m H v N) (hsm:A5c N) (hw:Wf H):
  Sh.Call Tryz.prog (knows 8) 91 [v] H (fun r H'=>Kept H H'∧r=.int .i64 (A5h N)):=by
 refine A5a rfl Tryz.func91 rfl (Nat.le_of_ble_eq_true rfl) ?_
 have hres:Tryz.f91.results.toList=[.tmp 2]:=rfl
 obtain ⟨sg,ar,en,rfl,hsg,har,hen⟩:=h
 have hb1:=NetBox.of (N:=N) hw hsg har hen
 have hk1:Kept H (H.new 4 [sg,.int .i64 N.states,ar,en]).2:=Kept.new hw 4 _
 have eA:decide ((60000:Int) < (N.arcs.length:Int))=decide (60000 < N.arcs.length):=decide_eq_decide.2 (by omega)
 have eE:decide ((60000:Int) < (N.ends.length:Int))=decide (60000 < N.ends.length):=decide_eq_decide.2 (by omega)
 simp only [↓Sh.dn,sx,Nat.reduceBEq,reduceCtorEq,Nat.reduceEqDiff,A0n hsg.isCell har.isCell hen.isCell]
 generalize H.next=gg at hb1 ⊢
 generalize (H.new 4 [sg,.int .i64 N.states,ar,en]).2=H1 at hb1 hk1 ⊢
 simp only [↓Sh.dn,sx,Nat.reduceBEq,reduceCtorEq,Nat.reduceEqDiff,hb1.c0,hb1.c1,hb1.c2,hb1.c3,hb1.ca,A3a hb1,A1a hb1,A2a hb1]
 by_cases hA:3000 < N.states
 ·simp only [↓Sh.dn,sx,Nat.reduceBEq,reduceCtorEq,Nat.reduceEqDiff,hA,decide_true,hres,A5h,A2n,Bool.true_or,hk1]
 by_cases hB:60000 < N.arcs.length
 ·simp only [↓Sh.dn,sx,Nat.reduceBEq,reduceCtorEq,Nat.reduceEqDiff,hb1.c0,hb1.c1,hb1.c2,hb1.c3,hb1.ca,A3a hb1,A1a hb1,A2a hb1,hA,eA,hB,decide_true,decide_false,hres,A5h,A2n,Bool.true_or,Bool.or_true,hk1]
 by_cases hC:60000 < N.ends.length
 ·simp only [↓Sh.dn,sx,Nat.reduceBEq,reduceCtorEq,Nat.reduceEqDiff,hb1.c0,hb1.c1,hb1.c2,hb1.c3,hb1.ca,A3a hb1,A1a hb1,A2a hb1,hA,eA,eE,hB,hC,decide_true,decide_false,hres,A5h,A2n,Bool.true_or,Bool.or_true,hk1]
 have hT:A2n N=false:=by simp [A2n,hA,hB,hC]
 simp only [↓Sh.dn,sx,Nat.reduceBEq,reduceCtorEq,Nat.reduceEqDiff,hb1.c0,hb1.c1,hb1.c2,hb1.c3,hb1.ca,A3a hb1,A1a hb1,A2a hb1,hA,eA,eE,hB,hC,decide_true,decide_false,hres]
 obtain ⟨r,H2,hd,hk2,rfl⟩:=B9x hb1.hsg hsm.sg hsm.sx hk1.wf
 refine ⟨_,_,hd,?_⟩
 have hb2:=hb1.kept hk1.wf hk2
 have hk12:=hk1.trans hk2
 by_cases hS:A8j N.sigma=0
 case neg=>simp only [↓Sh.dn,sx,Nat.reduceBEq,reduceCtorEq,Nat.reduceEqDiff,hS,decide_false,hres,A5h,hT,Bool.false_eq_true,if_false,ne_eq,not_false_eq_true,if_true,hk12]
 have hasc:=A20 hS
 simp only [↓Sh.dn,sx,Nat.reduceBEq,reduceCtorEq,Nat.reduceEqDiff,hS,decide_true,hb2.c0,hb2.c1,hb2.c2,hb2.c3,hb2.ca,A3a hb2,A1a hb2,A2a hb2]
 by_cases hst:N.states < 1
 ·simp only [↓Sh.dn,sx,Nat.reduceBEq,reduceCtorEq,Nat.reduceEqDiff,hst,decide_true,hres,A5h,hT,hS,ne_eq,not_true_eq_false,if_false,if_true,hk12,Bool.false_eq_true]
 simp only [↓Sh.dn,sx,Nat.reduceBEq,reduceCtorEq,Nat.reduceEqDiff,hst,decide_false,hb2.c0,hb2.c1,hb2.c2,hb2.c3,hb2.ca,A3a hb2,A1a hb2,A2a hb2]
 have e1:N.arcs.any (A3j N)=true→A5h N=1:=by intro h; simp [A5h,hT,hS,hst,h]
 have e2:N.ends.any (A8p N)=true→A5h N=1:=by intro h; simp [A5h,hT,hS,hst,h]
 have e3:N.arcs.any (A3j N)=false→N.ends.any (A8p N)=false→A5h N=0:=by intro h h'; simp [A5h,hT,hS,hst,h,h']
 refine A6g N.arcs.length 37 (List.range' 37 41++[2,6]) (fun i F H'=>Kept H2 H'∧(N.arcs.take i).any (A3j N)=false) (by simp only [↓Sh.dn,sx,Nat.reduceBEq,reduceCtorEq,Nat.reduceEqDiff]) ⟨Kept.refl hk12.wf,rfl⟩ ?_ ?_
 ·rintro i F H' hlt hF f37 ⟨hk,hall⟩ k
  have f1:=hF 1 rfl
  have f4:=hF 4 rfl
  have f35:=hF 35 rfl
  have f36:=hF 36 rfl
  simp only [↓Sh.dn,sx,Nat.reduceBEq,reduceCtorEq,Nat.reduceEqDiff] at f1 f4 f35 f36
  have hb':=hb2.kept hk12.wf hk
  have hb3:=hb'.new hk.wf 5 (N.arcs[i].cells)
  have hk3:=hk.news 5 (N.arcs[i].cells)
  obtain ⟨g,o,kk,hia,hc,hcc⟩:=hb'.har.at Tryz.underlying23 A8l (i:=i) (x:=N.arcs[i].cells) (by simp [hlt]) .i64
  clear hcc
  have hin:N.arcs[i]∈N.arcs:=List.getElem_mem hlt
  have hnext:A3j N N.arcs[i]=false→(N.arcs.take (i+1)).any (A3j N)=false:=by
   intro h
   rw [List.take_add_one,List.getElem?_eq_getElem hlt]
   simp only [Option.toList,List.any_append,hall,List.any_cons,List.any_nil,h,Bool.or_false]
  have hbad:A3j N N.arcs[i]=true→A5h N=1:=fun h=>e1 (List.any_eq_true.2 ⟨_,hin,h⟩)
  generalize N.arcs[i]=a at hb3 hk3 hc hnext hbad
  simp only [↓Sh.dn,sx,Nat.reduceBEq,reduceCtorEq,Nat.reduceEqDiff,hb'.c0,hb'.c1,hb'.c2,hb'.c3,hb'.ca,A3a hb',A1a hb',A2a hb',A2c,A1e,A7d,A4g,A5g,A0c,A1c,A0e,A8d,A7c,arc0,arc1,arc2,arc3,arc4,end0,end1,f1,f35,f36,f37,Option.map_some,A4a,hlt,decide_true,hia,hc,hres]
  by_cases h1:a.fr < 0
  ·simp only [↓Sh.dn,sx,Nat.reduceBEq,reduceCtorEq,Nat.reduceEqDiff,hb3.c0,hb3.c1,hb3.c2,hb3.c3,hb3.ca,A3a hb3,A1a hb3,A2a hb3,A2c,A1e,A7d,A4g,A5g,A0c,A1c,A0e,A8d,A7c,arc0,arc1,arc2,arc3,arc4,end0,end1,h1,decide_true,hres,hbad (by simp [A3j,h1]),hk12.trans hk3]
  simp only [↓Sh.dn,sx,Nat.reduceBEq,reduceCtorEq,Nat.reduceEqDiff,hb3.c0,hb3.c1,hb3.c2,hb3.c3,hb3.ca,A3a hb3,A1a hb3,A2a hb3,A2c,A1e,A7d,A4g,A5g,A0c,A1c,A0e,A8d,A7c,arc0,arc1,arc2,arc3,arc4,end0,end1,f1,h1,decide_false]
  by_cases h2:N.states≤a.fr
  ·simp only [↓Sh.dn,sx,Nat.reduceBEq,reduceCtorEq,Nat.reduceEqDiff,hb3.c0,hb3.c1,hb3.c2,hb3.c3,hb3.ca,A3a hb3,A1a hb3,A2a hb3,A2c,A1e,A7d,A4g,A5g,A0c,A1c,A0e,A8d,A7c,arc0,arc1,arc2,arc3,arc4,end0,end1,h2,decide_true,hres,hbad (by simp [A3j,h2]),hk12.trans hk3]
  simp only [↓Sh.dn,sx,Nat.reduceBEq,reduceCtorEq,Nat.reduceEqDiff,hb3.c0,hb3.c1,hb3.c2,hb3.c3,hb3.ca,A3a hb3,A1a hb3,A2a hb3,A2c,A1e,A7d,A4g,A5g,A0c,A1c,A0e,A8d,A7c,arc0,arc1,arc2,arc3,arc4,end0,end1,f1,h2,decide_false]
  by_cases h3:a.to < 0
  ·simp only [↓Sh.dn,sx,Nat.reduceBEq,reduceCtorEq,Nat.reduceEqDiff,hb3.c0,hb3.c1,hb3.c2,hb3.c3,hb3.ca,A3a hb3,A1a hb3,A2a hb3,A2c,A1e,A7d,A4g,A5g,A0c,A1c,A0e,A8d,A7c,arc0,arc1,arc2,arc3,arc4,end0,end1,h3,decide_true,hres,hbad (by simp [A3j,h3]),hk12.trans hk3]
  simp only [↓Sh.dn,sx,Nat.reduceBEq,reduceCtorEq,Nat.reduceEqDiff,hb3.c0,hb3.c1,hb3.c2,hb3.c3,hb3.ca,A3a hb3,A1a hb3,A2a hb3,A2c,A1e,A7d,A4g,A5g,A0c,A1c,A0e,A8d,A7c,arc0,arc1,arc2,arc3,arc4,end0,end1,f1,h3,decide_false]
  by_cases h4:N.states≤a.to
  ·simp only [↓Sh.dn,sx,Nat.reduceBEq,reduceCtorEq,Nat.reduceEqDiff,hb3.c0,hb3.c1,hb3.c2,hb3.c3,hb3.ca,A3a hb3,A1a hb3,A2a hb3,A2c,A1e,A7d,A4g,A5g,A0c,A1c,A0e,A8d,A7c,arc0,arc1,arc2,arc3,arc4,end0,end1,h4,decide_true,hres,hbad (by simp [A3j,h4]),hk12.trans hk3]
  obtain ⟨r,H4,hd4,rfl,rfl⟩:=C0z (s:=a.inn) hb3 hasc hsm.sg
  simp only [↓Sh.dn,sx,Nat.reduceBEq,reduceCtorEq,Nat.reduceEqDiff,hb3.c0,hb3.c1,hb3.c2,hb3.c3,hb3.ca,A3a hb3,A1a hb3,A2a hb3,A2c,A1e,A7d,A4g,A5g,A0c,A1c,A0e,A8d,A7c,arc0,arc1,arc2,arc3,arc4,end0,end1,f1,f4,h4,decide_false]
  refine ⟨_,_,hd4,?_⟩
  have hb4:=hb3
  cases hI:A2k N a.inn with
  | true=>simp only [↓Sh.dn,sx,Nat.reduceBEq,reduceCtorEq,Nat.reduceEqDiff,hres,hbad (by simp [A3j,hI]),hk12.trans hk3]
  | false=>
   obtain ⟨r,H5,hd5,rfl,rfl⟩:=C0z (s:=a.out) hb3 hasc hsm.sg
   simp only [↓Sh.dn,sx,Nat.reduceBEq,reduceCtorEq,Nat.reduceEqDiff,hb3.c0,hb3.c1,hb3.c2,hb3.c3,hb3.ca,A3a hb3,A1a hb3,A2a hb3,A2c,A1e,A7d,A4g,A5g,A0c,A1c,A0e,A8d,A7c,arc0,arc1,arc2,arc3,arc4,end0,end1,f1,f4]
   refine ⟨_,_,hd5,?_⟩
   cases hO:A2k N a.out with
   | true=>simp only [↓Sh.dn,sx,Nat.reduceBEq,reduceCtorEq,Nat.reduceEqDiff,hres,hbad (by simp [A3j,hO]),hk12.trans hk3]
   | false=>
    simp only [↓Sh.dn,sx,Nat.reduceBEq,reduceCtorEq,Nat.reduceEqDiff,f37,wrap_succ hlt hsm.ar]
    exact k _ _ (by repeat (first | refine Same.put ?_ rfl | exact Same.rfl' _)) (by simp only [↓Sh.dn,sx,Nat.reduceBEq,reduceCtorEq,Nat.reduceEqDiff]) ⟨hk3,hnext (by simp [A3j,h1,h2,h3,h4,hI,hO])⟩
 ·rintro F H' hF f37 ⟨hk,hall⟩
  have f1:=hF 1 rfl
  have f36:=hF 36 rfl
  simp only [↓Sh.dn,sx,Nat.reduceBEq,reduceCtorEq,Nat.reduceEqDiff] at f1 f36
  rw [List.take_length] at hall
  have hb':=hb2.kept hk12.wf hk
  simp only [↓Sh.dn,sx,Nat.reduceBEq,reduceCtorEq,Nat.reduceEqDiff,hb'.c0,hb'.c1,hb'.c2,hb'.c3,hb'.ca,A3a hb',A1a hb',A2a hb',f1,f36,f37,A4a,Nat.lt_irrefl,decide_false]
  refine A6g N.ends.length 81 (List.range' 81 15++[2,8]) (fun i F H''=>Kept H' H''∧(N.ends.take i).any (A8p N)=false) (by simp only [↓Sh.dn,sx,Nat.reduceBEq,reduceCtorEq,Nat.reduceEqDiff]) ⟨Kept.refl hk.wf,rfl⟩ ?_ ?_
  ·rintro i F2 H'' hlt hF2 f81 ⟨hk2',hall2⟩ k
   have g1:=hF2 1 rfl
   have g79:=hF2 79 rfl
   have g80:=hF2 80 rfl
   simp only [↓Sh.dn,sx,Nat.reduceBEq,reduceCtorEq,Nat.reduceEqDiff,f1] at g1 g79 g80
   have hbx:=hb'.kept hk.wf hk2'
   have hb3:=hbx.new hk2'.wf 2 (N.ends[i].cells)
   have hk3:=hk2'.news 2 (N.ends[i].cells)
   have hkk:=(hk12.trans hk).trans hk3
   obtain ⟨g,o,kk,hia,hc,hcc⟩:=hbx.hen.at Tryz.underlying24 A6q (i:=i) (x:=N.ends[i].cells) (by simp [hlt]) .i64
   clear hcc
   have hbad:A8p N N.ends[i]=true→A5h N=1:=fun h=>e2 (List.any_eq_true.2 ⟨_,List.getElem_mem hlt,h⟩)
   simp only [↓Sh.dn,sx,Nat.reduceBEq,reduceCtorEq,Nat.reduceEqDiff,hbx.c0,hbx.c1,hbx.c2,hbx.c3,hbx.ca,A3a hbx,A1a hbx,A2a hbx,A2c,A1e,A7d,A4g,A5g,A0c,A1c,A0e,A8d,A7c,arc0,arc1,arc2,arc3,arc4,end0,end1,g1,g79,g80,f81,A4a,hlt,decide_true,hia,hc,Option.map_some]
   by_cases h1:N.ends[i].state < 0
   ·simp only [↓Sh.dn,sx,Nat.reduceBEq,reduceCtorEq,Nat.reduceEqDiff,hb3.c0,hb3.c1,hb3.c2,hb3.c3,hb3.ca,A3a hb3,A1a hb3,A2a hb3,A2c,A1e,A7d,A4g,A5g,A0c,A1c,A0e,A8d,A7c,arc0,arc1,arc2,arc3,arc4,end0,end1,h1,decide_true,hres,hbad (by simp [A8p,h1]),hkk]
   simp only [↓Sh.dn,sx,Nat.reduceBEq,reduceCtorEq,Nat.reduceEqDiff,hb3.c0,hb3.c1,hb3.c2,hb3.c3,hb3.ca,A3a hb3,A1a hb3,A2a hb3,A2c,A1e,A7d,A4g,A5g,A0c,A1c,A0e,A8d,A7c,arc0,arc1,arc2,arc3,arc4,end0,end1,g1,f81,h1,decide_false]
   by_cases h2:N.states≤N.ends[i].state
   ·simp only [↓Sh.dn,sx,Nat.reduceBEq,reduceCtorEq,Nat.reduceEqDiff,h2,decide_true,hres,hbad (by simp [A8p,h2]),hkk]
   simp only [↓Sh.dn,sx,Nat.reduceBEq,reduceCtorEq,Nat.reduceEqDiff,f81,h2,decide_false,wrap_succ hlt hsm.en]
   refine k _ _ (by repeat (first | refine Same.put ?_ rfl | exact Same.rfl' _)) (by simp only [↓Sh.dn,sx,Nat.reduceBEq,reduceCtorEq,Nat.reduceEqDiff]) ⟨hk3,?_⟩
   rw [List.take_add_one,List.getElem?_eq_getElem hlt]
   simp only [Option.toList,List.any_append,hall2,List.any_cons,List.any_nil,Bool.or_false,A8p,h1,h2,decide_false]
  ·rintro F2 H'' hF2 f81 ⟨hk2',hall2⟩
   have g80:=hF2 80 rfl
   simp only [↓Sh.dn,sx,Nat.reduceBEq,reduceCtorEq,Nat.reduceEqDiff] at g80
   rw [List.take_length] at hall2
   simp only [↓Sh.dn,sx,Nat.reduceBEq,reduceCtorEq,Nat.reduceEqDiff,g80,f81,A4a,Nat.lt_irrefl,decide_false,hres,e3 hall hall2,(hk12.trans hk).trans hk2']
end Go.Proofs.YtnoengaghabmjaaGreatDoor
/- Whether a net has a cost out of bounds. -/
namespace Go.Proofs.YtnoengaghabmjaaGreatDoor
open Go Go.Proofs Go.Proofs.Sh
def A9x (N:NetD) (m:Int):Bool:=N.arcs.any (fun a=>decide (a.cost < 0) || decide (m < a.cost)) || N.ends.any (fun a=>decide (a.cost < 0) || decide (m < a.cost))
theorem priced {H:AH} {v:Value} {N:NetD} {m:Int} (h:A3m H v N) (hsm:A5c N) (hw:Wf H):
  Sh.Call Tryz.prog (knows 8) 92 [v,.int .i64 m] H (fun r H'=>Kept H H'∧r=.bool (A9x N m)):=by
 refine A5a rfl Tryz.func92 rfl (Nat.le_of_ble_eq_true rfl) ?_
 have hres:Tryz.f92.results.toList=[.tmp 4]:=rfl
 obtain ⟨sg,ar,en,rfl,hsg,har,hen⟩:=h
 have hb1:=NetBox.of (N:=N) hw hsg har hen
 have hk1:Kept H (H.new 4 [sg,.int .i64 N.states,ar,en]).2:=Kept.new hw 4 _
 simp only [↓Sh.dn,sx,Nat.reduceBEq,reduceCtorEq,Nat.reduceEqDiff,A0n hsg.isCell har.isCell hen.isCell]
 generalize H.next=gg at hb1 ⊢
 generalize (H.new 4 [sg,.int .i64 N.states,ar,en]).2=H1 at hb1 hk1 ⊢
 simp only [↓Sh.dn,sx,Nat.reduceBEq,reduceCtorEq,Nat.reduceEqDiff,hb1.c0,hb1.c1,hb1.c2,hb1.c3,hb1.ca,A3a hb1,A1a hb1,A2a hb1]
 refine A6g N.arcs.length 12 (List.range' 12 14++[4,6]) (fun i F H'=>Kept H1 H'∧(N.arcs.take i).any (fun a=>decide (a.cost < 0) || decide (m < a.cost))=false) (by simp only [↓Sh.dn,sx,Nat.reduceBEq,reduceCtorEq,Nat.reduceEqDiff]) ⟨Kept.refl hk1.wf,rfl⟩ ?_ ?_
 ·rintro i F H' hlt hF f12 ⟨hk,hall⟩ k
  have f1:=hF 1 rfl
  have f10:=hF 10 rfl
  have f11:=hF 11 rfl
  simp only [↓Sh.dn,sx,Nat.reduceBEq,reduceCtorEq,Nat.reduceEqDiff] at f1 f10 f11
  have hb':=hb1.kept hk1.wf hk
  have hb3:=hb'.new hk.wf 5 (N.arcs[i].cells)
  have hk3:=hk.news 5 (N.arcs[i].cells)
  obtain ⟨g,o,kk,hia,hc,hcc⟩:=hb'.har.at Tryz.underlying23 A8l (i:=i) (x:=N.arcs[i].cells) (by simp [hlt]) .i64
  clear hcc
  have hbad:(decide (N.arcs[i].cost < 0) || decide (m < N.arcs[i].cost))=true→A9x N m=true:=fun h=>by
   rw [A9x,List.any_eq_true.2 ⟨_,List.getElem_mem hlt,h⟩]; rfl
  simp only [↓Sh.dn,sx,Nat.reduceBEq,reduceCtorEq,Nat.reduceEqDiff,hb'.c0,hb'.c1,hb'.c2,hb'.c3,hb'.ca,A3a hb',A1a hb',A2a hb',A2c,A1e,A7d,A4g,A5g,A0c,A1c,A0e,A8d,A7c,arc0,arc1,arc2,arc3,arc4,end0,end1,f1,f10,f11,f12,Option.map_some,A4a,hlt,decide_true,hia,hc,hres]
  by_cases h1:N.arcs[i].cost < 0
  ·simp only [↓Sh.dn,sx,Nat.reduceBEq,reduceCtorEq,Nat.reduceEqDiff,h1,decide_true,hres,hbad (by simp [h1]),hk1.trans hk3]
  simp only [↓Sh.dn,sx,Nat.reduceBEq,reduceCtorEq,Nat.reduceEqDiff,A2c,A1e,A7d,A4g,A5g,A0c,A1c,A0e,A8d,A7c,arc0,arc1,arc2,arc3,arc4,end0,end1,f1,h1,decide_false]
  by_cases h2:m < N.arcs[i].cost
  ·simp only [↓Sh.dn,sx,Nat.reduceBEq,reduceCtorEq,Nat.reduceEqDiff,h2,decide_true,hres,hbad (by simp [h2]),hk1.trans hk3]
  simp only [↓Sh.dn,sx,Nat.reduceBEq,reduceCtorEq,Nat.reduceEqDiff,f12,h2,decide_false,wrap_succ hlt hsm.ar]
  refine k _ _ (by repeat (first | refine Same.put ?_ rfl | exact Same.rfl' _)) (by simp only [↓Sh.dn,sx,Nat.reduceBEq,reduceCtorEq,Nat.reduceEqDiff]) ⟨hk3,?_⟩
  rw [List.take_add_one,List.getElem?_eq_getElem hlt]
  simp only [Option.toList,List.any_append,hall,List.any_cons,List.any_nil,Bool.or_false,h1,h2,decide_false]
 ·rintro F H' hF f12 ⟨hk,hall⟩
  have f2:=hF 2 rfl
  have f11:=hF 11 rfl
  simp only [↓Sh.dn,sx,Nat.reduceBEq,reduceCtorEq,Nat.reduceEqDiff] at f2 f11
  rw [List.take_length] at hall
  have hb':=hb1.kept hk1.wf hk
  simp only [↓Sh.dn,sx,Nat.reduceBEq,reduceCtorEq,Nat.reduceEqDiff,hb'.c0,hb'.c1,hb'.c2,hb'.c3,hb'.ca,A3a hb',A1a hb',A2a hb',f2,f11,f12,A4a,Nat.lt_irrefl,decide_false]
  refine A6g N.ends.length 29 (List.range' 29 14++[4,8]) (fun i F H''=>Kept H' H''∧(N.ends.take i).any (fun a=>decide (a.cost < 0) || decide (m < a.cost))=false) (by simp only [↓Sh.dn,sx,Nat.reduceBEq,reduceCtorEq,Nat.reduceEqDiff]) ⟨Kept.refl hk.wf,rfl⟩ ?_ ?_
  ·rintro i F2 H'' hlt hF2 f29 ⟨hk2',hall2⟩ k
   have g1:=hF2 1 rfl
   have h1':=hF 1 rfl
   have g27:=hF2 27 rfl
   have g28:=hF2 28 rfl
   simp only [↓Sh.dn,sx,Nat.reduceBEq,reduceCtorEq,Nat.reduceEqDiff] at g1 g27 g28 h1'
   have hbx:=hb'.kept hk.wf hk2'
   have hb3:=hbx.new hk2'.wf 2 (N.ends[i].cells)
   have hk3:=hk2'.news 2 (N.ends[i].cells)
   have hkk:=(hk1.trans hk).trans hk3
   obtain ⟨g,o,kk,hia,hc,hcc⟩:=hbx.hen.at Tryz.underlying24 A6q (i:=i) (x:=N.ends[i].cells) (by simp [hlt]) .i64
   clear hcc
   have hbad:(decide (N.ends[i].cost < 0) || decide (m < N.ends[i].cost))=true→A9x N m=true:=fun h=>by
    rw [A9x,List.any_eq_true.2 ⟨_,List.getElem_mem hlt,h⟩,Bool.or_true]
   simp only [↓Sh.dn,sx,Nat.reduceBEq,reduceCtorEq,Nat.reduceEqDiff,hbx.c0,hbx.c1,hbx.c2,hbx.c3,hbx.ca,A3a hbx,A1a hbx,A2a hbx,A2c,A1e,A7d,A4g,A5g,A0c,A1c,A0e,A8d,A7c,arc0,arc1,arc2,arc3,arc4,end0,end1,g1,h1',g27,g28,f29,A4a,hlt,decide_true,hia,hc,Option.map_some]
   by_cases h1:N.ends[i].cost < 0
   ·simp only [↓Sh.dn,sx,Nat.reduceBEq,reduceCtorEq,Nat.reduceEqDiff,h1,decide_true,hres,hbad (by simp [h1]),hkk]
   simp only [↓Sh.dn,sx,Nat.reduceBEq,reduceCtorEq,Nat.reduceEqDiff,A2c,A1e,A7d,A4g,A5g,A0c,A1c,A0e,A8d,A7c,arc0,arc1,arc2,arc3,arc4,end0,end1,g1,h1',f29,h1,decide_false]
   by_cases h2:m < N.ends[i].cost
   ·simp only [↓Sh.dn,sx,Nat.reduceBEq,reduceCtorEq,Nat.reduceEqDiff,h2,decide_true,hres,hbad (by simp [h2]),hkk]
   simp only [↓Sh.dn,sx,Nat.reduceBEq,reduceCtorEq,Nat.reduceEqDiff,f29,h2,decide_false,wrap_succ hlt hsm.en]
   refine k _ _ (by repeat (first | refine Same.put ?_ rfl | exact Same.rfl' _)) (by simp only [↓Sh.dn,sx,Nat.reduceBEq,reduceCtorEq,Nat.reduceEqDiff]) ⟨hk3,?_⟩
   rw [List.take_add_one,List.getElem?_eq_getElem hlt]
   simp only [Option.toList,List.any_append,hall2,List.any_cons,List.any_nil,Bool.or_false,h1,h2,decide_false]
  ·rintro F2 H'' hF2 f29 ⟨hk2',hall2⟩
   have g28:=hF2 28 rfl
   simp only [↓Sh.dn,sx,Nat.reduceBEq,reduceCtorEq,Nat.reduceEqDiff] at g28
   rw [List.take_length] at hall2
   simp only [↓Sh.dn,sx,Nat.reduceBEq,reduceCtorEq,Nat.reduceEqDiff,g28,f29,A4a,Nat.lt_irrefl,decide_false,hres,A9x,hall,hall2,(hk1.trans hk).trans hk2']
end Go.Proofs.YtnoengaghabmjaaGreatDoor
/- Whether nothing of a net costs. -/
namespace Go.Proofs.YtnoengaghabmjaaGreatDoor
open Go Go.Proofs Go.Proofs.Sh
def NetD.free (N:NetD):Bool:=N.arcs.all (fun a=>decide (a.cost=0)) && N.ends.all (fun a=>decide (a.cost=0))
theorem isFree {H:AH} {v:Value} {N:NetD} (h:A3m H v N) (hw:Wf H) (hl:N.arcs.length≤1048576) (hl2:N.ends.length≤1048576):Sh.Call Tryz.prog (knows 8) 50 [v] H (fun r H'=>r=.bool (NetD.free N)∧Kept H H'):=by
 obtain ⟨sg,ar,en,rfl,hsg,har,hen⟩:=h
 refine A5a rfl Tryz.func50 rfl (Nat.le_of_ble_eq_true rfl) ?_
 have hn:=A9m (P:=Tryz.prog) (H:=H) (t:=26) (vs:=[sg,.int .i64 N.states,ar,en]) A6p rfl (by simp [hsg.isCell,har.isCell,hen.isCell,show isCell (.int .i64 N.states)=true from rfl])
 have hO:=Obj.new (H:=H) 4 [sg,.int .i64 N.states,ar,en]
 have hk:Kept H (H.new 4 [sg,.int .i64 N.states,ar,en]).2:=Kept.new hw 4 _
 simp only [↓Sh.dn,sx,Nat.reduceBEq,reduceCtorEq,Nat.reduceEqDiff,↓Sh.wp_cond,hn]
 generalize (H.new 4 [sg,.int .i64 N.states,ar,en]).2=H1 at hO hk ⊢
 have c2:H1.cell ⟨H.next,2,some 0⟩=some ar:=hO.cell
 have c3:H1.cell ⟨H.next,3,some 0⟩=some en:=hO.cell
 have har1:=har.grow (hk.grow hw)
 have hen1:=hen.grow (hk.grow hw)
 have l2:=har1.len Tryz.underlying23 H1
 have l3:=hen1.len Tryz.underlying24 H1
 have hres:Tryz.f50.results.toList=[.tmp 2]:=rfl
 refine A1z N.arcs.length (fun i F H'=>H'=H1∧F.get 1=some (.pointer (some ⟨H.next,0,some 0⟩))∧F.get 3=some (.int .i64 (i:Int))∧(N.arcs.take i).all (fun a=>decide (a.cost=0))=true) (Nat.zero_le _) ⟨rfl,by simp only [↓Sh.dn,sx,Nat.reduceBEq,reduceCtorEq,Nat.reduceEqDiff,↓Sh.wp_cond],by simp only [↓Sh.dn,sx,Nat.reduceBEq,reduceCtorEq,Nat.reduceEqDiff,↓Sh.wp_cond]; rfl,rfl⟩ ?_
 rintro i F H' hi ⟨rfl,f1,f3,hall⟩ k
 by_cases hlt:i < N.arcs.length
 ·have hx:(N.arcs.map ArcD.cells)[i]?=some (N.arcs[i].cells):=by simp [hlt]
  obtain ⟨g,o,kk,hia,hc,hcc⟩:=har1.at Tryz.underlying23 A8l hx .i64
  have hcost:=hcc 4 _ rfl
  simp only [↓Sh.dn,sx,Nat.reduceBEq,reduceCtorEq,Nat.reduceEqDiff,↓Sh.wp_cond,f1,f3,c2,l2,hia,hcost,List.length_map,A4a,hlt,decide_true,forall_const,reduceCtorEq,false_implies,and_true,true_and,hres,resultsA,one]
  refine ⟨fun hne=>⟨?_,hk⟩,fun he=>k _ _ hlt ⟨rfl,by simp only [↓Sh.dn,sx,Nat.reduceBEq,reduceCtorEq,Nat.reduceEqDiff,↓Sh.wp_cond,f1],by simp only [↓Sh.dn,sx,Nat.reduceBEq,reduceCtorEq,Nat.reduceEqDiff,↓Sh.wp_cond,wrap_succ hlt hl],?_⟩⟩
  ·have : NetD.free N = false := by
     simp only [NetD.free, Bool.and_eq_false_iff, List.all_eq_false]
     exact .inl ⟨_, List.getElem_mem hlt, by simpa using hne⟩
   rw [this]
  ·rw [List.take_add_one,List.getElem?_eq_getElem hlt]
   simp only [Option.toList,List.all_append,hall,Bool.true_and,List.all_cons,List.all_nil,Bool.and_true]
   simpa using he
 ·have hin:i=N.arcs.length:=by omega
  subst hin
  rw [List.take_length] at hall
  simp only [↓Sh.dn,sx,Nat.reduceBEq,reduceCtorEq,Nat.reduceEqDiff,↓Sh.wp_cond,f1,f3,c2,l2,List.length_map,A4a,hlt,decide_false,forall_const,reduceCtorEq,false_implies,and_true,true_and]
  refine A1z N.ends.length (fun i F H''=>H''=H'∧F.get 1=some (.pointer (some ⟨H.next,0,some 0⟩))∧F.get 4=some (.int .i64 (i:Int))∧(N.ends.take i).all (fun a=>decide (a.cost=0))=true) (Nat.zero_le _) ⟨rfl,by simp only [↓Sh.dn,sx,Nat.reduceBEq,reduceCtorEq,Nat.reduceEqDiff,↓Sh.wp_cond,f1],by simp only [↓Sh.dn,sx,Nat.reduceBEq,reduceCtorEq,Nat.reduceEqDiff,↓Sh.wp_cond]; rfl,rfl⟩ ?_
  clear k
  rintro i F H'' hi ⟨rfl,f1,f4,hall2⟩ k
  by_cases hlt2:i < N.ends.length
  ·have hx:(N.ends.map EndD.cells)[i]?=some (N.ends[i].cells):=by simp [hlt2]
   obtain ⟨g,o,kk,hia,hc,hcc⟩:=hen1.at Tryz.underlying24 A6q hx .i64
   have hcost:=hcc 1 _ rfl
   simp only [↓Sh.dn,sx,Nat.reduceBEq,reduceCtorEq,Nat.reduceEqDiff,↓Sh.wp_cond,f1,f4,c3,l3,hia,hcost,List.length_map,A4a,hlt2,decide_true,forall_const,reduceCtorEq,false_implies,and_true,true_and,hres,resultsA,one]
   refine ⟨fun hne=>⟨?_,hk⟩,fun he=>k _ _ hlt2 ⟨rfl,by simp only [↓Sh.dn,sx,Nat.reduceBEq,reduceCtorEq,Nat.reduceEqDiff,↓Sh.wp_cond,f1],by simp only [↓Sh.dn,sx,Nat.reduceBEq,reduceCtorEq,Nat.reduceEqDiff,↓Sh.wp_cond,wrap_succ hlt2 hl2],?_⟩⟩
   ·have : NetD.free N = false := by
      simp only [NetD.free, Bool.and_eq_false_iff, List.all_eq_false]
      exact .inr ⟨_, List.getElem_mem hlt2, by simpa using hne⟩
    rw [this]
   ·rw [List.take_add_one,List.getElem?_eq_getElem hlt2]
    simp only [Option.toList,List.all_append,hall2,Bool.true_and,List.all_cons,List.all_nil,Bool.and_true]
    simpa using he
  ·have hin:i=N.ends.length:=by omega
   subst hin
   rw [List.take_length] at hall2
   simp only [↓Sh.dn,sx,Nat.reduceBEq,reduceCtorEq,Nat.reduceEqDiff,↓Sh.wp_cond,f1,f4,c3,l3,List.length_map,A4a,hlt2,decide_false,forall_const,reduceCtorEq,false_implies,and_true,true_and,hres,resultsA,one]
   refine ⟨?_,hk⟩
   rw [NetD.free,hall,hall2]
   rfl
end Go.Proofs.YtnoengaghabmjaaGreatDoor
/- What is wrong with an acceptor, by the reference. -/
namespace Go.Proofs.YtnoengaghabmjaaGreatDoor
open Go Go.Proofs Go.Proofs.Sh
end Go.Proofs.YtnoengaghabmjaaGreatDoor
/- What a net is with which nothing is wrong. -/
namespace Go.Proofs.YtnoengaghabmjaaGreatDoor
open Go Go.Proofs Go.Proofs.Sh
structure A0o (N:NetD):Prop where
 st1:1≤N.states
 st2:N.states≤3000
 ar:N.arcs.length≤60000
 en:N.ends.length≤60000
 sig:A8j N.sigma=0
 asc:Asc N.sigma
 sym:∀ x∈N.sigma,A7x x=true
 arc:∀ a∈N.arcs,0≤a.fr∧a.fr < N.states∧0≤a.to∧a.to < N.states∧(a.inn=⟨#[]⟩∨a.inn∈N.sigma)∧(a.out=⟨#[]⟩∨a.out∈N.sigma)
 fin:∀ e∈N.ends,0≤e.state∧e.state < N.states
theorem netOk {N:NetD} (h:A5h N=0):A0o N:=by
 unfold A5h at h
 split at h
 ·cases h
 rename_i h1
 split at h
 ·rename_i h2; exact absurd h h2
 rename_i h2
 split at h
 ·cases h
 rename_i h3
 split at h
 ·cases h
 rename_i h4
 split at h
 ·cases h
 rename_i h5
 simp only [ne_eq,Decidable.not_not] at h2
 simp only [A2n,Bool.or_eq_true,decide_eq_true_eq,not_or,Int.not_lt,Nat.not_lt] at h1 h3
 have sy:∀ x,A2k N x=false→x=⟨#[]⟩∨x∈N.sigma:=by
  intro x hx
  simp only [A2k,Bool.and_eq_false_iff,Bool.not_eq_false',decide_eq_true_eq] at hx
  rcases hx with h | h
  ·exact .inl h
  ·exact .inr (A5l.1 h)
 have hsym:∀ x∈N.sigma,A7x x=true:=by
  have:=h2
  unfold A8j at this
  split at this
  ·cases this
  split at this
  ·rename_i h6
   rw [Bool.and_eq_true] at h6
   exact List.all_eq_true.1 h6.1
  ·cases this
 refine ⟨h3,h1.1.1,h1.1.2,h1.2,h2,A20 h2,hsym,fun a ha=>?_,fun e he=>?_⟩
 ·have:¬(A3j N a=true):=fun hb=>h4 (List.any_eq_true.2 ⟨a,ha,hb⟩)
  simp only [A3j,Bool.or_eq_true,decide_eq_true_eq,not_or,Int.not_lt,Int.not_le,Bool.not_eq_true] at this
  obtain ⟨⟨⟨⟨⟨k1,k2⟩,k3⟩,k4⟩,k5⟩,k6⟩:=this
  exact ⟨k1,k2,k3,k4,sy _ k5,sy _ k6⟩
 ·have:¬(A8p N e=true):=fun hb=>h5 (List.any_eq_true.2 ⟨e,he,hb⟩)
  simp only [A8p,Bool.or_eq_true,decide_eq_true_eq,not_or,Int.not_lt,Int.not_le] at this
  exact this
end Go.Proofs.YtnoengaghabmjaaGreatDoor
/- What is wrong with a relation, by both. -/
namespace Go.Proofs.YtnoengaghabmjaaGreatDoor
open Go Go.Proofs Go.Proofs.Sh
def A8i (N:NetD):Int:=if A5h N≠0 then A5h N else if NetD.free N=true then 0 else 6
theorem A6j {N:NetD} (h:A8i N=0):A0o N∧A5h N=0∧NetD.free N=true:=by
 unfold A8i at h
 split at h
 ·rename_i h1; exact absurd h h1
 ·rename_i h1
  split at h
  ·rename_i h2
   exact ⟨netOk (by simpa using h1),by simpa using h1,h2⟩
  ·cases h
theorem B9e (N:NetD):A9x N 0=!NetD.free N:=by
 unfold A9x NetD.free
 rw [Bool.not_and,List.not_all_eq_any_not,List.not_all_eq_any_not]
 have e:∀ c:Int,(decide (c < 0) || decide (0 < c))=!decide (c=0):=fun c=>by
  by_cases h:c=0
  ·subst h; rfl
  ·rw [decide_eq_false h,Bool.not_false,Bool.or_eq_true,decide_eq_true_eq,decide_eq_true_eq]; omega
 simp only [e]
theorem B91 {H:AH} {v:Value} {N:NetD} (h:A3m H v N) (hsm:A5c N) (hw:Wf H):
  Sh.Call Tryz.prog (knows 8) 61 [v] H (fun r H'=>Kept H H'∧r=.int .i64 (A8i N)):=by
 refine A5a rfl Tryz.func61 rfl (Nat.le_of_ble_eq_true rfl) ?_
 have hres:Tryz.f61.results.toList=[.tmp 2]:=rfl
 obtain ⟨sg,ar,en,rfl,hsg,har,hen⟩:=h
 have hb1:=NetBox.of (N:=N) hw hsg har hen
 have hk1:Kept H (H.new 4 [sg,.int .i64 N.states,ar,en]).2:=Kept.new hw 4 _
 simp only [↓Sh.dn,sx,Nat.reduceBEq,reduceCtorEq,Nat.reduceEqDiff,A0n hsg.isCell har.isCell hen.isCell]
 generalize H.next=gg at hb1 ⊢
 generalize (H.new 4 [sg,.int .i64 N.states,ar,en]).2=H1 at hb1 hk1 ⊢
 simp only [↓Sh.dn,sx,Nat.reduceBEq,reduceCtorEq,Nat.reduceEqDiff,hb1.c0,hb1.c1,hb1.c2,hb1.c3,hb1.ca,A3a hb1,A1a hb1,A2a hb1,Option.map_some]
 obtain ⟨r,H2,hd,hk2,rfl⟩:=C1i hb1.netAt hsm hk1.wf
 refine ⟨_,_,hd,?_⟩
 have hb2:=hb1.kept hk1.wf hk2
 have hk12:=hk1.trans hk2
 by_cases hE:A5h N=0
 case neg=>simp only [↓Sh.dn,sx,Nat.reduceBEq,reduceCtorEq,Nat.reduceEqDiff,hE,decide_false,hres,A8i,hk12]
 simp only [↓Sh.dn,sx,Nat.reduceBEq,reduceCtorEq,Nat.reduceEqDiff,hE,decide_true,hb2.c0,hb2.c1,hb2.c2,hb2.c3,hb2.ca,A3a hb2,A1a hb2,A2a hb2,Option.map_some]
 obtain ⟨r,H4,hd4,hk4,rfl⟩:=priced (m:=0) hb2.netAt hsm hk12.wf
 refine ⟨_,_,hd4,?_⟩
 cases hp:NetD.free N with
 | true=>simp only [↓Sh.dn,sx,Nat.reduceBEq,reduceCtorEq,Nat.reduceEqDiff,hres,A8i,hE,hp,B9e,hk12.trans hk4]
 | false=>simp only [↓Sh.dn,sx,Nat.reduceBEq,reduceCtorEq,Nat.reduceEqDiff,hres,A8i,hE,hp,B9e,hk12.trans hk4]
theorem B9c {H:AH} {v:Value} {N:NetD} (h:A3m H v N) (hsm:A5c N) (hw:Wf H):
  Sh.Call Tryz.prog (knows 8) 25 [v] H (fun r H'=>Kept H H'∧r=.int .i64 (A8i N)):=by
 refine A5a rfl Tryz.func25 rfl (Nat.le_of_ble_eq_true rfl) ?_
 have hres:Tryz.f25.results.toList=[.tmp 2]:=rfl
 obtain ⟨sg,ar,en,rfl,hsg,har,hen⟩:=h
 have hb1:=NetBox.of (N:=N) hw hsg har hen
 have hk1:Kept H (H.new 4 [sg,.int .i64 N.states,ar,en]).2:=Kept.new hw 4 _
 simp only [↓Sh.dn,sx,Nat.reduceBEq,reduceCtorEq,Nat.reduceEqDiff,A0n hsg.isCell har.isCell hen.isCell]
 generalize H.next=gg at hb1 ⊢
 generalize (H.new 4 [sg,.int .i64 N.states,ar,en]).2=H1 at hb1 hk1 ⊢
 simp only [↓Sh.dn,sx,Nat.reduceBEq,reduceCtorEq,Nat.reduceEqDiff,hb1.c0,hb1.c1,hb1.c2,hb1.c3,hb1.ca,A3a hb1,A1a hb1,A2a hb1,Option.map_some]
 obtain ⟨r,H2,hd,hk2,rfl⟩:=B73 hb1.netAt hsm hk1.wf
 refine ⟨_,_,hd,?_⟩
 have hb2:=hb1.kept hk1.wf hk2
 have hk12:=hk1.trans hk2
 by_cases hE:A5h N=0
 case neg=>simp only [↓Sh.dn,sx,Nat.reduceBEq,reduceCtorEq,Nat.reduceEqDiff,hE,decide_false,hres,A8i,hk12]
 simp only [↓Sh.dn,sx,Nat.reduceBEq,reduceCtorEq,Nat.reduceEqDiff,hE,decide_true,hb2.c0,hb2.c1,hb2.c2,hb2.c3,hb2.ca,A3a hb2,A1a hb2,A2a hb2,Option.map_some]
 obtain ⟨r,H4,hd4,rfl,hk4⟩:=isFree hb2.netAt hk12.wf hsm.ar hsm.en
 refine ⟨_,_,hd4,?_⟩
 cases hp:NetD.free N with
 | true=>simp only [↓Sh.dn,sx,Nat.reduceBEq,reduceCtorEq,Nat.reduceEqDiff,hres,A8i,hE,hp,hk12.trans hk4]
 | false=>simp only [↓Sh.dn,sx,Nat.reduceBEq,reduceCtorEq,Nat.reduceEqDiff,hres,A8i,hE,hp,hk12.trans hk4]
end Go.Proofs.YtnoengaghabmjaaGreatDoor
