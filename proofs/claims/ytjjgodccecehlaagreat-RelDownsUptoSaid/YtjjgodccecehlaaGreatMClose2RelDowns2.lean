/- A part of the proof: Facts, NetFacts, AnyLong, IsSymbol, AllSymbols, IsSet, RefSigma, Search, SearchAt, SearchStrings, IsIn, ValidateNet, IsFree, RefValidate, NetOk, CloneStr, GraphNew, RefGraph. -/
import Derived.Test.YtjjgodccecehlaaGreatProg
import Derived.Test.YtjjgodccecehlaaGreatMClose2RelDowns1
import Derived.KernelRfl
set_option linter.unusedVariables false
set_option linter.unusedSimpArgs false
/- What the types of this program are, for walking. Made by program. -/
set_option maxRecDepth 20000
namespace Go.Proofs.YtjjgodccecehlaaGreat
open Go Go.Proofs Go.Proofs.Sh
theorem agg_1:A7f Tryz.prog 1=some false:=by kernel_rfl
theorem zero_1:zeroAt Tryz.prog 1=some (.nilFunc):=by kernel_rfl
theorem ld_1{H:AH}{a:Addr}:A3f Tryz.prog 1 H (.pointer (some a))=H.cell a:=A6b agg_1
theorem agg_2:A7f Tryz.prog 2=some false:=by kernel_rfl
theorem zero_2:zeroAt Tryz.prog 2=some (.int .i64 0):=by kernel_rfl
theorem ld_2{H:AH}{a:Addr}:A3f Tryz.prog 2 H (.pointer (some a))=H.cell a:=A6b agg_2
theorem agg_3:A7f Tryz.prog 3=some false:=by kernel_rfl
theorem A2c:A9b Tryz.prog 3=some 1:=by kernel_rfl
theorem B89:Tryz.prog.cellsOf 3=1:=by kernel_rfl
theorem A32:zeroAt Tryz.prog 3=some (.int .i64 0):=by kernel_rfl
theorem ld_3{H:AH}{a:Addr}:A3f Tryz.prog 3 H (.pointer (some a))=H.cell a:=A6b agg_3
theorem agg_4:A7f Tryz.prog 4=some false:=by kernel_rfl
theorem A1k:A9b Tryz.prog 4=some 1:=by kernel_rfl
theorem B3l:zeroAt Tryz.prog 4=some (.bool false):=by kernel_rfl
theorem ld_4{H:AH}{a:Addr}:A3f Tryz.prog 4 H (.pointer (some a))=H.cell a:=A6b agg_4
theorem agg_5:A7f Tryz.prog 5=some false:=by kernel_rfl
theorem zero_5:zeroAt Tryz.prog 5=some (.int .u8 0):=by kernel_rfl
theorem ld_5{H:AH}{a:Addr}:A3f Tryz.prog 5 H (.pointer (some a))=H.cell a:=A6b agg_5
theorem agg_9:A7f Tryz.prog 9=some false:=by kernel_rfl
theorem A4i:A9b Tryz.prog 9=some 1:=by kernel_rfl
theorem C5w:Tryz.prog.cellsOf 9=1:=by kernel_rfl
theorem B9m:zeroAt Tryz.prog 9=some (.string ⟨#[]⟩):=by kernel_rfl
theorem ld_9{H:AH}{a:Addr}:A3f Tryz.prog 9 H (.pointer (some a))=H.cell a:=A6b agg_9
theorem agg_22:A7f Tryz.prog 22=some false:=by kernel_rfl
theorem A6t:A9b Tryz.prog 22=some 1:=by kernel_rfl
theorem cells_22:Tryz.prog.cellsOf 22=1:=by kernel_rfl
theorem B8i:zeroAt Tryz.prog 22=some (.slice none 0 0):=by kernel_rfl
theorem ld_22{H:AH}{a:Addr}:A3f Tryz.prog 22 H (.pointer (some a))=H.cell a:=A6b agg_22
theorem agg_23:A7f Tryz.prog 23=some false:=by kernel_rfl
theorem C1w:A9b Tryz.prog 23=some 1:=by kernel_rfl
theorem cells_23:Tryz.prog.cellsOf 23=1:=by kernel_rfl
theorem C75:zeroAt Tryz.prog 23=some (.slice none 0 0):=by kernel_rfl
theorem ld_23{H:AH}{a:Addr}:A3f Tryz.prog 23 H (.pointer (some a))=H.cell a:=A6b agg_23
theorem agg_24:A7f Tryz.prog 24=some false:=by kernel_rfl
theorem size_24:A9b Tryz.prog 24=some 1:=by kernel_rfl
theorem cells_24:Tryz.prog.cellsOf 24=1:=by kernel_rfl
theorem D6a:zeroAt Tryz.prog 24=some (.slice none 0 0):=by kernel_rfl
theorem ld_24{H:AH}{a:Addr}:A3f Tryz.prog 24 H (.pointer (some a))=H.cell a:=A6b agg_24
theorem agg_26:A7f Tryz.prog 26=some true:=by kernel_rfl
theorem A0u:A9b Tryz.prog 26=some 4:=by kernel_rfl
theorem cells_26:Tryz.prog.cellsOf 26=4:=by kernel_rfl
theorem B0g:zeroAt Tryz.prog 26=some (.agg #[.slice none 0 0,.int .i64 0,.slice none 0 0,.slice none 0 0]):=by kernel_rfl
theorem ld_26{H:AH}{a:Addr}:A3f Tryz.prog 26 H (.pointer (some a))=(H.cells a 4).map fun l=>.agg l.toArray:=A6p agg_26 A0u
theorem agg_30:A7f Tryz.prog 30=some false:=by kernel_rfl
theorem C13:A9b Tryz.prog 30=some 1:=by kernel_rfl
theorem C2y:zeroAt Tryz.prog 30=some (.slice none 0 0):=by kernel_rfl
theorem ld_30{H:AH}{a:Addr}:A3f Tryz.prog 30 H (.pointer (some a))=H.cell a:=A6b agg_30
theorem agg_31:A7f Tryz.prog 31=some false:=by kernel_rfl
theorem C2z:zeroAt Tryz.prog 31=some (.int .i64 0):=by kernel_rfl
theorem ld_31{H:AH}{a:Addr}:A3f Tryz.prog 31 H (.pointer (some a))=H.cell a:=A6b agg_31
theorem agg_37:A7f Tryz.prog 37=some true:=by kernel_rfl
theorem size_37:A9b Tryz.prog 37=some 10:=by kernel_rfl
theorem D2a:zeroAt Tryz.prog 37=some (.agg #[.slice none 0 0,.int .i64 0,.slice none 0 0,.slice none 0 0,.slice none 0 0,.int .i64 0,.slice none 0 0,.slice none 0 0,.slice none 0 0,.slice none 0 0]):=by kernel_rfl
theorem ld_37{H:AH}{a:Addr}:A3f Tryz.prog 37 H (.pointer (some a))=(H.cells a 10).map fun l=>.agg l.toArray:=A6p agg_37 size_37
theorem agg_43:A7f Tryz.prog 43=some false:=by kernel_rfl
theorem C9v:zeroAt Tryz.prog 43=some (.slice none 0 0):=by kernel_rfl
theorem ld_43{H:AH}{a:Addr}:A3f Tryz.prog 43 H (.pointer (some a))=H.cell a:=A6b agg_43
theorem agg_45:A7f Tryz.prog 45=some true:=by kernel_rfl
theorem A7q:A9b Tryz.prog 45=some 5:=by kernel_rfl
theorem C9j:Tryz.prog.cellsOf 45=5:=by kernel_rfl
theorem B0f:zeroAt Tryz.prog 45=some (.agg #[.int .i64 0,.string ⟨#[]⟩,.string ⟨#[]⟩,.int .i64 0,.int .i64 0]):=by kernel_rfl
theorem ld_45{H:AH}{a:Addr}:A3f Tryz.prog 45 H (.pointer (some a))=(H.cells a 5).map fun l=>.agg l.toArray:=A6p agg_45 A7q
theorem agg_47:A7f Tryz.prog 47=some true:=by kernel_rfl
theorem A7v:A9b Tryz.prog 47=some 2:=by kernel_rfl
theorem C0k:Tryz.prog.cellsOf 47=2:=by kernel_rfl
theorem C1d:zeroAt Tryz.prog 47=some (.agg #[.int .i64 0,.int .i64 0]):=by kernel_rfl
theorem ld_47{H:AH}{a:Addr}:A3f Tryz.prog 47 H (.pointer (some a))=(H.cells a 2).map fun l=>.agg l.toArray:=A6p agg_47 A7v
theorem agg_50:A7f Tryz.prog 50=some false:=by kernel_rfl
theorem size_50:A9b Tryz.prog 50=some 1:=by kernel_rfl
theorem C36:zeroAt Tryz.prog 50=some (.nilFunc):=by kernel_rfl
theorem ld_50{H:AH}{a:Addr}:A3f Tryz.prog 50 H (.pointer (some a))=H.cell a:=A6b agg_50
theorem agg_52:A7f Tryz.prog 52=some true:=by kernel_rfl
theorem C3b:A9b Tryz.prog 52=some 1:=by kernel_rfl
theorem C6a:zeroAt Tryz.prog 52=some (.agg #[.nilFunc]):=by kernel_rfl
theorem ld_52{H:AH}{a:Addr}:A3f Tryz.prog 52 H (.pointer (some a))=(H.cells a 1).map fun l=>.agg l.toArray:=A6p agg_52 C3b
theorem agg_57:A7f Tryz.prog 57=some false:=by kernel_rfl
theorem size_57:A9b Tryz.prog 57=some 1:=by kernel_rfl
theorem C39:zeroAt Tryz.prog 57=some (.slice none 0 0):=by kernel_rfl
theorem ld_57{H:AH}{a:Addr}:A3f Tryz.prog 57 H (.pointer (some a))=H.cell a:=A6b agg_57
theorem agg_58:A7f Tryz.prog 58=some false:=by kernel_rfl
theorem B0e:A9b Tryz.prog 58=some 1:=by kernel_rfl
theorem B2e:zeroAt Tryz.prog 58=some (.slice none 0 0):=by kernel_rfl
theorem ld_58{H:AH}{a:Addr}:A3f Tryz.prog 58 H (.pointer (some a))=H.cell a:=A6b agg_58
theorem agg_60:A7f Tryz.prog 60=some true:=by kernel_rfl
theorem B7l:A9b Tryz.prog 60=some 3:=by kernel_rfl
theorem C2g:zeroAt Tryz.prog 60=some (.agg #[.int .i64 0,.slice none 0 0,.slice none 0 0]):=by kernel_rfl
theorem ld_60{H:AH}{a:Addr}:A3f Tryz.prog 60 H (.pointer (some a))=(H.cells a 3).map fun l=>.agg l.toArray:=A6p agg_60 B7l
theorem agg_67:A7f Tryz.prog 67=some false:=by kernel_rfl
theorem C0f:A9b Tryz.prog 67=some 1:=by kernel_rfl
theorem C4x:zeroAt Tryz.prog 67=some (.pointer none):=by kernel_rfl
theorem ld_67{H:AH}{a:Addr}:A3f Tryz.prog 67 H (.pointer (some a))=H.cell a:=A6b agg_67
theorem agg_71:A7f Tryz.prog 71=some false:=by kernel_rfl
theorem A4y:A9b Tryz.prog 71=some 1:=by kernel_rfl
theorem A08:zeroAt Tryz.prog 71=some (.slice none 0 0):=by kernel_rfl
theorem ld_71{H:AH}{a:Addr}:A3f Tryz.prog 71 H (.pointer (some a))=H.cell a:=A6b agg_71
theorem agg_81:A7f Tryz.prog 81=some true:=by kernel_rfl
theorem A92:A9b Tryz.prog 81=some 4:=by kernel_rfl
theorem A29:zeroAt Tryz.prog 81=some (.agg #[.int .i64 0,.int .i64 0,.int .i64 0,.int .i64 0]):=by kernel_rfl
theorem ld_81{H:AH}{a:Addr}:A3f Tryz.prog 81 H (.pointer (some a))=(H.cells a 4).map fun l=>.agg l.toArray:=A6p agg_81 A92
theorem agg_86:A7f Tryz.prog 86=some false:=by kernel_rfl
theorem A3r:A9b Tryz.prog 86=some 1:=by kernel_rfl
theorem B9w:zeroAt Tryz.prog 86=some (.slice none 0 0):=by kernel_rfl
theorem ld_86{H:AH}{a:Addr}:A3f Tryz.prog 86 H (.pointer (some a))=H.cell a:=A6b agg_86
theorem agg_88:A7f Tryz.prog 88=some true:=by kernel_rfl
theorem A5t:A9b Tryz.prog 88=some 2:=by kernel_rfl
theorem A88:zeroAt Tryz.prog 88=some (.agg #[.string ⟨#[]⟩,.int .i64 0]):=by kernel_rfl
theorem ld_88{H:AH}{a:Addr}:A3f Tryz.prog 88 H (.pointer (some a))=(H.cells a 2).map fun l=>.agg l.toArray:=A6p agg_88 A5t
theorem agg_91:A7f Tryz.prog 91=some false:=by kernel_rfl
theorem C81:zeroAt Tryz.prog 91=some (.pointer none):=by kernel_rfl
theorem ld_91{H:AH}{a:Addr}:A3f Tryz.prog 91 H (.pointer (some a))=H.cell a:=A6b agg_91
theorem agg_92:A7f Tryz.prog 92=some false:=by kernel_rfl
theorem C3g:A9b Tryz.prog 92=some 1:=by kernel_rfl
theorem C00:zeroAt Tryz.prog 92=some (.slice none 0 0):=by kernel_rfl
theorem ld_92{H:AH}{a:Addr}:A3f Tryz.prog 92 H (.pointer (some a))=H.cell a:=A6b agg_92
theorem agg_94:A7f Tryz.prog 94=some true:=by kernel_rfl
theorem C6z:A9b Tryz.prog 94=some 6:=by kernel_rfl
theorem C9e:zeroAt Tryz.prog 94=some (.agg #[.int .i64 0,.slice none 0 0,.slice none 0 0,.slice none 0 0,.int .i64 0,.slice none 0 0]):=by kernel_rfl
theorem ld_94{H:AH}{a:Addr}:A3f Tryz.prog 94 H (.pointer (some a))=(H.cells a 6).map fun l=>.agg l.toArray:=A6p agg_94 C6z
theorem agg_98:A7f Tryz.prog 98=some false:=by kernel_rfl
theorem D0a:zeroAt Tryz.prog 98=some (.nilFunc):=by kernel_rfl
theorem ld_98{H:AH}{a:Addr}:A3f Tryz.prog 98 H (.pointer (some a))=H.cell a:=A6b agg_98
theorem agg_101:A7f Tryz.prog 101=some false:=by kernel_rfl
theorem size_101:A9b Tryz.prog 101=some 1:=by kernel_rfl
theorem C2r:zeroAt Tryz.prog 101=some (.slice none 0 0):=by kernel_rfl
theorem ld_101{H:AH}{a:Addr}:A3f Tryz.prog 101 H (.pointer (some a))=H.cell a:=A6b agg_101
theorem agg_103:A7f Tryz.prog 103=some true:=by kernel_rfl
theorem C3p:A9b Tryz.prog 103=some 4:=by kernel_rfl
theorem B7w:zeroAt Tryz.prog 103=some (.agg #[.slice none 0 0,.slice none 0 0,.slice none 0 0,.slice none 0 0]):=by kernel_rfl
theorem ld_103{H:AH}{a:Addr}:A3f Tryz.prog 103 H (.pointer (some a))=(H.cells a 4).map fun l=>.agg l.toArray:=A6p agg_103 C3p
theorem agg_105:A7f Tryz.prog 105=some true:=by kernel_rfl
theorem C5q:A9b Tryz.prog 105=some 2:=by kernel_rfl
theorem B9x:zeroAt Tryz.prog 105=some (.agg #[.int .i64 0,.int .i64 0]):=by kernel_rfl
theorem ld_105{H:AH}{a:Addr}:A3f Tryz.prog 105 H (.pointer (some a))=(H.cells a 2).map fun l=>.agg l.toArray:=A6p agg_105 C5q
theorem agg_106:A7f Tryz.prog 106=some false:=by kernel_rfl
theorem C0o:zeroAt Tryz.prog 106=some (.map none):=by kernel_rfl
theorem ld_106{H:AH}{a:Addr}:A3f Tryz.prog 106 H (.pointer (some a))=H.cell a:=A6b agg_106
theorem agg_107:A7f Tryz.prog 107=some false:=by kernel_rfl
theorem C8m:zeroAt Tryz.prog 107=some (.slice none 0 0):=by kernel_rfl
theorem ld_107{H:AH}{a:Addr}:A3f Tryz.prog 107 H (.pointer (some a))=H.cell a:=A6b agg_107
theorem agg_109:A7f Tryz.prog 109=some false:=by kernel_rfl
theorem C2o:zeroAt Tryz.prog 109=some (.nilFunc):=by kernel_rfl
theorem ld_109{H:AH}{a:Addr}:A3f Tryz.prog 109 H (.pointer (some a))=H.cell a:=A6b agg_109
theorem agg_111:A7f Tryz.prog 111=some false:=by kernel_rfl
theorem A2v:A9b Tryz.prog 111=some 1:=by kernel_rfl
theorem B3c:zeroAt Tryz.prog 111=some (.slice none 0 0):=by kernel_rfl
theorem ld_111{H:AH}{a:Addr}:A3f Tryz.prog 111 H (.pointer (some a))=H.cell a:=A6b agg_111
theorem agg_115:A7f Tryz.prog 115=some false:=by kernel_rfl
theorem C6q:zeroAt Tryz.prog 115=some (.map none):=by kernel_rfl
theorem ld_115{H:AH}{a:Addr}:A3f Tryz.prog 115 H (.pointer (some a))=H.cell a:=A6b agg_115
theorem agg_119:A7f Tryz.prog 119=some false:=by kernel_rfl
theorem C8q:zeroAt Tryz.prog 119=some (.nilFunc):=by kernel_rfl
theorem ld_119{H:AH}{a:Addr}:A3f Tryz.prog 119 H (.pointer (some a))=H.cell a:=A6b agg_119
theorem agg_120:A7f Tryz.prog 120=some false:=by kernel_rfl
theorem C9n:zeroAt Tryz.prog 120=some (.slice none 0 0):=by kernel_rfl
theorem ld_120{H:AH}{a:Addr}:A3f Tryz.prog 120 H (.pointer (some a))=H.cell a:=A6b agg_120
theorem agg_121:A7f Tryz.prog 121=some false:=by kernel_rfl
theorem size_121:A9b Tryz.prog 121=some 1:=by kernel_rfl
theorem B3w:zeroAt Tryz.prog 121=some (.int .u64 0):=by kernel_rfl
theorem ld_121{H:AH}{a:Addr}:A3f Tryz.prog 121 H (.pointer (some a))=H.cell a:=A6b agg_121
theorem agg_122:A7f Tryz.prog 122=some false:=by kernel_rfl
theorem C6p:zeroAt Tryz.prog 122=some (.int .u64 0):=by kernel_rfl
theorem ld_122{H:AH}{a:Addr}:A3f Tryz.prog 122 H (.pointer (some a))=H.cell a:=A6b agg_122
theorem agg_123:A7f Tryz.prog 123=some false:=by kernel_rfl
theorem C4p:zeroAt Tryz.prog 123=some (.nilFunc):=by kernel_rfl
theorem ld_123{H:AH}{a:Addr}:A3f Tryz.prog 123 H (.pointer (some a))=H.cell a:=A6b agg_123
theorem agg_131:A7f Tryz.prog 131=some false:=by kernel_rfl
theorem C8o:A9b Tryz.prog 131=some 1:=by kernel_rfl
theorem C7i:zeroAt Tryz.prog 131=some (.slice none 0 0):=by kernel_rfl
theorem ld_131{H:AH}{a:Addr}:A3f Tryz.prog 131 H (.pointer (some a))=H.cell a:=A6b agg_131
theorem agg_145:A7f Tryz.prog 145=some false:=by kernel_rfl
theorem size_145:A9b Tryz.prog 145=some 1:=by kernel_rfl
theorem C8l:zeroAt Tryz.prog 145=some (.nilFunc):=by kernel_rfl
theorem ld_145{H:AH}{a:Addr}:A3f Tryz.prog 145 H (.pointer (some a))=H.cell a:=A6b agg_145
theorem agg_146:A7f Tryz.prog 146=some false:=by kernel_rfl
theorem B0d:A9b Tryz.prog 146=some 1:=by kernel_rfl
theorem B7c:zeroAt Tryz.prog 146=some (.slice none 0 0):=by kernel_rfl
theorem ld_146{H:AH}{a:Addr}:A3f Tryz.prog 146 H (.pointer (some a))=H.cell a:=A6b agg_146
theorem agg_148:A7f Tryz.prog 148=some false:=by kernel_rfl
theorem C3l:zeroAt Tryz.prog 148=some (.slice none 0 0):=by kernel_rfl
theorem ld_148{H:AH}{a:Addr}:A3f Tryz.prog 148 H (.pointer (some a))=H.cell a:=A6b agg_148
theorem agg_152:A7f Tryz.prog 152=some false:=by kernel_rfl
theorem C7q:zeroAt Tryz.prog 152=some (.nilFunc):=by kernel_rfl
theorem ld_152{H:AH}{a:Addr}:A3f Tryz.prog 152 H (.pointer (some a))=H.cell a:=A6b agg_152
theorem agg_153:A7f Tryz.prog 153=some false:=by kernel_rfl
theorem C0r:zeroAt Tryz.prog 153=some (.nilFunc):=by kernel_rfl
theorem ld_153{H:AH}{a:Addr}:A3f Tryz.prog 153 H (.pointer (some a))=H.cell a:=A6b agg_153
theorem agg_161:A7f Tryz.prog 161=some false:=by kernel_rfl
theorem C8g:zeroAt Tryz.prog 161=some (.map none):=by kernel_rfl
theorem ld_161{H:AH}{a:Addr}:A3f Tryz.prog 161 H (.pointer (some a))=H.cell a:=A6b agg_161
theorem agg_167:A7f Tryz.prog 167=some false:=by kernel_rfl
theorem C9o:zeroAt Tryz.prog 167=some (.int .i64 0):=by kernel_rfl
theorem ld_167{H:AH}{a:Addr}:A3f Tryz.prog 167 H (.pointer (some a))=H.cell a:=A6b agg_167
theorem agg_175:A7f Tryz.prog 175=some false:=by kernel_rfl
theorem C6m:zeroAt Tryz.prog 175=some (.int .u32 0):=by kernel_rfl
theorem ld_175{H:AH}{a:Addr}:A3f Tryz.prog 175 H (.pointer (some a))=H.cell a:=A6b agg_175
theorem agg_182:A7f Tryz.prog 182=some false:=by kernel_rfl
theorem A71:A9b Tryz.prog 182=some 1:=by kernel_rfl
theorem C7o:zeroAt Tryz.prog 182=some (.int .u64 0):=by kernel_rfl
theorem ld_182{H:AH}{a:Addr}:A3f Tryz.prog 182 H (.pointer (some a))=H.cell a:=A6b agg_182
theorem agg_186:A7f Tryz.prog 186=some false:=by kernel_rfl
theorem C5k:zeroAt Tryz.prog 186=some (.pointer none):=by kernel_rfl
theorem ld_186{H:AH}{a:Addr}:A3f Tryz.prog 186 H (.pointer (some a))=H.cell a:=A6b agg_186
theorem agg_190:A7f Tryz.prog 190=some false:=by kernel_rfl
theorem C0j:zeroAt Tryz.prog 190=some (.pointer none):=by kernel_rfl
theorem ld_190{H:AH}{a:Addr}:A3f Tryz.prog 190 H (.pointer (some a))=H.cell a:=A6b agg_190
theorem len_9{H:AH}{s:ByteArray}:A4a Tryz.prog .len [9] [.string s] H=some (.int .i64 (s.size:Int),H):=C4r Tryz.underlying9
theorem ia_22{g o k n c i:Nat}{j:IntKind}(h:i<n):A7b Tryz.prog 22 (.slice (some ⟨g,o,some k⟩) n c) (.int j (i:Int))=some (.pointer (some ⟨g,o+i*1,some k⟩)):=A5v Tryz.underlying22 A4i h
theorem len_22{H:AH}{n c:Nat}{a:Option Addr}:A4a Tryz.prog .len [22] [.slice a n c] H=some (.int .i64 (n:Int),H):=A4g Tryz.underlying22
theorem C9f:((Tryz.prog.info? 9).map fun i=>Nat.beq i.size 1&&Nat.ble i.bytes 4096)=some true:=by kernel_rfl
theorem C52{H:AH}{t' len cap n:Nat}{base:Option Addr}{x:Value}{new:List Value}(hx:Sh.srcKind Tryz.prog t' x=true)(hn:Sh.newCells 1 H x=some (n,new))(hb:len+n≤17179869184):A4a Tryz.prog .append [22,t'] [.slice base len cap,x] H=A1e 1 base len cap n new H:=A37 Tryz.underlying22 C9f B9m rfl (Nat.le_of_ble_eq_true rfl) hx hn hb
theorem app1_22{H:AH}{len cap:Nat}{base:Option Addr}{x:List Value}(hx:x.length=1)(hb:len≤17179869183):A4a Tryz.prog .append [22,22] [.slice base len cap,.slice (some ⟨H.next,0,some 0⟩) 1 1] (H.new 1 x).2=A1e 1 base len cap 1 x (H.new 1 x).2:=A9m Tryz.underlying22 C9f B9m rfl (Nat.le_of_ble_eq_true rfl) hx hb
theorem C1r{c:Bool}{a:Option Addr}{n m:Nat}:abin Tryz.prog 22 c .eql (.slice a n m) (.slice none 0 0)=some (.bool a.isNone):=A1h Tryz.underlying22
theorem B34{c:Bool}{a:Option Addr}{n m:Nat}:abin Tryz.prog 22 c .neq (.slice a n m) (.slice none 0 0)=some (.bool a.isSome):=A2d Tryz.underlying22
theorem mk_22{H:AH}{l c:Nat}(hlc:l≤c)(hc:c≤17179869184):A9f Tryz.prog 22 (.int .i64 (l:Int)) (.int .i64 (c:Int)) H=some (.slice (some ⟨H.next,0,some 0⟩) l c,(H.new 1 (List.replicate c (.string ⟨#[]⟩))).2):=by rw[←A5y];exact A34 Tryz.underlying22 C9f B9m rfl (Nat.le_of_ble_eq_true rfl) hlc hc
theorem B93{H:AH}:A5a Tryz.prog 22 0 [] H=some (.slice (some ⟨H.next,0,some 0⟩) 0 0,(H.new 1 []).2):=A0h Tryz.underlying22 A4i B9m rfl (Nat.le_of_ble_eq_true rfl)
theorem B38{H:AH}{x:Value}(hx:(A6a x).length=1)(hc:(A6a x).all isCell=true):A5a Tryz.prog 22 1 [(0,x)] H=some (.slice (some ⟨H.next,0,some 0⟩) 1 1,(H.new 1 (A6a x)).2):=A9n Tryz.underlying22 A4i B9m rfl (Nat.le_of_ble_eq_true rfl) (Nat.le_of_ble_eq_true rfl) hx hc
theorem len_23{H:AH}{n c:Nat}{a:Option Addr}:A4a Tryz.prog .len [23] [.slice a n c] H=some (.int .i64 (n:Int),H):=A4g Tryz.underlying23
theorem info_23:((Tryz.prog.info? 45).map fun i=>Nat.beq i.size 5&&Nat.ble i.bytes 4096)=some true:=by kernel_rfl
theorem app1_23{H:AH}{len cap:Nat}{base:Option Addr}{x:List Value}(hx:x.length=5)(hb:len≤17179869183):A4a Tryz.prog .append [23,23] [.slice base len cap,.slice (some ⟨H.next,0,some 0⟩) 1 1] (H.new 5 x).2=A1e 5 base len cap 1 x (H.new 5 x).2:=A9m Tryz.underlying23 info_23 B0f rfl (Nat.le_of_ble_eq_true rfl) hx hb
theorem C9h{c:Bool}{a:Option Addr}{n m:Nat}:abin Tryz.prog 23 c .eql (.slice a n m) (.slice none 0 0)=some (.bool a.isNone):=A1h Tryz.underlying23
theorem B22{c:Bool}{a:Option Addr}{n m:Nat}:abin Tryz.prog 23 c .neq (.slice a n m) (.slice none 0 0)=some (.bool a.isSome):=A2d Tryz.underlying23
theorem B39{H:AH}:A5a Tryz.prog 23 0 [] H=some (.slice (some ⟨H.next,0,some 0⟩) 0 0,(H.new 5 []).2):=A0h Tryz.underlying23 A7q B0f rfl (Nat.le_of_ble_eq_true rfl)
theorem D3b{H:AH}{x:Value}(hx:(A6a x).length=5)(hc:(A6a x).all isCell=true):A5a Tryz.prog 23 1 [(0,x)] H=some (.slice (some ⟨H.next,0,some 0⟩) 1 1,(H.new 5 (A6a x)).2):=A9n Tryz.underlying23 A7q B0f rfl (Nat.le_of_ble_eq_true rfl) (Nat.le_of_ble_eq_true rfl) hx hc
theorem len_24{H:AH}{n c:Nat}{a:Option Addr}:A4a Tryz.prog .len [24] [.slice a n c] H=some (.int .i64 (n:Int),H):=A4g Tryz.underlying24
theorem C9q{c:Bool}{a:Option Addr}{n m:Nat}:abin Tryz.prog 24 c .eql (.slice a n m) (.slice none 0 0)=some (.bool a.isNone):=A1h Tryz.underlying24
theorem B59{c:Bool}{a:Option Addr}{n m:Nat}:abin Tryz.prog 24 c .neq (.slice a n m) (.slice none 0 0)=some (.bool a.isSome):=A2d Tryz.underlying24
theorem B20{H:AH}:A5a Tryz.prog 24 0 [] H=some (.slice (some ⟨H.next,0,some 0⟩) 0 0,(H.new 2 []).2):=A0h Tryz.underlying24 A7v C1d rfl (Nat.le_of_ble_eq_true rfl)
theorem C18{g o k:Nat}:A1b Tryz.prog 26 0 (.pointer (some ⟨g,o,some k⟩))=some (.pointer (some ⟨g,o+0,some k⟩)):=by have h:=A8a (g:=g) (o:=o) (k:=k) (f:=0) Tryz.underlying26 (Eq.refl (some _)) A6t rfl;exact h
theorem C88{g o k:Nat}:A1b Tryz.prog 26 1 (.pointer (some ⟨g,o,some k⟩))=some (.pointer (some ⟨g,o+1,some k⟩)):=by have h:=A8a (g:=g) (o:=o) (k:=k) (f:=1) Tryz.underlying26 (Eq.refl (some _)) A2c rfl;exact h
theorem C08{g o k:Nat}:A1b Tryz.prog 26 2 (.pointer (some ⟨g,o,some k⟩))=some (.pointer (some ⟨g,o+2,some k⟩)):=by have h:=A8a (g:=g) (o:=o) (k:=k) (f:=2) Tryz.underlying26 (Eq.refl (some _)) C1w rfl;exact h
theorem C96{g o k:Nat}:A1b Tryz.prog 26 3 (.pointer (some ⟨g,o,some k⟩))=some (.pointer (some ⟨g,o+3,some k⟩)):=by have h:=A8a (g:=g) (o:=o) (k:=k) (f:=3) Tryz.underlying26 (Eq.refl (some _)) size_24 rfl;exact h
theorem len_30{H:AH}{n c:Nat}{a:Option Addr}:A4a Tryz.prog .len [30] [.slice a n c] H=some (.int .i64 (n:Int),H):=A4g Tryz.underlying30
theorem info_30:((Tryz.prog.info? 22).map fun i=>Nat.beq i.size 1&&Nat.ble i.bytes 4096)=some true:=by kernel_rfl
theorem app1_30{H:AH}{len cap:Nat}{base:Option Addr}{x:List Value}(hx:x.length=1)(hb:len≤17179869183):A4a Tryz.prog .append [30,30] [.slice base len cap,.slice (some ⟨H.next,0,some 0⟩) 1 1] (H.new 1 x).2=A1e 1 base len cap 1 x (H.new 1 x).2:=A9m Tryz.underlying30 info_30 B8i rfl (Nat.le_of_ble_eq_true rfl) hx hb
theorem C4l{c:Bool}{a:Option Addr}{n m:Nat}:abin Tryz.prog 30 c .eql (.slice a n m) (.slice none 0 0)=some (.bool a.isNone):=A1h Tryz.underlying30
theorem B05{c:Bool}{a:Option Addr}{n m:Nat}:abin Tryz.prog 30 c .neq (.slice a n m) (.slice none 0 0)=some (.bool a.isSome):=A2d Tryz.underlying30
theorem B06{H:AH}:A5a Tryz.prog 30 0 [] H=some (.slice (some ⟨H.next,0,some 0⟩) 0 0,(H.new 1 []).2):=A0h Tryz.underlying30 A6t B8i rfl (Nat.le_of_ble_eq_true rfl)
theorem B9y{H:AH}{x:Value}(hx:(A6a x).length=1)(hc:(A6a x).all isCell=true):A5a Tryz.prog 30 1 [(0,x)] H=some (.slice (some ⟨H.next,0,some 0⟩) 1 1,(H.new 1 (A6a x)).2):=A9n Tryz.underlying30 A6t B8i rfl (Nat.le_of_ble_eq_true rfl) (Nat.le_of_ble_eq_true rfl) hx hc
theorem C44{g o k:Nat}:A1b Tryz.prog 37 0 (.pointer (some ⟨g,o,some k⟩))=some (.pointer (some ⟨g,o+0,some k⟩)):=by have h:=A8a (g:=g) (o:=o) (k:=k) (f:=0) Tryz.underlying37 (Eq.refl (some _)) A0u rfl;exact h
theorem C8x{g o k:Nat}:A1b Tryz.prog 37 1 (.pointer (some ⟨g,o,some k⟩))=some (.pointer (some ⟨g,o+4,some k⟩)):=by have h:=A8a (g:=g) (o:=o) (k:=k) (f:=1) Tryz.underlying37 (Eq.refl (some _)) A0u rfl;exact h
theorem C98{g o k:Nat}:A1b Tryz.prog 37 2 (.pointer (some ⟨g,o,some k⟩))=some (.pointer (some ⟨g,o+8,some k⟩)):=by have h:=A8a (g:=g) (o:=o) (k:=k) (f:=2) Tryz.underlying37 (Eq.refl (some _)) A6t rfl;exact h
theorem C56{g o k:Nat}:A1b Tryz.prog 37 3 (.pointer (some ⟨g,o,some k⟩))=some (.pointer (some ⟨g,o+9,some k⟩)):=by have h:=A8a (g:=g) (o:=o) (k:=k) (f:=3) Tryz.underlying37 (Eq.refl (some _)) A6t rfl;exact h
theorem len_43{H:AH}{n c:Nat}{a:Option Addr}:A4a Tryz.prog .len [43] [.slice a n c] H=some (.int .i64 (n:Int),H):=A4g Tryz.underlying43
theorem C3o{c:Bool}{a:Option Addr}{n m:Nat}:abin Tryz.prog 43 c .eql (.slice a n m) (.slice none 0 0)=some (.bool a.isNone):=A1h Tryz.underlying43
theorem B36{c:Bool}{a:Option Addr}{n m:Nat}:abin Tryz.prog 43 c .neq (.slice a n m) (.slice none 0 0)=some (.bool a.isSome):=A2d Tryz.underlying43
theorem B72{H:AH}:A5a Tryz.prog 43 0 [] H=some (.slice (some ⟨H.next,0,some 0⟩) 0 0,(H.new 4 []).2):=A0h Tryz.underlying43 A0u B0g rfl (Nat.le_of_ble_eq_true rfl)
theorem C53{H:AH}{x:Value}(hx:(A6a x).length=4)(hc:(A6a x).all isCell=true):A5a Tryz.prog 43 1 [(0,x)] H=some (.slice (some ⟨H.next,0,some 0⟩) 1 1,(H.new 4 (A6a x)).2):=A9n Tryz.underlying43 A0u B0g rfl (Nat.le_of_ble_eq_true rfl) (Nat.le_of_ble_eq_true rfl) hx hc
theorem C82{g o k:Nat}:A1b Tryz.prog 45 0 (.pointer (some ⟨g,o,some k⟩))=some (.pointer (some ⟨g,o+0,some k⟩)):=by have h:=A8a (g:=g) (o:=o) (k:=k) (f:=0) Tryz.underlying45 (Eq.refl (some _)) A2c rfl;exact h
theorem C70{g o k:Nat}:A1b Tryz.prog 45 1 (.pointer (some ⟨g,o,some k⟩))=some (.pointer (some ⟨g,o+1,some k⟩)):=by have h:=A8a (g:=g) (o:=o) (k:=k) (f:=1) Tryz.underlying45 (Eq.refl (some _)) A4i rfl;exact h
theorem C90{g o k:Nat}:A1b Tryz.prog 45 2 (.pointer (some ⟨g,o,some k⟩))=some (.pointer (some ⟨g,o+2,some k⟩)):=by have h:=A8a (g:=g) (o:=o) (k:=k) (f:=2) Tryz.underlying45 (Eq.refl (some _)) A4i rfl;exact h
theorem C66{g o k:Nat}:A1b Tryz.prog 45 3 (.pointer (some ⟨g,o,some k⟩))=some (.pointer (some ⟨g,o+3,some k⟩)):=by have h:=A8a (g:=g) (o:=o) (k:=k) (f:=3) Tryz.underlying45 (Eq.refl (some _)) A2c rfl;exact h
theorem C73{g o k:Nat}:A1b Tryz.prog 45 4 (.pointer (some ⟨g,o,some k⟩))=some (.pointer (some ⟨g,o+4,some k⟩)):=by have h:=A8a (g:=g) (o:=o) (k:=k) (f:=4) Tryz.underlying45 (Eq.refl (some _)) A2c rfl;exact h
theorem C55{g o k:Nat}:A1b Tryz.prog 47 0 (.pointer (some ⟨g,o,some k⟩))=some (.pointer (some ⟨g,o+0,some k⟩)):=by have h:=A8a (g:=g) (o:=o) (k:=k) (f:=0) Tryz.underlying47 (Eq.refl (some _)) A2c rfl;exact h
theorem C01{g o k:Nat}:A1b Tryz.prog 47 1 (.pointer (some ⟨g,o,some k⟩))=some (.pointer (some ⟨g,o+1,some k⟩)):=by have h:=A8a (g:=g) (o:=o) (k:=k) (f:=1) Tryz.underlying47 (Eq.refl (some _)) A2c rfl;exact h
theorem C77{g o k:Nat}:A1b Tryz.prog 52 0 (.pointer (some ⟨g,o,some k⟩))=some (.pointer (some ⟨g,o+0,some k⟩)):=by have h:=A8a (g:=g) (o:=o) (k:=k) (f:=0) Tryz.underlying52 (Eq.refl (some _)) size_50 rfl;exact h
theorem bld_52{v0:Value}(h0:isCell v0=true):A3s Tryz.prog 52 [(0,v0)]=some (.agg #[v0]):=by refine A6m (pl:=[(0,1)]) Tryz.underlying52 C6a (by kernel_rfl) ?_;have va:∀xs:Array Value,A6a (.agg xs)=xs.toList:=fun _=>rfl;simp[A12,A4b h0,va,h0,setCells,A3c]
theorem len_57{H:AH}{n c:Nat}{a:Option Addr}:A4a Tryz.prog .len [57] [.slice a n c] H=some (.int .i64 (n:Int),H):=A4g Tryz.underlying57
theorem info_57:((Tryz.prog.info? 86).map fun i=>Nat.beq i.size 1&&Nat.ble i.bytes 4096)=some true:=by kernel_rfl
theorem C2j{c:Bool}{a:Option Addr}{n m:Nat}:abin Tryz.prog 57 c .eql (.slice a n m) (.slice none 0 0)=some (.bool a.isNone):=A1h Tryz.underlying57
theorem B77{c:Bool}{a:Option Addr}{n m:Nat}:abin Tryz.prog 57 c .neq (.slice a n m) (.slice none 0 0)=some (.bool a.isSome):=A2d Tryz.underlying57
theorem mk_57{H:AH}{l c:Nat}(hlc:l≤c)(hc:c≤17179869184):A9f Tryz.prog 57 (.int .i64 (l:Int)) (.int .i64 (c:Int)) H=some (.slice (some ⟨H.next,0,some 0⟩) l c,(H.new 1 (List.replicate c (.slice none 0 0))).2):=by rw[←A5y];exact A34 Tryz.underlying57 info_57 B9w rfl (Nat.le_of_ble_eq_true rfl) hlc hc
theorem B65{H:AH}:A5a Tryz.prog 57 0 [] H=some (.slice (some ⟨H.next,0,some 0⟩) 0 0,(H.new 1 []).2):=A0h Tryz.underlying57 A3r B9w rfl (Nat.le_of_ble_eq_true rfl)
theorem len_58{H:AH}{n c:Nat}{a:Option Addr}:A4a Tryz.prog .len [58] [.slice a n c] H=some (.int .i64 (n:Int),H):=A4g Tryz.underlying58
theorem C58:((Tryz.prog.info? 4).map fun i=>Nat.beq i.size 1&&Nat.ble i.bytes 4096)=some true:=by kernel_rfl
theorem app_58{H:AH}{t' len cap n:Nat}{base:Option Addr}{x:Value}{new:List Value}(hx:Sh.srcKind Tryz.prog t' x=true)(hn:Sh.newCells 1 H x=some (n,new))(hb:len+n≤17179869184):A4a Tryz.prog .append [58,t'] [.slice base len cap,x] H=A1e 1 base len cap n new H:=A37 Tryz.underlying58 C58 B3l rfl (Nat.le_of_ble_eq_true rfl) hx hn hb
theorem C4o{c:Bool}{a:Option Addr}{n m:Nat}:abin Tryz.prog 58 c .eql (.slice a n m) (.slice none 0 0)=some (.bool a.isNone):=A1h Tryz.underlying58
theorem B46{c:Bool}{a:Option Addr}{n m:Nat}:abin Tryz.prog 58 c .neq (.slice a n m) (.slice none 0 0)=some (.bool a.isSome):=A2d Tryz.underlying58
theorem D5a{H:AH}{l c:Nat}(hlc:l≤c)(hc:c≤17179869184):A9f Tryz.prog 58 (.int .i64 (l:Int)) (.int .i64 (c:Int)) H=some (.slice (some ⟨H.next,0,some 0⟩) l c,(H.new 1 (List.replicate c (.bool false))).2):=by rw[←A5y];exact A34 Tryz.underlying58 C58 B3l rfl (Nat.le_of_ble_eq_true rfl) hlc hc
theorem B98{H:AH}:A5a Tryz.prog 58 0 [] H=some (.slice (some ⟨H.next,0,some 0⟩) 0 0,(H.new 1 []).2):=A0h Tryz.underlying58 A1k B3l rfl (Nat.le_of_ble_eq_true rfl)
theorem C20{g o k:Nat}:A1b Tryz.prog 60 0 (.pointer (some ⟨g,o,some k⟩))=some (.pointer (some ⟨g,o+0,some k⟩)):=by have h:=A8a (g:=g) (o:=o) (k:=k) (f:=0) Tryz.underlying60 (Eq.refl (some _)) A2c rfl;exact h
theorem C10{g o k:Nat}:A1b Tryz.prog 60 1 (.pointer (some ⟨g,o,some k⟩))=some (.pointer (some ⟨g,o+1,some k⟩)):=by have h:=A8a (g:=g) (o:=o) (k:=k) (f:=1) Tryz.underlying60 (Eq.refl (some _)) size_57 rfl;exact h
theorem C46{g o k:Nat}:A1b Tryz.prog 60 2 (.pointer (some ⟨g,o,some k⟩))=some (.pointer (some ⟨g,o+2,some k⟩)):=by have h:=A8a (g:=g) (o:=o) (k:=k) (f:=2) Tryz.underlying60 (Eq.refl (some _)) B0e rfl;exact h
theorem ia_71{g o k n c i:Nat}{j:IntKind}(h:i<n):A7b Tryz.prog 71 (.slice (some ⟨g,o,some k⟩) n c) (.int j (i:Int))=some (.pointer (some ⟨g,o+i*1,some k⟩)):=A5v Tryz.underlying71 A2c h
theorem len_71{H:AH}{n c:Nat}{a:Option Addr}:A4a Tryz.prog .len [71] [.slice a n c] H=some (.int .i64 (n:Int),H):=A4g Tryz.underlying71
theorem C8a:((Tryz.prog.info? 3).map fun i=>Nat.beq i.size 1&&Nat.ble i.bytes 4096)=some true:=by kernel_rfl
theorem app_71{H:AH}{t' len cap n:Nat}{base:Option Addr}{x:Value}{new:List Value}(hx:Sh.srcKind Tryz.prog t' x=true)(hn:Sh.newCells 1 H x=some (n,new))(hb:len+n≤17179869184):A4a Tryz.prog .append [71,t'] [.slice base len cap,x] H=A1e 1 base len cap n new H:=A37 Tryz.underlying71 C8a A32 rfl (Nat.le_of_ble_eq_true rfl) hx hn hb
theorem B7j{H:AH}{len cap:Nat}{base:Option Addr}{x:List Value}(hx:x.length=1)(hb:len≤17179869183):A4a Tryz.prog .append [71,71] [.slice base len cap,.slice (some ⟨H.next,0,some 0⟩) 1 1] (H.new 1 x).2=A1e 1 base len cap 1 x (H.new 1 x).2:=A9m Tryz.underlying71 C8a A32 rfl (Nat.le_of_ble_eq_true rfl) hx hb
theorem C2n{c:Bool}{a:Option Addr}{n m:Nat}:abin Tryz.prog 71 c .eql (.slice a n m) (.slice none 0 0)=some (.bool a.isNone):=A1h Tryz.underlying71
theorem B60{c:Bool}{a:Option Addr}{n m:Nat}:abin Tryz.prog 71 c .neq (.slice a n m) (.slice none 0 0)=some (.bool a.isSome):=A2d Tryz.underlying71
theorem mk_71{H:AH}{l c:Nat}(hlc:l≤c)(hc:c≤17179869184):A9f Tryz.prog 71 (.int .i64 (l:Int)) (.int .i64 (c:Int)) H=some (.slice (some ⟨H.next,0,some 0⟩) l c,(H.new 1 (List.replicate c (.int .i64 0))).2):=by rw[←A5y];exact A34 Tryz.underlying71 C8a A32 rfl (Nat.le_of_ble_eq_true rfl) hlc hc
theorem B74{H:AH}:A5a Tryz.prog 71 0 [] H=some (.slice (some ⟨H.next,0,some 0⟩) 0 0,(H.new 1 []).2):=A0h Tryz.underlying71 A2c A32 rfl (Nat.le_of_ble_eq_true rfl)
theorem A4p{H:AH}{x:Value}(hx:(A6a x).length=1)(hc:(A6a x).all isCell=true):A5a Tryz.prog 71 1 [(0,x)] H=some (.slice (some ⟨H.next,0,some 0⟩) 1 1,(H.new 1 (A6a x)).2):=A9n Tryz.underlying71 A2c A32 rfl (Nat.le_of_ble_eq_true rfl) (Nat.le_of_ble_eq_true rfl) hx hc
theorem C3w{g o k:Nat}:A1b Tryz.prog 81 0 (.pointer (some ⟨g,o,some k⟩))=some (.pointer (some ⟨g,o+0,some k⟩)):=by have h:=A8a (g:=g) (o:=o) (k:=k) (f:=0) Tryz.underlying81 (Eq.refl (some _)) A2c rfl;exact h
theorem C25{g o k:Nat}:A1b Tryz.prog 81 1 (.pointer (some ⟨g,o,some k⟩))=some (.pointer (some ⟨g,o+1,some k⟩)):=by have h:=A8a (g:=g) (o:=o) (k:=k) (f:=1) Tryz.underlying81 (Eq.refl (some _)) A2c rfl;exact h
theorem D9a{g o k:Nat}:A1b Tryz.prog 81 2 (.pointer (some ⟨g,o,some k⟩))=some (.pointer (some ⟨g,o+2,some k⟩)):=by have h:=A8a (g:=g) (o:=o) (k:=k) (f:=2) Tryz.underlying81 (Eq.refl (some _)) A2c rfl;exact h
theorem D8a{g o k:Nat}:A1b Tryz.prog 81 3 (.pointer (some ⟨g,o,some k⟩))=some (.pointer (some ⟨g,o+3,some k⟩)):=by have h:=A8a (g:=g) (o:=o) (k:=k) (f:=3) Tryz.underlying81 (Eq.refl (some _)) A2c rfl;exact h
theorem bld_81{v0 v1 v2 v3:Value}(h0:isCell v0=true)(h1:isCell v1=true)(h2:isCell v2=true)(h3:isCell v3=true):A3s Tryz.prog 81 [(0,v0),(1,v1),(2,v2),(3,v3)]=some (.agg #[v0,v1,v2,v3]):=by refine A6m (pl:=[(0,1),(1,1),(2,1),(3,1)]) Tryz.underlying81 A29 (by kernel_rfl) ?_;have va:∀xs:Array Value,A6a (.agg xs)=xs.toList:=fun _=>rfl;simp[A12,A4b h0,A4b h1,A4b h2,A4b h3,va,h0,h1,h2,h3,setCells,A3c]
theorem len_86{H:AH}{n c:Nat}{a:Option Addr}:A4a Tryz.prog .len [86] [.slice a n c] H=some (.int .i64 (n:Int),H):=A4g Tryz.underlying86
theorem info_86:((Tryz.prog.info? 88).map fun i=>Nat.beq i.size 2&&Nat.ble i.bytes 4096)=some true:=by kernel_rfl
theorem C27{H:AH}{len cap:Nat}{base:Option Addr}{x:List Value}(hx:x.length=2)(hb:len≤17179869183):A4a Tryz.prog .append [86,86] [.slice base len cap,.slice (some ⟨H.next,0,some 0⟩) 1 1] (H.new 2 x).2=A1e 2 base len cap 1 x (H.new 2 x).2:=A9m Tryz.underlying86 info_86 A88 rfl (Nat.le_of_ble_eq_true rfl) hx hb
theorem C1k{c:Bool}{a:Option Addr}{n m:Nat}:abin Tryz.prog 86 c .eql (.slice a n m) (.slice none 0 0)=some (.bool a.isNone):=A1h Tryz.underlying86
theorem B54{c:Bool}{a:Option Addr}{n m:Nat}:abin Tryz.prog 86 c .neq (.slice a n m) (.slice none 0 0)=some (.bool a.isSome):=A2d Tryz.underlying86
theorem B44{H:AH}:A5a Tryz.prog 86 0 [] H=some (.slice (some ⟨H.next,0,some 0⟩) 0 0,(H.new 2 []).2):=A0h Tryz.underlying86 A5t A88 rfl (Nat.le_of_ble_eq_true rfl)
theorem B87{H:AH}{x:Value}(hx:(A6a x).length=2)(hc:(A6a x).all isCell=true):A5a Tryz.prog 86 1 [(0,x)] H=some (.slice (some ⟨H.next,0,some 0⟩) 1 1,(H.new 2 (A6a x)).2):=A9n Tryz.underlying86 A5t A88 rfl (Nat.le_of_ble_eq_true rfl) (Nat.le_of_ble_eq_true rfl) hx hc
theorem D2b{g o k:Nat}:A1b Tryz.prog 88 0 (.pointer (some ⟨g,o,some k⟩))=some (.pointer (some ⟨g,o+0,some k⟩)):=by have h:=A8a (g:=g) (o:=o) (k:=k) (f:=0) Tryz.underlying88 (Eq.refl (some _)) A4i rfl;exact h
theorem C41{g o k:Nat}:A1b Tryz.prog 88 1 (.pointer (some ⟨g,o,some k⟩))=some (.pointer (some ⟨g,o+1,some k⟩)):=by have h:=A8a (g:=g) (o:=o) (k:=k) (f:=1) Tryz.underlying88 (Eq.refl (some _)) A2c rfl;exact h
theorem bld_88{v0 v1:Value}(h0:isCell v0=true)(h1:isCell v1=true):A3s Tryz.prog 88 [(0,v0),(1,v1)]=some (.agg #[v0,v1]):=by refine A6m (pl:=[(0,1),(1,1)]) Tryz.underlying88 A88 (by kernel_rfl) ?_;have va:∀xs:Array Value,A6a (.agg xs)=xs.toList:=fun _=>rfl;simp[A12,A4b h0,A4b h1,va,h0,h1,setCells,A3c]
theorem len_92{H:AH}{n c:Nat}{a:Option Addr}:A4a Tryz.prog .len [92] [.slice a n c] H=some (.int .i64 (n:Int),H):=A4g Tryz.underlying92
theorem info_92:((Tryz.prog.info? 58).map fun i=>Nat.beq i.size 1&&Nat.ble i.bytes 4096)=some true:=by kernel_rfl
theorem C5y{H:AH}{len cap:Nat}{base:Option Addr}{x:List Value}(hx:x.length=1)(hb:len≤17179869183):A4a Tryz.prog .append [92,92] [.slice base len cap,.slice (some ⟨H.next,0,some 0⟩) 1 1] (H.new 1 x).2=A1e 1 base len cap 1 x (H.new 1 x).2:=A9m Tryz.underlying92 info_92 B2e rfl (Nat.le_of_ble_eq_true rfl) hx hb
theorem C7n{c:Bool}{a:Option Addr}{n m:Nat}:abin Tryz.prog 92 c .eql (.slice a n m) (.slice none 0 0)=some (.bool a.isNone):=A1h Tryz.underlying92
theorem B35{c:Bool}{a:Option Addr}{n m:Nat}:abin Tryz.prog 92 c .neq (.slice a n m) (.slice none 0 0)=some (.bool a.isSome):=A2d Tryz.underlying92
theorem B27{H:AH}:A5a Tryz.prog 92 0 [] H=some (.slice (some ⟨H.next,0,some 0⟩) 0 0,(H.new 1 []).2):=A0h Tryz.underlying92 B0e B2e rfl (Nat.le_of_ble_eq_true rfl)
theorem B0k{H:AH}{x:Value}(hx:(A6a x).length=1)(hc:(A6a x).all isCell=true):A5a Tryz.prog 92 1 [(0,x)] H=some (.slice (some ⟨H.next,0,some 0⟩) 1 1,(H.new 1 (A6a x)).2):=A9n Tryz.underlying92 B0e B2e rfl (Nat.le_of_ble_eq_true rfl) (Nat.le_of_ble_eq_true rfl) hx hc
theorem C7y{g o k:Nat}:A1b Tryz.prog 94 0 (.pointer (some ⟨g,o,some k⟩))=some (.pointer (some ⟨g,o+0,some k⟩)):=by have h:=A8a (g:=g) (o:=o) (k:=k) (f:=0) Tryz.underlying94 (Eq.refl (some _)) B7l rfl;exact h
theorem C26{g o k:Nat}:A1b Tryz.prog 94 1 (.pointer (some ⟨g,o,some k⟩))=some (.pointer (some ⟨g,o+3,some k⟩)):=by have h:=A8a (g:=g) (o:=o) (k:=k) (f:=1) Tryz.underlying94 (Eq.refl (some _)) C3g rfl;exact h
theorem C89{g o k:Nat}:A1b Tryz.prog 94 2 (.pointer (some ⟨g,o,some k⟩))=some (.pointer (some ⟨g,o+4,some k⟩)):=by have h:=A8a (g:=g) (o:=o) (k:=k) (f:=2) Tryz.underlying94 (Eq.refl (some _)) A2c rfl;exact h
theorem C8v{g o k:Nat}:A1b Tryz.prog 94 3 (.pointer (some ⟨g,o,some k⟩))=some (.pointer (some ⟨g,o+5,some k⟩)):=by have h:=A8a (g:=g) (o:=o) (k:=k) (f:=3) Tryz.underlying94 (Eq.refl (some _)) C13 rfl;exact h
theorem C30{H:AH}{n c:Nat}{a:Option Addr}:A4a Tryz.prog .len [101] [.slice a n c] H=some (.int .i64 (n:Int),H):=A4g Tryz.underlying101
theorem info_101:((Tryz.prog.info? 111).map fun i=>Nat.beq i.size 1&&Nat.ble i.bytes 4096)=some true:=by kernel_rfl
theorem B00{c:Bool}{a:Option Addr}{n m:Nat}:abin Tryz.prog 101 c .eql (.slice a n m) (.slice none 0 0)=some (.bool a.isNone):=A1h Tryz.underlying101
theorem B1r{c:Bool}{a:Option Addr}{n m:Nat}:abin Tryz.prog 101 c .neq (.slice a n m) (.slice none 0 0)=some (.bool a.isSome):=A2d Tryz.underlying101
theorem mk_101{H:AH}{l c:Nat}(hlc:l≤c)(hc:c≤17179869184):A9f Tryz.prog 101 (.int .i64 (l:Int)) (.int .i64 (c:Int)) H=some (.slice (some ⟨H.next,0,some 0⟩) l c,(H.new 1 (List.replicate c (.slice none 0 0))).2):=by rw[←A5y];exact A34 Tryz.underlying101 info_101 B3c rfl (Nat.le_of_ble_eq_true rfl) hlc hc
theorem B8p{H:AH}:A5a Tryz.prog 101 0 [] H=some (.slice (some ⟨H.next,0,some 0⟩) 0 0,(H.new 1 []).2):=A0h Tryz.underlying101 A2v B3c rfl (Nat.le_of_ble_eq_true rfl)
theorem C1j{g o k:Nat}:A1b Tryz.prog 103 0 (.pointer (some ⟨g,o,some k⟩))=some (.pointer (some ⟨g,o+0,some k⟩)):=by have h:=A8a (g:=g) (o:=o) (k:=k) (f:=0) Tryz.underlying103 (Eq.refl (some _)) A6t rfl;exact h
theorem C8i{g o k:Nat}:A1b Tryz.prog 103 1 (.pointer (some ⟨g,o,some k⟩))=some (.pointer (some ⟨g,o+1,some k⟩)):=by have h:=A8a (g:=g) (o:=o) (k:=k) (f:=1) Tryz.underlying103 (Eq.refl (some _)) size_101 rfl;exact h
theorem C2l{g o k:Nat}:A1b Tryz.prog 103 2 (.pointer (some ⟨g,o,some k⟩))=some (.pointer (some ⟨g,o+2,some k⟩)):=by have h:=A8a (g:=g) (o:=o) (k:=k) (f:=2) Tryz.underlying103 (Eq.refl (some _)) A4y rfl;exact h
theorem C7m{g o k:Nat}:A1b Tryz.prog 103 3 (.pointer (some ⟨g,o,some k⟩))=some (.pointer (some ⟨g,o+3,some k⟩)):=by have h:=A8a (g:=g) (o:=o) (k:=k) (f:=3) Tryz.underlying103 (Eq.refl (some _)) A4y rfl;exact h
theorem C6h{g o k:Nat}:A1b Tryz.prog 105 0 (.pointer (some ⟨g,o,some k⟩))=some (.pointer (some ⟨g,o+0,some k⟩)):=by have h:=A8a (g:=g) (o:=o) (k:=k) (f:=0) Tryz.underlying105 (Eq.refl (some _)) A2c rfl;exact h
theorem C8h{g o k:Nat}:A1b Tryz.prog 105 1 (.pointer (some ⟨g,o,some k⟩))=some (.pointer (some ⟨g,o+1,some k⟩)):=by have h:=A8a (g:=g) (o:=o) (k:=k) (f:=1) Tryz.underlying105 (Eq.refl (some _)) A2c rfl;exact h
theorem C22{H:AH}{n c:Nat}{a:Option Addr}:A4a Tryz.prog .len [107] [.slice a n c] H=some (.int .i64 (n:Int),H):=A4g Tryz.underlying107
theorem B10{c:Bool}{a:Option Addr}{n m:Nat}:abin Tryz.prog 107 c .eql (.slice a n m) (.slice none 0 0)=some (.bool a.isNone):=A1h Tryz.underlying107
theorem B2r{c:Bool}{a:Option Addr}{n m:Nat}:abin Tryz.prog 107 c .neq (.slice a n m) (.slice none 0 0)=some (.bool a.isSome):=A2d Tryz.underlying107
theorem B4p{H:AH}:A5a Tryz.prog 107 0 [] H=some (.slice (some ⟨H.next,0,some 0⟩) 0 0,(H.new 2 []).2):=A0h Tryz.underlying107 C5q B9x rfl (Nat.le_of_ble_eq_true rfl)
theorem C80{H:AH}{n c:Nat}{a:Option Addr}:A4a Tryz.prog .len [111] [.slice a n c] H=some (.int .i64 (n:Int),H):=A4g Tryz.underlying111
theorem info_111:((Tryz.prog.info? 81).map fun i=>Nat.beq i.size 4&&Nat.ble i.bytes 4096)=some true:=by kernel_rfl
theorem C9k{H:AH}{len cap:Nat}{base:Option Addr}{x:List Value}(hx:x.length=4)(hb:len≤17179869183):A4a Tryz.prog .append [111,111] [.slice base len cap,.slice (some ⟨H.next,0,some 0⟩) 1 1] (H.new 4 x).2=A1e 4 base len cap 1 x (H.new 4 x).2:=A9m Tryz.underlying111 info_111 A29 rfl (Nat.le_of_ble_eq_true rfl) hx hb
theorem B3y{c:Bool}{a:Option Addr}{n m:Nat}:abin Tryz.prog 111 c .eql (.slice a n m) (.slice none 0 0)=some (.bool a.isNone):=A1h Tryz.underlying111
theorem B7o{c:Bool}{a:Option Addr}{n m:Nat}:abin Tryz.prog 111 c .neq (.slice a n m) (.slice none 0 0)=some (.bool a.isSome):=A2d Tryz.underlying111
theorem B1t{H:AH}:A5a Tryz.prog 111 0 [] H=some (.slice (some ⟨H.next,0,some 0⟩) 0 0,(H.new 4 []).2):=A0h Tryz.underlying111 A92 A29 rfl (Nat.le_of_ble_eq_true rfl)
theorem B7s{H:AH}{x:Value}(hx:(A6a x).length=4)(hc:(A6a x).all isCell=true):A5a Tryz.prog 111 1 [(0,x)] H=some (.slice (some ⟨H.next,0,some 0⟩) 1 1,(H.new 4 (A6a x)).2):=A9n Tryz.underlying111 A92 A29 rfl (Nat.le_of_ble_eq_true rfl) (Nat.le_of_ble_eq_true rfl) hx hc
theorem C69{H:AH}{n c:Nat}{a:Option Addr}:A4a Tryz.prog .len [120] [.slice a n c] H=some (.int .i64 (n:Int),H):=A4g Tryz.underlying120
theorem B6y{c:Bool}{a:Option Addr}{n m:Nat}:abin Tryz.prog 120 c .eql (.slice a n m) (.slice none 0 0)=some (.bool a.isNone):=A1h Tryz.underlying120
theorem B7t{c:Bool}{a:Option Addr}{n m:Nat}:abin Tryz.prog 120 c .neq (.slice a n m) (.slice none 0 0)=some (.bool a.isSome):=A2d Tryz.underlying120
theorem B3r{H:AH}:A5a Tryz.prog 120 0 [] H=some (.slice (some ⟨H.next,0,some 0⟩) 0 0,(H.new 1 []).2):=A0h Tryz.underlying120 size_121 B3w rfl (Nat.le_of_ble_eq_true rfl)
theorem C65{H:AH}{n c:Nat}{a:Option Addr}:A4a Tryz.prog .len [131] [.slice a n c] H=some (.int .i64 (n:Int),H):=A4g Tryz.underlying131
theorem C6n:((Tryz.prog.info? 71).map fun i=>Nat.beq i.size 1&&Nat.ble i.bytes 4096)=some true:=by kernel_rfl
theorem app1_131{H:AH}{len cap:Nat}{base:Option Addr}{x:List Value}(hx:x.length=1)(hb:len≤17179869183):A4a Tryz.prog .append [131,131] [.slice base len cap,.slice (some ⟨H.next,0,some 0⟩) 1 1] (H.new 1 x).2=A1e 1 base len cap 1 x (H.new 1 x).2:=A9m Tryz.underlying131 C6n A08 rfl (Nat.le_of_ble_eq_true rfl) hx hb
theorem B81{c:Bool}{a:Option Addr}{n m:Nat}:abin Tryz.prog 131 c .eql (.slice a n m) (.slice none 0 0)=some (.bool a.isNone):=A1h Tryz.underlying131
theorem B6o{c:Bool}{a:Option Addr}{n m:Nat}:abin Tryz.prog 131 c .neq (.slice a n m) (.slice none 0 0)=some (.bool a.isSome):=A2d Tryz.underlying131
theorem mk_131{H:AH}{l c:Nat}(hlc:l≤c)(hc:c≤17179869184):A9f Tryz.prog 131 (.int .i64 (l:Int)) (.int .i64 (c:Int)) H=some (.slice (some ⟨H.next,0,some 0⟩) l c,(H.new 1 (List.replicate c (.slice none 0 0))).2):=by rw[←A5y];exact A34 Tryz.underlying131 C6n A08 rfl (Nat.le_of_ble_eq_true rfl) hlc hc
theorem B0s{H:AH}:A5a Tryz.prog 131 0 [] H=some (.slice (some ⟨H.next,0,some 0⟩) 0 0,(H.new 1 []).2):=A0h Tryz.underlying131 A4y A08 rfl (Nat.le_of_ble_eq_true rfl)
theorem C8r{H:AH}{x:Value}(hx:(A6a x).length=1)(hc:(A6a x).all isCell=true):A5a Tryz.prog 131 1 [(0,x)] H=some (.slice (some ⟨H.next,0,some 0⟩) 1 1,(H.new 1 (A6a x)).2):=A9n Tryz.underlying131 A4y A08 rfl (Nat.le_of_ble_eq_true rfl) (Nat.le_of_ble_eq_true rfl) hx hc
theorem C78{H:AH}{n c:Nat}{a:Option Addr}:A4a Tryz.prog .len [146] [.slice a n c] H=some (.int .i64 (n:Int),H):=A4g Tryz.underlying146
theorem info_146:((Tryz.prog.info? 3).map fun i=>Nat.beq i.size 1&&Nat.ble i.bytes 4096)=some true:=by kernel_rfl
theorem app1_146{H:AH}{len cap:Nat}{base:Option Addr}{x:List Value}(hx:x.length=1)(hb:len≤17179869183):A4a Tryz.prog .append [146,146] [.slice base len cap,.slice (some ⟨H.next,0,some 0⟩) 1 1] (H.new 1 x).2=A1e 1 base len cap 1 x (H.new 1 x).2:=A9m Tryz.underlying146 info_146 A32 rfl (Nat.le_of_ble_eq_true rfl) hx hb
theorem B86{c:Bool}{a:Option Addr}{n m:Nat}:abin Tryz.prog 146 c .eql (.slice a n m) (.slice none 0 0)=some (.bool a.isNone):=A1h Tryz.underlying146
theorem B9p{c:Bool}{a:Option Addr}{n m:Nat}:abin Tryz.prog 146 c .neq (.slice a n m) (.slice none 0 0)=some (.bool a.isSome):=A2d Tryz.underlying146
theorem B1s{H:AH}:A5a Tryz.prog 146 0 [] H=some (.slice (some ⟨H.next,0,some 0⟩) 0 0,(H.new 1 []).2):=A0h Tryz.underlying146 A2c A32 rfl (Nat.le_of_ble_eq_true rfl)
theorem C6r{H:AH}{x:Value}(hx:(A6a x).length=1)(hc:(A6a x).all isCell=true):A5a Tryz.prog 146 1 [(0,x)] H=some (.slice (some ⟨H.next,0,some 0⟩) 1 1,(H.new 1 (A6a x)).2):=A9n Tryz.underlying146 A2c A32 rfl (Nat.le_of_ble_eq_true rfl) (Nat.le_of_ble_eq_true rfl) hx hc
theorem C85{H:AH}{n c:Nat}{a:Option Addr}:A4a Tryz.prog .len [148] [.slice a n c] H=some (.int .i64 (n:Int),H):=A4g Tryz.underlying148
theorem info_148:((Tryz.prog.info? 146).map fun i=>Nat.beq i.size 1&&Nat.ble i.bytes 4096)=some true:=by kernel_rfl
theorem B17{c:Bool}{a:Option Addr}{n m:Nat}:abin Tryz.prog 148 c .eql (.slice a n m) (.slice none 0 0)=some (.bool a.isNone):=A1h Tryz.underlying148
theorem B5q{c:Bool}{a:Option Addr}{n m:Nat}:abin Tryz.prog 148 c .neq (.slice a n m) (.slice none 0 0)=some (.bool a.isSome):=A2d Tryz.underlying148
theorem mk_148{H:AH}{l c:Nat}(hlc:l≤c)(hc:c≤17179869184):A9f Tryz.prog 148 (.int .i64 (l:Int)) (.int .i64 (c:Int)) H=some (.slice (some ⟨H.next,0,some 0⟩) l c,(H.new 1 (List.replicate c (.slice none 0 0))).2):=by rw[←A5y];exact A34 Tryz.underlying148 info_148 B7c rfl (Nat.le_of_ble_eq_true rfl) hlc hc
theorem B3o{H:AH}:A5a Tryz.prog 148 0 [] H=some (.slice (some ⟨H.next,0,some 0⟩) 0 0,(H.new 1 []).2):=A0h Tryz.underlying148 B0d B7c rfl (Nat.le_of_ble_eq_true rfl)
theorem C6l{H:AH}{n:Int}:A5i Tryz.prog 3 122 (.int .i64 n) H=some (.int .u64 (IntKind.wrap .u64 n),H):=A4x Tryz.underlying3 Tryz.underlying122
theorem C4i{H:AH}{n:Int}:A5i Tryz.prog 3 182 (.int .i64 n) H=some (.int .u64 (IntKind.wrap .u64 n),H):=A4x Tryz.underlying3 Tryz.underlying182
theorem cv_5_3{H:AH}{n:Int}:A5i Tryz.prog 5 3 (.int .u8 n) H=some (.int .i64 (IntKind.wrap .i64 n),H):=A4x Tryz.underlying5 Tryz.underlying3
theorem C1q{H:AH}{n:Int}:A5i Tryz.prog 121 5 (.int .u64 n) H=some (.int .u8 (IntKind.wrap .u8 n),H):=A4x Tryz.underlying121 Tryz.underlying5
theorem C1m{H:AH}{n:Int}:A5i Tryz.prog 122 3 (.int .u64 n) H=some (.int .i64 (IntKind.wrap .i64 n),H):=A4x Tryz.underlying122 Tryz.underlying3
theorem B4q{H:AH}{n:Int}:A5i Tryz.prog 122 175 (.int .u64 n) H=some (.int .u32 (IntKind.wrap .u32 n),H):=A4x Tryz.underlying122 Tryz.underlying175
theorem C2h{H:AH}{n:Int}:A5i Tryz.prog 175 5 (.int .u32 n) H=some (.int .u8 (IntKind.wrap .u8 n),H):=A4x Tryz.underlying175 Tryz.underlying5
theorem B07:type_of% (And.intro @zero_1 (And.intro @ld_1 (And.intro @zero_2 (And.intro @ld_2 (And.intro @A32 (And.intro @ld_3 (And.intro @B3l (And.intro @ld_4 (And.intro @zero_5 (And.intro @ld_5 (And.intro @B9m (And.intro @ld_9 (And.intro @B8i (And.intro @ld_22 (And.intro @C75 (And.intro @ld_23 (And.intro @D6a (And.intro @ld_24 (And.intro @B0g (And.intro @ld_26 (And.intro @C2y (And.intro @ld_30 (And.intro @C2z (And.intro @ld_31 (And.intro @D2a (And.intro @ld_37 (And.intro @C9v (And.intro @ld_43 (And.intro @B0f (And.intro @ld_45 (And.intro @C1d (And.intro @ld_47 (And.intro @C36 (And.intro @ld_50 (And.intro @C6a (And.intro @ld_52 (And.intro @C39 (And.intro @ld_57 (And.intro @B2e (And.intro @ld_58 (And.intro @C2g (And.intro @ld_60 (And.intro @C4x (And.intro @ld_67 (And.intro @A08 (And.intro @ld_71 (And.intro @A29 (And.intro @ld_81 (And.intro @B9w (And.intro @ld_86 (And.intro @A88 (And.intro @ld_88 (And.intro @C81 (And.intro @ld_91 (And.intro @C00 (And.intro @ld_92 (And.intro @C9e (And.intro @ld_94 (And.intro @D0a (And.intro @ld_98 (And.intro @C2r (And.intro @ld_101 (And.intro @B7w (And.intro @ld_103 (And.intro @B9x (And.intro @ld_105 (And.intro @C0o (And.intro @ld_106 (And.intro @C8m (And.intro @ld_107 (And.intro @C2o (And.intro @ld_109 (And.intro @B3c (And.intro @ld_111 (And.intro @C6q (And.intro @ld_115 (And.intro @C8q (And.intro @ld_119 (And.intro @C9n (And.intro @ld_120 (And.intro @B3w (And.intro @ld_121 (And.intro @C6p (And.intro @ld_122 (And.intro @C4p (And.intro @ld_123 (And.intro @C7i (And.intro @ld_131 (And.intro @C8l (And.intro @ld_145 (And.intro @B7c (And.intro @ld_146 (And.intro @C3l (And.intro @ld_148 (And.intro @C7q (And.intro @ld_152 (And.intro @C0r (And.intro @ld_153 (And.intro @C8g (And.intro @ld_161 (And.intro @C9o (And.intro @ld_167 (And.intro @C6m (And.intro @ld_175 (And.intro @C7o (And.intro @ld_182 (And.intro @C5k (And.intro @ld_186 (And.intro @C0j (And.intro @ld_190 (And.intro @len_9 (And.intro @len_22 (And.intro @C1r (And.intro @B34 (And.intro @B93 (And.intro @len_23 (And.intro @C9h (And.intro @B22 (And.intro @B39 (And.intro @len_24 (And.intro @C9q (And.intro @B59 (And.intro @B20 (And.intro @C18 (And.intro @C88 (And.intro @C08 (And.intro @C96 (And.intro @len_30 (And.intro @C4l (And.intro @B05 (And.intro @B06 (And.intro @C44 (And.intro @C8x (And.intro @C98 (And.intro @C56 (And.intro @len_43 (And.intro @C3o (And.intro @B36 (And.intro @B72 (And.intro @C82 (And.intro @C70 (And.intro @C90 (And.intro @C66 (And.intro @C73 (And.intro @C55 (And.intro @C01 (And.intro @C77 (And.intro @len_57 (And.intro @C2j (And.intro @B77 (And.intro @B65 (And.intro @len_58 (And.intro @C4o (And.intro @B46 (And.intro @B98 (And.intro @C20 (And.intro @C10 (And.intro @C46 (And.intro @len_71 (And.intro @C2n (And.intro @B60 (And.intro @B74 (And.intro @C3w (And.intro @C25 (And.intro @D9a (And.intro @D8a (And.intro @len_86 (And.intro @C1k (And.intro @B54 (And.intro @B44 (And.intro @D2b (And.intro @C41 (And.intro @len_92 (And.intro @C7n (And.intro @B35 (And.intro @B27 (And.intro @C7y (And.intro @C26 (And.intro @C89 (And.intro @C8v (And.intro @C30 (And.intro @B00 (And.intro @B1r (And.intro @B8p (And.intro @C1j (And.intro @C8i (And.intro @C2l (And.intro @C7m (And.intro @C6h (And.intro @C8h (And.intro @C22 (And.intro @B10 (And.intro @B2r (And.intro @B4p (And.intro @C80 (And.intro @B3y (And.intro @B7o (And.intro @B1t (And.intro @C69 (And.intro @B6y (And.intro @B7t (And.intro @B3r (And.intro @C65 (And.intro @B81 (And.intro @B6o (And.intro @B0s (And.intro @C78 (And.intro @B86 (And.intro @B9p (And.intro @B1s (And.intro @C85 (And.intro @B17 (And.intro @B5q (And.intro @B3o (And.intro @C6l (And.intro @C4i (And.intro @cv_5_3 (And.intro @C1q (And.intro @C1m (And.intro @B4q (@C2h))))))))))))))))))))))))))))))))))))))))))))))))))))))))))))))))))))))))))))))))))))))))))))))))))))))))))))))))))))))))))))))))))))))))))))))))))))))))))))))))))))))))))))))))))))))))))))))))))))))))))))))))))))))))))))):=And.intro @zero_1 (And.intro @ld_1 (And.intro @zero_2 (And.intro @ld_2 (And.intro @A32 (And.intro @ld_3 (And.intro @B3l (And.intro @ld_4 (And.intro @zero_5 (And.intro @ld_5 (And.intro @B9m (And.intro @ld_9 (And.intro @B8i (And.intro @ld_22 (And.intro @C75 (And.intro @ld_23 (And.intro @D6a (And.intro @ld_24 (And.intro @B0g (And.intro @ld_26 (And.intro @C2y (And.intro @ld_30 (And.intro @C2z (And.intro @ld_31 (And.intro @D2a (And.intro @ld_37 (And.intro @C9v (And.intro @ld_43 (And.intro @B0f (And.intro @ld_45 (And.intro @C1d (And.intro @ld_47 (And.intro @C36 (And.intro @ld_50 (And.intro @C6a (And.intro @ld_52 (And.intro @C39 (And.intro @ld_57 (And.intro @B2e (And.intro @ld_58 (And.intro @C2g (And.intro @ld_60 (And.intro @C4x (And.intro @ld_67 (And.intro @A08 (And.intro @ld_71 (And.intro @A29 (And.intro @ld_81 (And.intro @B9w (And.intro @ld_86 (And.intro @A88 (And.intro @ld_88 (And.intro @C81 (And.intro @ld_91 (And.intro @C00 (And.intro @ld_92 (And.intro @C9e (And.intro @ld_94 (And.intro @D0a (And.intro @ld_98 (And.intro @C2r (And.intro @ld_101 (And.intro @B7w (And.intro @ld_103 (And.intro @B9x (And.intro @ld_105 (And.intro @C0o (And.intro @ld_106 (And.intro @C8m (And.intro @ld_107 (And.intro @C2o (And.intro @ld_109 (And.intro @B3c (And.intro @ld_111 (And.intro @C6q (And.intro @ld_115 (And.intro @C8q (And.intro @ld_119 (And.intro @C9n (And.intro @ld_120 (And.intro @B3w (And.intro @ld_121 (And.intro @C6p (And.intro @ld_122 (And.intro @C4p (And.intro @ld_123 (And.intro @C7i (And.intro @ld_131 (And.intro @C8l (And.intro @ld_145 (And.intro @B7c (And.intro @ld_146 (And.intro @C3l (And.intro @ld_148 (And.intro @C7q (And.intro @ld_152 (And.intro @C0r (And.intro @ld_153 (And.intro @C8g (And.intro @ld_161 (And.intro @C9o (And.intro @ld_167 (And.intro @C6m (And.intro @ld_175 (And.intro @C7o (And.intro @ld_182 (And.intro @C5k (And.intro @ld_186 (And.intro @C0j (And.intro @ld_190 (And.intro @len_9 (And.intro @len_22 (And.intro @C1r (And.intro @B34 (And.intro @B93 (And.intro @len_23 (And.intro @C9h (And.intro @B22 (And.intro @B39 (And.intro @len_24 (And.intro @C9q (And.intro @B59 (And.intro @B20 (And.intro @C18 (And.intro @C88 (And.intro @C08 (And.intro @C96 (And.intro @len_30 (And.intro @C4l (And.intro @B05 (And.intro @B06 (And.intro @C44 (And.intro @C8x (And.intro @C98 (And.intro @C56 (And.intro @len_43 (And.intro @C3o (And.intro @B36 (And.intro @B72 (And.intro @C82 (And.intro @C70 (And.intro @C90 (And.intro @C66 (And.intro @C73 (And.intro @C55 (And.intro @C01 (And.intro @C77 (And.intro @len_57 (And.intro @C2j (And.intro @B77 (And.intro @B65 (And.intro @len_58 (And.intro @C4o (And.intro @B46 (And.intro @B98 (And.intro @C20 (And.intro @C10 (And.intro @C46 (And.intro @len_71 (And.intro @C2n (And.intro @B60 (And.intro @B74 (And.intro @C3w (And.intro @C25 (And.intro @D9a (And.intro @D8a (And.intro @len_86 (And.intro @C1k (And.intro @B54 (And.intro @B44 (And.intro @D2b (And.intro @C41 (And.intro @len_92 (And.intro @C7n (And.intro @B35 (And.intro @B27 (And.intro @C7y (And.intro @C26 (And.intro @C89 (And.intro @C8v (And.intro @C30 (And.intro @B00 (And.intro @B1r (And.intro @B8p (And.intro @C1j (And.intro @C8i (And.intro @C2l (And.intro @C7m (And.intro @C6h (And.intro @C8h (And.intro @C22 (And.intro @B10 (And.intro @B2r (And.intro @B4p (And.intro @C80 (And.intro @B3y (And.intro @B7o (And.intro @B1t (And.intro @C69 (And.intro @B6y (And.intro @B7t (And.intro @B3r (And.intro @C65 (And.intro @B81 (And.intro @B6o (And.intro @B0s (And.intro @C78 (And.intro @B86 (And.intro @B9p (And.intro @B1s (And.intro @C85 (And.intro @B17 (And.intro @B5q (And.intro @B3o (And.intro @C6l (And.intro @C4i (And.intro @cv_5_3 (And.intro @C1q (And.intro @C1m (And.intro @B4q (@C2h))))))))))))))))))))))))))))))))))))))))))))))))))))))))))))))))))))))))))))))))))))))))))))))))))))))))))))))))))))))))))))))))))))))))))))))))))))))))))))))))))))))))))))))))))))))))))))))))))))))))))))))))))))))))))))
theorem sx:type_of% (And.intro @Sh.sy @B07):=And.intro @Sh.sy @B07
set_option maxHeartbeats 4000000
section
variable {H:AH} {g:Nat} {sg ar en v:Value} {N:NetD}
theorem A3u(hsg:isCell sg=true)(har:isCell ar=true)(hen:isCell en=true){n:Int}:anew Tryz.prog 26 H (.agg #[sg,.int .i64 n,ar,en])=some (.pointer (some ⟨H.next,0,some 0⟩),(H.new 4 [sg,.int .i64 n,ar,en]).2):=
 A3q (vs:=[sg,.int .i64 n,ar,en]) A0u rfl (by simp[hsg,har,hen,show isCell (.int .i64 n)=true from rfl])
theorem netStore(hsg:isCell sg=true)(har:isCell ar=true)(hen:isCell en=true){n:Int}{p:Addr}:A0e Tryz.prog 26 H (.agg #[sg,.int .i64 n,ar,en]) (.pointer (some p))=H.write p [sg,.int .i64 n,ar,en]:=
 A0s (vs:=[sg,.int .i64 n,ar,en]) A0u rfl (by simp[hsg,har,hen,show isCell (.int .i64 n)=true from rfl])
theorem netZero:anew Tryz.prog 26 H (.agg #[.slice none 0 0,.int .i64 0,.slice none 0 0,.slice none 0 0])=some (.pointer (some ⟨H.next,0,some 0⟩),(H.new 4 [.slice none 0 0,.int .i64 0,.slice none 0 0,.slice none 0 0]).2):=A3q (vs:=[.slice none 0 0,.int .i64 0,.slice none 0 0,.slice none 0 0]) A0u rfl rfl
theorem A18:anew Tryz.prog 45 H (.agg #[.int .i64 0,.string ⟨#[]⟩,.string ⟨#[]⟩,.int .i64 0,.int .i64 0])=some (.pointer (some ⟨H.next,0,some 0⟩),(H.new 5 [.int .i64 0,.string ⟨#[]⟩,.string ⟨#[]⟩,.int .i64 0,.int .i64 0]).2):=
 A3q (vs:=[.int .i64 0,.string ⟨#[]⟩,.string ⟨#[]⟩,.int .i64 0,.int .i64 0]) A7q rfl rfl
theorem C9a:anew Tryz.prog 47 H (.agg #[.int .i64 0,.int .i64 0])=some (.pointer (some ⟨H.next,0,some 0⟩),(H.new 2 [.int .i64 0,.int .i64 0]).2):=A3q (vs:=[.int .i64 0,.int .i64 0]) A7v rfl rfl
theorem A51{a:ArcD}{p:Addr}:A0e Tryz.prog 45 H (.agg a.cells.toArray) (.pointer (some p))=H.write p a.cells:=A0s A7q rfl rfl
theorem B2w{a:EndD}{p:Addr}:A0e Tryz.prog 47 H (.agg a.cells.toArray) (.pointer (some p))=H.write p a.cells:=A0s A7v rfl rfl
theorem A67{a:ArcD}{x0 x1 x2 x3 x4:Value}:(H.new 5 [x0,x1,x2,x3,x4]).2.write ⟨H.next,0,some 0⟩ a.cells=some (H.new 5 a.cells).2:=A3m rfl
theorem C0d{a:EndD}{x0 x1:Value}:(H.new 2 [x0,x1]).2.write ⟨H.next,0,some 0⟩ a.cells=some (H.new 2 a.cells).2:=A3m rfl
theorem netOver{x0 x1 x2 x3 y0 y1 y2 y3:Value}:(H.new 4 [x0,x1,x2,x3]).2.write ⟨H.next,0,some 0⟩ [y0,y1,y2,y3]=some (H.new 4 [y0,y1,y2,y3]).2:=A3m rfl
theorem arc0{a:ArcD}:(H.new 5 a.cells).2.cell ⟨H.next,0,some 0⟩=some (.int .i64 a.fr):=A3i _ _ _
theorem arc1{a:ArcD}:(H.new 5 a.cells).2.cell ⟨H.next,1,some 0⟩=some (.string a.inn):=A3i _ _ _
theorem arc2{a:ArcD}:(H.new 5 a.cells).2.cell ⟨H.next,2,some 0⟩=some (.string a.out):=A3i _ _ _
theorem arc3{a:ArcD}:(H.new 5 a.cells).2.cell ⟨H.next,3,some 0⟩=some (.int .i64 a.to):=A3i _ _ _
theorem arc4{a:ArcD}:(H.new 5 a.cells).2.cell ⟨H.next,4,some 0⟩=some (.int .i64 a.cost):=A3i _ _ _
theorem end0{a:EndD}:(H.new 2 a.cells).2.cell ⟨H.next,0,some 0⟩=some (.int .i64 a.state):=A3i _ _ _
theorem end1{a:EndD}:(H.new 2 a.cells).2.cell ⟨H.next,1,some 0⟩=some (.int .i64 a.cost):=A3i _ _ _
theorem A2o(h:NetBox H g sg ar en N){H':AH}:A4a Tryz.prog .len [23] [ar] H'=some (.int .i64 (N.arcs.length:Int),H'):=by rw[h.har.len Tryz.underlying23 H',List.length_map]
theorem A4t(h:NetBox H g sg ar en N){H':AH}:A4a Tryz.prog .len [24] [en] H'=some (.int .i64 (N.ends.length:Int),H'):=by rw[h.hen.len Tryz.underlying24 H',List.length_map]
theorem D0b{d:Nat}{a b:Int}:eqT Tryz.prog (d+1) 3 (.int .i64 a) (.int .i64 b)=some (decide (a=b)):=by
 simp only[eqT,Tryz.underlying3,A5f,cond_true,A9p];rfl
end
theorem C45{H:AH}{v:Value}{l:List ByteArray}(hs:Sl H v 1 (l.map A7a))(hl:l.length≤1048576)(hw:Wf H):
  Sh.Call Tryz.prog (knows 7) 46 [v] H (fun r H'=>Kept H H'∧r=.bool (l.any fun s=>decide (16<s.size))):=by
 refine A3a rfl Tryz.func46 rfl (Nat.le_of_ble_eq_true rfl) ?_;have hres:Tryz.f46.results.toList=[.tmp 2]:=rfl;have hlen:=hs.len Tryz.underlying22 H;simp only[↓Sh.dn,sx];refine A2y l.length (fun i F H'=>H'=H∧F.get 0=some v∧F.get 3=some (.int .i64 (i:Int))∧(l.take i).any (fun s=>decide (16<s.size))=false) (Nat.zero_le _) ⟨rfl,by simp only[sx,reduceCtorEq],by simp only[sx];rfl,rfl⟩ ?_;rintro i F H' hi ⟨rfl,f0,f3,hall⟩ k;by_cases hlt:i<l.length
 ·obtain⟨g,o,kk,hia,hc,hcc⟩:=hs.at Tryz.underlying22 A4i (i:=i) (x:=A7a l[i]) (by simp[hlt]) .i64
  have hy:=hcc 0 _ rfl;simp only[Nat.add_zero]at hy;have hc16:decide ((16:Int)<((l[i].size:Nat):Int))=decide (16<l[i].size):=by
   by_cases h:16<l[i].size
   ·simp[h];omega
   ·simp[h];omega
  simp only[↓Sh.dn,sx,reduceCtorEq,Nat.reduceEqDiff,↓Sh.wp_cond,f0,f3,hlen,hia,hy,List.length_map,A1a,hlt,hc16,decide_true,reduceCtorEq,hres];refine⟨fun h=>⟨Kept.refl hw,?_⟩,fun h=>k _ _ hlt ⟨rfl,by simp only[sx,reduceCtorEq,f0],by simp only[sx,wrap_succ hlt hl],?_⟩⟩
  ·have:(l.any fun s=>decide (16<s.size))=true:=List.any_eq_true.2 ⟨_,List.getElem_mem hlt,h⟩
   rw[this]
  ·rw[List.take_add_one,List.getElem?_eq_getElem hlt]
   simp only[Option.toList,List.any_append,hall,Bool.false_or,List.any_cons,List.any_nil,Bool.or_false];exact h
 ·have hin:i=l.length:=by omega
  subst hin;rw[List.take_length]at hall;simp only[↓Sh.dn,sx,reduceCtorEq,Nat.reduceEqDiff,↓Sh.wp_cond,f0,f3,hlen,List.length_map,A1a,hlt,decide_false,reduceCtorEq,hres];exact⟨Kept.refl hw,by rw[hall]⟩
def badByte(u:UInt8):Bool:=decide (u.toNat<33)||decide (126<u.toNat)||decide (u.toNat=60)||decide (u.toNat=62)
def A5u(s:ByteArray):Bool:=!s.data.toList.any badByte&&decide (1≤s.size)&&decide (s.size≤16)
theorem isSymbol{H:AH}{x:ByteArray}(hl:x.size≤1048576)(hw:Wf H):
  Sh.Call Tryz.prog (knows 7) 87 [.string x] H (fun r H'=>H'=H∧r=.bool (A5u x)):=by
 refine A3a rfl Tryz.func87 rfl (Nat.le_of_ble_eq_true rfl) ?_;have hres:Tryz.f87.results.toList=[.tmp 2]:=rfl;have hsz:x.data.toList.length=x.size:=by rw[Array.length_toList];rfl
 simp only[↓Sh.dn,sx];refine A2y x.size (fun i F H'=>H'=H∧F.get 0=some (.string x)∧F.get 3=some (.int .i64 (i:Int))∧(x.data.toList.take i).any badByte=false) (Nat.zero_le _) ⟨rfl,by simp only[sx,reduceCtorEq],by simp only[sx];rfl,rfl⟩ ?_;rintro i F H' hi ⟨rfl,f0,f3,hall⟩ k;by_cases hlt:i<x.size
 ·obtain⟨u,hu⟩:∃u,x.data.toList[i]?=some u:=⟨x.data.toList[i]'(by omega),List.getElem?_eq_getElem (by omega)⟩
  have hix:=B3m (P:=Tryz.prog) (j:=.i64) Tryz.underlying9 hu;have e33:decide ((u.toNat:Int)<33)=decide (u.toNat<33):=by by_cases h:u.toNat<33<;>simp[h]<;>omega
  have e126:decide (126<(u.toNat:Int))=decide (126<u.toNat):=by by_cases h:126<u.toNat<;>simp[h]<;>omega
  have e60:decide ((u.toNat:Int)=60)=decide (u.toNat=60):=by by_cases h:u.toNat=60<;>simp[h];omega
  have e62:decide ((u.toNat:Int)=62)=decide (u.toNat=62):=by by_cases h:u.toNat=62<;>simp[h];omega
  have hstep:badByte u=false→(x.data.toList.take (i+1)).any badByte=false:=by
   intro h;rw[List.take_add_one,hu];simp only[Option.toList,List.any_append,hall,Bool.false_or,List.any_cons,List.any_nil,Bool.or_false];exact h
  have hbad:badByte u=true→A5u x=false:=by
   intro h;have:x.data.toList.any badByte=true:=List.any_eq_true.2 ⟨_,List.mem_of_getElem? hu,h⟩;simp[A5u,this]
  have hgo:badByte u=(decide (u.toNat<33)||decide (126<u.toNat)||decide (u.toNat=60)||decide (u.toNat=62)):=rfl;have five:∀a b c d:Bool,a=true∨(a=false∧b=true)∨(a=false∧b=false∧c=true)∨(a=false∧b=false∧c=false∧d=true)∨(a=false∧b=false∧c=false∧d=false):=by decide
  rcases five (decide (u.toNat<33)) (decide (126<u.toNat)) (decide (u.toNat=60)) (decide (u.toNat=62)) with h1|⟨h1,h2⟩|⟨h1,h2,h3⟩|⟨h1,h2,h3,h4⟩|⟨h1,h2,h3,h4⟩<;>simp only[*,Bool.or_true,Bool.or_false,Bool.true_or]at hgo
  ·simp only[↓Sh.dn,sx,reduceCtorEq,Nat.reduceEqDiff,f0,f3,hix,A1a,hlt,e33,h1,decide_true,hres,hbad hgo]
  ·simp only[↓Sh.dn,sx,reduceCtorEq,Nat.reduceEqDiff,f0,f3,hix,A1a,hlt,e33,e126,h1,h2,decide_true,hres,hbad hgo]
  ·simp only[↓Sh.dn,sx,reduceCtorEq,Nat.reduceEqDiff,f0,f3,hix,A1a,hlt,e33,e126,e60,h1,h2,h3,decide_true,hres,hbad hgo]
  ·simp only[↓Sh.dn,sx,reduceCtorEq,Nat.reduceEqDiff,f0,f3,hix,A1a,hlt,e33,e126,e60,e62,h1,h2,h3,h4,decide_true,hres,hbad hgo]
  ·simp only[↓Sh.dn,sx,reduceCtorEq,Nat.reduceEqDiff,f0,f3,hix,A1a,hlt,e33,e126,e60,e62,h1,h2,h3,h4,decide_true,hres]
   exact k _ _ hlt ⟨rfl,by simp only[sx,reduceCtorEq,f0],by simp only[sx,wrap_succ hlt hl],hstep hgo⟩
 ·have hin:i=x.size:=by omega
  subst hin;rw[←hsz,List.take_length]at hall;have e1:decide ((1:Int)≤((x.size:Nat):Int))=decide (1≤x.size):=by by_cases h:1≤x.size<;>simp[h]<;>omega
  have e16:decide (((x.size:Nat):Int)≤16)=decide (x.size≤16):=by by_cases h:x.size≤16<;>simp[h]<;>omega
  cases h1:decide (1≤x.size) <;>
   simp only[↓Sh.dn,sx,reduceCtorEq,Nat.reduceEqDiff,f0,f3,A1a,hlt,e1,e16,h1,decide_false,reduceCtorEq,hres] <;>
   simp[A5u,hall,h1]
theorem B6s{H:AH}{v:Value}{l:List ByteArray}(hs:Sl H v 1 (l.map A7a))(hl:l.length≤1048576)(hlx:∀x∈l,x.size≤1048576)(hw:Wf H):
  Sh.Call Tryz.prog (knows 7) 47 [v] H (fun r H'=>H'=H∧r=.bool (l.all A5u)):=by
 refine A3a rfl Tryz.func47 rfl (Nat.le_of_ble_eq_true rfl) ?_;have hres:Tryz.f47.results.toList=[.tmp 2]:=rfl;have hlen:=hs.len Tryz.underlying22 H;simp only[↓Sh.dn,sx];refine A2y l.length (fun i F H'=>H'=H∧F.get 0=some v∧F.get 3=some (.int .i64 (i:Int))∧(l.take i).all A5u=true) (Nat.zero_le _) ⟨rfl,by simp only[sx,reduceCtorEq],by simp only[sx];rfl,rfl⟩ ?_;rintro i F H' hi ⟨rfl,f0,f3,hall⟩ k;by_cases hlt:i<l.length
 ·obtain⟨g,o,kk,hia,hc,hcc⟩:=hs.at Tryz.underlying22 A4i (i:=i) (x:=A7a l[i]) (by simp[hlt]) .i64
  have hy:=hcc 0 _ rfl;simp only[Nat.add_zero]at hy;obtain⟨r,H1,hd,rfl,rfl⟩:=isSymbol (H:=H') (x:=l[i]) (hlx _ (List.getElem_mem hlt)) hw;simp only[↓Sh.dn,sx,reduceCtorEq,Nat.reduceEqDiff,f0,f3,hlen,hia,hy,List.length_map,A1a,hlt,decide_true,reduceCtorEq,hres];refine⟨_,_,hd,?_⟩;cases hsy:A5u l[i] with
  | false=>
   have:l.all A5u=false:=by
    rw[List.all_eq_false];exact⟨_,List.getElem_mem hlt,by simp[hsy]⟩
   simp only[↓Sh.dn,sx,this]
  | true=>
   simp only[↓Sh.dn,sx,Nat.reduceEqDiff,f3];refine k _ _ hlt ⟨rfl,by simp only[sx,reduceCtorEq,f0],by simp only[sx,wrap_succ hlt hl],?_⟩;rw[List.take_add_one,List.getElem?_eq_getElem hlt];simp only[Option.toList,List.all_append,hall,List.all_cons,List.all_nil,Bool.and_true,hsy]
 ·have hin:i=l.length:=by omega
  subst hin;rw[List.take_length]at hall;simp only[↓Sh.dn,sx,reduceCtorEq,Nat.reduceEqDiff,f0,f3,hlen,List.length_map,A1a,hlt,decide_false,reduceCtorEq,hres];rw[hall]
def ascB:List ByteArray→Bool
 | x :: y :: l=>A3b x y&&ascB (y :: l)
 | _=>true
theorem A41:∀{l:List ByteArray},ascB l=true↔∀(i:Nat) x y,l[i]?=some x→l[i+1]?=some y→A3b x y=true
 | []=>by simp[ascB]
 | [a]=>by simp[ascB]
 | a :: b :: l=>by
  simp only[ascB,Bool.and_eq_true,A41 (l:=b :: l)];constructor
  ·rintro⟨h1,h2⟩ i x y hx hy
   cases i with
   | zero=>simp only[List.getElem?_cons_zero,List.getElem?_cons_succ,Option.some.injEq]at hx hy;subst hx hy;exact h1
   | succ i=>exact h2 i x y (by simpa using hx) (by simpa using hy)
  ·intro h
   exact⟨h 0 a b rfl rfl,fun i x y hx hy=>h (i+1) x y (by simpa using hx) (by simpa using hy)⟩
theorem asc_of{l:List ByteArray}(h:ascB l=true):Asc l:=by
 rw[A41]at h;intro i j x y hij hx hy;obtain⟨d,rfl⟩:∃d,j=i+1+d:=⟨j-i-1,by omega⟩
 induction d generalizing y with
 | zero=>exact h i x y hx hy
 | succ d ih=>
  have hjl:=(List.getElem?_eq_some_iff.1 hy).1;have hz:l[i+1+d]?=some (l[i+1+d]'(by omega)):=List.getElem?_eq_getElem (by omega);exact A4o (ih _ (by omega) hz) (h _ _ _ hz hy)
theorem isSet{H:AH}{v:Value}{l:List ByteArray}(hs:Sl H v 1 (l.map A7a))(hl:l.length≤1048576)(hw:Wf H):
  Sh.Call Tryz.prog (knows 7) 113 [v] H (fun r H'=>H'=H∧r=.bool (ascB l)):=by
 refine A3a rfl Tryz.func113 rfl (Nat.le_of_ble_eq_true rfl) ?_;have hres:Tryz.f113.results.toList=[.tmp 2]:=rfl;have hlen:=hs.len Tryz.underlying22 H;simp only[↓Sh.dn,sx];refine A5b (fun m F H'=>H'=H∧∃i:Nat,m=l.length-i∧1≤i∧F.get 0=some v∧F.get 3=some (.int .i64 (i:Int))∧(∀(j:Nat) x y,j+1<i→l[j]?=some x→l[j+1]?=some y→A3b x y=true)) (m:=l.length-1) ⟨rfl,1,rfl,Nat.le_refl _,by simp only[sx,reduceCtorEq],by simp only[sx];rfl,fun j x y h=>by omega⟩ ?_;rintro m F H' ⟨rfl,i,rfl,h1,f0,f3,hall⟩ k;by_cases hlt:i<l.length
 ·obtain⟨g,o,kk,hia,hc,hcc⟩:=hs.at Tryz.underlying22 A4i (i:=i) (x:=A7a l[i]) (by simp[hlt]) .i64
  have hy:=hcc 0 _ rfl;obtain⟨g',o',kk',hia',hc',hcc'⟩:=hs.at Tryz.underlying22 A4i (i:=i-1) (x:=A7a (l[i-1]'(by omega))) (by simp[List.getElem?_eq_getElem (show i-1<l.length by omega)]) .i64;have hy':=hcc' 0 _ rfl;have hw1:IntKind.wrap .i64 ((i:Int)-1)=((i-1:Nat):Int):=by rw[wrap64 (by omega) (by omega)];omega
  simp only[Nat.add_zero]at hy hy';simp only[↓Sh.dn,sx,reduceCtorEq,Nat.reduceEqDiff,↓Sh.wp_cond,f0,f3,hlen,hia,hia',hy,hy',hw1,List.length_map,A1a,hlt,decide_true,reduceCtorEq,hres,Bool.not_eq_true',Bool.not_eq_false'];have hx1:l[i-1]?=some (l[i-1]'(by omega)):=List.getElem?_eq_getElem (by omega);have hx2:l[i-1+1]?=some l[i]:=by rw[show i-1+1=i by omega];exact List.getElem?_eq_getElem hlt
  refine⟨fun h=>?_,fun h=>k (l.length-(i+1)) _ _ (by omega) ⟨rfl,i+1,rfl,by omega,by simp only[sx,reduceCtorEq,f0],by simp only[sx,wrap_succ hlt hl],fun j x y hj hx hy=>?_⟩⟩
  ·have : ascB l = false := by
     cases hb : ascB l with
     | false => rfl
     | true => rw[A41.1 hb _ _ _ hx1 hx2]at h;cases h
   rw[this]
  ·by_cases hji:j+1<i
   ·exact hall j x y hji hx hy
   ·have:j=i-1:=by omega
    subst this;rw[hx1]at hx;rw[hx2]at hy;rw[←Option.some.inj hx,←Option.some.inj hy];exact h
 ·simp only[↓Sh.dn,sx,reduceCtorEq,Nat.reduceEqDiff,↓Sh.wp_cond,f0,f3,hlen,List.length_map,A1a,hlt,decide_false,reduceCtorEq,hres]
  have:ascB l=true:=A41.2 fun j x y hx hy=>hall j x y (by have:=(List.getElem?_eq_some_iff.1 hy).1;omega) hx hy;rw[this]
def A6k(l:List ByteArray):Bool:=l.any fun s=>decide (16<s.size)
def A0l(l:List ByteArray):Int:=if (decide (40<l.length)||A6k l)=true then 3 else if (l.all A5u&&ascB l)=true then 0 else 1
theorem refSigma{H:AH}{v:Value}{l:List ByteArray}(hs:Sl H v 1 (l.map A7a))(hl:l.length≤1048576)(hlx:∀x∈l,x.size≤1048576)(hw:Wf H):
  Sh.Call Tryz.prog (knows 7) 85 [v] H (fun r H'=>Kept H H'∧r=.int .i64 (A0l l)):=by
 refine A3a rfl Tryz.func85 rfl (Nat.le_of_ble_eq_true rfl) ?_;have hres:Tryz.f85.results.toList=[.tmp 2]:=rfl;have hlen:=hs.len Tryz.underlying22 H;have e40:decide ((40:Int)<((l.length:Nat):Int))=decide (40<l.length):=by by_cases h:40<l.length<;>simp[h]<;>omega
 simp only[↓Sh.dn,sx,reduceCtorEq,hlen,List.length_map,e40];by_cases h40:40<l.length
 ·simp only[↓Sh.dn,sx,Nat.reduceEqDiff,h40,decide_true,hres,A0l,Kept.refl hw]
 ·simp only[↓Sh.dn,sx,reduceCtorEq,Nat.reduceEqDiff,h40,decide_false]
  obtain⟨r1,H1,hd1,hk1,rfl⟩:=C45 hs hl hw;refine⟨_,_,hd1,?_⟩;cases hL:(l.any fun s=>decide (16<s.size)) with
  | true=>simp only[↓Sh.dn,sx,hres,hL,A0l,A6k,h40,decide_false,hk1]
  | false=>
   simp only[↓Sh.dn,sx,reduceCtorEq,reduceCtorEq];obtain⟨r2,H2,hd2,rfl,rfl⟩:=B6s (hs.grow (hk1.grow hw)) hl hlx hk1.wf;refine⟨_,_,hd2,?_⟩;cases hA:l.all A5u with
   | false=>simp only[↓Sh.dn,sx,Nat.reduceEqDiff,hres,hL,hA,A0l,A6k,h40,decide_false,hk1]
   | true=>
    obtain⟨r3,H3,hd3,rfl,rfl⟩:=isSet (hs.grow (hk1.grow hw)) hl hk1.wf;simp only[↓Sh.dn,sx,reduceCtorEq,Nat.reduceEqDiff,reduceCtorEq];refine⟨_,_,hd3,?_⟩;cases hS:ascB l with
    | true=>simp only[↓Sh.dn,sx,hres,hL,hA,hS,A0l,A6k,h40,decide_false,hk1]
    | false=>simp only[↓Sh.dn,sx,hres,hL,hA,hS,A0l,A6k,h40,decide_false,hk1]
theorem half(a b:Nat)(h:a+b<2097152):A5m false .u64 (IntKind.wrap .u64 (IntKind.wrap .i64 ((a:Int)+(b:Int)))) 1=some (.int .u64 (((a+b)/2:Nat):Int)):=by
 rw[wrap64 (by omega) (by omega)];have e:IntKind.wrap .u64 ((a:Int)+(b:Int))=((a+b:Nat):Int):=by
  simp only[IntKind.wrap];simp[IntKind.bits,IntKind.signed];omega
 rw[e];simp only[A5m,A9l];simp[IntKind.bits,Int.fdiv_eq_ediv]
theorem search{H:AH}{n fid:Nat}{caps:List Value}(p:Nat→Bool)(hn:n≤1048576)(hp:∀i,i<n→Sh.Call Tryz.prog (knows 7) fid (.int .i64 (i:Int) :: caps) H (fun r H'=>r=.bool (p i)∧H'=H))(hm:∀a b,a≤b→b<n→p a=true→p b=true)(hw:Wf H):
  Sh.Call Tryz.prog (knows 7) 125 [.int .i64 (n:Int),.func (.func fid) #[] caps.toArray] H (fun r H'=>H'=H∧∃k:Nat,r=.int .i64 (k:Int)∧k≤n∧(∀i,i<k→p i=false)∧(∀i,k≤i→i<n→p i=true)):=by
 refine A3a rfl Tryz.func125 rfl (Nat.le_of_ble_eq_true rfl) ?_;have hres:Tryz.f125.results.toList=[.tmp 4]:=rfl;simp only[↓Sh.dn,sx,reduceCtorEq,Nat.reduceEqDiff];refine A5b (fun m F H'=>H'=H∧∃a b:Nat,m=b-a∧a≤b∧b≤n∧F.get 5=some (.int .i64 (a:Int))∧F.get 6=some (.int .i64 (b:Int))∧F.get 1=some (.func (.func fid) #[] caps.toArray)∧(∀i,i<a→p i=false)∧(∀i,b≤i→i<n→p i=true)) (m:=n) ⟨rfl,0,n,by omega,by omega,by omega,by simp only[sx,Nat.reduceEqDiff];rfl,by simp only[sx],by simp only[sx,Nat.reduceEqDiff],fun i h=>by omega,fun i h1 h2=>by omega⟩ ?_;rintro m F H' ⟨rfl,a,b,rfl,hab,hbn,f5,f6,f1,hlo,hhi⟩ k;by_cases hlt:a<b
 ·obtain⟨r,H1,hd,rfl,rfl⟩:=hp ((a+b)/2) (by omega)
  have hw2:IntKind.wrap .i64 (((a+b)/2:Nat):Int)=(((a+b)/2:Nat):Int):=wrap64 (by omega) (by omega);simp only[↓Sh.dn,sx,Nat.reduceEqDiff,f5,f6,f1,A1a,hlt,decide_true,C4u,half a b (by omega),hw2];refine⟨_,_,hd,?_⟩;cases hpv:p ((a+b)/2) with
  | false=>
   have hw3:IntKind.wrap .i64 ((((a+b)/2:Nat):Int)+1)=(((a+b)/2+1:Nat):Int):=wrap_succ (n:=n) (by omega) hn;simp only[↓Sh.dn,sx,Nat.reduceEqDiff,hw3];refine k (b-((a+b)/2+1)) _ _ (by omega) ⟨rfl,(a+b)/2+1,b,rfl,by omega,hbn,by simp only[sx],by simp only[sx,Nat.reduceEqDiff,f6],by simp only[sx,Nat.reduceEqDiff,f1],fun i hi=>?_,hhi⟩;cases hpi:p i with
   | false=>rfl
   | true=>rw[hm i ((a+b)/2) (by omega) (by omega) hpi]at hpv;cases hpv
  | true=>
   simp only[↓Sh.dn,sx,Nat.reduceEqDiff];exact k ((a+b)/2-a) _ _ (by omega) ⟨rfl,a,(a+b)/2,rfl,by omega,by omega,by simp only[sx,Nat.reduceEqDiff,f5],by simp only[sx],by simp only[sx,Nat.reduceEqDiff,f1],hlo,fun i h1 h2=>hm _ i h1 h2 hpv⟩
 ·have hab':a=b:=by omega
  subst hab';simp only[↓Sh.dn,sx,Nat.reduceEqDiff,f5,f6,A1a,hlt,decide_false,hres];exact⟨a,rfl,hbn,hlo,hhi⟩
theorem searchAt{H:AH}{g1 o1 k1 g2 o2 k2 i:Nat}{v:Value}{x y:ByteArray}{l:List ByteArray}(h1:H.cell ⟨g1,o1,some k1⟩=some v)(h2:H.cell ⟨g2,o2,some k2⟩=some (.string x))(hs:Sl H v 1 (l.map A7a))(hi:l[i]?=some y)(hw:Wf H):
  Sh.Call Tryz.prog (knows 7) 126 [.int .i64 (i:Int),.pointer (some ⟨g1,o1,some k1⟩),.pointer (some ⟨g2,o2,some k2⟩)] H (fun r H'=>r=.bool (!A3b y x)∧H'=H):=by
 refine A3a rfl Tryz.func126 rfl (Nat.le_of_ble_eq_true rfl) ?_;have hres:Tryz.f126.results.toList=[.tmp 4]:=rfl;obtain⟨g,o,kk,hia,hc,hcc⟩:=hs.at Tryz.underlying22 A4i (i:=i) (x:=A7a y) (by simp[hi]) .i64;have hy:=hcc 0 _ rfl;simp only[Nat.add_zero]at hy;simp only[↓Sh.dn,sx,reduceCtorEq,Nat.reduceEqDiff,h1,h2,hia,hy,hres]
theorem B8v{H:AH}{v:Value}{x:ByteArray}{l:List ByteArray}(hs:Sl H v 1 (l.map A7a))(ha:Asc l)(hl:l.length≤1048576)(hw:Wf H):
  Sh.Call Tryz.prog (knows 7) 114 [v,.string x] H (fun r H'=>Kept H H'∧∃k:Nat,r=.int .i64 (k:Int)∧k≤l.length∧(∀(i:Nat) y,i<k→l[i]?=some y→A3b y x=true)∧(∀(i:Nat) y,k≤i→l[i]?=some y→A3b y x=false)):=by
 refine A3a rfl Tryz.func114 rfl (Nat.le_of_ble_eq_true rfl) ?_;have hres:Tryz.f114.results.toList=[.tmp 4]:=rfl;have hn1:=A0t (P:=Tryz.prog) (H:=H) (t:=22) A6t hs.isCell;have hk1:=Kept.new hw 1 [v];have hO1:=Obj.new (H:=H) 1 [v];have hn2:=A0t (P:=Tryz.prog) (H:=(H.new 1 [v]).2) (t:=9) (v:=.string x) A4i rfl;have hk2:=hk1.trans (Kept.new hk1.wf 1 [.string x]);have hO2:=Obj.new (H:=(H.new 1 [v]).2) 1 [.string x];have hO1':Sh.Obj ((H.new 1 [v]).2.new 1 [.string x]).2 H.next 1 [v] true:=by
  unfold Sh.Obj;rw[C2c (by rw[new_nx];omega)];exact hO1
 simp only[↓Sh.dn,sx,Nat.reduceEqDiff,hn1,hn2];have hx1:(H.new 1 [v]).2.next=H.next+1:=rfl;rw[hx1]at hO2 ⊢;generalize ((H.new 1 [v]).2.new 1 [.string x]).2=H2 at hO1' hO2 hk2 ⊢;have c1:H2.cell ⟨H.next,0,some 0⟩=some v:=hO1'.cell;have c2:H2.cell ⟨H.next+1,0,some 0⟩=some (.string x):=hO2.cell;have hs2:=hs.grow (hk2.grow hw);have hlen:=hs2.len Tryz.underlying22 H2;simp only[c1,hlen,List.length_map,sx];obtain⟨r,H3,hd,rfl,k,rfl,hk,hlo,hhi⟩:=search (H:=H2) (n:=l.length) (caps:=[.pointer (some ⟨H.next,0,some 0⟩),.pointer (some ⟨H.next+1,0,some 0⟩)]) (fid:=126) (fun i=>match l[i]? with|some y=>!A3b y x|none=>true) hl
  (fun i hi=>by
   have hy:l[i]?=some (l[i]'hi):=List.getElem?_eq_getElem hi;simp only[hy];exact searchAt c1 c2 hs2 hy hk2.wf)
  (fun a b hab hb=>by
   have hya:l[a]?=some (l[a]'(by omega)):=List.getElem?_eq_getElem (by omega);have hyb:l[b]?=some (l[b]'hb):=List.getElem?_eq_getElem hb;simp only[hya,hyb,Bool.not_eq_true'];intro h;rcases Nat.lt_or_ge a b with hlt|hge
   ·cases h2:A3b l[b] x with
    | false=>rfl
    | true=>rw[A4o (ha a b _ _ hlt hya hyb) h2]at h;cases h
   ·have:a=b:=by omega
    subst this;exact h) hk2.wf
 refine⟨_,_,hd,?_⟩;simp only[sx,hres];refine⟨hk2,k,rfl,hk,fun i y hi hy=>?_,fun i y hi hy=>?_⟩
 ·have:=hlo i hi
  simpa [hy] using this
 ·have hil:=(List.getElem?_eq_some_iff.1 hy).1
  have:=hhi i hi hil
  simpa [hy] using this
theorem isIn{H:AH}{v:Value}{x:ByteArray}{l:List ByteArray}(hs:Sl H v 1 (l.map A7a))(ha:Asc l)(hl:l.length≤1048576)(hw:Wf H):
  Sh.Call Tryz.prog (knows 7) 86 [v,.string x] H (fun r H'=>Kept H H'∧r=.bool (A3n l x)):=by
 refine A3a rfl Tryz.func86 rfl (Nat.le_of_ble_eq_true rfl) ?_;have hres:Tryz.f86.results.toList=[.tmp 4]:=rfl;obtain⟨r,H1,hd,hk1,k,rfl,hk,hlo,hhi⟩:=B8v hs ha hl hw (x:=x);have hp:=B26 ha x hlo hhi;simp only[↓Sh.dn,sx,reduceCtorEq,Nat.reduceEqDiff];refine⟨_,_,hd,?_⟩;have hs1:=hs.grow (hk1.grow hw);have hlen:=hs1.len Tryz.underlying22 H1;by_cases hlt:k<l.length
 ·have hy:l[k]?=some (l[k]'hlt):=List.getElem?_eq_getElem hlt
  obtain⟨g,o,kk,hia,hc,hcc⟩:=hs1.at Tryz.underlying22 A4i (i:=k) (x:=A7a l[k]) (by simp[hlt]) .i64;have hyc:=hcc 0 _ rfl;simp only[Nat.add_zero]at hyc;simp only[↓Sh.dn,sx,reduceCtorEq,Nat.reduceEqDiff,hlen,List.length_map,A1a,hlt,decide_true,hia,hyc,hres];refine⟨hk1,?_⟩;have:decide (l[k]=x)=A3n l x:=by
   rw[Bool.eq_iff_iff,decide_eq_true_eq,A3h,←hp,hy,Option.some.injEq]
  rw[this]
 ·simp only[↓Sh.dn,sx,Nat.reduceEqDiff,hlen,List.length_map,A1a,hlt,decide_false,hres]
  refine⟨hk1,?_⟩;have:A3n l x=false:=by
   cases h:A3n l x with
   | false=>rfl
   | true=>
    have:=hp.2 (A3h.1 h);rw[List.getElem?_eq_none (by omega)]at this;cases this
  rw[this]
def A5j(N:NetD)(s:ByteArray):Bool:=!decide (s=⟨#[]⟩)&&!A3n N.sigma s
def A2h(N:NetD)(a:ArcD):Bool:=decide (a.fr<0)||decide (N.states≤a.fr)||decide (a.to<0)||decide (N.states≤a.to)||A5j N a.inn||A5j N a.out
def A1s(N:NetD)(e:EndD):Bool:=decide (e.state<0)||decide (N.states≤e.state)
def A2n(N:NetD):Bool:=decide (3000<N.states)||decide (60000<N.arcs.length)||decide (60000<N.ends.length)
def A2g(N:NetD):Int:=if A2n N=true then 3 else if A0l N.sigma≠0 then A0l N.sigma else if N.states<1 then 1 else if N.arcs.any (A2h N)=true then 1 else if N.ends.any (A1s N)=true then 1 else 0
theorem A58{l:List ByteArray}(h:A0l l=0):Asc l:=by
 unfold A0l at h;split at h
 ·cases h
 ·split at h
  ·rename_i h1
   simp only[Bool.and_eq_true]at h1;exact asc_of h1.2
  ·cases h
theorem C7a{H:AH}{v:Value}{N:NetD}(h:A8v H v N)(hsm:A3g N)(hw:Wf H):
  Sh.Call Tryz.prog (knows 7) 44 [v] H (fun r H'=>Kept H H'∧r=.int .i64 (A2g N)):=by
 refine A3a rfl Tryz.func44 rfl (Nat.le_of_ble_eq_true rfl) ?_;have hres:Tryz.f44.results.toList=[.tmp 2]:=rfl;obtain⟨sg,ar,en,rfl,hsg,har,hen⟩:=h;have hb1:=NetBox.of (N:=N) hw hsg har hen;have hk1:Kept H (H.new 4 [sg,.int .i64 N.states,ar,en]).2:=Kept.new hw 4 _;have eA:decide ((60000:Int)<(N.arcs.length:Int))=decide (60000<N.arcs.length):=decide_eq_decide.2 (by omega);have eE:decide ((60000:Int)<(N.ends.length:Int))=decide (60000<N.ends.length):=decide_eq_decide.2 (by omega);simp only[↓Sh.dn,sx,Nat.reduceEqDiff,A3u hsg.isCell har.isCell hen.isCell];generalize hg:H.next=gg at hb1 ⊢;generalize (H.new 4 [sg,.int .i64 N.states,ar,en]).2=H1 at hb1 hk1 ⊢;simp only[sx,hb1.c1];by_cases hA:3000<N.states
 ·simp only[↓Sh.dn,sx,Nat.reduceEqDiff,hA,decide_true,hres,A2g,A2n,hk1]
 by_cases hB:60000<N.arcs.length
 ·simp only[↓Sh.dn,sx,Nat.reduceEqDiff,hb1.c2,A2o hb1,hA,eA,hB,decide_true,decide_false,hres,A2g,A2n,hk1]
 by_cases hC:60000<N.ends.length
 ·simp only[↓Sh.dn,sx,Nat.reduceEqDiff,hb1.c2,hb1.c3,A2o hb1,A4t hb1,hA,eA,eE,hB,hC,decide_true,decide_false,hres,A2g,A2n,hk1]
 have hT:A2n N=false:=by simp[A2n,hA,hB,hC]
 simp only[↓Sh.dn,sx,Nat.reduceEqDiff,hb1.c0,hb1.c2,hb1.c3,A2o hb1,A4t hb1,hA,eA,eE,hB,hC,decide_false,hres];obtain⟨r,H2,hd,hk2,rfl⟩:=refSigma hb1.hsg hsm.sg hsm.sx hk1.wf;refine⟨_,_,hd,?_⟩;have hb2:=hb1.kept hk1.wf hk2;have hk12:=hk1.trans hk2;by_cases hS:A0l N.sigma=0
 case neg=>simp only[↓Sh.dn,sx,Nat.reduceEqDiff,hS,decide_false,A2g,hT,hk12]
 have hasc:=A58 hS;simp only[↓Sh.dn,sx,Nat.reduceEqDiff,hS,decide_true,hb2.c1];by_cases hst:N.states<1
 ·simp only[↓Sh.dn,sx,hst,decide_true,A2g,hT,hS,hk12]
 simp only[↓Sh.dn,sx,hst,decide_false];have e1:N.arcs.any (A2h N)=true→A2g N=1:=by intro h;simp[A2g,hT,hS,hst,h]
 have e2:N.ends.any (A1s N)=true→A2g N=1:=by intro h;simp[A2g,hT,hS,hst,h]
 have e3:N.arcs.any (A2h N)=false→N.ends.any (A1s N)=false→A2g N=0:=by intro h h';simp[A2g,hT,hS,hst,h,h']
 refine A5c N.arcs.length 4 (List.range' 4 87++[2]) (fun i F H'=>Kept H2 H'∧(N.arcs.take i).any (A2h N)=false) (by simp only[sx]) ⟨Kept.refl hk12.wf,rfl⟩ ?_ ?_
 ·rintro i F H' hlt hF f4 ⟨hk,hall⟩ k
  have f1:=hF 1 rfl;simp only[sx,Nat.reduceEqDiff]at f1;have hb':=hb2.kept hk12.wf hk;have hb3:=hb'.new hk.wf 5 (N.arcs[i].cells);have hk3:=hk.news 5 (N.arcs[i].cells);obtain⟨g,o,kk,hia,hc,hcc⟩:=hb'.har.at Tryz.underlying23 A7q (i:=i) (x:=N.arcs[i].cells) (by simp[hlt]) .i64;clear hcc;have hin:N.arcs[i]∈N.arcs:=List.getElem_mem hlt;have hnext:A2h N N.arcs[i]=false→(N.arcs.take (i+1)).any (A2h N)=false:=by
   intro h;rw[List.take_add_one,List.getElem?_eq_getElem hlt];simp only[Option.toList,List.any_append,hall,List.any_cons,List.any_nil,h,Bool.or_false]
  have hbad:A2h N N.arcs[i]=true→A2g N=1:=fun h=>e1 (List.any_eq_true.2 ⟨_,hin,h⟩);generalize N.arcs[i]=a at hb3 hk3 hc hnext hbad;have hi2:=isIn (x:=a.inn) hb3.hsg hasc hsm.sg hk3.wf;simp only[↓Sh.dn,sx,Nat.reduceEqDiff,hb'.c2,A2o hb',A18,A51,A67,arc0,f1,f4,A1a,hlt,decide_true,hia,hc];by_cases h1:a.fr<0
  ·simp only[↓Sh.dn,sx,Nat.reduceEqDiff,h1,decide_true,hbad (by simp[A2h,h1]),hk12.trans hk3]
  simp only[↓Sh.dn,sx,Nat.reduceEqDiff,hb3.c1,arc0,f1,h1,decide_false];by_cases h2:N.states≤a.fr
  ·simp only[↓Sh.dn,sx,Nat.reduceEqDiff,h2,decide_true,hbad (by simp[A2h,h2]),hk12.trans hk3]
  simp only[↓Sh.dn,sx,Nat.reduceEqDiff,arc3,h2,decide_false];by_cases h3:a.to<0
  ·simp only[↓Sh.dn,sx,Nat.reduceEqDiff,h3,decide_true,hbad (by simp[A2h,h3]),hk12.trans hk3]
  simp only[↓Sh.dn,sx,Nat.reduceEqDiff,hb3.c1,arc3,f1,h3,decide_false];by_cases h4:N.states≤a.to
  ·simp only[↓Sh.dn,sx,Nat.reduceEqDiff,h4,decide_true,hbad (by simp[A2h,h4]),hk12.trans hk3]
  simp only[↓Sh.dn,sx,Nat.reduceEqDiff,arc1,h4,decide_false];have hgo:A5j N a.inn=false→A5j N a.out=false→A2h N a=false:=by intro h h';simp[A2h,h1,h2,h3,h4,h,h']
  have hout:∀(H4:AH) (F4:Fr),Kept (H'.new 5 a.cells).2 H4→A5j N a.inn=false→True:=fun _ _ _ _=>trivial;by_cases h5:a.inn=⟨#[]⟩
  ·have hI:A5j N a.inn=false:=by simp[A5j,h5]
   simp only[↓Sh.dn,sx,Nat.reduceEqDiff,arc2,h5,decide_true];by_cases h6:a.out=⟨#[]⟩
   ·have hO:A5j N a.out=false:=by simp[A5j,h6]
    simp only[↓Sh.dn,sx,Nat.reduceEqDiff,f4,h6,decide_true,wrap_succ hlt hsm.ar];exact k _ _ (by repeat (first|refine Same.put ?_ rfl|exact Same.rfl' _)) (by simp only[sx]) ⟨hk3,hnext (hgo hI hO)⟩
   ·obtain⟨r,H4,hd4,hk4,rfl⟩:=isIn (x:=a.out) hb3.hsg hasc hsm.sg hk3.wf
    simp only[↓Sh.dn,sx,Nat.reduceEqDiff,hb3.c0,arc2,f1,h6,decide_false];refine⟨_,_,hd4,?_⟩;cases h7:A3n N.sigma a.out with
    | true=>
     have hO:A5j N a.out=false:=by simp[A5j,h7]
     simp only[↓Sh.dn,sx,Nat.reduceEqDiff,f4,wrap_succ hlt hsm.ar];exact k _ _ (by repeat (first|refine Same.put ?_ rfl|exact Same.rfl' _)) (by simp only[sx]) ⟨hk3.trans hk4,hnext (hgo hI hO)⟩
    | false=>
     simp only[↓Sh.dn,sx,hbad (by simp[A2h,A5j,h6,h7]),(hk12.trans hk3).trans hk4]
  ·obtain⟨r,H4,hd4,hk4,rfl⟩:=isIn (x:=a.inn) hb3.hsg hasc hsm.sg hk3.wf
   simp only[↓Sh.dn,sx,Nat.reduceEqDiff,hb3.c0,arc1,f1,h5,decide_false];refine⟨_,_,hd4,?_⟩;have hb4:=hb3.kept hk3.wf hk4;have q2:=A8b (hk4.grow hk3.wf) (arc2 (H:=H') (a:=a));cases h7:A3n N.sigma a.inn with
   | false=>
    simp only[↓Sh.dn,sx,Nat.reduceEqDiff,hbad (by simp[A2h,A5j,h5,h7]),(hk12.trans hk3).trans hk4]
   | true=>
    have hI:A5j N a.inn=false:=by simp[A5j,h7]
    simp only[↓Sh.dn,sx,Nat.reduceEqDiff,q2];by_cases h6:a.out=⟨#[]⟩
    ·have hO:A5j N a.out=false:=by simp[A5j,h6]
     simp only[↓Sh.dn,sx,Nat.reduceEqDiff,f4,h6,decide_true,wrap_succ hlt hsm.ar];exact k _ _ (by repeat (first|refine Same.put ?_ rfl|exact Same.rfl' _)) (by simp only[sx]) ⟨hk3.trans hk4,hnext (hgo hI hO)⟩
    ·obtain⟨r,H5,hd5,hk5,rfl⟩:=isIn (x:=a.out) hb4.hsg hasc hsm.sg hk4.wf
     simp only[↓Sh.dn,sx,Nat.reduceEqDiff,hb4.c0,q2,f1,h6,decide_false];refine⟨_,_,hd5,?_⟩;cases h8:A3n N.sigma a.out with
     | true=>
      have hO:A5j N a.out=false:=by simp[A5j,h8]
      simp only[↓Sh.dn,sx,Nat.reduceEqDiff,f4,wrap_succ hlt hsm.ar];exact k _ _ (by repeat (first|refine Same.put ?_ rfl|exact Same.rfl' _)) (by simp only[sx]) ⟨(hk3.trans hk4).trans hk5,hnext (hgo hI hO)⟩
     | false=>
      simp only[↓Sh.dn,sx,hbad (by simp[A2h,A5j,h6,h8]),((hk12.trans hk3).trans hk4).trans hk5]
 ·rintro F H' hF f4 ⟨hk,hall⟩
  have f1:=hF 1 rfl;simp only[sx,Nat.reduceEqDiff]at f1;rw[List.take_length]at hall;have hb':=hb2.kept hk12.wf hk;have hkk:=hk12.trans hk;simp only[↓Sh.dn,sx,Nat.reduceEqDiff,hb'.c2,A2o hb',f1,f4,A1a,Nat.lt_irrefl,decide_false];refine A5c N.ends.length 6 (List.range' 91 26++[2,6]) (fun i F H''=>H''=H'∧(N.ends.take i).any (A1s N)=false) (by simp only[sx]) ⟨rfl,rfl⟩ ?_ ?_
  ·rintro i F2 H'' hlt hF2 f6 ⟨rfl,hall2⟩ k
   have g1:=hF2 1 rfl;simp only[sx,Nat.reduceEqDiff,f1]at g1;obtain⟨g,o,kk,hia,hc,hcc⟩:=hb'.hen.at Tryz.underlying24 A7v (i:=i) (x:=N.ends[i].cells) (by simp[hlt]) .i64;have q0:=hcc 0 _ rfl;simp only[Nat.add_zero]at q0;have hbad:A1s N N.ends[i]=true→A2g N=1:=fun h=>e2 (List.any_eq_true.2 ⟨_,List.getElem_mem hlt,h⟩);simp only[↓Sh.dn,sx,Nat.reduceEqDiff,hb'.c3,A4t hb',g1,f6,A1a,hlt,decide_true,hia,q0];by_cases h1:N.ends[i].state<0
   ·simp only[↓Sh.dn,sx,Nat.reduceEqDiff,h1,decide_true,hbad (by simp[A1s,h1]),hkk]
   simp only[↓Sh.dn,sx,Nat.reduceEqDiff,hb'.c1,hb'.c3,g1,f6,hia,q0,h1,decide_false];by_cases h2:N.states≤N.ends[i].state
   ·simp only[↓Sh.dn,sx,h2,decide_true,hbad (by simp[A1s,h2]),hkk]
   simp only[↓Sh.dn,sx,Nat.reduceEqDiff,f6,h2,decide_false,wrap_succ hlt hsm.en];refine k _ _ (by repeat (first|refine Same.put ?_ rfl|exact Same.rfl' _)) (by simp only[sx]) ⟨rfl,?_⟩;rw[List.take_add_one,List.getElem?_eq_getElem hlt];simp only[Option.toList,List.any_append,hall2,List.any_cons,List.any_nil,Bool.or_false,A1s,h1,h2,decide_false]
  ·rintro F2 H'' hF2 f6 ⟨rfl,hall2⟩
   have g1:=hF2 1 rfl;simp only[sx,Nat.reduceEqDiff,f1]at g1;rw[List.take_length]at hall2;simp only[↓Sh.dn,sx,Nat.reduceEqDiff,hb'.c3,A4t hb',g1,f6,A1a,Nat.lt_irrefl,decide_false,e3 hall hall2,hkk]
def NetD.free(N:NetD):Bool:=N.arcs.all (fun a=>decide (a.cost=0))&&N.ends.all (fun a=>decide (a.cost=0))
theorem isFree{H:AH}{v:Value}{N:NetD}(h:A8v H v N)(hw:Wf H)(hl:N.arcs.length≤1048576)(hl2:N.ends.length≤1048576):Sh.Call Tryz.prog (knows 7) 45 [v] H (fun r H'=>r=.bool (NetD.free N)∧Kept H H'):=by
 obtain⟨sg,ar,en,rfl,hsg,har,hen⟩:=h;refine A3a rfl Tryz.func45 rfl (Nat.le_of_ble_eq_true rfl) ?_;have hn:=A3q (P:=Tryz.prog) (H:=H) (t:=26) (vs:=[sg,.int .i64 N.states,ar,en]) A0u rfl (by simp[hsg.isCell,har.isCell,hen.isCell,show isCell (.int .i64 N.states)=true from rfl]);have hO:=Obj.new (H:=H) 4 [sg,.int .i64 N.states,ar,en];have hk:Kept H (H.new 4 [sg,.int .i64 N.states,ar,en]).2:=Kept.new hw 4 _;simp only[↓Sh.dn,sx,hn];generalize (H.new 4 [sg,.int .i64 N.states,ar,en]).2=H1 at hO hk ⊢;have c2:H1.cell ⟨H.next,2,some 0⟩=some ar:=hO.cell;have c3:H1.cell ⟨H.next,3,some 0⟩=some en:=hO.cell;have har1:=har.grow (hk.grow hw);have hen1:=hen.grow (hk.grow hw);have l2:=har1.len Tryz.underlying23 H1;have l3:=hen1.len Tryz.underlying24 H1;have hres:Tryz.f45.results.toList=[.tmp 2]:=rfl;refine A2y N.arcs.length (fun i F H'=>H'=H1∧F.get 1=some (.pointer (some ⟨H.next,0,some 0⟩))∧F.get 3=some (.int .i64 (i:Int))∧(N.arcs.take i).all (fun a=>decide (a.cost=0))=true) (Nat.zero_le _) ⟨rfl,by simp only[sx,Nat.reduceEqDiff],by simp only[sx];rfl,rfl⟩ ?_;rintro i F H' hi ⟨rfl,f1,f3,hall⟩ k;by_cases hlt:i<N.arcs.length
 ·have hx:(N.arcs.map ArcD.cells)[i]?=some (N.arcs[i].cells):=by simp[hlt]
  obtain⟨g,o,kk,hia,hc,hcc⟩:=har1.at Tryz.underlying23 A7q hx .i64;have hcost:=hcc 4 _ rfl;simp only[↓Sh.dn,sx,reduceCtorEq,Nat.reduceEqDiff,↓Sh.wp_cond,f1,f3,c2,l2,hia,hcost,List.length_map,A1a,hlt,decide_true,reduceCtorEq,hres,resultsA,one];refine⟨fun hne=>⟨?_,hk⟩,fun he=>k _ _ hlt ⟨rfl,by simp only[sx,Nat.reduceEqDiff,f1],by simp only[sx,wrap_succ hlt hl],?_⟩⟩
  ·have : NetD.free N = false := by
     simp only[NetD.free, Bool.and_eq_false_iff, List.all_eq_false];exact .inl ⟨_, List.getElem_mem hlt, by simpa using hne⟩
   rw[this]
  ·rw[List.take_add_one,List.getElem?_eq_getElem hlt]
   simp only[Option.toList,List.all_append,hall,Bool.true_and,List.all_cons,List.all_nil,Bool.and_true]
   simpa using he
 ·have hin:i=N.arcs.length:=by omega
  subst hin;rw[List.take_length]at hall;simp only[↓Sh.dn,sx,Nat.reduceEqDiff,↓Sh.wp_cond,f1,f3,c2,l2,List.length_map,A1a,hlt,decide_false];refine A2y N.ends.length (fun i F H''=>H''=H'∧F.get 1=some (.pointer (some ⟨H.next,0,some 0⟩))∧F.get 4=some (.int .i64 (i:Int))∧(N.ends.take i).all (fun a=>decide (a.cost=0))=true) (Nat.zero_le _) ⟨rfl,by simp only[sx,Nat.reduceEqDiff,f1],by simp only[sx];rfl,rfl⟩ ?_;clear k;rintro i F H'' hi ⟨rfl,f1,f4,hall2⟩ k;by_cases hlt2:i<N.ends.length
  ·have hx:(N.ends.map EndD.cells)[i]?=some (N.ends[i].cells):=by simp[hlt2]
   obtain⟨g,o,kk,hia,hc,hcc⟩:=hen1.at Tryz.underlying24 A7v hx .i64;have hcost:=hcc 1 _ rfl;simp only[↓Sh.dn,sx,reduceCtorEq,Nat.reduceEqDiff,↓Sh.wp_cond,f1,f4,c3,l3,hia,hcost,List.length_map,A1a,hlt2,decide_true,reduceCtorEq,hres,resultsA,one];refine⟨fun hne=>⟨?_,hk⟩,fun he=>k _ _ hlt2 ⟨rfl,by simp only[sx,Nat.reduceEqDiff,f1],by simp only[sx,wrap_succ hlt2 hl2],?_⟩⟩
   ·have : NetD.free N = false := by
      simp only[NetD.free, Bool.and_eq_false_iff, List.all_eq_false];exact .inr ⟨_, List.getElem_mem hlt2, by simpa using hne⟩
    rw[this]
   ·rw[List.take_add_one,List.getElem?_eq_getElem hlt2]
    simp only[Option.toList,List.all_append,hall2,Bool.true_and,List.all_cons,List.all_nil,Bool.and_true]
    simpa using he
  ·have hin:i=N.ends.length:=by omega
   subst hin;rw[List.take_length]at hall2;simp only[↓Sh.dn,sx,Nat.reduceEqDiff,↓Sh.wp_cond,f1,f4,c3,l3,List.length_map,A1a,hlt2,decide_false,hres,resultsA,one];refine⟨?_,hk⟩;rw[NetD.free,hall,hall2];rfl
structure A1q(N:NetD):Prop where
 st1:1≤N.states
 st2:N.states≤3000
 ar:N.arcs.length≤60000
 en:N.ends.length≤60000
 sig:A0l N.sigma=0
 asc:Asc N.sigma
 sym:∀x∈N.sigma,A5u x=true
 arc:∀a∈N.arcs,0≤a.fr∧a.fr<N.states∧0≤a.to∧a.to<N.states∧(a.inn=⟨#[]⟩∨a.inn∈N.sigma)∧(a.out=⟨#[]⟩∨a.out∈N.sigma)
 fin:∀e∈N.ends,0≤e.state∧e.state<N.states
theorem netOk{N:NetD}(h:A2g N=0):A1q N:=by
 unfold A2g at h;split at h
 ·cases h
 rename_i h1;split at h
 ·rename_i h2;exact absurd h h2
 rename_i h2;split at h
 ·cases h
 rename_i h3;split at h
 ·cases h
 rename_i h4;split at h
 ·cases h
 rename_i h5;simp only[ne_eq,Decidable.not_not]at h2;simp only[A2n,Bool.or_eq_true,decide_eq_true_eq,not_or,Int.not_lt,Nat.not_lt]at h1 h3;have sy:∀x,A5j N x=false→x=⟨#[]⟩∨x∈N.sigma:=by
  intro x hx;simp only[A5j,Bool.and_eq_false_iff,Bool.not_eq_false',decide_eq_true_eq]at hx;rcases hx with h|h
  ·exact .inl h
  ·exact .inr (A3h.1 h)
 have hsym:∀x∈N.sigma,A5u x=true:=by
  have:=h2;unfold A0l at this;split at this
  ·cases this
  split at this
  ·rename_i h6
   rw[Bool.and_eq_true]at h6;exact List.all_eq_true.1 h6.1
  ·cases this
 refine⟨h3,h1.1.1,h1.1.2,h1.2,h2,A58 h2,hsym,fun a ha=>?_,fun e he=>?_⟩
 ·have:¬(A2h N a=true):=fun hb=>h4 (List.any_eq_true.2 ⟨a,ha,hb⟩)
  simp only[A2h,Bool.or_eq_true,decide_eq_true_eq,not_or,Int.not_lt,Int.not_le,Bool.not_eq_true]at this;obtain⟨⟨⟨⟨⟨k1,k2⟩,k3⟩,k4⟩,k5⟩,k6⟩:=this;exact⟨k1,k2,k3,k4,sy _ k5,sy _ k6⟩
 ·have:¬(A1s N e=true):=fun hb=>h5 (List.any_eq_true.2 ⟨e,he,hb⟩)
  simp only[A1s,Bool.or_eq_true,decide_eq_true_eq,not_or,Int.not_lt,Int.not_le]at this;exact this
theorem C7b{H:AH}{v:Value}{l:List (List Value)}(hs:Sl H v 1 l)(hl:l.length≤17179869183)(hw:Wf H):
  Sh.Call Tryz.prog (knows 7) 65 [v] H (fun r H'=>Kept H H'∧∃b,Buf H' 1 r l b∧∀g,b=some g→H.next≤g):=by
 refine A3a rfl Tryz.func65 rfl (Nat.le_of_ble_eq_true rfl) ?_;have hres:Tryz.f65.results.toList=[.tmp 2]:=rfl;obtain⟨a,cap,rfl,h2,h3,h4⟩:=id hs;cases a with
 | none=>
  obtain⟨rfl,rfl⟩:=h3 rfl;simp only[↓Sh.dn,sx,reduceCtorEq,List.length_nil,Option.isNone_none,hres];exact⟨Kept.refl hw,none,.void none,fun g h=>by cases h⟩
 | some a=>
  have hs1:=hs.grow (HGrow.new hw 1 []);have hk1:Kept H (H.new 1 []).2:=Kept.new hw 1 [];obtain⟨v',H',b',e1,e2,e3,e4⟩:=(Buf.void (H:=(H.new 1 []).2) (s:=1) (some ⟨H.next,0,some 0⟩)).append hk1.wf h2;have happ:=C52 (base:=some ⟨H.next,0,some 0⟩) (len:=0) (cap:=0) (hs1.srcKind Tryz.underlying22) hs1.newCells (by omega);have hk2:Kept (H.new 1 []).2 H':=e3.kept fun g hg h=>by cases h
  simp only[↓Sh.dn,sx,reduceCtorEq,Nat.reduceEqDiff,Option.isNone_some,happ,e1,hres];refine⟨hk1.trans hk2,b',by simpa using e2,fun g hg=>?_⟩;rcases e4 with rfl|⟨rfl,_⟩
  ·cases hg
  ·cases hg;exact Nat.le_succ _
theorem cloneStr{H:AH}{v:Value}{l:List (List Value)}(hs:Sl H v 1 l)(hl:l.length≤1048576)(hw:Wf H):
  Sh.Call Tryz.prog (knows 7) 65 [v] H (fun r H'=>Kept H H'∧∃b,Buf H' 1 r l b∧∀g,b=some g→H.next≤g):=C7b hs (Nat.le_trans hl (by decide)) hw
theorem objNew{H:AH}{s:Nat}{vals:List Value}(h:veqs vals vals=true):∀x,(H.new s vals).2.objs.get H.next=some x→B6m x x=true:=by
 intro x hx;have:=Obj.new (H:=H) s vals;unfold Obj at this;rw[this]at hx;injection hx with hx
 subst hx;simp[B6m,rowEq,h]
theorem B83{H:AH}{n:Nat}{z:Value}(hz:veq z z=true):∀x,(H.new 1 (List.replicate n z)).2.objs.get H.next=some x→B6m x x=true:=
 objNew (B1k fun x hx=>by rw[(List.mem_replicate.1 hx).2];exact hz)
theorem A56{H:AH}{v:Value}{l:List ByteArray}{n:Nat}(hs:Sl H v 1 (l.map A7a))(hl:l.length≤1048576)(hn:n≤1048576)(hw:Wf H):
  Sh.Call Tryz.prog (knows 7) 59 [v,.int .i64 (n:Int)] H (fun r H'=>Kept H H'∧∃g,r=.pointer (some ⟨g,0,some 0⟩)∧Gr H' H.next g l (List.replicate n []) (List.replicate n 0) (List.replicate n 0)):=by
 refine A3a rfl Tryz.func59 rfl (Nat.le_of_ble_eq_true rfl) ?_;have hres:Tryz.f59.results.toList=[.tmp 4]:=rfl;have m1:=mk_101 (H:=H) (l:=n) (c:=n) (Nat.le_refl _) (by omega);obtain⟨K1,hK1⟩:∃K,(H.new 1 (List.replicate n (.slice none 0 0))).2=K:=⟨_,rfl⟩
 have k1:=Kept.new hw 1 (List.replicate n (.slice none 0 0));have jg:=Jag.make hw 4 (n:=n) (by omega);rw[hK1]at m1 k1 jg;have m2:=mk_71 (H:=K1) (l:=n) (c:=n) (Nat.le_refl _) (by omega);have k2:=Kept.new k1.wf 1 (List.replicate n (.int .i64 0));have f2:=Buf.fill k1.wf (.int .i64 0) (c:=n) (by omega);obtain⟨K2,hK2⟩:∃K,(K1.new 1 (List.replicate n (.int .i64 0))).2=K:=⟨_,rfl⟩
 rw[hK2]at m2 k2 f2;have m3:=mk_71 (H:=K2) (l:=n) (c:=n) (Nat.le_refl _) (by omega);have k3:=Kept.new k2.wf 1 (List.replicate n (.int .i64 0));have f3:=Buf.fill k2.wf (.int .i64 0) (c:=n) (by omega);obtain⟨K3,hK3⟩:∃K,(K2.new 1 (List.replicate n (.int .i64 0))).2=K:=⟨_,rfl⟩
 rw[hK3]at m3 k3 f3;have x1:H.next<K1.next:=by rw[←hK1];exact Nat.lt_succ_self _
 have x2:K1.next<K2.next:=by rw[←hK2];exact Nat.lt_succ_self _
 have x3:K2.next<K3.next:=by rw[←hK3];exact Nat.lt_succ_self _
 have k123:=(k1.trans k2).trans k3;obtain⟨r,H1,hd,hk,b,hb,hf⟩:=cloneStr (hs.grow (k123.grow hw)) (by simpa using hl) k123.wf;have o1:=B83 (H:=H) (n:=n) (z:=.slice none 0 0) rfl;have o2:=B83 (H:=K1) (n:=n) (z:=.int .i64 0) A9q;have o3:=B83 (H:=K2) (n:=n) (z:=.int .i64 0) A9q;rw[hK1]at o1;rw[hK2]at o2;rw[hK3]at o3;simp only[↓Sh.wp_seq];simp only[↓Sh.dn,sx];refine A05 (fl:=[(0,true),(2,true),(3,false),(4,true),(5,false),(6,true),(7,false),(1,false),(8,true),(9,false),(10,true)]) (by kernel_rfl) (by kernel_rfl) hw ?_;simp only[↓Sh.dn,sx,reduceCtorEq,Nat.reduceEqDiff,wpg,C8b,isEff,A2e,isRead,forall_eq',m1,m2,m3];refine⟨o1,o2,o3,_,_,hd,hk.wf,hk.grow k123.wf,?_⟩;have nw:∀(H:AH) (a b c d:Value),isCell a=true→isCell b=true→isCell c=true→isCell d=true→anew Tryz.prog 103 H (.agg #[a,b,c,d])=some (.pointer (some ⟨H.next,0,some 0⟩),(H.new 4 [a,b,c,d]).2):=
  fun H a b c d ha hb hc hd=>A3q C3p rfl (by simp[ha,hb,hc,hd])
 have bl:∀a b c d:Value,isCell a=true→isCell b=true→isCell c=true→isCell d=true→A3s Tryz.prog 103 [(0,a),(1,b),(2,c),(3,d)]=some (.agg #[a,b,c,d]):=by
  intro a b c d ha hb hc hd;have va:∀xs:Array Value,A6a (.agg xs)=xs.toList:=fun _=>rfl;refine A6m (pl:=[(0,1),(1,1),(2,1),(3,1)]) Tryz.underlying103 B7w (by kernel_rfl) ?_;simp[A12,A4b ha,A4b hb,A4b hc,A4b hd,va,ha,hb,hc,hd,setCells,A3c]
 have cr:=hb.isCell;have q:=nw H1 r (.slice (some ⟨H.next,0,some 0⟩) n n) (.slice (some ⟨K1.next,0,some 0⟩) n n) (.slice (some ⟨K2.next,0,some 0⟩) n n) cr rfl rfl rfl;have oq:=Obj.new (H:=H1) 4 [r,.slice (some ⟨H.next,0,some 0⟩) n n,.slice (some ⟨K1.next,0,some 0⟩) n n,.slice (some ⟨K2.next,0,some 0⟩) n n];have ee:veqs [r,.slice (some ⟨H.next,0,some 0⟩) n n,.slice (some ⟨K1.next,0,some 0⟩) n n,.slice (some ⟨K2.next,0,some 0⟩) n n] [r,.slice (some ⟨H.next,0,some 0⟩) n n,.slice (some ⟨K1.next,0,some 0⟩) n n,.slice (some ⟨K2.next,0,some 0⟩) n n]=true:=by
  refine B1k fun x hx=>?_;simp only[List.mem_cons,List.not_mem_nil,or_false]at hx;rcases hx with rfl|rfl|rfl|rfl
  ·exact hb.toSl.veq
  ·exact A4u
  ·exact A4u
  ·exact A4u
 have o4:=objNew (H:=H1) (s:=4) ee;have k4:=Kept.new hk.wf 4 [r,.slice (some ⟨H.next,0,some 0⟩) n n,.slice (some ⟨K1.next,0,some 0⟩) n n,.slice (some ⟨K2.next,0,some 0⟩) n n];have bq:=bl r (.slice (some ⟨H.next,0,some 0⟩) n n) (.slice (some ⟨K1.next,0,some 0⟩) n n) (.slice (some ⟨K2.next,0,some 0⟩) n n) cr rfl rfl rfl;simp only[sx,bq,q,hres];have hbs:∀g,b=some g→K3.next≤g:=hf;have if1:∀{m y:Nat},(if n=0 then none else some m)=some y→y=m:=by
  intro m y h;by_cases hn0:n=0
  ·rw[if_pos hn0]at h;cases h
  ·rw[if_neg hn0]at h;exact(Option.some.inj h).symm
 have jin:∀y,JIn (if n=0 then none else some H.next) (List.replicate n none) y→y=H.next:=by
  rintro y (h|⟨i,h⟩)
  ·exact if1 h
  ·rw[List.getElem?_replicate]at h
   split at h<;>cases h
 have hn:=hk.next;have c1:=(((jg.kept k1.wf k2).kept k2.wf k3).kept k3.wf hk).kept hk.wf k4;have c2:=((f2.kept k2.wf k3).kept k3.wf hk).kept hk.wf k4;have c3:=(f3.kept k3.wf hk).kept hk.wf k4;have rp:∀m:Int,(List.replicate n m).map intC=List.replicate n [.int .i64 m]:=fun m=>by simp[intC]
 have hlt:=fun y (h:b=some y)=>hb.lt hk.wf y h;refine⟨o4,k123.trans (hk.trans k4),_,rfl,_,_,_,_,b,_,_,_,_,_,⟨oq.arr,hb.kept hk.wf k4,c1,by rw[rp];exact c2,by rw[rp];exact c3,?_,?_,?_,?_,?_,?_,?_,?_,?_,?_,?_,?_,?_,?_,?_⟩⟩
 ·omega
 ·intro y h;have:=hbs y h;omega
 ·intro y h;rw[jin y h];exact Nat.le_refl _
 ·intro y h;rw[if1 h];omega
 ·intro y h;rw[if1 h];omega
 ·intro h;have:=hlt _ h;omega
 ·intro h;have:=jin _ h;omega
 ·intro h;have:=if1 h;omega
 ·intro h;have:=if1 h;omega
 ·intro y h h2;have:=hbs y h;have:=jin y h2;omega
 ·intro y h h2;have:=hbs y h;have:=if1 h2;omega
 ·intro y h h2;have:=hbs y h;have:=if1 h2;omega
 ·intro y h h2;have:=if1 h;have:=jin y h2;omega
 ·intro y h h2;have:=if1 h;have:=jin y h2;omega
 ·intro y h h2;have:=if1 h;have:=if1 h2;omega
theorem rgZero{H:AH}:anew Tryz.prog 60 H (.agg #[.int .i64 0,.slice none 0 0,.slice none 0 0])=some (.pointer (some ⟨H.next,0,some 0⟩),(H.new 3 [.int .i64 0,.slice none 0 0,.slice none 0 0]).2):=A3q (vs:=[.int .i64 0,.slice none 0 0,.slice none 0 0]) B7l rfl rfl
theorem B28{H:AH}{ev bv:Value}(he:isCell ev=true)(hb:isCell bv=true):anew Tryz.prog 60 H (.agg #[.int .i64 0,ev,bv])=some (.pointer (some ⟨H.next,0,some 0⟩),(H.new 3 [.int .i64 0,ev,bv]).2):=
 A3q (vs:=[.int .i64 0,ev,bv]) B7l rfl (by simp[he,hb,show isCell (.int .i64 0)=true from rfl])
theorem C37{H:AH}{ev bv:Value}{p:Addr}(he:isCell ev=true)(hb:isCell bv=true):A0e Tryz.prog 60 H (.agg #[.int .i64 0,ev,bv]) (.pointer (some p))=H.write p [.int .i64 0,ev,bv]:=
 A0s (vs:=[.int .i64 0,ev,bv]) B7l rfl (by simp[he,hb,show isCell (.int .i64 0)=true from rfl])
theorem rgOver{H:AH}{a b c x y z:Value}:(H.new 3 [a,b,c]).2.write ⟨H.next,0,some 0⟩ [x,y,z]=some (H.new 3 [x,y,z]).2:=A3m rfl
theorem C4q{H:AH}:anew Tryz.prog 88 H (.agg #[.string ⟨#[]⟩,.int .i64 0])=some (.pointer (some ⟨H.next,0,some 0⟩),(H.new 2 [.string ⟨#[]⟩,.int .i64 0]).2):=A3q (vs:=[.string ⟨#[]⟩,.int .i64 0]) A5t rfl rfl
theorem B8x{H:AH}{e:ByteArray×Nat}{p:Addr}:A0e Tryz.prog 88 H (.agg (A0i e).toArray) (.pointer (some p))=H.write p (A0i e):=A0s A5t rfl rfl
theorem C2i{H:AH}{e:ByteArray×Nat}{x0 x1:Value}:(H.new 2 [x0,x1]).2.write ⟨H.next,0,some 0⟩ (A0i e)=some (H.new 2 (A0i e)).2:=A3m rfl
theorem re0{H:AH}{e:ByteArray×Nat}:(H.new 2 (A0i e)).2.cell ⟨H.next,0,some 0⟩=some (.string e.1):=A3i _ _ _
theorem re1{H:AH}{e:ByteArray×Nat}:(H.new 2 (A0i e)).2.cell ⟨H.next,1,some 0⟩=some (.int .i64 (e.2:Int)):=A3i _ _ _
theorem rgOut{H:AH}(hw:Wf H){ev bv:Value}{g:Nat}(x y z:Value)(h:Sh.Obj H g 3 [x,y,z] true)(he:isCell ev=true)(hb:isCell bv=true):∃H',A0e Tryz.prog 60 H (.agg #[.int .i64 0,ev,bv]) (.pointer (some ⟨g,0,some 0⟩))=some H'∧Sh.Obj H' g 3 [.int .i64 0,ev,bv] true∧Chg (fun y=>y=g) H H':=by
 obtain⟨H',h1,h2,h3,h4⟩:=h.arr.write hw (i:=0) (vs:=[.int .i64 0,ev,bv]) (by simp);have ho:Sh.Obj H' g 3 [.int .i64 0,ev,bv] true:=by
  obtain⟨H2,k1,k2,_⟩:=Sh.Obj.write h (i:=0) (vs:=[.int .i64 0,ev,bv]) (by simp);rw[h1]at k1;injection k1 with k1
  subst k1;exact k2
 exact⟨H',by rw[C37 he hb];exact h1,ho,h4.weak fun _ h=>h⟩
theorem newGraph{H:AH}{n:Nat}(hn:n≤1048576)(hw:Wf H):
  Sh.Call Tryz.prog (knows 7) 48 [.int .i64 (n:Int)] H (fun r H'=>Kept H H'∧∃ev bv,r=.agg #[.int .i64 0,ev,bv]∧∃g1,H.next≤g1∧∃g2,g1<g2∧Jag H' ev (if n=0 then none else some g1) 2 (List.replicate n (.slice none 0 0)) (List.replicate n []) (List.replicate n none)∧Buf H' 1 bv (List.replicate n [.bool false]) (if n=0 then none else some g2)):=by
 refine A3a rfl Tryz.func48 rfl (Nat.le_of_ble_eq_true rfl) ?_;have hres:Tryz.f48.results.toList=[.cell 2 60]:=rfl;simp only[↓Sh.dn,sx,rgZero];have k0:=Kept.new hw 3 [.int .i64 0,.slice none 0 0,.slice none 0 0];have o0:=Sh.Obj.new (H:=H) 3 [.int .i64 0,.slice none 0 0,.slice none 0 0];have x0:H.next<(H.new 3 [.int .i64 0,.slice none 0 0,.slice none 0 0]).2.next:=Nat.lt_succ_self _;generalize (H.new 3 [.int .i64 0,.slice none 0 0,.slice none 0 0]).2=H0 at k0 o0 x0 ⊢;have m1:=mk_57 (H:=H0) (l:=n) (c:=n) (Nat.le_refl _) (by omega);have k1:=Kept.new k0.wf 1 (List.replicate n (.slice none 0 0));have jg:=Jag.make k0.wf 2 (n:=n) (by omega);have o1:=B83 (H:=H0) (n:=n) (z:=.slice none 0 0) rfl;have x1:H0.next<(H0.new 1 (List.replicate n (.slice none 0 0))).2.next:=Nat.lt_succ_self _;generalize (H0.new 1 (List.replicate n (.slice none 0 0))).2=K1 at m1 k1 jg o1 x1 ⊢;have m2:=D5a (H:=K1) (l:=n) (c:=n) (Nat.le_refl _) (by omega);have k2:=Kept.new k1.wf 1 (List.replicate n (.bool false));have f2:=Buf.fill k1.wf (.bool false) (c:=n) (by omega);have o2:=B83 (H:=K1) (n:=n) (z:=.bool false) rfl;generalize (K1.new 1 (List.replicate n (.bool false))).2=K2 at m2 k2 f2 o2 ⊢;have bq:A3s Tryz.prog 60 [(1,.slice (some ⟨H0.next,0,some 0⟩) n n),(2,.slice (some ⟨K1.next,0,some 0⟩) n n)]=some (.agg #[.int .i64 0,.slice (some ⟨H0.next,0,some 0⟩) n n,.slice (some ⟨K1.next,0,some 0⟩) n n]):=by
  have va:∀xs:Array Value,A6a (.agg xs)=xs.toList:=fun _=>rfl;refine A6m (pl:=[(0,1),(1,1),(2,1)]) Tryz.underlying60 C2g (by kernel_rfl) ?_;simp[A12,A6a,isCell,setCells,A3c]
 have o0':Sh.Obj K2 H.next 3 [.int .i64 0,.slice none 0 0,.slice none 0 0] true:=by
  unfold Sh.Obj at o0 ⊢;rw[(k1.trans k2).old H.next x0];exact o0
 obtain⟨K3,st,o3,c3⟩:=rgOut (ev:=.slice (some ⟨H0.next,0,some 0⟩) n n) (bv:=.slice (some ⟨K1.next,0,some 0⟩) n n) k2.wf _ _ _ o0' rfl rfl;have k012:=(k0.trans k1).trans k2;have c3':=o3.cells (i:=0) (n:=3) (by simp);refine A05 (fl:=[(0,true),(1,false),(2,true),(3,false),(4,true),(5,true)]) (by kernel_rfl) (by kernel_rfl) k0.wf ?_;simp only[↓Sh.dn,sx,reduceCtorEq,Nat.reduceEqDiff,wpg,C8b,isEff,A2e,isRead,forall_eq',m1,m2,bq,st,hres,c3',List.drop_zero,List.take_succ_cons,List.take_zero];have j1:=(jg.kept k1.wf k2).chg k2.wf c3 (fun y hy e=>by
  subst e;have:∀y,JIn (if n=0 then none else some H0.next) (List.replicate n none) y→y=H0.next:=by
   rintro y (h|⟨i,h⟩)
   ·by_cases h0:n=0
    ·rw[if_pos h0]at h;cases h
    ·rw[if_neg h0]at h;exact(Option.some.inj h).symm
   ·rw[List.getElem?_replicate]at h
    split at h<;>cases h
  have:=this _ hy;omega)
 have b1:=f2.chg k2.wf c3 (fun y hy e=>by
  subst e;by_cases h0:n=0
  ·rw[if_pos h0]at hy;cases hy
  ·rw[if_neg h0]at hy;have:=Option.some.inj hy;omega)
 exact⟨o1,o2,c3.wf,k012.then (Nat.le_refl _) (c3.weak fun y hy=>by omega),_,_,rfl,H0.next,Nat.le_of_lt x0,K1.next,x1,j1,b1⟩
end Go.Proofs.YtjjgodccecehlaaGreat
