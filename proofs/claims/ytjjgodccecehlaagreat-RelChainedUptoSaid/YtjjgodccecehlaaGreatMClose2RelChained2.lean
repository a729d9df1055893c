/- A part of the proof: Facts, NetFacts. -/
import Derived.Test.YtjjgodccecehlaaGreatProg
import Derived.Test.YtjjgodccecehlaaGreatMClose2RelChained1
import Derived.KernelRfl
set_option linter.unusedVariables false
set_option linter.unusedSimpArgs false
/- What the types of this program are, for walking. Made by program. -/
set_option maxRecDepth 20000
namespace Go.Proofs.YtjjgodccecehlaaGreat
open Go Go.Proofs Go.Proofs.Sh
theorem agg_1:A3f Tryz.prog 1=some false:=by kernel_rfl
theorem zero_1:zeroAt Tryz.prog 1=some (.nilFunc):=by kernel_rfl
theorem ld_1{H:AH}{a:Addr}:A7e Tryz.prog 1 H (.pointer (some a))=H.cell a:=A3b agg_1
theorem agg_2:A3f Tryz.prog 2=some false:=by kernel_rfl
theorem zero_2:zeroAt Tryz.prog 2=some (.int .i64 0):=by kernel_rfl
theorem ld_2{H:AH}{a:Addr}:A7e Tryz.prog 2 H (.pointer (some a))=H.cell a:=A3b agg_2
theorem C17:A3f Tryz.prog 3=some false:=by kernel_rfl
theorem A1c:A5b Tryz.prog 3=some 1:=by kernel_rfl
theorem B29:Tryz.prog.cellsOf 3=1:=by kernel_rfl
theorem A10:zeroAt Tryz.prog 3=some (.int .i64 0):=by kernel_rfl
theorem ld_3{H:AH}{a:Addr}:A7e Tryz.prog 3 H (.pointer (some a))=H.cell a:=A3b C17
theorem agg_4:A3f Tryz.prog 4=some false:=by kernel_rfl
theorem A5r:A5b Tryz.prog 4=some 1:=by kernel_rfl
theorem B1o:zeroAt Tryz.prog 4=some (.bool false):=by kernel_rfl
theorem ld_4{H:AH}{a:Addr}:A7e Tryz.prog 4 H (.pointer (some a))=H.cell a:=A3b agg_4
theorem agg_5:A3f Tryz.prog 5=some false:=by kernel_rfl
theorem zero_5:zeroAt Tryz.prog 5=some (.int .u8 0):=by kernel_rfl
theorem ld_5{H:AH}{a:Addr}:A7e Tryz.prog 5 H (.pointer (some a))=H.cell a:=A3b agg_5
theorem agg_9:A3f Tryz.prog 9=some false:=by kernel_rfl
theorem A6r:A5b Tryz.prog 9=some 1:=by kernel_rfl
theorem D6b:Tryz.prog.cellsOf 9=1:=by kernel_rfl
theorem B1g:zeroAt Tryz.prog 9=some (.string ⟨#[]⟩):=by kernel_rfl
theorem ld_9{H:AH}{a:Addr}:A7e Tryz.prog 9 H (.pointer (some a))=H.cell a:=A3b agg_9
theorem agg_22:A3f Tryz.prog 22=some false:=by kernel_rfl
theorem A4t:A5b Tryz.prog 22=some 1:=by kernel_rfl
theorem C5j:Tryz.prog.cellsOf 22=1:=by kernel_rfl
theorem B3b:zeroAt Tryz.prog 22=some (.slice none 0 0):=by kernel_rfl
theorem ld_22{H:AH}{a:Addr}:A7e Tryz.prog 22 H (.pointer (some a))=H.cell a:=A3b agg_22
theorem agg_23:A3f Tryz.prog 23=some false:=by kernel_rfl
theorem D9a:A5b Tryz.prog 23=some 1:=by kernel_rfl
theorem cells_23:Tryz.prog.cellsOf 23=1:=by kernel_rfl
theorem C5x:zeroAt Tryz.prog 23=some (.slice none 0 0):=by kernel_rfl
theorem ld_23{H:AH}{a:Addr}:A7e Tryz.prog 23 H (.pointer (some a))=H.cell a:=A3b agg_23
theorem agg_24:A3f Tryz.prog 24=some false:=by kernel_rfl
theorem D4b:A5b Tryz.prog 24=some 1:=by kernel_rfl
theorem cells_24:Tryz.prog.cellsOf 24=1:=by kernel_rfl
theorem C08:zeroAt Tryz.prog 24=some (.slice none 0 0):=by kernel_rfl
theorem ld_24{H:AH}{a:Addr}:A7e Tryz.prog 24 H (.pointer (some a))=H.cell a:=A3b agg_24
theorem agg_26:A3f Tryz.prog 26=some true:=by kernel_rfl
theorem A2p:A5b Tryz.prog 26=some 4:=by kernel_rfl
theorem C3m:Tryz.prog.cellsOf 26=4:=by kernel_rfl
theorem A14:zeroAt Tryz.prog 26=some (.agg #[.slice none 0 0,.int .i64 0,.slice none 0 0,.slice none 0 0]):=by kernel_rfl
theorem ld_26{H:AH}{a:Addr}:A7e Tryz.prog 26 H (.pointer (some a))=(H.cells a 4).map fun l=>.agg l.toArray:=A7n agg_26 A2p
theorem agg_30:A3f Tryz.prog 30=some false:=by kernel_rfl
theorem size_30:A5b Tryz.prog 30=some 1:=by kernel_rfl
theorem C4y:zeroAt Tryz.prog 30=some (.slice none 0 0):=by kernel_rfl
theorem ld_30{H:AH}{a:Addr}:A7e Tryz.prog 30 H (.pointer (some a))=H.cell a:=A3b agg_30
theorem agg_31:A3f Tryz.prog 31=some false:=by kernel_rfl
theorem C47:zeroAt Tryz.prog 31=some (.int .i64 0):=by kernel_rfl
theorem ld_31{H:AH}{a:Addr}:A7e Tryz.prog 31 H (.pointer (some a))=H.cell a:=A3b agg_31
theorem agg_37:A3f Tryz.prog 37=some true:=by kernel_rfl
theorem C63:A5b Tryz.prog 37=some 10:=by kernel_rfl
theorem cells_37:Tryz.prog.cellsOf 37=10:=by kernel_rfl
theorem C94:zeroAt Tryz.prog 37=some (.agg #[.slice none 0 0,.int .i64 0,.slice none 0 0,.slice none 0 0,.slice none 0 0,.int .i64 0,.slice none 0 0,.slice none 0 0,.slice none 0 0,.slice none 0 0]):=by kernel_rfl
theorem ld_37{H:AH}{a:Addr}:A7e Tryz.prog 37 H (.pointer (some a))=(H.cells a 10).map fun l=>.agg l.toArray:=A7n agg_37 C63
theorem agg_43:A3f Tryz.prog 43=some false:=by kernel_rfl
theorem C81:zeroAt Tryz.prog 43=some (.slice none 0 0):=by kernel_rfl
theorem ld_43{H:AH}{a:Addr}:A7e Tryz.prog 43 H (.pointer (some a))=H.cell a:=A3b agg_43
theorem agg_45:A3f Tryz.prog 45=some true:=by kernel_rfl
theorem A6x:A5b Tryz.prog 45=some 5:=by kernel_rfl
theorem C0m:Tryz.prog.cellsOf 45=5:=by kernel_rfl
theorem B7a:zeroAt Tryz.prog 45=some (.agg #[.int .i64 0,.string ⟨#[]⟩,.string ⟨#[]⟩,.int .i64 0,.int .i64 0]):=by kernel_rfl
theorem ld_45{H:AH}{a:Addr}:A7e Tryz.prog 45 H (.pointer (some a))=(H.cells a 5).map fun l=>.agg l.toArray:=A7n agg_45 A6x
theorem agg_47:A3f Tryz.prog 47=some true:=by kernel_rfl
theorem A6z:A5b Tryz.prog 47=some 2:=by kernel_rfl
theorem C8h:Tryz.prog.cellsOf 47=2:=by kernel_rfl
theorem A49:zeroAt Tryz.prog 47=some (.agg #[.int .i64 0,.int .i64 0]):=by kernel_rfl
theorem ld_47{H:AH}{a:Addr}:A7e Tryz.prog 47 H (.pointer (some a))=(H.cells a 2).map fun l=>.agg l.toArray:=A7n agg_47 A6z
theorem agg_50:A3f Tryz.prog 50=some false:=by kernel_rfl
theorem size_50:A5b Tryz.prog 50=some 1:=by kernel_rfl
theorem C3w:zeroAt Tryz.prog 50=some (.nilFunc):=by kernel_rfl
theorem ld_50{H:AH}{a:Addr}:A7e Tryz.prog 50 H (.pointer (some a))=H.cell a:=A3b agg_50
theorem agg_52:A3f Tryz.prog 52=some true:=by kernel_rfl
theorem C7d:A5b Tryz.prog 52=some 1:=by kernel_rfl
theorem C8a:zeroAt Tryz.prog 52=some (.agg #[.nilFunc]):=by kernel_rfl
theorem ld_52{H:AH}{a:Addr}:A7e Tryz.prog 52 H (.pointer (some a))=(H.cells a 1).map fun l=>.agg l.toArray:=A7n agg_52 C7d
theorem agg_57:A3f Tryz.prog 57=some false:=by kernel_rfl
theorem size_57:A5b Tryz.prog 57=some 1:=by kernel_rfl
theorem D3b:zeroAt Tryz.prog 57=some (.slice none 0 0):=by kernel_rfl
theorem ld_57{H:AH}{a:Addr}:A7e Tryz.prog 57 H (.pointer (some a))=H.cell a:=A3b agg_57
theorem agg_58:A3f Tryz.prog 58=some false:=by kernel_rfl
theorem B2t:A5b Tryz.prog 58=some 1:=by kernel_rfl
theorem B2i:zeroAt Tryz.prog 58=some (.slice none 0 0):=by kernel_rfl
theorem ld_58{H:AH}{a:Addr}:A7e Tryz.prog 58 H (.pointer (some a))=H.cell a:=A3b agg_58
theorem agg_60:A3f Tryz.prog 60=some true:=by kernel_rfl
theorem C26:A5b Tryz.prog 60=some 3:=by kernel_rfl
theorem C87:zeroAt Tryz.prog 60=some (.agg #[.int .i64 0,.slice none 0 0,.slice none 0 0]):=by kernel_rfl
theorem ld_60{H:AH}{a:Addr}:A7e Tryz.prog 60 H (.pointer (some a))=(H.cells a 3).map fun l=>.agg l.toArray:=A7n agg_60 C26
theorem agg_67:A3f Tryz.prog 67=some false:=by kernel_rfl
theorem B9x:A5b Tryz.prog 67=some 1:=by kernel_rfl
theorem C52:zeroAt Tryz.prog 67=some (.pointer none):=by kernel_rfl
theorem ld_67{H:AH}{a:Addr}:A7e Tryz.prog 67 H (.pointer (some a))=H.cell a:=A3b agg_67
theorem agg_71:A3f Tryz.prog 71=some false:=by kernel_rfl
theorem A6s:A5b Tryz.prog 71=some 1:=by kernel_rfl
theorem A89:zeroAt Tryz.prog 71=some (.slice none 0 0):=by kernel_rfl
theorem ld_71{H:AH}{a:Addr}:A7e Tryz.prog 71 H (.pointer (some a))=H.cell a:=A3b agg_71
theorem agg_81:A3f Tryz.prog 81=some true:=by kernel_rfl
theorem A80:A5b Tryz.prog 81=some 4:=by kernel_rfl
theorem A39:zeroAt Tryz.prog 81=some (.agg #[.int .i64 0,.int .i64 0,.int .i64 0,.int .i64 0]):=by kernel_rfl
theorem ld_81{H:AH}{a:Addr}:A7e Tryz.prog 81 H (.pointer (some a))=(H.cells a 4).map fun l=>.agg l.toArray:=A7n agg_81 A80
theorem agg_86:A3f Tryz.prog 86=some false:=by kernel_rfl
theorem size_86:A5b Tryz.prog 86=some 1:=by kernel_rfl
theorem B79:zeroAt Tryz.prog 86=some (.slice none 0 0):=by kernel_rfl
theorem ld_86{H:AH}{a:Addr}:A7e Tryz.prog 86 H (.pointer (some a))=H.cell a:=A3b agg_86
theorem agg_88:A3f Tryz.prog 88=some true:=by kernel_rfl
theorem C7x:A5b Tryz.prog 88=some 2:=by kernel_rfl
theorem B68:zeroAt Tryz.prog 88=some (.agg #[.string ⟨#[]⟩,.int .i64 0]):=by kernel_rfl
theorem ld_88{H:AH}{a:Addr}:A7e Tryz.prog 88 H (.pointer (some a))=(H.cells a 2).map fun l=>.agg l.toArray:=A7n agg_88 C7x
theorem agg_91:A3f Tryz.prog 91=some false:=by kernel_rfl
theorem C11:zeroAt Tryz.prog 91=some (.pointer none):=by kernel_rfl
theorem ld_91{H:AH}{a:Addr}:A7e Tryz.prog 91 H (.pointer (some a))=H.cell a:=A3b agg_91
theorem agg_92:A3f Tryz.prog 92=some false:=by kernel_rfl
theorem C38:A5b Tryz.prog 92=some 1:=by kernel_rfl
theorem C8z:zeroAt Tryz.prog 92=some (.slice none 0 0):=by kernel_rfl
theorem ld_92{H:AH}{a:Addr}:A7e Tryz.prog 92 H (.pointer (some a))=H.cell a:=A3b agg_92
theorem agg_94:A3f Tryz.prog 94=some true:=by kernel_rfl
theorem size_94:A5b Tryz.prog 94=some 6:=by kernel_rfl
theorem C39:zeroAt Tryz.prog 94=some (.agg #[.int .i64 0,.slice none 0 0,.slice none 0 0,.slice none 0 0,.int .i64 0,.slice none 0 0]):=by kernel_rfl
theorem ld_94{H:AH}{a:Addr}:A7e Tryz.prog 94 H (.pointer (some a))=(H.cells a 6).map fun l=>.agg l.toArray:=A7n agg_94 size_94
theorem agg_98:A3f Tryz.prog 98=some false:=by kernel_rfl
theorem C36:zeroAt Tryz.prog 98=some (.nilFunc):=by kernel_rfl
theorem ld_98{H:AH}{a:Addr}:A7e Tryz.prog 98 H (.pointer (some a))=H.cell a:=A3b agg_98
theorem agg_101:A3f Tryz.prog 101=some false:=by kernel_rfl
theorem C5g:A5b Tryz.prog 101=some 1:=by kernel_rfl
theorem C2f:zeroAt Tryz.prog 101=some (.slice none 0 0):=by kernel_rfl
theorem ld_101{H:AH}{a:Addr}:A7e Tryz.prog 101 H (.pointer (some a))=H.cell a:=A3b agg_101
theorem agg_103:A3f Tryz.prog 103=some true:=by kernel_rfl
theorem C0o:A5b Tryz.prog 103=some 4:=by kernel_rfl
theorem B6v:zeroAt Tryz.prog 103=some (.agg #[.slice none 0 0,.slice none 0 0,.slice none 0 0,.slice none 0 0]):=by kernel_rfl
theorem ld_103{H:AH}{a:Addr}:A7e Tryz.prog 103 H (.pointer (some a))=(H.cells a 4).map fun l=>.agg l.toArray:=A7n agg_103 C0o
theorem agg_105:A3f Tryz.prog 105=some true:=by kernel_rfl
theorem A6w:A5b Tryz.prog 105=some 2:=by kernel_rfl
theorem A32:zeroAt Tryz.prog 105=some (.agg #[.int .i64 0,.int .i64 0]):=by kernel_rfl
theorem ld_105{H:AH}{a:Addr}:A7e Tryz.prog 105 H (.pointer (some a))=(H.cells a 2).map fun l=>.agg l.toArray:=A7n agg_105 A6w
theorem agg_106:A3f Tryz.prog 106=some false:=by kernel_rfl
theorem size_106:A5b Tryz.prog 106=some 1:=by kernel_rfl
theorem C5n:zeroAt Tryz.prog 106=some (.map none):=by kernel_rfl
theorem ld_106{H:AH}{a:Addr}:A7e Tryz.prog 106 H (.pointer (some a))=H.cell a:=A3b agg_106
theorem agg_107:A3f Tryz.prog 107=some false:=by kernel_rfl
theorem C6i:A5b Tryz.prog 107=some 1:=by kernel_rfl
theorem C3h:zeroAt Tryz.prog 107=some (.slice none 0 0):=by kernel_rfl
theorem ld_107{H:AH}{a:Addr}:A7e Tryz.prog 107 H (.pointer (some a))=H.cell a:=A3b agg_107
theorem agg_109:A3f Tryz.prog 109=some false:=by kernel_rfl
theorem C0l:zeroAt Tryz.prog 109=some (.nilFunc):=by kernel_rfl
theorem ld_109{H:AH}{a:Addr}:A7e Tryz.prog 109 H (.pointer (some a))=H.cell a:=A3b agg_109
theorem agg_111:A3f Tryz.prog 111=some false:=by kernel_rfl
theorem A9p:A5b Tryz.prog 111=some 1:=by kernel_rfl
theorem A21:zeroAt Tryz.prog 111=some (.slice none 0 0):=by kernel_rfl
theorem ld_111{H:AH}{a:Addr}:A7e Tryz.prog 111 H (.pointer (some a))=H.cell a:=A3b agg_111
theorem agg_115:A3f Tryz.prog 115=some false:=by kernel_rfl
theorem C8o:zeroAt Tryz.prog 115=some (.map none):=by kernel_rfl
theorem ld_115{H:AH}{a:Addr}:A7e Tryz.prog 115 H (.pointer (some a))=H.cell a:=A3b agg_115
theorem agg_119:A3f Tryz.prog 119=some false:=by kernel_rfl
theorem C6j:zeroAt Tryz.prog 119=some (.nilFunc):=by kernel_rfl
theorem ld_119{H:AH}{a:Addr}:A7e Tryz.prog 119 H (.pointer (some a))=H.cell a:=A3b agg_119
theorem agg_120:A3f Tryz.prog 120=some false:=by kernel_rfl
theorem C9o:A5b Tryz.prog 120=some 1:=by kernel_rfl
theorem C8k:zeroAt Tryz.prog 120=some (.slice none 0 0):=by kernel_rfl
theorem ld_120{H:AH}{a:Addr}:A7e Tryz.prog 120 H (.pointer (some a))=H.cell a:=A3b agg_120
theorem agg_121:A3f Tryz.prog 121=some false:=by kernel_rfl
theorem A8i:A5b Tryz.prog 121=some 1:=by kernel_rfl
theorem B4e:zeroAt Tryz.prog 121=some (.int .u64 0):=by kernel_rfl
theorem ld_121{H:AH}{a:Addr}:A7e Tryz.prog 121 H (.pointer (some a))=H.cell a:=A3b agg_121
theorem agg_122:A3f Tryz.prog 122=some false:=by kernel_rfl
theorem C2m:zeroAt Tryz.prog 122=some (.int .u64 0):=by kernel_rfl
theorem ld_122{H:AH}{a:Addr}:A7e Tryz.prog 122 H (.pointer (some a))=H.cell a:=A3b agg_122
theorem agg_123:A3f Tryz.prog 123=some false:=by kernel_rfl
theorem C9p:zeroAt Tryz.prog 123=some (.nilFunc):=by kernel_rfl
theorem ld_123{H:AH}{a:Addr}:A7e Tryz.prog 123 H (.pointer (some a))=H.cell a:=A3b agg_123
theorem agg_131:A3f Tryz.prog 131=some false:=by kernel_rfl
theorem C5h:A5b Tryz.prog 131=some 1:=by kernel_rfl
theorem C4l:zeroAt Tryz.prog 131=some (.slice none 0 0):=by kernel_rfl
theorem ld_131{H:AH}{a:Addr}:A7e Tryz.prog 131 H (.pointer (some a))=H.cell a:=A3b agg_131
theorem agg_145:A3f Tryz.prog 145=some false:=by kernel_rfl
theorem size_145:A5b Tryz.prog 145=some 1:=by kernel_rfl
theorem C5i:zeroAt Tryz.prog 145=some (.nilFunc):=by kernel_rfl
theorem ld_145{H:AH}{a:Addr}:A7e Tryz.prog 145 H (.pointer (some a))=H.cell a:=A3b agg_145
theorem agg_146:A3f Tryz.prog 146=some false:=by kernel_rfl
theorem B3e:A5b Tryz.prog 146=some 1:=by kernel_rfl
theorem B8d:zeroAt Tryz.prog 146=some (.slice none 0 0):=by kernel_rfl
theorem ld_146{H:AH}{a:Addr}:A7e Tryz.prog 146 H (.pointer (some a))=H.cell a:=A3b agg_146
theorem agg_148:A3f Tryz.prog 148=some false:=by kernel_rfl
theorem C5f:zeroAt Tryz.prog 148=some (.slice none 0 0):=by kernel_rfl
theorem ld_148{H:AH}{a:Addr}:A7e Tryz.prog 148 H (.pointer (some a))=H.cell a:=A3b agg_148
theorem agg_152:A3f Tryz.prog 152=some false:=by kernel_rfl
theorem C4o:zeroAt Tryz.prog 152=some (.nilFunc):=by kernel_rfl
theorem ld_152{H:AH}{a:Addr}:A7e Tryz.prog 152 H (.pointer (some a))=H.cell a:=A3b agg_152
theorem agg_153:A3f Tryz.prog 153=some false:=by kernel_rfl
theorem C4i:zeroAt Tryz.prog 153=some (.nilFunc):=by kernel_rfl
theorem ld_153{H:AH}{a:Addr}:A7e Tryz.prog 153 H (.pointer (some a))=H.cell a:=A3b agg_153
theorem agg_161:A3f Tryz.prog 161=some false:=by kernel_rfl
theorem C2i:zeroAt Tryz.prog 161=some (.map none):=by kernel_rfl
theorem ld_161{H:AH}{a:Addr}:A7e Tryz.prog 161 H (.pointer (some a))=H.cell a:=A3b agg_161
theorem agg_167:A3f Tryz.prog 167=some false:=by kernel_rfl
theorem C8i:zeroAt Tryz.prog 167=some (.int .i64 0):=by kernel_rfl
theorem ld_167{H:AH}{a:Addr}:A7e Tryz.prog 167 H (.pointer (some a))=H.cell a:=A3b agg_167
theorem agg_175:A3f Tryz.prog 175=some false:=by kernel_rfl
theorem C1o:zeroAt Tryz.prog 175=some (.int .u32 0):=by kernel_rfl
theorem ld_175{H:AH}{a:Addr}:A7e Tryz.prog 175 H (.pointer (some a))=H.cell a:=A3b agg_175
theorem agg_182:A3f Tryz.prog 182=some false:=by kernel_rfl
theorem B1t:A5b Tryz.prog 182=some 1:=by kernel_rfl
theorem C1l:zeroAt Tryz.prog 182=some (.int .u64 0):=by kernel_rfl
theorem ld_182{H:AH}{a:Addr}:A7e Tryz.prog 182 H (.pointer (some a))=H.cell a:=A3b agg_182
theorem agg_186:A3f Tryz.prog 186=some false:=by kernel_rfl
theorem C3i:zeroAt Tryz.prog 186=some (.pointer none):=by kernel_rfl
theorem ld_186{H:AH}{a:Addr}:A7e Tryz.prog 186 H (.pointer (some a))=H.cell a:=A3b agg_186
theorem agg_190:A3f Tryz.prog 190=some false:=by kernel_rfl
theorem C1p:zeroAt Tryz.prog 190=some (.pointer none):=by kernel_rfl
theorem ld_190{H:AH}{a:Addr}:A7e Tryz.prog 190 H (.pointer (some a))=H.cell a:=A3b agg_190
theorem len_9{H:AH}{s:ByteArray}:A3a Tryz.prog .len [9] [.string s] H=some (.int .i64 (s.size:Int),H):=C7t Tryz.underlying9
theorem len_22{H:AH}{n c:Nat}{a:Option Addr}:A3a Tryz.prog .len [22] [.slice a n c] H=some (.int .i64 (n:Int),H):=A0g Tryz.underlying22
theorem B19:((Tryz.prog.info? 9).map fun i=>Nat.beq i.size 1&&Nat.ble i.bytes 4096)=some true:=by kernel_rfl
theorem app_22{H:AH}{t' len cap n:Nat}{base:Option Addr}{x:Value}{new:List Value}(hx:Sh.srcKind Tryz.prog t' x=true)(hn:Sh.newCells 1 H x=some (n,new))(hb:len+n≤17179869184):A3a Tryz.prog .append [22,t'] [.slice base len cap,x] H=A5d 1 base len cap n new H:=A08 Tryz.underlying22 B19 B1g rfl (Nat.le_of_ble_eq_true rfl) hx hn hb
theorem app1_22{H:AH}{len cap:Nat}{base:Option Addr}{x:List Value}(hx:x.length=1)(hb:len≤17179869183):A3a Tryz.prog .append [22,22] [.slice base len cap,.slice (some ⟨H.next,0,some 0⟩) 1 1] (H.new 1 x).2=A5d 1 base len cap 1 x (H.new 1 x).2:=A3k Tryz.underlying22 B19 B1g rfl (Nat.le_of_ble_eq_true rfl) hx hb
theorem C8g{c:Bool}{a:Option Addr}{n m:Nat}:abin Tryz.prog 22 c .eql (.slice a n m) (.slice none 0 0)=some (.bool a.isNone):=A7g Tryz.underlying22
theorem B41{c:Bool}{a:Option Addr}{n m:Nat}:abin Tryz.prog 22 c .neq (.slice a n m) (.slice none 0 0)=some (.bool a.isSome):=A6c Tryz.underlying22
theorem mk_22{H:AH}{l c:Nat}(hlc:l≤c)(hc:c≤17179869184):A4f Tryz.prog 22 (.int .i64 (l:Int)) (.int .i64 (c:Int)) H=some (.slice (some ⟨H.next,0,some 0⟩) l c,(H.new 1 (List.replicate c (.string ⟨#[]⟩))).2):=by rw[←A8x];exact A93 Tryz.underlying22 B19 B1g rfl (Nat.le_of_ble_eq_true rfl) hlc hc
theorem B12{H:AH}:A4a Tryz.prog 22 0 [] H=some (.slice (some ⟨H.next,0,some 0⟩) 0 0,(H.new 1 []).2):=A0h Tryz.underlying22 A6r B1g rfl (Nat.le_of_ble_eq_true rfl)
theorem C88{H:AH}{x:Value}(hx:(A6a x).length=1)(hc:(A6a x).all isCell=true):A4a Tryz.prog 22 1 [(0,x)] H=some (.slice (some ⟨H.next,0,some 0⟩) 1 1,(H.new 1 (A6a x)).2):=A2l Tryz.underlying22 A6r B1g rfl (Nat.le_of_ble_eq_true rfl) (Nat.le_of_ble_eq_true rfl) hx hc
theorem len_23{H:AH}{n c:Nat}{a:Option Addr}:A3a Tryz.prog .len [23] [.slice a n c] H=some (.int .i64 (n:Int),H):=A0g Tryz.underlying23
theorem info_23:((Tryz.prog.info? 45).map fun i=>Nat.beq i.size 5&&Nat.ble i.bytes 4096)=some true:=by kernel_rfl
theorem app1_23{H:AH}{len cap:Nat}{base:Option Addr}{x:List Value}(hx:x.length=5)(hb:len≤17179869183):A3a Tryz.prog .append [23,23] [.slice base len cap,.slice (some ⟨H.next,0,some 0⟩) 1 1] (H.new 5 x).2=A5d 5 base len cap 1 x (H.new 5 x).2:=A3k Tryz.underlying23 info_23 B7a rfl (Nat.le_of_ble_eq_true rfl) hx hb
theorem C9j{c:Bool}{a:Option Addr}{n m:Nat}:abin Tryz.prog 23 c .eql (.slice a n m) (.slice none 0 0)=some (.bool a.isNone):=A7g Tryz.underlying23
theorem B35{c:Bool}{a:Option Addr}{n m:Nat}:abin Tryz.prog 23 c .neq (.slice a n m) (.slice none 0 0)=some (.bool a.isSome):=A6c Tryz.underlying23
theorem B63{H:AH}:A4a Tryz.prog 23 0 [] H=some (.slice (some ⟨H.next,0,some 0⟩) 0 0,(H.new 5 []).2):=A0h Tryz.underlying23 A6x B7a rfl (Nat.le_of_ble_eq_true rfl)
theorem C3z{H:AH}{x:Value}(hx:(A6a x).length=5)(hc:(A6a x).all isCell=true):A4a Tryz.prog 23 1 [(0,x)] H=some (.slice (some ⟨H.next,0,some 0⟩) 1 1,(H.new 5 (A6a x)).2):=A2l Tryz.underlying23 A6x B7a rfl (Nat.le_of_ble_eq_true rfl) (Nat.le_of_ble_eq_true rfl) hx hc
theorem len_24{H:AH}{n c:Nat}{a:Option Addr}:A3a Tryz.prog .len [24] [.slice a n c] H=some (.int .i64 (n:Int),H):=A0g Tryz.underlying24
theorem info_24:((Tryz.prog.info? 47).map fun i=>Nat.beq i.size 2&&Nat.ble i.bytes 4096)=some true:=by kernel_rfl
theorem app1_24{H:AH}{len cap:Nat}{base:Option Addr}{x:List Value}(hx:x.length=2)(hb:len≤17179869183):A3a Tryz.prog .append [24,24] [.slice base len cap,.slice (some ⟨H.next,0,some 0⟩) 1 1] (H.new 2 x).2=A5d 2 base len cap 1 x (H.new 2 x).2:=A3k Tryz.underlying24 info_24 A49 rfl (Nat.le_of_ble_eq_true rfl) hx hb
theorem C1k{c:Bool}{a:Option Addr}{n m:Nat}:abin Tryz.prog 24 c .eql (.slice a n m) (.slice none 0 0)=some (.bool a.isNone):=A7g Tryz.underlying24
theorem B14{c:Bool}{a:Option Addr}{n m:Nat}:abin Tryz.prog 24 c .neq (.slice a n m) (.slice none 0 0)=some (.bool a.isSome):=A6c Tryz.underlying24
theorem B5y{H:AH}:A4a Tryz.prog 24 0 [] H=some (.slice (some ⟨H.next,0,some 0⟩) 0 0,(H.new 2 []).2):=A0h Tryz.underlying24 A6z A49 rfl (Nat.le_of_ble_eq_true rfl)
theorem C40{H:AH}{x:Value}(hx:(A6a x).length=2)(hc:(A6a x).all isCell=true):A4a Tryz.prog 24 1 [(0,x)] H=some (.slice (some ⟨H.next,0,some 0⟩) 1 1,(H.new 2 (A6a x)).2):=A2l Tryz.underlying24 A6z A49 rfl (Nat.le_of_ble_eq_true rfl) (Nat.le_of_ble_eq_true rfl) hx hc
theorem C15{g o k:Nat}:A0b Tryz.prog 26 0 (.pointer (some ⟨g,o,some k⟩))=some (.pointer (some ⟨g,o+0,some k⟩)):=by have h:=A8a (g:=g) (o:=o) (k:=k) (f:=0) Tryz.underlying26 (Eq.refl (some _)) A4t rfl;exact h
theorem C50{g o k:Nat}:A0b Tryz.prog 26 1 (.pointer (some ⟨g,o,some k⟩))=some (.pointer (some ⟨g,o+1,some k⟩)):=by have h:=A8a (g:=g) (o:=o) (k:=k) (f:=1) Tryz.underlying26 (Eq.refl (some _)) A1c rfl;exact h
theorem C4z{g o k:Nat}:A0b Tryz.prog 26 2 (.pointer (some ⟨g,o,some k⟩))=some (.pointer (some ⟨g,o+2,some k⟩)):=by have h:=A8a (g:=g) (o:=o) (k:=k) (f:=2) Tryz.underlying26 (Eq.refl (some _)) D9a rfl;exact h
theorem C03{g o k:Nat}:A0b Tryz.prog 26 3 (.pointer (some ⟨g,o,some k⟩))=some (.pointer (some ⟨g,o+3,some k⟩)):=by have h:=A8a (g:=g) (o:=o) (k:=k) (f:=3) Tryz.underlying26 (Eq.refl (some _)) D4b rfl;exact h
theorem len_30{H:AH}{n c:Nat}{a:Option Addr}:A3a Tryz.prog .len [30] [.slice a n c] H=some (.int .i64 (n:Int),H):=A0g Tryz.underlying30
theorem info_30:((Tryz.prog.info? 22).map fun i=>Nat.beq i.size 1&&Nat.ble i.bytes 4096)=some true:=by kernel_rfl
theorem app1_30{H:AH}{len cap:Nat}{base:Option Addr}{x:List Value}(hx:x.length=1)(hb:len≤17179869183):A3a Tryz.prog .append [30,30] [.slice base len cap,.slice (some ⟨H.next,0,some 0⟩) 1 1] (H.new 1 x).2=A5d 1 base len cap 1 x (H.new 1 x).2:=A3k Tryz.underlying30 info_30 B3b rfl (Nat.le_of_ble_eq_true rfl) hx hb
theorem C3f{c:Bool}{a:Option Addr}{n m:Nat}:abin Tryz.prog 30 c .eql (.slice a n m) (.slice none 0 0)=some (.bool a.isNone):=A7g Tryz.underlying30
theorem B3z{c:Bool}{a:Option Addr}{n m:Nat}:abin Tryz.prog 30 c .neq (.slice a n m) (.slice none 0 0)=some (.bool a.isSome):=A6c Tryz.underlying30
theorem B38{H:AH}:A4a Tryz.prog 30 0 [] H=some (.slice (some ⟨H.next,0,some 0⟩) 0 0,(H.new 1 []).2):=A0h Tryz.underlying30 A4t B3b rfl (Nat.le_of_ble_eq_true rfl)
theorem B81{H:AH}{x:Value}(hx:(A6a x).length=1)(hc:(A6a x).all isCell=true):A4a Tryz.prog 30 1 [(0,x)] H=some (.slice (some ⟨H.next,0,some 0⟩) 1 1,(H.new 1 (A6a x)).2):=A2l Tryz.underlying30 A4t B3b rfl (Nat.le_of_ble_eq_true rfl) (Nat.le_of_ble_eq_true rfl) hx hc
theorem D5a{g o k:Nat}:A0b Tryz.prog 37 0 (.pointer (some ⟨g,o,some k⟩))=some (.pointer (some ⟨g,o+0,some k⟩)):=by have h:=A8a (g:=g) (o:=o) (k:=k) (f:=0) Tryz.underlying37 (Eq.refl (some _)) A2p rfl;exact h
theorem D3d{g o k:Nat}:A0b Tryz.prog 37 1 (.pointer (some ⟨g,o,some k⟩))=some (.pointer (some ⟨g,o+4,some k⟩)):=by have h:=A8a (g:=g) (o:=o) (k:=k) (f:=1) Tryz.underlying37 (Eq.refl (some _)) A2p rfl;exact h
theorem C16{g o k:Nat}:A0b Tryz.prog 37 2 (.pointer (some ⟨g,o,some k⟩))=some (.pointer (some ⟨g,o+8,some k⟩)):=by have h:=A8a (g:=g) (o:=o) (k:=k) (f:=2) Tryz.underlying37 (Eq.refl (some _)) A4t rfl;exact h
theorem C4x{g o k:Nat}:A0b Tryz.prog 37 3 (.pointer (some ⟨g,o,some k⟩))=some (.pointer (some ⟨g,o+9,some k⟩)):=by have h:=A8a (g:=g) (o:=o) (k:=k) (f:=3) Tryz.underlying37 (Eq.refl (some _)) A4t rfl;exact h
theorem ia_43{g o k n c i:Nat}{j:IntKind}(h:i<n):A4b Tryz.prog 43 (.slice (some ⟨g,o,some k⟩) n c) (.int j (i:Int))=some (.pointer (some ⟨g,o+i*4,some k⟩)):=A2u Tryz.underlying43 A2p h
theorem D2c{H:AH}{n c:Nat}{a:Option Addr}:A3a Tryz.prog .len [43] [.slice a n c] H=some (.int .i64 (n:Int),H):=A0g Tryz.underlying43
theorem C6m{c:Bool}{a:Option Addr}{n m:Nat}:abin Tryz.prog 43 c .eql (.slice a n m) (.slice none 0 0)=some (.bool a.isNone):=A7g Tryz.underlying43
theorem B75{c:Bool}{a:Option Addr}{n m:Nat}:abin Tryz.prog 43 c .neq (.slice a n m) (.slice none 0 0)=some (.bool a.isSome):=A6c Tryz.underlying43
theorem B17{H:AH}:A4a Tryz.prog 43 0 [] H=some (.slice (some ⟨H.next,0,some 0⟩) 0 0,(H.new 4 []).2):=A0h Tryz.underlying43 A2p A14 rfl (Nat.le_of_ble_eq_true rfl)
theorem C9x{g o k:Nat}:A0b Tryz.prog 45 0 (.pointer (some ⟨g,o,some k⟩))=some (.pointer (some ⟨g,o+0,some k⟩)):=by have h:=A8a (g:=g) (o:=o) (k:=k) (f:=0) Tryz.underlying45 (Eq.refl (some _)) A1c rfl;exact h
theorem C68{g o k:Nat}:A0b Tryz.prog 45 1 (.pointer (some ⟨g,o,some k⟩))=some (.pointer (some ⟨g,o+1,some k⟩)):=by have h:=A8a (g:=g) (o:=o) (k:=k) (f:=1) Tryz.underlying45 (Eq.refl (some _)) A6r rfl;exact h
theorem C1z{g o k:Nat}:A0b Tryz.prog 45 2 (.pointer (some ⟨g,o,some k⟩))=some (.pointer (some ⟨g,o+2,some k⟩)):=by have h:=A8a (g:=g) (o:=o) (k:=k) (f:=2) Tryz.underlying45 (Eq.refl (some _)) A6r rfl;exact h
theorem C74{g o k:Nat}:A0b Tryz.prog 45 3 (.pointer (some ⟨g,o,some k⟩))=some (.pointer (some ⟨g,o+3,some k⟩)):=by have h:=A8a (g:=g) (o:=o) (k:=k) (f:=3) Tryz.underlying45 (Eq.refl (some _)) A1c rfl;exact h
theorem D8b{g o k:Nat}:A0b Tryz.prog 45 4 (.pointer (some ⟨g,o,some k⟩))=some (.pointer (some ⟨g,o+4,some k⟩)):=by have h:=A8a (g:=g) (o:=o) (k:=k) (f:=4) Tryz.underlying45 (Eq.refl (some _)) A1c rfl;exact h
theorem bld_45{v0 v1 v2 v3 v4:Value}(h0:isCell v0=true)(h1:isCell v1=true)(h2:isCell v2=true)(h3:isCell v3=true)(h4:isCell v4=true):A9n Tryz.prog 45 [(0,v0),(1,v1),(2,v2),(3,v3),(4,v4)]=some (.agg #[v0,v1,v2,v3,v4]):=by refine A5j (pl:=[(0,1),(1,1),(2,1),(3,1),(4,1)]) Tryz.underlying45 B7a (by kernel_rfl) ?_;have va:∀xs:Array Value,A6a (.agg xs)=xs.toList:=fun _=>rfl;simp[A3w,A7a h0,A7a h1,A7a h2,A7a h3,A7a h4,va,h0,h1,h2,h3,h4,setCells,A0c]
theorem D7b{g o k:Nat}:A0b Tryz.prog 47 0 (.pointer (some ⟨g,o,some k⟩))=some (.pointer (some ⟨g,o+0,some k⟩)):=by have h:=A8a (g:=g) (o:=o) (k:=k) (f:=0) Tryz.underlying47 (Eq.refl (some _)) A1c rfl;exact h
theorem D4a{g o k:Nat}:A0b Tryz.prog 47 1 (.pointer (some ⟨g,o,some k⟩))=some (.pointer (some ⟨g,o+1,some k⟩)):=by have h:=A8a (g:=g) (o:=o) (k:=k) (f:=1) Tryz.underlying47 (Eq.refl (some _)) A1c rfl;exact h
theorem bld_47{v0 v1:Value}(h0:isCell v0=true)(h1:isCell v1=true):A9n Tryz.prog 47 [(0,v0),(1,v1)]=some (.agg #[v0,v1]):=by refine A5j (pl:=[(0,1),(1,1)]) Tryz.underlying47 A49 (by kernel_rfl) ?_;have va:∀xs:Array Value,A6a (.agg xs)=xs.toList:=fun _=>rfl;simp[A3w,A7a h0,A7a h1,va,h0,h1,setCells,A0c]
theorem C44{g o k:Nat}:A0b Tryz.prog 52 0 (.pointer (some ⟨g,o,some k⟩))=some (.pointer (some ⟨g,o+0,some k⟩)):=by have h:=A8a (g:=g) (o:=o) (k:=k) (f:=0) Tryz.underlying52 (Eq.refl (some _)) size_50 rfl;exact h
theorem bld_52{v0:Value}(h0:isCell v0=true):A9n Tryz.prog 52 [(0,v0)]=some (.agg #[v0]):=by refine A5j (pl:=[(0,1)]) Tryz.underlying52 C8a (by kernel_rfl) ?_;have va:∀xs:Array Value,A6a (.agg xs)=xs.toList:=fun _=>rfl;simp[A3w,A7a h0,va,h0,setCells,A0c]
theorem len_57{H:AH}{n c:Nat}{a:Option Addr}:A3a Tryz.prog .len [57] [.slice a n c] H=some (.int .i64 (n:Int),H):=A0g Tryz.underlying57
theorem C6h{c:Bool}{a:Option Addr}{n m:Nat}:abin Tryz.prog 57 c .eql (.slice a n m) (.slice none 0 0)=some (.bool a.isNone):=A7g Tryz.underlying57
theorem B6y{c:Bool}{a:Option Addr}{n m:Nat}:abin Tryz.prog 57 c .neq (.slice a n m) (.slice none 0 0)=some (.bool a.isSome):=A6c Tryz.underlying57
theorem B91{H:AH}:A4a Tryz.prog 57 0 [] H=some (.slice (some ⟨H.next,0,some 0⟩) 0 0,(H.new 1 []).2):=A0h Tryz.underlying57 size_86 B79 rfl (Nat.le_of_ble_eq_true rfl)
theorem len_58{H:AH}{n c:Nat}{a:Option Addr}:A3a Tryz.prog .len [58] [.slice a n c] H=some (.int .i64 (n:Int),H):=A0g Tryz.underlying58
theorem info_58:((Tryz.prog.info? 4).map fun i=>Nat.beq i.size 1&&Nat.ble i.bytes 4096)=some true:=by kernel_rfl
theorem C5o{c:Bool}{a:Option Addr}{n m:Nat}:abin Tryz.prog 58 c .eql (.slice a n m) (.slice none 0 0)=some (.bool a.isNone):=A7g Tryz.underlying58
theorem B2z{c:Bool}{a:Option Addr}{n m:Nat}:abin Tryz.prog 58 c .neq (.slice a n m) (.slice none 0 0)=some (.bool a.isSome):=A6c Tryz.underlying58
theorem mk_58{H:AH}{l c:Nat}(hlc:l≤c)(hc:c≤17179869184):A4f Tryz.prog 58 (.int .i64 (l:Int)) (.int .i64 (c:Int)) H=some (.slice (some ⟨H.next,0,some 0⟩) l c,(H.new 1 (List.replicate c (.bool false))).2):=by rw[←A8x];exact A93 Tryz.underlying58 info_58 B1o rfl (Nat.le_of_ble_eq_true rfl) hlc hc
theorem B60{H:AH}:A4a Tryz.prog 58 0 [] H=some (.slice (some ⟨H.next,0,some 0⟩) 0 0,(H.new 1 []).2):=A0h Tryz.underlying58 A5r B1o rfl (Nat.le_of_ble_eq_true rfl)
theorem C8w{g o k:Nat}:A0b Tryz.prog 60 0 (.pointer (some ⟨g,o,some k⟩))=some (.pointer (some ⟨g,o+0,some k⟩)):=by have h:=A8a (g:=g) (o:=o) (k:=k) (f:=0) Tryz.underlying60 (Eq.refl (some _)) A1c rfl;exact h
theorem C51{g o k:Nat}:A0b Tryz.prog 60 1 (.pointer (some ⟨g,o,some k⟩))=some (.pointer (some ⟨g,o+1,some k⟩)):=by have h:=A8a (g:=g) (o:=o) (k:=k) (f:=1) Tryz.underlying60 (Eq.refl (some _)) size_57 rfl;exact h
theorem C7z{g o k:Nat}:A0b Tryz.prog 60 2 (.pointer (some ⟨g,o,some k⟩))=some (.pointer (some ⟨g,o+2,some k⟩)):=by have h:=A8a (g:=g) (o:=o) (k:=k) (f:=2) Tryz.underlying60 (Eq.refl (some _)) B2t rfl;exact h
theorem ia_71{g o k n c i:Nat}{j:IntKind}(h:i<n):A4b Tryz.prog 71 (.slice (some ⟨g,o,some k⟩) n c) (.int j (i:Int))=some (.pointer (some ⟨g,o+i*1,some k⟩)):=A2u Tryz.underlying71 A1c h
theorem len_71{H:AH}{n c:Nat}{a:Option Addr}:A3a Tryz.prog .len [71] [.slice a n c] H=some (.int .i64 (n:Int),H):=A0g Tryz.underlying71
theorem C6c:((Tryz.prog.info? 3).map fun i=>Nat.beq i.size 1&&Nat.ble i.bytes 4096)=some true:=by kernel_rfl
theorem C9h{H:AH}{t' len cap n:Nat}{base:Option Addr}{x:Value}{new:List Value}(hx:Sh.srcKind Tryz.prog t' x=true)(hn:Sh.newCells 1 H x=some (n,new))(hb:len+n≤17179869184):A3a Tryz.prog .append [71,t'] [.slice base len cap,x] H=A5d 1 base len cap n new H:=A08 Tryz.underlying71 C6c A10 rfl (Nat.le_of_ble_eq_true rfl) hx hn hb
theorem B5u{H:AH}{len cap:Nat}{base:Option Addr}{x:List Value}(hx:x.length=1)(hb:len≤17179869183):A3a Tryz.prog .append [71,71] [.slice base len cap,.slice (some ⟨H.next,0,some 0⟩) 1 1] (H.new 1 x).2=A5d 1 base len cap 1 x (H.new 1 x).2:=A3k Tryz.underlying71 C6c A10 rfl (Nat.le_of_ble_eq_true rfl) hx hb
theorem C0j{c:Bool}{a:Option Addr}{n m:Nat}:abin Tryz.prog 71 c .eql (.slice a n m) (.slice none 0 0)=some (.bool a.isNone):=A7g Tryz.underlying71
theorem B16{c:Bool}{a:Option Addr}{n m:Nat}:abin Tryz.prog 71 c .neq (.slice a n m) (.slice none 0 0)=some (.bool a.isSome):=A6c Tryz.underlying71
theorem mk_71{H:AH}{l c:Nat}(hlc:l≤c)(hc:c≤17179869184):A4f Tryz.prog 71 (.int .i64 (l:Int)) (.int .i64 (c:Int)) H=some (.slice (some ⟨H.next,0,some 0⟩) l c,(H.new 1 (List.replicate c (.int .i64 0))).2):=by rw[←A8x];exact A93 Tryz.underlying71 C6c A10 rfl (Nat.le_of_ble_eq_true rfl) hlc hc
theorem B73{H:AH}:A4a Tryz.prog 71 0 [] H=some (.slice (some ⟨H.next,0,some 0⟩) 0 0,(H.new 1 []).2):=A0h Tryz.underlying71 A1c A10 rfl (Nat.le_of_ble_eq_true rfl)
theorem A3o{H:AH}{x:Value}(hx:(A6a x).length=1)(hc:(A6a x).all isCell=true):A4a Tryz.prog 71 1 [(0,x)] H=some (.slice (some ⟨H.next,0,some 0⟩) 1 1,(H.new 1 (A6a x)).2):=A2l Tryz.underlying71 A1c A10 rfl (Nat.le_of_ble_eq_true rfl) (Nat.le_of_ble_eq_true rfl) hx hc
theorem C67{g o k:Nat}:A0b Tryz.prog 81 0 (.pointer (some ⟨g,o,some k⟩))=some (.pointer (some ⟨g,o+0,some k⟩)):=by have h:=A8a (g:=g) (o:=o) (k:=k) (f:=0) Tryz.underlying81 (Eq.refl (some _)) A1c rfl;exact h
theorem C20{g o k:Nat}:A0b Tryz.prog 81 1 (.pointer (some ⟨g,o,some k⟩))=some (.pointer (some ⟨g,o+1,some k⟩)):=by have h:=A8a (g:=g) (o:=o) (k:=k) (f:=1) Tryz.underlying81 (Eq.refl (some _)) A1c rfl;exact h
theorem C8x{g o k:Nat}:A0b Tryz.prog 81 2 (.pointer (some ⟨g,o,some k⟩))=some (.pointer (some ⟨g,o+2,some k⟩)):=by have h:=A8a (g:=g) (o:=o) (k:=k) (f:=2) Tryz.underlying81 (Eq.refl (some _)) A1c rfl;exact h
theorem C77{g o k:Nat}:A0b Tryz.prog 81 3 (.pointer (some ⟨g,o,some k⟩))=some (.pointer (some ⟨g,o+3,some k⟩)):=by have h:=A8a (g:=g) (o:=o) (k:=k) (f:=3) Tryz.underlying81 (Eq.refl (some _)) A1c rfl;exact h
theorem bld_81{v0 v1 v2 v3:Value}(h0:isCell v0=true)(h1:isCell v1=true)(h2:isCell v2=true)(h3:isCell v3=true):A9n Tryz.prog 81 [(0,v0),(1,v1),(2,v2),(3,v3)]=some (.agg #[v0,v1,v2,v3]):=by refine A5j (pl:=[(0,1),(1,1),(2,1),(3,1)]) Tryz.underlying81 A39 (by kernel_rfl) ?_;have va:∀xs:Array Value,A6a (.agg xs)=xs.toList:=fun _=>rfl;simp[A3w,A7a h0,A7a h1,A7a h2,A7a h3,va,h0,h1,h2,h3,setCells,A0c]
theorem len_86{H:AH}{n c:Nat}{a:Option Addr}:A3a Tryz.prog .len [86] [.slice a n c] H=some (.int .i64 (n:Int),H):=A0g Tryz.underlying86
theorem C5k{c:Bool}{a:Option Addr}{n m:Nat}:abin Tryz.prog 86 c .eql (.slice a n m) (.slice none 0 0)=some (.bool a.isNone):=A7g Tryz.underlying86
theorem B06{c:Bool}{a:Option Addr}{n m:Nat}:abin Tryz.prog 86 c .neq (.slice a n m) (.slice none 0 0)=some (.bool a.isSome):=A6c Tryz.underlying86
theorem B7y{H:AH}:A4a Tryz.prog 86 0 [] H=some (.slice (some ⟨H.next,0,some 0⟩) 0 0,(H.new 2 []).2):=A0h Tryz.underlying86 C7x B68 rfl (Nat.le_of_ble_eq_true rfl)
theorem C04{g o k:Nat}:A0b Tryz.prog 88 0 (.pointer (some ⟨g,o,some k⟩))=some (.pointer (some ⟨g,o+0,some k⟩)):=by have h:=A8a (g:=g) (o:=o) (k:=k) (f:=0) Tryz.underlying88 (Eq.refl (some _)) A6r rfl;exact h
theorem C9w{g o k:Nat}:A0b Tryz.prog 88 1 (.pointer (some ⟨g,o,some k⟩))=some (.pointer (some ⟨g,o+1,some k⟩)):=by have h:=A8a (g:=g) (o:=o) (k:=k) (f:=1) Tryz.underlying88 (Eq.refl (some _)) A1c rfl;exact h
theorem len_92{H:AH}{n c:Nat}{a:Option Addr}:A3a Tryz.prog .len [92] [.slice a n c] H=some (.int .i64 (n:Int),H):=A0g Tryz.underlying92
theorem info_92:((Tryz.prog.info? 58).map fun i=>Nat.beq i.size 1&&Nat.ble i.bytes 4096)=some true:=by kernel_rfl
theorem app1_92{H:AH}{len cap:Nat}{base:Option Addr}{x:List Value}(hx:x.length=1)(hb:len≤17179869183):A3a Tryz.prog .append [92,92] [.slice base len cap,.slice (some ⟨H.next,0,some 0⟩) 1 1] (H.new 1 x).2=A5d 1 base len cap 1 x (H.new 1 x).2:=A3k Tryz.underlying92 info_92 B2i rfl (Nat.le_of_ble_eq_true rfl) hx hb
theorem C1q{c:Bool}{a:Option Addr}{n m:Nat}:abin Tryz.prog 92 c .eql (.slice a n m) (.slice none 0 0)=some (.bool a.isNone):=A7g Tryz.underlying92
theorem B26{c:Bool}{a:Option Addr}{n m:Nat}:abin Tryz.prog 92 c .neq (.slice a n m) (.slice none 0 0)=some (.bool a.isSome):=A6c Tryz.underlying92
theorem B05{H:AH}:A4a Tryz.prog 92 0 [] H=some (.slice (some ⟨H.next,0,some 0⟩) 0 0,(H.new 1 []).2):=A0h Tryz.underlying92 B2t B2i rfl (Nat.le_of_ble_eq_true rfl)
theorem B74{H:AH}{x:Value}(hx:(A6a x).length=1)(hc:(A6a x).all isCell=true):A4a Tryz.prog 92 1 [(0,x)] H=some (.slice (some ⟨H.next,0,some 0⟩) 1 1,(H.new 1 (A6a x)).2):=A2l Tryz.underlying92 B2t B2i rfl (Nat.le_of_ble_eq_true rfl) (Nat.le_of_ble_eq_true rfl) hx hc
theorem C31{g o k:Nat}:A0b Tryz.prog 94 0 (.pointer (some ⟨g,o,some k⟩))=some (.pointer (some ⟨g,o+0,some k⟩)):=by have h:=A8a (g:=g) (o:=o) (k:=k) (f:=0) Tryz.underlying94 (Eq.refl (some _)) C26 rfl;exact h
theorem D2b{g o k:Nat}:A0b Tryz.prog 94 1 (.pointer (some ⟨g,o,some k⟩))=some (.pointer (some ⟨g,o+3,some k⟩)):=by have h:=A8a (g:=g) (o:=o) (k:=k) (f:=1) Tryz.underlying94 (Eq.refl (some _)) C38 rfl;exact h
theorem C66{g o k:Nat}:A0b Tryz.prog 94 2 (.pointer (some ⟨g,o,some k⟩))=some (.pointer (some ⟨g,o+4,some k⟩)):=by have h:=A8a (g:=g) (o:=o) (k:=k) (f:=2) Tryz.underlying94 (Eq.refl (some _)) A1c rfl;exact h
theorem C12{g o k:Nat}:A0b Tryz.prog 94 3 (.pointer (some ⟨g,o,some k⟩))=some (.pointer (some ⟨g,o+5,some k⟩)):=by have h:=A8a (g:=g) (o:=o) (k:=k) (f:=3) Tryz.underlying94 (Eq.refl (some _)) size_30 rfl;exact h
theorem C14{H:AH}{n c:Nat}{a:Option Addr}:A3a Tryz.prog .len [101] [.slice a n c] H=some (.int .i64 (n:Int),H):=A0g Tryz.underlying101
theorem C0p:((Tryz.prog.info? 111).map fun i=>Nat.beq i.size 1&&Nat.ble i.bytes 4096)=some true:=by kernel_rfl
theorem app_101{H:AH}{t' len cap n:Nat}{base:Option Addr}{x:Value}{new:List Value}(hx:Sh.srcKind Tryz.prog t' x=true)(hn:Sh.newCells 1 H x=some (n,new))(hb:len+n≤17179869184):A3a Tryz.prog .append [101,t'] [.slice base len cap,x] H=A5d 1 base len cap n new H:=A08 Tryz.underlying101 C0p A21 rfl (Nat.le_of_ble_eq_true rfl) hx hn hb
theorem B48{c:Bool}{a:Option Addr}{n m:Nat}:abin Tryz.prog 101 c .eql (.slice a n m) (.slice none 0 0)=some (.bool a.isNone):=A7g Tryz.underlying101
theorem B8n{c:Bool}{a:Option Addr}{n m:Nat}:abin Tryz.prog 101 c .neq (.slice a n m) (.slice none 0 0)=some (.bool a.isSome):=A6c Tryz.underlying101
theorem mk_101{H:AH}{l c:Nat}(hlc:l≤c)(hc:c≤17179869184):A4f Tryz.prog 101 (.int .i64 (l:Int)) (.int .i64 (c:Int)) H=some (.slice (some ⟨H.next,0,some 0⟩) l c,(H.new 1 (List.replicate c (.slice none 0 0))).2):=by rw[←A8x];exact A93 Tryz.underlying101 C0p A21 rfl (Nat.le_of_ble_eq_true rfl) hlc hc
theorem B3s{H:AH}:A4a Tryz.prog 101 0 [] H=some (.slice (some ⟨H.next,0,some 0⟩) 0 0,(H.new 1 []).2):=A0h Tryz.underlying101 A9p A21 rfl (Nat.le_of_ble_eq_true rfl)
theorem C5s{H:AH}{x:Value}(hx:(A6a x).length=1)(hc:(A6a x).all isCell=true):A4a Tryz.prog 101 1 [(0,x)] H=some (.slice (some ⟨H.next,0,some 0⟩) 1 1,(H.new 1 (A6a x)).2):=A2l Tryz.underlying101 A9p A21 rfl (Nat.le_of_ble_eq_true rfl) (Nat.le_of_ble_eq_true rfl) hx hc
theorem C7h{g o k:Nat}:A0b Tryz.prog 103 0 (.pointer (some ⟨g,o,some k⟩))=some (.pointer (some ⟨g,o+0,some k⟩)):=by have h:=A8a (g:=g) (o:=o) (k:=k) (f:=0) Tryz.underlying103 (Eq.refl (some _)) A4t rfl;exact h
theorem C1i{g o k:Nat}:A0b Tryz.prog 103 1 (.pointer (some ⟨g,o,some k⟩))=some (.pointer (some ⟨g,o+1,some k⟩)):=by have h:=A8a (g:=g) (o:=o) (k:=k) (f:=1) Tryz.underlying103 (Eq.refl (some _)) C5g rfl;exact h
theorem C7j{g o k:Nat}:A0b Tryz.prog 103 2 (.pointer (some ⟨g,o,some k⟩))=some (.pointer (some ⟨g,o+2,some k⟩)):=by have h:=A8a (g:=g) (o:=o) (k:=k) (f:=2) Tryz.underlying103 (Eq.refl (some _)) A6s rfl;exact h
theorem C8n{g o k:Nat}:A0b Tryz.prog 103 3 (.pointer (some ⟨g,o,some k⟩))=some (.pointer (some ⟨g,o+3,some k⟩)):=by have h:=A8a (g:=g) (o:=o) (k:=k) (f:=3) Tryz.underlying103 (Eq.refl (some _)) A6s rfl;exact h
theorem C6n{g o k:Nat}:A0b Tryz.prog 105 0 (.pointer (some ⟨g,o,some k⟩))=some (.pointer (some ⟨g,o+0,some k⟩)):=by have h:=A8a (g:=g) (o:=o) (k:=k) (f:=0) Tryz.underlying105 (Eq.refl (some _)) A1c rfl;exact h
theorem C8l{g o k:Nat}:A0b Tryz.prog 105 1 (.pointer (some ⟨g,o,some k⟩))=some (.pointer (some ⟨g,o+1,some k⟩)):=by have h:=A8a (g:=g) (o:=o) (k:=k) (f:=1) Tryz.underlying105 (Eq.refl (some _)) A1c rfl;exact h
theorem C18{H:AH}{n c:Nat}{a:Option Addr}:A3a Tryz.prog .len [107] [.slice a n c] H=some (.int .i64 (n:Int),H):=A0g Tryz.underlying107
theorem info_107:((Tryz.prog.info? 105).map fun i=>Nat.beq i.size 2&&Nat.ble i.bytes 4096)=some true:=by kernel_rfl
theorem app1_107{H:AH}{len cap:Nat}{base:Option Addr}{x:List Value}(hx:x.length=2)(hb:len≤17179869183):A3a Tryz.prog .append [107,107] [.slice base len cap,.slice (some ⟨H.next,0,some 0⟩) 1 1] (H.new 2 x).2=A5d 2 base len cap 1 x (H.new 2 x).2:=A3k Tryz.underlying107 info_107 A32 rfl (Nat.le_of_ble_eq_true rfl) hx hb
theorem B95{c:Bool}{a:Option Addr}{n m:Nat}:abin Tryz.prog 107 c .eql (.slice a n m) (.slice none 0 0)=some (.bool a.isNone):=A7g Tryz.underlying107
theorem B6s{c:Bool}{a:Option Addr}{n m:Nat}:abin Tryz.prog 107 c .neq (.slice a n m) (.slice none 0 0)=some (.bool a.isSome):=A6c Tryz.underlying107
theorem B6p{H:AH}:A4a Tryz.prog 107 0 [] H=some (.slice (some ⟨H.next,0,some 0⟩) 0 0,(H.new 2 []).2):=A0h Tryz.underlying107 A6w A32 rfl (Nat.le_of_ble_eq_true rfl)
theorem C7r{H:AH}{x:Value}(hx:(A6a x).length=2)(hc:(A6a x).all isCell=true):A4a Tryz.prog 107 1 [(0,x)] H=some (.slice (some ⟨H.next,0,some 0⟩) 1 1,(H.new 2 (A6a x)).2):=A2l Tryz.underlying107 A6w A32 rfl (Nat.le_of_ble_eq_true rfl) (Nat.le_of_ble_eq_true rfl) hx hc
theorem C82{H:AH}{n c:Nat}{a:Option Addr}:A3a Tryz.prog .len [111] [.slice a n c] H=some (.int .i64 (n:Int),H):=A0g Tryz.underlying111
theorem info_111:((Tryz.prog.info? 81).map fun i=>Nat.beq i.size 4&&Nat.ble i.bytes 4096)=some true:=by kernel_rfl
theorem C0k{H:AH}{len cap:Nat}{base:Option Addr}{x:List Value}(hx:x.length=4)(hb:len≤17179869183):A3a Tryz.prog .append [111,111] [.slice base len cap,.slice (some ⟨H.next,0,some 0⟩) 1 1] (H.new 4 x).2=A5d 4 base len cap 1 x (H.new 4 x).2:=A3k Tryz.underlying111 info_111 A39 rfl (Nat.le_of_ble_eq_true rfl) hx hb
theorem B51{c:Bool}{a:Option Addr}{n m:Nat}:abin Tryz.prog 111 c .eql (.slice a n m) (.slice none 0 0)=some (.bool a.isNone):=A7g Tryz.underlying111
theorem B0r{c:Bool}{a:Option Addr}{n m:Nat}:abin Tryz.prog 111 c .neq (.slice a n m) (.slice none 0 0)=some (.bool a.isSome):=A6c Tryz.underlying111
theorem B5q{H:AH}:A4a Tryz.prog 111 0 [] H=some (.slice (some ⟨H.next,0,some 0⟩) 0 0,(H.new 4 []).2):=A0h Tryz.underlying111 A80 A39 rfl (Nat.le_of_ble_eq_true rfl)
theorem B6q{H:AH}{x:Value}(hx:(A6a x).length=4)(hc:(A6a x).all isCell=true):A4a Tryz.prog 111 1 [(0,x)] H=some (.slice (some ⟨H.next,0,some 0⟩) 1 1,(H.new 4 (A6a x)).2):=A2l Tryz.underlying111 A80 A39 rfl (Nat.le_of_ble_eq_true rfl) (Nat.le_of_ble_eq_true rfl) hx hc
theorem D2a{H:AH}{n c:Nat}{a:Option Addr}:A3a Tryz.prog .len [120] [.slice a n c] H=some (.int .i64 (n:Int),H):=A0g Tryz.underlying120
theorem info_120:((Tryz.prog.info? 121).map fun i=>Nat.beq i.size 1&&Nat.ble i.bytes 4096)=some true:=by kernel_rfl
theorem B24{c:Bool}{a:Option Addr}{n m:Nat}:abin Tryz.prog 120 c .eql (.slice a n m) (.slice none 0 0)=some (.bool a.isNone):=A7g Tryz.underlying120
theorem B7o{c:Bool}{a:Option Addr}{n m:Nat}:abin Tryz.prog 120 c .neq (.slice a n m) (.slice none 0 0)=some (.bool a.isSome):=A6c Tryz.underlying120
theorem D7c{H:AH}{l c:Nat}(hlc:l≤c)(hc:c≤17179869184):A4f Tryz.prog 120 (.int .i64 (l:Int)) (.int .i64 (c:Int)) H=some (.slice (some ⟨H.next,0,some 0⟩) l c,(H.new 1 (List.replicate c (.int .u64 0))).2):=by rw[←A8x];exact A93 Tryz.underlying120 info_120 B4e rfl (Nat.le_of_ble_eq_true rfl) hlc hc
theorem B1p{H:AH}:A4a Tryz.prog 120 0 [] H=some (.slice (some ⟨H.next,0,some 0⟩) 0 0,(H.new 1 []).2):=A0h Tryz.underlying120 A8i B4e rfl (Nat.le_of_ble_eq_true rfl)
theorem C2z{H:AH}{n c:Nat}{a:Option Addr}:A3a Tryz.prog .len [131] [.slice a n c] H=some (.int .i64 (n:Int),H):=A0g Tryz.underlying131
theorem C4p:((Tryz.prog.info? 71).map fun i=>Nat.beq i.size 1&&Nat.ble i.bytes 4096)=some true:=by kernel_rfl
theorem app1_131{H:AH}{len cap:Nat}{base:Option Addr}{x:List Value}(hx:x.length=1)(hb:len≤17179869183):A3a Tryz.prog .append [131,131] [.slice base len cap,.slice (some ⟨H.next,0,some 0⟩) 1 1] (H.new 1 x).2=A5d 1 base len cap 1 x (H.new 1 x).2:=A3k Tryz.underlying131 C4p A89 rfl (Nat.le_of_ble_eq_true rfl) hx hb
theorem B4y{c:Bool}{a:Option Addr}{n m:Nat}:abin Tryz.prog 131 c .eql (.slice a n m) (.slice none 0 0)=some (.bool a.isNone):=A7g Tryz.underlying131
theorem B8s{c:Bool}{a:Option Addr}{n m:Nat}:abin Tryz.prog 131 c .neq (.slice a n m) (.slice none 0 0)=some (.bool a.isSome):=A6c Tryz.underlying131
theorem mk_131{H:AH}{l c:Nat}(hlc:l≤c)(hc:c≤17179869184):A4f Tryz.prog 131 (.int .i64 (l:Int)) (.int .i64 (c:Int)) H=some (.slice (some ⟨H.next,0,some 0⟩) l c,(H.new 1 (List.replicate c (.slice none 0 0))).2):=by rw[←A8x];exact A93 Tryz.underlying131 C4p A89 rfl (Nat.le_of_ble_eq_true rfl) hlc hc
theorem B1r{H:AH}:A4a Tryz.prog 131 0 [] H=some (.slice (some ⟨H.next,0,some 0⟩) 0 0,(H.new 1 []).2):=A0h Tryz.underlying131 A6s A89 rfl (Nat.le_of_ble_eq_true rfl)
theorem C4v{H:AH}{x:Value}(hx:(A6a x).length=1)(hc:(A6a x).all isCell=true):A4a Tryz.prog 131 1 [(0,x)] H=some (.slice (some ⟨H.next,0,some 0⟩) 1 1,(H.new 1 (A6a x)).2):=A2l Tryz.underlying131 A6s A89 rfl (Nat.le_of_ble_eq_true rfl) (Nat.le_of_ble_eq_true rfl) hx hc
theorem C69{H:AH}{n c:Nat}{a:Option Addr}:A3a Tryz.prog .len [146] [.slice a n c] H=some (.int .i64 (n:Int),H):=A0g Tryz.underlying146
theorem info_146:((Tryz.prog.info? 3).map fun i=>Nat.beq i.size 1&&Nat.ble i.bytes 4096)=some true:=by kernel_rfl
theorem app1_146{H:AH}{len cap:Nat}{base:Option Addr}{x:List Value}(hx:x.length=1)(hb:len≤17179869183):A3a Tryz.prog .append [146,146] [.slice base len cap,.slice (some ⟨H.next,0,some 0⟩) 1 1] (H.new 1 x).2=A5d 1 base len cap 1 x (H.new 1 x).2:=A3k Tryz.underlying146 info_146 A10 rfl (Nat.le_of_ble_eq_true rfl) hx hb
theorem B45{c:Bool}{a:Option Addr}{n m:Nat}:abin Tryz.prog 146 c .eql (.slice a n m) (.slice none 0 0)=some (.bool a.isNone):=A7g Tryz.underlying146
theorem B4p{c:Bool}{a:Option Addr}{n m:Nat}:abin Tryz.prog 146 c .neq (.slice a n m) (.slice none 0 0)=some (.bool a.isSome):=A6c Tryz.underlying146
theorem B9o{H:AH}:A4a Tryz.prog 146 0 [] H=some (.slice (some ⟨H.next,0,some 0⟩) 0 0,(H.new 1 []).2):=A0h Tryz.underlying146 A1c A10 rfl (Nat.le_of_ble_eq_true rfl)
theorem C3r{H:AH}{x:Value}(hx:(A6a x).length=1)(hc:(A6a x).all isCell=true):A4a Tryz.prog 146 1 [(0,x)] H=some (.slice (some ⟨H.next,0,some 0⟩) 1 1,(H.new 1 (A6a x)).2):=A2l Tryz.underlying146 A1c A10 rfl (Nat.le_of_ble_eq_true rfl) (Nat.le_of_ble_eq_true rfl) hx hc
theorem D1c{H:AH}{n c:Nat}{a:Option Addr}:A3a Tryz.prog .len [148] [.slice a n c] H=some (.int .i64 (n:Int),H):=A0g Tryz.underlying148
theorem info_148:((Tryz.prog.info? 146).map fun i=>Nat.beq i.size 1&&Nat.ble i.bytes 4096)=some true:=by kernel_rfl
theorem B15{c:Bool}{a:Option Addr}{n m:Nat}:abin Tryz.prog 148 c .eql (.slice a n m) (.slice none 0 0)=some (.bool a.isNone):=A7g Tryz.underlying148
theorem B0q{c:Bool}{a:Option Addr}{n m:Nat}:abin Tryz.prog 148 c .neq (.slice a n m) (.slice none 0 0)=some (.bool a.isSome):=A6c Tryz.underlying148
theorem mk_148{H:AH}{l c:Nat}(hlc:l≤c)(hc:c≤17179869184):A4f Tryz.prog 148 (.int .i64 (l:Int)) (.int .i64 (c:Int)) H=some (.slice (some ⟨H.next,0,some 0⟩) l c,(H.new 1 (List.replicate c (.slice none 0 0))).2):=by rw[←A8x];exact A93 Tryz.underlying148 info_148 B8d rfl (Nat.le_of_ble_eq_true rfl) hlc hc
theorem B5o{H:AH}:A4a Tryz.prog 148 0 [] H=some (.slice (some ⟨H.next,0,some 0⟩) 0 0,(H.new 1 []).2):=A0h Tryz.underlying148 B3e B8d rfl (Nat.le_of_ble_eq_true rfl)
theorem C8f{H:AH}{n:Int}:A2i Tryz.prog 3 122 (.int .i64 n) H=some (.int .u64 (IntKind.wrap .u64 n),H):=A4y Tryz.underlying3 Tryz.underlying122
theorem C0q{H:AH}{n:Int}:A2i Tryz.prog 3 182 (.int .i64 n) H=some (.int .u64 (IntKind.wrap .u64 n),H):=A4y Tryz.underlying3 Tryz.underlying182
theorem cv_5_3{H:AH}{n:Int}:A2i Tryz.prog 5 3 (.int .u8 n) H=some (.int .i64 (IntKind.wrap .i64 n),H):=A4y Tryz.underlying5 Tryz.underlying3
theorem C0n{H:AH}{n:Int}:A2i Tryz.prog 121 5 (.int .u64 n) H=some (.int .u8 (IntKind.wrap .u8 n),H):=A4y Tryz.underlying121 Tryz.underlying5
theorem C2l{H:AH}{n:Int}:A2i Tryz.prog 122 3 (.int .u64 n) H=some (.int .i64 (IntKind.wrap .i64 n),H):=A4y Tryz.underlying122 Tryz.underlying3
theorem B9q{H:AH}{n:Int}:A2i Tryz.prog 122 175 (.int .u64 n) H=some (.int .u32 (IntKind.wrap .u32 n),H):=A4y Tryz.underlying122 Tryz.underlying175
theorem C2k{H:AH}{n:Int}:A2i Tryz.prog 175 5 (.int .u32 n) H=some (.int .u8 (IntKind.wrap .u8 n),H):=A4y Tryz.underlying175 Tryz.underlying5
theorem B03:type_of% (And.intro @zero_1 (And.intro @ld_1 (And.intro @zero_2 (And.intro @ld_2 (And.intro @A10 (And.intro @ld_3 (And.intro @B1o (And.intro @ld_4 (And.intro @zero_5 (And.intro @ld_5 (And.intro @B1g (And.intro @ld_9 (And.intro @B3b (And.intro @ld_22 (And.intro @C5x (And.intro @ld_23 (And.intro @C08 (And.intro @ld_24 (And.intro @A14 (And.intro @ld_26 (And.intro @C4y (And.intro @ld_30 (And.intro @C47 (And.intro @ld_31 (And.intro @C94 (And.intro @ld_37 (And.intro @C81 (And.intro @ld_43 (And.intro @B7a (And.intro @ld_45 (And.intro @A49 (And.intro @ld_47 (And.intro @C3w (And.intro @ld_50 (And.intro @C8a (And.intro @ld_52 (And.intro @D3b (And.intro @ld_57 (And.intro @B2i (And.intro @ld_58 (And.intro @C87 (And.intro @ld_60 (And.intro @C52 (And.intro @ld_67 (And.intro @A89 (And.intro @ld_71 (And.intro @A39 (And.intro @ld_81 (And.intro @B79 (And.intro @ld_86 (And.intro @B68 (And.intro @ld_88 (And.intro @C11 (And.intro @ld_91 (And.intro @C8z (And.intro @ld_92 (And.intro @C39 (And.intro @ld_94 (And.intro @C36 (And.intro @ld_98 (And.intro @C2f (And.intro @ld_101 (And.intro @B6v (And.intro @ld_103 (And.intro @A32 (And.intro @ld_105 (And.intro @C5n (And.intro @ld_106 (And.intro @C3h (And.intro @ld_107 (And.intro @C0l (And.intro @ld_109 (And.intro @A21 (And.intro @ld_111 (And.intro @C8o (And.intro @ld_115 (And.intro @C6j (And.intro @ld_119 (And.intro @C8k (And.intro @ld_120 (And.intro @B4e (And.intro @ld_121 (And.intro @C2m (And.intro @ld_122 (And.intro @C9p (And.intro @ld_123 (And.intro @C4l (And.intro @ld_131 (And.intro @C5i (And.intro @ld_145 (And.intro @B8d (And.intro @ld_146 (And.intro @C5f (And.intro @ld_148 (And.intro @C4o (And.intro @ld_152 (And.intro @C4i (And.intro @ld_153 (And.intro @C2i (And.intro @ld_161 (And.intro @C8i (And.intro @ld_167 (And.intro @C1o (And.intro @ld_175 (And.intro @C1l (And.intro @ld_182 (And.intro @C3i (And.intro @ld_186 (And.intro @C1p (And.intro @ld_190 (And.intro @len_9 (And.intro @len_22 (And.intro @C8g (And.intro @B41 (And.intro @B12 (And.intro @len_23 (And.intro @C9j (And.intro @B35 (And.intro @B63 (And.intro @len_24 (And.intro @C1k (And.intro @B14 (And.intro @B5y (And.intro @C15 (And.intro @C50 (And.intro @C4z (And.intro @C03 (And.intro @len_30 (And.intro @C3f (And.intro @B3z (And.intro @B38 (And.intro @D5a (And.intro @D3d (And.intro @C16 (And.intro @C4x (And.intro @D2c (And.intro @C6m (And.intro @B75 (And.intro @B17 (And.intro @C9x (And.intro @C68 (And.intro @C1z (And.intro @C74 (And.intro @D8b (And.intro @D7b (And.intro @D4a (And.intro @C44 (And.intro @len_57 (And.intro @C6h (And.intro @B6y (And.intro @B91 (And.intro @len_58 (And.intro @C5o (And.intro @B2z (And.intro @B60 (And.intro @C8w (And.intro @C51 (And.intro @C7z (And.intro @len_71 (And.intro @C0j (And.intro @B16 (And.intro @B73 (And.intro @C67 (And.intro @C20 (And.intro @C8x (And.intro @C77 (And.intro @len_86 (And.intro @C5k (And.intro @B06 (And.intro @B7y (And.intro @C04 (And.intro @C9w (And.intro @len_92 (And.intro @C1q (And.intro @B26 (And.intro @B05 (And.intro @C31 (And.intro @D2b (And.intro @C66 (And.intro @C12 (And.intro @C14 (And.intro @B48 (And.intro @B8n (And.intro @B3s (And.intro @C7h (And.intro @C1i (And.intro @C7j (And.intro @C8n (And.intro @C6n (And.intro @C8l (And.intro @C18 (And.intro @B95 (And.intro @B6s (And.intro @B6p (And.intro @C82 (And.intro @B51 (And.intro @B0r (And.intro @B5q (And.intro @D2a (And.intro @B24 (And.intro @B7o (And.intro @B1p (And.intro @C2z (And.intro @B4y (And.intro @B8s (And.intro @B1r (And.intro @C69 (And.intro @B45 (And.intro @B4p (And.intro @B9o (And.intro @D1c (And.intro @B15 (And.intro @B0q (And.intro @B5o (And.intro @C8f (And.intro @C0q (And.intro @cv_5_3 (And.intro @C0n (And.intro @C2l (And.intro @B9q (@C2k))))))))))))))))))))))))))))))))))))))))))))))))))))))))))))))))))))))))))))))))))))))))))))))))))))))))))))))))))))))))))))))))))))))))))))))))))))))))))))))))))))))))))))))))))))))))))))))))))))))))))))))))))))))))))))):=And.intro @zero_1 (And.intro @ld_1 (And.intro @zero_2 (And.intro @ld_2 (And.intro @A10 (And.intro @ld_3 (And.intro @B1o (And.intro @ld_4 (And.intro @zero_5 (And.intro @ld_5 (And.intro @B1g (And.intro @ld_9 (And.intro @B3b (And.intro @ld_22 (And.intro @C5x (And.intro @ld_23 (And.intro @C08 (And.intro @ld_24 (And.intro @A14 (And.intro @ld_26 (And.intro @C4y (And.intro @ld_30 (And.intro @C47 (And.intro @ld_31 (And.intro @C94 (And.intro @ld_37 (And.intro @C81 (And.intro @ld_43 (And.intro @B7a (And.intro @ld_45 (And.intro @A49 (And.intro @ld_47 (And.intro @C3w (And.intro @ld_50 (And.intro @C8a (And.intro @ld_52 (And.intro @D3b (And.intro @ld_57 (And.intro @B2i (And.intro @ld_58 (And.intro @C87 (And.intro @ld_60 (And.intro @C52 (And.intro @ld_67 (And.intro @A89 (And.intro @ld_71 (And.intro @A39 (And.intro @ld_81 (And.intro @B79 (And.intro @ld_86 (And.intro @B68 (And.intro @ld_88 (And.intro @C11 (And.intro @ld_91 (And.intro @C8z (And.intro @ld_92 (And.intro @C39 (And.intro @ld_94 (And.intro @C36 (And.intro @ld_98 (And.intro @C2f (And.intro @ld_101 (And.intro @B6v (And.intro @ld_103 (And.intro @A32 (And.intro @ld_105 (And.intro @C5n (And.intro @ld_106 (And.intro @C3h (And.intro @ld_107 (And.intro @C0l (And.intro @ld_109 (And.intro @A21 (And.intro @ld_111 (And.intro @C8o (And.intro @ld_115 (And.intro @C6j (And.intro @ld_119 (And.intro @C8k (And.intro @ld_120 (And.intro @B4e (And.intro @ld_121 (And.intro @C2m (And.intro @ld_122 (And.intro @C9p (And.intro @ld_123 (And.intro @C4l (And.intro @ld_131 (And.intro @C5i (And.intro @ld_145 (And.intro @B8d (And.intro @ld_146 (And.intro @C5f (And.intro @ld_148 (And.intro @C4o (And.intro @ld_152 (And.intro @C4i (And.intro @ld_153 (And.intro @C2i (And.intro @ld_161 (And.intro @C8i (And.intro @ld_167 (And.intro @C1o (And.intro @ld_175 (And.intro @C1l (And.intro @ld_182 (And.intro @C3i (And.intro @ld_186 (And.intro @C1p (And.intro @ld_190 (And.intro @len_9 (And.intro @len_22 (And.intro @C8g (And.intro @B41 (And.intro @B12 (And.intro @len_23 (And.intro @C9j (And.intro @B35 (And.intro @B63 (And.intro @len_24 (And.intro @C1k (And.intro @B14 (And.intro @B5y (And.intro @C15 (And.intro @C50 (And.intro @C4z (And.intro @C03 (And.intro @len_30 (And.intro @C3f (And.intro @B3z (And.intro @B38 (And.intro @D5a (And.intro @D3d (And.intro @C16 (And.intro @C4x (And.intro @D2c (And.intro @C6m (And.intro @B75 (And.intro @B17 (And.intro @C9x (And.intro @C68 (And.intro @C1z (And.intro @C74 (And.intro @D8b (And.intro @D7b (And.intro @D4a (And.intro @C44 (And.intro @len_57 (And.intro @C6h (And.intro @B6y (And.intro @B91 (And.intro @len_58 (And.intro @C5o (And.intro @B2z (And.intro @B60 (And.intro @C8w (And.intro @C51 (And.intro @C7z (And.intro @len_71 (And.intro @C0j (And.intro @B16 (And.intro @B73 (And.intro @C67 (And.intro @C20 (And.intro @C8x (And.intro @C77 (And.intro @len_86 (And.intro @C5k (And.intro @B06 (And.intro @B7y (And.intro @C04 (And.intro @C9w (And.intro @len_92 (And.intro @C1q (And.intro @B26 (And.intro @B05 (And.intro @C31 (And.intro @D2b (And.intro @C66 (And.intro @C12 (And.intro @C14 (And.intro @B48 (And.intro @B8n (And.intro @B3s (And.intro @C7h (And.intro @C1i (And.intro @C7j (And.intro @C8n (And.intro @C6n (And.intro @C8l (And.intro @C18 (And.intro @B95 (And.intro @B6s (And.intro @B6p (And.intro @C82 (And.intro @B51 (And.intro @B0r (And.intro @B5q (And.intro @D2a (And.intro @B24 (And.intro @B7o (And.intro @B1p (And.intro @C2z (And.intro @B4y (And.intro @B8s (And.intro @B1r (And.intro @C69 (And.intro @B45 (And.intro @B4p (And.intro @B9o (And.intro @D1c (And.intro @B15 (And.intro @B0q (And.intro @B5o (And.intro @C8f (And.intro @C0q (And.intro @cv_5_3 (And.intro @C0n (And.intro @C2l (And.intro @B9q (@C2k))))))))))))))))))))))))))))))))))))))))))))))))))))))))))))))))))))))))))))))))))))))))))))))))))))))))))))))))))))))))))))))))))))))))))))))))))))))))))))))))))))))))))))))))))))))))))))))))))))))))))))))))))))))))))))
theorem sx:type_of% (And.intro @Sh.sy @B03):=And.intro @Sh.sy @B03
set_option maxHeartbeats 4000000
section
variable {H:AH} {g:Nat} {sg ar en v:Value} {N:NetD}
theorem A9y(hsg:isCell sg=true)(har:isCell ar=true)(hen:isCell en=true){n:Int}:anew Tryz.prog 26 H (.agg #[sg,.int .i64 n,ar,en])=some (.pointer (some ⟨H.next,0,some 0⟩),(H.new 4 [sg,.int .i64 n,ar,en]).2):=
 A2r (vs:=[sg,.int .i64 n,ar,en]) A2p rfl (by simp[hsg,har,hen,show isCell (.int .i64 n)=true from rfl])
theorem A51(hsg:isCell sg=true)(har:isCell ar=true)(hen:isCell en=true){n:Int}{p:Addr}:A7d Tryz.prog 26 H (.agg #[sg,.int .i64 n,ar,en]) (.pointer (some p))=H.write p [sg,.int .i64 n,ar,en]:=
 A9s (vs:=[sg,.int .i64 n,ar,en]) A2p rfl (by simp[hsg,har,hen,show isCell (.int .i64 n)=true from rfl])
theorem A44:anew Tryz.prog 26 H (.agg #[.slice none 0 0,.int .i64 0,.slice none 0 0,.slice none 0 0])=some (.pointer (some ⟨H.next,0,some 0⟩),(H.new 4 [.slice none 0 0,.int .i64 0,.slice none 0 0,.slice none 0 0]).2):=A2r (vs:=[.slice none 0 0,.int .i64 0,.slice none 0 0,.slice none 0 0]) A2p rfl rfl
theorem B39:anew Tryz.prog 45 H (.agg #[.int .i64 0,.string ⟨#[]⟩,.string ⟨#[]⟩,.int .i64 0,.int .i64 0])=some (.pointer (some ⟨H.next,0,some 0⟩),(H.new 5 [.int .i64 0,.string ⟨#[]⟩,.string ⟨#[]⟩,.int .i64 0,.int .i64 0]).2):=
 A2r (vs:=[.int .i64 0,.string ⟨#[]⟩,.string ⟨#[]⟩,.int .i64 0,.int .i64 0]) A6x rfl rfl
theorem C1d:anew Tryz.prog 47 H (.agg #[.int .i64 0,.int .i64 0])=some (.pointer (some ⟨H.next,0,some 0⟩),(H.new 2 [.int .i64 0,.int .i64 0]).2):=A2r (vs:=[.int .i64 0,.int .i64 0]) A6z rfl rfl
theorem B7u{a:ArcD}{p:Addr}:A7d Tryz.prog 45 H (.agg a.cells.toArray) (.pointer (some p))=H.write p a.cells:=A9s A6x rfl rfl
theorem B0v{a:EndD}{p:Addr}:A7d Tryz.prog 47 H (.agg a.cells.toArray) (.pointer (some p))=H.write p a.cells:=A9s A6z rfl rfl
theorem C4a{a:ArcD}{x0 x1 x2 x3 x4:Value}:(H.new 5 [x0,x1,x2,x3,x4]).2.write ⟨H.next,0,some 0⟩ a.cells=some (H.new 5 a.cells).2:=A3l rfl
theorem C5b{a:EndD}{x0 x1:Value}:(H.new 2 [x0,x1]).2.write ⟨H.next,0,some 0⟩ a.cells=some (H.new 2 a.cells).2:=A3l rfl
theorem B5v{x0 x1 x2 x3 y0 y1 y2 y3:Value}:(H.new 4 [x0,x1,x2,x3]).2.write ⟨H.next,0,some 0⟩ [y0,y1,y2,y3]=some (H.new 4 [y0,y1,y2,y3]).2:=A3l rfl
theorem arc0{a:ArcD}:(H.new 5 a.cells).2.cell ⟨H.next,0,some 0⟩=some (.int .i64 a.fr):=A9h _ _ _
theorem arc1{a:ArcD}:(H.new 5 a.cells).2.cell ⟨H.next,1,some 0⟩=some (.string a.inn):=A9h _ _ _
theorem arc2{a:ArcD}:(H.new 5 a.cells).2.cell ⟨H.next,2,some 0⟩=some (.string a.out):=A9h _ _ _
theorem arc3{a:ArcD}:(H.new 5 a.cells).2.cell ⟨H.next,3,some 0⟩=some (.int .i64 a.to):=A9h _ _ _
theorem arc4{a:ArcD}:(H.new 5 a.cells).2.cell ⟨H.next,4,some 0⟩=some (.int .i64 a.cost):=A9h _ _ _
theorem end0{a:EndD}:(H.new 2 a.cells).2.cell ⟨H.next,0,some 0⟩=some (.int .i64 a.state):=A9h _ _ _
theorem end1{a:EndD}:(H.new 2 a.cells).2.cell ⟨H.next,1,some 0⟩=some (.int .i64 a.cost):=A9h _ _ _
theorem A3r(h:NetBox H g sg ar en N){H':AH}:A3a Tryz.prog .len [23] [ar] H'=some (.int .i64 (N.arcs.length:Int),H'):=by rw[h.har.len Tryz.underlying23 H',List.length_map]
theorem B4g(h:NetBox H g sg ar en N){H':AH}:A3a Tryz.prog .len [24] [en] H'=some (.int .i64 (N.ends.length:Int),H'):=by rw[h.hen.len Tryz.underlying24 H',List.length_map]
theorem C1c{d:Nat}{a b:Int}:eqT Tryz.prog (d+1) 3 (.int .i64 a) (.int .i64 b)=some (decide (a=b)):=by
 simp only[eqT,Tryz.underlying3,A5e,cond_true,A3q];rfl
end
end Go.Proofs.YtjjgodccecehlaaGreat
