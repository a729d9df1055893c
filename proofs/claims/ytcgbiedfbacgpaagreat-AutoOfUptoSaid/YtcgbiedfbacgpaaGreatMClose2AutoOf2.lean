/- A part of the proof: Facts, NetFacts, AnyLong, IsSymbol, AllSymbols, IsSet, RefSigma, Search, SearchAt, SearchStrings, IsIn, ValidateNet, IsFree, RefValidate, NetOk, CloneStr, GraphNew, RefGraph, CmpLessInt, InsSortInt, SortSmallInt, BitsLen, BreakPatInt, HeapSortInt, PartitionInt, PartInsInt, PdqInt. -/
import Derived.Test.YtcgbiedfbacgpaaGreatProg
import Derived.Test.YtcgbiedfbacgpaaGreatMClose2AutoOf1
import Derived.KernelRfl
set_option linter.unusedVariables false
set_option linter.unusedSimpArgs false
/- What the types of this program are, for walking. Made by program. -/
set_option linter.unusedVariables false
namespace Go.Proofs.YtcgbiedfbacgpaaGreat
open Go Go.Proofs Go.Proofs.Sh
theorem agg_1:A9f Tryz.prog 1=some false:=by kernel_rfl
theorem zero_1:zeroAt Tryz.prog 1=some (.nilFunc):=by kernel_rfl
theorem ld_1 {H:AH} {a:Addr}:A5f Tryz.prog 1 H (.pointer (some a))=H.cell a:=A5b agg_1
theorem agg_2:A9f Tryz.prog 2=some false:=by kernel_rfl
theorem zero_2:zeroAt Tryz.prog 2=some (.int .i64 0):=by kernel_rfl
theorem ld_2 {H:AH} {a:Addr}:A5f Tryz.prog 2 H (.pointer (some a))=H.cell a:=A5b agg_2
theorem B57:A9f Tryz.prog 3=some false:=by kernel_rfl
theorem A2f:A3c Tryz.prog 3=some 1:=by kernel_rfl
theorem A01:zeroAt Tryz.prog 3=some (.int .i64 0):=by kernel_rfl
theorem ld_3 {H:AH} {a:Addr}:A5f Tryz.prog 3 H (.pointer (some a))=H.cell a:=A5b B57
theorem agg_4:A9f Tryz.prog 4=some false:=by kernel_rfl
theorem A1u:A3c Tryz.prog 4=some 1:=by kernel_rfl
theorem B3g:zeroAt Tryz.prog 4=some (.bool false):=by kernel_rfl
theorem ld_4 {H:AH} {a:Addr}:A5f Tryz.prog 4 H (.pointer (some a))=H.cell a:=A5b agg_4
theorem agg_5:A9f Tryz.prog 5=some false:=by kernel_rfl
theorem zero_5:zeroAt Tryz.prog 5=some (.int .u8 0):=by kernel_rfl
theorem ld_5 {H:AH} {a:Addr}:A5f Tryz.prog 5 H (.pointer (some a))=H.cell a:=A5b agg_5
theorem agg_9:A9f Tryz.prog 9=some false:=by kernel_rfl
theorem A6h:A3c Tryz.prog 9=some 1:=by kernel_rfl
theorem cells_9:Tryz.prog.cellsOf 9=1:=by kernel_rfl
theorem B3n:zeroAt Tryz.prog 9=some (.string ⟨#[]⟩):=by kernel_rfl
theorem ld_9 {H:AH} {a:Addr}:A5f Tryz.prog 9 H (.pointer (some a))=H.cell a:=A5b agg_9
theorem agg_22:A9f Tryz.prog 22=some false:=by kernel_rfl
theorem A5k:A3c Tryz.prog 22=some 1:=by kernel_rfl
theorem cells_22:Tryz.prog.cellsOf 22=1:=by kernel_rfl
theorem A18:zeroAt Tryz.prog 22=some (.slice none 0 0):=by kernel_rfl
theorem ld_22 {H:AH} {a:Addr}:A5f Tryz.prog 22 H (.pointer (some a))=H.cell a:=A5b agg_22
theorem agg_23:A9f Tryz.prog 23=some false:=by kernel_rfl
theorem C0v:A3c Tryz.prog 23=some 1:=by kernel_rfl
theorem C5k:zeroAt Tryz.prog 23=some (.slice none 0 0):=by kernel_rfl
theorem ld_23 {H:AH} {a:Addr}:A5f Tryz.prog 23 H (.pointer (some a))=H.cell a:=A5b agg_23
theorem agg_24:A9f Tryz.prog 24=some false:=by kernel_rfl
theorem C9m:A3c Tryz.prog 24=some 1:=by kernel_rfl
theorem C0n:zeroAt Tryz.prog 24=some (.slice none 0 0):=by kernel_rfl
theorem ld_24 {H:AH} {a:Addr}:A5f Tryz.prog 24 H (.pointer (some a))=H.cell a:=A5b agg_24
theorem agg_26:A9f Tryz.prog 26=some true:=by kernel_rfl
theorem A91:A3c Tryz.prog 26=some 4:=by kernel_rfl
theorem A52:zeroAt Tryz.prog 26=some (.agg #[.slice none 0 0,.int .i64 0,.slice none 0 0,.slice none 0 0]):=by kernel_rfl
theorem ld_26 {H:AH} {a:Addr}:A5f Tryz.prog 26 H (.pointer (some a))=(H.cells a 4).map fun l=>.agg l.toArray:=A2s agg_26 A91
theorem agg_29:A9f Tryz.prog 29=some false:=by kernel_rfl
theorem C1m:A3c Tryz.prog 29=some 1:=by kernel_rfl
theorem C4z:zeroAt Tryz.prog 29=some (.slice none 0 0):=by kernel_rfl
theorem ld_29 {H:AH} {a:Addr}:A5f Tryz.prog 29 H (.pointer (some a))=H.cell a:=A5b agg_29
theorem agg_30:A9f Tryz.prog 30=some false:=by kernel_rfl
theorem C0o:zeroAt Tryz.prog 30=some (.int .i64 0):=by kernel_rfl
theorem ld_30 {H:AH} {a:Addr}:A5f Tryz.prog 30 H (.pointer (some a))=H.cell a:=A5b agg_30
theorem agg_49:A9f Tryz.prog 49=some true:=by kernel_rfl
theorem A9r:A3c Tryz.prog 49=some 5:=by kernel_rfl
theorem A72:zeroAt Tryz.prog 49=some (.agg #[.int .i64 0,.string ⟨#[]⟩,.string ⟨#[]⟩,.int .i64 0,.int .i64 0]):=by kernel_rfl
theorem ld_49 {H:AH} {a:Addr}:A5f Tryz.prog 49 H (.pointer (some a))=(H.cells a 5).map fun l=>.agg l.toArray:=A2s agg_49 A9r
theorem agg_51:A9f Tryz.prog 51=some true:=by kernel_rfl
theorem A3t:A3c Tryz.prog 51=some 2:=by kernel_rfl
theorem A82:zeroAt Tryz.prog 51=some (.agg #[.int .i64 0,.int .i64 0]):=by kernel_rfl
theorem ld_51 {H:AH} {a:Addr}:A5f Tryz.prog 51 H (.pointer (some a))=(H.cells a 2).map fun l=>.agg l.toArray:=A2s agg_51 A3t
theorem agg_52:A9f Tryz.prog 52=some false:=by kernel_rfl
theorem C6p:zeroAt Tryz.prog 52=some (.pointer none):=by kernel_rfl
theorem ld_52 {H:AH} {a:Addr}:A5f Tryz.prog 52 H (.pointer (some a))=H.cell a:=A5b agg_52
theorem agg_57:A9f Tryz.prog 57=some false:=by kernel_rfl
theorem size_57:A3c Tryz.prog 57=some 1:=by kernel_rfl
theorem C6w:zeroAt Tryz.prog 57=some (.slice none 0 0):=by kernel_rfl
theorem ld_57 {H:AH} {a:Addr}:A5f Tryz.prog 57 H (.pointer (some a))=H.cell a:=A5b agg_57
theorem agg_58:A9f Tryz.prog 58=some false:=by kernel_rfl
theorem B7c:A3c Tryz.prog 58=some 1:=by kernel_rfl
theorem B6f:zeroAt Tryz.prog 58=some (.slice none 0 0):=by kernel_rfl
theorem ld_58 {H:AH} {a:Addr}:A5f Tryz.prog 58 H (.pointer (some a))=H.cell a:=A5b agg_58
theorem agg_60:A9f Tryz.prog 60=some true:=by kernel_rfl
theorem B1b:A3c Tryz.prog 60=some 3:=by kernel_rfl
theorem B96:zeroAt Tryz.prog 60=some (.agg #[.int .i64 0,.slice none 0 0,.slice none 0 0]):=by kernel_rfl
theorem ld_60 {H:AH} {a:Addr}:A5f Tryz.prog 60 H (.pointer (some a))=(H.cells a 3).map fun l=>.agg l.toArray:=A2s agg_60 B1b
theorem agg_64:A9f Tryz.prog 64=some false:=by kernel_rfl
theorem C2v:zeroAt Tryz.prog 64=some (.nilFunc):=by kernel_rfl
theorem ld_64 {H:AH} {a:Addr}:A5f Tryz.prog 64 H (.pointer (some a))=H.cell a:=A5b agg_64
theorem agg_65:A9f Tryz.prog 65=some false:=by kernel_rfl
theorem C1v:zeroAt Tryz.prog 65=some (.slice none 0 0):=by kernel_rfl
theorem ld_65 {H:AH} {a:Addr}:A5f Tryz.prog 65 H (.pointer (some a))=H.cell a:=A5b agg_65
theorem agg_68:A9f Tryz.prog 68=some false:=by kernel_rfl
theorem C8q:A3c Tryz.prog 68=some 1:=by kernel_rfl
theorem C7u:zeroAt Tryz.prog 68=some (.slice none 0 0):=by kernel_rfl
theorem ld_68 {H:AH} {a:Addr}:A5f Tryz.prog 68 H (.pointer (some a))=H.cell a:=A5b agg_68
theorem agg_69:A9f Tryz.prog 69=some false:=by kernel_rfl
theorem B5d:A3c Tryz.prog 69=some 1:=by kernel_rfl
theorem B03:zeroAt Tryz.prog 69=some (.slice none 0 0):=by kernel_rfl
theorem ld_69 {H:AH} {a:Addr}:A5f Tryz.prog 69 H (.pointer (some a))=H.cell a:=A5b agg_69
theorem agg_71:A9f Tryz.prog 71=some true:=by kernel_rfl
theorem C8w:A3c Tryz.prog 71=some 4:=by kernel_rfl
theorem B47:zeroAt Tryz.prog 71=some (.agg #[.slice none 0 0,.slice none 0 0,.slice none 0 0,.slice none 0 0]):=by kernel_rfl
theorem ld_71 {H:AH} {a:Addr}:A5f Tryz.prog 71 H (.pointer (some a))=(H.cells a 4).map fun l=>.agg l.toArray:=A2s agg_71 C8w
theorem agg_75:A9f Tryz.prog 75=some false:=by kernel_rfl
theorem C3p:zeroAt Tryz.prog 75=some (.map none):=by kernel_rfl
theorem ld_75 {H:AH} {a:Addr}:A5f Tryz.prog 75 H (.pointer (some a))=H.cell a:=A5b agg_75
theorem agg_79:A9f Tryz.prog 79=some true:=by kernel_rfl
theorem size_79:A3c Tryz.prog 79=some 2:=by kernel_rfl
theorem B06:zeroAt Tryz.prog 79=some (.agg #[.int .i64 0,.int .i64 0]):=by kernel_rfl
theorem ld_79 {H:AH} {a:Addr}:A5f Tryz.prog 79 H (.pointer (some a))=(H.cells a 2).map fun l=>.agg l.toArray:=A2s agg_79 size_79
theorem agg_85:A9f Tryz.prog 85=some false:=by kernel_rfl
theorem B46:A3c Tryz.prog 85=some 1:=by kernel_rfl
theorem B5h:zeroAt Tryz.prog 85=some (.map none):=by kernel_rfl
theorem ld_85 {H:AH} {a:Addr}:A5f Tryz.prog 85 H (.pointer (some a))=H.cell a:=A5b agg_85
theorem agg_86:A9f Tryz.prog 86=some false:=by kernel_rfl
theorem C2n:zeroAt Tryz.prog 86=some (.slice none 0 0):=by kernel_rfl
theorem ld_86 {H:AH} {a:Addr}:A5f Tryz.prog 86 H (.pointer (some a))=H.cell a:=A5b agg_86
theorem agg_87:A9f Tryz.prog 87=some false:=by kernel_rfl
theorem C9n:zeroAt Tryz.prog 87=some (.map none):=by kernel_rfl
theorem ld_87 {H:AH} {a:Addr}:A5f Tryz.prog 87 H (.pointer (some a))=H.cell a:=A5b agg_87
theorem agg_90:A9f Tryz.prog 90=some false:=by kernel_rfl
theorem C1y:zeroAt Tryz.prog 90=some (.nilFunc):=by kernel_rfl
theorem ld_90 {H:AH} {a:Addr}:A5f Tryz.prog 90 H (.pointer (some a))=H.cell a:=A5b agg_90
theorem agg_92:A9f Tryz.prog 92=some false:=by kernel_rfl
theorem B6c:A3c Tryz.prog 92=some 1:=by kernel_rfl
theorem A38:zeroAt Tryz.prog 92=some (.slice none 0 0):=by kernel_rfl
theorem ld_92 {H:AH} {a:Addr}:A5f Tryz.prog 92 H (.pointer (some a))=H.cell a:=A5b agg_92
theorem agg_95:A9f Tryz.prog 95=some true:=by kernel_rfl
theorem A97:A3c Tryz.prog 95=some 4:=by kernel_rfl
theorem A27:zeroAt Tryz.prog 95=some (.agg #[.int .i64 0,.int .i64 0,.int .i64 0,.int .i64 0]):=by kernel_rfl
theorem ld_95 {H:AH} {a:Addr}:A5f Tryz.prog 95 H (.pointer (some a))=(H.cells a 4).map fun l=>.agg l.toArray:=A2s agg_95 A97
theorem agg_97:A9f Tryz.prog 97=some false:=by kernel_rfl
theorem A0q:A3c Tryz.prog 97=some 1:=by kernel_rfl
theorem B0r:zeroAt Tryz.prog 97=some (.slice none 0 0):=by kernel_rfl
theorem ld_97 {H:AH} {a:Addr}:A5f Tryz.prog 97 H (.pointer (some a))=H.cell a:=A5b agg_97
theorem agg_99:A9f Tryz.prog 99=some true:=by kernel_rfl
theorem A6s:A3c Tryz.prog 99=some 2:=by kernel_rfl
theorem A28:zeroAt Tryz.prog 99=some (.agg #[.string ⟨#[]⟩,.int .i64 0]):=by kernel_rfl
theorem ld_99 {H:AH} {a:Addr}:A5f Tryz.prog 99 H (.pointer (some a))=(H.cells a 2).map fun l=>.agg l.toArray:=A2s agg_99 A6s
theorem agg_102:A9f Tryz.prog 102=some false:=by kernel_rfl
theorem C5e:zeroAt Tryz.prog 102=some (.pointer none):=by kernel_rfl
theorem ld_102 {H:AH} {a:Addr}:A5f Tryz.prog 102 H (.pointer (some a))=H.cell a:=A5b agg_102
theorem agg_103:A9f Tryz.prog 103=some false:=by kernel_rfl
theorem B89:A3c Tryz.prog 103=some 1:=by kernel_rfl
theorem C1d:zeroAt Tryz.prog 103=some (.slice none 0 0):=by kernel_rfl
theorem ld_103 {H:AH} {a:Addr}:A5f Tryz.prog 103 H (.pointer (some a))=H.cell a:=A5b agg_103
theorem agg_105:A9f Tryz.prog 105=some true:=by kernel_rfl
theorem B49:A3c Tryz.prog 105=some 6:=by kernel_rfl
theorem B1r:zeroAt Tryz.prog 105=some (.agg #[.int .i64 0,.slice none 0 0,.slice none 0 0,.slice none 0 0,.int .i64 0,.slice none 0 0]):=by kernel_rfl
theorem ld_105 {H:AH} {a:Addr}:A5f Tryz.prog 105 H (.pointer (some a))=(H.cells a 6).map fun l=>.agg l.toArray:=A2s agg_105 B49
theorem agg_110:A9f Tryz.prog 110=some false:=by kernel_rfl
theorem B08:zeroAt Tryz.prog 110=some (.nilFunc):=by kernel_rfl
theorem ld_110 {H:AH} {a:Addr}:A5f Tryz.prog 110 H (.pointer (some a))=H.cell a:=A5b agg_110
theorem agg_113:A9f Tryz.prog 113=some false:=by kernel_rfl
theorem C5a:zeroAt Tryz.prog 113=some (.nilFunc):=by kernel_rfl
theorem ld_113 {H:AH} {a:Addr}:A5f Tryz.prog 113 H (.pointer (some a))=H.cell a:=A5b agg_113
theorem agg_114:A9f Tryz.prog 114=some false:=by kernel_rfl
theorem size_114:A3c Tryz.prog 114=some 1:=by kernel_rfl
theorem B9r:zeroAt Tryz.prog 114=some (.slice none 0 0):=by kernel_rfl
theorem ld_114 {H:AH} {a:Addr}:A5f Tryz.prog 114 H (.pointer (some a))=H.cell a:=A5b agg_114
theorem agg_117:A9f Tryz.prog 117=some false:=by kernel_rfl
theorem C4d:zeroAt Tryz.prog 117=some (.slice none 0 0):=by kernel_rfl
theorem ld_117 {H:AH} {a:Addr}:A5f Tryz.prog 117 H (.pointer (some a))=H.cell a:=A5b agg_117
theorem agg_121:A9f Tryz.prog 121=some false:=by kernel_rfl
theorem C6f:zeroAt Tryz.prog 121=some (.nilFunc):=by kernel_rfl
theorem ld_121 {H:AH} {a:Addr}:A5f Tryz.prog 121 H (.pointer (some a))=H.cell a:=A5b agg_121
theorem agg_123:A9f Tryz.prog 123=some false:=by kernel_rfl
theorem C8f:zeroAt Tryz.prog 123=some (.map none):=by kernel_rfl
theorem ld_123 {H:AH} {a:Addr}:A5f Tryz.prog 123 H (.pointer (some a))=H.cell a:=A5b agg_123
theorem agg_129:A9f Tryz.prog 129=some false:=by kernel_rfl
theorem B48:zeroAt Tryz.prog 129=some (.nilFunc):=by kernel_rfl
theorem ld_129 {H:AH} {a:Addr}:A5f Tryz.prog 129 H (.pointer (some a))=H.cell a:=A5b agg_129
theorem agg_139:A9f Tryz.prog 139=some false:=by kernel_rfl
theorem B79:zeroAt Tryz.prog 139=some (.int .u64 0):=by kernel_rfl
theorem ld_139 {H:AH} {a:Addr}:A5f Tryz.prog 139 H (.pointer (some a))=H.cell a:=A5b agg_139
theorem agg_152:A9f Tryz.prog 152=some false:=by kernel_rfl
theorem B58:zeroAt Tryz.prog 152=some (.int .i64 0):=by kernel_rfl
theorem ld_152 {H:AH} {a:Addr}:A5f Tryz.prog 152 H (.pointer (some a))=H.cell a:=A5b agg_152
theorem agg_160:A9f Tryz.prog 160=some false:=by kernel_rfl
theorem C2g:zeroAt Tryz.prog 160=some (.int .u32 0):=by kernel_rfl
theorem ld_160 {H:AH} {a:Addr}:A5f Tryz.prog 160 H (.pointer (some a))=H.cell a:=A5b agg_160
theorem agg_162:A9f Tryz.prog 162=some false:=by kernel_rfl
theorem B29:zeroAt Tryz.prog 162=some (.int .u64 0):=by kernel_rfl
theorem ld_162 {H:AH} {a:Addr}:A5f Tryz.prog 162 H (.pointer (some a))=H.cell a:=A5b agg_162
theorem agg_168:A9f Tryz.prog 168=some false:=by kernel_rfl
theorem A3z:A3c Tryz.prog 168=some 1:=by kernel_rfl
theorem C3b:zeroAt Tryz.prog 168=some (.int .u64 0):=by kernel_rfl
theorem ld_168 {H:AH} {a:Addr}:A5f Tryz.prog 168 H (.pointer (some a))=H.cell a:=A5b agg_168
theorem agg_172:A9f Tryz.prog 172=some false:=by kernel_rfl
theorem C1e:zeroAt Tryz.prog 172=some (.pointer none):=by kernel_rfl
theorem ld_172 {H:AH} {a:Addr}:A5f Tryz.prog 172 H (.pointer (some a))=H.cell a:=A5b agg_172
theorem agg_176:A9f Tryz.prog 176=some false:=by kernel_rfl
theorem C3c:zeroAt Tryz.prog 176=some (.pointer none):=by kernel_rfl
theorem ld_176 {H:AH} {a:Addr}:A5f Tryz.prog 176 H (.pointer (some a))=H.cell a:=A5b agg_176
theorem len_9 {H:AH} {s:ByteArray}:A2a Tryz.prog .len [9] [.string s] H=some (.int .i64 (s.size:Int),H):=C8i Tryz.underlying9
theorem ia_22 {g o k n c i:Nat} {j:IntKind} (h:i < n):A7b Tryz.prog 22 (.slice (some ⟨g,o,some k⟩) n c) (.int j (i:Int))=some (.pointer (some ⟨g,o+i * 1,some k⟩)):=A5u Tryz.underlying22 A6h h
theorem len_22 {H:AH} {n c:Nat} {a:Option Addr}:A2a Tryz.prog .len [22] [.slice a n c] H=some (.int .i64 (n:Int),H):=A2h Tryz.underlying22
theorem C9r:((Tryz.prog.info? 9).map fun i=>Nat.beq i.size 1 && Nat.ble i.bytes 65536)=some true:=by kernel_rfl
theorem C6g {H:AH} {t' len cap n:Nat} {base:Option Addr} {x:Value} {new:List Value} (hx:Sh.srcKind Tryz.prog t' x=true) (hn:Sh.newCells 1 H x=some (n,new)) (hb:len+n≤1073741824):A2a Tryz.prog .append [22,t'] [.slice base len cap,x] H=A5d 1 base len cap n new H:=A7v Tryz.underlying22 C9r B3n rfl (Nat.le_of_ble_eq_true rfl) hx hn hb
theorem app1_22 {H:AH} {len cap:Nat} {base:Option Addr} {x:List Value} (hx:x.length=1) (hb:len≤1073741823):A2a Tryz.prog .append [22,22] [.slice base len cap,.slice (some ⟨H.next,0,some 0⟩) 1 1] (H.new 1 x).2=A5d 1 base len cap 1 x (H.new 1 x).2:=A3m Tryz.underlying22 C9r B3n rfl (Nat.le_of_ble_eq_true rfl) hx hb
theorem C1b {c:Bool} {a:Option Addr} {n m:Nat}:abin Tryz.prog 22 c .eql (.slice a n m) (.slice none 0 0)=some (.bool a.isNone):=A2i Tryz.underlying22
theorem B5y {c:Bool} {a:Option Addr} {n m:Nat}:abin Tryz.prog 22 c .neq (.slice a n m) (.slice none 0 0)=some (.bool a.isSome):=A9d Tryz.underlying22
theorem B3s {H:AH}:A4a Tryz.prog 22 0 [] H=some (.slice (some ⟨H.next,0,some 0⟩) 0 0,(H.new 1 []).2):=A0i Tryz.underlying22 A6h B3n rfl (Nat.le_of_ble_eq_true rfl)
theorem B0v {H:AH} {x:Value} (hx:(A7a x).length=1) (hc:(A7a x).all isCell=true):A4a Tryz.prog 22 1 [(0,x)] H=some (.slice (some ⟨H.next,0,some 0⟩) 1 1,(H.new 1 (A7a x)).2):=A2n Tryz.underlying22 A6h B3n rfl (Nat.le_of_ble_eq_true rfl) (Nat.le_of_ble_eq_true rfl) hx hc
theorem len_23 {H:AH} {n c:Nat} {a:Option Addr}:A2a Tryz.prog .len [23] [.slice a n c] H=some (.int .i64 (n:Int),H):=A2h Tryz.underlying23
theorem info_23:((Tryz.prog.info? 49).map fun i=>Nat.beq i.size 5 && Nat.ble i.bytes 65536)=some true:=by kernel_rfl
theorem app1_23 {H:AH} {len cap:Nat} {base:Option Addr} {x:List Value} (hx:x.length=5) (hb:len≤1073741823):A2a Tryz.prog .append [23,23] [.slice base len cap,.slice (some ⟨H.next,0,some 0⟩) 1 1] (H.new 5 x).2=A5d 5 base len cap 1 x (H.new 5 x).2:=A3m Tryz.underlying23 info_23 A72 rfl (Nat.le_of_ble_eq_true rfl) hx hb
theorem C4g {c:Bool} {a:Option Addr} {n m:Nat}:abin Tryz.prog 23 c .eql (.slice a n m) (.slice none 0 0)=some (.bool a.isNone):=A2i Tryz.underlying23
theorem B1v {c:Bool} {a:Option Addr} {n m:Nat}:abin Tryz.prog 23 c .neq (.slice a n m) (.slice none 0 0)=some (.bool a.isSome):=A9d Tryz.underlying23
theorem B1t {H:AH}:A4a Tryz.prog 23 0 [] H=some (.slice (some ⟨H.next,0,some 0⟩) 0 0,(H.new 5 []).2):=A0i Tryz.underlying23 A9r A72 rfl (Nat.le_of_ble_eq_true rfl)
theorem C6u {H:AH} {x:Value} (hx:(A7a x).length=5) (hc:(A7a x).all isCell=true):A4a Tryz.prog 23 1 [(0,x)] H=some (.slice (some ⟨H.next,0,some 0⟩) 1 1,(H.new 5 (A7a x)).2):=A2n Tryz.underlying23 A9r A72 rfl (Nat.le_of_ble_eq_true rfl) (Nat.le_of_ble_eq_true rfl) hx hc
theorem len_24 {H:AH} {n c:Nat} {a:Option Addr}:A2a Tryz.prog .len [24] [.slice a n c] H=some (.int .i64 (n:Int),H):=A2h Tryz.underlying24
theorem info_24:((Tryz.prog.info? 51).map fun i=>Nat.beq i.size 2 && Nat.ble i.bytes 65536)=some true:=by kernel_rfl
theorem app1_24 {H:AH} {len cap:Nat} {base:Option Addr} {x:List Value} (hx:x.length=2) (hb:len≤1073741823):A2a Tryz.prog .append [24,24] [.slice base len cap,.slice (some ⟨H.next,0,some 0⟩) 1 1] (H.new 2 x).2=A5d 2 base len cap 1 x (H.new 2 x).2:=A3m Tryz.underlying24 info_24 A82 rfl (Nat.le_of_ble_eq_true rfl) hx hb
theorem B19 {c:Bool} {a:Option Addr} {n m:Nat}:abin Tryz.prog 24 c .eql (.slice a n m) (.slice none 0 0)=some (.bool a.isNone):=A2i Tryz.underlying24
theorem B40 {c:Bool} {a:Option Addr} {n m:Nat}:abin Tryz.prog 24 c .neq (.slice a n m) (.slice none 0 0)=some (.bool a.isSome):=A9d Tryz.underlying24
theorem B7v {H:AH}:A4a Tryz.prog 24 0 [] H=some (.slice (some ⟨H.next,0,some 0⟩) 0 0,(H.new 2 []).2):=A0i Tryz.underlying24 A3t A82 rfl (Nat.le_of_ble_eq_true rfl)
theorem C7l {H:AH} {x:Value} (hx:(A7a x).length=2) (hc:(A7a x).all isCell=true):A4a Tryz.prog 24 1 [(0,x)] H=some (.slice (some ⟨H.next,0,some 0⟩) 1 1,(H.new 2 (A7a x)).2):=A2n Tryz.underlying24 A3t A82 rfl (Nat.le_of_ble_eq_true rfl) (Nat.le_of_ble_eq_true rfl) hx hc
theorem C5t {g o k:Nat}:A6b Tryz.prog 26 0 (.pointer (some ⟨g,o,some k⟩))=some (.pointer (some ⟨g,o+0,some k⟩)):=by have h:=A3b (g:=g) (o:=o) (k:=k) (f:=0) Tryz.underlying26 (Eq.refl (some _)) A5k rfl; exact h
theorem C1t {g o k:Nat}:A6b Tryz.prog 26 1 (.pointer (some ⟨g,o,some k⟩))=some (.pointer (some ⟨g,o+1,some k⟩)):=by have h:=A3b (g:=g) (o:=o) (k:=k) (f:=1) Tryz.underlying26 (Eq.refl (some _)) A2f rfl; exact h
theorem C1k {g o k:Nat}:A6b Tryz.prog 26 2 (.pointer (some ⟨g,o,some k⟩))=some (.pointer (some ⟨g,o+2,some k⟩)):=by have h:=A3b (g:=g) (o:=o) (k:=k) (f:=2) Tryz.underlying26 (Eq.refl (some _)) C0v rfl; exact h
theorem C6t {g o k:Nat}:A6b Tryz.prog 26 3 (.pointer (some ⟨g,o,some k⟩))=some (.pointer (some ⟨g,o+3,some k⟩)):=by have h:=A3b (g:=g) (o:=o) (k:=k) (f:=3) Tryz.underlying26 (Eq.refl (some _)) C9m rfl; exact h
theorem len_29 {H:AH} {n c:Nat} {a:Option Addr}:A2a Tryz.prog .len [29] [.slice a n c] H=some (.int .i64 (n:Int),H):=A2h Tryz.underlying29
theorem C0w:((Tryz.prog.info? 22).map fun i=>Nat.beq i.size 1 && Nat.ble i.bytes 65536)=some true:=by kernel_rfl
theorem app_29 {H:AH} {t' len cap n:Nat} {base:Option Addr} {x:Value} {new:List Value} (hx:Sh.srcKind Tryz.prog t' x=true) (hn:Sh.newCells 1 H x=some (n,new)) (hb:len+n≤1073741824):A2a Tryz.prog .append [29,t'] [.slice base len cap,x] H=A5d 1 base len cap n new H:=A7v Tryz.underlying29 C0w A18 rfl (Nat.le_of_ble_eq_true rfl) hx hn hb
theorem C6n {H:AH} {len cap:Nat} {base:Option Addr} {x:List Value} (hx:x.length=1) (hb:len≤1073741823):A2a Tryz.prog .append [29,29] [.slice base len cap,.slice (some ⟨H.next,0,some 0⟩) 1 1] (H.new 1 x).2=A5d 1 base len cap 1 x (H.new 1 x).2:=A3m Tryz.underlying29 C0w A18 rfl (Nat.le_of_ble_eq_true rfl) hx hb
theorem C3a {c:Bool} {a:Option Addr} {n m:Nat}:abin Tryz.prog 29 c .eql (.slice a n m) (.slice none 0 0)=some (.bool a.isNone):=A2i Tryz.underlying29
theorem B7y {c:Bool} {a:Option Addr} {n m:Nat}:abin Tryz.prog 29 c .neq (.slice a n m) (.slice none 0 0)=some (.bool a.isSome):=A9d Tryz.underlying29
theorem B22 {H:AH}:A4a Tryz.prog 29 0 [] H=some (.slice (some ⟨H.next,0,some 0⟩) 0 0,(H.new 1 []).2):=A0i Tryz.underlying29 A5k A18 rfl (Nat.le_of_ble_eq_true rfl)
theorem B0e {H:AH} {x:Value} (hx:(A7a x).length=1) (hc:(A7a x).all isCell=true):A4a Tryz.prog 29 1 [(0,x)] H=some (.slice (some ⟨H.next,0,some 0⟩) 1 1,(H.new 1 (A7a x)).2):=A2n Tryz.underlying29 A5k A18 rfl (Nat.le_of_ble_eq_true rfl) (Nat.le_of_ble_eq_true rfl) hx hc
theorem C6s {g o k:Nat}:A6b Tryz.prog 49 0 (.pointer (some ⟨g,o,some k⟩))=some (.pointer (some ⟨g,o+0,some k⟩)):=by have h:=A3b (g:=g) (o:=o) (k:=k) (f:=0) Tryz.underlying49 (Eq.refl (some _)) A2f rfl; exact h
theorem C3q {g o k:Nat}:A6b Tryz.prog 49 1 (.pointer (some ⟨g,o,some k⟩))=some (.pointer (some ⟨g,o+1,some k⟩)):=by have h:=A3b (g:=g) (o:=o) (k:=k) (f:=1) Tryz.underlying49 (Eq.refl (some _)) A6h rfl; exact h
theorem C4y {g o k:Nat}:A6b Tryz.prog 49 2 (.pointer (some ⟨g,o,some k⟩))=some (.pointer (some ⟨g,o+2,some k⟩)):=by have h:=A3b (g:=g) (o:=o) (k:=k) (f:=2) Tryz.underlying49 (Eq.refl (some _)) A6h rfl; exact h
theorem C5s {g o k:Nat}:A6b Tryz.prog 49 3 (.pointer (some ⟨g,o,some k⟩))=some (.pointer (some ⟨g,o+3,some k⟩)):=by have h:=A3b (g:=g) (o:=o) (k:=k) (f:=3) Tryz.underlying49 (Eq.refl (some _)) A2f rfl; exact h
theorem C3l {g o k:Nat}:A6b Tryz.prog 49 4 (.pointer (some ⟨g,o,some k⟩))=some (.pointer (some ⟨g,o+4,some k⟩)):=by have h:=A3b (g:=g) (o:=o) (k:=k) (f:=4) Tryz.underlying49 (Eq.refl (some _)) A2f rfl; exact h
theorem bld_49 {v0 v1 v2 v3 v4:Value} (h0:isCell v0=true) (h1:isCell v1=true) (h2:isCell v2=true) (h3:isCell v3=true) (h4:isCell v4=true):A7j Tryz.prog 49 [(0,v0),(1,v1),(2,v2),(3,v3),(4,v4)]=some (.agg #[v0,v1,v2,v3,v4]):=by refine A1f (pl:=[(0,1),(1,1),(2,1),(3,1),(4,1)]) Tryz.underlying49 A72 (by kernel_rfl) ?_; have va:∀ xs:Array Value,A7a (.agg xs)=xs.toList:=fun _=>rfl; simp [A1s,A8a h0,A8a h1,A8a h2,A8a h3,A8a h4,va,h0,h1,h2,h3,h4,setCells,A6a,A1c]
theorem C9k {g o k:Nat}:A6b Tryz.prog 51 0 (.pointer (some ⟨g,o,some k⟩))=some (.pointer (some ⟨g,o+0,some k⟩)):=by have h:=A3b (g:=g) (o:=o) (k:=k) (f:=0) Tryz.underlying51 (Eq.refl (some _)) A2f rfl; exact h
theorem C6y {g o k:Nat}:A6b Tryz.prog 51 1 (.pointer (some ⟨g,o,some k⟩))=some (.pointer (some ⟨g,o+1,some k⟩)):=by have h:=A3b (g:=g) (o:=o) (k:=k) (f:=1) Tryz.underlying51 (Eq.refl (some _)) A2f rfl; exact h
theorem bld_51 {v0 v1:Value} (h0:isCell v0=true) (h1:isCell v1=true):A7j Tryz.prog 51 [(0,v0),(1,v1)]=some (.agg #[v0,v1]):=by refine A1f (pl:=[(0,1),(1,1)]) Tryz.underlying51 A82 (by kernel_rfl) ?_; have va:∀ xs:Array Value,A7a (.agg xs)=xs.toList:=fun _=>rfl; simp [A1s,A8a h0,A8a h1,va,h0,h1,setCells,A6a,A1c]
theorem len_57 {H:AH} {n c:Nat} {a:Option Addr}:A2a Tryz.prog .len [57] [.slice a n c] H=some (.int .i64 (n:Int),H):=A2h Tryz.underlying57
theorem info_57:((Tryz.prog.info? 97).map fun i=>Nat.beq i.size 1 && Nat.ble i.bytes 65536)=some true:=by kernel_rfl
theorem C6d {c:Bool} {a:Option Addr} {n m:Nat}:abin Tryz.prog 57 c .eql (.slice a n m) (.slice none 0 0)=some (.bool a.isNone):=A2i Tryz.underlying57
theorem B5x {c:Bool} {a:Option Addr} {n m:Nat}:abin Tryz.prog 57 c .neq (.slice a n m) (.slice none 0 0)=some (.bool a.isSome):=A9d Tryz.underlying57
theorem mk_57 {H:AH} {l c:Nat} (hlc:l≤c) (hc:c≤1073741824):A7h Tryz.prog 57 (.int .i64 (l:Int)) (.int .i64 (c:Int)) H=some (.slice (some ⟨H.next,0,some 0⟩) l c,(H.new 1 (List.replicate c (.slice none 0 0))).2):=by rw [← B6a]; exact B3q Tryz.underlying57 info_57 B0r rfl (Nat.le_of_ble_eq_true rfl) hlc hc
theorem B0w {H:AH}:A4a Tryz.prog 57 0 [] H=some (.slice (some ⟨H.next,0,some 0⟩) 0 0,(H.new 1 []).2):=A0i Tryz.underlying57 A0q B0r rfl (Nat.le_of_ble_eq_true rfl)
theorem len_58 {H:AH} {n c:Nat} {a:Option Addr}:A2a Tryz.prog .len [58] [.slice a n c] H=some (.int .i64 (n:Int),H):=A2h Tryz.underlying58
theorem C8y:((Tryz.prog.info? 4).map fun i=>Nat.beq i.size 1 && Nat.ble i.bytes 65536)=some true:=by kernel_rfl
theorem app_58 {H:AH} {t' len cap n:Nat} {base:Option Addr} {x:Value} {new:List Value} (hx:Sh.srcKind Tryz.prog t' x=true) (hn:Sh.newCells 1 H x=some (n,new)) (hb:len+n≤1073741824):A2a Tryz.prog .append [58,t'] [.slice base len cap,x] H=A5d 1 base len cap n new H:=A7v Tryz.underlying58 C8y B3g rfl (Nat.le_of_ble_eq_true rfl) hx hn hb
theorem C2f {c:Bool} {a:Option Addr} {n m:Nat}:abin Tryz.prog 58 c .eql (.slice a n m) (.slice none 0 0)=some (.bool a.isNone):=A2i Tryz.underlying58
theorem B20 {c:Bool} {a:Option Addr} {n m:Nat}:abin Tryz.prog 58 c .neq (.slice a n m) (.slice none 0 0)=some (.bool a.isSome):=A9d Tryz.underlying58
theorem mk_58 {H:AH} {l c:Nat} (hlc:l≤c) (hc:c≤1073741824):A7h Tryz.prog 58 (.int .i64 (l:Int)) (.int .i64 (c:Int)) H=some (.slice (some ⟨H.next,0,some 0⟩) l c,(H.new 1 (List.replicate c (.bool false))).2):=by rw [← B6a]; exact B3q Tryz.underlying58 C8y B3g rfl (Nat.le_of_ble_eq_true rfl) hlc hc
theorem B2z {H:AH}:A4a Tryz.prog 58 0 [] H=some (.slice (some ⟨H.next,0,some 0⟩) 0 0,(H.new 1 []).2):=A0i Tryz.underlying58 A1u B3g rfl (Nat.le_of_ble_eq_true rfl)
theorem C0u {g o k:Nat}:A6b Tryz.prog 60 0 (.pointer (some ⟨g,o,some k⟩))=some (.pointer (some ⟨g,o+0,some k⟩)):=by have h:=A3b (g:=g) (o:=o) (k:=k) (f:=0) Tryz.underlying60 (Eq.refl (some _)) A2f rfl; exact h
theorem C2x {g o k:Nat}:A6b Tryz.prog 60 1 (.pointer (some ⟨g,o,some k⟩))=some (.pointer (some ⟨g,o+1,some k⟩)):=by have h:=A3b (g:=g) (o:=o) (k:=k) (f:=1) Tryz.underlying60 (Eq.refl (some _)) size_57 rfl; exact h
theorem C2w {g o k:Nat}:A6b Tryz.prog 60 2 (.pointer (some ⟨g,o,some k⟩))=some (.pointer (some ⟨g,o+2,some k⟩)):=by have h:=A3b (g:=g) (o:=o) (k:=k) (f:=2) Tryz.underlying60 (Eq.refl (some _)) B7c rfl; exact h
theorem len_65 {H:AH} {n c:Nat} {a:Option Addr}:A2a Tryz.prog .len [65] [.slice a n c] H=some (.int .i64 (n:Int),H):=A2h Tryz.underlying65
theorem C0g {c:Bool} {a:Option Addr} {n m:Nat}:abin Tryz.prog 65 c .eql (.slice a n m) (.slice none 0 0)=some (.bool a.isNone):=A2i Tryz.underlying65
theorem B10 {c:Bool} {a:Option Addr} {n m:Nat}:abin Tryz.prog 65 c .neq (.slice a n m) (.slice none 0 0)=some (.bool a.isSome):=A9d Tryz.underlying65
theorem B7t {H:AH}:A4a Tryz.prog 65 0 [] H=some (.slice (some ⟨H.next,0,some 0⟩) 0 0,(H.new 1 []).2):=A0i Tryz.underlying65 B5d B03 rfl (Nat.le_of_ble_eq_true rfl)
theorem len_68 {H:AH} {n c:Nat} {a:Option Addr}:A2a Tryz.prog .len [68] [.slice a n c] H=some (.int .i64 (n:Int),H):=A2h Tryz.underlying68
theorem C8u:((Tryz.prog.info? 92).map fun i=>Nat.beq i.size 1 && Nat.ble i.bytes 65536)=some true:=by kernel_rfl
theorem app_68 {H:AH} {t' len cap n:Nat} {base:Option Addr} {x:Value} {new:List Value} (hx:Sh.srcKind Tryz.prog t' x=true) (hn:Sh.newCells 1 H x=some (n,new)) (hb:len+n≤1073741824):A2a Tryz.prog .append [68,t'] [.slice base len cap,x] H=A5d 1 base len cap n new H:=A7v Tryz.underlying68 C8u A38 rfl (Nat.le_of_ble_eq_true rfl) hx hn hb
theorem C0h {c:Bool} {a:Option Addr} {n m:Nat}:abin Tryz.prog 68 c .eql (.slice a n m) (.slice none 0 0)=some (.bool a.isNone):=A2i Tryz.underlying68
theorem B5u {c:Bool} {a:Option Addr} {n m:Nat}:abin Tryz.prog 68 c .neq (.slice a n m) (.slice none 0 0)=some (.bool a.isSome):=A9d Tryz.underlying68
theorem mk_68 {H:AH} {l c:Nat} (hlc:l≤c) (hc:c≤1073741824):A7h Tryz.prog 68 (.int .i64 (l:Int)) (.int .i64 (c:Int)) H=some (.slice (some ⟨H.next,0,some 0⟩) l c,(H.new 1 (List.replicate c (.slice none 0 0))).2):=by rw [← B6a]; exact B3q Tryz.underlying68 C8u A38 rfl (Nat.le_of_ble_eq_true rfl) hlc hc
theorem B81 {H:AH}:A4a Tryz.prog 68 0 [] H=some (.slice (some ⟨H.next,0,some 0⟩) 0 0,(H.new 1 []).2):=A0i Tryz.underlying68 B6c A38 rfl (Nat.le_of_ble_eq_true rfl)
theorem C0q {H:AH} {x:Value} (hx:(A7a x).length=1) (hc:(A7a x).all isCell=true):A4a Tryz.prog 68 1 [(0,x)] H=some (.slice (some ⟨H.next,0,some 0⟩) 1 1,(H.new 1 (A7a x)).2):=A2n Tryz.underlying68 B6c A38 rfl (Nat.le_of_ble_eq_true rfl) (Nat.le_of_ble_eq_true rfl) hx hc
theorem ia_69 {g o k n c i:Nat} {j:IntKind} (h:i < n):A7b Tryz.prog 69 (.slice (some ⟨g,o,some k⟩) n c) (.int j (i:Int))=some (.pointer (some ⟨g,o+i * 1,some k⟩)):=A5u Tryz.underlying69 A2f h
theorem len_69 {H:AH} {n c:Nat} {a:Option Addr}:A2a Tryz.prog .len [69] [.slice a n c] H=some (.int .i64 (n:Int),H):=A2h Tryz.underlying69
theorem B83:((Tryz.prog.info? 3).map fun i=>Nat.beq i.size 1 && Nat.ble i.bytes 65536)=some true:=by kernel_rfl
theorem C7q {H:AH} {t' len cap n:Nat} {base:Option Addr} {x:Value} {new:List Value} (hx:Sh.srcKind Tryz.prog t' x=true) (hn:Sh.newCells 1 H x=some (n,new)) (hb:len+n≤1073741824):A2a Tryz.prog .append [69,t'] [.slice base len cap,x] H=A5d 1 base len cap n new H:=A7v Tryz.underlying69 B83 A01 rfl (Nat.le_of_ble_eq_true rfl) hx hn hb
theorem C3y {H:AH} {len cap:Nat} {base:Option Addr} {x:List Value} (hx:x.length=1) (hb:len≤1073741823):A2a Tryz.prog .append [69,69] [.slice base len cap,.slice (some ⟨H.next,0,some 0⟩) 1 1] (H.new 1 x).2=A5d 1 base len cap 1 x (H.new 1 x).2:=A3m Tryz.underlying69 B83 A01 rfl (Nat.le_of_ble_eq_true rfl) hx hb
theorem B68 {c:Bool} {a:Option Addr} {n m:Nat}:abin Tryz.prog 69 c .eql (.slice a n m) (.slice none 0 0)=some (.bool a.isNone):=A2i Tryz.underlying69
theorem B30 {c:Bool} {a:Option Addr} {n m:Nat}:abin Tryz.prog 69 c .neq (.slice a n m) (.slice none 0 0)=some (.bool a.isSome):=A9d Tryz.underlying69
theorem mk_69 {H:AH} {l c:Nat} (hlc:l≤c) (hc:c≤1073741824):A7h Tryz.prog 69 (.int .i64 (l:Int)) (.int .i64 (c:Int)) H=some (.slice (some ⟨H.next,0,some 0⟩) l c,(H.new 1 (List.replicate c (.int .i64 0))).2):=by rw [← B6a]; exact B3q Tryz.underlying69 B83 A01 rfl (Nat.le_of_ble_eq_true rfl) hlc hc
theorem B6t {H:AH}:A4a Tryz.prog 69 0 [] H=some (.slice (some ⟨H.next,0,some 0⟩) 0 0,(H.new 1 []).2):=A0i Tryz.underlying69 A2f A01 rfl (Nat.le_of_ble_eq_true rfl)
theorem A2v {H:AH} {x:Value} (hx:(A7a x).length=1) (hc:(A7a x).all isCell=true):A4a Tryz.prog 69 1 [(0,x)] H=some (.slice (some ⟨H.next,0,some 0⟩) 1 1,(H.new 1 (A7a x)).2):=A2n Tryz.underlying69 A2f A01 rfl (Nat.le_of_ble_eq_true rfl) (Nat.le_of_ble_eq_true rfl) hx hc
theorem C8t {g o k:Nat}:A6b Tryz.prog 71 0 (.pointer (some ⟨g,o,some k⟩))=some (.pointer (some ⟨g,o+0,some k⟩)):=by have h:=A3b (g:=g) (o:=o) (k:=k) (f:=0) Tryz.underlying71 (Eq.refl (some _)) A5k rfl; exact h
theorem C0l {g o k:Nat}:A6b Tryz.prog 71 1 (.pointer (some ⟨g,o,some k⟩))=some (.pointer (some ⟨g,o+1,some k⟩)):=by have h:=A3b (g:=g) (o:=o) (k:=k) (f:=1) Tryz.underlying71 (Eq.refl (some _)) C8q rfl; exact h
theorem C3v {g o k:Nat}:A6b Tryz.prog 71 2 (.pointer (some ⟨g,o,some k⟩))=some (.pointer (some ⟨g,o+2,some k⟩)):=by have h:=A3b (g:=g) (o:=o) (k:=k) (f:=2) Tryz.underlying71 (Eq.refl (some _)) B5d rfl; exact h
theorem C6v {g o k:Nat}:A6b Tryz.prog 71 3 (.pointer (some ⟨g,o,some k⟩))=some (.pointer (some ⟨g,o+3,some k⟩)):=by have h:=A3b (g:=g) (o:=o) (k:=k) (f:=3) Tryz.underlying71 (Eq.refl (some _)) B5d rfl; exact h
theorem len_86 {H:AH} {n c:Nat} {a:Option Addr}:A2a Tryz.prog .len [86] [.slice a n c] H=some (.int .i64 (n:Int),H):=A2h Tryz.underlying86
theorem info_86:((Tryz.prog.info? 85).map fun i=>Nat.beq i.size 1 && Nat.ble i.bytes 65536)=some true:=by kernel_rfl
theorem app1_86 {H:AH} {len cap:Nat} {base:Option Addr} {x:List Value} (hx:x.length=1) (hb:len≤1073741823):A2a Tryz.prog .append [86,86] [.slice base len cap,.slice (some ⟨H.next,0,some 0⟩) 1 1] (H.new 1 x).2=A5d 1 base len cap 1 x (H.new 1 x).2:=A3m Tryz.underlying86 info_86 B5h rfl (Nat.le_of_ble_eq_true rfl) hx hb
theorem B97 {c:Bool} {a:Option Addr} {n m:Nat}:abin Tryz.prog 86 c .eql (.slice a n m) (.slice none 0 0)=some (.bool a.isNone):=A2i Tryz.underlying86
theorem B8w {c:Bool} {a:Option Addr} {n m:Nat}:abin Tryz.prog 86 c .neq (.slice a n m) (.slice none 0 0)=some (.bool a.isSome):=A9d Tryz.underlying86
theorem B7s {H:AH}:A4a Tryz.prog 86 0 [] H=some (.slice (some ⟨H.next,0,some 0⟩) 0 0,(H.new 1 []).2):=A0i Tryz.underlying86 B46 B5h rfl (Nat.le_of_ble_eq_true rfl)
theorem B8u {H:AH} {x:Value} (hx:(A7a x).length=1) (hc:(A7a x).all isCell=true):A4a Tryz.prog 86 1 [(0,x)] H=some (.slice (some ⟨H.next,0,some 0⟩) 1 1,(H.new 1 (A7a x)).2):=A2n Tryz.underlying86 B46 B5h rfl (Nat.le_of_ble_eq_true rfl) (Nat.le_of_ble_eq_true rfl) hx hc
theorem len_92 {H:AH} {n c:Nat} {a:Option Addr}:A2a Tryz.prog .len [92] [.slice a n c] H=some (.int .i64 (n:Int),H):=A2h Tryz.underlying92
theorem info_92:((Tryz.prog.info? 95).map fun i=>Nat.beq i.size 4 && Nat.ble i.bytes 65536)=some true:=by kernel_rfl
theorem app1_92 {H:AH} {len cap:Nat} {base:Option Addr} {x:List Value} (hx:x.length=4) (hb:len≤1073741823):A2a Tryz.prog .append [92,92] [.slice base len cap,.slice (some ⟨H.next,0,some 0⟩) 1 1] (H.new 4 x).2=A5d 4 base len cap 1 x (H.new 4 x).2:=A3m Tryz.underlying92 info_92 A27 rfl (Nat.le_of_ble_eq_true rfl) hx hb
theorem C0d {c:Bool} {a:Option Addr} {n m:Nat}:abin Tryz.prog 92 c .eql (.slice a n m) (.slice none 0 0)=some (.bool a.isNone):=A2i Tryz.underlying92
theorem B8x {c:Bool} {a:Option Addr} {n m:Nat}:abin Tryz.prog 92 c .neq (.slice a n m) (.slice none 0 0)=some (.bool a.isSome):=A9d Tryz.underlying92
theorem B2w {H:AH}:A4a Tryz.prog 92 0 [] H=some (.slice (some ⟨H.next,0,some 0⟩) 0 0,(H.new 4 []).2):=A0i Tryz.underlying92 A97 A27 rfl (Nat.le_of_ble_eq_true rfl)
theorem C3m {H:AH} {x:Value} (hx:(A7a x).length=4) (hc:(A7a x).all isCell=true):A4a Tryz.prog 92 1 [(0,x)] H=some (.slice (some ⟨H.next,0,some 0⟩) 1 1,(H.new 4 (A7a x)).2):=A2n Tryz.underlying92 A97 A27 rfl (Nat.le_of_ble_eq_true rfl) (Nat.le_of_ble_eq_true rfl) hx hc
theorem C4o {g o k:Nat}:A6b Tryz.prog 95 0 (.pointer (some ⟨g,o,some k⟩))=some (.pointer (some ⟨g,o+0,some k⟩)):=by have h:=A3b (g:=g) (o:=o) (k:=k) (f:=0) Tryz.underlying95 (Eq.refl (some _)) A2f rfl; exact h
theorem C9x {g o k:Nat}:A6b Tryz.prog 95 1 (.pointer (some ⟨g,o,some k⟩))=some (.pointer (some ⟨g,o+1,some k⟩)):=by have h:=A3b (g:=g) (o:=o) (k:=k) (f:=1) Tryz.underlying95 (Eq.refl (some _)) A2f rfl; exact h
theorem C7k {g o k:Nat}:A6b Tryz.prog 95 2 (.pointer (some ⟨g,o,some k⟩))=some (.pointer (some ⟨g,o+2,some k⟩)):=by have h:=A3b (g:=g) (o:=o) (k:=k) (f:=2) Tryz.underlying95 (Eq.refl (some _)) A2f rfl; exact h
theorem C5p {g o k:Nat}:A6b Tryz.prog 95 3 (.pointer (some ⟨g,o,some k⟩))=some (.pointer (some ⟨g,o+3,some k⟩)):=by have h:=A3b (g:=g) (o:=o) (k:=k) (f:=3) Tryz.underlying95 (Eq.refl (some _)) A2f rfl; exact h
theorem bld_95 {v0 v1 v2 v3:Value} (h0:isCell v0=true) (h1:isCell v1=true) (h2:isCell v2=true) (h3:isCell v3=true):A7j Tryz.prog 95 [(0,v0),(1,v1),(2,v2),(3,v3)]=some (.agg #[v0,v1,v2,v3]):=by refine A1f (pl:=[(0,1),(1,1),(2,1),(3,1)]) Tryz.underlying95 A27 (by kernel_rfl) ?_; have va:∀ xs:Array Value,A7a (.agg xs)=xs.toList:=fun _=>rfl; simp [A1s,A8a h0,A8a h1,A8a h2,A8a h3,va,h0,h1,h2,h3,setCells,A6a,A1c]
theorem len_97 {H:AH} {n c:Nat} {a:Option Addr}:A2a Tryz.prog .len [97] [.slice a n c] H=some (.int .i64 (n:Int),H):=A2h Tryz.underlying97
theorem info_97:((Tryz.prog.info? 99).map fun i=>Nat.beq i.size 2 && Nat.ble i.bytes 65536)=some true:=by kernel_rfl
theorem C2m {H:AH} {len cap:Nat} {base:Option Addr} {x:List Value} (hx:x.length=2) (hb:len≤1073741823):A2a Tryz.prog .append [97,97] [.slice base len cap,.slice (some ⟨H.next,0,some 0⟩) 1 1] (H.new 2 x).2=A5d 2 base len cap 1 x (H.new 2 x).2:=A3m Tryz.underlying97 info_97 A28 rfl (Nat.le_of_ble_eq_true rfl) hx hb
theorem C7a {c:Bool} {a:Option Addr} {n m:Nat}:abin Tryz.prog 97 c .eql (.slice a n m) (.slice none 0 0)=some (.bool a.isNone):=A2i Tryz.underlying97
theorem B2s {c:Bool} {a:Option Addr} {n m:Nat}:abin Tryz.prog 97 c .neq (.slice a n m) (.slice none 0 0)=some (.bool a.isSome):=A9d Tryz.underlying97
theorem B41 {H:AH}:A4a Tryz.prog 97 0 [] H=some (.slice (some ⟨H.next,0,some 0⟩) 0 0,(H.new 2 []).2):=A0i Tryz.underlying97 A6s A28 rfl (Nat.le_of_ble_eq_true rfl)
theorem B3v {H:AH} {x:Value} (hx:(A7a x).length=2) (hc:(A7a x).all isCell=true):A4a Tryz.prog 97 1 [(0,x)] H=some (.slice (some ⟨H.next,0,some 0⟩) 1 1,(H.new 2 (A7a x)).2):=A2n Tryz.underlying97 A6s A28 rfl (Nat.le_of_ble_eq_true rfl) (Nat.le_of_ble_eq_true rfl) hx hc
theorem C8n {g o k:Nat}:A6b Tryz.prog 99 0 (.pointer (some ⟨g,o,some k⟩))=some (.pointer (some ⟨g,o+0,some k⟩)):=by have h:=A3b (g:=g) (o:=o) (k:=k) (f:=0) Tryz.underlying99 (Eq.refl (some _)) A6h rfl; exact h
theorem C3k {g o k:Nat}:A6b Tryz.prog 99 1 (.pointer (some ⟨g,o,some k⟩))=some (.pointer (some ⟨g,o+1,some k⟩)):=by have h:=A3b (g:=g) (o:=o) (k:=k) (f:=1) Tryz.underlying99 (Eq.refl (some _)) A2f rfl; exact h
theorem bld_99 {v0 v1:Value} (h0:isCell v0=true) (h1:isCell v1=true):A7j Tryz.prog 99 [(0,v0),(1,v1)]=some (.agg #[v0,v1]):=by refine A1f (pl:=[(0,1),(1,1)]) Tryz.underlying99 A28 (by kernel_rfl) ?_; have va:∀ xs:Array Value,A7a (.agg xs)=xs.toList:=fun _=>rfl; simp [A1s,A8a h0,A8a h1,va,h0,h1,setCells,A6a,A1c]
theorem C0p {H:AH} {n c:Nat} {a:Option Addr}:A2a Tryz.prog .len [103] [.slice a n c] H=some (.int .i64 (n:Int),H):=A2h Tryz.underlying103
theorem info_103:((Tryz.prog.info? 58).map fun i=>Nat.beq i.size 1 && Nat.ble i.bytes 65536)=some true:=by kernel_rfl
theorem C1c {H:AH} {len cap:Nat} {base:Option Addr} {x:List Value} (hx:x.length=1) (hb:len≤1073741823):A2a Tryz.prog .append [103,103] [.slice base len cap,.slice (some ⟨H.next,0,some 0⟩) 1 1] (H.new 1 x).2=A5d 1 base len cap 1 x (H.new 1 x).2:=A3m Tryz.underlying103 info_103 B6f rfl (Nat.le_of_ble_eq_true rfl) hx hb
theorem B4y {c:Bool} {a:Option Addr} {n m:Nat}:abin Tryz.prog 103 c .eql (.slice a n m) (.slice none 0 0)=some (.bool a.isNone):=A2i Tryz.underlying103
theorem B7n {c:Bool} {a:Option Addr} {n m:Nat}:abin Tryz.prog 103 c .neq (.slice a n m) (.slice none 0 0)=some (.bool a.isSome):=A9d Tryz.underlying103
theorem B3l {H:AH}:A4a Tryz.prog 103 0 [] H=some (.slice (some ⟨H.next,0,some 0⟩) 0 0,(H.new 1 []).2):=A0i Tryz.underlying103 B7c B6f rfl (Nat.le_of_ble_eq_true rfl)
theorem B9l {H:AH} {x:Value} (hx:(A7a x).length=1) (hc:(A7a x).all isCell=true):A4a Tryz.prog 103 1 [(0,x)] H=some (.slice (some ⟨H.next,0,some 0⟩) 1 1,(H.new 1 (A7a x)).2):=A2n Tryz.underlying103 B7c B6f rfl (Nat.le_of_ble_eq_true rfl) (Nat.le_of_ble_eq_true rfl) hx hc
theorem C6a {g o k:Nat}:A6b Tryz.prog 105 0 (.pointer (some ⟨g,o,some k⟩))=some (.pointer (some ⟨g,o+0,some k⟩)):=by have h:=A3b (g:=g) (o:=o) (k:=k) (f:=0) Tryz.underlying105 (Eq.refl (some _)) B1b rfl; exact h
theorem C0b {g o k:Nat}:A6b Tryz.prog 105 1 (.pointer (some ⟨g,o,some k⟩))=some (.pointer (some ⟨g,o+3,some k⟩)):=by have h:=A3b (g:=g) (o:=o) (k:=k) (f:=1) Tryz.underlying105 (Eq.refl (some _)) B89 rfl; exact h
theorem C4a {g o k:Nat}:A6b Tryz.prog 105 2 (.pointer (some ⟨g,o,some k⟩))=some (.pointer (some ⟨g,o+4,some k⟩)):=by have h:=A3b (g:=g) (o:=o) (k:=k) (f:=2) Tryz.underlying105 (Eq.refl (some _)) A2f rfl; exact h
theorem C2d {g o k:Nat}:A6b Tryz.prog 105 3 (.pointer (some ⟨g,o,some k⟩))=some (.pointer (some ⟨g,o+5,some k⟩)):=by have h:=A3b (g:=g) (o:=o) (k:=k) (f:=3) Tryz.underlying105 (Eq.refl (some _)) C1m rfl; exact h
theorem C5r {H:AH} {n c:Nat} {a:Option Addr}:A2a Tryz.prog .len [114] [.slice a n c] H=some (.int .i64 (n:Int),H):=A2h Tryz.underlying114
theorem B7x {c:Bool} {a:Option Addr} {n m:Nat}:abin Tryz.prog 114 c .eql (.slice a n m) (.slice none 0 0)=some (.bool a.isNone):=A2i Tryz.underlying114
theorem B8n {c:Bool} {a:Option Addr} {n m:Nat}:abin Tryz.prog 114 c .neq (.slice a n m) (.slice none 0 0)=some (.bool a.isSome):=A9d Tryz.underlying114
theorem B3k {H:AH}:A4a Tryz.prog 114 0 [] H=some (.slice (some ⟨H.next,0,some 0⟩) 0 0,(H.new 1 []).2):=A0i Tryz.underlying114 A2f A01 rfl (Nat.le_of_ble_eq_true rfl)
theorem C2q {H:AH} {n c:Nat} {a:Option Addr}:A2a Tryz.prog .len [117] [.slice a n c] H=some (.int .i64 (n:Int),H):=A2h Tryz.underlying117
theorem B4u {c:Bool} {a:Option Addr} {n m:Nat}:abin Tryz.prog 117 c .eql (.slice a n m) (.slice none 0 0)=some (.bool a.isNone):=A2i Tryz.underlying117
theorem B2k {c:Bool} {a:Option Addr} {n m:Nat}:abin Tryz.prog 117 c .neq (.slice a n m) (.slice none 0 0)=some (.bool a.isSome):=A9d Tryz.underlying117
theorem B0n {H:AH}:A4a Tryz.prog 117 0 [] H=some (.slice (some ⟨H.next,0,some 0⟩) 0 0,(H.new 1 []).2):=A0i Tryz.underlying117 size_114 B9r rfl (Nat.le_of_ble_eq_true rfl)
theorem C9c {H:AH} {n:Int}:A8i Tryz.prog 3 139 (.int .i64 n) H=some (.int .u64 (IntKind.wrap .u64 n),H):=A6w Tryz.underlying3 Tryz.underlying139
theorem C4b {H:AH} {n:Int}:A8i Tryz.prog 3 168 (.int .i64 n) H=some (.int .u64 (IntKind.wrap .u64 n),H):=A6w Tryz.underlying3 Tryz.underlying168
theorem cv_5_3 {H:AH} {n:Int}:A8i Tryz.prog 5 3 (.int .u8 n) H=some (.int .i64 (IntKind.wrap .i64 n),H):=A6w Tryz.underlying5 Tryz.underlying3
theorem B59 {H:AH} {n:Int}:A8i Tryz.prog 139 3 (.int .u64 n) H=some (.int .i64 (IntKind.wrap .i64 n),H):=A6w Tryz.underlying139 Tryz.underlying3
theorem B4l {H:AH} {n:Int}:A8i Tryz.prog 139 160 (.int .u64 n) H=some (.int .u32 (IntKind.wrap .u32 n),H):=A6w Tryz.underlying139 Tryz.underlying160
theorem B99 {H:AH} {n:Int}:A8i Tryz.prog 160 5 (.int .u32 n) H=some (.int .u8 (IntKind.wrap .u8 n),H):=A6w Tryz.underlying160 Tryz.underlying5
theorem C9d {H:AH} {n:Int}:A8i Tryz.prog 162 5 (.int .u64 n) H=some (.int .u8 (IntKind.wrap .u8 n),H):=A6w Tryz.underlying162 Tryz.underlying5
theorem B9y:type_of% (And.intro @zero_1 (And.intro @ld_1 (And.intro @zero_2 (And.intro @ld_2 (And.intro @A01 (And.intro @ld_3 (And.intro @B3g (And.intro @ld_4 (And.intro @zero_5 (And.intro @ld_5 (And.intro @B3n (And.intro @ld_9 (And.intro @A18 (And.intro @ld_22 (And.intro @C5k (And.intro @ld_23 (And.intro @C0n (And.intro @ld_24 (And.intro @A52 (And.intro @ld_26 (And.intro @C4z (And.intro @ld_29 (And.intro @C0o (And.intro @ld_30 (And.intro @A72 (And.intro @ld_49 (And.intro @A82 (And.intro @ld_51 (And.intro @C6p (And.intro @ld_52 (And.intro @C6w (And.intro @ld_57 (And.intro @B6f (And.intro @ld_58 (And.intro @B96 (And.intro @ld_60 (And.intro @C2v (And.intro @ld_64 (And.intro @C1v (And.intro @ld_65 (And.intro @C7u (And.intro @ld_68 (And.intro @B03 (And.intro @ld_69 (And.intro @B47 (And.intro @ld_71 (And.intro @C3p (And.intro @ld_75 (And.intro @B06 (And.intro @ld_79 (And.intro @B5h (And.intro @ld_85 (And.intro @C2n (And.intro @ld_86 (And.intro @C9n (And.intro @ld_87 (And.intro @C1y (And.intro @ld_90 (And.intro @A38 (And.intro @ld_92 (And.intro @A27 (And.intro @ld_95 (And.intro @B0r (And.intro @ld_97 (And.intro @A28 (And.intro @ld_99 (And.intro @C5e (And.intro @ld_102 (And.intro @C1d (And.intro @ld_103 (And.intro @B1r (And.intro @ld_105 (And.intro @B08 (And.intro @ld_110 (And.intro @C5a (And.intro @ld_113 (And.intro @B9r (And.intro @ld_114 (And.intro @C4d (And.intro @ld_117 (And.intro @C6f (And.intro @ld_121 (And.intro @C8f (And.intro @ld_123 (And.intro @B48 (And.intro @ld_129 (And.intro @B79 (And.intro @ld_139 (And.intro @B58 (And.intro @ld_152 (And.intro @C2g (And.intro @ld_160 (And.intro @B29 (And.intro @ld_162 (And.intro @C3b (And.intro @ld_168 (And.intro @C1e (And.intro @ld_172 (And.intro @C3c (And.intro @ld_176 (And.intro @len_9 (And.intro @len_22 (And.intro @C1b (And.intro @B5y (And.intro @B3s (And.intro @len_23 (And.intro @C4g (And.intro @B1v (And.intro @B1t (And.intro @len_24 (And.intro @B19 (And.intro @B40 (And.intro @B7v (And.intro @C5t (And.intro @C1t (And.intro @C1k (And.intro @C6t (And.intro @len_29 (And.intro @C3a (And.intro @B7y (And.intro @B22 (And.intro @C6s (And.intro @C3q (And.intro @C4y (And.intro @C5s (And.intro @C3l (And.intro @C9k (And.intro @C6y (And.intro @len_57 (And.intro @C6d (And.intro @B5x (And.intro @B0w (And.intro @len_58 (And.intro @C2f (And.intro @B20 (And.intro @B2z (And.intro @C0u (And.intro @C2x (And.intro @C2w (And.intro @len_65 (And.intro @C0g (And.intro @B10 (And.intro @B7t (And.intro @len_68 (And.intro @C0h (And.intro @B5u (And.intro @B81 (And.intro @len_69 (And.intro @B68 (And.intro @B30 (And.intro @B6t (And.intro @C8t (And.intro @C0l (And.intro @C3v (And.intro @C6v (And.intro @len_86 (And.intro @B97 (And.intro @B8w (And.intro @B7s (And.intro @len_92 (And.intro @C0d (And.intro @B8x (And.intro @B2w (And.intro @C4o (And.intro @C9x (And.intro @C7k (And.intro @C5p (And.intro @len_97 (And.intro @C7a (And.intro @B2s (And.intro @B41 (And.intro @C8n (And.intro @C3k (And.intro @C0p (And.intro @B4y (And.intro @B7n (And.intro @B3l (And.intro @C6a (And.intro @C0b (And.intro @C4a (And.intro @C2d (And.intro @C5r (And.intro @B7x (And.intro @B8n (And.intro @B3k (And.intro @C2q (And.intro @B4u (And.intro @B2k (And.intro @B0n (And.intro @C9c (And.intro @C4b (And.intro @cv_5_3 (And.intro @B59 (And.intro @B4l (And.intro @B99 (@C9d)))))))))))))))))))))))))))))))))))))))))))))))))))))))))))))))))))))))))))))))))))))))))))))))))))))))))))))))))))))))))))))))))))))))))))))))))))))))))))))))))))))))))))))))))))))))))))))))))))):=And.intro @zero_1 (And.intro @ld_1 (And.intro @zero_2 (And.intro @ld_2 (And.intro @A01 (And.intro @ld_3 (And.intro @B3g (And.intro @ld_4 (And.intro @zero_5 (And.intro @ld_5 (And.intro @B3n (And.intro @ld_9 (And.intro @A18 (And.intro @ld_22 (And.intro @C5k (And.intro @ld_23 (And.intro @C0n (And.intro @ld_24 (And.intro @A52 (And.intro @ld_26 (And.intro @C4z (And.intro @ld_29 (And.intro @C0o (And.intro @ld_30 (And.intro @A72 (And.intro @ld_49 (And.intro @A82 (And.intro @ld_51 (And.intro @C6p (And.intro @ld_52 (And.intro @C6w (And.intro @ld_57 (And.intro @B6f (And.intro @ld_58 (And.intro @B96 (And.intro @ld_60 (And.intro @C2v (And.intro @ld_64 (And.intro @C1v (And.intro @ld_65 (And.intro @C7u (And.intro @ld_68 (And.intro @B03 (And.intro @ld_69 (And.intro @B47 (And.intro @ld_71 (And.intro @C3p (And.intro @ld_75 (And.intro @B06 (And.intro @ld_79 (And.intro @B5h (And.intro @ld_85 (And.intro @C2n (And.intro @ld_86 (And.intro @C9n (And.intro @ld_87 (And.intro @C1y (And.intro @ld_90 (And.intro @A38 (And.intro @ld_92 (And.intro @A27 (And.intro @ld_95 (And.intro @B0r (And.intro @ld_97 (And.intro @A28 (And.intro @ld_99 (And.intro @C5e (And.intro @ld_102 (And.intro @C1d (And.intro @ld_103 (And.intro @B1r (And.intro @ld_105 (And.intro @B08 (And.intro @ld_110 (And.intro @C5a (And.intro @ld_113 (And.intro @B9r (And.intro @ld_114 (And.intro @C4d (And.intro @ld_117 (And.intro @C6f (And.intro @ld_121 (And.intro @C8f (And.intro @ld_123 (And.intro @B48 (And.intro @ld_129 (And.intro @B79 (And.intro @ld_139 (And.intro @B58 (And.intro @ld_152 (And.intro @C2g (And.intro @ld_160 (And.intro @B29 (And.intro @ld_162 (And.intro @C3b (And.intro @ld_168 (And.intro @C1e (And.intro @ld_172 (And.intro @C3c (And.intro @ld_176 (And.intro @len_9 (And.intro @len_22 (And.intro @C1b (And.intro @B5y (And.intro @B3s (And.intro @len_23 (And.intro @C4g (And.intro @B1v (And.intro @B1t (And.intro @len_24 (And.intro @B19 (And.intro @B40 (And.intro @B7v (And.intro @C5t (And.intro @C1t (And.intro @C1k (And.intro @C6t (And.intro @len_29 (And.intro @C3a (And.intro @B7y (And.intro @B22 (And.intro @C6s (And.intro @C3q (And.intro @C4y (And.intro @C5s (And.intro @C3l (And.intro @C9k (And.intro @C6y (And.intro @len_57 (And.intro @C6d (And.intro @B5x (And.intro @B0w (And.intro @len_58 (And.intro @C2f (And.intro @B20 (And.intro @B2z (And.intro @C0u (And.intro @C2x (And.intro @C2w (And.intro @len_65 (And.intro @C0g (And.intro @B10 (And.intro @B7t (And.intro @len_68 (And.intro @C0h (And.intro @B5u (And.intro @B81 (And.intro @len_69 (And.intro @B68 (And.intro @B30 (And.intro @B6t (And.intro @C8t (And.intro @C0l (And.intro @C3v (And.intro @C6v (And.intro @len_86 (And.intro @B97 (And.intro @B8w (And.intro @B7s (And.intro @len_92 (And.intro @C0d (And.intro @B8x (And.intro @B2w (And.intro @C4o (And.intro @C9x (And.intro @C7k (And.intro @C5p (And.intro @len_97 (And.intro @C7a (And.intro @B2s (And.intro @B41 (And.intro @C8n (And.intro @C3k (And.intro @C0p (And.intro @B4y (And.intro @B7n (And.intro @B3l (And.intro @C6a (And.intro @C0b (And.intro @C4a (And.intro @C2d (And.intro @C5r (And.intro @B7x (And.intro @B8n (And.intro @B3k (And.intro @C2q (And.intro @B4u (And.intro @B2k (And.intro @B0n (And.intro @C9c (And.intro @C4b (And.intro @cv_5_3 (And.intro @B59 (And.intro @B4l (And.intro @B99 (@C9d)))))))))))))))))))))))))))))))))))))))))))))))))))))))))))))))))))))))))))))))))))))))))))))))))))))))))))))))))))))))))))))))))))))))))))))))))))))))))))))))))))))))))))))))))))))))))))))))))))
theorem sx:type_of% (And.intro @Sh.sy @B9y):=And.intro @Sh.sy @B9y
end Go.Proofs.YtcgbiedfbacgpaaGreat
/- Nets in memory: what is made and written of them. -/
set_option maxHeartbeats 4000000
set_option maxRecDepth 20000
namespace Go.Proofs.YtcgbiedfbacgpaaGreat
open Go Go.Proofs Go.Proofs.Sh
section
variable {H:AH} {g:Nat} {sg ar en v:Value} {N:NetD}
theorem B5m (hsg:isCell sg=true) (har:isCell ar=true) (hen:isCell en=true) {n:Int}:anew Tryz.prog 26 H (.agg #[sg,.int .i64 n,ar,en])=some (.pointer (some ⟨H.next,0,some 0⟩),(H.new 4 [sg,.int .i64 n,ar,en]).2):=
 A9p (vs:=[sg,.int .i64 n,ar,en]) A91 rfl (by simp [hsg,har,hen,show isCell (.int .i64 n)=true from rfl])
theorem A65 (hsg:isCell sg=true) (har:isCell ar=true) (hen:isCell en=true) {n:Int} {p:Addr}:A3e Tryz.prog 26 H (.agg #[sg,.int .i64 n,ar,en]) (.pointer (some p))=H.write p [sg,.int .i64 n,ar,en]:=
 A6r (vs:=[sg,.int .i64 n,ar,en]) A91 rfl (by simp [hsg,har,hen,show isCell (.int .i64 n)=true from rfl])
theorem A7i:anew Tryz.prog 26 H (.agg #[.slice none 0 0,.int .i64 0,.slice none 0 0,.slice none 0 0])=some (.pointer (some ⟨H.next,0,some 0⟩),(H.new 4 [.slice none 0 0,.int .i64 0,.slice none 0 0,.slice none 0 0]).2):=A9p (vs:=[.slice none 0 0,.int .i64 0,.slice none 0 0,.slice none 0 0]) A91 rfl rfl
theorem A4o:anew Tryz.prog 49 H (.agg #[.int .i64 0,.string ⟨#[]⟩,.string ⟨#[]⟩,.int .i64 0,.int .i64 0])=some (.pointer (some ⟨H.next,0,some 0⟩),(H.new 5 [.int .i64 0,.string ⟨#[]⟩,.string ⟨#[]⟩,.int .i64 0,.int .i64 0]).2):=
 A9p (vs:=[.int .i64 0,.string ⟨#[]⟩,.string ⟨#[]⟩,.int .i64 0,.int .i64 0]) A9r rfl rfl
theorem A8n:anew Tryz.prog 51 H (.agg #[.int .i64 0,.int .i64 0])=some (.pointer (some ⟨H.next,0,some 0⟩),(H.new 2 [.int .i64 0,.int .i64 0]).2):=A9p (vs:=[.int .i64 0,.int .i64 0]) A3t rfl rfl
theorem A7s {a:ArcD}:anew Tryz.prog 49 H (.agg a.cells.toArray)=some (.pointer (some ⟨H.next,0,some 0⟩),(H.new 5 a.cells).2):=A9p (vs:=a.cells) A9r rfl rfl
theorem A8s {a:EndD}:anew Tryz.prog 51 H (.agg a.cells.toArray)=some (.pointer (some ⟨H.next,0,some 0⟩),(H.new 2 a.cells).2):=A9p (vs:=a.cells) A3t rfl rfl
theorem A8j {a:ArcD} {p:Addr}:A3e Tryz.prog 49 H (.agg a.cells.toArray) (.pointer (some p))=H.write p a.cells:=A6r A9r rfl rfl
theorem A2k {a:EndD} {p:Addr}:A3e Tryz.prog 51 H (.agg a.cells.toArray) (.pointer (some p))=H.write p a.cells:=A6r A3t rfl rfl
theorem A7n {a:ArcD} {x0 x1 x2 x3 x4:Value}:(H.new 5 [x0,x1,x2,x3,x4]).2.write ⟨H.next,0,some 0⟩ a.cells=some (H.new 5 a.cells).2:=A2r rfl
theorem A3o {a:EndD} {x0 x1:Value}:(H.new 2 [x0,x1]).2.write ⟨H.next,0,some 0⟩ a.cells=some (H.new 2 a.cells).2:=A2r rfl
theorem A1l {x0 x1 x2 x3 y0 y1 y2 y3:Value}:(H.new 4 [x0,x1,x2,x3]).2.write ⟨H.next,0,some 0⟩ [y0,y1,y2,y3]=some (H.new 4 [y0,y1,y2,y3]).2:=A2r rfl
theorem arc0 {a:ArcD}:(H.new 5 a.cells).2.cell ⟨H.next,0,some 0⟩=some (.int .i64 a.fr):=A3s _ _ _
theorem arc1 {a:ArcD}:(H.new 5 a.cells).2.cell ⟨H.next,1,some 0⟩=some (.string a.inn):=A3s _ _ _
theorem arc2 {a:ArcD}:(H.new 5 a.cells).2.cell ⟨H.next,2,some 0⟩=some (.string a.out):=A3s _ _ _
theorem arc3 {a:ArcD}:(H.new 5 a.cells).2.cell ⟨H.next,3,some 0⟩=some (.int .i64 a.to):=A3s _ _ _
theorem arc4 {a:ArcD}:(H.new 5 a.cells).2.cell ⟨H.next,4,some 0⟩=some (.int .i64 a.cost):=A3s _ _ _
theorem end0 {a:EndD}:(H.new 2 a.cells).2.cell ⟨H.next,0,some 0⟩=some (.int .i64 a.state):=A3s _ _ _
theorem end1 {a:EndD}:(H.new 2 a.cells).2.cell ⟨H.next,1,some 0⟩=some (.int .i64 a.cost):=A3s _ _ _
theorem A8b (h:NetBox H g sg ar en N) {H':AH}:A2a Tryz.prog .len [22] [sg] H'=some (.int .i64 (N.sigma.length:Int),H'):=by rw [h.hsg.len Tryz.underlying22 H',List.length_map]
theorem A9b (h:NetBox H g sg ar en N) {H':AH}:A2a Tryz.prog .len [23] [ar] H'=some (.int .i64 (N.arcs.length:Int),H'):=by rw [h.har.len Tryz.underlying23 H',List.length_map]
theorem A0c (h:NetBox H g sg ar en N) {H':AH}:A2a Tryz.prog .len [24] [en] H'=some (.int .i64 (N.ends.length:Int),H'):=by rw [h.hen.len Tryz.underlying24 H',List.length_map]
theorem held_arc:Tryz.prog.stoodInHeld 49=false:=by kernel_rfl
theorem C6o:Tryz.prog.eqGuardType Tryz.prog.depth 49=false:=by kernel_rfl
theorem held_end:Tryz.prog.stoodInHeld 51=false:=by kernel_rfl
theorem C4s:Tryz.prog.eqGuardType Tryz.prog.depth 51=false:=by kernel_rfl
theorem B5b {d:Nat} {a b:Int}:eqT Tryz.prog (d+1) 3 (.int .i64 a) (.int .i64 b)=some (decide (a=b)):=by
 simp only [eqT,Tryz.underlying3,A8e,cond_true,A6n]; rfl
theorem eqT_str {d:Nat} {a b:ByteArray}:eqT Tryz.prog (d+1) 9 (.string a) (.string b)=some (decide (a=b)):=by
 simp only [eqT,Tryz.underlying9,A2o]
theorem eqArc {c:Bool} {a:ArcD}:abin Tryz.prog 49 c .neq (.agg a.cells.toArray) (.agg a.cells.toArray)=some (.bool false):=by
 have h:eqT Tryz.prog (19+1) 49 (.agg a.cells.toArray) (.agg a.cells.toArray)=some true:=by
  rw [eqT.eq_def]
  simp only [Tryz.underlying49,held_arc,cond_false,eqFields,apart,B57,agg_9,ArcD.cells,List.getElem?_cons_zero,List.getElem?_cons_succ,Option.bind_some,B5b (d:=18),eqT_str (d:=18),decide_true]
  simp
 unfold abin aeq B3j A4g
 simp only [C6o,Bool.not_false,cond_true]
 rw [h]
 rfl
theorem eqEnd {c:Bool} {a:EndD}:abin Tryz.prog 51 c .neq (.agg a.cells.toArray) (.agg a.cells.toArray)=some (.bool false):=by
 have h:eqT Tryz.prog (19+1) 51 (.agg a.cells.toArray) (.agg a.cells.toArray)=some true:=by
  rw [eqT.eq_def]
  simp only [Tryz.underlying51,held_end,cond_false,eqFields,apart,B57,EndD.cells,List.getElem?_cons_zero,List.getElem?_cons_succ,Option.bind_some,B5b (d:=18),decide_true]
  simp
 unfold abin aeq B3j A4g
 simp only [C4s,Bool.not_false,cond_true]
 rw [h]
 rfl
end
end Go.Proofs.YtcgbiedfbacgpaaGreat
/- Whether a text of a list is too long for a symbol. -/
set_option linter.unusedSimpArgs false
namespace Go.Proofs.YtcgbiedfbacgpaaGreat
open Go Go.Proofs Go.Proofs.Sh
theorem C5o {H:AH} {v:Value} {l:List ByteArray} (hs:Sl H v 1 (l.map A5a)) (hl:l.length≤1048576) (hw:Wf H):
  Sh.Call Tryz.prog (knows 7) 82 [v] H (fun r H'=>Kept H H'∧r=.bool (l.any fun s=>decide (16 < s.size))):=by
 refine A3a rfl Tryz.func82 rfl (Nat.le_of_ble_eq_true rfl) ?_
 have hres:Tryz.f82.results.toList=[.tmp 2]:=rfl
 have hlen:=hs.len Tryz.underlying22 H
 simp only [↓Sh.dn,sx,Nat.reduceBEq,reduceCtorEq,Nat.reduceEqDiff,↓Sh.wp_cond]
 refine A30 l.length (fun i F H'=>H'=H∧F.get 0=some v∧F.get 3=some (.int .i64 (i:Int))∧(l.take i).any (fun s=>decide (16 < s.size))=false) (Nat.zero_le _) ⟨rfl,by simp only [↓Sh.dn,sx,Nat.reduceBEq,reduceCtorEq,Nat.reduceEqDiff,↓Sh.wp_cond],by simp only [↓Sh.dn,sx,Nat.reduceBEq,reduceCtorEq,Nat.reduceEqDiff,↓Sh.wp_cond]; rfl,rfl⟩ ?_
 rintro i F H' hi ⟨rfl,f0,f3,hall⟩ k
 by_cases hlt:i < l.length
 ·obtain ⟨g,o,kk,hia,hc,hcc⟩:=hs.at Tryz.underlying22 A6h (i:=i) (x:=A5a l[i]) (by simp [hlt]) .i64
  have hy:=hcc 0 _ rfl
  simp only [Nat.add_zero] at hy
  have hc16:decide ((16:Int) < ((l[i].size:Nat):Int))=decide (16 < l[i].size):=by
   by_cases h:16 < l[i].size
   ·simp [h]; omega
   ·simp [h]; omega
  simp only [↓Sh.dn,sx,Nat.reduceBEq,reduceCtorEq,Nat.reduceEqDiff,↓Sh.wp_cond,f0,f3,hlen,hia,hy,List.length_map,A1a,hlt,hc16,decide_true,forall_const,reduceCtorEq,false_implies,and_true,true_and,hres]
  refine ⟨fun h=>⟨Kept.refl hw,?_⟩,fun h=>k _ _ hlt ⟨rfl,by simp only [↓Sh.dn,sx,Nat.reduceBEq,reduceCtorEq,Nat.reduceEqDiff,↓Sh.wp_cond,f0],by simp only [↓Sh.dn,sx,Nat.reduceBEq,reduceCtorEq,Nat.reduceEqDiff,↓Sh.wp_cond,wrap_succ hlt hl],?_⟩⟩
  ·have:(l.any fun s=>decide (16 < s.size))=true:=List.any_eq_true.2 ⟨_,List.getElem_mem hlt,h⟩
   rw [this]
  ·rw [List.take_add_one,List.getElem?_eq_getElem hlt]
   simp only [Option.toList,List.any_append,hall,Bool.false_or,List.any_cons,List.any_nil,Bool.or_false]
   exact h
 ·have hin:i=l.length:=by omega
  subst hin
  rw [List.take_length] at hall
  simp only [↓Sh.dn,sx,Nat.reduceBEq,reduceCtorEq,Nat.reduceEqDiff,↓Sh.wp_cond,f0,f3,hlen,List.length_map,A1a,hlt,decide_false,forall_const,reduceCtorEq,false_implies,and_true,true_and,hres]
  exact ⟨Kept.refl hw,by rw [hall]⟩
end Go.Proofs.YtcgbiedfbacgpaaGreat
/- Whether a text is a symbol. -/
namespace Go.Proofs.YtcgbiedfbacgpaaGreat
open Go Go.Proofs Go.Proofs.Sh
def badByte (u:UInt8):Bool:=decide (u.toNat < 33) || decide (126 < u.toNat) || decide (u.toNat=60) || decide (u.toNat=62)
def A8t (s:ByteArray):Bool:=!s.data.toList.any badByte && decide (1≤s.size) && decide (s.size≤16)
theorem isSymbol {H:AH} {x:ByteArray} (hl:x.size≤1048576) (hw:Wf H):
  Sh.Call Tryz.prog (knows 7) 103 [.string x] H (fun r H'=>H'=H∧r=.bool (A8t x)):=by
 refine A3a rfl Tryz.func103 rfl (Nat.le_of_ble_eq_true rfl) ?_
 have hres:Tryz.f103.results.toList=[.tmp 2]:=rfl
 have hsz:x.data.toList.length=x.size:=by rw [Array.length_toList]; rfl
 simp only [↓Sh.dn,sx,Nat.reduceBEq,reduceCtorEq,Nat.reduceEqDiff]
 refine A30 x.size (fun i F H'=>H'=H∧F.get 0=some (.string x)∧F.get 3=some (.int .i64 (i:Int))∧(x.data.toList.take i).any badByte=false) (Nat.zero_le _) ⟨rfl,by simp only [↓Sh.dn,sx,Nat.reduceBEq,reduceCtorEq,Nat.reduceEqDiff],by simp only [↓Sh.dn,sx,Nat.reduceBEq,reduceCtorEq,Nat.reduceEqDiff]; rfl,rfl⟩ ?_
 rintro i F H' hi ⟨rfl,f0,f3,hall⟩ k
 by_cases hlt:i < x.size
 ·obtain ⟨u,hu⟩:∃ u,x.data.toList[i]?=some u:=⟨x.data.toList[i]'(by omega),List.getElem?_eq_getElem (by omega)⟩
  have hix:=B5c (P:=Tryz.prog) (j:=.i64) Tryz.underlying9 hu
  have e33:decide ((u.toNat:Int) < 33)=decide (u.toNat < 33):=by by_cases h:u.toNat < 33 <;> simp [h] <;> omega
  have e126:decide (126 < (u.toNat:Int))=decide (126 < u.toNat):=by by_cases h:126 < u.toNat <;> simp [h] <;> omega
  have e60:decide ((u.toNat:Int)=60)=decide (u.toNat=60):=by by_cases h:u.toNat=60 <;> simp [h]; omega
  have e62:decide ((u.toNat:Int)=62)=decide (u.toNat=62):=by by_cases h:u.toNat=62 <;> simp [h]; omega
  have hstep:badByte u=false→(x.data.toList.take (i+1)).any badByte=false:=by
   intro h
   rw [List.take_add_one,hu]
   simp only [Option.toList,List.any_append,hall,Bool.false_or,List.any_cons,List.any_nil,Bool.or_false]
   exact h
  have hbad:badByte u=true→A8t x=false:=by
   intro h
   have:x.data.toList.any badByte=true:=List.any_eq_true.2 ⟨_,List.mem_of_getElem? hu,h⟩
   simp [A8t,this]
  have hgo:badByte u=(decide (u.toNat < 33) || decide (126 < u.toNat) || decide (u.toNat=60) || decide (u.toNat=62)):=rfl
  have five:∀ a b c d:Bool,a=true∨(a=false∧b=true)∨(a=false∧b=false∧c=true)∨(a=false∧b=false∧c=false∧d=true)∨(a=false∧b=false∧c=false∧d=false):=by decide
  rcases five (decide (u.toNat < 33)) (decide (126 < u.toNat)) (decide (u.toNat=60)) (decide (u.toNat=62)) with h1 | ⟨h1,h2⟩ | ⟨h1,h2,h3⟩ | ⟨h1,h2,h3,h4⟩ | ⟨h1,h2,h3,h4⟩ <;> simp only [h1, *,Bool.or_true,Bool.or_false,Bool.true_or,Bool.false_or] at hgo
  ·simp only [↓Sh.dn,sx,Nat.reduceBEq,reduceCtorEq,Nat.reduceEqDiff,f0,f3,hix,A1a,hlt,e33,h1,decide_true,hres,hbad hgo,true_and]
  ·simp only [↓Sh.dn,sx,Nat.reduceBEq,reduceCtorEq,Nat.reduceEqDiff,f0,f3,hix,A1a,hlt,e33,e126,h1,h2,decide_true,hres,hbad hgo,true_and]
  ·simp only [↓Sh.dn,sx,Nat.reduceBEq,reduceCtorEq,Nat.reduceEqDiff,f0,f3,hix,A1a,hlt,e33,e126,e60,h1,h2,h3,decide_true,hres,hbad hgo,true_and]
  ·simp only [↓Sh.dn,sx,Nat.reduceBEq,reduceCtorEq,Nat.reduceEqDiff,f0,f3,hix,A1a,hlt,e33,e126,e60,e62,h1,h2,h3,h4,decide_true,hres,hbad hgo,true_and]
  ·simp only [↓Sh.dn,sx,Nat.reduceBEq,reduceCtorEq,Nat.reduceEqDiff,f0,f3,hix,A1a,hlt,e33,e126,e60,e62,h1,h2,h3,h4,decide_true,hres]
   exact k _ _ hlt ⟨rfl,by simp only [↓Sh.dn,sx,Nat.reduceBEq,reduceCtorEq,Nat.reduceEqDiff,f0],by simp only [↓Sh.dn,sx,Nat.reduceBEq,reduceCtorEq,Nat.reduceEqDiff,wrap_succ hlt hl],hstep hgo⟩
 ·have hin:i=x.size:=by omega
  subst hin
  rw [← hsz,List.take_length] at hall
  have e1:decide ((1:Int)≤((x.size:Nat):Int))=decide (1≤x.size):=by by_cases h:1≤x.size <;> simp [h] <;> omega
  have e16:decide (((x.size:Nat):Int)≤16)=decide (x.size≤16):=by by_cases h:x.size≤16 <;> simp [h] <;> omega
  cases h1:decide (1≤x.size) <;>
   simp only [↓Sh.dn,sx,Nat.reduceBEq,reduceCtorEq,Nat.reduceEqDiff,f0,f3,A1a,hlt,e1,e16,h1,decide_false,Bool.not_true,forall_const,not_true_eq_false,reduceCtorEq,false_implies,and_true,true_and,hres] <;>
   simp [A8t,hall,h1]
end Go.Proofs.YtcgbiedfbacgpaaGreat
/- Whether all texts of a list are symbols. -/
namespace Go.Proofs.YtcgbiedfbacgpaaGreat
open Go Go.Proofs Go.Proofs.Sh
theorem B8o {H:AH} {v:Value} {l:List ByteArray} (hs:Sl H v 1 (l.map A5a)) (hl:l.length≤1048576) (hlx:∀ x∈l,x.size≤1048576) (hw:Wf H):
  Sh.Call Tryz.prog (knows 7) 83 [v] H (fun r H'=>H'=H∧r=.bool (l.all A8t)):=by
 refine A3a rfl Tryz.func83 rfl (Nat.le_of_ble_eq_true rfl) ?_
 have hres:Tryz.f83.results.toList=[.tmp 2]:=rfl
 have hlen:=hs.len Tryz.underlying22 H
 simp only [↓Sh.dn,sx,Nat.reduceBEq,reduceCtorEq,Nat.reduceEqDiff]
 refine A30 l.length (fun i F H'=>H'=H∧F.get 0=some v∧F.get 3=some (.int .i64 (i:Int))∧(l.take i).all A8t=true) (Nat.zero_le _) ⟨rfl,by simp only [↓Sh.dn,sx,Nat.reduceBEq,reduceCtorEq,Nat.reduceEqDiff],by simp only [↓Sh.dn,sx,Nat.reduceBEq,reduceCtorEq,Nat.reduceEqDiff]; rfl,rfl⟩ ?_
 rintro i F H' hi ⟨rfl,f0,f3,hall⟩ k
 by_cases hlt:i < l.length
 ·obtain ⟨g,o,kk,hia,hc,hcc⟩:=hs.at Tryz.underlying22 A6h (i:=i) (x:=A5a l[i]) (by simp [hlt]) .i64
  have hy:=hcc 0 _ rfl
  simp only [Nat.add_zero] at hy
  obtain ⟨r,H1,hd,rfl,rfl⟩:=isSymbol (H:=H') (x:=l[i]) (hlx _ (List.getElem_mem hlt)) hw
  simp only [↓Sh.dn,sx,Nat.reduceBEq,reduceCtorEq,Nat.reduceEqDiff,f0,f3,hlen,hia,hy,List.length_map,A1a,hlt,decide_true,forall_const,reduceCtorEq,false_implies,and_true,true_and,hres]
  refine ⟨_,_,hd,?_⟩
  cases hsy:A8t l[i] with
  | false=>
   have:l.all A8t=false:=by
    rw [List.all_eq_false]
    exact ⟨_,List.getElem_mem hlt,by simp [hsy]⟩
   simp only [↓Sh.dn,sx,Nat.reduceBEq,reduceCtorEq,Nat.reduceEqDiff,hres,this]
  | true=>
   simp only [↓Sh.dn,sx,Nat.reduceBEq,reduceCtorEq,Nat.reduceEqDiff,f0,f3]
   refine k _ _ hlt ⟨rfl,by simp only [↓Sh.dn,sx,Nat.reduceBEq,reduceCtorEq,Nat.reduceEqDiff,f0],by simp only [↓Sh.dn,sx,Nat.reduceBEq,reduceCtorEq,Nat.reduceEqDiff,wrap_succ hlt hl],?_⟩
   rw [List.take_add_one,List.getElem?_eq_getElem hlt]
   simp only [Option.toList,List.all_append,hall,Bool.true_and,List.all_cons,List.all_nil,Bool.and_true,hsy]
 ·have hin:i=l.length:=by omega
  subst hin
  rw [List.take_length] at hall
  simp only [↓Sh.dn,sx,Nat.reduceBEq,reduceCtorEq,Nat.reduceEqDiff,f0,f3,hlen,List.length_map,A1a,hlt,decide_false,forall_const,reduceCtorEq,false_implies,and_true,true_and,hres]
  rw [hall]
end Go.Proofs.YtcgbiedfbacgpaaGreat
/- Whether texts ascend. -/
namespace Go.Proofs.YtcgbiedfbacgpaaGreat
open Go Go.Proofs Go.Proofs.Sh
def ascB:List ByteArray→Bool
 | x :: y :: l=>A0b x y && ascB (y :: l)
 | _=>true
theorem A70:∀ {l:List ByteArray},ascB l=true↔∀ (i:Nat) x y,l[i]?=some x→l[i+1]?=some y→A0b x y=true
 | []=>by simp [ascB]
 | [a]=>by simp [ascB]
 | a :: b :: l=>by
  simp only [ascB,Bool.and_eq_true,A70 (l:=b :: l)]
  constructor
  ·rintro ⟨h1,h2⟩ i x y hx hy
   cases i with
   | zero=>simp only [List.getElem?_cons_zero,List.getElem?_cons_succ,Option.some.injEq] at hx hy; subst hx hy; exact h1
   | succ i=>exact h2 i x y (by simpa using hx) (by simpa using hy)
  ·intro h
   exact ⟨h 0 a b rfl rfl,fun i x y hx hy=>h (i+1) x y (by simpa using hx) (by simpa using hy)⟩
theorem asc_of {l:List ByteArray} (h:ascB l=true):Asc l:=by
 rw [A70] at h
 intro i j x y hij hx hy
 obtain ⟨d,rfl⟩:∃ d,j=i+1+d:=⟨j - i - 1,by omega⟩
 induction d generalizing y with
 | zero=>exact h i x y hx hy
 | succ d ih=>
  have hjl:=(List.getElem?_eq_some_iff.1 hy).1
  have hz:l[i+1+d]?=some (l[i+1+d]'(by omega)):=List.getElem?_eq_getElem (by omega)
  exact A6k (ih _ (by omega) hz) (h _ _ _ hz hy)
theorem isSet {H:AH} {v:Value} {l:List ByteArray} (hs:Sl H v 1 (l.map A5a)) (hl:l.length≤1048576) (hw:Wf H):
  Sh.Call Tryz.prog (knows 7) 84 [v] H (fun r H'=>H'=H∧r=.bool (ascB l)):=by
 refine A3a rfl Tryz.func84 rfl (Nat.le_of_ble_eq_true rfl) ?_
 have hres:Tryz.f84.results.toList=[.tmp 2]:=rfl
 have hlen:=hs.len Tryz.underlying22 H
 simp only [↓Sh.dn,sx,Nat.reduceBEq,reduceCtorEq,Nat.reduceEqDiff,↓Sh.wp_cond]
 refine A4b (fun m F H'=>H'=H∧∃ i:Nat,m=l.length - i∧1≤i∧F.get 0=some v∧F.get 3=some (.int .i64 (i:Int))∧(∀ (j:Nat) x y,j+1 < i→l[j]?=some x→l[j+1]?=some y→A0b x y=true)) (m:=l.length - 1) ⟨rfl,1,rfl,Nat.le_refl _,by simp only [↓Sh.dn,sx,Nat.reduceBEq,reduceCtorEq,Nat.reduceEqDiff,↓Sh.wp_cond],by simp only [↓Sh.dn,sx,Nat.reduceBEq,reduceCtorEq,Nat.reduceEqDiff,↓Sh.wp_cond]; rfl,fun j x y h=>by omega⟩ ?_
 rintro m F H' ⟨rfl,i,rfl,h1,f0,f3,hall⟩ k
 by_cases hlt:i < l.length
 ·obtain ⟨g,o,kk,hia,hc,hcc⟩:=hs.at Tryz.underlying22 A6h (i:=i) (x:=A5a l[i]) (by simp [hlt]) .i64
  have hy:=hcc 0 _ rfl
  obtain ⟨g',o',kk',hia',hc',hcc'⟩:=hs.at Tryz.underlying22 A6h (i:=i - 1) (x:=A5a (l[i - 1]'(by omega))) (by simp [List.getElem?_eq_getElem (show i - 1 < l.length by omega)]) .i64
  have hy':=hcc' 0 _ rfl
  have hw1:IntKind.wrap .i64 ((i:Int) - 1)=((i - 1:Nat):Int):=by rw [wrap64 (by omega) (by omega)]; omega
  simp only [Nat.add_zero] at hy hy'
  simp only [↓Sh.dn,sx,Nat.reduceBEq,reduceCtorEq,Nat.reduceEqDiff,↓Sh.wp_cond,f0,f3,hlen,hia,hia',hy,hy',hw1,List.length_map,A1a,hlt,decide_true,forall_const,reduceCtorEq,false_implies,and_true,true_and,hres,Bool.not_eq_true',Bool.not_eq_false']
  have hx1:l[i - 1]?=some (l[i - 1]'(by omega)):=List.getElem?_eq_getElem (by omega)
  have hx2:l[i - 1+1]?=some l[i]:=by rw [show i - 1+1=i by omega]; exact List.getElem?_eq_getElem hlt
  refine ⟨fun h=>?_,fun h=>k (l.length - (i+1)) _ _ (by omega) ⟨rfl,i+1,rfl,by omega,by simp only [↓Sh.dn,sx,Nat.reduceBEq,reduceCtorEq,Nat.reduceEqDiff,↓Sh.wp_cond,f0],by simp only [↓Sh.dn,sx,Nat.reduceBEq,reduceCtorEq,Nat.reduceEqDiff,↓Sh.wp_cond,wrap_succ hlt hl],fun j x y hj hx hy=>?_⟩⟩
  ·have : ascB l = false := by
     cases hb : ascB l with
     | false => rfl
     | true => rw [A70.1 hb _ _ _ hx1 hx2] at h; cases h
   rw [this]
  ·by_cases hji:j+1 < i
   ·exact hall j x y hji hx hy
   ·have:j=i - 1:=by omega
    subst this
    rw [hx1] at hx
    rw [hx2] at hy
    rw [← Option.some.inj hx,← Option.some.inj hy]
    exact h
 ·simp only [↓Sh.dn,sx,Nat.reduceBEq,reduceCtorEq,Nat.reduceEqDiff,↓Sh.wp_cond,f0,f3,hlen,List.length_map,A1a,hlt,decide_false,forall_const,reduceCtorEq,false_implies,and_true,true_and,hres]
  have:ascB l=true:=A70.2 fun j x y hx hy=>hall j x y (by have:=(List.getElem?_eq_some_iff.1 hy).1; omega) hx hy
  rw [this]
end Go.Proofs.YtcgbiedfbacgpaaGreat
/- What is wrong with an alphabet, by the reference. -/
namespace Go.Proofs.YtcgbiedfbacgpaaGreat
open Go Go.Proofs Go.Proofs.Sh
def A0k (l:List ByteArray):Bool:=l.any fun s=>decide (16 < s.size)
def A1h (l:List ByteArray):Int:=if (decide (40 < l.length) || A0k l)=true then 3 else if (l.all A8t && ascB l)=true then 0 else 1
theorem C4c {H:AH} {v:Value} {l:List ByteArray} (hs:Sl H v 1 (l.map A5a)) (hl:l.length≤1048576) (hlx:∀ x∈l,x.size≤1048576) (hw:Wf H):
  Sh.Call Tryz.prog (knows 7) 45 [v] H (fun r H'=>Kept H H'∧r=.int .i64 (A1h l)):=by
 refine A3a rfl Tryz.func45 rfl (Nat.le_of_ble_eq_true rfl) ?_
 have hres:Tryz.f45.results.toList=[.tmp 2]:=rfl
 have hlen:=hs.len Tryz.underlying22 H
 have e40:decide ((40:Int) < ((l.length:Nat):Int))=decide (40 < l.length):=by by_cases h:40 < l.length <;> simp [h] <;> omega
 simp only [↓Sh.dn,sx,Nat.reduceBEq,reduceCtorEq,Nat.reduceEqDiff,hlen,List.length_map,e40]
 by_cases h40:40 < l.length
 ·simp only [↓Sh.dn,sx,Nat.reduceBEq,reduceCtorEq,Nat.reduceEqDiff,h40,decide_true,hres,A1h,Bool.true_or,forall_const,reduceCtorEq,false_implies,and_true,Kept.refl hw]
 ·simp only [↓Sh.dn,sx,Nat.reduceBEq,reduceCtorEq,Nat.reduceEqDiff,h40,decide_false]
  obtain ⟨r1,H1,hd1,hk1,rfl⟩:=C5o hs hl hw
  refine ⟨_,_,hd1,?_⟩
  cases hL:(l.any fun s=>decide (16 < s.size)) with
  | true=>simp only [↓Sh.dn,sx,Nat.reduceBEq,reduceCtorEq,Nat.reduceEqDiff,hres,hL,A1h,A0k,h40,decide_false,Bool.false_or,forall_const,reduceCtorEq,false_implies,and_true,hk1]
  | false=>
   simp only [↓Sh.dn,sx,Nat.reduceBEq,reduceCtorEq,Nat.reduceEqDiff,forall_const,reduceCtorEq,false_implies,and_true,true_and]
   obtain ⟨r2,H2,hd2,rfl,rfl⟩:=B8o (hs.grow (hk1.grow hw)) hl hlx hk1.wf
   refine ⟨_,_,hd2,?_⟩
   cases hA:l.all A8t with
   | false=>simp only [↓Sh.dn,sx,Nat.reduceBEq,reduceCtorEq,Nat.reduceEqDiff,hres,hL,hA,A1h,A0k,h40,decide_false,Bool.false_or,Bool.false_and,Bool.not_false,forall_const,reduceCtorEq,false_implies,and_true,hk1]
   | true=>
    obtain ⟨r3,H3,hd3,rfl,rfl⟩:=isSet (hs.grow (hk1.grow hw)) hl hk1.wf
    simp only [↓Sh.dn,sx,Nat.reduceBEq,reduceCtorEq,Nat.reduceEqDiff,Bool.not_true,forall_const,reduceCtorEq,false_implies,and_true,true_and]
    refine ⟨_,_,hd3,?_⟩
    cases hS:ascB l with
    | true=>simp only [↓Sh.dn,sx,Nat.reduceBEq,reduceCtorEq,Nat.reduceEqDiff,hres,hL,hA,hS,A1h,A0k,h40,decide_false,Bool.false_or,Bool.true_and,Bool.not_true,forall_const,reduceCtorEq,false_implies,and_true,true_and,hk1]
    | false=>simp only [↓Sh.dn,sx,Nat.reduceBEq,reduceCtorEq,Nat.reduceEqDiff,hres,hL,hA,hS,A1h,A0k,h40,decide_false,Bool.false_or,Bool.true_and,Bool.not_false,forall_const,reduceCtorEq,false_implies,and_true,true_and,hk1]
end Go.Proofs.YtcgbiedfbacgpaaGreat
/- sort.Search: the first place at which a question that stays true is true. -/
namespace Go.Proofs.YtcgbiedfbacgpaaGreat
open Go Go.Proofs Go.Proofs.Sh
theorem half (a b:Nat) (h:a+b < 2097152):A8l false .u64 (IntKind.wrap .u64 (IntKind.wrap .i64 ((a:Int)+(b:Int)))) 1=some (.int .u64 (((a+b) / 2:Nat):Int)):=by
 rw [wrap64 (by omega) (by omega)]
 have e:IntKind.wrap .u64 ((a:Int)+(b:Int))=((a+b:Nat):Int):=by
  simp only [IntKind.wrap]
  simp [IntKind.bits,IntKind.signed]
  omega
 rw [e]
 simp only [A8l,A4l]
 simp [IntKind.bits,Int.fdiv_eq_ediv]
theorem search {H:AH} {n fid:Nat} {caps:List Value} (p:Nat→Bool) (hn:n≤1048576) (hp:∀ i,i < n→Sh.Call Tryz.prog (knows 7) fid (.int .i64 (i:Int) :: caps) H (fun r H'=>r=.bool (p i)∧H'=H)) (hm:∀ a b,a≤b→b < n→p a=true→p b=true) (hw:Wf H):
  Sh.Call Tryz.prog (knows 7) 104 [.int .i64 (n:Int),.func (.func fid) #[] caps.toArray] H (fun r H'=>H'=H∧∃ k:Nat,r=.int .i64 (k:Int)∧k≤n∧(∀ i,i < k→p i=false)∧(∀ i,k≤i→i < n→p i=true)):=by
 refine A3a rfl Tryz.func104 rfl (Nat.le_of_ble_eq_true rfl) ?_
 have hres:Tryz.f104.results.toList=[.tmp 4]:=rfl
 simp only [↓Sh.dn,sx,Nat.reduceBEq,reduceCtorEq,Nat.reduceEqDiff]
 refine A4b (fun m F H'=>H'=H∧∃ a b:Nat,m=b - a∧a≤b∧b≤n∧F.get 5=some (.int .i64 (a:Int))∧F.get 6=some (.int .i64 (b:Int))∧F.get 1=some (.func (.func fid) #[] caps.toArray)∧(∀ i,i < a→p i=false)∧(∀ i,b≤i→i < n→p i=true)) (m:=n) ⟨rfl,0,n,by omega,by omega,by omega,by simp only [↓Sh.dn,sx,Nat.reduceBEq,reduceCtorEq,Nat.reduceEqDiff]; rfl,by simp only [↓Sh.dn,sx,Nat.reduceBEq,reduceCtorEq,Nat.reduceEqDiff],by simp only [↓Sh.dn,sx,Nat.reduceBEq,reduceCtorEq,Nat.reduceEqDiff],fun i h=>by omega,fun i h1 h2=>by omega⟩ ?_
 rintro m F H' ⟨rfl,a,b,rfl,hab,hbn,f5,f6,f1,hlo,hhi⟩ k
 by_cases hlt:a < b
 ·obtain ⟨r,H1,hd,rfl,rfl⟩:=hp ((a+b) / 2) (by omega)
  have hw2:IntKind.wrap .i64 (((a+b) / 2:Nat):Int)=(((a+b) / 2:Nat):Int):=wrap64 (by omega) (by omega)
  simp only [↓Sh.dn,sx,Nat.reduceBEq,reduceCtorEq,Nat.reduceEqDiff,f5,f6,f1,A1a,hlt,decide_true,forall_const,reduceCtorEq,false_implies,and_true,true_and,C0k,half a b (by omega),hw2,Value.func.injEq,Fn.func.injEq]
  refine ⟨_,_,hd,?_⟩
  cases hpv:p ((a+b) / 2) with
  | false=>
   have hw3:IntKind.wrap .i64 ((((a+b) / 2:Nat):Int)+1)=(((a+b) / 2+1:Nat):Int):=wrap_succ (n:=n) (by omega) hn
   simp only [↓Sh.dn,sx,Nat.reduceBEq,reduceCtorEq,Nat.reduceEqDiff,hpv,Bool.not_false,Bool.not_true,forall_const,reduceCtorEq,false_implies,and_true,true_and,hw3]
   refine k (b - ((a+b) / 2+1)) _ _ (by omega) ⟨rfl,(a+b) / 2+1,b,rfl,by omega,hbn,by simp only [↓Sh.dn,sx,Nat.reduceBEq,reduceCtorEq,Nat.reduceEqDiff],by simp only [↓Sh.dn,sx,Nat.reduceBEq,reduceCtorEq,Nat.reduceEqDiff,f6],by simp only [↓Sh.dn,sx,Nat.reduceBEq,reduceCtorEq,Nat.reduceEqDiff,f1],fun i hi=>?_,hhi⟩
   cases hpi:p i with
   | false=>rfl
   | true=>rw [hm i ((a+b) / 2) (by omega) (by omega) hpi] at hpv; cases hpv
  | true=>
   simp only [↓Sh.dn,sx,Nat.reduceBEq,reduceCtorEq,Nat.reduceEqDiff,hpv,Bool.not_false,Bool.not_true,forall_const,reduceCtorEq,false_implies,and_true,true_and]
   exact k ((a+b) / 2 - a) _ _ (by omega) ⟨rfl,a,(a+b) / 2,rfl,by omega,by omega,by simp only [↓Sh.dn,sx,Nat.reduceBEq,reduceCtorEq,Nat.reduceEqDiff,f5],by simp only [↓Sh.dn,sx,Nat.reduceBEq,reduceCtorEq,Nat.reduceEqDiff],by simp only [↓Sh.dn,sx,Nat.reduceBEq,reduceCtorEq,Nat.reduceEqDiff,f1],hlo,fun i h1 h2=>hm _ i h1 h2 hpv⟩
 ·have hab':a=b:=by omega
  subst hab'
  simp only [↓Sh.dn,sx,Nat.reduceBEq,reduceCtorEq,Nat.reduceEqDiff,f5,f6,f1,A1a,hlt,decide_false,forall_const,reduceCtorEq,false_implies,and_true,true_and,hres]
  exact ⟨a,rfl,hbn,hlo,hhi⟩
end Go.Proofs.YtcgbiedfbacgpaaGreat
/- What sort.SearchStrings asks of a place. -/
namespace Go.Proofs.YtcgbiedfbacgpaaGreat
open Go Go.Proofs Go.Proofs.Sh
theorem searchAt {H:AH} {g1 o1 k1 g2 o2 k2 i:Nat} {v:Value} {x y:ByteArray} {l:List ByteArray} (h1:H.cell ⟨g1,o1,some k1⟩=some v) (h2:H.cell ⟨g2,o2,some k2⟩=some (.string x)) (hs:Sl H v 1 (l.map A5a)) (hi:l[i]?=some y) (hw:Wf H):
  Sh.Call Tryz.prog (knows 7) 105 [.int .i64 (i:Int),.pointer (some ⟨g1,o1,some k1⟩),.pointer (some ⟨g2,o2,some k2⟩)] H (fun r H'=>r=.bool (!A0b y x)∧H'=H):=by
 refine A3a rfl Tryz.func105 rfl (Nat.le_of_ble_eq_true rfl) ?_
 have hres:Tryz.f105.results.toList=[.tmp 4]:=rfl
 obtain ⟨g,o,kk,hia,hc,hcc⟩:=hs.at Tryz.underlying22 A6h (i:=i) (x:=A5a y) (by simp [hi]) .i64
 have hy:=hcc 0 _ rfl
 simp only [Nat.add_zero] at hy
 simp only [↓Sh.dn,sx,Nat.reduceBEq,reduceCtorEq,Nat.reduceEqDiff,h1,h2,hia,hy,hres,true_and,and_true]
end Go.Proofs.YtcgbiedfbacgpaaGreat
/- sort.SearchStrings over an ascending list. -/
namespace Go.Proofs.YtcgbiedfbacgpaaGreat
open Go Go.Proofs Go.Proofs.Sh
theorem B0p {H:AH} {v:Value} {x:ByteArray} {l:List ByteArray} (hs:Sl H v 1 (l.map A5a)) (ha:Asc l) (hl:l.length≤1048576) (hw:Wf H):
  Sh.Call Tryz.prog (knows 7) 85 [v,.string x] H (fun r H'=>Kept H H'∧∃ k:Nat,r=.int .i64 (k:Int)∧k≤l.length∧(∀ (i:Nat) y,i < k→l[i]?=some y→A0b y x=true)∧(∀ (i:Nat) y,k≤i→l[i]?=some y→A0b y x=false)):=by
 refine A3a rfl Tryz.func85 rfl (Nat.le_of_ble_eq_true rfl) ?_
 have hres:Tryz.f85.results.toList=[.tmp 4]:=rfl
 have hn1:=A60 (P:=Tryz.prog) (H:=H) (t:=22) A5k hs.isCell
 have hk1:=Kept.new hw 1 [v]
 have hO1:=Obj.new (H:=H) 1 [v]
 have hn2:=A60 (P:=Tryz.prog) (H:=(H.new 1 [v]).2) (t:=9) (v:=.string x) A6h rfl
 have hk2:=hk1.trans (Kept.new hk1.wf 1 [.string x])
 have hO2:=Obj.new (H:=(H.new 1 [v]).2) 1 [.string x]
 have hO1':Sh.Obj ((H.new 1 [v]).2.new 1 [.string x]).2 H.next 1 [v] true:=by
  unfold Sh.Obj
  rw [C7x (by rw [new_nx]; omega)]
  exact hO1
 simp only [↓Sh.dn,sx,Nat.reduceBEq,reduceCtorEq,Nat.reduceEqDiff,hn1,hn2]
 have hx1:(H.new 1 [v]).2.next=H.next+1:=rfl
 rw [hx1] at hO2 ⊢
 generalize ((H.new 1 [v]).2.new 1 [.string x]).2=H2 at hO1' hO2 hk2 ⊢
 have c1:H2.cell ⟨H.next,0,some 0⟩=some v:=hO1'.cell
 have c2:H2.cell ⟨H.next+1,0,some 0⟩=some (.string x):=hO2.cell
 have hs2:=hs.grow (hk2.grow hw)
 have hlen:=hs2.len Tryz.underlying22 H2
 simp only [c1,hlen,List.length_map,↓Sh.dn,sx,Nat.reduceBEq,reduceCtorEq,Nat.reduceEqDiff]
 obtain ⟨r,H3,hd,rfl,k,rfl,hk,hlo,hhi⟩:=search (H:=H2) (n:=l.length) (caps:=[.pointer (some ⟨H.next,0,some 0⟩),.pointer (some ⟨H.next+1,0,some 0⟩)]) (fid:=105) (fun i=>match l[i]? with | some y=>!A0b y x | none=>true) hl
  (fun i hi=>by
   have hy:l[i]?=some (l[i]'hi):=List.getElem?_eq_getElem hi
   simp only [hy]
   exact searchAt c1 c2 hs2 hy hk2.wf)
  (fun a b hab hb=>by
   have hya:l[a]?=some (l[a]'(by omega)):=List.getElem?_eq_getElem (by omega)
   have hyb:l[b]?=some (l[b]'hb):=List.getElem?_eq_getElem hb
   simp only [hya,hyb,Bool.not_eq_true']
   intro h
   rcases Nat.lt_or_ge a b with hlt | hge
   ·cases h2:A0b l[b] x with
    | false=>rfl
    | true=>rw [A6k (ha a b _ _ hlt hya hyb) h2] at h; cases h
   ·have:a=b:=by omega
    subst this
    exact h) hk2.wf
 refine ⟨_,_,hd,?_⟩
 simp only [↓Sh.dn,sx,Nat.reduceBEq,reduceCtorEq,Nat.reduceEqDiff,hres]
 refine ⟨hk2,k,rfl,hk,fun i y hi hy=>?_,fun i y hi hy=>?_⟩
 ·have:=hlo i hi
  simpa [hy] using this
 ·have hil:=(List.getElem?_eq_some_iff.1 hy).1
  have:=hhi i hi hil
  simpa [hy] using this
end Go.Proofs.YtcgbiedfbacgpaaGreat
/- Whether a text is in an ascending list. -/
namespace Go.Proofs.YtcgbiedfbacgpaaGreat
open Go Go.Proofs Go.Proofs.Sh
theorem isIn {H:AH} {v:Value} {x:ByteArray} {l:List ByteArray} (hs:Sl H v 1 (l.map A5a)) (ha:Asc l) (hl:l.length≤1048576) (hw:Wf H):
  Sh.Call Tryz.prog (knows 7) 47 [v,.string x] H (fun r H'=>Kept H H'∧r=.bool (A9n l x)):=by
 refine A3a rfl Tryz.func47 rfl (Nat.le_of_ble_eq_true rfl) ?_
 have hres:Tryz.f47.results.toList=[.tmp 4]:=rfl
 obtain ⟨r,H1,hd,hk1,k,rfl,hk,hlo,hhi⟩:=B0p hs ha hl hw (x:=x)
 have hp:=B4s ha x hlo hhi
 simp only [↓Sh.dn,sx,Nat.reduceBEq,reduceCtorEq,Nat.reduceEqDiff]
 refine ⟨_,_,hd,?_⟩
 have hs1:=hs.grow (hk1.grow hw)
 have hlen:=hs1.len Tryz.underlying22 H1
 by_cases hlt:k < l.length
 ·have hy:l[k]?=some (l[k]'hlt):=List.getElem?_eq_getElem hlt
  obtain ⟨g,o,kk,hia,hc,hcc⟩:=hs1.at Tryz.underlying22 A6h (i:=k) (x:=A5a l[k]) (by simp [hlt]) .i64
  have hyc:=hcc 0 _ rfl
  simp only [Nat.add_zero] at hyc
  simp only [↓Sh.dn,sx,Nat.reduceBEq,reduceCtorEq,Nat.reduceEqDiff,hlen,List.length_map,A1a,hlt,decide_true,hia,hyc,hres,forall_const,not_true_eq_false,false_implies,and_true,true_and]
  refine ⟨hk1,?_⟩
  have:decide (l[k]=x)=A9n l x:=by
   rw [Bool.eq_iff_iff,decide_eq_true_eq,A0g,← hp,hy,Option.some.injEq]
  rw [this]
 ·simp only [↓Sh.dn,sx,Nat.reduceBEq,reduceCtorEq,Nat.reduceEqDiff,hlen,List.length_map,A1a,hlt,decide_false,Bool.not_true,hres,forall_const,not_true_eq_false,false_implies,and_true,true_and]
  refine ⟨hk1,?_⟩
  have:A9n l x=false:=by
   cases h:A9n l x with
   | false=>rfl
   | true=>
    have:=hp.2 (A0g.1 h)
    rw [List.getElem?_eq_none (by omega)] at this; cases this
  rw [this]
end Go.Proofs.YtcgbiedfbacgpaaGreat
/- What is wrong with a net of any kind, by the reference. -/
namespace Go.Proofs.YtcgbiedfbacgpaaGreat
open Go Go.Proofs Go.Proofs.Sh
def A3l (N:NetD) (s:ByteArray):Bool:=!decide (s=⟨#[]⟩) && !A9n N.sigma s
def A3p (N:NetD) (a:ArcD):Bool:=decide (a.fr < 0) || decide (N.states≤a.fr) || decide (a.to < 0) || decide (N.states≤a.to) || A3l N a.inn || A3l N a.out
def A1y (N:NetD) (e:EndD):Bool:=decide (e.state < 0) || decide (N.states≤e.state)
def A3u (N:NetD):Bool:=decide (3000 < N.states) || decide (60000 < N.arcs.length) || decide (60000 < N.ends.length)
def A5m (N:NetD):Int:=if A3u N=true then 3 else if A1h N.sigma≠0 then A1h N.sigma else if N.states < 1 then 1 else if N.arcs.any (A3p N)=true then 1 else if N.ends.any (A1y N)=true then 1 else 0
theorem A1v {l:List ByteArray} (h:A1h l=0):Asc l:=by
 unfold A1h at h
 split at h
 ·cases h
 ·split at h
  ·rename_i h1
   simp only [Bool.and_eq_true] at h1
   exact asc_of h1.2
  ·cases h
theorem B07 {H:AH} {v:Value} {N:NetD} (h:B2a H v N) (hsm:A6z N) (hw:Wf H):
  Sh.Call Tryz.prog (knows 7) 50 [v] H (fun r H'=>Kept H H'∧r=.int .i64 (A5m N)):=by
 refine A3a rfl Tryz.func50 rfl (Nat.le_of_ble_eq_true rfl) ?_
 have hres:Tryz.f50.results.toList=[.tmp 2]:=rfl
 obtain ⟨sg,ar,en,rfl,hsg,har,hen⟩:=h
 have hb1:=NetBox.of (N:=N) hw hsg har hen
 have hk1:Kept H (H.new 4 [sg,.int .i64 N.states,ar,en]).2:=Kept.new hw 4 _
 have eA:decide ((60000:Int) < (N.arcs.length:Int))=decide (60000 < N.arcs.length):=decide_eq_decide.2 (by omega)
 have eE:decide ((60000:Int) < (N.ends.length:Int))=decide (60000 < N.ends.length):=decide_eq_decide.2 (by omega)
 simp only [↓Sh.dn,sx,Nat.reduceBEq,reduceCtorEq,Nat.reduceEqDiff,B5m hsg.isCell har.isCell hen.isCell]
 generalize hg:H.next=gg at hb1 ⊢
 generalize (H.new 4 [sg,.int .i64 N.states,ar,en]).2=H1 at hb1 hk1 ⊢
 simp only [↓Sh.dn,sx,Nat.reduceBEq,reduceCtorEq,Nat.reduceEqDiff,hb1.c0,hb1.c1,hb1.c2,hb1.c3,hb1.ca,A8b hb1,A9b hb1,A0c hb1]
 by_cases hA:3000 < N.states
 ·simp only [↓Sh.dn,sx,Nat.reduceBEq,reduceCtorEq,Nat.reduceEqDiff,hA,decide_true,hres,A5m,A3u,Bool.true_or,hk1]
 by_cases hB:60000 < N.arcs.length
 ·simp only [↓Sh.dn,sx,Nat.reduceBEq,reduceCtorEq,Nat.reduceEqDiff,hb1.c0,hb1.c1,hb1.c2,hb1.c3,hb1.ca,A8b hb1,A9b hb1,A0c hb1,hA,eA,hB,decide_true,decide_false,hres,A5m,A3u,Bool.true_or,Bool.or_true,hk1]
 by_cases hC:60000 < N.ends.length
 ·simp only [↓Sh.dn,sx,Nat.reduceBEq,reduceCtorEq,Nat.reduceEqDiff,hb1.c0,hb1.c1,hb1.c2,hb1.c3,hb1.ca,A8b hb1,A9b hb1,A0c hb1,hA,eA,eE,hB,hC,decide_true,decide_false,hres,A5m,A3u,Bool.true_or,Bool.or_true,hk1]
 have hT:A3u N=false:=by simp [A3u,hA,hB,hC]
 simp only [↓Sh.dn,sx,Nat.reduceBEq,reduceCtorEq,Nat.reduceEqDiff,hb1.c0,hb1.c1,hb1.c2,hb1.c3,hb1.ca,A8b hb1,A9b hb1,A0c hb1,hA,eA,eE,hB,hC,decide_true,decide_false,hres]
 obtain ⟨r,H2,hd,hk2,rfl⟩:=C4c hb1.hsg hsm.sg hsm.sx hk1.wf
 refine ⟨_,_,hd,?_⟩
 have hb2:=hb1.kept hk1.wf hk2
 have hk12:=hk1.trans hk2
 by_cases hS:A1h N.sigma=0
 case neg=>simp only [↓Sh.dn,sx,Nat.reduceBEq,reduceCtorEq,Nat.reduceEqDiff,hS,decide_false,hres,A5m,hT,Bool.false_eq_true,if_false,ne_eq,not_false_eq_true,if_true,hk12]
 have hasc:=A1v hS
 simp only [↓Sh.dn,sx,Nat.reduceBEq,reduceCtorEq,Nat.reduceEqDiff,hS,decide_true,hb2.c0,hb2.c1,hb2.c2,hb2.c3,hb2.ca,A8b hb2,A9b hb2,A0c hb2]
 by_cases hst:N.states < 1
 ·simp only [↓Sh.dn,sx,Nat.reduceBEq,reduceCtorEq,Nat.reduceEqDiff,hst,decide_true,hres,A5m,hT,hS,ne_eq,not_true_eq_false,if_false,if_true,hk12,Bool.false_eq_true]
 simp only [↓Sh.dn,sx,Nat.reduceBEq,reduceCtorEq,Nat.reduceEqDiff,hst,decide_false]
 have e1:N.arcs.any (A3p N)=true→A5m N=1:=by intro h; simp [A5m,hT,hS,hst,h]
 have e2:N.ends.any (A1y N)=true→A5m N=1:=by intro h; simp [A5m,hT,hS,hst,h]
 have e3:N.arcs.any (A3p N)=false→N.ends.any (A1y N)=false→A5m N=0:=by intro h h'; simp [A5m,hT,hS,hst,h,h']
 refine A9e N.arcs.length 4 (List.range' 4 87++[2]) (fun i F H'=>Kept H2 H'∧(N.arcs.take i).any (A3p N)=false) (by simp only [↓Sh.dn,sx,Nat.reduceBEq,reduceCtorEq,Nat.reduceEqDiff]) ⟨Kept.refl hk12.wf,rfl⟩ ?_ ?_
 ·rintro i F H' hlt hF f4 ⟨hk,hall⟩ k
  have f1:=hF 1 rfl
  simp only [↓Sh.dn,sx,Nat.reduceBEq,reduceCtorEq,Nat.reduceEqDiff] at f1
  have hb':=hb2.kept hk12.wf hk
  have hb3:=hb'.new hk.wf 5 (N.arcs[i].cells)
  have hk3:=hk.news 5 (N.arcs[i].cells)
  obtain ⟨g,o,kk,hia,hc,hcc⟩:=hb'.har.at Tryz.underlying23 A9r (i:=i) (x:=N.arcs[i].cells) (by simp [hlt]) .i64
  clear hcc
  have hin:N.arcs[i]∈N.arcs:=List.getElem_mem hlt
  have hnext:A3p N N.arcs[i]=false→(N.arcs.take (i+1)).any (A3p N)=false:=by
   intro h
   rw [List.take_add_one,List.getElem?_eq_getElem hlt]
   simp only [Option.toList,List.any_append,hall,List.any_cons,List.any_nil,h,Bool.or_false]
  have hbad:A3p N N.arcs[i]=true→A5m N=1:=fun h=>e1 (List.any_eq_true.2 ⟨_,hin,h⟩)
  generalize N.arcs[i]=a at hb3 hk3 hc hnext hbad
  have hi2:=isIn (x:=a.inn) hb3.hsg hasc hsm.sg hk3.wf
  simp only [↓Sh.dn,sx,Nat.reduceBEq,reduceCtorEq,Nat.reduceEqDiff,hb'.c0,hb'.c1,hb'.c2,hb'.c3,hb'.ca,A8b hb',A9b hb',A0c hb',A7i,A4o,A8n,A7s,A8s,A8j,A2k,A7n,A3o,A1l,arc0,arc1,arc2,arc3,arc4,end0,end1,f1,f4,Option.map_some,A1a,hlt,decide_true,hia,hc,hres]
  by_cases h1:a.fr < 0
  ·simp only [↓Sh.dn,sx,Nat.reduceBEq,reduceCtorEq,Nat.reduceEqDiff,hb3.c0,hb3.c1,hb3.c2,hb3.c3,hb3.ca,A8b hb3,A9b hb3,A0c hb3,A7i,A4o,A8n,A7s,A8s,A8j,A2k,A7n,A3o,A1l,arc0,arc1,arc2,arc3,arc4,end0,end1,h1,decide_true,hres,hbad (by simp [A3p,h1]),hk12.trans hk3]
  simp only [↓Sh.dn,sx,Nat.reduceBEq,reduceCtorEq,Nat.reduceEqDiff,hb3.c0,hb3.c1,hb3.c2,hb3.c3,hb3.ca,A8b hb3,A9b hb3,A0c hb3,A7i,A4o,A8n,A7s,A8s,A8j,A2k,A7n,A3o,A1l,arc0,arc1,arc2,arc3,arc4,end0,end1,f1,h1,decide_false]
  by_cases h2:N.states≤a.fr
  ·simp only [↓Sh.dn,sx,Nat.reduceBEq,reduceCtorEq,Nat.reduceEqDiff,hb3.c0,hb3.c1,hb3.c2,hb3.c3,hb3.ca,A8b hb3,A9b hb3,A0c hb3,A7i,A4o,A8n,A7s,A8s,A8j,A2k,A7n,A3o,A1l,arc0,arc1,arc2,arc3,arc4,end0,end1,h2,decide_true,hres,hbad (by simp [A3p,h2]),hk12.trans hk3]
  simp only [↓Sh.dn,sx,Nat.reduceBEq,reduceCtorEq,Nat.reduceEqDiff,hb3.c0,hb3.c1,hb3.c2,hb3.c3,hb3.ca,A8b hb3,A9b hb3,A0c hb3,A7i,A4o,A8n,A7s,A8s,A8j,A2k,A7n,A3o,A1l,arc0,arc1,arc2,arc3,arc4,end0,end1,f1,h2,decide_false]
  by_cases h3:a.to < 0
  ·simp only [↓Sh.dn,sx,Nat.reduceBEq,reduceCtorEq,Nat.reduceEqDiff,hb3.c0,hb3.c1,hb3.c2,hb3.c3,hb3.ca,A8b hb3,A9b hb3,A0c hb3,A7i,A4o,A8n,A7s,A8s,A8j,A2k,A7n,A3o,A1l,arc0,arc1,arc2,arc3,arc4,end0,end1,h3,decide_true,hres,hbad (by simp [A3p,h3]),hk12.trans hk3]
  simp only [↓Sh.dn,sx,Nat.reduceBEq,reduceCtorEq,Nat.reduceEqDiff,hb3.c0,hb3.c1,hb3.c2,hb3.c3,hb3.ca,A8b hb3,A9b hb3,A0c hb3,A7i,A4o,A8n,A7s,A8s,A8j,A2k,A7n,A3o,A1l,arc0,arc1,arc2,arc3,arc4,end0,end1,f1,h3,decide_false]
  by_cases h4:N.states≤a.to
  ·simp only [↓Sh.dn,sx,Nat.reduceBEq,reduceCtorEq,Nat.reduceEqDiff,hb3.c0,hb3.c1,hb3.c2,hb3.c3,hb3.ca,A8b hb3,A9b hb3,A0c hb3,A7i,A4o,A8n,A7s,A8s,A8j,A2k,A7n,A3o,A1l,arc0,arc1,arc2,arc3,arc4,end0,end1,h4,decide_true,hres,hbad (by simp [A3p,h4]),hk12.trans hk3]
  simp only [↓Sh.dn,sx,Nat.reduceBEq,reduceCtorEq,Nat.reduceEqDiff,hb3.c0,hb3.c1,hb3.c2,hb3.c3,hb3.ca,A8b hb3,A9b hb3,A0c hb3,A7i,A4o,A8n,A7s,A8s,A8j,A2k,A7n,A3o,A1l,arc0,arc1,arc2,arc3,arc4,end0,end1,f1,h4,decide_false]
  have hgo:A3l N a.inn=false→A3l N a.out=false→A3p N a=false:=by intro h h'; simp [A3p,h1,h2,h3,h4,h,h']
  have hout:∀ (H4:AH) (F4:Fr),Kept (H'.new 5 a.cells).2 H4→A3l N a.inn=false→True:=fun _ _ _ _=>trivial
  by_cases h5:a.inn=⟨#[]⟩
  ·have hI:A3l N a.inn=false:=by simp [A3l,h5]
   simp only [↓Sh.dn,sx,Nat.reduceBEq,reduceCtorEq,Nat.reduceEqDiff,hb3.c0,hb3.c1,hb3.c2,hb3.c3,hb3.ca,A8b hb3,A9b hb3,A0c hb3,A7i,A4o,A8n,A7s,A8s,A8j,A2k,A7n,A3o,A1l,arc0,arc1,arc2,arc3,arc4,end0,end1,f1,h5,decide_true]
   by_cases h6:a.out=⟨#[]⟩
   ·have hO:A3l N a.out=false:=by simp [A3l,h6]
    simp only [↓Sh.dn,sx,Nat.reduceBEq,reduceCtorEq,Nat.reduceEqDiff,hb3.c0,hb3.c1,hb3.c2,hb3.c3,hb3.ca,A8b hb3,A9b hb3,A0c hb3,A7i,A4o,A8n,A7s,A8s,A8j,A2k,A7n,A3o,A1l,arc0,arc1,arc2,arc3,arc4,end0,end1,f1,f4,h6,decide_true,wrap_succ hlt hsm.ar]
    exact k _ _ (by repeat (first | refine Same.put ?_ rfl | exact Same.rfl' _)) (by simp only [↓Sh.dn,sx,Nat.reduceBEq,reduceCtorEq,Nat.reduceEqDiff]) ⟨hk3,hnext (hgo hI hO)⟩
   ·obtain ⟨r,H4,hd4,hk4,rfl⟩:=isIn (x:=a.out) hb3.hsg hasc hsm.sg hk3.wf
    simp only [↓Sh.dn,sx,Nat.reduceBEq,reduceCtorEq,Nat.reduceEqDiff,hb3.c0,hb3.c1,hb3.c2,hb3.c3,hb3.ca,A8b hb3,A9b hb3,A0c hb3,A7i,A4o,A8n,A7s,A8s,A8j,A2k,A7n,A3o,A1l,arc0,arc1,arc2,arc3,arc4,end0,end1,f1,h6,decide_false]
    refine ⟨_,_,hd4,?_⟩
    cases h7:A9n N.sigma a.out with
    | true=>
     have hO:A3l N a.out=false:=by simp [A3l,h7]
     simp only [↓Sh.dn,sx,Nat.reduceBEq,reduceCtorEq,Nat.reduceEqDiff,f4,wrap_succ hlt hsm.ar]
     exact k _ _ (by repeat (first | refine Same.put ?_ rfl | exact Same.rfl' _)) (by simp only [↓Sh.dn,sx,Nat.reduceBEq,reduceCtorEq,Nat.reduceEqDiff]) ⟨hk3.trans hk4,hnext (hgo hI hO)⟩
    | false=>
     simp only [↓Sh.dn,sx,Nat.reduceBEq,reduceCtorEq,Nat.reduceEqDiff,hres,hbad (by simp [A3p,A3l,h6,h7]),(hk12.trans hk3).trans hk4]
  ·obtain ⟨r,H4,hd4,hk4,rfl⟩:=isIn (x:=a.inn) hb3.hsg hasc hsm.sg hk3.wf
   simp only [↓Sh.dn,sx,Nat.reduceBEq,reduceCtorEq,Nat.reduceEqDiff,hb3.c0,hb3.c1,hb3.c2,hb3.c3,hb3.ca,A8b hb3,A9b hb3,A0c hb3,A7i,A4o,A8n,A7s,A8s,A8j,A2k,A7n,A3o,A1l,arc0,arc1,arc2,arc3,arc4,end0,end1,f1,h5,decide_false]
   refine ⟨_,_,hd4,?_⟩
   have hb4:=hb3.kept hk3.wf hk4
   have q2:=A7f (hk4.grow hk3.wf) (arc2 (H:=H') (a:=a))
   cases h7:A9n N.sigma a.inn with
   | false=>
    simp only [↓Sh.dn,sx,Nat.reduceBEq,reduceCtorEq,Nat.reduceEqDiff,hres,hbad (by simp [A3p,A3l,h5,h7]),(hk12.trans hk3).trans hk4]
   | true=>
    have hI:A3l N a.inn=false:=by simp [A3l,h7]
    simp only [↓Sh.dn,sx,Nat.reduceBEq,reduceCtorEq,Nat.reduceEqDiff,hb4.c0,hb4.c1,hb4.c2,hb4.c3,hb4.ca,A8b hb4,A9b hb4,A0c hb4,q2,f1]
    by_cases h6:a.out=⟨#[]⟩
    ·have hO:A3l N a.out=false:=by simp [A3l,h6]
     simp only [↓Sh.dn,sx,Nat.reduceBEq,reduceCtorEq,Nat.reduceEqDiff,hb4.c0,hb4.c1,hb4.c2,hb4.c3,hb4.ca,A8b hb4,A9b hb4,A0c hb4,q2,f1,f4,h6,decide_true,wrap_succ hlt hsm.ar]
     exact k _ _ (by repeat (first | refine Same.put ?_ rfl | exact Same.rfl' _)) (by simp only [↓Sh.dn,sx,Nat.reduceBEq,reduceCtorEq,Nat.reduceEqDiff]) ⟨hk3.trans hk4,hnext (hgo hI hO)⟩
    ·obtain ⟨r,H5,hd5,hk5,rfl⟩:=isIn (x:=a.out) hb4.hsg hasc hsm.sg hk4.wf
     simp only [↓Sh.dn,sx,Nat.reduceBEq,reduceCtorEq,Nat.reduceEqDiff,hb4.c0,hb4.c1,hb4.c2,hb4.c3,hb4.ca,A8b hb4,A9b hb4,A0c hb4,q2,f1,h6,decide_false]
     refine ⟨_,_,hd5,?_⟩
     cases h8:A9n N.sigma a.out with
     | true=>
      have hO:A3l N a.out=false:=by simp [A3l,h8]
      simp only [↓Sh.dn,sx,Nat.reduceBEq,reduceCtorEq,Nat.reduceEqDiff,f4,wrap_succ hlt hsm.ar]
      exact k _ _ (by repeat (first | refine Same.put ?_ rfl | exact Same.rfl' _)) (by simp only [↓Sh.dn,sx,Nat.reduceBEq,reduceCtorEq,Nat.reduceEqDiff]) ⟨(hk3.trans hk4).trans hk5,hnext (hgo hI hO)⟩
     | false=>
      simp only [↓Sh.dn,sx,Nat.reduceBEq,reduceCtorEq,Nat.reduceEqDiff,hres,hbad (by simp [A3p,A3l,h6,h8]),((hk12.trans hk3).trans hk4).trans hk5]
 ·rintro F H' hF f4 ⟨hk,hall⟩
  have f1:=hF 1 rfl
  simp only [↓Sh.dn,sx,Nat.reduceBEq,reduceCtorEq,Nat.reduceEqDiff] at f1
  rw [List.take_length] at hall
  have hb':=hb2.kept hk12.wf hk
  have hkk:=hk12.trans hk
  simp only [↓Sh.dn,sx,Nat.reduceBEq,reduceCtorEq,Nat.reduceEqDiff,hb'.c0,hb'.c1,hb'.c2,hb'.c3,hb'.ca,A8b hb',A9b hb',A0c hb',f1,f4,A1a,Nat.lt_irrefl,decide_false]
  refine A9e N.ends.length 6 (List.range' 91 26++[2,6]) (fun i F H''=>H''=H'∧(N.ends.take i).any (A1y N)=false) (by simp only [↓Sh.dn,sx,Nat.reduceBEq,reduceCtorEq,Nat.reduceEqDiff]) ⟨rfl,rfl⟩ ?_ ?_
  ·rintro i F2 H'' hlt hF2 f6 ⟨rfl,hall2⟩ k
   have g1:=hF2 1 rfl
   simp only [↓Sh.dn,sx,Nat.reduceBEq,reduceCtorEq,Nat.reduceEqDiff,f1] at g1
   obtain ⟨g,o,kk,hia,hc,hcc⟩:=hb'.hen.at Tryz.underlying24 A3t (i:=i) (x:=N.ends[i].cells) (by simp [hlt]) .i64
   have q0:=hcc 0 _ rfl
   simp only [Nat.add_zero] at q0
   have hbad:A1y N N.ends[i]=true→A5m N=1:=fun h=>e2 (List.any_eq_true.2 ⟨_,List.getElem_mem hlt,h⟩)
   simp only [↓Sh.dn,sx,Nat.reduceBEq,reduceCtorEq,Nat.reduceEqDiff,hb'.c0,hb'.c1,hb'.c2,hb'.c3,hb'.ca,A8b hb',A9b hb',A0c hb',g1,f6,A1a,hlt,decide_true,hia,q0,Nat.add_zero]
   by_cases h1:N.ends[i].state < 0
   ·simp only [↓Sh.dn,sx,Nat.reduceBEq,reduceCtorEq,Nat.reduceEqDiff,h1,decide_true,hres,hbad (by simp [A1y,h1]),hkk]
   simp only [↓Sh.dn,sx,Nat.reduceBEq,reduceCtorEq,Nat.reduceEqDiff,hb'.c0,hb'.c1,hb'.c2,hb'.c3,hb'.ca,A8b hb',A9b hb',A0c hb',g1,f6,hia,q0,h1,decide_false]
   by_cases h2:N.states≤N.ends[i].state
   ·simp only [↓Sh.dn,sx,Nat.reduceBEq,reduceCtorEq,Nat.reduceEqDiff,h2,decide_true,hres,hbad (by simp [A1y,h2]),hkk]
   simp only [↓Sh.dn,sx,Nat.reduceBEq,reduceCtorEq,Nat.reduceEqDiff,f6,h2,decide_false,wrap_succ hlt hsm.en]
   refine k _ _ (by repeat (first | refine Same.put ?_ rfl | exact Same.rfl' _)) (by simp only [↓Sh.dn,sx,Nat.reduceBEq,reduceCtorEq,Nat.reduceEqDiff]) ⟨rfl,?_⟩
   rw [List.take_add_one,List.getElem?_eq_getElem hlt]
   simp only [Option.toList,List.any_append,hall2,List.any_cons,List.any_nil,Bool.or_false,A1y,h1,h2,decide_false]
  ·rintro F2 H'' hF2 f6 ⟨rfl,hall2⟩
   have g1:=hF2 1 rfl
   simp only [↓Sh.dn,sx,Nat.reduceBEq,reduceCtorEq,Nat.reduceEqDiff,f1] at g1
   rw [List.take_length] at hall2
   simp only [↓Sh.dn,sx,Nat.reduceBEq,reduceCtorEq,Nat.reduceEqDiff,hb'.c0,hb'.c1,hb'.c2,hb'.c3,hb'.ca,A8b hb',A9b hb',A0c hb',g1,f6,A1a,Nat.lt_irrefl,decide_false,hres,e3 hall hall2,hkk]
end Go.Proofs.YtcgbiedfbacgpaaGreat
/- Whether nothing of a net costs. -/
namespace Go.Proofs.YtcgbiedfbacgpaaGreat
open Go Go.Proofs Go.Proofs.Sh
def NetD.free (N:NetD):Bool:=N.arcs.all (fun a=>decide (a.cost=0)) && N.ends.all (fun a=>decide (a.cost=0))
theorem isFree {H:AH} {v:Value} {N:NetD} (h:B2a H v N) (hw:Wf H) (hl:N.arcs.length≤1048576) (hl2:N.ends.length≤1048576):Sh.Call Tryz.prog (knows 7) 51 [v] H (fun r H'=>r=.bool (NetD.free N)∧Kept H H'):=by
 obtain ⟨sg,ar,en,rfl,hsg,har,hen⟩:=h
 refine A3a rfl Tryz.func51 rfl (Nat.le_of_ble_eq_true rfl) ?_
 have hn:=A9p (P:=Tryz.prog) (H:=H) (t:=26) (vs:=[sg,.int .i64 N.states,ar,en]) A91 rfl (by simp [hsg.isCell,har.isCell,hen.isCell,show isCell (.int .i64 N.states)=true from rfl])
 have hO:=Obj.new (H:=H) 4 [sg,.int .i64 N.states,ar,en]
 have hk:Kept H (H.new 4 [sg,.int .i64 N.states,ar,en]).2:=Kept.new hw 4 _
 simp only [↓Sh.dn,sx,Nat.reduceBEq,reduceCtorEq,Nat.reduceEqDiff,↓Sh.wp_cond,hn]
 generalize (H.new 4 [sg,.int .i64 N.states,ar,en]).2=H1 at hO hk ⊢
 have c2:H1.cell ⟨H.next,2,some 0⟩=some ar:=hO.cell
 have c3:H1.cell ⟨H.next,3,some 0⟩=some en:=hO.cell
 have har1:=har.grow (hk.grow hw)
 have hen1:=hen.grow (hk.grow hw)
 have l2:=har1.len Tryz.underlying23 H1
 have l3:=hen1.len Tryz.underlying24 H1
 have hres:Tryz.f51.results.toList=[.tmp 2]:=rfl
 refine A30 N.arcs.length (fun i F H'=>H'=H1∧F.get 1=some (.pointer (some ⟨H.next,0,some 0⟩))∧F.get 3=some (.int .i64 (i:Int))∧(N.arcs.take i).all (fun a=>decide (a.cost=0))=true) (Nat.zero_le _) ⟨rfl,by simp only [↓Sh.dn,sx,Nat.reduceBEq,reduceCtorEq,Nat.reduceEqDiff,↓Sh.wp_cond],by simp only [↓Sh.dn,sx,Nat.reduceBEq,reduceCtorEq,Nat.reduceEqDiff,↓Sh.wp_cond]; rfl,rfl⟩ ?_
 rintro i F H' hi ⟨rfl,f1,f3,hall⟩ k
 by_cases hlt:i < N.arcs.length
 ·have hx:(N.arcs.map ArcD.cells)[i]?=some (N.arcs[i].cells):=by simp [hlt]
  obtain ⟨g,o,kk,hia,hc,hcc⟩:=har1.at Tryz.underlying23 A9r hx .i64
  have hcost:=hcc 4 _ rfl
  simp only [↓Sh.dn,sx,Nat.reduceBEq,reduceCtorEq,Nat.reduceEqDiff,↓Sh.wp_cond,f1,f3,c2,l2,hia,hcost,List.length_map,A1a,hlt,decide_true,forall_const,reduceCtorEq,false_implies,and_true,true_and,hres,resultsA,one]
  refine ⟨fun hne=>⟨?_,hk⟩,fun he=>k _ _ hlt ⟨rfl,by simp only [↓Sh.dn,sx,Nat.reduceBEq,reduceCtorEq,Nat.reduceEqDiff,↓Sh.wp_cond,f1],by simp only [↓Sh.dn,sx,Nat.reduceBEq,reduceCtorEq,Nat.reduceEqDiff,↓Sh.wp_cond,wrap_succ hlt hl],?_⟩⟩
  ·have : NetD.free N = false := by
     simp only [NetD.free, Bool.and_eq_false_iff, List.all_eq_false]
     exact .inl ⟨_, List.getElem_mem hlt, by simpa using hne⟩
   rw [this]
  ·rw [List.take_add_one,List.getElem?_eq_getElem hlt]
   simp only [Option.toList,List.all_append,hall,Bool.true_and,List.all_cons,List.all_nil,Bool.and_true]
   simpa using he
 ·have hin:i=N.arcs.length:=by omega
  subst hin
  rw [List.take_length] at hall
  simp only [↓Sh.dn,sx,Nat.reduceBEq,reduceCtorEq,Nat.reduceEqDiff,↓Sh.wp_cond,f1,f3,c2,l2,List.length_map,A1a,hlt,decide_false,forall_const,reduceCtorEq,false_implies,and_true,true_and]
  refine A30 N.ends.length (fun i F H''=>H''=H'∧F.get 1=some (.pointer (some ⟨H.next,0,some 0⟩))∧F.get 4=some (.int .i64 (i:Int))∧(N.ends.take i).all (fun a=>decide (a.cost=0))=true) (Nat.zero_le _) ⟨rfl,by simp only [↓Sh.dn,sx,Nat.reduceBEq,reduceCtorEq,Nat.reduceEqDiff,↓Sh.wp_cond,f1],by simp only [↓Sh.dn,sx,Nat.reduceBEq,reduceCtorEq,Nat.reduceEqDiff,↓Sh.wp_cond]; rfl,rfl⟩ ?_
  clear k
  rintro i F H'' hi ⟨rfl,f1,f4,hall2⟩ k
  by_cases hlt2:i < N.ends.length
  ·have hx:(N.ends.map EndD.cells)[i]?=some (N.ends[i].cells):=by simp [hlt2]
   obtain ⟨g,o,kk,hia,hc,hcc⟩:=hen1.at Tryz.underlying24 A3t hx .i64
   have hcost:=hcc 1 _ rfl
   simp only [↓Sh.dn,sx,Nat.reduceBEq,reduceCtorEq,Nat.reduceEqDiff,↓Sh.wp_cond,f1,f4,c3,l3,hia,hcost,List.length_map,A1a,hlt2,decide_true,forall_const,reduceCtorEq,false_implies,and_true,true_and,hres,resultsA,one]
   refine ⟨fun hne=>⟨?_,hk⟩,fun he=>k _ _ hlt2 ⟨rfl,by simp only [↓Sh.dn,sx,Nat.reduceBEq,reduceCtorEq,Nat.reduceEqDiff,↓Sh.wp_cond,f1],by simp only [↓Sh.dn,sx,Nat.reduceBEq,reduceCtorEq,Nat.reduceEqDiff,↓Sh.wp_cond,wrap_succ hlt2 hl2],?_⟩⟩
   ·have : NetD.free N = false := by
      simp only [NetD.free, Bool.and_eq_false_iff, List.all_eq_false]
      exact .inr ⟨_, List.getElem_mem hlt2, by simpa using hne⟩
    rw [this]
   ·rw [List.take_add_one,List.getElem?_eq_getElem hlt2]
    simp only [Option.toList,List.all_append,hall2,Bool.true_and,List.all_cons,List.all_nil,Bool.and_true]
    simpa using he
  ·have hin:i=N.ends.length:=by omega
   subst hin
   rw [List.take_length] at hall2
   simp only [↓Sh.dn,sx,Nat.reduceBEq,reduceCtorEq,Nat.reduceEqDiff,↓Sh.wp_cond,f1,f4,c3,l3,List.length_map,A1a,hlt2,decide_false,forall_const,reduceCtorEq,false_implies,and_true,true_and,hres,resultsA,one]
   refine ⟨?_,hk⟩
   rw [NetD.free,hall,hall2]
   rfl
end Go.Proofs.YtcgbiedfbacgpaaGreat
/- What is wrong with an acceptor, by the reference. -/
namespace Go.Proofs.YtcgbiedfbacgpaaGreat
open Go Go.Proofs Go.Proofs.Sh
def B2x (N:NetD):Bool:=N.arcs.any fun a=>!decide (a.inn=a.out)
def A2t (N:NetD):Int:=if A5m N≠0 then A5m N else if B2x N=true then 6 else if NetD.free N=true then 0 else 6
theorem B1g {H:AH} {v:Value} {N:NetD} (h:B2a H v N) (hsm:A6z N) (hw:Wf H):
  Sh.Call Tryz.prog (knows 7) 23 [v] H (fun r H'=>Kept H H'∧r=.int .i64 (A2t N)):=by
 refine A3a rfl Tryz.func23 rfl (Nat.le_of_ble_eq_true rfl) ?_
 have hres:Tryz.f23.results.toList=[.tmp 2]:=rfl
 obtain ⟨sg,ar,en,rfl,hsg,har,hen⟩:=h
 have hb1:=NetBox.of (N:=N) hw hsg har hen
 have hk1:Kept H (H.new 4 [sg,.int .i64 N.states,ar,en]).2:=Kept.new hw 4 _
 simp only [↓Sh.dn,sx,Nat.reduceBEq,reduceCtorEq,Nat.reduceEqDiff,B5m hsg.isCell har.isCell hen.isCell]
 generalize H.next=gg at hb1 ⊢
 generalize (H.new 4 [sg,.int .i64 N.states,ar,en]).2=H1 at hb1 hk1 ⊢
 simp only [↓Sh.dn,sx,Nat.reduceBEq,reduceCtorEq,Nat.reduceEqDiff,hb1.c0,hb1.c1,hb1.c2,hb1.c3,hb1.ca,A8b hb1,A9b hb1,A0c hb1,Option.map_some]
 obtain ⟨r,H2,hd,hk2,rfl⟩:=B07 hb1.netAt hsm hk1.wf
 refine ⟨_,_,hd,?_⟩
 have hb2:=hb1.kept hk1.wf hk2
 have hk12:=hk1.trans hk2
 by_cases hE:A5m N=0
 case neg=>simp only [↓Sh.dn,sx,Nat.reduceBEq,reduceCtorEq,Nat.reduceEqDiff,hE,decide_false,hres,A2t,if_true,hk12]
 simp only [↓Sh.dn,sx,Nat.reduceBEq,reduceCtorEq,Nat.reduceEqDiff,hE,decide_true,hb2.c0,hb2.c1,hb2.c2,hb2.c3,hb2.ca,A8b hb2,A9b hb2,A0c hb2]
 have e1:B2x N=true→A2t N=6:=by intro h; simp [A2t,hE,h]
 refine A9e N.arcs.length 4 (List.range' 4 26++[2]) (fun i F H'=>H'=H2∧(N.arcs.take i).any (fun a=>!decide (a.inn=a.out))=false) (by simp only [↓Sh.dn,sx,Nat.reduceBEq,reduceCtorEq,Nat.reduceEqDiff]) ⟨rfl,rfl⟩ ?_ ?_
 ·rintro i F H' hlt hF f4 ⟨rfl,hall⟩ k
  have f1:=hF 1 rfl
  simp only [↓Sh.dn,sx,Nat.reduceBEq,reduceCtorEq,Nat.reduceEqDiff] at f1
  obtain ⟨g,o,kk,hia,hc,hcc⟩:=hb2.har.at Tryz.underlying23 A9r (i:=i) (x:=N.arcs[i].cells) (by simp [hlt]) .i64
  have q1:=hcc 1 _ rfl
  have q2:=hcc 2 _ rfl
  simp only [↓Sh.dn,sx,Nat.reduceBEq,reduceCtorEq,Nat.reduceEqDiff,hb2.c0,hb2.c1,hb2.c2,hb2.c3,hb2.ca,A8b hb2,A9b hb2,A0c hb2,f1,f4,A1a,hlt,decide_true,hia,q1,q2]
  by_cases hx:N.arcs[i].inn=N.arcs[i].out
  ·simp only [↓Sh.dn,sx,Nat.reduceBEq,reduceCtorEq,Nat.reduceEqDiff,hx,decide_true,f4,wrap_succ hlt hsm.ar]
   refine k _ _ (by repeat (first | refine Same.put ?_ rfl | exact Same.rfl' _)) (by simp only [↓Sh.dn,sx,Nat.reduceBEq,reduceCtorEq,Nat.reduceEqDiff]) ⟨rfl,?_⟩
   rw [List.take_add_one,List.getElem?_eq_getElem hlt]
   simp only [Option.toList,List.any_append,hall,List.any_cons,List.any_nil,hx,decide_true,Bool.not_true,Bool.or_false]
  ·simp only [↓Sh.dn,sx,Nat.reduceBEq,reduceCtorEq,Nat.reduceEqDiff,hx,decide_false,hres,e1 (List.any_eq_true.2 ⟨_,List.getElem_mem hlt,by simp [hx]⟩),hk12]
 ·rintro F H' hF f4 ⟨rfl,hall⟩
  have f1:=hF 1 rfl
  simp only [↓Sh.dn,sx,Nat.reduceBEq,reduceCtorEq,Nat.reduceEqDiff] at f1
  rw [List.take_length] at hall
  simp only [↓Sh.dn,sx,Nat.reduceBEq,reduceCtorEq,Nat.reduceEqDiff,hb2.c0,hb2.c1,hb2.c2,hb2.c3,hb2.ca,A8b hb2,A9b hb2,A0c hb2,f1,f4,A1a,Nat.lt_irrefl,decide_false,Option.map_some]
  obtain ⟨r,H3,hd3,rfl,hk3⟩:=isFree hb2.netAt hk12.wf hsm.ar hsm.en
  refine ⟨_,_,hd3,?_⟩
  cases hf:NetD.free N with
  | true=>simp only [↓Sh.dn,sx,Nat.reduceBEq,reduceCtorEq,Nat.reduceEqDiff,hres,A2t,hE,B2x,hall,hf,if_true,if_false,hk12.trans hk3,Bool.false_eq_true]
  | false=>simp only [↓Sh.dn,sx,Nat.reduceBEq,reduceCtorEq,Nat.reduceEqDiff,hres,A2t,hE,B2x,hall,hf,if_true,if_false,hk12.trans hk3,Bool.false_eq_true]
end Go.Proofs.YtcgbiedfbacgpaaGreat
/- What a net is with which nothing is wrong. -/
namespace Go.Proofs.YtcgbiedfbacgpaaGreat
open Go Go.Proofs Go.Proofs.Sh
structure B3a (N:NetD):Prop where
 st1:1≤N.states
 st2:N.states≤3000
 ar:N.arcs.length≤60000
 en:N.ends.length≤60000
 sig:A1h N.sigma=0
 asc:Asc N.sigma
 sym:∀ x∈N.sigma,A8t x=true
 arc:∀ a∈N.arcs,0≤a.fr∧a.fr < N.states∧0≤a.to∧a.to < N.states∧(a.inn=⟨#[]⟩∨a.inn∈N.sigma)∧(a.out=⟨#[]⟩∨a.out∈N.sigma)
 fin:∀ e∈N.ends,0≤e.state∧e.state < N.states
theorem netOk {N:NetD} (h:A5m N=0):B3a N:=by
 unfold A5m at h
 split at h
 ·cases h
 rename_i h1
 split at h
 ·rename_i h2; exact absurd h h2
 rename_i h2
 split at h
 ·cases h
 rename_i h3
 split at h
 ·cases h
 rename_i h4
 split at h
 ·cases h
 rename_i h5
 simp only [ne_eq,Decidable.not_not] at h2
 simp only [A3u,Bool.or_eq_true,decide_eq_true_eq,not_or,Int.not_lt,Nat.not_lt] at h1 h3
 have sy:∀ x,A3l N x=false→x=⟨#[]⟩∨x∈N.sigma:=by
  intro x hx
  simp only [A3l,Bool.and_eq_false_iff,Bool.not_eq_false',decide_eq_true_eq] at hx
  rcases hx with h | h
  ·exact .inl h
  ·exact .inr (A0g.1 h)
 have hsym:∀ x∈N.sigma,A8t x=true:=by
  have:=h2
  unfold A1h at this
  split at this
  ·cases this
  split at this
  ·rename_i h6
   rw [Bool.and_eq_true] at h6
   exact List.all_eq_true.1 h6.1
  ·cases this
 refine ⟨h3,h1.1.1,h1.1.2,h1.2,h2,A1v h2,hsym,fun a ha=>?_,fun e he=>?_⟩
 ·have:¬(A3p N a=true):=fun hb=>h4 (List.any_eq_true.2 ⟨a,ha,hb⟩)
  simp only [A3p,Bool.or_eq_true,decide_eq_true_eq,not_or,Int.not_lt,Int.not_le,Bool.not_eq_true] at this
  obtain ⟨⟨⟨⟨⟨k1,k2⟩,k3⟩,k4⟩,k5⟩,k6⟩:=this
  exact ⟨k1,k2,k3,k4,sy _ k5,sy _ k6⟩
 ·have:¬(A1y N e=true):=fun hb=>h5 (List.any_eq_true.2 ⟨e,he,hb⟩)
  simp only [A1y,Bool.or_eq_true,decide_eq_true_eq,not_or,Int.not_lt,Int.not_le] at this
  exact this
end Go.Proofs.YtcgbiedfbacgpaaGreat
/- slices.Clone. -/
namespace Go.Proofs.YtcgbiedfbacgpaaGreat
open Go Go.Proofs Go.Proofs.Sh
theorem B87 {H:AH} {v:Value} {l:List (List Value)} (hs:Sl H v 1 l) (hl:l.length≤1073741823) (hw:Wf H):
  Sh.Call Tryz.prog (knows 7) 80 [v] H (fun r H'=>Kept H H'∧∃ b,Buf H' 1 r l b∧∀ g,b=some g→H.next≤g):=by
 refine A3a rfl Tryz.func80 rfl (Nat.le_of_ble_eq_true rfl) ?_
 have hres:Tryz.f80.results.toList=[.tmp 2]:=rfl
 obtain ⟨a,cap,rfl,h2,h3,h4⟩:=id hs
 cases a with
 | none=>
  obtain ⟨rfl,rfl⟩:=h3 rfl
  simp only [↓Sh.dn,sx,Nat.reduceBEq,reduceCtorEq,Nat.reduceEqDiff,List.length_nil,Option.isNone_none,hres]
  exact ⟨Kept.refl hw,none,.void none,fun g h=>by cases h⟩
 | some a=>
  have hs1:=hs.grow (HGrow.new hw 1 [])
  have hk1:Kept H (H.new 1 []).2:=Kept.new hw 1 []
  obtain ⟨v',H',b',e1,e2,e3,e4⟩:=(Buf.void (H:=(H.new 1 []).2) (s:=1) (some ⟨H.next,0,some 0⟩)).append hk1.wf h2
  have happ:=C6g (base:=some ⟨H.next,0,some 0⟩) (len:=0) (cap:=0) (hs1.srcKind Tryz.underlying22) hs1.newCells (by omega)
  have hk2:Kept (H.new 1 []).2 H':=e3.kept fun g hg h=>by cases h
  simp only [↓Sh.dn,sx,Nat.reduceBEq,reduceCtorEq,Nat.reduceEqDiff,Option.isNone_some,happ,e1,hres]
  refine ⟨hk1.trans hk2,b',by simpa using e2,fun g hg=>?_⟩
  rcases e4 with rfl | ⟨rfl,_⟩
  ·cases hg
  ·cases hg; exact Nat.le_succ _
theorem C5c {H:AH} {v:Value} {l:List (List Value)} (hs:Sl H v 1 l) (hl:l.length≤1048576) (hw:Wf H):
  Sh.Call Tryz.prog (knows 7) 80 [v] H (fun r H'=>Kept H H'∧∃ b,Buf H' 1 r l b∧∀ g,b=some g→H.next≤g):=B87 hs (Nat.le_trans hl (by decide)) hw
end Go.Proofs.YtcgbiedfbacgpaaGreat
/- graph.New. -/
namespace Go.Proofs.YtcgbiedfbacgpaaGreat
open Go Go.Proofs Go.Proofs.Sh
theorem objNew {H:AH} {s:Nat} {vals:List Value} (h:veqs vals vals=true):∀ x,(H.new s vals).2.objs.get H.next=some x→A17 x x=true:=by
 intro x hx
 have:=Obj.new (H:=H) s vals
 unfold Obj at this
 rw [this] at hx
 injection hx with hx
 subst hx
 simp [A17,C6m,h]
theorem B00 {H:AH} {n:Nat} {z:Value} (hz:veq z z=true):∀ x,(H.new 1 (List.replicate n z)).2.objs.get H.next=some x→A17 x x=true:=
 objNew (B6h fun x hx=>by rw [(List.mem_replicate.1 hx).2]; exact hz)
theorem graphNew {H:AH} {v:Value} {l:List ByteArray} {n:Nat} (hs:Sl H v 1 (l.map A5a)) (hl:l.length≤1048576) (hn:n≤1048576) (hw:Wf H):
  Sh.Call Tryz.prog (knows 7) 39 [v,.int .i64 (n:Int)] H (fun r H'=>Kept H H'∧∃ g,r=.pointer (some ⟨g,0,some 0⟩)∧Gr H' H.next g l (List.replicate n []) (List.replicate n 0) (List.replicate n 0)):=by
 refine A3a rfl Tryz.func39 rfl (Nat.le_of_ble_eq_true rfl) ?_
 have hres:Tryz.f39.results.toList=[.tmp 4]:=rfl
 have m1:=mk_68 (H:=H) (l:=n) (c:=n) (Nat.le_refl _) (by omega)
 obtain ⟨K1,hK1⟩:∃ K,(H.new 1 (List.replicate n (.slice none 0 0))).2=K:=⟨_,rfl⟩
 have k1:=Kept.new hw 1 (List.replicate n (.slice none 0 0))
 have jg:=Jag.make hw 4 (n:=n) (by omega)
 rw [hK1] at m1 k1 jg
 have m2:=mk_69 (H:=K1) (l:=n) (c:=n) (Nat.le_refl _) (by omega)
 have k2:=Kept.new k1.wf 1 (List.replicate n (.int .i64 0))
 have f2:=Buf.fill k1.wf (.int .i64 0) (c:=n) (by omega)
 obtain ⟨K2,hK2⟩:∃ K,(K1.new 1 (List.replicate n (.int .i64 0))).2=K:=⟨_,rfl⟩
 rw [hK2] at m2 k2 f2
 have m3:=mk_69 (H:=K2) (l:=n) (c:=n) (Nat.le_refl _) (by omega)
 have k3:=Kept.new k2.wf 1 (List.replicate n (.int .i64 0))
 have f3:=Buf.fill k2.wf (.int .i64 0) (c:=n) (by omega)
 obtain ⟨K3,hK3⟩:∃ K,(K2.new 1 (List.replicate n (.int .i64 0))).2=K:=⟨_,rfl⟩
 rw [hK3] at m3 k3 f3
 have x1:H.next < K1.next:=by rw [← hK1]; exact Nat.lt_succ_self _
 have x2:K1.next < K2.next:=by rw [← hK2]; exact Nat.lt_succ_self _
 have x3:K2.next < K3.next:=by rw [← hK3]; exact Nat.lt_succ_self _
 have k123:=(k1.trans k2).trans k3
 obtain ⟨r,H1,hd,hk,b,hb,hf⟩:=C5c (hs.grow (k123.grow hw)) (by simpa using hl) k123.wf
 have o1:=B00 (H:=H) (n:=n) (z:=.slice none 0 0) rfl
 have o2:=B00 (H:=K1) (n:=n) (z:=.int .i64 0) A1i
 have o3:=B00 (H:=K2) (n:=n) (z:=.int .i64 0) A1i
 rw [hK1] at o1; rw [hK2] at o2; rw [hK3] at o3
 simp only [↓Sh.wp_seq]
 simp only [↓Sh.dn,sx,Nat.reduceBEq,reduceCtorEq,Nat.reduceEqDiff]
 refine B7p (fl:=[(0,true),(2,true),(3,false),(4,true),(5,false),(6,true),(7,false),(1,false),(8,true),(9,false),(10,true)]) (by kernel_rfl) (by kernel_rfl) hw ?_
 simp only [↓Sh.dn,sx,Nat.reduceBEq,reduceCtorEq,Nat.reduceEqDiff,wpg,B9w,isEff,A6d,isRead,A2l,A1i,A9j,A4i,A6g,forall_eq,forall_eq',m1,m2,m3,k1.wf,k2.wf,k3.wf]
 refine ⟨o1,o2,o3,_,_,hd,hk.wf,hk.grow k123.wf,?_⟩
 have nw:∀ (H:AH) (a b c d:Value),isCell a=true→isCell b=true→isCell c=true→isCell d=true→anew Tryz.prog 71 H (.agg #[a,b,c,d])=some (.pointer (some ⟨H.next,0,some 0⟩),(H.new 4 [a,b,c,d]).2):=
  fun H a b c d ha hb hc hd=>A9p C8w rfl (by simp [ha,hb,hc,hd])
 have bl:∀ a b c d:Value,isCell a=true→isCell b=true→isCell c=true→isCell d=true→A7j Tryz.prog 71 [(0,a),(1,b),(2,c),(3,d)]=some (.agg #[a,b,c,d]):=by
  intro a b c d ha hb hc hd
  have va:∀ xs:Array Value,A7a (.agg xs)=xs.toList:=fun _=>rfl
  refine A1f (pl:=[(0,1),(1,1),(2,1),(3,1)]) Tryz.underlying71 B47 (by kernel_rfl) ?_
  simp [A1s,A8a ha,A8a hb,A8a hc,A8a hd,va,ha,hb,hc,hd,setCells,A6a,A1c]
 have cr:=hb.isCell
 have q:=nw H1 r (.slice (some ⟨H.next,0,some 0⟩) n n) (.slice (some ⟨K1.next,0,some 0⟩) n n) (.slice (some ⟨K2.next,0,some 0⟩) n n) cr rfl rfl rfl
 have oq:=Obj.new (H:=H1) 4 [r,.slice (some ⟨H.next,0,some 0⟩) n n,.slice (some ⟨K1.next,0,some 0⟩) n n,.slice (some ⟨K2.next,0,some 0⟩) n n]
 have ee:veqs [r,.slice (some ⟨H.next,0,some 0⟩) n n,.slice (some ⟨K1.next,0,some 0⟩) n n,.slice (some ⟨K2.next,0,some 0⟩) n n] [r,.slice (some ⟨H.next,0,some 0⟩) n n,.slice (some ⟨K1.next,0,some 0⟩) n n,.slice (some ⟨K2.next,0,some 0⟩) n n]=true:=by
  refine B6h fun x hx=>?_
  simp only [List.mem_cons,List.not_mem_nil,or_false] at hx
  rcases hx with rfl | rfl | rfl | rfl
  ·exact hb.toSl.veq
  ·exact A8f
  ·exact A8f
  ·exact A8f
 have o4:=objNew (H:=H1) (s:=4) ee
 have k4:=Kept.new hk.wf 4 [r,.slice (some ⟨H.next,0,some 0⟩) n n,.slice (some ⟨K1.next,0,some 0⟩) n n,.slice (some ⟨K2.next,0,some 0⟩) n n]
 have bq:=bl r (.slice (some ⟨H.next,0,some 0⟩) n n) (.slice (some ⟨K1.next,0,some 0⟩) n n) (.slice (some ⟨K2.next,0,some 0⟩) n n) cr rfl rfl rfl
 simp only [↓Sh.dn,sx,Nat.reduceBEq,reduceCtorEq,Nat.reduceEqDiff,wpg,B9w,isEff,A6d,isRead,A2l,A1i,A9j,A4i,A6g,forall_eq,forall_eq',bq,q,hres]
 have hbs:∀ g,b=some g→K3.next≤g:=hf
 have if1:∀ {m y:Nat},(if n=0 then none else some m)=some y→y=m:=by
  intro m y h
  by_cases hn0:n=0
  ·rw [if_pos hn0] at h; cases h
  ·rw [if_neg hn0] at h; exact (Option.some.inj h).symm
 have jin:∀ y,JIn (if n=0 then none else some H.next) (List.replicate n none) y→y=H.next:=by
  rintro y (h | ⟨i,h⟩)
  ·exact if1 h
  ·rw [List.getElem?_replicate] at h
   split at h <;> cases h
 have hn:=hk.next
 have c1:=(((jg.kept k1.wf k2).kept k2.wf k3).kept k3.wf hk).kept hk.wf k4
 have c2:=((f2.kept k2.wf k3).kept k3.wf hk).kept hk.wf k4
 have c3:=(f3.kept k3.wf hk).kept hk.wf k4
 have rp:∀ m:Int,(List.replicate n m).map intC=List.replicate n [.int .i64 m]:=fun m=>by simp [intC]
 have hlt:=fun y (h:b=some y)=>hb.lt hk.wf y h
 refine ⟨o4,k123.trans (hk.trans k4),_,rfl,_,_,_,_,b,_,_,_,_,_,⟨oq.arr,hb.kept hk.wf k4,c1,by rw [rp]; exact c2,by rw [rp]; exact c3,?_,?_,?_,?_,?_,?_,?_,?_,?_,?_,?_,?_,?_,?_,?_⟩⟩
 ·omega
 ·intro y h; have:=hbs y h; omega
 ·intro y h; rw [jin y h]; exact Nat.le_refl _
 ·intro y h; rw [if1 h]; omega
 ·intro y h; rw [if1 h]; omega
 ·intro h; have:=hlt _ h; omega
 ·intro h; have:=jin _ h; omega
 ·intro h; have:=if1 h; omega
 ·intro h; have:=if1 h; omega
 ·intro y h h2; have:=hbs y h; have:=jin y h2; omega
 ·intro y h h2; have:=hbs y h; have:=if1 h2; omega
 ·intro y h h2; have:=hbs y h; have:=if1 h2; omega
 ·intro y h h2; have:=if1 h; have:=jin y h2; omega
 ·intro y h h2; have:=if1 h; have:=jin y h2; omega
 ·intro y h h2; have:=if1 h; have:=if1 h2; omega
end Go.Proofs.YtcgbiedfbacgpaaGreat
/- The reference's graph: made of a net. -/
namespace Go.Proofs.YtcgbiedfbacgpaaGreat
open Go Go.Proofs Go.Proofs.Sh
theorem C2y {H:AH}:anew Tryz.prog 60 H (.agg #[.int .i64 0,.slice none 0 0,.slice none 0 0])=some (.pointer (some ⟨H.next,0,some 0⟩),(H.new 3 [.int .i64 0,.slice none 0 0,.slice none 0 0]).2):=A9p (vs:=[.int .i64 0,.slice none 0 0,.slice none 0 0]) B1b rfl rfl
theorem B0u {H:AH} {ev bv:Value} (he:isCell ev=true) (hb:isCell bv=true):anew Tryz.prog 60 H (.agg #[.int .i64 0,ev,bv])=some (.pointer (some ⟨H.next,0,some 0⟩),(H.new 3 [.int .i64 0,ev,bv]).2):=
 A9p (vs:=[.int .i64 0,ev,bv]) B1b rfl (by simp [he,hb,show isCell (.int .i64 0)=true from rfl])
theorem C5l {H:AH} {ev bv:Value} {p:Addr} (he:isCell ev=true) (hb:isCell bv=true):A3e Tryz.prog 60 H (.agg #[.int .i64 0,ev,bv]) (.pointer (some p))=H.write p [.int .i64 0,ev,bv]:=
 A6r (vs:=[.int .i64 0,ev,bv]) B1b rfl (by simp [he,hb,show isCell (.int .i64 0)=true from rfl])
theorem rgOver {H:AH} {a b c x y z:Value}:(H.new 3 [a,b,c]).2.write ⟨H.next,0,some 0⟩ [x,y,z]=some (H.new 3 [x,y,z]).2:=A2r rfl
theorem C0a {H:AH}:anew Tryz.prog 99 H (.agg #[.string ⟨#[]⟩,.int .i64 0])=some (.pointer (some ⟨H.next,0,some 0⟩),(H.new 2 [.string ⟨#[]⟩,.int .i64 0]).2):=A9p (vs:=[.string ⟨#[]⟩,.int .i64 0]) A6s rfl rfl
theorem B8p {H:AH} {e:ByteArray×Nat} {p:Addr}:A3e Tryz.prog 99 H (.agg (A3i e).toArray) (.pointer (some p))=H.write p (A3i e):=A6r A6s rfl rfl
theorem C7d {H:AH} {e:ByteArray×Nat} {x0 x1:Value}:(H.new 2 [x0,x1]).2.write ⟨H.next,0,some 0⟩ (A3i e)=some (H.new 2 (A3i e)).2:=A2r rfl
theorem re0 {H:AH} {e:ByteArray×Nat}:(H.new 2 (A3i e)).2.cell ⟨H.next,0,some 0⟩=some (.string e.1):=A3s _ _ _
theorem re1 {H:AH} {e:ByteArray×Nat}:(H.new 2 (A3i e)).2.cell ⟨H.next,1,some 0⟩=some (.int .i64 (e.2:Int)):=A3s _ _ _
theorem rgOut {H:AH} (hw:Wf H) {ev bv:Value} {g:Nat} (x y z:Value) (h:Sh.Obj H g 3 [x,y,z] true) (he:isCell ev=true) (hb:isCell bv=true):∃ H',A3e Tryz.prog 60 H (.agg #[.int .i64 0,ev,bv]) (.pointer (some ⟨g,0,some 0⟩))=some H'∧Sh.Obj H' g 3 [.int .i64 0,ev,bv] true∧Chg (fun y=>y=g) H H':=by
 obtain ⟨H',h1,h2,h3,h4⟩:=h.arr.write hw (i:=0) (vs:=[.int .i64 0,ev,bv]) (by simp)
 have ho:Sh.Obj H' g 3 [.int .i64 0,ev,bv] true:=by
  obtain ⟨H2,k1,k2,_⟩:=Sh.Obj.write h (i:=0) (vs:=[.int .i64 0,ev,bv]) (by simp)
  rw [h1] at k1
  injection k1 with k1
  subst k1
  exact k2
 exact ⟨H',by rw [C5l he hb]; exact h1,ho,h4.weak fun _ h=>h⟩
theorem newGraph {H:AH} {n:Nat} (hn:n≤1048576) (hw:Wf H):
  Sh.Call Tryz.prog (knows 7) 59 [.int .i64 (n:Int)] H (fun r H'=>Kept H H'∧∃ ev bv,r=.agg #[.int .i64 0,ev,bv]∧∃ g1,H.next≤g1∧∃ g2,g1 < g2∧Jag H' ev (if n=0 then none else some g1) 2 (List.replicate n (.slice none 0 0)) (List.replicate n []) (List.replicate n none)∧Buf H' 1 bv (List.replicate n [.bool false]) (if n=0 then none else some g2)):=by
 refine A3a rfl Tryz.func59 rfl (Nat.le_of_ble_eq_true rfl) ?_
 have hres:Tryz.f59.results.toList=[.cell 2 60]:=rfl
 simp only [↓Sh.dn,sx,Nat.reduceBEq,reduceCtorEq,Nat.reduceEqDiff,C2y]
 have k0:=Kept.new hw 3 [.int .i64 0,.slice none 0 0,.slice none 0 0]
 have o0:=Sh.Obj.new (H:=H) 3 [.int .i64 0,.slice none 0 0,.slice none 0 0]
 have x0:H.next < (H.new 3 [.int .i64 0,.slice none 0 0,.slice none 0 0]).2.next:=Nat.lt_succ_self _
 generalize (H.new 3 [.int .i64 0,.slice none 0 0,.slice none 0 0]).2=H0 at k0 o0 x0 ⊢
 have m1:=mk_57 (H:=H0) (l:=n) (c:=n) (Nat.le_refl _) (by omega)
 have k1:=Kept.new k0.wf 1 (List.replicate n (.slice none 0 0))
 have jg:=Jag.make k0.wf 2 (n:=n) (by omega)
 have o1:=B00 (H:=H0) (n:=n) (z:=.slice none 0 0) rfl
 have x1:H0.next < (H0.new 1 (List.replicate n (.slice none 0 0))).2.next:=Nat.lt_succ_self _
 generalize (H0.new 1 (List.replicate n (.slice none 0 0))).2=K1 at m1 k1 jg o1 x1 ⊢
 have m2:=mk_58 (H:=K1) (l:=n) (c:=n) (Nat.le_refl _) (by omega)
 have k2:=Kept.new k1.wf 1 (List.replicate n (.bool false))
 have f2:=Buf.fill k1.wf (.bool false) (c:=n) (by omega)
 have o2:=B00 (H:=K1) (n:=n) (z:=.bool false) rfl
 generalize (K1.new 1 (List.replicate n (.bool false))).2=K2 at m2 k2 f2 o2 ⊢
 have bq:A7j Tryz.prog 60 [(1,.slice (some ⟨H0.next,0,some 0⟩) n n),(2,.slice (some ⟨K1.next,0,some 0⟩) n n)]=some (.agg #[.int .i64 0,.slice (some ⟨H0.next,0,some 0⟩) n n,.slice (some ⟨K1.next,0,some 0⟩) n n]):=by
  have va:∀ xs:Array Value,A7a (.agg xs)=xs.toList:=fun _=>rfl
  refine A1f (pl:=[(0,1),(1,1),(2,1)]) Tryz.underlying60 B96 (by kernel_rfl) ?_
  simp [A1s,va,A7a,isCell,setCells,A6a,A1c]
 have o0':Sh.Obj K2 H.next 3 [.int .i64 0,.slice none 0 0,.slice none 0 0] true:=by
  unfold Sh.Obj at o0 ⊢
  rw [(k1.trans k2).old H.next x0]; exact o0
 obtain ⟨K3,st,o3,c3⟩:=rgOut (ev:=.slice (some ⟨H0.next,0,some 0⟩) n n) (bv:=.slice (some ⟨K1.next,0,some 0⟩) n n) k2.wf _ _ _ o0' rfl rfl
 have k012:=(k0.trans k1).trans k2
 have c3':=o3.cells (i:=0) (n:=3) (by simp)
 refine B7p (fl:=[(0,true),(1,false),(2,true),(3,false),(4,true),(5,true)]) (by kernel_rfl) (by kernel_rfl) k0.wf ?_
 simp only [↓Sh.dn,sx,Nat.reduceBEq,reduceCtorEq,Nat.reduceEqDiff,wpg,B9w,isEff,A6d,isRead,A2l,A1i,A9j,A4i,A6g,forall_eq,forall_eq',m1,m2,bq,st,k1.wf,k2.wf,hres,c3',Option.map_some,List.drop_zero,List.take_succ_cons,List.take_zero]
 have j1:=(jg.kept k1.wf k2).chg k2.wf c3 (fun y hy e=>by
  subst e
  have:∀ y,JIn (if n=0 then none else some H0.next) (List.replicate n none) y→y=H0.next:=by
   rintro y (h | ⟨i,h⟩)
   ·by_cases h0:n=0
    ·rw [if_pos h0] at h; cases h
    ·rw [if_neg h0] at h; exact (Option.some.inj h).symm
   ·rw [List.getElem?_replicate] at h
    split at h <;> cases h
  have:=this _ hy
  omega)
 have b1:=f2.chg k2.wf c3 (fun y hy e=>by
  subst e
  by_cases h0:n=0
  ·rw [if_pos h0] at hy; cases hy
  ·rw [if_neg h0] at hy; have:=Option.some.inj hy; omega)
 exact ⟨o1,o2,c3.wf,k012.then (Nat.le_refl _) (c3.weak fun y hy=>by omega),_,_,rfl,H0.next,Nat.le_of_lt x0,K1.next,x1,j1,b1⟩
def B4o (N:NetD) (l:List ArcD):List (List (List Value)):=rowsOf ArcD.fr (fun a=>A3i (a.inn,a.to.toNat)) N.states.toNat l
theorem C4j {H:AH} {v:Value} {N:NetD} (h:B2a H v N) (hok:B3a N) (hsm:A6z N) (hw:Wf H):
  Sh.Call Tryz.prog (knows 7) 28 [v] H (fun r H'=>Kept H H'∧∃ ev bv vals,RG H' r N.states.toNat (A3k N) (marksOf EndD.state N.states.toNat N.ends) ev bv vals):=by
 refine A3a rfl Tryz.func28 rfl (Nat.le_of_ble_eq_true rfl) ?_
 have hres:Tryz.f28.results.toList=[.cell 2 60]:=rfl
 obtain ⟨sg,ar,en,rfl,hsg,har,hen⟩:=h
 have hb1:=NetBox.of (N:=N) hw hsg har hen
 have hk1:Kept H (H.new 4 [sg,.int .i64 N.states,ar,en]).2:=Kept.new hw 4 _
 have h1:=hok.st1
 have h2:=hok.st2
 obtain ⟨n,hn⟩:∃ n:Nat,N.states=(n:Int):=⟨N.states.toNat,by omega⟩
 have hnn:N.states.toNat=n:=by omega
 simp only [↓Sh.dn,sx,Nat.reduceBEq,reduceCtorEq,Nat.reduceEqDiff,B5m hsg.isCell har.isCell hen.isCell,C2y]
 have hnx:H.next < (H.new 4 [sg,.int .i64 N.states,ar,en]).2.next:=Nat.lt_succ_self _
 have e0:∀ y,(H.new 4 [sg,.int .i64 N.states,ar,en]).2.next≤y→H.next≤y:=fun y hy=>Nat.le_trans (Nat.le_succ _) hy
 generalize H.next=gg at hb1 hnx ⊢
 generalize (H.new 4 [sg,.int .i64 N.states,ar,en]).2=H1 at hb1 hk1 hnx e0 ⊢
 have hb2:=hb1.new hk1.wf 3 [.int .i64 0,.slice none 0 0,.slice none 0 0]
 have hk2:=hk1.news 3 [.int .i64 0,.slice none 0 0,.slice none 0 0]
 have o0:=Sh.Obj.new (H:=H1) 3 [.int .i64 0,.slice none 0 0,.slice none 0 0]
 have x2:H1.next < (H1.new 3 [.int .i64 0,.slice none 0 0,.slice none 0 0]).2.next:=Nat.lt_succ_self _
 generalize H1.next=go at o0 x2 e0 ⊢
 generalize (H1.new 3 [.int .i64 0,.slice none 0 0,.slice none 0 0]).2=H2 at hb2 hk2 o0 x2 ⊢
 obtain ⟨r,H3,hd3,hk3,ev,bv,rfl,g1,hg1,g2,hg2,hj,hbf⟩:=newGraph (n:=n) (by omega) hk2.wf
 simp only [↓Sh.dn,sx,Nat.reduceBEq,reduceCtorEq,Nat.reduceEqDiff,hb2.c0,hb2.c1,hb2.c2,hb2.c3,hb2.ca,A8b hb2,A9b hb2,A0c hb2,Option.map_some,hn]
 refine ⟨_,_,hd3,?_⟩
 have hb3:=hb2.kept hk2.wf hk3
 have ic1:=hj.top.isCell
 have ic2:=hbf.isCell
 simp only [↓Sh.dn,sx,Nat.reduceBEq,reduceCtorEq,Nat.reduceEqDiff,hb3.c0,hb3.c1,hb3.c2,hb3.c3,hb3.ca,A8b hb3,A9b hb3,A0c hb3,Option.map_some,C2y,C5l ic1 ic2,rgOver]
 have og:=(Sh.Obj.new (H:=H3) 3 [.int .i64 0,ev,bv]).arr
 have kn:=Kept.new hk3.wf 3 [.int .i64 0,ev,bv]
 have xg:H3.next < (H3.new 3 [.int .i64 0,ev,bv]).2.next:=Nat.lt_succ_self _
 have hj4:=hj.kept hk3.wf kn
 have hbf4:=hbf.kept hk3.wf kn
 have hk4:=hk3.trans kn
 have hx3:=hk3.next
 obtain ⟨ot,hot⟩:∃ ot,(if n=0 then none else some g1)=ot:=⟨_,rfl⟩
 obtain ⟨ob,hob⟩:∃ ob,(if n=0 then none else some g2)=ob:=⟨_,rfl⟩
 have lob:∀ y,ob=some y→y=g2:=by
  intro y h
  rw [← hob] at h
  by_cases h0:n=0
  ·rw [if_pos h0] at h; cases h
  ·rw [if_neg h0] at h; exact (Option.some.inj h).symm
 have lot:∀ y,JIn ot (List.replicate n none) y→y=g1:=by
  rintro y (h | ⟨i,h⟩)
  ·rw [← hot] at h
   by_cases h0:n=0
   ·rw [if_pos h0] at h; cases h
   ·rw [if_neg h0] at h; exact (Option.some.inj h).symm
  ·rw [List.getElem?_replicate] at h
   split at h <;> cases h
 rw [hot] at hj4
 rw [hob] at hbf4
 have lb:=fun y h=>hbf.lt hk3.wf y (by rw [hob]; exact h)
 have lj:=fun y h=>hj.lt hk3.wf y (by rw [hot]; exact h)
 generalize H3.next=gb at og xg hx3 lb lj ⊢
 generalize (H3.new 3 [.int .i64 0,ev,bv]).2=H4 at og xg hj4 hbf4 hk4 ⊢
 refine A9e N.arcs.length 4 (List.range' 4 36++[4,5]) (fun i F H'=>Kept H2 H'∧Arr H' gb 0 3 [.int .i64 0,ev,bv]∧Buf H' 1 bv (List.replicate n [.bool false]) ob∧∃ vals obs,Jag H' ev ot 2 vals (B4o N (N.arcs.take i)) obs∧∀ y,JIn ot obs y→H2.next≤y∧y≠gb∧ob≠some y) (by simp only [↓Sh.dn,sx,Nat.reduceBEq,reduceCtorEq,Nat.reduceEqDiff]) ⟨hk4,og,hbf4,_,_,by
  rw [List.take_zero]; unfold B4o; rw [B85,hnn]; exact hj4,fun y hy=>by
   have e1:=lot y hy
   have e2:=lj y hy
   exact ⟨by omega,by omega,fun h=>by have:=lob y h; omega⟩⟩ ?_ ?_
 ·rintro i F H' hlt hF f4 ⟨hk,hog,hbb,vals,obs,hJ,hin⟩ k
  have f1:=hF 1 rfl
  have f3:=hF 3 rfl
  simp only [↓Sh.dn,sx,Nat.reduceBEq,reduceCtorEq,Nat.reduceEqDiff] at f1 f3
  have hb':=hb2.kept hk2.wf hk
  obtain ⟨q,o,kk,hia,hc,hcc⟩:=hb'.har.at Tryz.underlying23 A9r (i:=i) (x:=N.arcs[i].cells) (by simp [hlt]) .i64
  clear hcc
  have htake:N.arcs.take (i+1)=N.arcs.take i++[N.arcs[i]]:=by rw [List.take_add_one,List.getElem?_eq_getElem hlt]; rfl
  obtain ⟨k0,k1,k2,k3,k4,k5⟩:=hok.arc _ (List.getElem_mem hlt)
  have kn:=Kept.new hk.wf 5 (N.arcs[i].cells)
  have hk3:=hk.news 5 (N.arcs[i].cells)
  generalize N.arcs[i]=a at hk3 kn hc htake k0 k1 k2 k3 k4 k5
  obtain ⟨s,hs⟩:∃ s:Nat,a.fr=(s:Int):=⟨a.fr.toNat,by omega⟩
  have hto:(a.to.toNat:Int)=a.to:=by omega
  have hsn:s < N.states.toNat:=by omega
  have hrow:=A8o (key:=ArcD.fr) (f:=fun a=>A3i (a.inn,a.to.toNat)) (l:=N.arcs.take i) hsn
  have hrl:=B0c hrow
  have hsmA:=hsm.ar
  have htl:(N.arcs.take i).length≤1048576:=by rw [List.length_take]; omega
  have hJ3:=hJ.kept hk.wf kn
  have hog3:=hog.keep (kn.old gb (hog.lt hk.wf))
  have hbb3:=hbb.kept hk.wf kn
  have hnj:¬JIn ot obs H'.next:=fun h=>by have:=hJ.lt hk.wf _ h; omega
  have hn:=hog3.cell 1
  obtain ⟨ba,cap,w',H5,H6,o',p,e1,e2,e3,e4,e5,e6,e7,e8,e9⟩:=hJ3.pushAt Tryz.underlying57 A0q hk3.wf hrow (x:=A3i (a.inn,a.to.toNat)) rfl
  rw [← hs] at e2
  have bl:A7j Tryz.prog 99 [(0,.string a.inn),(1,.int .i64 a.to)]=some (.agg (A3i (a.inn,a.to.toNat)).toArray):=by
   have:=bld_99 (v0:=.string a.inn) (v1:=.int .i64 a.to) rfl rfl
   rw [this]; simp [A3i,hto]
  have hbs:=B3v (H:=(H'.new 5 a.cells).2) (x:=.agg (A3i (a.inn,a.to.toNat)).toArray) rfl rfl
  have ha:=C2m (H:=(H'.new 5 a.cells).2) (base:=ba) (len:=_) (cap:=cap) (x:=A3i (a.inn,a.to.toNat)) rfl (Nat.le_trans hrl (by omega))
  rw [e1] at ha
  have hgj:¬JIn ot obs gb:=fun h=>(hin gb h).2.1 rfl
  have hn5:=(hog3.keep (e7.old gb (hog3.lt hk3.wf) hgj)).cell 1
  have c4:=((Sh.Obj.new (H:=H') 5 a.cells).arr.keep (e7.old H'.next (Nat.lt_succ_self _) hnj)).cell 0
  have c4':(a.cells)[0]?=some (.int .i64 a.fr):=rfl
  rw [c4'] at c4
  have st:A3e Tryz.prog 97 H5 w' (.pointer (some p))=some H6:=by rw [A4d A0q e8,e4]
  have va:∀ xs:Array Value,A7a (.agg xs)=xs.toList:=fun _=>rfl
  have hav:=hJ3.top.veq
  simp only [va] at hbs
  simp only [↓Sh.dn,sx,Nat.reduceBEq,reduceCtorEq,Nat.reduceEqDiff,hb'.c0,hb'.c1,hb'.c2,hb'.c3,hb'.ca,A8b hb',A9b hb',A0c hb',A7i,A4o,A8n,A7s,A8s,A8j,A2k,A7n,A3o,A1l,arc0,arc1,arc2,arc3,arc4,end0,end1,f1,f3,f4,Option.map_some,A1a,hlt,decide_true,hia,hc]
  refine A46 (fl:=[(0,[]),(1,[]),(2,[]),(3,[]),(4,[]),(5,[]),(6,[]),(7,[]),(8,[]),(9,[]),(10,[]),(11,[]),(12,[]),(13,[]),(14,[]),(15,[]),(16,[3,1]),(17,[]),(18,[])]) (by kernel_rfl) (by kernel_rfl) (by kernel_rfl) ?_
  simp only [↓Sh.dn,sx,Nat.reduceBEq,reduceCtorEq,Nat.reduceEqDiff,wpr,again,A6d,A2l,A1i,A9j,A4i,A6g,A8f,forall_eq,forall_eq',A7i,A4o,A8n,A7s,A8s,A8j,A2k,A7n,A3o,A1l,arc0,arc1,arc2,arc3,arc4,end0,end1,f1,f3,f4,hn,e2,e3,Option.map_some,hav,bl,hbs,ha,hn5,st,c4,wrap_succ hlt hsm.ar]
  refine k _ _ (by repeat (first | refine Same.put ?_ rfl | exact Same.rfl' _)) (by simp only [↓Sh.dn,sx,Nat.reduceBEq,reduceCtorEq,Nat.reduceEqDiff]) ⟨hk3.then (Nat.le_refl _) (e6.weak fun y hy=>(hin y hy).1),hog3.keep (e6.old gb (hog3.lt hk3.wf) hgj),hbb3.chg hk3.wf e6 (fun y hy h=>(hin y h).2.2 hy),vals.set s w',obs.set s o',?_,?_⟩
  ·rw [htake]
   unfold B4o
   rw [B53 hsn hs]
   exact e5
  ·intro y hy
   rcases e9 y hy with h | h
   ·exact hin y h
   ·have:=hk3.next
    have:=hog3.lt hk3.wf
    exact ⟨by omega,by omega,fun h2=>by have:=hbb3.lt hk3.wf y h2; omega⟩
 ·rintro F H' hF f4 ⟨hk,hog,hbb,vals,obs,hJ,hin⟩
  have f1:=hF 1 rfl
  have f2:=hF 2 rfl
  have f3:=hF 3 rfl
  simp only [↓Sh.dn,sx,Nat.reduceBEq,reduceCtorEq,Nat.reduceEqDiff] at f1 f2 f3
  rw [List.take_length] at hJ
  have hb':=hb2.kept hk2.wf hk
  simp only [↓Sh.dn,sx,Nat.reduceBEq,reduceCtorEq,Nat.reduceEqDiff,hb'.c0,hb'.c1,hb'.c2,hb'.c3,hb'.ca,A8b hb',A9b hb',A0c hb',f1,f3,f4,A1a,Nat.lt_irrefl,decide_false,Option.map_some]
  have hmk:∀ b:Bool,∀ m:Nat,(List.replicate m b).map A5p=List.replicate m [.bool b]:=fun b m=>by simp [A5p]
  refine A9e N.ends.length 6 (List.range' 40 16++[6]) (fun i F H'=>Kept H2 H'∧Arr H' gb 0 3 [.int .i64 0,ev,bv]∧Buf H' 1 bv ((marksOf EndD.state N.states.toNat (N.ends.take i)).map A5p) ob∧Jag H' ev ot 2 vals (B4o N N.arcs) obs) (by simp only [↓Sh.dn,sx,Nat.reduceBEq,reduceCtorEq,Nat.reduceEqDiff]) ⟨hk,hog,by rw [List.take_zero,B1w,hnn,hmk]; exact hbb,hJ⟩ ?_ ?_
  ·rintro i F' H' hlt hF' f6 ⟨hk,hog,hbb,hJ⟩ k
   have g1:=hF' 1 rfl
   have g3:=hF' 3 rfl
   simp only [↓Sh.dn,sx,Nat.reduceBEq,reduceCtorEq,Nat.reduceEqDiff,f1,f3] at g1 g3
   have hb':=hb2.kept hk2.wf hk
   obtain ⟨q,o,kk,hia,hc,hcc⟩:=hb'.hen.at Tryz.underlying24 A3t (i:=i) (x:=N.ends[i].cells) (by simp [hlt]) .i64
   have hcs:=hcc 0 _ rfl
   simp only [Nat.add_zero,List.getElem_cons_zero] at hcs
   clear hcc
   have htake:N.ends.take (i+1)=N.ends.take i++[N.ends[i]]:=by rw [List.take_add_one,List.getElem?_eq_getElem hlt]; rfl
   obtain ⟨k0,k1⟩:=hok.fin _ (List.getElem_mem hlt)
   generalize N.ends[i]=e at hc hcs htake k0 k1
   obtain ⟨s,hs⟩:∃ s:Nat,e.state=(s:Int):=⟨e.state.toNat,by omega⟩
   have hsn:s < N.states.toNat:=by omega
   have hn1:=hog.cell 1
   have hn2:=hog.cell 2
   obtain ⟨p,H6,ia,e1,e2,e3,e4⟩:=Buf.set (P:=Tryz.prog) hbb hk.wf (i:=s) (x:=A5p true) (by simp [A3j,hsn]) rfl
   have ia2:=ia Tryz.underlying58 A1u (j:=.i64)
   rw [← hs] at ia2
   have st:A3e Tryz.prog 4 H' (.bool true) (.pointer (some p))=some H6:=by rw [A4d A1u rfl]; exact e1
   simp only [↓Sh.dn,sx,Nat.reduceBEq,reduceCtorEq,Nat.reduceEqDiff,hb'.c0,hb'.c1,hb'.c2,hb'.c3,hb'.ca,A8b hb',A9b hb',A0c hb',g1,g3,f6,Option.map_some,A1a,hlt,decide_true]
   first | refine (A1b (by kernel_rfl)).2 ?_ | skip
   simp only [↓Sh.dn,sx,Nat.reduceBEq,reduceCtorEq,Nat.reduceEqDiff,hb'.c0,hb'.c1,hb'.c2,hb'.c3,hb'.ca,A8b hb',A9b hb',A0c hb',g1,g3,f6,hn1,hn2,Option.map_some,hia,hcs,ia2,st,wrap_succ hlt hsm.en]
   refine k _ _ (by repeat (first | refine Same.put ?_ rfl | exact Same.rfl' _)) (by simp only [↓Sh.dn,sx,Nat.reduceBEq,reduceCtorEq,Nat.reduceEqDiff]) ⟨hk.then (Nat.le_refl _) (e3.weak fun y hy=>by have:=lob y hy; omega),hog.keep (e3.old gb (hog.lt hk.wf) (fun hy=>by have:=lb gb hy; omega)),?_,hJ.chg hk.wf e3 fun y hy h=>(hin y hy).2.2 h⟩
   rw [htake,B4x hsn hs,List.map_set]
   exact e2
  ·rintro F' H' hF' f6 ⟨hk,hog,hbb,hJ⟩
   have g1:=hF' 1 rfl
   have g2':=hF' 2 rfl
   have g3:=hF' 3 rfl
   simp only [↓Sh.dn,sx,Nat.reduceBEq,reduceCtorEq,Nat.reduceEqDiff,f1,f2,f3] at g1 g2' g3
   rw [List.take_length] at hbb
   have hb':=hb2.kept hk2.wf hk
   have o0':Sh.Obj H' go 3 [.int .i64 0,.slice none 0 0,.slice none 0 0] true:=by
    unfold Sh.Obj at o0 ⊢
    rw [hk.old go x2]; exact o0
   obtain ⟨H6,st,o3,c3⟩:=rgOut (ev:=ev) (bv:=bv) hk.wf _ _ _ o0' ic1 ic2
   have hca:=hog.cells (i:=0) (n:=3) (by simp)
   have hcr:=o3.cells (i:=0) (n:=3) (by simp)
   simp only [↓Sh.dn,sx,Nat.reduceBEq,reduceCtorEq,Nat.reduceEqDiff,hb'.c0,hb'.c1,hb'.c2,hb'.c3,hb'.ca,A8b hb',A9b hb',A0c hb',g1,g2',g3,f6,A1a,Nat.lt_irrefl,decide_false,Option.map_some,hca,List.drop_zero,List.take_succ_cons,List.take_zero,st,hres,hcr]
   have hJ6:=(hJ.chg hk.wf c3 fun y hy e=>by have:=(hin y hy).1; omega).read
   have hb6:=(hbb.chg hk.wf c3 fun y hy e=>by have:=lob y hy; omega).toSl
   have er:A8h (A3k N)=B4o N N.arcs:=by unfold A8h A3k B4o rowsOf; simp [Function.comp_def]
   rw [← hn]
   refine ⟨(hk2.trans hk).then (e0 go (Nat.le_refl _)) (c3.weak fun y hy=>by omega),ev,bv,vals,rfl,by rw [er]; exact hJ6,hb6,by unfold A3k; rw [A4h],A3j,by omega,by omega,fun s r hr=>⟨Nat.le_trans (B0c hr) hok.ar,fun e he=>?_⟩⟩
   obtain ⟨a,ha,_,rfl⟩:=(A20 hr e).1 he
   have:=hok.arc a ha
   show a.to.toNat < _
   omega
end Go.Proofs.YtcgbiedfbacgpaaGreat
/- cmp.Less, where nothing is no number. -/
namespace Go.Proofs.YtcgbiedfbacgpaaGreat
open Go Go.Proofs Go.Proofs.Sh
theorem B15 {H:AH} {x:Int}:Sh.Call Tryz.prog (knows 7) 142 [Value.int .i64 x] H (fun r H'=>H'=H∧r=.bool false):=by
 refine A3a rfl Tryz.func142 rfl (Nat.le_of_ble_eq_true rfl) ?_
 have hres:Tryz.f142.results.toList=[.tmp 2]:=rfl
 simp only [↓Sh.dn,sx,Nat.reduceBEq,reduceCtorEq,Nat.reduceEqDiff,hres,decide_true,Bool.not_true,and_self]
theorem C7i {H:AH} {x y:Int}:Sh.Call Tryz.prog (knows 7) 124 [Value.int .i64 x,Value.int .i64 y] H (fun r H'=>H'=H∧r=.bool (A4c x y)):=by
 refine A3a rfl Tryz.func124 rfl (Nat.le_of_ble_eq_true rfl) ?_
 have hres:Tryz.f124.results.toList=[.tmp 4]:=rfl
 obtain ⟨r,H1,hd,rfl,rfl⟩:=B15 (H:=H) (x:=x)
 simp only [↓Sh.dn,sx,Nat.reduceBEq,reduceCtorEq,Nat.reduceEqDiff]
 refine ⟨_,_,hd,?_⟩
 simp only [↓Sh.dn,sx,Nat.reduceBEq,reduceCtorEq,Nat.reduceEqDiff,hres,and_self]
 try rfl
theorem A8d {H:AH} {x y:Int}:Does Tryz.prog (knows 7) 124 [Value.int .i64 x,Value.int .i64 y] H (.bool (A4c x y)) H:=by
 obtain ⟨r,H1,hd,rfl,rfl⟩:=C7i (H:=H) (x:=x) (y:=y)
 exact hd
abbrev A2e (H:AH) (g k n:Nat) (l:List Int):Prop:=Cells H g k n (l.map (Value.int .i64))
section
variable {H:AH} {g k n m cap i:Nat} {l:List Int}
theorem A9c {j:IntKind} (h:i < m):A7b Tryz.prog 69 (.slice (some ⟨g,0,some k⟩) m cap) (.int j (i:Int))=some (.pointer (some ⟨g,i,some k⟩)):=by
 rw [ia_69 h,Nat.mul_one,Nat.zero_add]
theorem A6c (h:A2e H g k n l) (hi:i < l.length):H.cell ⟨g,i,some k⟩=some (Value.int .i64 l[i]):=h.cell (by simp [hi])
theorem A9m {x:Int} {p:Addr}:A3e Tryz.prog 3 H (Value.int .i64 x) (.pointer (some p))=H.write p [Value.int .i64 x]:=A4d A2f rfl
theorem A6j (h:A2e H g k n l) (hw:Wf H) {i j:Nat} (hi:i < l.length) (hj:j < l.length):
  ∃ H1 H2,H.write ⟨g,i,some k⟩ [Value.int .i64 l[j]]=some H1∧H1.write ⟨g,j,some k⟩ [Value.int .i64 l[i]]=some H2∧A2e H2 g k n (swp l i j)∧Chg (fun y=>y=g) H H2∧H2.next=H.next:=by
 obtain ⟨H1,H2,h1,h2,h3,h4,h5⟩:=Cells.swap h hw (i:=i) (j:=j) (x:=Value.int .i64 l[i]) (y:=Value.int .i64 l[j]) (by simp [hi]) (by simp [hj])
 exact ⟨H1,H2,h1,h2,by rw [C1q] at h3; exact h3,h4,h5⟩
end
end Go.Proofs.YtcgbiedfbacgpaaGreat
/- insertionSortOrdered. -/
namespace Go.Proofs.YtcgbiedfbacgpaaGreat
open Go Go.Proofs Go.Proofs.Sh
theorem A99 {H:AH} {g k n cap a b:Nat} {l:List Int} (hv:A2e H g k n l) (hw:Wf H) (hl:l.length≤1048576) (hab:a≤b) (hb:b≤l.length):
  Sh.Call Tryz.prog (knows 7) 118 [.slice (some ⟨g,0,some k⟩) l.length cap,.int .i64 (a:Int),.int .i64 (b:Int)] H
   (fun r H'=>∃ l',Mix a b l l'∧Srt A4c a b l'∧A2e H' g k n l'∧Chg (fun y=>y=g) H H'):=by
 refine A3a rfl Tryz.func118 rfl (Nat.le_of_ble_eq_true rfl) ?_
 have hres:Tryz.f118.results.toList=[]:=rfl
 have hTO:=intTO
 have w1:IntKind.wrap .i64 ((a:Int)+1)=((a+1:Nat):Int):=by rw [wrap64 (by omega) (by omega)]; rfl
 simp only [↓Sh.dn,sx,Nat.reduceBEq,reduceCtorEq,Nat.reduceEqDiff,w1]
 let Adj (i:Nat) (m:List Int):Prop:=∀ (p:Nat) x y,a≤p→p+1 < i→m[p]?=some x→m[p+1]?=some y→A4c y x=false
 refine A4b (fun m F H' => ∃ (i : Nat) (l1 : List Int), m = b - i ∧ a + 1 ≤ i ∧ (i ≤ b ∨ i = a + 1) ∧ Mix a b l l1 ∧ Adj i l1 ∧ A2e H' g k n l1 ∧ Chg (fun y => y = g) H H' ∧
     F.get 0 = some (.slice (some ⟨g, 0, some k⟩) l.length cap) ∧ F.get 1 = some (.int .i64 (a : Int)) ∧ F.get 2 = some (.int .i64 (b : Int)) ∧ F.get 6 = some (.int .i64 (i : Int))) (m := b - (a + 1))
   ⟨a + 1, l, rfl, by omega, .inr rfl, .refl l, fun p x y h1 h2 => by omega, hv, Chg.refl hw, by simp only [↓Sh.dn, sx, Nat.reduceBEq, reduceCtorEq, Nat.reduceEqDiff], by simp only [↓Sh.dn, sx, Nat.reduceBEq, reduceCtorEq, Nat.reduceEqDiff], by simp only [↓Sh.dn, sx, Nat.reduceBEq, reduceCtorEq, Nat.reduceEqDiff], by simp only [↓Sh.dn, sx, Nat.reduceBEq, reduceCtorEq, Nat.reduceEqDiff]⟩ ?_
 rintro m F H' ⟨i,l1,rfl,hai,hib,hm,hadj,hv1,hc1,f0,f1,f2,f6⟩ kk
 by_cases hlt:i < b
 ·simp only [↓Sh.dn,sx,Nat.reduceBEq,reduceCtorEq,Nat.reduceEqDiff,f2,f6,A1a,hlt,decide_true]
  refine A4b (fun m F' H2 => ∃ (j : Nat) (l2 : List Int), m = j ∧ a ≤ j ∧ j ≤ i ∧ Mix a b l l2 ∧ (∀ (p : Nat) x y, a ≤ p → p + 1 < i + 1 → p + 1 ≠ j → l2[p]? = some x → l2[p + 1]? = some y → A4c y x = false) ∧
      (∀ x y, a < j → j < i → l2[j - 1]? = some x → l2[j + 1]? = some y → A4c y x = false) ∧ A2e H2 g k n l2 ∧ Chg (fun y => y = g) H H2 ∧
      F'.get 0 = some (.slice (some ⟨g, 0, some k⟩) l.length cap) ∧ F'.get 1 = some (.int .i64 (a : Int)) ∧ F'.get 2 = some (.int .i64 (b : Int)) ∧ F'.get 6 = some (.int .i64 (i : Int)) ∧ F'.get 7 = some (.int .i64 (j : Int))) (m := i)
    ⟨i, l1, rfl, by omega, Nat.le_refl _, hm, fun p x y h1 h2 h3 => hadj p x y h1 (by omega), fun x y h1 h2 => by omega, hv1, hc1, by simp only [↓Sh.dn, sx, Nat.reduceBEq, reduceCtorEq, Nat.reduceEqDiff, f0], by simp only [↓Sh.dn, sx, Nat.reduceBEq, reduceCtorEq, Nat.reduceEqDiff, f1], by simp only [↓Sh.dn, sx, Nat.reduceBEq, reduceCtorEq, Nat.reduceEqDiff, f2], by simp only [↓Sh.dn, sx, Nat.reduceBEq, reduceCtorEq, Nat.reduceEqDiff, f6], by simp only [↓Sh.dn, sx, Nat.reduceBEq, reduceCtorEq, Nat.reduceEqDiff]⟩ ?_
  rintro j F' H2 ⟨_,l2,rfl,haj,hji,hm2,hA,hB,hv2,hc2,g0,g1,g2,g6,g7⟩ k2
  have hlen:=hm2.length
  have wi:IntKind.wrap .i64 ((i:Int)+1)=((i+1:Nat):Int):=by rw [wrap64 (by omega) (by omega)]; rfl
  simp only [↓Sh.dn,sx,Nat.reduceBEq,reduceCtorEq,Nat.reduceEqDiff]
  refine (A1b (by kernel_rfl)).2 ?_
  by_cases hgt:a < j
  ·have wj:IntKind.wrap .i64 ((j:Int) - 1)=((j - 1:Nat):Int):=by rw [wrap64 (by omega) (by omega)]; omega
   have hj1:j < l2.length:=by omega
   have hj2:j - 1 < l2.length:=by omega
   have i1:=A9c (g:=g) (k:=k) (cap:=cap) (m:=l.length) (i:=j) (j:=.i64) (by omega)
   have i2:=A9c (g:=g) (k:=k) (cap:=cap) (m:=l.length) (i:=j - 1) (j:=.i64) (by omega)
   have r1:=A6c hv2 hj1
   have r2:=A6c hv2 hj2
   have q1:l2[j]?=some l2[j]:=List.getElem?_eq_getElem hj1
   have q2:l2[j - 1]?=some l2[j - 1]:=List.getElem?_eq_getElem hj2
   simp only [↓Sh.dn,sx,Nat.reduceBEq,reduceCtorEq,Nat.reduceEqDiff,g0,g1,g7,A1a,hgt,decide_true,wj,i1,i2,r1,r2]
   refine ⟨_,_,A8d,?_⟩
   cases hc:A4c l2[j] l2[j - 1] with
   | true=>
    simp only [↓Sh.dn,sx,Nat.reduceBEq,reduceCtorEq,Nat.reduceEqDiff]
    refine (A1b (by kernel_rfl)).2 ?_
    obtain ⟨K1,K2,e1,e2,e3,e4,e5⟩:=A6j hv2 hc2.wf hj1 hj2
    simp only [↓Sh.dn,sx,Nat.reduceBEq,reduceCtorEq,Nat.reduceEqDiff,g0,g7,wj,i1,i2,r1,r2,A9m,e1,e2]
    refine k2 (j - 1) _ _ (by omega) ⟨j - 1,swp l2 j (j - 1),rfl,by omega,by omega,hm2.swap (by omega) (by omega) (by omega) (by omega),fun p x y h1 h2 h3 hx hy=>?_,fun x y h1 h2 hx hy=>?_,e3,hc2.trans e4,by simp only [↓Sh.dn,sx,Nat.reduceBEq,reduceCtorEq,Nat.reduceEqDiff,g0],by simp only [↓Sh.dn,sx,Nat.reduceBEq,reduceCtorEq,Nat.reduceEqDiff,g1],by simp only [↓Sh.dn,sx,Nat.reduceBEq,reduceCtorEq,Nat.reduceEqDiff,g2],by simp only [↓Sh.dn,sx,Nat.reduceBEq,reduceCtorEq,Nat.reduceEqDiff,g6],by simp only [↓Sh.dn,sx,Nat.reduceBEq,reduceCtorEq,Nat.reduceEqDiff]⟩
    ·rw [swp_get hj1 hj2] at hx hy
     by_cases hp1:p+1=j
     ·have hp:p=j - 1:=by omega
      rw [if_pos hp,q1] at hx
      rw [if_neg (by omega),if_pos hp1,q2] at hy
      rw [← Option.some.inj hx,← Option.some.inj hy]
      exact hTO.asymm hc
     ·by_cases hp2:p=j
      ·rw [if_neg (by omega),if_pos hp2,q2] at hx
       rw [if_neg (by omega),if_neg (by omega)] at hy
       rw [← Option.some.inj hx]
       exact hB _ _ hgt (by omega) q2 (by rw [← hp2]; exact hy)
      ·rw [if_neg (by omega),if_neg hp2] at hx
       rw [if_neg (by omega),if_neg (by omega)] at hy
       exact hA p x y h1 h2 hp1 hx hy
    ·rw [swp_get hj1 hj2] at hx hy
     rw [if_neg (by omega),if_neg (by omega)] at hx
     rw [if_neg (by omega),if_pos (by omega),q2] at hy
     rw [← Option.some.inj hy]
     exact hA (j - 2) _ _ (by omega) (by omega) (by omega) (by rw [show j - 2=j - 1 - 1 by omega]; exact hx) (by rw [show j - 2+1=j - 1 by omega]; exact q2)
   | false=>
    simp only [↓Sh.dn,sx,Nat.reduceBEq,reduceCtorEq,Nat.reduceEqDiff,g6,wi]
    refine kk (b - (i+1)) _ _ (by omega) ⟨i+1,l2,rfl,by omega,.inl (by omega),hm2,fun p x y h1 h2 hx hy=>?_,hv2,hc2,by simp only [↓Sh.dn,sx,Nat.reduceBEq,reduceCtorEq,Nat.reduceEqDiff,g0],by simp only [↓Sh.dn,sx,Nat.reduceBEq,reduceCtorEq,Nat.reduceEqDiff,g1],by simp only [↓Sh.dn,sx,Nat.reduceBEq,reduceCtorEq,Nat.reduceEqDiff,g2],by simp only [↓Sh.dn,sx,Nat.reduceBEq,reduceCtorEq,Nat.reduceEqDiff]⟩
    by_cases hp:p+1=j
    ·have hp':p=j - 1:=by omega
     rw [hp',q2] at hx
     rw [hp,q1] at hy
     rw [← Option.some.inj hx,← Option.some.inj hy]; exact hc
    ·exact hA p x y h1 h2 hp hx hy
  ·simp only [↓Sh.dn,sx,Nat.reduceBEq,reduceCtorEq,Nat.reduceEqDiff,g0,g1,g7,A1a,hgt,decide_false,g6,wi]
   exact kk (b - (i+1)) _ _ (by omega) ⟨i+1,l2,rfl,by omega,.inl (by omega),hm2,fun p x y h1 h2 hx hy=>hA p x y h1 h2 (by omega) hx hy,hv2,hc2,by simp only [↓Sh.dn,sx,Nat.reduceBEq,reduceCtorEq,Nat.reduceEqDiff,g0],by simp only [↓Sh.dn,sx,Nat.reduceBEq,reduceCtorEq,Nat.reduceEqDiff,g1],by simp only [↓Sh.dn,sx,Nat.reduceBEq,reduceCtorEq,Nat.reduceEqDiff,g2],by simp only [↓Sh.dn,sx,Nat.reduceBEq,reduceCtorEq,Nat.reduceEqDiff]⟩
 ·simp only [↓Sh.dn,sx,Nat.reduceBEq,reduceCtorEq,Nat.reduceEqDiff,f2,f6,A1a,hlt,decide_false,hres]
  exact ⟨l1,hm,B0b hTO fun p x y h1 h2 hx hy=>hadj p x y h1 (by omega) hx hy,hv1,hc1⟩
end Go.Proofs.YtcgbiedfbacgpaaGreat
/- Small parts of the sort: reverseRange, order2, median, choosePivot. -/
namespace Go.Proofs.YtcgbiedfbacgpaaGreat
open Go Go.Proofs Go.Proofs.Sh
section
variable {H:AH} {g k n cap a b:Nat} {l:List Int}
theorem B3h (hv:A2e H g k n l) (hw:Wf H) (hl:l.length≤1048576) (hab:a < b) (hb:b≤l.length):
  Sh.Call Tryz.prog (knows 7) 122 [.slice (some ⟨g,0,some k⟩) l.length cap,.int .i64 (a:Int),.int .i64 (b:Int)] H
   (fun r H'=>∃ l',Mix a b l l'∧A2e H' g k n l'∧Chg (fun y=>y=g) H H'):=by
 refine A3a rfl Tryz.func122 rfl (Nat.le_of_ble_eq_true rfl) ?_
 have hres:Tryz.f122.results.toList=[]:=rfl
 have w1:IntKind.wrap .i64 ((b:Int) - 1)=((b - 1:Nat):Int):=by rw [wrap64 (by omega) (by omega)]; omega
 simp only [↓Sh.dn,sx,Nat.reduceBEq,reduceCtorEq,Nat.reduceEqDiff,w1]
 refine A4b (fun m F H' => ∃ (i j : Nat) (l1 : List Int), m = b - i ∧ a ≤ i ∧ i + j + 1 = a + b ∧ i ≤ b ∧ Mix a b l l1 ∧ A2e H' g k n l1 ∧ Chg (fun y => y = g) H H' ∧
     F.get 0 = some (.slice (some ⟨g, 0, some k⟩) l.length cap) ∧ F.get 6 = some (.int .i64 (i : Int)) ∧ F.get 7 = some (.int .i64 (j : Int))) (m := b - a)
   ⟨a, b - 1, l, rfl, by omega, by omega, by omega, .refl l, hv, Chg.refl hw, by simp only [↓Sh.dn, sx, Nat.reduceBEq, reduceCtorEq, Nat.reduceEqDiff], by simp only [↓Sh.dn, sx, Nat.reduceBEq, reduceCtorEq, Nat.reduceEqDiff], by simp only [↓Sh.dn, sx, Nat.reduceBEq, reduceCtorEq, Nat.reduceEqDiff]⟩ ?_
 rintro m F H' ⟨i,j,l1,rfl,hai,hij,hib,hm,hv1,hc1,f0,f6,f7⟩ kk
 have hlen:=hm.length
 by_cases hlt:i < j
 ·have hi:i < l1.length:=by omega
  have hj:j < l1.length:=by omega
  have wi:IntKind.wrap .i64 ((i:Int)+1)=((i+1:Nat):Int):=by rw [wrap64 (by omega) (by omega)]; rfl
  have wj:IntKind.wrap .i64 ((j:Int) - 1)=((j - 1:Nat):Int):=by rw [wrap64 (by omega) (by omega)]; omega
  have i1:=A9c (g:=g) (k:=k) (cap:=cap) (m:=l.length) (i:=i) (j:=.i64) (by omega)
  have i2:=A9c (g:=g) (k:=k) (cap:=cap) (m:=l.length) (i:=j) (j:=.i64) (by omega)
  have r1:=A6c hv1 hi
  have r2:=A6c hv1 hj
  obtain ⟨K1,K2,e1,e2,e3,e4,e5⟩:=A6j hv1 hc1.wf hi hj
  simp only [↓Sh.dn,sx,Nat.reduceBEq,reduceCtorEq,Nat.reduceEqDiff,f6,f7,A1a,hlt,decide_true]
  refine (A1b (by kernel_rfl)).2 ?_
  simp only [↓Sh.dn,sx,Nat.reduceBEq,reduceCtorEq,Nat.reduceEqDiff,f0,f6,f7,i1,i2,r1,r2,A9m,e1,e2,wi,wj]
  exact kk (b - (i+1)) _ _ (by omega) ⟨i+1,j - 1,swp l1 i j,rfl,by omega,by omega,by omega,hm.swap (by omega) (by omega) (by omega) (by omega),e3,hc1.trans e4,by simp only [↓Sh.dn,sx,Nat.reduceBEq,reduceCtorEq,Nat.reduceEqDiff,f0],by simp only [↓Sh.dn,sx,Nat.reduceBEq,reduceCtorEq,Nat.reduceEqDiff],by simp only [↓Sh.dn,sx,Nat.reduceBEq,reduceCtorEq,Nat.reduceEqDiff]⟩
 ·simp only [↓Sh.dn,sx,Nat.reduceBEq,reduceCtorEq,Nat.reduceEqDiff,f6,f7,A1a,hlt,decide_false,hres]
  exact ⟨l1,hm,hv1,hc1⟩
def B9f (H:AH) (p:Nat) (c:Int):Prop:=Arr H p 0 1 [.int .i64 c]
theorem B2i {i j p:Nat} {c:Int} (hv:A2e H g k n l) (hp:B9f H p c) (hpg:p≠g) (hw:Wf H) (hi:i < l.length) (hj:j < l.length):
  Sh.Call Tryz.prog (knows 7) 146 [.slice (some ⟨g,0,some k⟩) l.length cap,.int .i64 (i:Int),.int .i64 (j:Int),.pointer (some ⟨p,0,some 0⟩)] H
   (fun r H'=>∃ i' j':Nat,r=.tuple #[.int .i64 (i':Int),.int .i64 (j':Int)]∧(i'=i∧j'=j∨i'=j∧j'=i)∧A2e H' g k n l∧∃ c',B9f H' p c'∧Chg (fun y=>y=p) H H'):=by
 refine A3a rfl Tryz.func146 rfl (Nat.le_of_ble_eq_true rfl) ?_
 have hres:Tryz.f146.results.toList=[.tmp 8,.tmp 9]:=rfl
 have i1:=A9c (g:=g) (k:=k) (cap:=cap) (m:=l.length) (i:=i) (j:=.i64) hi
 have i2:=A9c (g:=g) (k:=k) (cap:=cap) (m:=l.length) (i:=j) (j:=.i64) hj
 have r1:=A6c hv hi
 have r2:=A6c hv hj
 have r3:H.cell ⟨p,0,some 0⟩=some (.int .i64 c):=hp.cell 0
 simp only [↓Sh.dn,sx,Nat.reduceBEq,reduceCtorEq,Nat.reduceEqDiff]
 refine (A1b (by kernel_rfl)).2 ?_
 simp only [↓Sh.dn,sx,Nat.reduceBEq,reduceCtorEq,Nat.reduceEqDiff,i1,i2,r1,r2]
 refine ⟨_,_,A8d,?_⟩
 cases hc:A4c l[j] l[i] with
 | true=>
  obtain ⟨K1,e1,e2,e3,e4⟩:=hp.write hw (i:=0) (vs:=[.int .i64 (IntKind.wrap .i64 (c+1))]) (by simp)
  have st:A3e Tryz.prog 3 H (.int .i64 (IntKind.wrap .i64 (c+1))) (.pointer (some ⟨p,0,some 0⟩))=H.write ⟨p,0,some 0⟩ [.int .i64 (IntKind.wrap .i64 (c+1))]:=A4d A2f rfl
  simp only [↓Sh.dn,sx,Nat.reduceBEq,reduceCtorEq,Nat.reduceEqDiff,r3,st,e1,hres]
  exact ⟨j,i,rfl,.inr ⟨rfl,rfl⟩,hv.chg hw e4 (fun h=>hpg h.symm),_,e2,e4⟩
 | false=>
  simp only [↓Sh.dn,sx,Nat.reduceBEq,reduceCtorEq,Nat.reduceEqDiff,hres]
  exact ⟨i,j,rfl,.inl ⟨rfl,rfl⟩,hv,c,hp,Chg.refl hw⟩
theorem B5g {i j m p:Nat} {c:Int} (hv:A2e H g k n l) (hp:B9f H p c) (hpg:p≠g) (hw:Wf H) (hi:i < l.length) (hj:j < l.length) (hm:m < l.length):
  Sh.Call Tryz.prog (knows 7) 141 [.slice (some ⟨g,0,some k⟩) l.length cap,.int .i64 (i:Int),.int .i64 (j:Int),.int .i64 (m:Int),.pointer (some ⟨p,0,some 0⟩)] H
   (fun r H'=>∃ q:Nat,r=.int .i64 (q:Int)∧(q=i∨q=j∨q=m)∧A2e H' g k n l∧∃ c',B9f H' p c'∧Chg (fun y=>y=p) H H'):=by
 refine A3a rfl Tryz.func141 rfl (Nat.le_of_ble_eq_true rfl) ?_
 have hres:Tryz.f141.results.toList=[.tmp 10]:=rfl
 obtain ⟨r,H1,hd1,i1,j1,rfl,h1,hv1,c1,hp1,hc1⟩:=B2i (cap:=cap) hv hp hpg hw hi hj
 have hi1:i1 < l.length:=by omega
 have hj1:j1 < l.length:=by omega
 obtain ⟨r,H2,hd2,j2,m2,rfl,h2,hv2,c2,hp2,hc2⟩:=B2i (cap:=cap) hv1 hp1 hpg hc1.wf hj1 hm
 have hj2:j2 < l.length:=by omega
 obtain ⟨r,H3,hd3,i3,j3,rfl,h3,hv3,c3,hp3,hc3⟩:=B2i (cap:=cap) hv2 hp2 hpg hc2.wf hi1 hj2
 simp only [↓Sh.dn,sx,Nat.reduceBEq,reduceCtorEq,Nat.reduceEqDiff]
 refine ⟨_,_,hd1,?_⟩
 simp only [↓Sh.dn,sx,Nat.reduceBEq,reduceCtorEq,Nat.reduceEqDiff]
 refine ⟨_,_,hd2,?_⟩
 simp only [↓Sh.dn,sx,Nat.reduceBEq,reduceCtorEq,Nat.reduceEqDiff]
 refine ⟨_,_,hd3,?_⟩
 simp only [↓Sh.dn,sx,Nat.reduceBEq,reduceCtorEq,Nat.reduceEqDiff,hres]
 exact ⟨j3,rfl,by omega,hv3,c3,hp3,(hc1.trans hc2).trans hc3⟩
theorem A5q {i p:Nat} {c:Int} (hv:A2e H g k n l) (hp:B9f H p c) (hpg:p≠g) (hw:Wf H) (hl:l.length≤1048576) (h0:1≤i) (hi:i+1 < l.length):
  Sh.Call Tryz.prog (knows 7) 140 [.slice (some ⟨g,0,some k⟩) l.length cap,.int .i64 (i:Int),.pointer (some ⟨p,0,some 0⟩)] H
   (fun r H'=>∃ q:Nat,r=.int .i64 (q:Int)∧(i≤q+1∧q≤i+1)∧A2e H' g k n l∧∃ c',B9f H' p c'∧Chg (fun y=>y=p) H H'):=by
 refine A3a rfl Tryz.func140 rfl (Nat.le_of_ble_eq_true rfl) ?_
 have hres:Tryz.f140.results.toList=[.tmp 6]:=rfl
 have w1:IntKind.wrap .i64 ((i:Int) - 1)=((i - 1:Nat):Int):=by rw [wrap64 (by omega) (by omega)]; omega
 have w2:IntKind.wrap .i64 ((i:Int)+1)=((i+1:Nat):Int):=by rw [wrap64 (by omega) (by omega)]; rfl
 obtain ⟨r,H1,hd1,q,rfl,h1,hv1,c1,hp1,hc1⟩:=B5g (cap:=cap) (i:=i - 1) (j:=i) (m:=i+1) hv hp hpg hw (by omega) (by omega) hi
 simp only [↓Sh.dn,sx,Nat.reduceBEq,reduceCtorEq,Nat.reduceEqDiff,w1,w2]
 refine ⟨_,_,hd1,?_⟩
 simp only [↓Sh.dn,sx,Nat.reduceBEq,reduceCtorEq,Nat.reduceEqDiff,hres]
 exact ⟨q,rfl,by omega,by omega,hv1,c1,hp1,hc1⟩
theorem B2j (hv:A2e H g k n l) (hw:Wf H) (hl:l.length≤1048576) (hab:a+12 < b) (hb:b≤l.length):
  Sh.Call Tryz.prog (knows 7) 121 [.slice (some ⟨g,0,some k⟩) l.length cap,.int .i64 (a:Int),.int .i64 (b:Int)] H
   (fun r H'=>∃ q:Nat,∃ h:Int,r=.tuple #[.int .i64 (q:Int),.int .i64 h]∧a≤q∧q < b∧A2e H' g k n l∧Kept H H'):=by
 refine A3a rfl Tryz.func121 rfl (Nat.le_of_ble_eq_true rfl) ?_
 have hres:Tryz.f121.results.toList=[.tmp 6,.tmp 7]:=rfl
 have al:anew Tryz.prog 3 H (.int .i64 0)=some (.pointer (some ⟨H.next,0,some 0⟩),(H.new 1 [.int .i64 0]).2):=A60 A2f rfl
 have w0:IntKind.wrap .i64 ((b:Int) - (a:Int))=((b - a:Nat):Int):=by rw [wrap64 (by omega) (by omega)]; omega
 have hq4:(Int.tdiv ((b - a:Nat):Int) 4)=(((b - a) / 4:Nat):Int):=by rw [Int.tdiv_eq_ediv_of_nonneg (by omega)]; rfl
 have A80:∀ {t:TypeId} {c:Bool} {x y:Int},y≠0→abin Tryz.prog t c .quo (.int .i64 x) (.int .i64 y)=some (.int .i64 (IntKind.wrap .i64 (x.tdiv y))):=by
  intro t c x y h
  simp only [abin,A8e,cond_true,aint,A6n,show (y == 0)=false from by simpa using h,cond_false]
 have wq:IntKind.wrap .i64 (((b - a) / 4:Nat):Int)=(((b - a) / 4:Nat):Int):=wrap64 (by omega) (by omega)
 have m1:IntKind.wrap .i64 ((((b - a) / 4:Nat):Int) * 1)=(((b - a) / 4 * 1:Nat):Int):=by rw [wrap64 (by omega) (by omega)]; omega
 have m2:IntKind.wrap .i64 ((((b - a) / 4:Nat):Int) * 2)=(((b - a) / 4 * 2:Nat):Int):=by rw [wrap64 (by omega) (by omega)]; omega
 have m3:IntKind.wrap .i64 ((((b - a) / 4:Nat):Int) * 3)=(((b - a) / 4 * 3:Nat):Int):=by rw [wrap64 (by omega) (by omega)]; omega
 have p1:IntKind.wrap .i64 ((a:Int)+(((b - a) / 4 * 1:Nat):Int))=((a+(b - a) / 4 * 1:Nat):Int):=by rw [wrap64 (by omega) (by omega)]; rfl
 have p2:IntKind.wrap .i64 ((a:Int)+(((b - a) / 4 * 2:Nat):Int))=((a+(b - a) / 4 * 2:Nat):Int):=by rw [wrap64 (by omega) (by omega)]; rfl
 have p3:IntKind.wrap .i64 ((a:Int)+(((b - a) / 4 * 3:Nat):Int))=((a+(b - a) / 4 * 3:Nat):Int):=by rw [wrap64 (by omega) (by omega)]; rfl
 have d8:decide ((8:Int)≤((b - a:Nat):Int))=true:=by simp; omega
 have hk1:Kept H (H.new 1 [.int .i64 0]).2:=Kept.new hw 1 _
 have hv0:A2e (H.new 1 [.int .i64 0]).2 g k n l:=hv.kept hw hk1
 have hp0:B9f (H.new 1 [.int .i64 0]).2 H.next 0:=(Obj.new (H:=H) 1 [.int .i64 0]).arr
 have hpg:H.next≠g:=by have:=hv.lt hw; omega
 simp only [↓Sh.dn,sx,Nat.reduceBEq,reduceCtorEq,Nat.reduceEqDiff,al,w0,A80 (show (4:Int)≠0 by decide),hq4,wq,m1,m2,m3,p1,p2,p3,d8]
 generalize (H.new 1 [.int .i64 0]).2=H1 at hk1 hv0 hp0 ⊢
 by_cases h50:50≤b - a
 ·have d50:decide ((50:Int)≤((b - a:Nat):Int))=true:=by simp; omega
  obtain ⟨r,H2,hd2,q1,rfl,h1,hv1,c1,hp1,hc1⟩:=A5q (cap:=cap) (i:=a+(b - a) / 4 * 1) hv0 hp0 hpg hk1.wf hl (by omega) (by omega)
  obtain ⟨r,H3,hd3,q2,rfl,h2,hv2,c2,hp2,hc2⟩:=A5q (cap:=cap) (i:=a+(b - a) / 4 * 2) hv1 hp1 hpg hc1.wf hl (by omega) (by omega)
  obtain ⟨r,H4,hd4,q3,rfl,h3,hv3,c3,hp3,hc3⟩:=A5q (cap:=cap) (i:=a+(b - a) / 4 * 3) hv2 hp2 hpg hc2.wf hl (by omega) (by omega)
  obtain ⟨r,H5,hd5,q4,rfl,h4,hv4,c4,hp4,hc4⟩:=B5g (cap:=cap) (i:=q1) (j:=q2) (m:=q3) hv3 hp3 hpg hc3.wf (by omega) (by omega) (by omega)
  have r9:H5.cell ⟨H.next,0,some 0⟩=some (.int .i64 c4):=hp4.cell 0
  have hkk:Kept H H5:=(((hk1.chg.trans hc1).trans hc2).trans hc3 |>.trans hc4).kept fun x hx=>by omega
  simp only [↓Sh.dn,sx,Nat.reduceBEq,reduceCtorEq,Nat.reduceEqDiff,d50]
  refine ⟨_,_,hd2,?_⟩
  try simp only [↓Sh.dn,sx,Nat.reduceBEq,reduceCtorEq,Nat.reduceEqDiff]
  refine ⟨_,_,hd3,?_⟩
  try simp only [↓Sh.dn,sx,Nat.reduceBEq,reduceCtorEq,Nat.reduceEqDiff]
  refine ⟨_,_,hd4,?_⟩
  try simp only [↓Sh.dn,sx,Nat.reduceBEq,reduceCtorEq,Nat.reduceEqDiff]
  refine ⟨_,_,hd5,?_⟩
  simp only [↓Sh.dn,sx,Nat.reduceBEq,reduceCtorEq,Nat.reduceEqDiff,r9]
  by_cases z0:c4=0
  ·simp only [↓Sh.dn,sx,Nat.reduceBEq,reduceCtorEq,Nat.reduceEqDiff,z0,decide_true,hres]
   exact ⟨q4,1,rfl,by omega,by omega,hv4,hkk⟩
  ·simp only [↓Sh.dn,sx,Nat.reduceBEq,reduceCtorEq,Nat.reduceEqDiff,z0,decide_false]
   by_cases z1:c4=12
   ·simp only [↓Sh.dn,sx,Nat.reduceBEq,reduceCtorEq,Nat.reduceEqDiff,z1,decide_true,hres]
    exact ⟨q4,2,rfl,by omega,by omega,hv4,hkk⟩
   ·simp only [↓Sh.dn,sx,Nat.reduceBEq,reduceCtorEq,Nat.reduceEqDiff,z1,decide_false,hres]
    exact ⟨q4,0,rfl,by omega,by omega,hv4,hkk⟩
 ·have d50:decide ((50:Int)≤((b - a:Nat):Int))=false:=by simp; omega
  obtain ⟨r,H5,hd5,q4,rfl,h4,hv4,c4,hp4,hc4⟩:=B5g (cap:=cap) (i:=a+(b - a) / 4 * 1) (j:=a+(b - a) / 4 * 2) (m:=a+(b - a) / 4 * 3) hv0 hp0 hpg hk1.wf (by omega) (by omega) (by omega)
  have r9:H5.cell ⟨H.next,0,some 0⟩=some (.int .i64 c4):=hp4.cell 0
  have hkk:Kept H H5:=(hk1.chg.trans hc4).kept fun x hx=>by omega
  simp only [↓Sh.dn,sx,Nat.reduceBEq,reduceCtorEq,Nat.reduceEqDiff,d50]
  refine ⟨_,_,hd5,?_⟩
  simp only [↓Sh.dn,sx,Nat.reduceBEq,reduceCtorEq,Nat.reduceEqDiff,r9]
  by_cases z0:c4=0
  ·simp only [↓Sh.dn,sx,Nat.reduceBEq,reduceCtorEq,Nat.reduceEqDiff,z0,decide_true,hres]
   exact ⟨q4,1,rfl,by omega,by omega,hv4,hkk⟩
  ·simp only [↓Sh.dn,sx,Nat.reduceBEq,reduceCtorEq,Nat.reduceEqDiff,z0,decide_false]
   by_cases z1:c4=12
   ·simp only [↓Sh.dn,sx,Nat.reduceBEq,reduceCtorEq,Nat.reduceEqDiff,z1,decide_true,hres]
    exact ⟨q4,2,rfl,by omega,by omega,hv4,hkk⟩
   ·simp only [↓Sh.dn,sx,Nat.reduceBEq,reduceCtorEq,Nat.reduceEqDiff,z1,decide_false,hres]
    exact ⟨q4,0,rfl,by omega,by omega,hv4,hkk⟩
end
end Go.Proofs.YtcgbiedfbacgpaaGreat
/- How many binary digits a number has. -/
namespace Go.Proofs.YtcgbiedfbacgpaaGreat
open Go Go.Proofs Go.Proofs.Sh
def C8e (x r:Nat):Prop:=x < 2 ^ r∧(x≠0→2 ^ r≤2 * x)∧r≤40
theorem C7s {x y u c:Nat} (hx:x < 2 ^ 32) (hc:c≤16) (hy:y=x / 2 ^ c) (hy0:y≠0) (h1:y < 2 ^ u) (h2:y≠0→2 ^ u≤2 * y) (h3:u≤8):C8e x (c+u):=by
  subst hy
  have e:2 ^ (c+u)=2 ^ u * 2 ^ c:=by rw [Nat.add_comm,Nat.pow_add]
  have hp:0 < 2 ^ c:=Nat.two_pow_pos c
  refine ⟨?_,fun _=>?_,by omega⟩
  · rw [e]
    exact Nat.lt_mul_of_div_lt h1 hp |> fun h=>by rw [Nat.mul_comm]; rw [Nat.mul_comm] at h; first | exact h | (rw [Nat.mul_comm]; exact h)
  · rw [e]
    have h4:=h2 hy0
    have h5:x / 2 ^ c * 2 ^ c≤x:=Nat.div_mul_le_self x (2 ^ c)
    calc 2 ^ u * 2 ^ c ≤ 2 * (x / 2 ^ c) * 2 ^ c := Nat.mul_le_mul_right _ h4
      _=2 * (x / 2 ^ c * 2 ^ c):=Nat.mul_assoc _ _ _
      _≤2 * x:=Nat.mul_le_mul_left 2 h5
theorem C1l {H:AH} {x:Nat} (hx:x < 16777216):Sh.Call Tryz.prog (knows 7) 128 [.int .u64 (x:Int)] H (fun r H'=>H'=H∧∃ c:Nat,r=.int .i64 (c:Int)∧C8e x c):=by
 refine A3a rfl Tryz.func128 rfl (Nat.le_of_ble_eq_true rfl) ?_
 have hres:Tryz.f128.results.toList=[.tmp 2]:=rfl
 have d1:decide ((4294967296:Int)≤(x:Int))=false:=by simp; omega
 simp only [↓Sh.dn,sx,Nat.reduceBEq,reduceCtorEq,Nat.reduceEqDiff,d1]
 by_cases h2:65536≤x
 ·have d2:decide ((65536:Int)≤(x:Int))=true:=by simp; omega
  have s2:A8l false .u64 (x:Int) 16=some (.int .u64 ((x / 2 ^ 16:Nat):Int)):=C3n (c:=16) (by omega)
  have hlt:x / 2 ^ 16 < 256:=by omega
  have d3:decide ((256:Int)≤((x / 2 ^ 16:Nat):Int))=false:=by simp; omega
  have w8:IntKind.wrap .u8 ((x / 2 ^ 16:Nat):Int)=((x / 2 ^ 16:Nat):Int):=C4p (by omega) (by omega)
  have w16:IntKind.wrap .i64 ((0:Int)+16)=16:=wrap64 (by omega) (by omega)
  simp only [↓Sh.dn,sx,Nat.reduceBEq,reduceCtorEq,Nat.reduceEqDiff,d2,C0k,s2,d3,w16,w8]
  refine B4r Tryz.underlying9 (by kernel_rfl) hlt fun u u1 u2 u3=>?_
  have wu:IntKind.wrap .i64 (u:Int)=(u:Int):=wrap64 (by omega) (by omega)
  have ws:IntKind.wrap .i64 ((16:Int)+(u:Int))=((16+u:Nat):Int):=by rw [wrap64 (by omega) (by omega)]; rfl
  simp only [↓Sh.dn,sx,Nat.reduceBEq,reduceCtorEq,Nat.reduceEqDiff,wu,ws,hres]
  exact ⟨16+u,rfl,C7s (by omega) (by omega) rfl (by omega) u1 u2 u3⟩
 ·have d2:decide ((65536:Int)≤(x:Int))=false:=by simp; omega
  by_cases h3:256≤x
  ·have d3:decide ((256:Int)≤(x:Int))=true:=by simp; omega
   have s2:A8l false .u64 (x:Int) 8=some (.int .u64 ((x / 2 ^ 8:Nat):Int)):=C3n (c:=8) (by omega)
   have hlt:x / 2 ^ 8 < 256:=by omega
   have w8:IntKind.wrap .u8 ((x / 2 ^ 8:Nat):Int)=((x / 2 ^ 8:Nat):Int):=C4p (by omega) (by omega)
   have w16:IntKind.wrap .i64 ((0:Int)+8)=8:=wrap64 (by omega) (by omega)
   simp only [↓Sh.dn,sx,Nat.reduceBEq,reduceCtorEq,Nat.reduceEqDiff,d2,d3,C0k,s2,w16,w8]
   refine B4r Tryz.underlying9 (by kernel_rfl) hlt fun u u1 u2 u3=>?_
   have wu:IntKind.wrap .i64 (u:Int)=(u:Int):=wrap64 (by omega) (by omega)
   have ws:IntKind.wrap .i64 ((8:Int)+(u:Int))=((8+u:Nat):Int):=by rw [wrap64 (by omega) (by omega)]; rfl
   simp only [↓Sh.dn,sx,Nat.reduceBEq,reduceCtorEq,Nat.reduceEqDiff,wu,ws,hres]
   exact ⟨8+u,rfl,C7s (by omega) (by omega) rfl (by omega) u1 u2 u3⟩
  ·have d3:decide ((256:Int)≤(x:Int))=false:=by simp; omega
   have w8:IntKind.wrap .u8 (x:Int)=(x:Int):=C4p (by omega) (by omega)
   simp only [↓Sh.dn,sx,Nat.reduceBEq,reduceCtorEq,Nat.reduceEqDiff,d2,d3,w8]
   refine B4r Tryz.underlying9 (by kernel_rfl) (by omega) fun u u1 u2 u3=>?_
   have wu:IntKind.wrap .i64 (u:Int)=(u:Int):=wrap64 (by omega) (by omega)
   have ws:IntKind.wrap .i64 ((0:Int)+(u:Int))=(u:Int):=by rw [wrap64 (by omega) (by omega)]; omega
   simp only [↓Sh.dn,sx,Nat.reduceBEq,reduceCtorEq,Nat.reduceEqDiff,wu,ws,hres]
   exact ⟨u,rfl,u1,u2,by omega⟩
theorem bitsLen {H:AH} {x:Nat} (hx:x < 16777216):Sh.Call Tryz.prog (knows 7) 116 [.int .u64 (x:Int)] H (fun r H'=>H'=H∧∃ c:Nat,r=.int .i64 (c:Int)∧C8e x c):=by
 refine A3a rfl Tryz.func116 rfl (Nat.le_of_ble_eq_true rfl) ?_
 have hres:Tryz.f116.results.toList=[.tmp 2]:=rfl
 obtain ⟨r,H1,hd,rfl,c,rfl,hc⟩:=C1l (H:=H) hx
 simp only [↓Sh.dn,sx,Nat.reduceBEq,reduceCtorEq,Nat.reduceEqDiff]
 refine ⟨_,_,hd,?_⟩
 simp only [↓Sh.dn,sx,Nat.reduceBEq,reduceCtorEq,Nat.reduceEqDiff,hres]
 exact ⟨c,rfl,hc⟩
theorem C0z {H:AH} {x:Nat} (hx:x < 16777216):Sh.Call Tryz.prog (knows 7) 138 [.int .i64 (x:Int)] H (fun r H'=>H'=H∧∃ c:Nat,r=.int .u64 ((2 ^ c:Nat):Int)∧C8e x c):=by
 refine A3a rfl Tryz.func138 rfl (Nat.le_of_ble_eq_true rfl) ?_
 have hres:Tryz.f138.results.toList=[.tmp 2]:=rfl
 have w:IntKind.wrap .u64 (x:Int)=(x:Int):=A3w (by omega) (by omega)
 obtain ⟨r,H1,hd,rfl,c,rfl,hc⟩:=bitsLen (H:=H) hx
 simp only [↓Sh.dn,sx,Nat.reduceBEq,reduceCtorEq,Nat.reduceEqDiff,w]
 refine ⟨_,_,hd,?_⟩
 have sh:A8l true .u64 1 (c:Int)=some (.int .u64 ((2 ^ c:Nat):Int)):=shl_one (by have:=hc.2.2; omega)
 simp only [↓Sh.dn,sx,Nat.reduceBEq,reduceCtorEq,Nat.reduceEqDiff,C7y,sh,hres]
 exact ⟨c,rfl,hc⟩
end Go.Proofs.YtcgbiedfbacgpaaGreat
/- breakPatternsOrdered. -/
namespace Go.Proofs.YtcgbiedfbacgpaaGreat
open Go Go.Proofs Go.Proofs.Sh
section
variable {H:AH} {g k n cap a b:Nat} {l:List Int}
theorem C5j {p:Nat} {z:Int} (hp:Arr H p 0 1 [.int .u64 z]) (hw:Wf H):
  Sh.Call Tryz.prog (knows 7) 139 [.pointer (some ⟨p,0,some 0⟩)] H (fun r H'=>∃ z',r=.int .u64 z'∧Arr H' p 0 1 [.int .u64 z']∧Chg (fun y=>y=p) H H'):=by
 refine A3a rfl Tryz.func139 rfl (Nat.le_of_ble_eq_true rfl) ?_
 have hres:Tryz.f139.results.toList=[.tmp 2]:=rfl
 have st:∀ (H:AH) (z:Int),A3e Tryz.prog 168 H (.int .u64 z) (.pointer (some ⟨p,0,some 0⟩))=H.write ⟨p,0,some 0⟩ [.int .u64 z]:=fun H z=>A4d A3z rfl
 obtain ⟨s1,h1⟩:∃ s,A8l true .u64 z 13=some (.int .u64 s):=A9z (b:=13)
 have r0:H.cell ⟨p,0,some 0⟩=some (.int .u64 z):=hp.cell 0
 obtain ⟨K1,e1,a1,n1,c1⟩:=hp.write hw (i:=0) (vs:=[.int .u64 (IntKind.wrap .u64 ((BitVec.ofInt IntKind.u64.bits z) ^^^ (BitVec.ofInt IntKind.u64.bits s1)).toNat)]) (by simp)
 simp only [↓Sh.dn,sx,Nat.reduceBEq,reduceCtorEq,Nat.reduceEqDiff]
 refine (A1b (by kernel_rfl)).2 ?_
 simp only [↓Sh.dn,sx,Nat.reduceBEq,reduceCtorEq,Nat.reduceEqDiff,r0,C7y,h1,C9j,st,e1]
 generalize IntKind.wrap .u64 ((BitVec.ofInt IntKind.u64.bits z) ^^^ (BitVec.ofInt IntKind.u64.bits s1)).toNat=z1 at a1 e1 ⊢
 obtain ⟨s2,h2⟩:∃ s,A8l false .u64 z1 7=some (.int .u64 s):=A9z (b:=7)
 have r1:K1.cell ⟨p,0,some 0⟩=some (.int .u64 z1):=a1.cell 0
 obtain ⟨K2,e2,a2,n2,c2⟩:=a1.write c1.wf (i:=0) (vs:=[.int .u64 (IntKind.wrap .u64 ((BitVec.ofInt IntKind.u64.bits z1) ^^^ (BitVec.ofInt IntKind.u64.bits s2)).toNat)]) (by simp [setCells])
 refine (A1b (by kernel_rfl)).2 ?_
 simp only [↓Sh.dn,sx,Nat.reduceBEq,reduceCtorEq,Nat.reduceEqDiff,r1,C0k,h2,C9j,st,e2]
 generalize IntKind.wrap .u64 ((BitVec.ofInt IntKind.u64.bits z1) ^^^ (BitVec.ofInt IntKind.u64.bits s2)).toNat=z2 at a2 e2 ⊢
 obtain ⟨s3,h3⟩:∃ s,A8l true .u64 z2 17=some (.int .u64 s):=A9z (b:=17)
 have r2:K2.cell ⟨p,0,some 0⟩=some (.int .u64 z2):=a2.cell 0
 obtain ⟨K3,e3,a3,n3,c3⟩:=a2.write c2.wf (i:=0) (vs:=[.int .u64 (IntKind.wrap .u64 ((BitVec.ofInt IntKind.u64.bits z2) ^^^ (BitVec.ofInt IntKind.u64.bits s3)).toNat)]) (by simp [setCells])
 refine (A1b (by kernel_rfl)).2 ?_
 simp only [↓Sh.dn,sx,Nat.reduceBEq,reduceCtorEq,Nat.reduceEqDiff,r2,C7y,h3,C9j,st,e3]
 generalize IntKind.wrap .u64 ((BitVec.ofInt IntKind.u64.bits z2) ^^^ (BitVec.ofInt IntKind.u64.bits s3)).toNat=z3 at a3 e3 ⊢
 have r3:K3.cell ⟨p,0,some 0⟩=some (.int .u64 z3):=a3.cell 0
 simp only [↓Sh.dn,sx,Nat.reduceBEq,reduceCtorEq,Nat.reduceEqDiff,r3,hres]
 exact ⟨z3,rfl,a3,(c1.trans c2).trans c3⟩
theorem A89 (hv:A2e H g k n l) (hw:Wf H) (hl:l.length≤1048576) (hab:a+12 < b) (hb:b≤l.length):
  Sh.Call Tryz.prog (knows 7) 120 [.slice (some ⟨g,0,some k⟩) l.length cap,.int .i64 (a:Int),.int .i64 (b:Int)] H
   (fun r H'=>∃ l',Mix a b l l'∧A2e H' g k n l'∧Chg (fun y=>y=g) H H'):=by
 refine A3a rfl Tryz.func120 rfl (Nat.le_of_ble_eq_true rfl) ?_
 have hres:Tryz.f120.results.toList=[]:=rfl
 have w0:IntKind.wrap .i64 ((b:Int) - (a:Int))=((b - a:Nat):Int):=by rw [wrap64 (by omega) (by omega)]; omega
 have d8:decide ((8:Int)≤((b - a:Nat):Int))=true:=by simp; omega
 have wu:IntKind.wrap .u64 ((b - a:Nat):Int)=((b - a:Nat):Int):=A3w (by omega) (by omega)
 have al:anew Tryz.prog 168 H (.int .u64 0)=some (.pointer (some ⟨H.next,0,some 0⟩),(H.new 1 [.int .u64 0]).2):=A60 A3z rfl
 have st:∀ (H:AH) (p:Addr) (z:Int),A3e Tryz.prog 168 H (.int .u64 z) (.pointer (some p))=H.write p [.int .u64 z]:=fun H p z=>A4d A3z rfl
 have ov:(H.new 1 [.int .u64 0]).2.write ⟨H.next,0,some 0⟩ [.int .u64 ((b - a:Nat):Int)]=some (H.new 1 [.int .u64 ((b - a:Nat):Int)]).2:=A2r rfl
 have hq4:(Int.tdiv ((b - a:Nat):Int) 4)=(((b - a) / 4:Nat):Int):=by rw [Int.tdiv_eq_ediv_of_nonneg (by omega)]; rfl
 have wq:IntKind.wrap .i64 (((b - a) / 4:Nat):Int)=(((b - a) / 4:Nat):Int):=wrap64 (by omega) (by omega)
 have m2:IntKind.wrap .i64 ((((b - a) / 4:Nat):Int) * 2)=(((b - a) / 4 * 2:Nat):Int):=by rw [wrap64 (by omega) (by omega)]; omega
 have p2:IntKind.wrap .i64 ((a:Int)+(((b - a) / 4 * 2:Nat):Int))=((a+(b - a) / 4 * 2:Nat):Int):=by rw [wrap64 (by omega) (by omega)]; rfl
 have q1:IntKind.wrap .i64 (((a+(b - a) / 4 * 2:Nat):Int) - 1)=((a+(b - a) / 4 * 2 - 1:Nat):Int):=by rw [wrap64 (by omega) (by omega)]; omega
 have q2:IntKind.wrap .i64 (((a+(b - a) / 4 * 2:Nat):Int)+1)=((a+(b - a) / 4 * 2+1:Nat):Int):=by rw [wrap64 (by omega) (by omega)]; rfl
 have hk1:Kept H (H.new 1 [.int .u64 ((b - a:Nat):Int)]).2:=Kept.new hw 1 _
 have hp0:Arr (H.new 1 [.int .u64 ((b - a:Nat):Int)]).2 H.next 0 1 [.int .u64 ((b - a:Nat):Int)]:=(Obj.new (H:=H) 1 _).arr
 have hv0:=hv.kept hw hk1
 have hpg:H.next≠g:=by have:=hv.lt hw; omega
 simp only [↓Sh.dn,sx,Nat.reduceBEq,reduceCtorEq,Nat.reduceEqDiff,w0,d8,wu,al,st,ov]
 generalize (H.new 1 [.int .u64 ((b - a:Nat):Int)]).2=H1 at hk1 hv0 hp0 ⊢
 obtain ⟨r,H2,hd,rfl,c,rfl,hc1,hc2,hc3⟩:=C0z (H:=H1) (x:=b - a) (by omega)
 refine ⟨_,_,hd,?_⟩
 simp only [↓Sh.dn,sx,Nat.reduceBEq,reduceCtorEq,Nat.reduceEqDiff,w0,A80 (show (4:Int)≠0 by decide),hq4,wq,m2,p2,q1]
 have hc2':=hc2 (by omega)
 have hpos:0 < 2 ^ c:=Nat.two_pow_pos c
 have wc:IntKind.wrap .u64 (((2 ^ c:Nat):Int) - 1)=((2 ^ c - 1:Nat):Int):=by
  rw [A3w (by omega) (by omega)]; omega
 generalize hM:2 ^ c=M at *
 refine A4b (fun m F H' => ∃ (i : Nat) (z : Int) (l1 : List Int), m = a + (b - a) / 4 * 2 + 2 - i ∧ a + (b - a) / 4 * 2 - 1 ≤ i ∧ Mix a b l l1 ∧ A2e H' g k n l1 ∧ Arr H' H.next 0 1 [.int .u64 z] ∧ Chg (fun y => y = g ∨ y = H.next) H2 H' ∧
     F.get 0 = some (.slice (some ⟨g, 0, some k⟩) l.length cap) ∧ F.get 1 = some (.int .i64 (a : Int)) ∧ F.get 6 = some (.int .i64 ((b - a : Nat) : Int)) ∧ F.get 7 = some (.pointer (some ⟨H.next, 0, some 0⟩)) ∧ F.get 8 = some (.int .u64 (M : Int)) ∧ F.get 9 = some (.int .i64 (i : Int))) (m := a + (b - a) / 4 * 2 + 2 - (a + (b - a) / 4 * 2 - 1))
   ⟨a + (b - a) / 4 * 2 - 1, _, l, rfl, by omega, .refl l, hv0, hp0, Chg.refl hk1.wf, by simp only [↓Sh.dn, sx, Nat.reduceBEq, reduceCtorEq, Nat.reduceEqDiff], by simp only [↓Sh.dn, sx, Nat.reduceBEq, reduceCtorEq, Nat.reduceEqDiff], by simp only [↓Sh.dn, sx, Nat.reduceBEq, reduceCtorEq, Nat.reduceEqDiff], by simp only [↓Sh.dn, sx, Nat.reduceBEq, reduceCtorEq, Nat.reduceEqDiff], by simp only [↓Sh.dn, sx, Nat.reduceBEq, reduceCtorEq, Nat.reduceEqDiff], by simp only [↓Sh.dn, sx, Nat.reduceBEq, reduceCtorEq, Nat.reduceEqDiff]⟩ ?_
 rintro m F H' ⟨i,z,l1,rfl,hai,hm,hv1,hp1,hch,f0,f1,f6,f7,f8,f9⟩ kk
 have hlen:=hm.length
 by_cases hlt:i≤a+(b - a) / 4 * 2+1
 ·have dl:decide ((i:Int)≤((a+(b - a) / 4 * 2+1:Nat):Int))=true:=by simp; omega
  obtain ⟨r,H3,hd3,z',rfl,hp2,hc3'⟩:=C5j hp1 hch.wf
  have hv2:=hv1.chg hch.wf hc3' (fun h=>hpg h.symm)
  obtain ⟨o,ho1,ho2⟩:=and_le z' (m:=M - 1) (by omega)
  have wo:IntKind.wrap .i64 (o:Int)=(o:Int):=wrap64 (by omega) (by omega)
  simp only [↓Sh.dn,sx,Nat.reduceBEq,reduceCtorEq,Nat.reduceEqDiff,f1,f6,f9,A80 (show (4:Int)≠0 by decide),hq4,wq,m2,p2,q2,dl,f7]
  refine ⟨_,_,hd3,?_⟩
  simp only [↓Sh.dn,sx,Nat.reduceBEq,reduceCtorEq,Nat.reduceEqDiff,f8,wc,b_and,ho2,wo,f6]
  have key:∀ (o':Nat) (F':Fr),o' < b - a→F'.get 0=some (.slice (some ⟨g,0,some k⟩) l.length cap)→F'.get 1=some (.int .i64 (a:Int))→F'.get 6=some (.int .i64 ((b - a:Nat):Int))→F'.get 7=some (.pointer (some ⟨H.next,0,some 0⟩))→F'.get 8=some (.int .u64 (M:Int))→F'.get 9=some (.int .i64 (i:Int))→F'.get 10=some (.int .i64 (o':Int))→True:=fun _ _ _ _ _ _ _ _ _ _=>trivial
  have wi:IntKind.wrap .i64 ((i:Int)+1)=((i+1:Nat):Int):=by rw [wrap64 (by omega) (by omega)]; rfl
  by_cases hbig:b - a≤o
  ·have db:decide (((b - a:Nat):Int)≤(o:Int))=true:=by simp; omega
   have ws:IntKind.wrap .i64 ((o:Int) - ((b - a:Nat):Int))=((o - (b - a):Nat):Int):=by rw [wrap64 (by omega) (by omega)]; omega
   have wa:IntKind.wrap .i64 ((a:Int)+((o - (b - a):Nat):Int))=((a+(o - (b - a)):Nat):Int):=by rw [wrap64 (by omega) (by omega)]; rfl
   have hi:i < l1.length:=by omega
   have hj:a+(o - (b - a)) < l1.length:=by omega
   have i1:=A9c (g:=g) (k:=k) (cap:=cap) (m:=l.length) (i:=i) (j:=.i64) (by omega)
   have i2:=A9c (g:=g) (k:=k) (cap:=cap) (m:=l.length) (i:=a+(o - (b - a))) (j:=.i64) (by omega)
   have r1:=A6c hv2 hi
   have r2:=A6c hv2 hj
   obtain ⟨K1,K2,e1,e2,e3,e4,e5⟩:=A6j hv2 hc3'.wf hi hj
   simp only [↓Sh.dn,sx,Nat.reduceBEq,reduceCtorEq,Nat.reduceEqDiff,db,f6,ws]
   refine (A1b (by kernel_rfl)).2 ?_
   simp only [↓Sh.dn,sx,Nat.reduceBEq,reduceCtorEq,Nat.reduceEqDiff,f0,f1,f9,wa,i1,i2,r1,r2,A9m,e1,e2,wi]
   exact kk (a+(b - a) / 4 * 2+2 - (i+1)) _ _ (by omega) ⟨i+1,z',swp l1 i (a+(o - (b - a))),rfl,by omega,hm.swap (by omega) (by omega) (by omega) (by omega),e3,hp2.keep (e4.old _ (hp2.lt hc3'.wf) hpg),(hch.trans (hc3'.weak fun _ h=>.inr h)).trans (e4.weak fun _ h=>.inl h),by simp only [↓Sh.dn,sx,Nat.reduceBEq,reduceCtorEq,Nat.reduceEqDiff,f0],by simp only [↓Sh.dn,sx,Nat.reduceBEq,reduceCtorEq,Nat.reduceEqDiff,f1],by simp only [↓Sh.dn,sx,Nat.reduceBEq,reduceCtorEq,Nat.reduceEqDiff,f6],by simp only [↓Sh.dn,sx,Nat.reduceBEq,reduceCtorEq,Nat.reduceEqDiff,f7],by simp only [↓Sh.dn,sx,Nat.reduceBEq,reduceCtorEq,Nat.reduceEqDiff,f8],by simp only [↓Sh.dn,sx,Nat.reduceBEq,reduceCtorEq,Nat.reduceEqDiff]⟩
  ·have db:decide (((b - a:Nat):Int)≤(o:Int))=false:=by simp; omega
   have wa:IntKind.wrap .i64 ((a:Int)+(o:Int))=((a+o:Nat):Int):=by rw [wrap64 (by omega) (by omega)]; rfl
   have hi:i < l1.length:=by omega
   have hj:a+o < l1.length:=by omega
   have i1:=A9c (g:=g) (k:=k) (cap:=cap) (m:=l.length) (i:=i) (j:=.i64) (by omega)
   have i2:=A9c (g:=g) (k:=k) (cap:=cap) (m:=l.length) (i:=a+o) (j:=.i64) (by omega)
   have r1:=A6c hv2 hi
   have r2:=A6c hv2 hj
   obtain ⟨K1,K2,e1,e2,e3,e4,e5⟩:=A6j hv2 hc3'.wf hi hj
   simp only [↓Sh.dn,sx,Nat.reduceBEq,reduceCtorEq,Nat.reduceEqDiff,db]
   refine (A1b (by kernel_rfl)).2 ?_
   simp only [↓Sh.dn,sx,Nat.reduceBEq,reduceCtorEq,Nat.reduceEqDiff,f0,f1,f9,wa,i1,i2,r1,r2,A9m,e1,e2,wi]
   exact kk (a+(b - a) / 4 * 2+2 - (i+1)) _ _ (by omega) ⟨i+1,z',swp l1 i (a+o),rfl,by omega,hm.swap (by omega) (by omega) (by omega) (by omega),e3,hp2.keep (e4.old _ (hp2.lt hc3'.wf) hpg),(hch.trans (hc3'.weak fun _ h=>.inr h)).trans (e4.weak fun _ h=>.inl h),by simp only [↓Sh.dn,sx,Nat.reduceBEq,reduceCtorEq,Nat.reduceEqDiff,f0],by simp only [↓Sh.dn,sx,Nat.reduceBEq,reduceCtorEq,Nat.reduceEqDiff,f1],by simp only [↓Sh.dn,sx,Nat.reduceBEq,reduceCtorEq,Nat.reduceEqDiff,f6],by simp only [↓Sh.dn,sx,Nat.reduceBEq,reduceCtorEq,Nat.reduceEqDiff,f7],by simp only [↓Sh.dn,sx,Nat.reduceBEq,reduceCtorEq,Nat.reduceEqDiff,f8],by simp only [↓Sh.dn,sx,Nat.reduceBEq,reduceCtorEq,Nat.reduceEqDiff]⟩
 ·have dl:decide ((i:Int)≤((a+(b - a) / 4 * 2+1:Nat):Int))=false:=by simp; omega
  simp only [↓Sh.dn,sx,Nat.reduceBEq,reduceCtorEq,Nat.reduceEqDiff,f1,f6,f9,A80 (show (4:Int)≠0 by decide),hq4,wq,m2,p2,q2,dl,hres]
  refine ⟨l1,hm,hv1,?_⟩
  exact ⟨fun x hx hxg=>(hch.old x (Nat.lt_of_lt_of_le hx hk1.next) (fun h=>by rcases h with h | h; exact hxg h; omega)).trans (hk1.old x hx),Nat.le_trans hk1.next hch.next,hch.wf⟩
end
end Go.Proofs.YtcgbiedfbacgpaaGreat
/- siftDownOrdered, heapSortOrdered. -/
namespace Go.Proofs.YtcgbiedfbacgpaaGreat
open Go Go.Proofs Go.Proofs.Sh
def A77 (l:List Int) (f lo hi:Nat):Prop:=∀ (q r:Nat) x y,lo≤r→(q=2 * r+1∨q=2 * r+2)→q < hi→l[f+r]?=some x→l[f+q]?=some y→A4c x y=false
theorem C2j {l:List Int} {f hi:Nat} (h:A77 l f 0 hi) (hl:f+hi≤l.length):∀ (q:Nat) x y,q < hi→l[f]?=some x→l[f+q]?=some y→A4c x y=false:=by
 intro q
 induction q using Nat.strongRecOn with
 | _ q ih=>
  intro x y hq hx hy
  by_cases h0:q=0
  ·subst h0
   rw [Nat.add_zero,hx] at hy
   rw [← Option.some.inj hy]; exact intTO.irrefl x
  ·have hr:(q - 1) / 2 < q:=by omega
   have hz:l[f+(q - 1) / 2]?=some (l[f+(q - 1) / 2]'(by omega)):=List.getElem?_eq_getElem (by omega)
   exact intTO.le_trans (h q ((q - 1) / 2) _ _ (Nat.zero_le _) (by omega) hq hz hy) (ih _ hr x _ (by omega) hx hz)
section
variable {H:AH} {g k n cap:Nat} {l:List Int}
theorem B7f {lo hi f:Nat} (hv:A2e H g k n l) (hw:Wf H) (hl:l.length≤1048576) (hlo:lo≤hi) (hb:f+hi≤l.length) (hh:A77 l f (lo+1) hi):
  Sh.Call Tryz.prog (knows 7) 137 [.slice (some ⟨g,0,some k⟩) l.length cap,.int .i64 (lo:Int),.int .i64 (hi:Int),.int .i64 (f:Int)] H
   (fun r H'=>∃ l',Mix (f+lo) (f+hi) l l'∧A77 l' f lo hi∧A2e H' g k n l'∧Chg (fun y=>y=g) H H'):=by
 refine A3a rfl Tryz.func137 rfl (Nat.le_of_ble_eq_true rfl) ?_
 have hres:Tryz.f137.results.toList=[]:=rfl
 have hTO:=intTO
 simp only [↓Sh.dn,sx,Nat.reduceBEq,reduceCtorEq,Nat.reduceEqDiff]
 refine A4b (fun m F H' => ∃ (r : Nat) (l1 : List Int), m = hi - r ∧ lo ≤ r ∧ r ≤ hi ∧ Mix (f + lo) (f + hi) l l1 ∧
     (∀ (q p : Nat) x y, lo ≤ p → p ≠ r → (q = 2 * p + 1 ∨ q = 2 * p + 2) → q < hi → l1[f + p]? = some x → l1[f + q]? = some y → A4c x y = false) ∧
     (∀ (q p : Nat) x y, lo ≤ p → (r = 2 * p + 1 ∨ r = 2 * p + 2) → (q = 2 * r + 1 ∨ q = 2 * r + 2) → q < hi → l1[f + p]? = some x → l1[f + q]? = some y → A4c x y = false) ∧
     A2e H' g k n l1 ∧ Chg (fun y => y = g) H H' ∧
     F.get 0 = some (.slice (some ⟨g, 0, some k⟩) l.length cap) ∧ F.get 2 = some (.int .i64 (hi : Int)) ∧ F.get 3 = some (.int .i64 (f : Int)) ∧ F.get 8 = some (.int .i64 (r : Int))) (m := hi - lo)
   ⟨lo, l, rfl, Nat.le_refl _, hlo, .refl l, fun q p x y h1 h2 h3 h4 hx hy => hh q p x y (by omega) h3 h4 hx hy, fun q p x y h1 h2 => by omega, hv, Chg.refl hw, by simp only [↓Sh.dn, sx, Nat.reduceBEq, reduceCtorEq, Nat.reduceEqDiff], by simp only [↓Sh.dn, sx, Nat.reduceBEq, reduceCtorEq, Nat.reduceEqDiff], by simp only [↓Sh.dn, sx, Nat.reduceBEq, reduceCtorEq, Nat.reduceEqDiff], by simp only [↓Sh.dn, sx, Nat.reduceBEq, reduceCtorEq, Nat.reduceEqDiff]⟩ ?_
 rintro m F H' ⟨r,l1,rfl,hr,hrh,hm,hA,hB,hv1,hc1,f0,f2,f3,f8⟩ kk
 have hlen:=hm.length
 have w1:IntKind.wrap .i64 ((2:Int) * (r:Int))=((2 * r:Nat):Int):=by rw [wrap64 (by omega) (by omega)]; rfl
 have w2:IntKind.wrap .i64 (((2 * r:Nat):Int)+1)=((2 * r+1:Nat):Int):=by rw [wrap64 (by omega) (by omega)]; rfl
 have w3:IntKind.wrap .i64 (((2 * r+1:Nat):Int)+1)=((2 * r+1+1:Nat):Int):=by rw [wrap64 (by omega) (by omega)]; rfl
 simp only [↓Sh.dn,sx,Nat.reduceBEq,reduceCtorEq,Nat.reduceEqDiff,f2,f8,w1,w2]
 by_cases hend:hi≤2 * r+1
 ·have d:decide ((hi:Int)≤((2 * r+1:Nat):Int))=true:=by simp; omega
  simp only [↓Sh.dn,sx,Nat.reduceBEq,reduceCtorEq,Nat.reduceEqDiff,d,hres]
  exact ⟨l1,hm,fun q p x y h1 h2 h3 hx hy=>hA q p x y h1 (by omega) h2 h3 hx hy,hv1,hc1⟩
 have d:decide ((hi:Int)≤((2 * r+1:Nat):Int))=false:=by simp; omega
 simp only [↓Sh.dn,sx,Nat.reduceBEq,reduceCtorEq,Nat.reduceEqDiff,d]
 have jr:f+r < l1.length:=by omega
 have ir:=A9c (g:=g) (k:=k) (cap:=cap) (m:=l.length) (i:=f+r) (j:=.i64) (by omega)
 have gr:=A6c hv1 jr
 have qr:l1[f+r]?=some l1[f+r]:=List.getElem?_eq_getElem jr
 have wfr:IntKind.wrap .i64 ((f:Int)+(r:Int))=((f+r:Nat):Int):=by rw [wrap64 (by omega) (by omega)]; rfl
 refine B4g (fun F' H2=>H2=H'∧F'.get 0=some (.slice (some ⟨g,0,some k⟩) l.length cap)∧F'.get 2=some (.int .i64 (hi:Int))∧F'.get 3=some (.int .i64 (f:Int))∧F'.get 8=some (.int .i64 (r:Int))∧F'.get 9=some (.int .i64 ((2 * r+1:Nat):Int))∧
  ∃ bb:Bool,F'.get 36=some (.bool bb)∧(bb=true→2 * r+2 < hi∧∀ y z,l1[f+(2 * r+1)]?=some y→l1[f+(2 * r+2)]?=some z→A4c y z=true)∧(bb=false→2 * r+2 < hi→∀ y z,l1[f+(2 * r+1)]?=some y→l1[f+(2 * r+2)]?=some z→A4c y z=false)) rfl ?_ ?_
 ·refine (A1b (by kernel_rfl)).2 ?_
  by_cases h2:2 * r+1+1 < hi
  ·have j1:f+(2 * r+1) < l1.length:=by omega
   have j2:f+(2 * r+1)+1 < l1.length:=by omega
   have i1:=A9c (g:=g) (k:=k) (cap:=cap) (m:=l.length) (i:=f+(2 * r+1)) (j:=.i64) (by omega)
   have i2:=A9c (g:=g) (k:=k) (cap:=cap) (m:=l.length) (i:=f+(2 * r+1)+1) (j:=.i64) (by omega)
   have g1:=A6c hv1 j1
   have g2:=A6c hv1 j2
   have u1:IntKind.wrap .i64 ((f:Int)+((2 * r+1:Nat):Int))=((f+(2 * r+1):Nat):Int):=by rw [wrap64 (by omega) (by omega)]; rfl
   have u2:IntKind.wrap .i64 (((f+(2 * r+1):Nat):Int)+1)=((f+(2 * r+1)+1:Nat):Int):=by rw [wrap64 (by omega) (by omega)]; rfl
   simp only [↓Sh.dn,sx,Nat.reduceBEq,reduceCtorEq,Nat.reduceEqDiff,f0,f2,f3,w3,A1a,h2,decide_true,u1,u2,i1,i2,g1,g2]
   refine ⟨_,_,A8d,?_⟩
   simp only [↓Sh.dn,sx,Nat.reduceBEq,reduceCtorEq,Nat.reduceEqDiff,f0,f2,f3,f8]
   have e1:l1[f+(2 * r+1)]?=some l1[f+(2 * r+1)]:=List.getElem?_eq_getElem j1
   have e2:l1[f+(2 * r+2)]?=some l1[f+(2 * r+1)+1]:=List.getElem?_eq_getElem j2
   refine ⟨fun hb y z hy hz=>?_,fun hb y z hy hz=>?_⟩
   ·rw [e1] at hy; rw [e2] at hz; rw [← Option.some.inj hy,← Option.some.inj hz]; exact hb
   ·rw [e1] at hy; rw [e2] at hz; rw [← Option.some.inj hy,← Option.some.inj hz]; exact hb
  ·simp only [↓Sh.dn,sx,Nat.reduceBEq,reduceCtorEq,Nat.reduceEqDiff,f0,f2,f3,f8,w3,A1a,h2,decide_false]
   try (refine fun h=>by omega)
 rintro F1 H2 ⟨rfl,x0,x2,x3,x8,x9,bb,x36,hb1,hb2⟩
 refine B6j (fun F' H3=>H3=H2∧F'.get 0=some (.slice (some ⟨g,0,some k⟩) l.length cap)∧F'.get 2=some (.int .i64 (hi:Int))∧F'.get 3=some (.int .i64 (f:Int))∧F'.get 8=some (.int .i64 (r:Int))∧
  ∃ c:Nat,F'.get 9=some (.int .i64 (c:Int))∧(c=2 * r+1∨c=2 * r+2)∧c < hi∧(∀ (q:Nat) y z,(q=2 * r+1∨q=2 * r+2)→q < hi→l1[f+c]?=some y→l1[f+q]?=some z→A4c y z=false)) rfl ?_ ?_
 ·cases bb with
  | true=>
   obtain ⟨h1,h2⟩:=hb1 rfl
   simp only [↓Sh.dn,sx,Nat.reduceBEq,reduceCtorEq,Nat.reduceEqDiff,x0,x2,x3,x8,x9,x36,w3]
   refine ⟨2 * r+2,rfl,.inr rfl,h1,fun q y z hq hqh hy hz=>?_⟩
   rcases hq with rfl | rfl
   ·exact hTO.asymm (h2 z y hz hy)
   ·rw [hy] at hz; rw [← Option.some.inj hz]; exact hTO.irrefl y
  | false=>
   simp only [↓Sh.dn,sx,Nat.reduceBEq,reduceCtorEq,Nat.reduceEqDiff,x0,x2,x3,x8,x9,x36]
   refine ⟨2 * r+1,rfl,.inl rfl,by omega,fun q y z hq hqh hy hz=>?_⟩
   rcases hq with rfl | rfl
   ·rw [hy] at hz; rw [← Option.some.inj hz]; exact hTO.irrefl y
   ·exact hb2 rfl hqh y z hy hz
 rintro F' H3 ⟨rfl,g0,g2,g3,g8,c,g9,hc,hch,hmax⟩
 have jc:f+c < l1.length:=by omega
 have ic:=A9c (g:=g) (k:=k) (cap:=cap) (m:=l.length) (i:=f+c) (j:=.i64) (by omega)
 have gc:=A6c hv1 jc
 have qc:l1[f+c]?=some l1[f+c]:=List.getElem?_eq_getElem jc
 have wfc:IntKind.wrap .i64 ((f:Int)+(c:Int))=((f+c:Nat):Int):=by rw [wrap64 (by omega) (by omega)]; rfl
 simp only [↓Sh.dn,sx,Nat.reduceBEq,reduceCtorEq,Nat.reduceEqDiff]
 refine (A1b (by kernel_rfl)).2 ?_
 simp only [↓Sh.dn,sx,Nat.reduceBEq,reduceCtorEq,Nat.reduceEqDiff,g0,g3,g8,g9,wfr,wfc,ir,ic,gr,gc]
 refine ⟨_,_,A8d,?_⟩
 cases hlt:A4c l1[f+r] l1[f+c] with
 | false=>
  simp only [↓Sh.dn,sx,Nat.reduceBEq,reduceCtorEq,Nat.reduceEqDiff,hres]
  refine ⟨l1,hm,fun q p x y h1 h2 h3 hx hy=>?_,hv1,hc1⟩
  by_cases hp:p=r
  ·subst hp
   rw [qr] at hx
   rw [← Option.some.inj hx]
   exact hTO.le_trans (hmax q _ _ h2 h3 qc hy) hlt
  ·exact hA q p x y h1 hp h2 h3 hx hy
 | true=>
  obtain ⟨K1,K2,e1,e2,e3,e4,e5⟩:=A6j hv1 hc1.wf jr jc
  simp only [↓Sh.dn,sx,Nat.reduceBEq,reduceCtorEq,Nat.reduceEqDiff]
  refine (A1b (by kernel_rfl)).2 ?_
  simp only [↓Sh.dn,sx,Nat.reduceBEq,reduceCtorEq,Nat.reduceEqDiff,g0,g3,g8,g9,wfr,wfc,ir,ic,gr,gc,A9m,e1,e2]
  refine kk (hi - c) _ _ (by omega) ⟨c,swp l1 (f+r) (f+c),rfl,by omega,by omega,hm.swap (by omega) (by omega) (by omega) (by omega),fun q p x y h1 h2 h3 h4 hx hy=>?_,fun q p x y h1 h2 h3 h4 hx hy=>?_,e3,hc1.trans e4,by simp only [↓Sh.dn,sx,Nat.reduceBEq,reduceCtorEq,Nat.reduceEqDiff,g0],by simp only [↓Sh.dn,sx,Nat.reduceBEq,reduceCtorEq,Nat.reduceEqDiff,g2],by simp only [↓Sh.dn,sx,Nat.reduceBEq,reduceCtorEq,Nat.reduceEqDiff,g3],by simp only [↓Sh.dn,sx,Nat.reduceBEq,reduceCtorEq,Nat.reduceEqDiff]⟩
  ·rw [swp_get jr jc] at hx hy
   by_cases hp:p=r
   ·subst hp
    rw [if_neg (by omega),if_pos rfl,qc] at hx
    rw [← Option.some.inj hx]
    by_cases hq:q=c
    ·subst hq
     rw [if_pos rfl,qr] at hy
     rw [← Option.some.inj hy]; exact hTO.asymm hlt
    ·rw [if_neg (by omega),if_neg (by omega)] at hy
     exact hmax q _ _ h3 h4 qc hy
   ·rw [if_neg (by omega),if_neg (by omega)] at hx
    by_cases hq:q=r
    ·subst hq
     rw [if_neg (by omega),if_pos rfl] at hy
     exact hB c p x _ h1 (by omega) hc hch hx hy
    ·by_cases hq2:q=c
     ·omega
     ·rw [if_neg (by omega),if_neg (by omega)] at hy
      exact hA q p x y h1 hp h3 h4 hx hy
  ·have hpr:p=r:=by omega
   subst hpr
   rw [swp_get jr jc] at hx hy
   rw [if_neg (by omega),if_pos rfl,qc] at hx
   rw [if_neg (by omega),if_neg (by omega)] at hy
   rw [← Option.some.inj hx]
   exact hA q c _ _ (by omega) (by omega) h3 h4 qc hy
theorem B14 {a b:Nat} (hv:A2e H g k n l) (hw:Wf H) (hl:l.length≤1048576) (hab:a < b) (hb:b≤l.length):
  Sh.Call Tryz.prog (knows 7) 119 [.slice (some ⟨g,0,some k⟩) l.length cap,.int .i64 (a:Int),.int .i64 (b:Int)] H
   (fun r H'=>∃ l',Mix a b l l'∧Srt A4c a b l'∧A2e H' g k n l'∧Chg (fun y=>y=g) H H'):=by
 refine A3a rfl Tryz.func119 rfl (Nat.le_of_ble_eq_true rfl) ?_
 have hres:Tryz.f119.results.toList=[]:=rfl
 have hTO:=intTO
 obtain ⟨hi,rfl⟩:∃ hi,b=a+hi:=⟨b - a,by omega⟩
 have w0:IntKind.wrap .i64 (((a+hi:Nat):Int) - (a:Int))=(hi:Int):=by rw [wrap64 (by omega) (by omega)]; omega
 have w1:IntKind.wrap .i64 ((hi:Int) - 1)=((hi - 1:Nat):Int):=by rw [wrap64 (by omega) (by omega)]; omega
 have hq2:(Int.tdiv ((hi - 1:Nat):Int) 2)=(((hi - 1) / 2:Nat):Int):=by rw [Int.tdiv_eq_ediv_of_nonneg (by omega)]; rfl
 have wq:IntKind.wrap .i64 (((hi - 1) / 2:Nat):Int)=(((hi - 1) / 2:Nat):Int):=wrap64 (by omega) (by omega)
 simp only [↓Sh.dn,sx,Nat.reduceBEq,reduceCtorEq,Nat.reduceEqDiff,w0,w1,A80 (show (2:Int)≠0 by decide),hq2,wq]
 refine A90 (fun F' H2 => ∃ l1 : List Int, Mix a (a + hi) l l1 ∧ A77 l1 a 0 hi ∧ A2e H2 g k n l1 ∧ Chg (fun y => y = g) H H2 ∧
     F'.get 0 = some (.slice (some ⟨g, 0, some k⟩) l.length cap) ∧ F'.get 6 = some (.int .i64 (a : Int)) ∧ F'.get 7 = some (.int .i64 0) ∧ F'.get 8 = some (.int .i64 (hi : Int))) (by rfl) ?_ ?_
 ·refine A4b (fun m F H' => ∃ l1 : List Int, m ≤ (hi - 1) / 2 + 1 ∧ Mix a (a + hi) l l1 ∧ A77 l1 a m hi ∧ A2e H' g k n l1 ∧ Chg (fun y => y = g) H H' ∧
    F.get 0 = some (.slice (some ⟨g, 0, some k⟩) l.length cap) ∧ F.get 6 = some (.int .i64 (a : Int)) ∧ F.get 7 = some (.int .i64 0) ∧ F.get 8 = some (.int .i64 (hi : Int)) ∧ F.get 9 = some (.int .i64 ((m : Int) - 1))) (m := (hi - 1) / 2 + 1)
    ⟨l, Nat.le_refl _, .refl l, fun q r x y h1 h2 h3 => by omega, hv, Chg.refl hw, by simp only [↓Sh.dn, sx, Nat.reduceBEq, reduceCtorEq, Nat.reduceEqDiff], by simp only [↓Sh.dn, sx, Nat.reduceBEq, reduceCtorEq, Nat.reduceEqDiff], by simp only [↓Sh.dn, sx, Nat.reduceBEq, reduceCtorEq, Nat.reduceEqDiff], by simp only [↓Sh.dn, sx, Nat.reduceBEq, reduceCtorEq, Nat.reduceEqDiff], by simp only [↓Sh.dn, sx, Nat.reduceBEq, reduceCtorEq, Nat.reduceEqDiff]; congr 2; omega⟩ ?_
  rintro m F H' ⟨l1, hmh, hm, hh, hv1, hc1, f0, f6, f7, f8, f9⟩ kk
  have hlen := hm.length
  cases m with
  | zero =>
    have d : decide ((0 : Int) ≤ ((0 : Nat) : Int) - 1) = false := by simp
    simp only [↓Sh.dn, sx, Nat.reduceBEq, reduceCtorEq, Nat.reduceEqDiff, f9, d, f0, f6, f7, f8]
    exact ⟨l1, hm, hh, hv1, hc1⟩
  | succ m =>
    have e9 : ((m + 1 : Nat) : Int) - 1 = (m : Int) := by omega
    rw [e9] at f9
    have d : decide ((0 : Int) ≤ (m : Int)) = true := by simp
    obtain ⟨r, H2, hd, l2, hm2, hh2, hv2, hc2⟩ := B7f (cap := cap) (lo := m) (hi := hi) (f := a) hv1 hc1.wf (by omega) (by omega) (by omega) hh
    have wm : IntKind.wrap .i64 ((m : Int) - 1) = (m : Int) - 1 := wrap64 (by omega) (by omega)
    rw [hlen] at hd
    simp only [↓Sh.dn, sx, Nat.reduceBEq, reduceCtorEq, Nat.reduceEqDiff, f9, d, f0, f6, f8]
    refine ⟨_, _, hd, ?_⟩
    simp only [↓Sh.dn, sx, Nat.reduceBEq, reduceCtorEq, Nat.reduceEqDiff, f9, wm]
    exact kk m _ _ (by omega) ⟨l2, by omega, hm.trans (hm2.wide (by omega) (Nat.le_refl _)), hh2, hv2, hc1.trans hc2, by simp only [↓Sh.dn, sx, Nat.reduceBEq, reduceCtorEq, Nat.reduceEqDiff, f0], by simp only [↓Sh.dn, sx, Nat.reduceBEq, reduceCtorEq, Nat.reduceEqDiff, f6], by simp only [↓Sh.dn, sx, Nat.reduceBEq, reduceCtorEq, Nat.reduceEqDiff, f7], by simp only [↓Sh.dn, sx, Nat.reduceBEq, reduceCtorEq, Nat.reduceEqDiff, f8], by simp only [↓Sh.dn, sx, Nat.reduceBEq, reduceCtorEq, Nat.reduceEqDiff]⟩
 rintro F1 H1 ⟨l1,hm1,hh1,hv1,hc1,f0,f6,f7,f8⟩
 have hlen1:=hm1.length
 simp only [↓Sh.dn,sx,Nat.reduceBEq,reduceCtorEq,Nat.reduceEqDiff,f8,w1]
 refine A4b (fun m F H' => ∃ l2 : List Int, m ≤ hi ∧ Mix a (a + hi) l l2 ∧ A77 l2 a 0 m ∧ (∀ (p q : Nat) x y, p < q → m ≤ q → q < hi → l2[a + p]? = some x → l2[a + q]? = some y → A4c y x = false) ∧ A2e H' g k n l2 ∧ Chg (fun y => y = g) H H' ∧
     F.get 0 = some (.slice (some ⟨g, 0, some k⟩) l.length cap) ∧ F.get 6 = some (.int .i64 (a : Int)) ∧ F.get 7 = some (.int .i64 0) ∧ F.get 10 = some (.int .i64 ((m : Int) - 1))) (m := hi)
   ⟨l1, Nat.le_refl _, hm1, hh1, fun p q x y h1 h2 h3 => by omega, hv1, hc1, by simp only [↓Sh.dn, sx, Nat.reduceBEq, reduceCtorEq, Nat.reduceEqDiff, f0], by simp only [↓Sh.dn, sx, Nat.reduceBEq, reduceCtorEq, Nat.reduceEqDiff, f6], by simp only [↓Sh.dn, sx, Nat.reduceBEq, reduceCtorEq, Nat.reduceEqDiff, f7], by simp only [↓Sh.dn, sx, Nat.reduceBEq, reduceCtorEq, Nat.reduceEqDiff]; congr 2; omega⟩ ?_
 rintro m F H' ⟨l2,hmh,hm,hh,hT,hv2,hc2,f0,f6,f7,f10⟩ kk
 have hlen:=hm.length
 cases m with
 | zero=>
  have d:decide ((0:Int)≤((0:Nat):Int) - 1)=false:=by simp
  simp only [↓Sh.dn,sx,Nat.reduceBEq,reduceCtorEq,Nat.reduceEqDiff,f10,d,hres]
  refine ⟨l2,hm,fun i j x y h1 h2 h3 hx hy=>?_,hv2,hc2⟩
  by_cases hij:i=j
  ·subst hij
   rw [hx] at hy
   rw [← Option.some.inj hy]; exact hTO.irrefl x
  ·exact hT (i - a) (j - a) x y (by omega) (Nat.zero_le _) (by omega) (by rw [show a+(i - a)=i by omega]; exact hx) (by rw [show a+(j - a)=j by omega]; exact hy)
 | succ m=>
  have e10:((m+1:Nat):Int) - 1=(m:Int):=by omega
  rw [e10] at f10
  have d:decide ((0:Int)≤(m:Int))=true:=by simp
  have ja:a < l2.length:=by omega
  have jm:a+m < l2.length:=by omega
  have i1:=A9c (g:=g) (k:=k) (cap:=cap) (m:=l.length) (i:=a) (j:=.i64) (by omega)
  have i2:=A9c (g:=g) (k:=k) (cap:=cap) (m:=l.length) (i:=a+m) (j:=.i64) (by omega)
  have g1:=A6c hv2 ja
  have g2:=A6c hv2 jm
  have wam:IntKind.wrap .i64 ((a:Int)+(m:Int))=((a+m:Nat):Int):=by rw [wrap64 (by omega) (by omega)]; rfl
  have wm:IntKind.wrap .i64 ((m:Int) - 1)=(m:Int) - 1:=wrap64 (by omega) (by omega)
  obtain ⟨K1,K2,e1,e2,e3,e4,e5⟩:=A6j hv2 hc2.wf ja jm
  have hsw:Mix a (a+(m+1)) l2 (swp l2 a (a+m)):=(Mix.refl l2).swap (by omega) (by omega) (by omega) (by omega)
  obtain ⟨r,H3,hd,l3,hm3,hh3,hv3,hc3⟩:=B7f (cap:=cap) (lo:=0) (hi:=m) (f:=a) e3 e4.wf (by rw [A7q]; omega) (by omega) (by rw [A7q]; omega) (fun q p x y h1 h2 h3 hx hy=>by
   rw [swp_get ja jm,if_neg (by omega),if_neg (by omega)] at hx hy
   exact hh q p x y (Nat.zero_le _) h2 (by omega) hx hy)
  rw [A7q,hlen] at hd
  have hmix:Mix a (a+(m+1)) l2 l3:=hsw.trans (hm3.wide (by omega) (by omega))
  have hl3:=hmix.length
  simp only [↓Sh.dn,sx,Nat.reduceBEq,reduceCtorEq,Nat.reduceEqDiff,f10,d]
  refine (A1b (by kernel_rfl)).2 ?_
  simp only [↓Sh.dn,sx,Nat.reduceBEq,reduceCtorEq,Nat.reduceEqDiff,f0,f6,f7,f10,wam,i1,i2,g1,g2,A9m,e1,e2]
  refine ⟨_,_,hd,?_⟩
  simp only [↓Sh.dn,sx,Nat.reduceBEq,reduceCtorEq,Nat.reduceEqDiff,f10,wm]
  have qa:l2[a]?=some l2[a]:=List.getElem?_eq_getElem ja
  refine kk m _ _ (by omega) ⟨l3,by omega,hm.trans (hmix.wide (Nat.le_refl _) (by omega)),hh3,fun p q x y h1 h2 h3 hx hy=>?_,hv3,(hc2.trans e4).trans hc3,by simp only [↓Sh.dn,sx,Nat.reduceBEq,reduceCtorEq,Nat.reduceEqDiff,f0],by simp only [↓Sh.dn,sx,Nat.reduceBEq,reduceCtorEq,Nat.reduceEqDiff,f6],by simp only [↓Sh.dn,sx,Nat.reduceBEq,reduceCtorEq,Nat.reduceEqDiff,f7],by simp only [↓Sh.dn,sx,Nat.reduceBEq,reduceCtorEq,Nat.reduceEqDiff]⟩
  by_cases hq:q=m
  ·subst hq
   have hy':l3[a+q]?=some l2[a]:=by
    rw [hm3.out (.inr (by omega)),swp_get ja jm,if_pos rfl,qa]
   rw [hy'] at hy
   rw [← Option.some.inj hy]
   refine hmix.all (p:=fun x=>A4c l2[a] x=false) (by omega) (fun i z hi1 hi2 hz=>?_) (a+p) x (by omega) (by omega) hx
   exact C2j hh (by omega) (i - a) _ _ (by omega) qa (by rw [show a+(i - a)=i by omega]; exact hz)
  ·have hyq:l2[a+q]?=some y:=by rw [← hmix.out (.inr (by omega))]; exact hy
   by_cases hp:p≤m
   ·refine hmix.all (p:=fun x=>A4c y x=false) (by omega) (fun i z hi1 hi2 hz=>?_) (a+p) x (by omega) (by omega) hx
    exact hT (i - a) q z y (by omega) (by omega) h3 (by rw [show a+(i - a)=i by omega]; exact hz) hyq
   ·have hxp:l2[a+p]?=some x:=by rw [← hmix.out (.inr (by omega))]; exact hx
    exact hT p q x y h1 (by omega) h3 hxp hyq
end
end Go.Proofs.YtcgbiedfbacgpaaGreat
/- partitionOrdered, partitionEqualOrdered. -/
namespace Go.Proofs.YtcgbiedfbacgpaaGreat
open Go Go.Proofs Go.Proofs.Sh
section
variable {H:AH} {g k n cap a b:Nat} {l:List Int}
theorem B51 {p:Nat} (hv:A2e H g k n l) (hw:Wf H) (hl:l.length≤1048576) (hap:a≤p) (hpb:p < b) (hb:b≤l.length):
  Sh.Call Tryz.prog (knows 7) 126 [.slice (some ⟨g,0,some k⟩) l.length cap,.int .i64 (a:Int),.int .i64 (b:Int),.int .i64 (p:Int)] H
   (fun r H'=>∃ (m:Nat) (al:Bool),r=.tuple #[.int .i64 (m:Int),.bool al]∧a≤m∧m < b∧∃ l':List Int,Mix a b l l'∧∃ y,l'[m]?=some y∧(∀ (q:Nat) x,a≤q→q < m→l'[q]?=some x→A4c x y=true)∧(∀ (q:Nat) x,m < q→q < b→l'[q]?=some x→A4c x y=false)∧A2e H' g k n l'∧Chg (fun y=>y=g) H H'):=by
 refine A3a rfl Tryz.func126 rfl (Nat.le_of_ble_eq_true rfl) ?_
 have hTO:=intTO
 have ja:a < l.length:=by omega
 have jp:p < l.length:=by omega
 have ia:=A9c (g:=g) (k:=k) (cap:=cap) (m:=l.length) (i:=a) (j:=.i64) ja
 have ip:=A9c (g:=g) (k:=k) (cap:=cap) (m:=l.length) (i:=p) (j:=.i64) jp
 have xa:=A6c hv ja
 have xp:=A6c hv jp
 have wa:IntKind.wrap .i64 ((a:Int)+1)=((a+1:Nat):Int):=by rw [wrap64 (by omega) (by omega)]; rfl
 have wb:IntKind.wrap .i64 ((b:Int) - 1)=((b - 1:Nat):Int):=by rw [wrap64 (by omega) (by omega)]; omega
 obtain ⟨K1,H1,e1,e2,hv1,hc1,e5⟩:=A6j hv hw ja jp
 have hm1:Mix a b l (swp l a p):=(Mix.refl l).swap (by omega) (by omega) (by omega) (by omega)
 simp only [↓Sh.dn,sx,Nat.reduceBEq,reduceCtorEq,Nat.reduceEqDiff]
 refine (A1b (by kernel_rfl)).2 ?_
 simp only [↓Sh.dn,sx,Nat.reduceBEq,reduceCtorEq,Nat.reduceEqDiff,ia,ip,xa,xp,A9m,e1,e2,wa,wb]
 have hpa:(swp l a p)[a]?=some l[p]:=by
  rw [swp_get ja jp]
  by_cases h:a=p
  ·rw [if_pos h,List.getElem?_eq_getElem ja]; simp only [h]
  ·rw [if_neg h,if_pos rfl]; exact List.getElem?_eq_getElem jp
 generalize l[p]=pv at hpa xp e1
 generalize hL0:swp l a p=l1 at hpa hm1 hv1
 have hlen:=hm1.length
 have xa:H1.cell ⟨g,a,some k⟩=some (Value.int .i64 pv):=hv1.cell (by simp [hpa])
 have hres:Tryz.f126.results.toList=[.tmp 8,.tmp 9]:=rfl
 have last : ∀ (l1 : List Int) (H' : AH) (i j : Nat), Mix a b l l1 → l1[a]? = some pv → a ≤ j → j < b → (∀ (q : Nat) x, a + 1 ≤ q → q ≤ j → l1[q]? = some x → A4c x pv = true) → (∀ (q : Nat) x, j < q → q < b → l1[q]? = some x → A4c x pv = false) →
     Mix a b l (swp l1 j a) ∧ (swp l1 j a)[j]? = some pv ∧ (∀ (q : Nat) x, a ≤ q → q < j → (swp l1 j a)[q]? = some x → A4c x pv = true) ∧ (∀ (q : Nat) x, j < q → q < b → (swp l1 j a)[q]? = some x → A4c x pv = false) := by
   intro l1 H' i j hm hp hj hjb h1 h2
   have hlen := hm.length
   have jj : j < l1.length := by omega
   have ja : a < l1.length := by omega
   refine ⟨hm.swap (by omega) (by omega) (by omega) (by omega), ?_, fun q x hq1 hq2 hx => ?_, fun q x hq1 hq2 hx => ?_⟩
   · rw [swp_get jj ja]
     by_cases h : j = a
     · rw [if_pos h, h]; exact hp
     · rw [if_neg h, if_pos rfl]; exact hp
   · rw [swp_get jj ja] at hx
     by_cases h : q = a
     · rw [if_pos h] at hx; exact h1 j x (by omega) (Nat.le_refl _) hx
     · rw [if_neg h, if_neg (by omega)] at hx; exact h1 q x (by omega) (by omega) hx
   · rw [swp_get jj ja, if_neg (by omega), if_neg (by omega)] at hx
     exact h2 q x hq1 hq2 hx
 obtain ⟨MF1,hMF1⟩:∃ M:Fr→AH→Prop,M=fun F' H9=>H1=H9∧∃ v:Nat,F'.get 0=some (.slice (some ⟨g,0,some k⟩) l.length cap)∧F'.get 1=some (.int .i64 (a:Int))∧F'.get 10=some (.int .i64 ((v:Nat):Int))∧F'.get 11=some (.int .i64 (((b - 1):Nat):Int))∧(a+1)≤v∧v≤(b - 1)+1∧(∀ (q:Nat) x,(a+1)≤q→q < v→l1[q]?=some x→A4c x pv=true)∧(v≤(b - 1)→∀ x,l1[v]?=some x→A4c x pv=false):=⟨_,rfl⟩
 refine A90 MF1 (by rfl) ?_ ?_
 ·refine A4b (fun m F' H9 => H1 = H9 ∧ ∃ v : Nat, m = (b - 1) + 1 - v ∧ F'.get 0 = some (.slice (some ⟨g, 0, some k⟩) l.length cap) ∧ F'.get 1 = some (.int .i64 (a : Int)) ∧ F'.get 10 = some (.int .i64 ((v : Nat) : Int)) ∧ F'.get 11 = some (.int .i64 (((b - 1) : Nat) : Int)) ∧ (a + 1) ≤ v ∧ v ≤ (b - 1) + 1 ∧ (∀ (q : Nat) x, (a + 1) ≤ q → q < v → l1[q]? = some x → A4c x pv = true)) (m := (b - 1) + 1 - (a + 1))
    ⟨rfl, (a + 1), rfl, by simp only [↓Sh.dn, sx, Nat.reduceBEq, reduceCtorEq, Nat.reduceEqDiff, true_and], by simp only [↓Sh.dn, sx, Nat.reduceBEq, reduceCtorEq, Nat.reduceEqDiff, true_and], by simp only [↓Sh.dn, sx, Nat.reduceBEq, reduceCtorEq, Nat.reduceEqDiff, true_and], by simp only [↓Sh.dn, sx, Nat.reduceBEq, reduceCtorEq, Nat.reduceEqDiff, true_and], by omega, by omega, fun q x h1 h2 => by omega⟩ ?_
  rintro m F' H9 ⟨rfl, v, rfl, g0, g1, gi, gj, h1, h2, h3⟩ k2
  simp only [↓Sh.dn, sx, Nat.reduceBEq, reduceCtorEq, Nat.reduceEqDiff]
  refine (A1b (by kernel_rfl)).2 ?_
  by_cases hle : v ≤ (b - 1)
  · have jv : v < l1.length := by omega
    have iv := A9c (g := g) (k := k) (cap := cap) (m := l.length) (i := v) (j := .i64) (by omega)
    have xv := A6c hv1 jv
    have qv : l1[v]? = some l1[v] := List.getElem?_eq_getElem jv
    have wv : IntKind.wrap .i64 ((v : Int) + 1) = ((v + 1 : Nat) : Int) := by rw [wrap64 (by omega) (by omega)]; rfl
    simp only [↓Sh.dn, sx, Nat.reduceBEq, reduceCtorEq, Nat.reduceEqDiff, g0, g1, gi, gj, A7l, hle, decide_true, iv, ia, xv, xa]
    refine ⟨_, _, A8d, ?_⟩
    cases hlt : A4c l1[v] pv with
    | true =>
      simp only [↓Sh.dn, sx, Nat.reduceBEq, reduceCtorEq, Nat.reduceEqDiff, g0, g1, gi, gj, wv]
      refine k2 ((b - 1) + 1 - (v + 1)) _ _ (by omega) ⟨rfl, v + 1, rfl, by simp only [↓Sh.dn, sx, Nat.reduceBEq, reduceCtorEq, Nat.reduceEqDiff, g0], by simp only [↓Sh.dn, sx, Nat.reduceBEq, reduceCtorEq, Nat.reduceEqDiff, g1], by simp only [↓Sh.dn, sx, Nat.reduceBEq, reduceCtorEq, Nat.reduceEqDiff, gi], by simp only [↓Sh.dn, sx, Nat.reduceBEq, reduceCtorEq, Nat.reduceEqDiff, gj], by omega, by omega, fun q x hq1 hq2 hx => ?_⟩
      · by_cases hq : q = v
        · subst hq; rw [qv] at hx; rw [← Option.some.inj hx]; exact hlt
        · exact h3 q x (by omega) (by omega) hx
    | false =>
      simp only [↓Sh.dn, sx, Nat.reduceBEq, reduceCtorEq, Nat.reduceEqDiff, hMF1, g0, g1, gi, gj]
      exact ⟨v, rfl, h1, h2, h3, fun _ x hx => by rw [qv] at hx; rw [← Option.some.inj hx]; exact hlt⟩
  · simp only [↓Sh.dn, sx, Nat.reduceBEq, reduceCtorEq, Nat.reduceEqDiff, hMF1, g0, g1, gi, gj, A7l, hle, decide_false]
    exact ⟨v, rfl, h1, h2, h3, fun h => absurd h hle⟩
 intro F1 H9 h9
 rw [hMF1] at h9
 obtain ⟨rfl,i1,u0,u1,ui,uj,u5,u6,u7,u8⟩:=h9
 simp only [↓Sh.dn,sx,Nat.reduceBEq,reduceCtorEq,Nat.reduceEqDiff]
 obtain ⟨MF2,hMF2⟩:∃ M:Fr→AH→Prop,M=fun F' H9=>H1=H9∧∃ v:Nat,F'.get 0=some (.slice (some ⟨g,0,some k⟩) l.length cap)∧F'.get 1=some (.int .i64 (a:Int))∧F'.get 10=some (.int .i64 ((i1:Nat):Int))∧F'.get 11=some (.int .i64 ((v:Nat):Int))∧i1≤v+1∧v≤(b - 1)∧(∀ (q:Nat) x,v < q→q≤(b - 1)→l1[q]?=some x→A4c x pv=false)∧(i1≤v→∀ x,l1[v]?=some x→A4c x pv=true):=⟨_,rfl⟩
 refine A90 MF2 (by rfl) ?_ ?_
 ·refine A4b (fun m F' H9 => H1 = H9 ∧ ∃ v : Nat, m = v ∧ F'.get 0 = some (.slice (some ⟨g, 0, some k⟩) l.length cap) ∧ F'.get 1 = some (.int .i64 (a : Int)) ∧ F'.get 10 = some (.int .i64 ((i1 : Nat) : Int)) ∧ F'.get 11 = some (.int .i64 ((v : Nat) : Int)) ∧ i1 ≤ v + 1 ∧ v ≤ (b - 1) ∧ (∀ (q : Nat) x, v < q → q ≤ (b - 1) → l1[q]? = some x → A4c x pv = false)) (m := (b - 1))
    ⟨rfl, (b - 1), rfl, by simp only [↓Sh.dn, sx, Nat.reduceBEq, reduceCtorEq, Nat.reduceEqDiff, u0], by simp only [↓Sh.dn, sx, Nat.reduceBEq, reduceCtorEq, Nat.reduceEqDiff, u1], by simp only [↓Sh.dn, sx, Nat.reduceBEq, reduceCtorEq, Nat.reduceEqDiff, ui], by simp only [↓Sh.dn, sx, Nat.reduceBEq, reduceCtorEq, Nat.reduceEqDiff, uj], by omega, by omega, fun q x h1 h2 => by omega⟩ ?_
  rintro v F' H9 ⟨rfl, _, rfl, g0, g1, gi, gj, h1, h2, h3⟩ k2
  simp only [↓Sh.dn, sx, Nat.reduceBEq, reduceCtorEq, Nat.reduceEqDiff]
  refine (A1b (by kernel_rfl)).2 ?_
  by_cases hle : i1 ≤ v
  · have jv : v < l1.length := by omega
    have iv := A9c (g := g) (k := k) (cap := cap) (m := l.length) (i := v) (j := .i64) (by omega)
    have xv := A6c hv1 jv
    have qv : l1[v]? = some l1[v] := List.getElem?_eq_getElem jv
    have wv : IntKind.wrap .i64 ((v : Int) - 1) = ((v - 1 : Nat) : Int) := by rw [wrap64 (by omega) (by omega)]; omega
    simp only [↓Sh.dn, sx, Nat.reduceBEq, reduceCtorEq, Nat.reduceEqDiff, g0, g1, gi, gj, A7l, hle, decide_true, iv, ia, xv, xa]
    refine ⟨_, _, A8d, ?_⟩
    cases hlt : A4c l1[v] pv with
    | false =>
      simp only [↓Sh.dn, sx, Nat.reduceBEq, reduceCtorEq, Nat.reduceEqDiff, g0, g1, gi, gj, wv]
      refine k2 ((v - 1)) _ _ (by omega) ⟨rfl, v - 1, rfl, by simp only [↓Sh.dn, sx, Nat.reduceBEq, reduceCtorEq, Nat.reduceEqDiff, g0], by simp only [↓Sh.dn, sx, Nat.reduceBEq, reduceCtorEq, Nat.reduceEqDiff, g1], by simp only [↓Sh.dn, sx, Nat.reduceBEq, reduceCtorEq, Nat.reduceEqDiff, gi], by simp only [↓Sh.dn, sx, Nat.reduceBEq, reduceCtorEq, Nat.reduceEqDiff, gj], by omega, by omega, fun q x hq1 hq2 hx => ?_⟩
      · by_cases hq : q = v
        · subst hq; rw [qv] at hx; rw [← Option.some.inj hx]; exact hlt
        · exact h3 q x (by omega) (by omega) hx
    | true =>
      simp only [↓Sh.dn, sx, Nat.reduceBEq, reduceCtorEq, Nat.reduceEqDiff, hMF2, g0, g1, gi, gj]
      exact ⟨v, rfl, h1, h2, h3, fun _ x hx => by rw [qv] at hx; rw [← Option.some.inj hx]; exact hlt⟩
  · simp only [↓Sh.dn, sx, Nat.reduceBEq, reduceCtorEq, Nat.reduceEqDiff, hMF2, g0, g1, gi, gj, A7l, hle, decide_false]
    exact ⟨v, rfl, h1, h2, h3, fun h => absurd h hle⟩
 intro F2 H9 h9
 rw [hMF2] at h9
 obtain ⟨rfl,j1,w0,w1,wi,wj,w5,w6,w7,w8⟩:=h9
 simp only [↓Sh.dn,sx,Nat.reduceBEq,reduceCtorEq,Nat.reduceEqDiff,wi,wj,A1a]
 by_cases hgt:j1 < i1
 ·have jj:j1 < l1.length:=by omega
  have ja1:a < l1.length:=by omega
  have ij:=A9c (g:=g) (k:=k) (cap:=cap) (m:=l.length) (i:=j1) (j:=.i64) (by omega)
  have xj:=A6c hv1 jj
  have xa':=A6c hv1 ja1
  obtain ⟨L1,L2,d1,d2,hv2,hc2,d5⟩:=A6j hv1 hc1.wf jj ja1
  obtain ⟨p1,p2,p3,p4⟩:=last l1 H1 i1 j1 hm1 hpa (by omega) (by omega) (fun q x h1 h2 hx=>u7 q x h1 (by omega) hx) (fun q x h1 h2 hx=>w7 q x h1 (by omega) hx)
  simp only [↓Sh.dn,sx,Nat.reduceBEq,reduceCtorEq,Nat.reduceEqDiff,hgt,decide_true]
  refine (A1b (by kernel_rfl)).2 ?_
  simp only [↓Sh.dn,sx,Nat.reduceBEq,reduceCtorEq,Nat.reduceEqDiff,w0,w1,wi,wj,ij,ia,xj,xa',A9m,d1,d2,hres]
  exact ⟨j1,_,rfl,by omega,by omega,swp l1 j1 a,p1,pv,p2,p3,p4,hv2,hc1.trans hc2⟩
 simp only [↓Sh.dn,sx,Nat.reduceBEq,reduceCtorEq,Nat.reduceEqDiff,hgt,decide_false]
 have hij:i1 < j1:=by
  by_cases h:i1=j1
  ·have h1:=u8 (by omega)
   have h2:=w8 (by omega)
   obtain ⟨x,hx⟩:∃ x,l1[i1]?=some x:=⟨_,List.getElem?_eq_getElem (by omega)⟩
   have a1:=h1 x hx
   have a2:=h2 x (by rw [← h]; exact hx)
   rw [a1] at a2; cases a2
  ·omega
 have ji1:i1 < l1.length:=by omega
 have jj1:j1 < l1.length:=by omega
 have ii:=A9c (g:=g) (k:=k) (cap:=cap) (m:=l.length) (i:=i1) (j:=.i64) (by omega)
 have ij:=A9c (g:=g) (k:=k) (cap:=cap) (m:=l.length) (i:=j1) (j:=.i64) (by omega)
 have xi:=A6c hv1 ji1
 have xj:=A6c hv1 jj1
 have yi:IntKind.wrap .i64 ((i1:Int)+1)=((i1+1:Nat):Int):=by rw [wrap64 (by omega) (by omega)]; rfl
 have yj:IntKind.wrap .i64 ((j1:Int) - 1)=((j1 - 1:Nat):Int):=by rw [wrap64 (by omega) (by omega)]; omega
 obtain ⟨L1,L2,d1,d2,hv2,hc2,d5⟩:=A6j hv1 hc1.wf ji1 jj1
 refine (A1b (by kernel_rfl)).2 ?_
 simp only [↓Sh.dn,sx,Nat.reduceBEq,reduceCtorEq,Nat.reduceEqDiff,w0,w1,wi,wj,ii,ij,xi,xj,A9m,d1,d2,yi,yj]
 have pair : ∀ (l1 : List Int) (i0 i1 j0 j1 : Nat), l1.length = l.length → l1[a]? = some pv → a + 1 ≤ i0 → i0 ≤ i1 → i1 < j1 → j1 ≤ j0 → j0 < b → (∀ (q : Nat) x, a + 1 ≤ q → q < i1 → l1[q]? = some x → A4c x pv = true) → (∀ (q : Nat) x, j1 < q → q < b → l1[q]? = some x → A4c x pv = false) →
     (∀ x, l1[i1]? = some x → A4c x pv = false) → (∀ x, l1[j1]? = some x → A4c x pv = true) → (swp l1 i1 j1)[a]? = some pv ∧ (∀ (q : Nat) x, a + 1 ≤ q → q < i1 + 1 → (swp l1 i1 j1)[q]? = some x → A4c x pv = true) ∧ (∀ (q : Nat) x, j1 - 1 < q → q < b → (swp l1 i1 j1)[q]? = some x → A4c x pv = false) := by
   intro l1 i0 i1 j0 j1 hlen hp h1 h2 h3 h4 h5 hA hB hi hj
   have ji : i1 < l1.length := by omega
   have jj : j1 < l1.length := by omega
   refine ⟨by rw [swp_get ji jj, if_neg (by omega), if_neg (by omega)]; exact hp, fun q x hq1 hq2 hx => ?_, fun q x hq1 hq2 hx => ?_⟩
   · rw [swp_get ji jj, if_neg (by omega)] at hx
     by_cases h : q = i1
     · rw [if_pos h] at hx; exact hj x hx
     · rw [if_neg h] at hx; exact hA q x hq1 (by omega) hx
   · rw [swp_get ji jj] at hx
     by_cases h : q = j1
     · rw [if_pos h] at hx; exact hi x hx
     · rw [if_neg h, if_neg (by omega)] at hx; exact hB q x (by omega) hq2 hx
 obtain ⟨s1,s2,s3⟩:=pair l1 (a+1) i1 (b - 1) j1 (by omega) hpa (Nat.le_refl _) (by omega) hij (by omega) (by omega) u7 (fun q x h1 h2 hx=>w7 q x h1 (by omega) hx) (u8 (by omega)) (w8 (by omega))
 refine A4b (fun m F' H2 => ∃ (i j : Nat) (l1 : List Int), m = j + 1 - i ∧ a + 1 ≤ i ∧ i ≤ j + 1 ∧ j < b ∧ Mix a b l l1 ∧ l1[a]? = some pv ∧ (∀ (q : Nat) x, a + 1 ≤ q → q < i → l1[q]? = some x → A4c x pv = true) ∧ (∀ (q : Nat) x, j < q → q < b → l1[q]? = some x → A4c x pv = false) ∧ A2e H2 g k n l1 ∧ Chg (fun y => y = g) H H2 ∧
     F'.get 0 = some (.slice (some ⟨g, 0, some k⟩) l.length cap) ∧ F'.get 1 = some (.int .i64 (a : Int)) ∧ F'.get 10 = some (.int .i64 ((i : Nat) : Int)) ∧ F'.get 11 = some (.int .i64 ((j : Nat) : Int))) (m := j1 - 1 + 1 - (i1 + 1))
   ⟨i1 + 1, j1 - 1, swp l1 i1 j1, rfl, by omega, by omega, by omega, hm1.swap (by omega) (by omega) (by omega) (by omega), s1, s2, s3, hv2, hc1.trans hc2, by simp only [↓Sh.dn, sx, Nat.reduceBEq, reduceCtorEq, Nat.reduceEqDiff, w0], by simp only [↓Sh.dn, sx, Nat.reduceBEq, reduceCtorEq, Nat.reduceEqDiff, w1], by simp only [↓Sh.dn, sx, Nat.reduceBEq, reduceCtorEq, Nat.reduceEqDiff], by simp only [↓Sh.dn, sx, Nat.reduceBEq, reduceCtorEq, Nat.reduceEqDiff]⟩ ?_
 clear xa xi xj hpa hm1 hv1 hlen ji1 jj1 s1 s2 s3 hv2 d1 d2 u7 u8 w7 w8
 clear hL0
 rintro m F H2 ⟨i0,j0,l1,rfl,hi0,hij0,hj0,hm1,hpa,hA,hB,hv1,hc1,f0,f1,fi,fj⟩ kk
 have hlen:=hm1.length
 have xa:H2.cell ⟨g,a,some k⟩=some (Value.int .i64 pv):=hv1.cell (by simp [hpa])
 simp only [↓Sh.dn,sx,Nat.reduceBEq,reduceCtorEq,Nat.reduceEqDiff]
 obtain ⟨MF3,hMF3⟩:∃ M:Fr→AH→Prop,M=fun F' H9=>H2=H9∧∃ v:Nat,F'.get 0=some (.slice (some ⟨g,0,some k⟩) l.length cap)∧F'.get 1=some (.int .i64 (a:Int))∧F'.get 10=some (.int .i64 ((v:Nat):Int))∧F'.get 11=some (.int .i64 ((j0:Nat):Int))∧i0≤v∧v≤j0+1∧(∀ (q:Nat) x,i0≤q→q < v→l1[q]?=some x→A4c x pv=true)∧(v≤j0→∀ x,l1[v]?=some x→A4c x pv=false):=⟨_,rfl⟩
 refine A90 MF3 (by rfl) ?_ ?_
 ·refine A4b (fun m F' H9 => H2 = H9 ∧ ∃ v : Nat, m = j0 + 1 - v ∧ F'.get 0 = some (.slice (some ⟨g, 0, some k⟩) l.length cap) ∧ F'.get 1 = some (.int .i64 (a : Int)) ∧ F'.get 10 = some (.int .i64 ((v : Nat) : Int)) ∧ F'.get 11 = some (.int .i64 ((j0 : Nat) : Int)) ∧ i0 ≤ v ∧ v ≤ j0 + 1 ∧ (∀ (q : Nat) x, i0 ≤ q → q < v → l1[q]? = some x → A4c x pv = true)) (m := j0 + 1 - i0)
    ⟨rfl, i0, rfl, by simp only [↓Sh.dn, sx, Nat.reduceBEq, reduceCtorEq, Nat.reduceEqDiff, f0], by simp only [↓Sh.dn, sx, Nat.reduceBEq, reduceCtorEq, Nat.reduceEqDiff, f1], by simp only [↓Sh.dn, sx, Nat.reduceBEq, reduceCtorEq, Nat.reduceEqDiff, fi], by simp only [↓Sh.dn, sx, Nat.reduceBEq, reduceCtorEq, Nat.reduceEqDiff, fj], by omega, by omega, fun q x h1 h2 => by omega⟩ ?_
  rintro m F' H9 ⟨rfl, v, rfl, g0, g1, gi, gj, h1, h2, h3⟩ k2
  simp only [↓Sh.dn, sx, Nat.reduceBEq, reduceCtorEq, Nat.reduceEqDiff]
  refine (A1b (by kernel_rfl)).2 ?_
  by_cases hle : v ≤ j0
  · have jv : v < l1.length := by omega
    have iv := A9c (g := g) (k := k) (cap := cap) (m := l.length) (i := v) (j := .i64) (by omega)
    have xv := A6c hv1 jv
    have qv : l1[v]? = some l1[v] := List.getElem?_eq_getElem jv
    have wv : IntKind.wrap .i64 ((v : Int) + 1) = ((v + 1 : Nat) : Int) := by rw [wrap64 (by omega) (by omega)]; rfl
    simp only [↓Sh.dn, sx, Nat.reduceBEq, reduceCtorEq, Nat.reduceEqDiff, g0, g1, gi, gj, A7l, hle, decide_true, iv, ia, xv, xa]
    refine ⟨_, _, A8d, ?_⟩
    cases hlt : A4c l1[v] pv with
    | true =>
      simp only [↓Sh.dn, sx, Nat.reduceBEq, reduceCtorEq, Nat.reduceEqDiff, g0, g1, gi, gj, wv]
      refine k2 (j0 + 1 - (v + 1)) _ _ (by omega) ⟨rfl, v + 1, rfl, by simp only [↓Sh.dn, sx, Nat.reduceBEq, reduceCtorEq, Nat.reduceEqDiff, g0], by simp only [↓Sh.dn, sx, Nat.reduceBEq, reduceCtorEq, Nat.reduceEqDiff, g1], by simp only [↓Sh.dn, sx, Nat.reduceBEq, reduceCtorEq, Nat.reduceEqDiff, gi], by simp only [↓Sh.dn, sx, Nat.reduceBEq, reduceCtorEq, Nat.reduceEqDiff, gj], by omega, by omega, fun q x hq1 hq2 hx => ?_⟩
      · by_cases hq : q = v
        · subst hq; rw [qv] at hx; rw [← Option.some.inj hx]; exact hlt
        · exact h3 q x (by omega) (by omega) hx
    | false =>
      simp only [↓Sh.dn, sx, Nat.reduceBEq, reduceCtorEq, Nat.reduceEqDiff, hMF3, g0, g1, gi, gj]
      exact ⟨v, rfl, h1, h2, h3, fun _ x hx => by rw [qv] at hx; rw [← Option.some.inj hx]; exact hlt⟩
  · simp only [↓Sh.dn, sx, Nat.reduceBEq, reduceCtorEq, Nat.reduceEqDiff, hMF3, g0, g1, gi, gj, A7l, hle, decide_false]
    exact ⟨v, rfl, h1, h2, h3, fun h => absurd h hle⟩
 intro F3 H9 h9
 rw [hMF3] at h9
 obtain ⟨rfl,i2,u0,u1,ui,uj,u5,u6,u7,u8⟩:=h9
 simp only [↓Sh.dn,sx,Nat.reduceBEq,reduceCtorEq,Nat.reduceEqDiff]
 obtain ⟨MF4,hMF4⟩:∃ M:Fr→AH→Prop,M=fun F' H9=>H2=H9∧∃ v:Nat,F'.get 0=some (.slice (some ⟨g,0,some k⟩) l.length cap)∧F'.get 1=some (.int .i64 (a:Int))∧F'.get 10=some (.int .i64 ((i2:Nat):Int))∧F'.get 11=some (.int .i64 ((v:Nat):Int))∧i2≤v+1∧v≤j0∧(∀ (q:Nat) x,v < q→q≤j0→l1[q]?=some x→A4c x pv=false)∧(i2≤v→∀ x,l1[v]?=some x→A4c x pv=true):=⟨_,rfl⟩
 refine A90 MF4 (by rfl) ?_ ?_
 ·refine A4b (fun m F' H9 => H2 = H9 ∧ ∃ v : Nat, m = v ∧ F'.get 0 = some (.slice (some ⟨g, 0, some k⟩) l.length cap) ∧ F'.get 1 = some (.int .i64 (a : Int)) ∧ F'.get 10 = some (.int .i64 ((i2 : Nat) : Int)) ∧ F'.get 11 = some (.int .i64 ((v : Nat) : Int)) ∧ i2 ≤ v + 1 ∧ v ≤ j0 ∧ (∀ (q : Nat) x, v < q → q ≤ j0 → l1[q]? = some x → A4c x pv = false)) (m := j0)
    ⟨rfl, j0, rfl, by simp only [↓Sh.dn, sx, Nat.reduceBEq, reduceCtorEq, Nat.reduceEqDiff, u0], by simp only [↓Sh.dn, sx, Nat.reduceBEq, reduceCtorEq, Nat.reduceEqDiff, u1], by simp only [↓Sh.dn, sx, Nat.reduceBEq, reduceCtorEq, Nat.reduceEqDiff, ui], by simp only [↓Sh.dn, sx, Nat.reduceBEq, reduceCtorEq, Nat.reduceEqDiff, uj], by omega, by omega, fun q x h1 h2 => by omega⟩ ?_
  rintro v F' H9 ⟨rfl, _, rfl, g0, g1, gi, gj, h1, h2, h3⟩ k2
  simp only [↓Sh.dn, sx, Nat.reduceBEq, reduceCtorEq, Nat.reduceEqDiff]
  refine (A1b (by kernel_rfl)).2 ?_
  by_cases hle : i2 ≤ v
  · have jv : v < l1.length := by omega
    have iv := A9c (g := g) (k := k) (cap := cap) (m := l.length) (i := v) (j := .i64) (by omega)
    have xv := A6c hv1 jv
    have qv : l1[v]? = some l1[v] := List.getElem?_eq_getElem jv
    have wv : IntKind.wrap .i64 ((v : Int) - 1) = ((v - 1 : Nat) : Int) := by rw [wrap64 (by omega) (by omega)]; omega
    simp only [↓Sh.dn, sx, Nat.reduceBEq, reduceCtorEq, Nat.reduceEqDiff, g0, g1, gi, gj, A7l, hle, decide_true, iv, ia, xv, xa]
    refine ⟨_, _, A8d, ?_⟩
    cases hlt : A4c l1[v] pv with
    | false =>
      simp only [↓Sh.dn, sx, Nat.reduceBEq, reduceCtorEq, Nat.reduceEqDiff, g0, g1, gi, gj, wv]
      refine k2 ((v - 1)) _ _ (by omega) ⟨rfl, v - 1, rfl, by simp only [↓Sh.dn, sx, Nat.reduceBEq, reduceCtorEq, Nat.reduceEqDiff, g0], by simp only [↓Sh.dn, sx, Nat.reduceBEq, reduceCtorEq, Nat.reduceEqDiff, g1], by simp only [↓Sh.dn, sx, Nat.reduceBEq, reduceCtorEq, Nat.reduceEqDiff, gi], by simp only [↓Sh.dn, sx, Nat.reduceBEq, reduceCtorEq, Nat.reduceEqDiff, gj], by omega, by omega, fun q x hq1 hq2 hx => ?_⟩
      · by_cases hq : q = v
        · subst hq; rw [qv] at hx; rw [← Option.some.inj hx]; exact hlt
        · exact h3 q x (by omega) (by omega) hx
    | true =>
      simp only [↓Sh.dn, sx, Nat.reduceBEq, reduceCtorEq, Nat.reduceEqDiff, hMF4, g0, g1, gi, gj]
      exact ⟨v, rfl, h1, h2, h3, fun _ x hx => by rw [qv] at hx; rw [← Option.some.inj hx]; exact hlt⟩
  · simp only [↓Sh.dn, sx, Nat.reduceBEq, reduceCtorEq, Nat.reduceEqDiff, hMF4, g0, g1, gi, gj, A7l, hle, decide_false]
    exact ⟨v, rfl, h1, h2, h3, fun h => absurd h hle⟩
 intro F4 H9 h9
 rw [hMF4] at h9
 obtain ⟨rfl,j2,w0,w1,wi,wj,w5,w6,w7,w8⟩:=h9
 have hA2:∀ (q:Nat) x,a+1≤q→q < i2→l1[q]?=some x→A4c x pv=true:=by
  intro q x h1 h2 hx
  by_cases h:q < i0
  ·exact hA q x h1 h hx
  ·exact u7 q x (by omega) h2 hx
 have hB2:∀ (q:Nat) x,j2 < q→q < b→l1[q]?=some x→A4c x pv=false:=by
  intro q x h1 h2 hx
  by_cases h:j0 < q
  ·exact hB q x h h2 hx
  ·exact w7 q x h1 (by omega) hx
 simp only [↓Sh.dn,sx,Nat.reduceBEq,reduceCtorEq,Nat.reduceEqDiff,wi,wj,A1a]
 by_cases hgt:j2 < i2
 ·have jj:j2 < l1.length:=by omega
  have ja1:a < l1.length:=by omega
  have ij:=A9c (g:=g) (k:=k) (cap:=cap) (m:=l.length) (i:=j2) (j:=.i64) (by omega)
  have xj:=A6c hv1 jj
  have xa':=A6c hv1 ja1
  obtain ⟨L3,L4,d1,d2,hv2,hc2,d5⟩:=A6j hv1 hc1.wf jj ja1
  obtain ⟨p1,p2,p3,p4⟩:=last l1 H1 i2 j2 hm1 hpa (by omega) (by omega) (fun q x h1 h2 hx=>hA2 q x h1 (by omega) hx) (fun q x h1 h2 hx=>hB2 q x h1 h2 hx)
  simp only [↓Sh.dn,sx,Nat.reduceBEq,reduceCtorEq,Nat.reduceEqDiff,hgt,decide_true]
  refine (A1b (by kernel_rfl)).2 ?_
  simp only [↓Sh.dn,sx,Nat.reduceBEq,reduceCtorEq,Nat.reduceEqDiff,w0,w1,wi,wj,ij,ia,xj,xa',A9m,d1,d2,hres]
  exact ⟨j2,_,rfl,by omega,by omega,swp l1 j2 a,p1,pv,p2,p3,p4,hv2,hc1.trans hc2⟩
 simp only [↓Sh.dn,sx,Nat.reduceBEq,reduceCtorEq,Nat.reduceEqDiff,hgt,decide_false]
 have hij2:i2 < j2:=by
  by_cases h:i2=j2
  ·have h1:=u8 (by omega)
   have h2:=w8 (by omega)
   obtain ⟨x,hx⟩:∃ x,l1[i2]?=some x:=⟨_,List.getElem?_eq_getElem (by omega)⟩
   have a1:=h1 x hx
   have a2:=h2 x (by rw [← h]; exact hx)
   rw [a1] at a2; cases a2
  ·omega
 have ji1:i2 < l1.length:=by omega
 have jj1:j2 < l1.length:=by omega
 have ii2:=A9c (g:=g) (k:=k) (cap:=cap) (m:=l.length) (i:=i2) (j:=.i64) (by omega)
 have ij2:=A9c (g:=g) (k:=k) (cap:=cap) (m:=l.length) (i:=j2) (j:=.i64) (by omega)
 have xi:=A6c hv1 ji1
 have xj:=A6c hv1 jj1
 have yi2:IntKind.wrap .i64 ((i2:Int)+1)=((i2+1:Nat):Int):=by rw [wrap64 (by omega) (by omega)]; rfl
 have yj2:IntKind.wrap .i64 ((j2:Int) - 1)=((j2 - 1:Nat):Int):=by rw [wrap64 (by omega) (by omega)]; omega
 obtain ⟨L3,L4,d1,d2,hv2,hc2,d5⟩:=A6j hv1 hc1.wf ji1 jj1
 obtain ⟨s1,s2,s3⟩:=pair l1 i0 i2 j0 j2 (by omega) hpa hi0 (by omega) hij2 (by omega) (by omega) hA2 hB2 (u8 (by omega)) (w8 (by omega))
 refine (A1b (by kernel_rfl)).2 ?_
 simp only [↓Sh.dn,sx,Nat.reduceBEq,reduceCtorEq,Nat.reduceEqDiff,w0,w1,wi,wj,ii2,ij2,xi,xj,A9m,d1,d2,yi2,yj2]
 exact kk (j2 - 1+1 - (i2+1)) _ _ (by omega) ⟨i2+1,j2 - 1,swp l1 i2 j2,rfl,by omega,by omega,by omega,hm1.swap (by omega) (by omega) (by omega) (by omega),s1,s2,s3,hv2,hc1.trans hc2,by simp only [↓Sh.dn,sx,Nat.reduceBEq,reduceCtorEq,Nat.reduceEqDiff,w0],by simp only [↓Sh.dn,sx,Nat.reduceBEq,reduceCtorEq,Nat.reduceEqDiff,w1],by simp only [↓Sh.dn,sx,Nat.reduceBEq,reduceCtorEq,Nat.reduceEqDiff],by simp only [↓Sh.dn,sx,Nat.reduceBEq,reduceCtorEq,Nat.reduceEqDiff]⟩
theorem A56 {p:Nat} (hv:A2e H g k n l) (hw:Wf H) (hl:l.length≤1048576) (hap:a≤p) (hpb:p < b) (hb:b≤l.length):
  Sh.Call Tryz.prog (knows 7) 125 [.slice (some ⟨g,0,some k⟩) l.length cap,.int .i64 (a:Int),.int .i64 (b:Int),.int .i64 (p:Int)] H
   (fun r H'=>∃ m:Nat,r=.int .i64 (m:Int)∧a < m∧m≤b∧∃ l':List Int,Mix a b l l'∧(∀ (q:Nat) x,a≤q→q < m→l'[q]?=some x→A4c l[p] x=false)∧(∀ (q:Nat) x,m≤q→q < b→l'[q]?=some x→A4c l[p] x=true)∧A2e H' g k n l'∧Chg (fun y=>y=g) H H'):=by
 refine A3a rfl Tryz.func125 rfl (Nat.le_of_ble_eq_true rfl) ?_
 have hTO:=intTO
 have ja:a < l.length:=by omega
 have jp:p < l.length:=by omega
 have ia:=A9c (g:=g) (k:=k) (cap:=cap) (m:=l.length) (i:=a) (j:=.i64) ja
 have ip:=A9c (g:=g) (k:=k) (cap:=cap) (m:=l.length) (i:=p) (j:=.i64) jp
 have xa:=A6c hv ja
 have xp:=A6c hv jp
 have wa:IntKind.wrap .i64 ((a:Int)+1)=((a+1:Nat):Int):=by rw [wrap64 (by omega) (by omega)]; rfl
 have wb:IntKind.wrap .i64 ((b:Int) - 1)=((b - 1:Nat):Int):=by rw [wrap64 (by omega) (by omega)]; omega
 obtain ⟨K1,H1,e1,e2,hv1,hc1,e5⟩:=A6j hv hw ja jp
 have hm1:Mix a b l (swp l a p):=(Mix.refl l).swap (by omega) (by omega) (by omega) (by omega)
 simp only [↓Sh.dn,sx,Nat.reduceBEq,reduceCtorEq,Nat.reduceEqDiff]
 refine (A1b (by kernel_rfl)).2 ?_
 simp only [↓Sh.dn,sx,Nat.reduceBEq,reduceCtorEq,Nat.reduceEqDiff,ia,ip,xa,xp,A9m,e1,e2,wa,wb]
 have hpa:(swp l a p)[a]?=some l[p]:=by
  rw [swp_get ja jp]
  by_cases h:a=p
  ·rw [if_pos h,List.getElem?_eq_getElem ja]; simp only [h]
  ·rw [if_neg h,if_pos rfl]; exact List.getElem?_eq_getElem jp
 generalize l[p]=pv at hpa xp e1 ⊢
 generalize hL0:swp l a p=l0 at hpa hm1 hv1
 have hres:Tryz.f125.results.toList=[.tmp 8]:=rfl
 have pair : ∀ (l1 : List Int) (i1 j1 : Nat), l1.length = l.length → l1[a]? = some pv → a + 1 ≤ i1 → i1 < j1 → j1 < b → (∀ (q : Nat) x, a + 1 ≤ q → q < i1 → l1[q]? = some x → A4c pv x = false) → (∀ (q : Nat) x, j1 < q → q < b → l1[q]? = some x → A4c pv x = true) →
     (∀ x, l1[i1]? = some x → A4c pv x = true) → (∀ x, l1[j1]? = some x → A4c pv x = false) → (swp l1 i1 j1)[a]? = some pv ∧ (∀ (q : Nat) x, a + 1 ≤ q → q < i1 + 1 → (swp l1 i1 j1)[q]? = some x → A4c pv x = false) ∧ (∀ (q : Nat) x, j1 - 1 < q → q < b → (swp l1 i1 j1)[q]? = some x → A4c pv x = true) := by
   intro l1 i1 j1 hlen hp h1 h3 h5 hA hB hi hj
   have ji : i1 < l1.length := by omega
   have jj : j1 < l1.length := by omega
   refine ⟨by rw [swp_get ji jj, if_neg (by omega), if_neg (by omega)]; exact hp, fun q x hq1 hq2 hx => ?_, fun q x hq1 hq2 hx => ?_⟩
   · rw [swp_get ji jj, if_neg (by omega)] at hx
     by_cases h : q = i1
     · rw [if_pos h] at hx; exact hj x hx
     · rw [if_neg h] at hx; exact hA q x hq1 (by omega) hx
   · rw [swp_get ji jj] at hx
     by_cases h : q = j1
     · rw [if_pos h] at hx; exact hi x hx
     · rw [if_neg h, if_neg (by omega)] at hx; exact hB q x (by omega) hq2 hx
 refine A4b (fun m F' H2 => ∃ (i j : Nat) (l1 : List Int), m = j + 1 - i ∧ a + 1 ≤ i ∧ i ≤ j + 1 ∧ j < b ∧ Mix a b l l1 ∧ l1[a]? = some pv ∧ (∀ (q : Nat) x, a + 1 ≤ q → q < i → l1[q]? = some x → A4c pv x = false) ∧ (∀ (q : Nat) x, j < q → q < b → l1[q]? = some x → A4c pv x = true) ∧ A2e H2 g k n l1 ∧ Chg (fun y => y = g) H H2 ∧
     F'.get 0 = some (.slice (some ⟨g, 0, some k⟩) l.length cap) ∧ F'.get 1 = some (.int .i64 (a : Int)) ∧ F'.get 9 = some (.int .i64 ((i : Nat) : Int)) ∧ F'.get 10 = some (.int .i64 ((j : Nat) : Int))) (m := b - 1 + 1 - (a + 1))
   ⟨a + 1, b - 1, l0, rfl, by omega, by omega, by omega, hm1, hpa, fun q x h1 h2 => by omega, fun q x h1 h2 => by omega, hv1, hc1, by simp only [↓Sh.dn, sx, Nat.reduceBEq, reduceCtorEq, Nat.reduceEqDiff], by simp only [↓Sh.dn, sx, Nat.reduceBEq, reduceCtorEq, Nat.reduceEqDiff], by simp only [↓Sh.dn, sx, Nat.reduceBEq, reduceCtorEq, Nat.reduceEqDiff], by simp only [↓Sh.dn, sx, Nat.reduceBEq, reduceCtorEq, Nat.reduceEqDiff]⟩ ?_
 clear xa hpa hm1 hv1
 clear hL0
 rintro m F H2 ⟨i0,j0,l1,rfl,hi0,hij0,hj0,hm1,hpa,hA,hB,hv1,hc1,f0,f1,fi,fj⟩ kk
 have hlen:=hm1.length
 have xa:H2.cell ⟨g,a,some k⟩=some (Value.int .i64 pv):=hv1.cell (by simp [hpa])
 simp only [↓Sh.dn,sx,Nat.reduceBEq,reduceCtorEq,Nat.reduceEqDiff]
 obtain ⟨MF3,hMF3⟩:∃ M:Fr→AH→Prop,M=fun F' H9=>H2=H9∧∃ v:Nat,F'.get 0=some (.slice (some ⟨g,0,some k⟩) l.length cap)∧F'.get 1=some (.int .i64 (a:Int))∧F'.get 9=some (.int .i64 ((v:Nat):Int))∧F'.get 10=some (.int .i64 ((j0:Nat):Int))∧i0≤v∧v≤j0+1∧(∀ (q:Nat) x,i0≤q→q < v→l1[q]?=some x→A4c pv x=false)∧(v≤j0→∀ x,l1[v]?=some x→A4c pv x=true):=⟨_,rfl⟩
 refine A90 MF3 (by rfl) ?_ ?_
 ·refine A4b (fun m F' H9 => H2 = H9 ∧ ∃ v : Nat, m = j0 + 1 - v ∧ F'.get 0 = some (.slice (some ⟨g, 0, some k⟩) l.length cap) ∧ F'.get 1 = some (.int .i64 (a : Int)) ∧ F'.get 9 = some (.int .i64 ((v : Nat) : Int)) ∧ F'.get 10 = some (.int .i64 ((j0 : Nat) : Int)) ∧ i0 ≤ v ∧ v ≤ j0 + 1 ∧ (∀ (q : Nat) x, i0 ≤ q → q < v → l1[q]? = some x → A4c pv x = false)) (m := j0 + 1 - i0)
    ⟨rfl, i0, rfl, by simp only [↓Sh.dn, sx, Nat.reduceBEq, reduceCtorEq, Nat.reduceEqDiff, f0], by simp only [↓Sh.dn, sx, Nat.reduceBEq, reduceCtorEq, Nat.reduceEqDiff, f1], by simp only [↓Sh.dn, sx, Nat.reduceBEq, reduceCtorEq, Nat.reduceEqDiff, fi], by simp only [↓Sh.dn, sx, Nat.reduceBEq, reduceCtorEq, Nat.reduceEqDiff, fj], by omega, by omega, fun q x h1 h2 => by omega⟩ ?_
  rintro m F' H9 ⟨rfl, v, rfl, g0, g1, gi, gj, h1, h2, h3⟩ k2
  simp only [↓Sh.dn, sx, Nat.reduceBEq, reduceCtorEq, Nat.reduceEqDiff]
  refine (A1b (by kernel_rfl)).2 ?_
  by_cases hle : v ≤ j0
  · have jv : v < l1.length := by omega
    have iv := A9c (g := g) (k := k) (cap := cap) (m := l.length) (i := v) (j := .i64) (by omega)
    have xv := A6c hv1 jv
    have qv : l1[v]? = some l1[v] := List.getElem?_eq_getElem jv
    have wv : IntKind.wrap .i64 ((v : Int) + 1) = ((v + 1 : Nat) : Int) := by rw [wrap64 (by omega) (by omega)]; rfl
    simp only [↓Sh.dn, sx, Nat.reduceBEq, reduceCtorEq, Nat.reduceEqDiff, g0, g1, gi, gj, A7l, hle, decide_true, iv, ia, xv, xa]
    refine ⟨_, _, A8d, ?_⟩
    cases hlt : A4c pv l1[v] with
    | false =>
      simp only [↓Sh.dn, sx, Nat.reduceBEq, reduceCtorEq, Nat.reduceEqDiff, g0, g1, gi, gj, wv]
      refine k2 (j0 + 1 - (v + 1)) _ _ (by omega) ⟨rfl, v + 1, rfl, by simp only [↓Sh.dn, sx, Nat.reduceBEq, reduceCtorEq, Nat.reduceEqDiff, g0], by simp only [↓Sh.dn, sx, Nat.reduceBEq, reduceCtorEq, Nat.reduceEqDiff, g1], by simp only [↓Sh.dn, sx, Nat.reduceBEq, reduceCtorEq, Nat.reduceEqDiff, gi], by simp only [↓Sh.dn, sx, Nat.reduceBEq, reduceCtorEq, Nat.reduceEqDiff, gj], by omega, by omega, fun q x hq1 hq2 hx => ?_⟩
      · by_cases hq : q = v
        · subst hq; rw [qv] at hx; rw [← Option.some.inj hx]; exact hlt
        · exact h3 q x (by omega) (by omega) hx
    | true =>
      simp only [↓Sh.dn, sx, Nat.reduceBEq, reduceCtorEq, Nat.reduceEqDiff, hMF3, g0, g1, gi, gj]
      exact ⟨v, rfl, h1, h2, h3, fun _ x hx => by rw [qv] at hx; rw [← Option.some.inj hx]; exact hlt⟩
  · simp only [↓Sh.dn, sx, Nat.reduceBEq, reduceCtorEq, Nat.reduceEqDiff, hMF3, g0, g1, gi, gj, A7l, hle, decide_false]
    exact ⟨v, rfl, h1, h2, h3, fun h => absurd h hle⟩
 intro F3 H9 h9
 rw [hMF3] at h9
 obtain ⟨rfl,i2,u0,u1,ui,uj,u5,u6,u7,u8⟩:=h9
 simp only [↓Sh.dn,sx,Nat.reduceBEq,reduceCtorEq,Nat.reduceEqDiff]
 obtain ⟨MF4,hMF4⟩:∃ M:Fr→AH→Prop,M=fun F' H9=>H2=H9∧∃ v:Nat,F'.get 0=some (.slice (some ⟨g,0,some k⟩) l.length cap)∧F'.get 1=some (.int .i64 (a:Int))∧F'.get 9=some (.int .i64 ((i2:Nat):Int))∧F'.get 10=some (.int .i64 ((v:Nat):Int))∧i2≤v+1∧v≤j0∧(∀ (q:Nat) x,v < q→q≤j0→l1[q]?=some x→A4c pv x=true)∧(i2≤v→∀ x,l1[v]?=some x→A4c pv x=false):=⟨_,rfl⟩
 refine A90 MF4 (by rfl) ?_ ?_
 ·refine A4b (fun m F' H9 => H2 = H9 ∧ ∃ v : Nat, m = v ∧ F'.get 0 = some (.slice (some ⟨g, 0, some k⟩) l.length cap) ∧ F'.get 1 = some (.int .i64 (a : Int)) ∧ F'.get 9 = some (.int .i64 ((i2 : Nat) : Int)) ∧ F'.get 10 = some (.int .i64 ((v : Nat) : Int)) ∧ i2 ≤ v + 1 ∧ v ≤ j0 ∧ (∀ (q : Nat) x, v < q → q ≤ j0 → l1[q]? = some x → A4c pv x = true)) (m := j0)
    ⟨rfl, j0, rfl, by simp only [↓Sh.dn, sx, Nat.reduceBEq, reduceCtorEq, Nat.reduceEqDiff, u0], by simp only [↓Sh.dn, sx, Nat.reduceBEq, reduceCtorEq, Nat.reduceEqDiff, u1], by simp only [↓Sh.dn, sx, Nat.reduceBEq, reduceCtorEq, Nat.reduceEqDiff, ui], by simp only [↓Sh.dn, sx, Nat.reduceBEq, reduceCtorEq, Nat.reduceEqDiff, uj], by omega, by omega, fun q x h1 h2 => by omega⟩ ?_
  rintro v F' H9 ⟨rfl, _, rfl, g0, g1, gi, gj, h1, h2, h3⟩ k2
  simp only [↓Sh.dn, sx, Nat.reduceBEq, reduceCtorEq, Nat.reduceEqDiff]
  refine (A1b (by kernel_rfl)).2 ?_
  by_cases hle : i2 ≤ v
  · have jv : v < l1.length := by omega
    have iv := A9c (g := g) (k := k) (cap := cap) (m := l.length) (i := v) (j := .i64) (by omega)
    have xv := A6c hv1 jv
    have qv : l1[v]? = some l1[v] := List.getElem?_eq_getElem jv
    have wv : IntKind.wrap .i64 ((v : Int) - 1) = ((v - 1 : Nat) : Int) := by rw [wrap64 (by omega) (by omega)]; omega
    simp only [↓Sh.dn, sx, Nat.reduceBEq, reduceCtorEq, Nat.reduceEqDiff, g0, g1, gi, gj, A7l, hle, decide_true, iv, ia, xv, xa]
    refine ⟨_, _, A8d, ?_⟩
    cases hlt : A4c pv l1[v] with
    | true =>
      simp only [↓Sh.dn, sx, Nat.reduceBEq, reduceCtorEq, Nat.reduceEqDiff, g0, g1, gi, gj, wv]
      refine k2 ((v - 1)) _ _ (by omega) ⟨rfl, v - 1, rfl, by simp only [↓Sh.dn, sx, Nat.reduceBEq, reduceCtorEq, Nat.reduceEqDiff, g0], by simp only [↓Sh.dn, sx, Nat.reduceBEq, reduceCtorEq, Nat.reduceEqDiff, g1], by simp only [↓Sh.dn, sx, Nat.reduceBEq, reduceCtorEq, Nat.reduceEqDiff, gi], by simp only [↓Sh.dn, sx, Nat.reduceBEq, reduceCtorEq, Nat.reduceEqDiff, gj], by omega, by omega, fun q x hq1 hq2 hx => ?_⟩
      · by_cases hq : q = v
        · subst hq; rw [qv] at hx; rw [← Option.some.inj hx]; exact hlt
        · exact h3 q x (by omega) (by omega) hx
    | false =>
      simp only [↓Sh.dn, sx, Nat.reduceBEq, reduceCtorEq, Nat.reduceEqDiff, hMF4, g0, g1, gi, gj]
      exact ⟨v, rfl, h1, h2, h3, fun _ x hx => by rw [qv] at hx; rw [← Option.some.inj hx]; exact hlt⟩
  · simp only [↓Sh.dn, sx, Nat.reduceBEq, reduceCtorEq, Nat.reduceEqDiff, hMF4, g0, g1, gi, gj, A7l, hle, decide_false]
    exact ⟨v, rfl, h1, h2, h3, fun h => absurd h hle⟩
 intro F4 H9 h9
 rw [hMF4] at h9
 obtain ⟨rfl,j2,w0,w1,wi,wj,w5,w6,w7,w8⟩:=h9
 have hA2:∀ (q:Nat) x,a+1≤q→q < i2→l1[q]?=some x→A4c pv x=false:=by
  intro q x h1 h2 hx
  by_cases h:q < i0
  ·exact hA q x h1 h hx
  ·exact u7 q x (by omega) h2 hx
 have hB2:∀ (q:Nat) x,j2 < q→q < b→l1[q]?=some x→A4c pv x=true:=by
  intro q x h1 h2 hx
  by_cases h:j0 < q
  ·exact hB q x h h2 hx
  ·exact w7 q x h1 (by omega) hx
 simp only [↓Sh.dn,sx,Nat.reduceBEq,reduceCtorEq,Nat.reduceEqDiff,wi,wj,A1a]
 by_cases hgt:j2 < i2
 ·simp only [↓Sh.dn,sx,Nat.reduceBEq,reduceCtorEq,Nat.reduceEqDiff,hgt,decide_true,wi,hres]
  refine ⟨i2,rfl,by omega,by omega,l1,hm1,fun q x h1 h2 hx=>?_,fun q x h1 h2 hx=>hB2 q x (by omega) h2 hx,hv1,hc1⟩
  by_cases h:q=a
  ·subst h; rw [hpa] at hx; rw [← Option.some.inj hx]; exact hTO.irrefl pv
  ·exact hA2 q x (by omega) h2 hx
 simp only [↓Sh.dn,sx,Nat.reduceBEq,reduceCtorEq,Nat.reduceEqDiff,hgt,decide_false]
 have hij2:i2 < j2:=by
  by_cases h:i2=j2
  ·have h1:=u8 (by omega)
   have h2:=w8 (by omega)
   obtain ⟨x,hx⟩:∃ x,l1[i2]?=some x:=⟨_,List.getElem?_eq_getElem (by omega)⟩
   have a1:=h1 x hx
   have a2:=h2 x (by rw [← h]; exact hx)
   rw [a1] at a2; cases a2
  ·omega
 have ji1:i2 < l1.length:=by omega
 have jj1:j2 < l1.length:=by omega
 have ii2:=A9c (g:=g) (k:=k) (cap:=cap) (m:=l.length) (i:=i2) (j:=.i64) (by omega)
 have ij2:=A9c (g:=g) (k:=k) (cap:=cap) (m:=l.length) (i:=j2) (j:=.i64) (by omega)
 have xi:=A6c hv1 ji1
 have xj:=A6c hv1 jj1
 have yi2:IntKind.wrap .i64 ((i2:Int)+1)=((i2+1:Nat):Int):=by rw [wrap64 (by omega) (by omega)]; rfl
 have yj2:IntKind.wrap .i64 ((j2:Int) - 1)=((j2 - 1:Nat):Int):=by rw [wrap64 (by omega) (by omega)]; omega
 obtain ⟨L3,L4,d1,d2,hv2,hc2,d5⟩:=A6j hv1 hc1.wf ji1 jj1
 obtain ⟨s1,s2,s3⟩:=pair l1 i2 j2 (by omega) hpa (by omega) hij2 (by omega) hA2 hB2 (u8 (by omega)) (w8 (by omega))
 refine (A1b (by kernel_rfl)).2 ?_
 simp only [↓Sh.dn,sx,Nat.reduceBEq,reduceCtorEq,Nat.reduceEqDiff,w0,w1,wi,wj,ii2,ij2,xi,xj,A9m,d1,d2,yi2,yj2]
 exact kk (j2 - 1+1 - (i2+1)) _ _ (by omega) ⟨i2+1,j2 - 1,swp l1 i2 j2,rfl,by omega,by omega,by omega,hm1.swap (by omega) (by omega) (by omega) (by omega),s1,s2,s3,hv2,hc1.trans hc2,by simp only [↓Sh.dn,sx,Nat.reduceBEq,reduceCtorEq,Nat.reduceEqDiff,w0],by simp only [↓Sh.dn,sx,Nat.reduceBEq,reduceCtorEq,Nat.reduceEqDiff,w1],by simp only [↓Sh.dn,sx,Nat.reduceBEq,reduceCtorEq,Nat.reduceEqDiff],by simp only [↓Sh.dn,sx,Nat.reduceBEq,reduceCtorEq,Nat.reduceEqDiff]⟩
end
end Go.Proofs.YtcgbiedfbacgpaaGreat
/- partialInsertionSortOrdered. -/
namespace Go.Proofs.YtcgbiedfbacgpaaGreat
open Go Go.Proofs Go.Proofs.Sh
def B5e (a i:Nat) (m:List Int):Prop:=∀ (p:Nat) x y,a≤p→p+1 < i→m[p]?=some x→m[p+1]?=some y→A4c y x=false
def PreInt (a b:Nat) (l:List Int):Prop:=∀ (q:Nat) x y,0 < a→l[a - 1]?=some y→a≤q→q < b→l[q]?=some x→A4c x y=false
theorem PreInt.mix {a b:Nat} {l m:List Int} (h:PreInt a b l) (hm:Mix a b l m) (hb:b≤l.length):PreInt a b m:=by
 intro q x y h0 hy h1 h2 hx
 rw [hm.out (.inl (by omega))] at hy
 exact hm.all (p:=fun x=>A4c x y=false) hb (fun i z hi1 hi2 hz=>h i z y h0 hy hi1 hi2 hz) q x h1 h2 hx
theorem A12 {H:AH} {g k n cap a b:Nat} {l:List Int} (hv:A2e H g k n l) (hw:Wf H) (hl:l.length≤1048576) (hab:a < b) (hb:b≤l.length) (hpre:PreInt a b l):
  Sh.Call Tryz.prog (knows 7) 123 [.slice (some ⟨g,0,some k⟩) l.length cap,.int .i64 (a:Int),.int .i64 (b:Int)] H
   (fun r H'=>∃ bb:Bool,r=.bool bb∧∃ l',Mix a b l l'∧(bb=true→Srt A4c a b l')∧A2e H' g k n l'∧Chg (fun y=>y=g) H H'):=by
 refine A3a rfl Tryz.func123 rfl (Nat.le_of_ble_eq_true rfl) ?_
 have hres:Tryz.f123.results.toList=[.tmp 6]:=rfl
 have hTO:=intTO
 have w1:IntKind.wrap .i64 ((a:Int)+1)=((a+1:Nat):Int):=by rw [wrap64 (by omega) (by omega)]; rfl
 have wba:IntKind.wrap .i64 ((b:Int) - (a:Int))=((b - a:Nat):Int):=by rw [wrap64 (by omega) (by omega)]; omega
 simp only [↓Sh.dn,sx,Nat.reduceBEq,reduceCtorEq,Nat.reduceEqDiff,w1]
 refine A4b (fun m F H' => ∃ (c i : Nat) (l1 : List Int), m = 5 - c ∧ c ≤ 5 ∧ a + 1 ≤ i ∧ i ≤ b ∧ Mix a b l l1 ∧ B5e a i l1 ∧ A2e H' g k n l1 ∧ Chg (fun y => y = g) H H' ∧
     F.get 0 = some (.slice (some ⟨g, 0, some k⟩) l.length cap) ∧ F.get 1 = some (.int .i64 (a : Int)) ∧ F.get 2 = some (.int .i64 (b : Int)) ∧ F.get 7 = some (.int .i64 (i : Int)) ∧ F.get 8 = some (.int .i64 (c : Int))) (m := 5)
   ⟨0, a + 1, l, rfl, by omega, by omega, by omega, .refl l, fun p x y h1 h2 => by omega, hv, Chg.refl hw, by simp only [↓Sh.dn, sx, Nat.reduceBEq, reduceCtorEq, Nat.reduceEqDiff], by simp only [↓Sh.dn, sx, Nat.reduceBEq, reduceCtorEq, Nat.reduceEqDiff], by simp only [↓Sh.dn, sx, Nat.reduceBEq, reduceCtorEq, Nat.reduceEqDiff], by simp only [↓Sh.dn, sx, Nat.reduceBEq, reduceCtorEq, Nat.reduceEqDiff], by simp only [↓Sh.dn, sx, Nat.reduceBEq, reduceCtorEq, Nat.reduceEqDiff]; rfl⟩ ?_
 rintro m F H' ⟨c,i,l1,rfl,hc5,hai,hib,hm,hadj,hv1,hc1,f0,f1,f2,f7,f8⟩ kk
 have hlen:=hm.length
 by_cases hlt:c < 5
 case neg=>
  have d:decide ((c:Int) < 5)=false:=by simp; omega
  simp only [↓Sh.dn,sx,Nat.reduceBEq,reduceCtorEq,Nat.reduceEqDiff,f8,d,hres]
  exact ⟨l1,hm,hv1,hc1⟩
 have d:decide ((c:Int) < 5)=true:=by simp; omega
 simp only [↓Sh.dn,sx,Nat.reduceBEq,reduceCtorEq,Nat.reduceEqDiff,f8,d]
 obtain ⟨M1, hM1⟩ : ∃ M : Fr → AH → Prop, M = fun F' H9 => H' = H9 ∧ ∃ v : Nat, F'.get 0 = some (.slice (some ⟨g, 0, some k⟩) l.length cap) ∧ F'.get 1 = some (.int .i64 (a : Int)) ∧ F'.get 2 = some (.int .i64 (b : Int)) ∧ F'.get 7 = some (.int .i64 (v : Int)) ∧ F'.get 8 = some (.int .i64 (c : Int)) ∧
     i ≤ v ∧ v ≤ b ∧ B5e a v l1 := ⟨_, rfl⟩
 refine A90 M1 (by rfl) ?_ ?_
 ·refine A4b (fun m F' H9 => H' = H9 ∧ ∃ v : Nat, m = b - v ∧ F'.get 0 = some (.slice (some ⟨g, 0, some k⟩) l.length cap) ∧ F'.get 1 = some (.int .i64 (a : Int)) ∧ F'.get 2 = some (.int .i64 (b : Int)) ∧ F'.get 7 = some (.int .i64 (v : Int)) ∧ F'.get 8 = some (.int .i64 (c : Int)) ∧
    i ≤ v ∧ v ≤ b ∧ B5e a v l1) (m := b - i)
    ⟨rfl, i, rfl, by simp only [↓Sh.dn, sx, Nat.reduceBEq, reduceCtorEq, Nat.reduceEqDiff, f0], by simp only [↓Sh.dn, sx, Nat.reduceBEq, reduceCtorEq, Nat.reduceEqDiff, f1], by simp only [↓Sh.dn, sx, Nat.reduceBEq, reduceCtorEq, Nat.reduceEqDiff, f2], by simp only [↓Sh.dn, sx, Nat.reduceBEq, reduceCtorEq, Nat.reduceEqDiff, f7], by simp only [↓Sh.dn, sx, Nat.reduceBEq, reduceCtorEq, Nat.reduceEqDiff, f8], Nat.le_refl _, hib, hadj⟩ ?_
  rintro m F' H9 ⟨rfl, v, rfl, g0, g1, g2, g7, g8, h1, h2, h3⟩ k2
  simp only [↓Sh.dn, sx, Nat.reduceBEq, reduceCtorEq, Nat.reduceEqDiff]
  refine (A1b (by kernel_rfl)).2 ?_
  by_cases hvb : v < b
  · have jv : v < l1.length := by omega
    have jw : v - 1 < l1.length := by omega
    have iv := A9c (g := g) (k := k) (cap := cap) (m := l.length) (i := v) (j := .i64) (by omega)
    have iw := A9c (g := g) (k := k) (cap := cap) (m := l.length) (i := v - 1) (j := .i64) (by omega)
    have xv := A6c hv1 jv
    have xw := A6c hv1 jw
    have wv : IntKind.wrap .i64 ((v : Int) - 1) = ((v - 1 : Nat) : Int) := by rw [wrap64 (by omega) (by omega)]; omega
    have wv2 : IntKind.wrap .i64 ((v : Int) + 1) = ((v + 1 : Nat) : Int) := by rw [wrap64 (by omega) (by omega)]; rfl
    simp only [↓Sh.dn, sx, Nat.reduceBEq, reduceCtorEq, Nat.reduceEqDiff, g0, g1, g2, g7, A1a, hvb, decide_true, wv, iv, iw, xv, xw]
    refine ⟨_, _, A8d, ?_⟩
    cases hq : A4c l1[v] l1[v - 1] with
    | false =>
      simp only [↓Sh.dn, sx, Nat.reduceBEq, reduceCtorEq, Nat.reduceEqDiff, g7, wv2]
      refine k2 (b - (v + 1)) _ _ (by omega) ⟨rfl, v + 1, rfl, by simp only [↓Sh.dn, sx, Nat.reduceBEq, reduceCtorEq, Nat.reduceEqDiff, g0], by simp only [↓Sh.dn, sx, Nat.reduceBEq, reduceCtorEq, Nat.reduceEqDiff, g1], by simp only [↓Sh.dn, sx, Nat.reduceBEq, reduceCtorEq, Nat.reduceEqDiff, g2], by simp only [↓Sh.dn, sx, Nat.reduceBEq, reduceCtorEq, Nat.reduceEqDiff], by simp only [↓Sh.dn, sx, Nat.reduceBEq, reduceCtorEq, Nat.reduceEqDiff, g8], by omega, by omega, fun p x y hp1 hp2 hx hy => ?_⟩
      by_cases hpv : p + 1 = v
      · have e1 : l1[v]? = some l1[v] := List.getElem?_eq_getElem jv
        have e2 : l1[v - 1]? = some l1[v - 1] := List.getElem?_eq_getElem jw
        rw [hpv, e1] at hy
        rw [show p = v - 1 by omega, e2] at hx
        rw [← Option.some.inj hx, ← Option.some.inj hy]; exact hq
      · exact h3 p x y hp1 (by omega) hx hy
    | true =>
      simp only [↓Sh.dn, sx, Nat.reduceBEq, reduceCtorEq, Nat.reduceEqDiff, hM1, g0, g1, g2, g7, g8]
      exact ⟨v, rfl, h1, h2, h3⟩
  · simp only [↓Sh.dn, sx, Nat.reduceBEq, reduceCtorEq, Nat.reduceEqDiff, hM1, g0, g1, g2, g7, g8, A1a, hvb, decide_false]
    exact ⟨v, rfl, h1, h2, h3⟩
 intro F1 H9 h9
 rw [hM1] at h9
 obtain ⟨rfl,v,f0,f1,f2,f7,f8,hiv,hvb,hadj⟩:=h9
 by_cases hend:v=b
 ·have d:decide ((v:Int)=(b:Int))=true:=by simp [hend]
  simp only [↓Sh.dn,sx,Nat.reduceBEq,reduceCtorEq,Nat.reduceEqDiff,f2,f7,d,hres]
  exact ⟨l1,hm,B0b hTO (by rw [← hend]; exact hadj),hv1,hc1⟩
 have d:decide ((v:Int)=(b:Int))=false:=by simp; omega
 simp only [↓Sh.dn,sx,Nat.reduceBEq,reduceCtorEq,Nat.reduceEqDiff,f1,f2,f7,d,wba]
 by_cases h50:b - a < 50
 ·have d:decide (((b - a:Nat):Int) < 50)=true:=by simp; omega
  simp only [↓Sh.dn,sx,Nat.reduceBEq,reduceCtorEq,Nat.reduceEqDiff,d,hres]
  exact ⟨l1,hm,hv1,hc1⟩
 have d:decide (((b - a:Nat):Int) < 50)=false:=by simp; omega
 simp only [↓Sh.dn,sx,Nat.reduceBEq,reduceCtorEq,Nat.reduceEqDiff,d]
 have jv:v < l1.length:=by omega
 have jw:v - 1 < l1.length:=by omega
 have iv:=A9c (g:=g) (k:=k) (cap:=cap) (m:=l.length) (i:=v) (j:=.i64) (by omega)
 have iw:=A9c (g:=g) (k:=k) (cap:=cap) (m:=l.length) (i:=v - 1) (j:=.i64) (by omega)
 have xv:=A6c hv1 jv
 have xw:=A6c hv1 jw
 have wv:IntKind.wrap .i64 ((v:Int) - 1)=((v - 1:Nat):Int):=by rw [wrap64 (by omega) (by omega)]; omega
 have wv2:IntKind.wrap .i64 ((v:Int)+1)=((v+1:Nat):Int):=by rw [wrap64 (by omega) (by omega)]; rfl
 have wva:IntKind.wrap .i64 ((v:Int) - (a:Int))=((v - a:Nat):Int):=by rw [wrap64 (by omega) (by omega)]; omega
 have wbv:IntKind.wrap .i64 ((b:Int) - (v:Int))=((b - v:Nat):Int):=by rw [wrap64 (by omega) (by omega)]; omega
 have wc:IntKind.wrap .i64 ((c:Int)+1)=((c+1:Nat):Int):=by rw [wrap64 (by omega) (by omega)]; rfl
 obtain ⟨L1,L2,d1,d2,hv2,hc2,d5⟩:=A6j hv1 hc1.wf jv jw
 have hm2:Mix a b l (swp l1 v (v - 1)):=hm.swap (by omega) (by omega) (by omega) (by omega)
 refine (A1b (by kernel_rfl)).2 ?_
 simp only [↓Sh.dn,sx,Nat.reduceBEq,reduceCtorEq,Nat.reduceEqDiff,f0,f1,f7,wv,iv,iw,xv,xw,A9m,d1,d2,wva]
 have hA2:∀ (p:Nat) x y,a≤p→p+1 < v→p+1≠v - 1→(swp l1 v (v - 1))[p]?=some x→(swp l1 v (v - 1))[p+1]?=some y→A4c y x=false:=by
  intro p x y h1 h2 h3 hx hy
  rw [swp_get jv jw,if_neg (by omega),if_neg (by omega)] at hx hy
  exact hadj p x y h1 (by omega) hx hy
 have hc12:=hc1.trans hc2
 generalize swp l1 v (v - 1)=l2 at hv2 hm2 hA2
 obtain ⟨M2,hM2⟩:∃ M:Fr→AH→Prop,M=fun F' H9=>∃ l3:List Int,Mix a b l l3∧B5e a v l3∧A2e H9 g k n l3∧Chg (fun y=>y=g) H H9∧F'.get 0=some (.slice (some ⟨g,0,some k⟩) l.length cap)∧F'.get 1=some (.int .i64 (a:Int))∧F'.get 2=some (.int .i64 (b:Int))∧F'.get 7=some (.int .i64 (v:Int))∧F'.get 8=some (.int .i64 (c:Int)):=⟨_,rfl⟩
 refine B6j M2 (by rfl) ?_ ?_
 ·by_cases hva:2≤v - a
  case neg=>
   have d:decide ((2:Int)≤((v - a:Nat):Int))=false:=by simp; omega
   simp only [↓Sh.dn,sx,Nat.reduceBEq,reduceCtorEq,Nat.reduceEqDiff,d,hM2,f0,f1,f2,f7,f8]
   exact ⟨l2,hm2,fun p x y h1 h2 hx hy=>by omega,hv2,hc12⟩
  have d:decide ((2:Int)≤((v - a:Nat):Int))=true:=by simp; omega
  simp only [↓Sh.dn,sx,Nat.reduceBEq,reduceCtorEq,Nat.reduceEqDiff,d,f7,wv]
  refine A4b (fun j F' H9 => ∃ l3 : List Int, a ≤ j ∧ j ≤ v - 1 ∧ Mix a b l l3 ∧ (∀ (p : Nat) x y, a ≤ p → p + 1 < v → p + 1 ≠ j → l3[p]? = some x → l3[p + 1]? = some y → A4c y x = false) ∧ (∀ x y, a < j → j + 1 < v → l3[j - 1]? = some x → l3[j + 1]? = some y → A4c y x = false) ∧ A2e H9 g k n l3 ∧ Chg (fun y => y = g) H H9 ∧
      F'.get 0 = some (.slice (some ⟨g, 0, some k⟩) l.length cap) ∧ F'.get 1 = some (.int .i64 (a : Int)) ∧ F'.get 2 = some (.int .i64 (b : Int)) ∧ F'.get 7 = some (.int .i64 (v : Int)) ∧ F'.get 8 = some (.int .i64 (c : Int)) ∧ F'.get 9 = some (.int .i64 (j : Int))) (m := v - 1)
    ⟨l2, by omega, Nat.le_refl _, hm2, hA2, fun x y h1 h2 => by omega, hv2, hc12, by simp only [↓Sh.dn, sx, Nat.reduceBEq, reduceCtorEq, Nat.reduceEqDiff, f0], by simp only [↓Sh.dn, sx, Nat.reduceBEq, reduceCtorEq, Nat.reduceEqDiff, f1], by simp only [↓Sh.dn, sx, Nat.reduceBEq, reduceCtorEq, Nat.reduceEqDiff, f2], by simp only [↓Sh.dn, sx, Nat.reduceBEq, reduceCtorEq, Nat.reduceEqDiff, f7], by simp only [↓Sh.dn, sx, Nat.reduceBEq, reduceCtorEq, Nat.reduceEqDiff, f8], by simp only [↓Sh.dn, sx, Nat.reduceBEq, reduceCtorEq, Nat.reduceEqDiff]⟩ ?_
  rintro j F' H9 ⟨l3,haj,hjv,hm3,hA,hB,hv3,hc3,g0,g1,g2,g7,g8,g9⟩ k2
  have hlen3:=hm3.length
  have hall:j=a→B5e a v l3:=fun h p x y h1 h2 hx hy=>hA p x y h1 h2 (by omega) hx hy
  by_cases hj0:1≤j
  case neg=>
   have d:decide ((1:Int)≤(j:Int))=false:=by simp; omega
   simp only [↓Sh.dn,sx,Nat.reduceBEq,reduceCtorEq,Nat.reduceEqDiff,g9,d,hM2,g0,g1,g2,g7,g8]
   exact ⟨l3,hm3,hall (by omega),hv3,hc3⟩
  have d:decide ((1:Int)≤(j:Int))=true:=by simp; omega
  have jj:j < l3.length:=by omega
  have jj1:j - 1 < l3.length:=by omega
  have ij:=A9c (g:=g) (k:=k) (cap:=cap) (m:=l.length) (i:=j) (j:=.i64) (by omega)
  have ij1:=A9c (g:=g) (k:=k) (cap:=cap) (m:=l.length) (i:=j - 1) (j:=.i64) (by omega)
  have xj:=A6c hv3 jj
  have xj1:=A6c hv3 jj1
  have q1:l3[j]?=some l3[j]:=List.getElem?_eq_getElem jj
  have q2:l3[j - 1]?=some l3[j - 1]:=List.getElem?_eq_getElem jj1
  have wj:IntKind.wrap .i64 ((j:Int) - 1)=((j - 1:Nat):Int):=by rw [wrap64 (by omega) (by omega)]; omega
  simp only [↓Sh.dn,sx,Nat.reduceBEq,reduceCtorEq,Nat.reduceEqDiff,g9,d]
  refine (A1b (by kernel_rfl)).2 ?_
  simp only [↓Sh.dn,sx,Nat.reduceBEq,reduceCtorEq,Nat.reduceEqDiff,g0,g9,wj,ij,ij1,xj,xj1]
  refine ⟨_,_,A8d,?_⟩
  cases hq:A4c l3[j] l3[j - 1] with
  | false=>
   simp only [↓Sh.dn,sx,Nat.reduceBEq,reduceCtorEq,Nat.reduceEqDiff,hM2,g0,g1,g2,g7,g8]
   refine ⟨l3,hm3,fun p x y h1 h2 hx hy=>?_,hv3,hc3⟩
   by_cases hp:p+1=j
   ·rw [hp,q1] at hy
    rw [show p=j - 1 by omega,q2] at hx
    rw [← Option.some.inj hx,← Option.some.inj hy]; exact hq
   ·exact hA p x y h1 h2 hp hx hy
  | true=>
   have haj':a < j:=by
    by_cases h:j=a
    ·subst h
     have:=hpre.mix hm3 hb j _ _ (by omega) q2 (Nat.le_refl _) hab q1
     rw [this] at hq; cases hq
    ·omega
   obtain ⟨L3,L4,c1,c2,hv4,hc4,c5⟩:=A6j hv3 hc3.wf jj jj1
   simp only [↓Sh.dn,sx,Nat.reduceBEq,reduceCtorEq,Nat.reduceEqDiff]
   refine (A1b (by kernel_rfl)).2 ?_
   simp only [↓Sh.dn,sx,Nat.reduceBEq,reduceCtorEq,Nat.reduceEqDiff,g0,g9,wj,ij,ij1,xj,xj1,A9m,c1,c2]
   refine k2 (j - 1) _ _ (by omega) ⟨swp l3 j (j - 1),by omega,by omega,hm3.swap (by omega) (by omega) (by omega) (by omega),fun p x y h1 h2 h3 hx hy=>?_,fun x y h1 h2 hx hy=>?_,hv4,hc3.trans hc4,by simp only [↓Sh.dn,sx,Nat.reduceBEq,reduceCtorEq,Nat.reduceEqDiff,g0],by simp only [↓Sh.dn,sx,Nat.reduceBEq,reduceCtorEq,Nat.reduceEqDiff,g1],by simp only [↓Sh.dn,sx,Nat.reduceBEq,reduceCtorEq,Nat.reduceEqDiff,g2],by simp only [↓Sh.dn,sx,Nat.reduceBEq,reduceCtorEq,Nat.reduceEqDiff,g7],by simp only [↓Sh.dn,sx,Nat.reduceBEq,reduceCtorEq,Nat.reduceEqDiff,g8],by simp only [↓Sh.dn,sx,Nat.reduceBEq,reduceCtorEq,Nat.reduceEqDiff]⟩
   ·rw [swp_get jj jj1] at hx hy
    by_cases hp1:p+1=j
    ·have hp:p=j - 1:=by omega
     rw [if_pos hp,q1] at hx
     rw [if_neg (by omega),if_pos hp1,q2] at hy
     rw [← Option.some.inj hx,← Option.some.inj hy]
     exact hTO.asymm hq
    ·by_cases hp2:p=j
     ·rw [if_neg (by omega),if_pos hp2,q2] at hx
      rw [if_neg (by omega),if_neg (by omega)] at hy
      rw [← Option.some.inj hx]
      exact hB _ _ haj' (by omega) q2 (by rw [← hp2]; exact hy)
     ·rw [if_neg (by omega),if_neg hp2] at hx
      rw [if_neg (by omega),if_neg (by omega)] at hy
      exact hA p x y h1 h2 hp1 hx hy
   ·rw [swp_get jj jj1] at hx hy
    rw [if_neg (by omega),if_neg (by omega)] at hx
    rw [if_neg (by omega),if_pos (by omega),q2] at hy
    rw [← Option.some.inj hy]
    exact hA (j - 2) _ _ (by omega) (by omega) (by omega) (by rw [show j - 2=j - 1 - 1 by omega]; exact hx) (by rw [show j - 2+1=j - 1 by omega]; exact q2)
 intro F2 H9 h9
 rw [hM2] at h9
 obtain ⟨l3,hm3,hadj3,hv3,hc3,f0,f1,f2,f7,f8⟩:=h9
 simp only [↓Sh.dn,sx,Nat.reduceBEq,reduceCtorEq,Nat.reduceEqDiff,f2,f7,wbv]
 obtain ⟨M3,hM3⟩:∃ M:Fr→AH→Prop,M=fun F' H9=>∃ l3:List Int,Mix a b l l3∧B5e a v l3∧A2e H9 g k n l3∧Chg (fun y=>y=g) H H9∧F'.get 0=some (.slice (some ⟨g,0,some k⟩) l.length cap)∧F'.get 1=some (.int .i64 (a:Int))∧F'.get 2=some (.int .i64 (b:Int))∧F'.get 7=some (.int .i64 (v:Int))∧F'.get 8=some (.int .i64 (c:Int)):=⟨_,rfl⟩
 refine B6j M3 (by rfl) ?_ ?_
 ·by_cases hbv:2≤b - v
  case neg=>
   have d:decide ((2:Int)≤((b - v:Nat):Int))=false:=by simp; omega
   simp only [↓Sh.dn,sx,Nat.reduceBEq,reduceCtorEq,Nat.reduceEqDiff,d,hM3,f0,f1,f2,f7,f8]
   exact ⟨l3,hm3,hadj3,hv3,hc3⟩
  have d:decide ((2:Int)≤((b - v:Nat):Int))=true:=by simp; omega
  simp only [↓Sh.dn,sx,Nat.reduceBEq,reduceCtorEq,Nat.reduceEqDiff,d,f7,wv2]
  refine A4b (fun m F' H9 => ∃ (j : Nat) (l3 : List Int), m = b - j ∧ v + 1 ≤ j ∧ j ≤ b ∧ Mix a b l l3 ∧ B5e a v l3 ∧ A2e H9 g k n l3 ∧ Chg (fun y => y = g) H H9 ∧
      F'.get 0 = some (.slice (some ⟨g, 0, some k⟩) l.length cap) ∧ F'.get 1 = some (.int .i64 (a : Int)) ∧ F'.get 2 = some (.int .i64 (b : Int)) ∧ F'.get 7 = some (.int .i64 (v : Int)) ∧ F'.get 8 = some (.int .i64 (c : Int)) ∧ F'.get 10 = some (.int .i64 (j : Int))) (m := b - (v + 1))
    ⟨v + 1, l3, rfl, Nat.le_refl _, by omega, hm3, hadj3, hv3, hc3, by simp only [↓Sh.dn, sx, Nat.reduceBEq, reduceCtorEq, Nat.reduceEqDiff, f0], by simp only [↓Sh.dn, sx, Nat.reduceBEq, reduceCtorEq, Nat.reduceEqDiff, f1], by simp only [↓Sh.dn, sx, Nat.reduceBEq, reduceCtorEq, Nat.reduceEqDiff, f2], by simp only [↓Sh.dn, sx, Nat.reduceBEq, reduceCtorEq, Nat.reduceEqDiff, f7], by simp only [↓Sh.dn, sx, Nat.reduceBEq, reduceCtorEq, Nat.reduceEqDiff, f8], by simp only [↓Sh.dn, sx, Nat.reduceBEq, reduceCtorEq, Nat.reduceEqDiff]⟩ ?_
  rintro m F' H9 ⟨j,l4,rfl,hvj,hjb,hm4,hadj4,hv4,hc4,g0,g1,g2,g7,g8,g10⟩ k2
  have hlen4:=hm4.length
  by_cases hjb':j < b
  case neg=>
   simp only [↓Sh.dn,sx,Nat.reduceBEq,reduceCtorEq,Nat.reduceEqDiff,g2,g10,A1a,hjb',decide_false,hM3,g0,g1,g7,g8]
   exact ⟨l4,hm4,hadj4,hv4,hc4⟩
  have jj:j < l4.length:=by omega
  have jj1:j - 1 < l4.length:=by omega
  have ij:=A9c (g:=g) (k:=k) (cap:=cap) (m:=l.length) (i:=j) (j:=.i64) (by omega)
  have ij1:=A9c (g:=g) (k:=k) (cap:=cap) (m:=l.length) (i:=j - 1) (j:=.i64) (by omega)
  have xj:=A6c hv4 jj
  have xj1:=A6c hv4 jj1
  have wj:IntKind.wrap .i64 ((j:Int) - 1)=((j - 1:Nat):Int):=by rw [wrap64 (by omega) (by omega)]; omega
  have wj2:IntKind.wrap .i64 ((j:Int)+1)=((j+1:Nat):Int):=by rw [wrap64 (by omega) (by omega)]; rfl
  simp only [↓Sh.dn,sx,Nat.reduceBEq,reduceCtorEq,Nat.reduceEqDiff,g2,g10,A1a,hjb',decide_true]
  refine (A1b (by kernel_rfl)).2 ?_
  simp only [↓Sh.dn,sx,Nat.reduceBEq,reduceCtorEq,Nat.reduceEqDiff,g0,g10,wj,ij,ij1,xj,xj1]
  refine ⟨_,_,A8d,?_⟩
  cases hq:A4c l4[j] l4[j - 1] with
  | false=>
   simp only [↓Sh.dn,sx,Nat.reduceBEq,reduceCtorEq,Nat.reduceEqDiff,hM3,g0,g1,g2,g7,g8]
   exact ⟨l4,hm4,hadj4,hv4,hc4⟩
  | true=>
   obtain ⟨L3,L4,c1,c2,hv5,hc5',c5⟩:=A6j hv4 hc4.wf jj jj1
   simp only [↓Sh.dn,sx,Nat.reduceBEq,reduceCtorEq,Nat.reduceEqDiff]
   refine (A1b (by kernel_rfl)).2 ?_
   simp only [↓Sh.dn,sx,Nat.reduceBEq,reduceCtorEq,Nat.reduceEqDiff,g0,g10,wj,ij,ij1,xj,xj1,A9m,c1,c2,wj2]
   refine k2 (b - (j+1)) _ _ (by omega) ⟨j+1,swp l4 j (j - 1),rfl,by omega,by omega,hm4.swap (by omega) (by omega) (by omega) (by omega),fun p x y h1 h2 hx hy=>?_,hv5,hc4.trans hc5',by simp only [↓Sh.dn,sx,Nat.reduceBEq,reduceCtorEq,Nat.reduceEqDiff,g0],by simp only [↓Sh.dn,sx,Nat.reduceBEq,reduceCtorEq,Nat.reduceEqDiff,g1],by simp only [↓Sh.dn,sx,Nat.reduceBEq,reduceCtorEq,Nat.reduceEqDiff,g2],by simp only [↓Sh.dn,sx,Nat.reduceBEq,reduceCtorEq,Nat.reduceEqDiff,g7],by simp only [↓Sh.dn,sx,Nat.reduceBEq,reduceCtorEq,Nat.reduceEqDiff,g8],by simp only [↓Sh.dn,sx,Nat.reduceBEq,reduceCtorEq,Nat.reduceEqDiff]⟩
   rw [swp_get jj jj1,if_neg (by omega),if_neg (by omega)] at hx hy
   exact hadj4 p x y h1 h2 hx hy
 intro F3 H10 h10
 rw [hM3] at h10
 obtain ⟨l5,hm5,hadj5,hv5,hc5',f0,f1,f2,f7,f8⟩:=h10
 simp only [↓Sh.dn,sx,Nat.reduceBEq,reduceCtorEq,Nat.reduceEqDiff,f8,wc]
 exact kk (5 - (c+1)) _ _ (by omega) ⟨c+1,v,l5,rfl,by omega,by omega,by omega,hm5,hadj5,hv5,hc5',by simp only [↓Sh.dn,sx,Nat.reduceBEq,reduceCtorEq,Nat.reduceEqDiff,f0],by simp only [↓Sh.dn,sx,Nat.reduceBEq,reduceCtorEq,Nat.reduceEqDiff,f1],by simp only [↓Sh.dn,sx,Nat.reduceBEq,reduceCtorEq,Nat.reduceEqDiff,f2],by simp only [↓Sh.dn,sx,Nat.reduceBEq,reduceCtorEq,Nat.reduceEqDiff,f7],by simp only [↓Sh.dn,sx,Nat.reduceBEq,reduceCtorEq,Nat.reduceEqDiff]⟩
end Go.Proofs.YtcgbiedfbacgpaaGreat
/- pdqsortOrdered. -/
namespace Go.Proofs.YtcgbiedfbacgpaaGreat
open Go Go.Proofs Go.Proofs.Sh
theorem pdqInt {g k n cap:Nat}:∀ (sz:Nat) {H:AH} {a b:Nat} {l:List Int} {lim:Int},b - a≤sz→A2e H g k n l→Wf H→l.length≤1048576→a≤b→b≤l.length→PreInt a b l→
  Sh.Call Tryz.prog (knows 7) 115 [.slice (some ⟨g,0,some k⟩) l.length cap,.int .i64 (a:Int),.int .i64 (b:Int),.int .i64 lim] H
   (fun r H'=>∃ l',Mix a b l l'∧Srt A4c a b l'∧A2e H' g k n l'∧Chg (fun y=>y=g) H H'):=by
 intro sz
 induction sz using Nat.strongRecOn with
 | _ sz ih=>
 intro H a b l lim hsz hv hw hl hab hb hpre
 refine A3a rfl Tryz.func115 rfl (Nat.le_of_ble_eq_true rfl) ?_
 have hres:Tryz.f115.results.toList=[]:=rfl
 have hTO:=intTO
 simp only [↓Sh.dn,sx,Nat.reduceBEq,reduceCtorEq,Nat.reduceEqDiff]
 refine A4b (fun m F H' => ∃ (a' b' : Nat) (l1 : List Int) (lm : Int) (x8 x9 : Bool), m = b' - a' ∧ a ≤ a' ∧ a' ≤ b' ∧ b' ≤ b ∧ Mix a b l l1 ∧ P3 A4c a a' b' b l1 ∧ PreInt a' b' l1 ∧ A2e H' g k n l1 ∧ Chg (fun y => y = g) H H' ∧
     F.get 0 = some (.slice (some ⟨g, 0, some k⟩) l.length cap) ∧ F.get 1 = some (.int .i64 (a' : Int)) ∧ F.get 2 = some (.int .i64 (b' : Int)) ∧ F.get 3 = some (.int .i64 lm) ∧ F.get 8 = some (.bool x8) ∧ F.get 9 = some (.bool x9)) (m := b - a)
   ⟨a, b, l, lim, true, true, rfl, Nat.le_refl _, hab, Nat.le_refl _, .refl l, fun p q x y h1 h2 h3 h4 => absurd ⟨h1, h3⟩ h4, hpre, hv, Chg.refl hw, by simp only [↓Sh.dn, sx, Nat.reduceBEq, reduceCtorEq, Nat.reduceEqDiff], by simp only [↓Sh.dn, sx, Nat.reduceBEq, reduceCtorEq, Nat.reduceEqDiff], by simp only [↓Sh.dn, sx, Nat.reduceBEq, reduceCtorEq, Nat.reduceEqDiff], by simp only [↓Sh.dn, sx, Nat.reduceBEq, reduceCtorEq, Nat.reduceEqDiff], by simp only [↓Sh.dn, sx, Nat.reduceBEq, reduceCtorEq, Nat.reduceEqDiff], by simp only [↓Sh.dn, sx, Nat.reduceBEq, reduceCtorEq, Nat.reduceEqDiff]⟩ ?_
 rintro m F H' ⟨a',b',l1,lm,x8,x9,rfl,ha',hab',hb',hm,h3,hpr,hv1,hc1,f0,f1,f2,f3,f8,f9⟩ kk
 have hlen:=hm.length
 have hvl:l1.length=l.length:=hlen
 have wba:IntKind.wrap .i64 ((b':Int) - (a':Int))=((b' - a':Nat):Int):=by rw [wrap64 (by omega) (by omega)]; omega
 have fin:∀ {H2:AH} {l2:List Int},Mix a' b' l1 l2→Srt A4c a' b' l2→Mix a b l l2∧Srt A4c a b l2:=fun {H2 l2} h1 h2=>⟨hm.trans (h1.wide ha' hb'),(h3.mix ha' hb' h1 (by omega)).srt hTO h2⟩
 simp only [↓Sh.dn,sx,Nat.reduceBEq,reduceCtorEq,Nat.reduceEqDiff,f1,f2,wba]
 by_cases h12:b' - a'≤12
 ·have d:decide (((b' - a':Nat):Int)≤12)=true:=by simp; omega
  obtain ⟨r,H2,hd,l2,q1,q2,q3,q4⟩:=A99 (cap:=cap) hv1 hc1.wf (by omega) hab' (by omega)
  rw [hvl] at hd
  simp only [↓Sh.dn,sx,Nat.reduceBEq,reduceCtorEq,Nat.reduceEqDiff,d,f0,f1,f2]
  refine ⟨_,_,hd,?_⟩
  simp only [↓Sh.dn,sx,Nat.reduceBEq,reduceCtorEq,Nat.reduceEqDiff,hres]
  exact ⟨l2,(fin (H2:=H2) q1 q2).1,(fin (H2:=H2) q1 q2).2,q3,hc1.trans q4⟩
 have d:decide (((b' - a':Nat):Int)≤12)=false:=by simp; omega
 simp only [↓Sh.dn,sx,Nat.reduceBEq,reduceCtorEq,Nat.reduceEqDiff,d,f3]
 by_cases hlm:lm=0
 ·obtain ⟨r,H2,hd,l2,q1,q2,q3,q4⟩:=B14 (cap:=cap) hv1 hc1.wf (by omega) (by omega:a' < b') (by omega)
  rw [hvl] at hd
  simp only [↓Sh.dn,sx,Nat.reduceBEq,reduceCtorEq,Nat.reduceEqDiff,hlm,decide_true,f0,f1,f2]
  refine ⟨_,_,hd,?_⟩
  simp only [↓Sh.dn,sx,Nat.reduceBEq,reduceCtorEq,Nat.reduceEqDiff,hres]
  exact ⟨l2,(fin (H2:=H2) q1 q2).1,(fin (H2:=H2) q1 q2).2,q3,hc1.trans q4⟩
 simp only [↓Sh.dn,sx,Nat.reduceBEq,reduceCtorEq,Nat.reduceEqDiff,hlm,decide_false,f8]
 obtain ⟨M1,hM1⟩:∃ M:Fr→AH→Prop,M=fun F' H9=>∃ l2:List Int,Mix a' b' l1 l2∧A2e H9 g k n l2∧Chg (fun y=>y=g) H H9∧F'.get 0=some (.slice (some ⟨g,0,some k⟩) l.length cap)∧F'.get 1=some (.int .i64 (a':Int))∧F'.get 2=some (.int .i64 (b':Int))∧F'.get 8=some (.bool x8)∧F'.get 9=some (.bool x9)∧F'.get 10=some (.int .i64 ((b' - a':Nat):Int))∧∃ lm,F'.get 3=some (.int .i64 lm):=⟨_,rfl⟩
 refine B6j M1 (by rfl) ?_ ?_
 ·cases x8 with
  | true=>
   simp only [↓Sh.dn,sx,Nat.reduceBEq,reduceCtorEq,Nat.reduceEqDiff,hM1,f0,f1,f2,f3,f8,f9]
   exact ⟨l1,.refl l1,hv1,hc1,lm,rfl⟩
  | false=>
   obtain ⟨r,H2,hd,l2,q1,q3,q4⟩:=A89 (cap:=cap) hv1 hc1.wf (by omega) (by omega:a'+12 < b') (by omega)
   rw [hvl] at hd
   simp only [↓Sh.dn,sx,Nat.reduceBEq,reduceCtorEq,Nat.reduceEqDiff,f0,f1,f2]
   refine ⟨_,_,hd,?_⟩
   simp only [↓Sh.dn,sx,Nat.reduceBEq,reduceCtorEq,Nat.reduceEqDiff,hM1,f0,f1,f2,f3,f8,f9]
   exact ⟨l2,q1,q3,hc1.trans q4,_,rfl⟩
 intro F1 H1 h9
 rw [hM1] at h9
 obtain ⟨l2,hm2,hv2,hc2,f0,f1,f2,f8,f9,f10,lm2,f3⟩:=h9
 have hlen2:l2.length=l.length:=by rw [hm2.length]; exact hlen
 obtain ⟨r,H2,hd,q,hint,rfl,hq1,hq2,hv2',hk2⟩:=B2j (cap:=cap) hv2 hc2.wf (by omega) (by omega:a'+12 < b') (by omega)
 have hc2':Chg (fun y=>y=g) H H2:=hc2.trans hk2.chg
 rw [hlen2] at hd
 simp only [↓Sh.dn,sx,Nat.reduceBEq,reduceCtorEq,Nat.reduceEqDiff,f0,f1,f2]
 refine ⟨_,_,hd,?_⟩
 simp only [↓Sh.dn,sx,Nat.reduceBEq,reduceCtorEq,Nat.reduceEqDiff]
 obtain ⟨M2,hM2⟩:∃ M:Fr→AH→Prop,M=fun F' H9=>∃ l2:List Int,Mix a' b' l1 l2∧A2e H9 g k n l2∧Chg (fun y=>y=g) H H9∧F'.get 0=some (.slice (some ⟨g,0,some k⟩) l.length cap)∧F'.get 1=some (.int .i64 (a':Int))∧F'.get 2=some (.int .i64 (b':Int))∧F'.get 3=some (.int .i64 lm2)∧F'.get 8=some (.bool x8)∧F'.get 9=some (.bool x9)∧F'.get 10=some (.int .i64 ((b' - a':Nat):Int))∧∃ q:Nat,a'≤q∧q < b'∧F'.get 11=some (.int .i64 (q:Int))∧∃ hint,F'.get 12=some (.int .i64 hint):=⟨_,rfl⟩
 refine B6j M2 (by rfl) ?_ ?_
 ·by_cases hh:hint=2
  ·have e1:IntKind.wrap .i64 ((b':Int) - 1)=((b' - 1:Nat):Int):=by rw [wrap64 (by omega) (by omega)]; omega
   have e2:IntKind.wrap .i64 ((q:Int) - (a':Int))=((q - a':Nat):Int):=by rw [wrap64 (by omega) (by omega)]; omega
   have e3:IntKind.wrap .i64 (((b' - 1:Nat):Int) - ((q - a':Nat):Int))=((b' - 1 - (q - a'):Nat):Int):=by rw [wrap64 (by omega) (by omega)]; omega
   obtain ⟨r,H3,hd3,l3,p1,p2,p3⟩:=B3h (cap:=cap) hv2' hk2.wf (by omega) (by omega:a' < b') (by omega)
   rw [hlen2] at hd3
   simp only [↓Sh.dn,sx,Nat.reduceBEq,reduceCtorEq,Nat.reduceEqDiff,hh,decide_true,f0,f1,f2]
   refine ⟨_,_,hd3,?_⟩
   simp only [↓Sh.dn,sx,Nat.reduceBEq,reduceCtorEq,Nat.reduceEqDiff,hM2,f0,f1,f2,f3,f8,f9,f10,e1,e2,e3]
   exact ⟨l3,hm2.trans p1,p2,hc2'.trans p3,b' - 1 - (q - a'),by omega,by omega,rfl,1,rfl⟩
  ·simp only [↓Sh.dn,sx,Nat.reduceBEq,reduceCtorEq,Nat.reduceEqDiff,hh,decide_false,hM2,f0,f1,f2,f3,f8,f9,f10]
   exact ⟨l2,hm2,hv2',hc2',q,hq1,hq2,rfl,hint,rfl⟩
 intro F2 H3 h9
 rw [hM2] at h9
 obtain ⟨l3,hm3,hv3,hc3,f0,f1,f2,f3,f8,f9,f10,q,hq1,hq2,f11,hint,f12⟩:=h9
 have hlen3:l3.length=l.length:=by rw [hm3.length]; exact hlen
 obtain ⟨M3,hM3⟩:∃ M:Fr→AH→Prop,M=fun F' H9=>H3=H9∧F'.get 0=some (.slice (some ⟨g,0,some k⟩) l.length cap)∧F'.get 1=some (.int .i64 (a':Int))∧F'.get 2=some (.int .i64 (b':Int))∧F'.get 3=some (.int .i64 lm2)∧F'.get 8=some (.bool x8)∧F'.get 9=some (.bool x9)∧F'.get 10=some (.int .i64 ((b' - a':Nat):Int))∧F'.get 11=some (.int .i64 (q:Int))∧∃ bb,F'.get 68=some (.bool bb):=⟨_,rfl⟩
 simp only [↓Sh.wp_seq]
 refine B4g M3 (by rfl) ?_ ?_
 ·cases x8 with
  | false=>
   simp only [↓Sh.dn,sx,Nat.reduceBEq,reduceCtorEq,Nat.reduceEqDiff,hM3,f0,f1,f2,f3,f8,f9,f10,f11,f12]
  | true=>
   cases x9 with
   | false=>
    simp only [↓Sh.dn,sx,Nat.reduceBEq,reduceCtorEq,Nat.reduceEqDiff,hM3,f0,f1,f2,f3,f8,f9,f10,f11,f12]
   | true=>
    simp only [↓Sh.dn,sx,Nat.reduceBEq,reduceCtorEq,Nat.reduceEqDiff,hM3,f0,f1,f2,f3,f8,f9,f10,f11,f12]
 intro F3 H4 h9
 rw [hM3] at h9
 obtain ⟨rfl,f0,f1,f2,f3,f8,f9,f10,f11,bb,f68⟩:=h9
 obtain ⟨N,hN⟩:∃ N:Fr→AH→Prop,N=fun F' H9=>∃ l4:List Int,Mix a' b' l1 l4∧A2e H9 g k n l4∧Chg (fun y=>y=g) H H9∧F'.get 0=some (.slice (some ⟨g,0,some k⟩) l.length cap)∧F'.get 1=some (.int .i64 (a':Int))∧F'.get 2=some (.int .i64 (b':Int))∧F'.get 3=some (.int .i64 lm2)∧F'.get 8=some (.bool x8)∧F'.get 9=some (.bool x9)∧F'.get 10=some (.int .i64 ((b' - a':Nat):Int))∧F'.get 11=some (.int .i64 (q:Int)):=⟨_,rfl⟩
 refine wp_cut N (fun F4 H5 h9=>?_) (fun kont=>?_)
 case refine_2=>
  cases bb with
  | false=>
   refine (A3v (by rw [C8a,f68])).2 (Sh.wp_skip.2 (kont _ _ ?_))
   rw [hN]
   exact ⟨l3,hm3,hv3,hc3,f0,f1,f2,f3,f8,f9,f10,f11⟩
  | true=>
   obtain ⟨r,H5,hd5,b5,rfl,l4,p1,p2,p3,p4⟩:=A12 (cap:=cap) hv3 hc3.wf (by omega) (by omega:a' < b') (by omega) (hpr.mix hm3 (by omega))
   rw [hlen3] at hd5
   simp only [↓Sh.dn,sx,Nat.reduceBEq,reduceCtorEq,Nat.reduceEqDiff,f68,f0,f1,f2]
   refine ⟨_,_,hd5,?_⟩
   cases b5 with
   | true=>
    simp only [↓Sh.dn,sx,Nat.reduceBEq,reduceCtorEq,Nat.reduceEqDiff,hres]
    exact ⟨l4,(fin (H2:=H5) (hm3.trans p1) (p2 rfl)).1,(fin (H2:=H5) (hm3.trans p1) (p2 rfl)).2,p3,hc3.trans p4⟩
   | false=>
    refine (A3v ?_).2 (Sh.wp_skip.2 (kont _ _ ?_))
    ·simp only [↓Sh.dn,sx,Nat.reduceBEq,reduceCtorEq,Nat.reduceEqDiff]
    rw [hN]
    exact ⟨l4,hm3.trans p1,p3,hc3.trans p4,by simp only [↓Sh.dn,sx,Nat.reduceBEq,reduceCtorEq,Nat.reduceEqDiff,f0],by simp only [↓Sh.dn,sx,Nat.reduceBEq,reduceCtorEq,Nat.reduceEqDiff,f1],by simp only [↓Sh.dn,sx,Nat.reduceBEq,reduceCtorEq,Nat.reduceEqDiff,f2],by simp only [↓Sh.dn,sx,Nat.reduceBEq,reduceCtorEq,Nat.reduceEqDiff,f3],by simp only [↓Sh.dn,sx,Nat.reduceBEq,reduceCtorEq,Nat.reduceEqDiff,f8],by simp only [↓Sh.dn,sx,Nat.reduceBEq,reduceCtorEq,Nat.reduceEqDiff,f9],by simp only [↓Sh.dn,sx,Nat.reduceBEq,reduceCtorEq,Nat.reduceEqDiff,f10],by simp only [↓Sh.dn,sx,Nat.reduceBEq,reduceCtorEq,Nat.reduceEqDiff,f11]⟩
 rw [hN] at h9
 clear hN
 obtain ⟨l4,hm4,hv4,hc4,f0,f1,f2,f3,f8,f9,f10,f11⟩:=h9
 have hlen4:l4.length=l.length:=by rw [hm4.length]; exact hlen
 have jq:q < l4.length:=by omega
 have iq:=A9c (g:=g) (k:=k) (cap:=cap) (m:=l.length) (i:=q) (j:=.i64) (by omega)
 have xq:=A6c hv4 jq
 have eq4:l4[q]?=some l4[q]:=List.getElem?_eq_getElem jq
 have hpr4:PreInt a' b' l4:=hpr.mix hm4 (by omega)
 have h34:P3 A4c a a' b' b l4:=h3.mix ha' hb' hm4 (by omega)
 have hm04:Mix a b l l4:=hm.trans (hm4.wide ha' hb')
 obtain ⟨M4,hM4⟩:∃ M:Fr→AH→Prop,M=fun F' H9=>H5=H9∧F'.get 0=some (.slice (some ⟨g,0,some k⟩) l.length cap)∧F'.get 1=some (.int .i64 (a':Int))∧F'.get 2=some (.int .i64 (b':Int))∧F'.get 3=some (.int .i64 lm2)∧F'.get 8=some (.bool x8)∧F'.get 9=some (.bool x9)∧F'.get 10=some (.int .i64 ((b' - a':Nat):Int))∧F'.get 11=some (.int .i64 (q:Int))∧∃ bb,F'.get 87=some (.bool bb)∧(bb=true→0 < a'∧∀ y,l4[a' - 1]?=some y→A4c y l4[q]=false):=⟨_,rfl⟩
 simp only [↓Sh.wp_seq]
 refine B4g M4 (by rfl) ?_ ?_
 ·refine (A1b (by kernel_rfl)).2 ?_
  by_cases h0:0 < a'
  ·have d:decide ((0:Int) < (a':Int))=true:=by simp; omega
   have wa1:IntKind.wrap .i64 ((a':Int) - 1)=((a' - 1:Nat):Int):=by rw [wrap64 (by omega) (by omega)]; omega
   have ja:a' - 1 < l4.length:=by omega
   have ia:=A9c (g:=g) (k:=k) (cap:=cap) (m:=l.length) (i:=a' - 1) (j:=.i64) (by omega)
   have xa:=A6c hv4 ja
   have ea:l4[a' - 1]?=some l4[a' - 1]:=List.getElem?_eq_getElem ja
   simp only [↓Sh.dn,sx,Nat.reduceBEq,reduceCtorEq,Nat.reduceEqDiff,f0,f1,f11,d,wa1,ia,iq,xa,xq]
   refine ⟨_,_,A8d,?_⟩
   cases hq:A4c l4[a' - 1] l4[q] with
   | true=>
    simp only [↓Sh.dn,sx,Nat.reduceBEq,reduceCtorEq,Nat.reduceEqDiff,hM4,f0,f1,f2,f3,f8,f9,f10,f11]
   | false=>
    simp only [↓Sh.dn,sx,Nat.reduceBEq,reduceCtorEq,Nat.reduceEqDiff,hM4,f0,f1,f2,f3,f8,f9,f10,f11]
    refine ⟨h0,fun y hy=>?_⟩
    rw [ea] at hy; rw [← Option.some.inj hy]; exact hq
  ·have d:decide ((0:Int) < (a':Int))=false:=by simp; omega
   simp only [↓Sh.dn,sx,Nat.reduceBEq,reduceCtorEq,Nat.reduceEqDiff,hM4,f0,f1,f2,f3,f8,f9,f10,f11,d]
 intro F5 H6 h9
 rw [hM4] at h9
 obtain ⟨rfl,f0,f1,f2,f3,f8,f9,f10,f11,bb,f87,hbb⟩:=h9
 cases bb with
 | true=>
  obtain ⟨hpos,hy⟩:=hbb rfl
  obtain ⟨r,H7,hd7,m,rfl,hm1,hm2',l5,p1,p2,p3,p4,p5⟩:=A56 (cap:=cap) (p:=q) hv4 hc4.wf (by omega) hq1 hq2 (by omega)
  rw [hlen4] at hd7
  simp only [↓Sh.dn,sx,Nat.reduceBEq,reduceCtorEq,Nat.reduceEqDiff,f87,f0,f1,f2,f11]
  refine ⟨_,_,hd7,?_⟩
  try simp only [↓Sh.dn,sx,Nat.reduceBEq,reduceCtorEq,Nat.reduceEqDiff]
  have hge4:∀ (i:Nat) x,a'≤i→i < b'→l4[i]?=some x→A4c x l4[q]=false:=by
   intro i x h1 h2 hx
   have ja:a' - 1 < l4.length:=by omega
   have ea:l4[a' - 1]?=some l4[a' - 1]:=List.getElem?_eq_getElem ja
   exact hTO.le_trans (hy _ ea) (hpr4 i x _ hpos ea h1 h2 hx)
  have hge:∀ (i:Nat) x,a'≤i→i < b'→l5[i]?=some x→A4c x l4[q]=false:=p1.all (p:=fun x=>A4c x l4[q]=false) (by omega) hge4
  have heq:∀ (i:Nat) x,a'≤i→i < m→l5[i]?=some x→x=l4[q]:=by
   intro i x h1 h2 hx
   rcases hTO.tri x l4[q] with h | h | h
   ·rw [hge i x h1 (by omega) hx] at h; cases h
   ·exact h
   ·rw [p2 i x h1 h2 hx] at h; cases h
  have h35:=h34.mix ha' hb' p1 (by omega)
  refine kk (b' - m) _ _ (by omega) ⟨m,b',l5,lm2,x8,x9,rfl,by omega,by omega,hb',hm04.trans (p1.wide ha' hb'),fun i j x z h1 h2 h3' h4 hx hz=>?_,fun i x y h0 hy' h1 h2 hx=>?_,p4,hc4.trans p5,by simp only [↓Sh.dn,sx,Nat.reduceBEq,reduceCtorEq,Nat.reduceEqDiff,f0],by simp only [↓Sh.dn,sx,Nat.reduceBEq,reduceCtorEq,Nat.reduceEqDiff],by simp only [↓Sh.dn,sx,Nat.reduceBEq,reduceCtorEq,Nat.reduceEqDiff,f2],by simp only [↓Sh.dn,sx,Nat.reduceBEq,reduceCtorEq,Nat.reduceEqDiff,f3],by simp only [↓Sh.dn,sx,Nat.reduceBEq,reduceCtorEq,Nat.reduceEqDiff,f8],by simp only [↓Sh.dn,sx,Nat.reduceBEq,reduceCtorEq,Nat.reduceEqDiff,f9]⟩
  ·by_cases hin:a'≤i∧j < b'
   ·have hx':=heq i x hin.1 (by omega) hx
    by_cases hj:j < m
    ·have hz':=heq j z (by omega) hj hz
     rw [hx',hz']; exact hTO.irrefl _
    ·rw [hx']; exact hTO.asymm (p3 j z (by omega) hin.2 hz)
   ·exact h35 i j x z h1 h2 h3' hin hx hz
  ·have hy2:=heq (m - 1) y (by omega) (by omega) hy'
   rw [hy2]; exact hTO.asymm (p3 i x h1 h2 hx)
 | false=>
  obtain ⟨r,H7,hd7,m,al,rfl,hm1,hm2',l5,p1,y,py,p2,p3,p4,p5⟩:=B51 (cap:=cap) (p:=q) hv4 hc4.wf (by omega) hq1 hq2 (by omega)
  rw [hlen4] at hd7
  have hlen5:l5.length=l.length:=by rw [p1.length]; exact hlen4
  have s1:IntKind.wrap .i64 ((m:Int) - (a':Int))=((m - a':Nat):Int):=by rw [wrap64 (by omega) (by omega)]; omega
  have s2:IntKind.wrap .i64 ((b':Int) - (m:Int))=((b' - m:Nat):Int):=by rw [wrap64 (by omega) (by omega)]; omega
  have s3:Int.tdiv ((b' - a':Nat):Int) 8=(((b' - a') / 8:Nat):Int):=by rw [Int.tdiv_eq_ediv_of_nonneg (by omega)]; rfl
  have s4:IntKind.wrap .i64 (((b' - a') / 8:Nat):Int)=(((b' - a') / 8:Nat):Int):=wrap64 (by omega) (by omega)
  have s5:IntKind.wrap .i64 ((m:Int)+1)=((m+1:Nat):Int):=by rw [wrap64 (by omega) (by omega)]; rfl
  simp only [↓Sh.dn,sx,Nat.reduceBEq,reduceCtorEq,Nat.reduceEqDiff,f87,f0,f1,f2,f11]
  refine ⟨_,_,hd7,?_⟩
  simp only [↓Sh.dn,sx,Nat.reduceBEq,reduceCtorEq,Nat.reduceEqDiff,f1,f2,f10,s1,s2,A80 (show (8:Int)≠0 by decide),s3,s4,A1a]
  have hpr5:PreInt a' b' l5:=hpr4.mix p1 (by omega)
  have h35:=h34.mix ha' hb' p1 (by omega)
  have hm05:=hm04.trans (p1.wide ha' hb')
  have hc5:=hc4.trans p5
  by_cases hlr:m - a' < b' - m
  ·obtain ⟨r,H8,hd8,l6,u1,u2,u3,u4⟩:=ih (m - a') (by omega) (lim:=lm2) (a:=a') (b:=m) (Nat.le_refl _) p4 p5.wf (by omega) hm1 (by omega) (fun i x z h0 hz h1 h2 hx=>hpr5 i x z h0 hz h1 (by omega) hx)
   rw [hlen5] at hd8
   have py6:l6[m]?=some y:=by rw [u1.out (.inr (Nat.le_refl _))]; exact py
   have hpart:=P3.part hTO (h35.mix ha' hb' (u1.wide (Nat.le_refl _) (by omega)) (by omega)) hm1 hm2' py6 (u1.all (p:=fun x=>A4c x y=true) (by omega) (fun i x h1 h2 hx=>p2 i x h1 h2 hx)) (fun i x h1 h2 hx=>p3 i x h1 h2 (by rw [← u1.out (.inr (by omega))]; exact hx))
   simp only [↓Sh.dn,sx,Nat.reduceBEq,reduceCtorEq,Nat.reduceEqDiff,hlr,decide_true,f0,f1,f3]
   refine ⟨_,_,hd8,?_⟩
   try simp only [↓Sh.dn,sx,Nat.reduceBEq,reduceCtorEq,Nat.reduceEqDiff,s5]
   exact kk (b' - (m + 1)) _ _ (by omega) ⟨m + 1, b', l6, lm2, _, al, rfl, by omega, by omega, hb', hm05.trans (u1.wide ha' (by omega)), hpart.1 u2, fun i x z h0 hz h1 h2 hx => by
       rw [show m + 1 - 1 = m by omega, py6] at hz
       rw [← Option.some.inj hz]
       exact p3 i x (by omega) h2 (by rw [← u1.out (.inr (by omega))]; exact hx), u3, hc5.trans u4, by simp only [↓Sh.dn, sx, Nat.reduceBEq, reduceCtorEq, Nat.reduceEqDiff, f0], by simp only [↓Sh.dn, sx, Nat.reduceBEq, reduceCtorEq, Nat.reduceEqDiff], by simp only [↓Sh.dn, sx, Nat.reduceBEq, reduceCtorEq, Nat.reduceEqDiff, f2], by simp only [↓Sh.dn, sx, Nat.reduceBEq, reduceCtorEq, Nat.reduceEqDiff, f3], by simp only [↓Sh.dn, sx, Nat.reduceBEq, reduceCtorEq, Nat.reduceEqDiff]; rfl, by simp only [↓Sh.dn, sx, Nat.reduceBEq, reduceCtorEq, Nat.reduceEqDiff]⟩
  ·obtain ⟨r, H8, hd8, l6, u1, u2, u3, u4⟩ := ih (b' - (m + 1)) (by omega) (lim := lm2) (a := m + 1) (b := b') (Nat.le_refl _) p4 p5.wf (by omega) (by omega) (by omega) (fun i x z h0 hz h1 h2 hx => by
     rw [show m + 1 - 1 = m by omega, py] at hz
     rw [← Option.some.inj hz]
     exact p3 i x (by omega) h2 hx)
   rw [hlen5] at hd8
   have py6 : l6[m]? = some y := by rw [u1.out (.inl (by omega))]; exact py
   have hpart := P3.part hTO (h35.mix ha' hb' (u1.wide (by omega) (Nat.le_refl _)) (by omega)) hm1 hm2' py6 (fun i x h1 h2 hx => p2 i x h1 h2 (by rw [← u1.out (.inl (by omega))]; exact hx)) (fun i x h1 h2 hx => u1.all (p := fun x => A4c x y = false) (by omega) (fun i x h1 h2 hx => p3 i x (by omega) h2 hx) i x (by omega) h2 hx)
   simp only [↓Sh.dn, sx, Nat.reduceBEq, reduceCtorEq, Nat.reduceEqDiff, hlr, decide_false, f0, f1, f2, f3, s5]
   refine ⟨_, _, hd8, ?_⟩
   try simp only [↓Sh.dn, sx, Nat.reduceBEq, reduceCtorEq, Nat.reduceEqDiff]
   exact kk (m - a') _ _ (by omega) ⟨a', m, l6, lm2, _, al, rfl, ha', hm1, by omega, hm05.trans (u1.wide (by omega) hb'), hpart.2 u2, fun i x z h0 hz h1 h2 hx => by
       rw [u1.out (.inl (by omega))] at hz
       rw [u1.out (.inl (by omega))] at hx
       exact hpr5 i x z h0 hz h1 (by omega) hx, u3, hc5.trans u4, by simp only [↓Sh.dn, sx, Nat.reduceBEq, reduceCtorEq, Nat.reduceEqDiff, f0], by simp only [↓Sh.dn, sx, Nat.reduceBEq, reduceCtorEq, Nat.reduceEqDiff, f1], by simp only [↓Sh.dn, sx, Nat.reduceBEq, reduceCtorEq, Nat.reduceEqDiff], by simp only [↓Sh.dn, sx, Nat.reduceBEq, reduceCtorEq, Nat.reduceEqDiff, f3], by simp only [↓Sh.dn, sx, Nat.reduceBEq, reduceCtorEq, Nat.reduceEqDiff]; rfl, by simp only [↓Sh.dn, sx, Nat.reduceBEq, reduceCtorEq, Nat.reduceEqDiff]⟩
end Go.Proofs.YtcgbiedfbacgpaaGreat
