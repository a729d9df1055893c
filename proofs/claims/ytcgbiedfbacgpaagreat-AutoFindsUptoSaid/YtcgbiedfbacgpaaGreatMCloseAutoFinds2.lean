/- A part of the proof: Facts, NetFacts. -/
import Derived.Test.YtcgbiedfbacgpaaGreatProg
import Derived.Test.YtcgbiedfbacgpaaGreatMCloseAutoFinds1
import Derived.KernelRfl
set_option linter.unusedVariables false
set_option linter.unusedSimpArgs false
/- What the types of this program are, for walking. Made by program. -/
set_option linter.unusedVariables false
namespace Go.Proofs.YtcgbiedfbacgpaaGreat
open Go Go.Proofs Go.Proofs.Sh
theorem agg_1:A9f Tryz.prog 1=some false:=by kernel_rfl
theorem zero_1:zeroAt Tryz.prog 1=some (.nilFunc):=by kernel_rfl
theorem ld_1 {H:AH} {a:Addr}:A7f Tryz.prog 1 H (.pointer (some a))=H.cell a:=A8b agg_1
theorem agg_2:A9f Tryz.prog 2=some false:=by kernel_rfl
theorem zero_2:zeroAt Tryz.prog 2=some (.int .i64 0):=by kernel_rfl
theorem ld_2 {H:AH} {a:Addr}:A7f Tryz.prog 2 H (.pointer (some a))=H.cell a:=A8b agg_2
theorem agg_3:A9f Tryz.prog 3=some false:=by kernel_rfl
theorem A3c:A9b Tryz.prog 3=some 1:=by kernel_rfl
theorem B26:Tryz.prog.cellsOf 3=1:=by kernel_rfl
theorem A91:zeroAt Tryz.prog 3=some (.int .i64 0):=by kernel_rfl
theorem ld_3 {H:AH} {a:Addr}:A7f Tryz.prog 3 H (.pointer (some a))=H.cell a:=A8b agg_3
theorem agg_4:A9f Tryz.prog 4=some false:=by kernel_rfl
theorem A8h:A9b Tryz.prog 4=some 1:=by kernel_rfl
theorem B9n:zeroAt Tryz.prog 4=some (.bool false):=by kernel_rfl
theorem ld_4 {H:AH} {a:Addr}:A7f Tryz.prog 4 H (.pointer (some a))=H.cell a:=A8b agg_4
theorem agg_5:A9f Tryz.prog 5=some false:=by kernel_rfl
theorem zero_5:zeroAt Tryz.prog 5=some (.int .u8 0):=by kernel_rfl
theorem ld_5 {H:AH} {a:Addr}:A7f Tryz.prog 5 H (.pointer (some a))=H.cell a:=A8b agg_5
theorem agg_9:A9f Tryz.prog 9=some false:=by kernel_rfl
theorem A6j:A9b Tryz.prog 9=some 1:=by kernel_rfl
theorem C1v:Tryz.prog.cellsOf 9=1:=by kernel_rfl
theorem B9k:zeroAt Tryz.prog 9=some (.string ⟨#[]⟩):=by kernel_rfl
theorem ld_9 {H:AH} {a:Addr}:A7f Tryz.prog 9 H (.pointer (some a))=H.cell a:=A8b agg_9
theorem agg_22:A9f Tryz.prog 22=some false:=by kernel_rfl
theorem A00:A9b Tryz.prog 22=some 1:=by kernel_rfl
theorem cells_22:Tryz.prog.cellsOf 22=1:=by kernel_rfl
theorem B3d:zeroAt Tryz.prog 22=some (.slice none 0 0):=by kernel_rfl
theorem ld_22 {H:AH} {a:Addr}:A7f Tryz.prog 22 H (.pointer (some a))=H.cell a:=A8b agg_22
theorem agg_23:A9f Tryz.prog 23=some false:=by kernel_rfl
theorem size_23:A9b Tryz.prog 23=some 1:=by kernel_rfl
theorem cells_23:Tryz.prog.cellsOf 23=1:=by kernel_rfl
theorem C1y:zeroAt Tryz.prog 23=some (.slice none 0 0):=by kernel_rfl
theorem ld_23 {H:AH} {a:Addr}:A7f Tryz.prog 23 H (.pointer (some a))=H.cell a:=A8b agg_23
theorem agg_24:A9f Tryz.prog 24=some false:=by kernel_rfl
theorem size_24:A9b Tryz.prog 24=some 1:=by kernel_rfl
theorem cells_24:Tryz.prog.cellsOf 24=1:=by kernel_rfl
theorem C1x:zeroAt Tryz.prog 24=some (.slice none 0 0):=by kernel_rfl
theorem ld_24 {H:AH} {a:Addr}:A7f Tryz.prog 24 H (.pointer (some a))=H.cell a:=A8b agg_24
theorem agg_26:A9f Tryz.prog 26=some true:=by kernel_rfl
theorem B56:A9b Tryz.prog 26=some 4:=by kernel_rfl
theorem cells_26:Tryz.prog.cellsOf 26=4:=by kernel_rfl
theorem C3u:zeroAt Tryz.prog 26=some (.agg #[.slice none 0 0,.int .i64 0,.slice none 0 0,.slice none 0 0]):=by kernel_rfl
theorem ld_26 {H:AH} {a:Addr}:A7f Tryz.prog 26 H (.pointer (some a))=(H.cells a 4).map fun l=>.agg l.toArray:=A2s agg_26 B56
theorem agg_29:A9f Tryz.prog 29=some false:=by kernel_rfl
theorem C9y:A9b Tryz.prog 29=some 1:=by kernel_rfl
theorem C3v:zeroAt Tryz.prog 29=some (.slice none 0 0):=by kernel_rfl
theorem ld_29 {H:AH} {a:Addr}:A7f Tryz.prog 29 H (.pointer (some a))=H.cell a:=A8b agg_29
theorem agg_30:A9f Tryz.prog 30=some false:=by kernel_rfl
theorem C2q:zeroAt Tryz.prog 30=some (.int .i64 0):=by kernel_rfl
theorem ld_30 {H:AH} {a:Addr}:A7f Tryz.prog 30 H (.pointer (some a))=H.cell a:=A8b agg_30
theorem agg_49:A9f Tryz.prog 49=some true:=by kernel_rfl
theorem A1q:A9b Tryz.prog 49=some 5:=by kernel_rfl
theorem C6d:Tryz.prog.cellsOf 49=5:=by kernel_rfl
theorem B06:zeroAt Tryz.prog 49=some (.agg #[.int .i64 0,.string ⟨#[]⟩,.string ⟨#[]⟩,.int .i64 0,.int .i64 0]):=by kernel_rfl
theorem ld_49 {H:AH} {a:Addr}:A7f Tryz.prog 49 H (.pointer (some a))=(H.cells a 5).map fun l=>.agg l.toArray:=A2s agg_49 A1q
theorem agg_51:A9f Tryz.prog 51=some true:=by kernel_rfl
theorem A3u:A9b Tryz.prog 51=some 2:=by kernel_rfl
theorem C4c:Tryz.prog.cellsOf 51=2:=by kernel_rfl
theorem C8a:zeroAt Tryz.prog 51=some (.agg #[.int .i64 0,.int .i64 0]):=by kernel_rfl
theorem ld_51 {H:AH} {a:Addr}:A7f Tryz.prog 51 H (.pointer (some a))=(H.cells a 2).map fun l=>.agg l.toArray:=A2s agg_51 A3u
theorem agg_52:A9f Tryz.prog 52=some false:=by kernel_rfl
theorem B16:A9b Tryz.prog 52=some 1:=by kernel_rfl
theorem C8o:zeroAt Tryz.prog 52=some (.pointer none):=by kernel_rfl
theorem ld_52 {H:AH} {a:Addr}:A7f Tryz.prog 52 H (.pointer (some a))=H.cell a:=A8b agg_52
theorem agg_57:A9f Tryz.prog 57=some false:=by kernel_rfl
theorem size_57:A9b Tryz.prog 57=some 1:=by kernel_rfl
theorem C1q:zeroAt Tryz.prog 57=some (.slice none 0 0):=by kernel_rfl
theorem ld_57 {H:AH} {a:Addr}:A7f Tryz.prog 57 H (.pointer (some a))=H.cell a:=A8b agg_57
theorem agg_58:A9f Tryz.prog 58=some false:=by kernel_rfl
theorem B4e:A9b Tryz.prog 58=some 1:=by kernel_rfl
theorem B1i:zeroAt Tryz.prog 58=some (.slice none 0 0):=by kernel_rfl
theorem ld_58 {H:AH} {a:Addr}:A7f Tryz.prog 58 H (.pointer (some a))=H.cell a:=A8b agg_58
theorem agg_60:A9f Tryz.prog 60=some true:=by kernel_rfl
theorem B1e:A9b Tryz.prog 60=some 3:=by kernel_rfl
theorem B67:zeroAt Tryz.prog 60=some (.agg #[.int .i64 0,.slice none 0 0,.slice none 0 0]):=by kernel_rfl
theorem ld_60 {H:AH} {a:Addr}:A7f Tryz.prog 60 H (.pointer (some a))=(H.cells a 3).map fun l=>.agg l.toArray:=A2s agg_60 B1e
theorem agg_64:A9f Tryz.prog 64=some false:=by kernel_rfl
theorem C6r:zeroAt Tryz.prog 64=some (.nilFunc):=by kernel_rfl
theorem ld_64 {H:AH} {a:Addr}:A7f Tryz.prog 64 H (.pointer (some a))=H.cell a:=A8b agg_64
theorem agg_65:A9f Tryz.prog 65=some false:=by kernel_rfl
theorem C4q:A9b Tryz.prog 65=some 1:=by kernel_rfl
theorem C31:zeroAt Tryz.prog 65=some (.slice none 0 0):=by kernel_rfl
theorem ld_65 {H:AH} {a:Addr}:A7f Tryz.prog 65 H (.pointer (some a))=H.cell a:=A8b agg_65
theorem agg_68:A9f Tryz.prog 68=some false:=by kernel_rfl
theorem size_68:A9b Tryz.prog 68=some 1:=by kernel_rfl
theorem C9u:zeroAt Tryz.prog 68=some (.slice none 0 0):=by kernel_rfl
theorem ld_68 {H:AH} {a:Addr}:A7f Tryz.prog 68 H (.pointer (some a))=H.cell a:=A8b agg_68
theorem agg_69:A9f Tryz.prog 69=some false:=by kernel_rfl
theorem A3y:A9b Tryz.prog 69=some 1:=by kernel_rfl
theorem A46:zeroAt Tryz.prog 69=some (.slice none 0 0):=by kernel_rfl
theorem ld_69 {H:AH} {a:Addr}:A7f Tryz.prog 69 H (.pointer (some a))=H.cell a:=A8b agg_69
theorem agg_71:A9f Tryz.prog 71=some true:=by kernel_rfl
theorem C7r:A9b Tryz.prog 71=some 4:=by kernel_rfl
theorem B39:zeroAt Tryz.prog 71=some (.agg #[.slice none 0 0,.slice none 0 0,.slice none 0 0,.slice none 0 0]):=by kernel_rfl
theorem ld_71 {H:AH} {a:Addr}:A7f Tryz.prog 71 H (.pointer (some a))=(H.cells a 4).map fun l=>.agg l.toArray:=A2s agg_71 C7r
theorem agg_87:A9f Tryz.prog 87=some false:=by kernel_rfl
theorem C5z:zeroAt Tryz.prog 87=some (.map none):=by kernel_rfl
theorem ld_87 {H:AH} {a:Addr}:A7f Tryz.prog 87 H (.pointer (some a))=H.cell a:=A8b agg_87
theorem agg_90:A9f Tryz.prog 90=some false:=by kernel_rfl
theorem C3z:zeroAt Tryz.prog 90=some (.nilFunc):=by kernel_rfl
theorem ld_90 {H:AH} {a:Addr}:A7f Tryz.prog 90 H (.pointer (some a))=H.cell a:=A8b agg_90
theorem agg_92:A9f Tryz.prog 92=some false:=by kernel_rfl
theorem A39:A9b Tryz.prog 92=some 1:=by kernel_rfl
theorem B8r:zeroAt Tryz.prog 92=some (.slice none 0 0):=by kernel_rfl
theorem ld_92 {H:AH} {a:Addr}:A7f Tryz.prog 92 H (.pointer (some a))=H.cell a:=A8b agg_92
theorem agg_95:A9f Tryz.prog 95=some true:=by kernel_rfl
theorem A13:A9b Tryz.prog 95=some 4:=by kernel_rfl
theorem A17:zeroAt Tryz.prog 95=some (.agg #[.int .i64 0,.int .i64 0,.int .i64 0,.int .i64 0]):=by kernel_rfl
theorem ld_95 {H:AH} {a:Addr}:A7f Tryz.prog 95 H (.pointer (some a))=(H.cells a 4).map fun l=>.agg l.toArray:=A2s agg_95 A13
theorem agg_97:A9f Tryz.prog 97=some false:=by kernel_rfl
theorem A3q:A9b Tryz.prog 97=some 1:=by kernel_rfl
theorem B7r:zeroAt Tryz.prog 97=some (.slice none 0 0):=by kernel_rfl
theorem ld_97 {H:AH} {a:Addr}:A7f Tryz.prog 97 H (.pointer (some a))=H.cell a:=A8b agg_97
theorem agg_99:A9f Tryz.prog 99=some true:=by kernel_rfl
theorem A1t:A9b Tryz.prog 99=some 2:=by kernel_rfl
theorem A56:zeroAt Tryz.prog 99=some (.agg #[.string ⟨#[]⟩,.int .i64 0]):=by kernel_rfl
theorem ld_99 {H:AH} {a:Addr}:A7f Tryz.prog 99 H (.pointer (some a))=(H.cells a 2).map fun l=>.agg l.toArray:=A2s agg_99 A1t
theorem agg_102:A9f Tryz.prog 102=some false:=by kernel_rfl
theorem C9g:zeroAt Tryz.prog 102=some (.pointer none):=by kernel_rfl
theorem ld_102 {H:AH} {a:Addr}:A7f Tryz.prog 102 H (.pointer (some a))=H.cell a:=A8b agg_102
theorem agg_103:A9f Tryz.prog 103=some false:=by kernel_rfl
theorem B4s:A9b Tryz.prog 103=some 1:=by kernel_rfl
theorem C1c:zeroAt Tryz.prog 103=some (.slice none 0 0):=by kernel_rfl
theorem ld_103 {H:AH} {a:Addr}:A7f Tryz.prog 103 H (.pointer (some a))=H.cell a:=A8b agg_103
theorem agg_105:A9f Tryz.prog 105=some true:=by kernel_rfl
theorem C8i:A9b Tryz.prog 105=some 6:=by kernel_rfl
theorem B8t:zeroAt Tryz.prog 105=some (.agg #[.int .i64 0,.slice none 0 0,.slice none 0 0,.slice none 0 0,.int .i64 0,.slice none 0 0]):=by kernel_rfl
theorem ld_105 {H:AH} {a:Addr}:A7f Tryz.prog 105 H (.pointer (some a))=(H.cells a 6).map fun l=>.agg l.toArray:=A2s agg_105 C8i
theorem agg_110:A9f Tryz.prog 110=some false:=by kernel_rfl
theorem C3e:zeroAt Tryz.prog 110=some (.nilFunc):=by kernel_rfl
theorem ld_110 {H:AH} {a:Addr}:A7f Tryz.prog 110 H (.pointer (some a))=H.cell a:=A8b agg_110
theorem agg_113:A9f Tryz.prog 113=some false:=by kernel_rfl
theorem size_113:A9b Tryz.prog 113=some 1:=by kernel_rfl
theorem C9e:zeroAt Tryz.prog 113=some (.nilFunc):=by kernel_rfl
theorem ld_113 {H:AH} {a:Addr}:A7f Tryz.prog 113 H (.pointer (some a))=H.cell a:=A8b agg_113
theorem agg_114:A9f Tryz.prog 114=some false:=by kernel_rfl
theorem B0c:A9b Tryz.prog 114=some 1:=by kernel_rfl
theorem B7b:zeroAt Tryz.prog 114=some (.slice none 0 0):=by kernel_rfl
theorem ld_114 {H:AH} {a:Addr}:A7f Tryz.prog 114 H (.pointer (some a))=H.cell a:=A8b agg_114
theorem agg_117:A9f Tryz.prog 117=some false:=by kernel_rfl
theorem C6c:zeroAt Tryz.prog 117=some (.slice none 0 0):=by kernel_rfl
theorem ld_117 {H:AH} {a:Addr}:A7f Tryz.prog 117 H (.pointer (some a))=H.cell a:=A8b agg_117
theorem agg_121:A9f Tryz.prog 121=some false:=by kernel_rfl
theorem C6g:zeroAt Tryz.prog 121=some (.nilFunc):=by kernel_rfl
theorem ld_121 {H:AH} {a:Addr}:A7f Tryz.prog 121 H (.pointer (some a))=H.cell a:=A8b agg_121
theorem agg_129:A9f Tryz.prog 129=some false:=by kernel_rfl
theorem C2e:zeroAt Tryz.prog 129=some (.nilFunc):=by kernel_rfl
theorem ld_129 {H:AH} {a:Addr}:A7f Tryz.prog 129 H (.pointer (some a))=H.cell a:=A8b agg_129
theorem agg_139:A9f Tryz.prog 139=some false:=by kernel_rfl
theorem C3c:zeroAt Tryz.prog 139=some (.int .u64 0):=by kernel_rfl
theorem ld_139 {H:AH} {a:Addr}:A7f Tryz.prog 139 H (.pointer (some a))=H.cell a:=A8b agg_139
theorem agg_144:A9f Tryz.prog 144=some true:=by kernel_rfl
theorem A20:A9b Tryz.prog 144=some 2:=by kernel_rfl
theorem A31:zeroAt Tryz.prog 144=some (.agg #[.int .i64 0,.int .i64 0]):=by kernel_rfl
theorem ld_144 {H:AH} {a:Addr}:A7f Tryz.prog 144 H (.pointer (some a))=(H.cells a 2).map fun l=>.agg l.toArray:=A2s agg_144 A20
theorem agg_145:A9f Tryz.prog 145=some false:=by kernel_rfl
theorem C8f:zeroAt Tryz.prog 145=some (.slice none 0 0):=by kernel_rfl
theorem ld_145 {H:AH} {a:Addr}:A7f Tryz.prog 145 H (.pointer (some a))=H.cell a:=A8b agg_145
theorem agg_146:A9f Tryz.prog 146=some false:=by kernel_rfl
theorem C1g:zeroAt Tryz.prog 146=some (.pointer none):=by kernel_rfl
theorem ld_146 {H:AH} {a:Addr}:A7f Tryz.prog 146 H (.pointer (some a))=H.cell a:=A8b agg_146
theorem agg_152:A9f Tryz.prog 152=some false:=by kernel_rfl
theorem C5b:zeroAt Tryz.prog 152=some (.int .i64 0):=by kernel_rfl
theorem ld_152 {H:AH} {a:Addr}:A7f Tryz.prog 152 H (.pointer (some a))=H.cell a:=A8b agg_152
theorem agg_160:A9f Tryz.prog 160=some false:=by kernel_rfl
theorem C5c:zeroAt Tryz.prog 160=some (.int .u32 0):=by kernel_rfl
theorem ld_160 {H:AH} {a:Addr}:A7f Tryz.prog 160 H (.pointer (some a))=H.cell a:=A8b agg_160
theorem agg_162:A9f Tryz.prog 162=some false:=by kernel_rfl
theorem C2j:zeroAt Tryz.prog 162=some (.int .u64 0):=by kernel_rfl
theorem ld_162 {H:AH} {a:Addr}:A7f Tryz.prog 162 H (.pointer (some a))=H.cell a:=A8b agg_162
theorem agg_168:A9f Tryz.prog 168=some false:=by kernel_rfl
theorem A01:A9b Tryz.prog 168=some 1:=by kernel_rfl
theorem C9i:zeroAt Tryz.prog 168=some (.int .u64 0):=by kernel_rfl
theorem ld_168 {H:AH} {a:Addr}:A7f Tryz.prog 168 H (.pointer (some a))=H.cell a:=A8b agg_168
theorem agg_172:A9f Tryz.prog 172=some false:=by kernel_rfl
theorem C8c:zeroAt Tryz.prog 172=some (.pointer none):=by kernel_rfl
theorem ld_172 {H:AH} {a:Addr}:A7f Tryz.prog 172 H (.pointer (some a))=H.cell a:=A8b agg_172
theorem agg_176:A9f Tryz.prog 176=some false:=by kernel_rfl
theorem C7c:zeroAt Tryz.prog 176=some (.pointer none):=by kernel_rfl
theorem ld_176 {H:AH} {a:Addr}:A7f Tryz.prog 176 H (.pointer (some a))=H.cell a:=A8b agg_176
theorem len_9 {H:AH} {s:ByteArray}:A4a Tryz.prog .len [9] [.string s] H=some (.int .i64 (s.size:Int),H):=C0k Tryz.underlying9
theorem ia_22 {g o k n c i:Nat} {j:IntKind} (h:i < n):A9a Tryz.prog 22 (.slice (some ⟨g,o,some k⟩) n c) (.int j (i:Int))=some (.pointer (some ⟨g,o+i * 1,some k⟩)):=A1r Tryz.underlying22 A6j h
theorem len_22 {H:AH} {n c:Nat} {a:Option Addr}:A4a Tryz.prog .len [22] [.slice a n c] H=some (.int .i64 (n:Int),H):=A6g Tryz.underlying22
theorem B18:((Tryz.prog.info? 9).map fun i=>Nat.beq i.size 1 && Nat.ble i.bytes 65536)=some true:=by kernel_rfl
theorem C2z {H:AH} {t' len cap n:Nat} {base:Option Addr} {x:Value} {new:List Value} (hx:Sh.srcKind Tryz.prog t' x=true) (hn:Sh.newCells 1 H x=some (n,new)) (hb:len+n≤1073741824):A4a Tryz.prog .append [22,t'] [.slice base len cap,x] H=A0e 1 base len cap n new H:=A94 Tryz.underlying22 B18 B9k rfl (Nat.le_of_ble_eq_true rfl) hx hn hb
theorem app1_22 {H:AH} {len cap:Nat} {base:Option Addr} {x:List Value} (hx:x.length=1) (hb:len≤1073741823):A4a Tryz.prog .append [22,22] [.slice base len cap,.slice (some ⟨H.next,0,some 0⟩) 1 1] (H.new 1 x).2=A0e 1 base len cap 1 x (H.new 1 x).2:=A0m Tryz.underlying22 B18 B9k rfl (Nat.le_of_ble_eq_true rfl) hx hb
theorem C6j {c:Bool} {a:Option Addr} {n m:Nat}:abin Tryz.prog 22 c .eql (.slice a n m) (.slice none 0 0)=some (.bool a.isNone):=A5h Tryz.underlying22
theorem B03 {c:Bool} {a:Option Addr} {n m:Nat}:abin Tryz.prog 22 c .neq (.slice a n m) (.slice none 0 0)=some (.bool a.isSome):=A9d Tryz.underlying22
theorem mk_22 {H:AH} {l c:Nat} (hlc:l≤c) (hc:c≤1073741824):A5f Tryz.prog 22 (.int .i64 (l:Int)) (.int .i64 (c:Int)) H=some (.slice (some ⟨H.next,0,some 0⟩) l c,(H.new 1 (List.replicate c (.string ⟨#[]⟩))).2):=by rw [← A6w]; exact A62 Tryz.underlying22 B18 B9k rfl (Nat.le_of_ble_eq_true rfl) hlc hc
theorem B8z {H:AH}:A5a Tryz.prog 22 0 [] H=some (.slice (some ⟨H.next,0,some 0⟩) 0 0,(H.new 1 []).2):=A6h Tryz.underlying22 A6j B9k rfl (Nat.le_of_ble_eq_true rfl)
theorem B12 {H:AH} {x:Value} (hx:(A6a x).length=1) (hc:(A6a x).all isCell=true):A5a Tryz.prog 22 1 [(0,x)] H=some (.slice (some ⟨H.next,0,some 0⟩) 1 1,(H.new 1 (A6a x)).2):=A2p Tryz.underlying22 A6j B9k rfl (Nat.le_of_ble_eq_true rfl) (Nat.le_of_ble_eq_true rfl) hx hc
theorem len_23 {H:AH} {n c:Nat} {a:Option Addr}:A4a Tryz.prog .len [23] [.slice a n c] H=some (.int .i64 (n:Int),H):=A6g Tryz.underlying23
theorem C3g {c:Bool} {a:Option Addr} {n m:Nat}:abin Tryz.prog 23 c .eql (.slice a n m) (.slice none 0 0)=some (.bool a.isNone):=A5h Tryz.underlying23
theorem B04 {c:Bool} {a:Option Addr} {n m:Nat}:abin Tryz.prog 23 c .neq (.slice a n m) (.slice none 0 0)=some (.bool a.isSome):=A9d Tryz.underlying23
theorem B4x {H:AH}:A5a Tryz.prog 23 0 [] H=some (.slice (some ⟨H.next,0,some 0⟩) 0 0,(H.new 5 []).2):=A6h Tryz.underlying23 A1q B06 rfl (Nat.le_of_ble_eq_true rfl)
theorem len_24 {H:AH} {n c:Nat} {a:Option Addr}:A4a Tryz.prog .len [24] [.slice a n c] H=some (.int .i64 (n:Int),H):=A6g Tryz.underlying24
theorem C3i {c:Bool} {a:Option Addr} {n m:Nat}:abin Tryz.prog 24 c .eql (.slice a n m) (.slice none 0 0)=some (.bool a.isNone):=A5h Tryz.underlying24
theorem B9u {c:Bool} {a:Option Addr} {n m:Nat}:abin Tryz.prog 24 c .neq (.slice a n m) (.slice none 0 0)=some (.bool a.isSome):=A9d Tryz.underlying24
theorem B6v {H:AH}:A5a Tryz.prog 24 0 [] H=some (.slice (some ⟨H.next,0,some 0⟩) 0 0,(H.new 2 []).2):=A6h Tryz.underlying24 A3u C8a rfl (Nat.le_of_ble_eq_true rfl)
theorem C2u {g o k:Nat}:A6b Tryz.prog 26 0 (.pointer (some ⟨g,o,some k⟩))=some (.pointer (some ⟨g,o+0,some k⟩)):=by have h:=A4b (g:=g) (o:=o) (k:=k) (f:=0) Tryz.underlying26 (Eq.refl (some _)) A00 rfl; exact h
theorem C7w {g o k:Nat}:A6b Tryz.prog 26 1 (.pointer (some ⟨g,o,some k⟩))=some (.pointer (some ⟨g,o+1,some k⟩)):=by have h:=A4b (g:=g) (o:=o) (k:=k) (f:=1) Tryz.underlying26 (Eq.refl (some _)) A3c rfl; exact h
theorem C2v {g o k:Nat}:A6b Tryz.prog 26 2 (.pointer (some ⟨g,o,some k⟩))=some (.pointer (some ⟨g,o+2,some k⟩)):=by have h:=A4b (g:=g) (o:=o) (k:=k) (f:=2) Tryz.underlying26 (Eq.refl (some _)) size_23 rfl; exact h
theorem C1s {g o k:Nat}:A6b Tryz.prog 26 3 (.pointer (some ⟨g,o,some k⟩))=some (.pointer (some ⟨g,o+3,some k⟩)):=by have h:=A4b (g:=g) (o:=o) (k:=k) (f:=3) Tryz.underlying26 (Eq.refl (some _)) size_24 rfl; exact h
theorem len_29 {H:AH} {n c:Nat} {a:Option Addr}:A4a Tryz.prog .len [29] [.slice a n c] H=some (.int .i64 (n:Int),H):=A6g Tryz.underlying29
theorem info_29:((Tryz.prog.info? 22).map fun i=>Nat.beq i.size 1 && Nat.ble i.bytes 65536)=some true:=by kernel_rfl
theorem app1_29 {H:AH} {len cap:Nat} {base:Option Addr} {x:List Value} (hx:x.length=1) (hb:len≤1073741823):A4a Tryz.prog .append [29,29] [.slice base len cap,.slice (some ⟨H.next,0,some 0⟩) 1 1] (H.new 1 x).2=A0e 1 base len cap 1 x (H.new 1 x).2:=A0m Tryz.underlying29 info_29 B3d rfl (Nat.le_of_ble_eq_true rfl) hx hb
theorem C3f {c:Bool} {a:Option Addr} {n m:Nat}:abin Tryz.prog 29 c .eql (.slice a n m) (.slice none 0 0)=some (.bool a.isNone):=A5h Tryz.underlying29
theorem B91 {c:Bool} {a:Option Addr} {n m:Nat}:abin Tryz.prog 29 c .neq (.slice a n m) (.slice none 0 0)=some (.bool a.isSome):=A9d Tryz.underlying29
theorem B3y {H:AH}:A5a Tryz.prog 29 0 [] H=some (.slice (some ⟨H.next,0,some 0⟩) 0 0,(H.new 1 []).2):=A6h Tryz.underlying29 A00 B3d rfl (Nat.le_of_ble_eq_true rfl)
theorem C5w {H:AH} {x:Value} (hx:(A6a x).length=1) (hc:(A6a x).all isCell=true):A5a Tryz.prog 29 1 [(0,x)] H=some (.slice (some ⟨H.next,0,some 0⟩) 1 1,(H.new 1 (A6a x)).2):=A2p Tryz.underlying29 A00 B3d rfl (Nat.le_of_ble_eq_true rfl) (Nat.le_of_ble_eq_true rfl) hx hc
theorem C10 {g o k:Nat}:A6b Tryz.prog 49 0 (.pointer (some ⟨g,o,some k⟩))=some (.pointer (some ⟨g,o+0,some k⟩)):=by have h:=A4b (g:=g) (o:=o) (k:=k) (f:=0) Tryz.underlying49 (Eq.refl (some _)) A3c rfl; exact h
theorem C4r {g o k:Nat}:A6b Tryz.prog 49 1 (.pointer (some ⟨g,o,some k⟩))=some (.pointer (some ⟨g,o+1,some k⟩)):=by have h:=A4b (g:=g) (o:=o) (k:=k) (f:=1) Tryz.underlying49 (Eq.refl (some _)) A6j rfl; exact h
theorem C8v {g o k:Nat}:A6b Tryz.prog 49 2 (.pointer (some ⟨g,o,some k⟩))=some (.pointer (some ⟨g,o+2,some k⟩)):=by have h:=A4b (g:=g) (o:=o) (k:=k) (f:=2) Tryz.underlying49 (Eq.refl (some _)) A6j rfl; exact h
theorem C5p {g o k:Nat}:A6b Tryz.prog 49 3 (.pointer (some ⟨g,o,some k⟩))=some (.pointer (some ⟨g,o+3,some k⟩)):=by have h:=A4b (g:=g) (o:=o) (k:=k) (f:=3) Tryz.underlying49 (Eq.refl (some _)) A3c rfl; exact h
theorem C3s {g o k:Nat}:A6b Tryz.prog 49 4 (.pointer (some ⟨g,o,some k⟩))=some (.pointer (some ⟨g,o+4,some k⟩)):=by have h:=A4b (g:=g) (o:=o) (k:=k) (f:=4) Tryz.underlying49 (Eq.refl (some _)) A3c rfl; exact h
theorem C4u {g o k:Nat}:A6b Tryz.prog 51 0 (.pointer (some ⟨g,o,some k⟩))=some (.pointer (some ⟨g,o+0,some k⟩)):=by have h:=A4b (g:=g) (o:=o) (k:=k) (f:=0) Tryz.underlying51 (Eq.refl (some _)) A3c rfl; exact h
theorem C0s {g o k:Nat}:A6b Tryz.prog 51 1 (.pointer (some ⟨g,o,some k⟩))=some (.pointer (some ⟨g,o+1,some k⟩)):=by have h:=A4b (g:=g) (o:=o) (k:=k) (f:=1) Tryz.underlying51 (Eq.refl (some _)) A3c rfl; exact h
theorem len_57 {H:AH} {n c:Nat} {a:Option Addr}:A4a Tryz.prog .len [57] [.slice a n c] H=some (.int .i64 (n:Int),H):=A6g Tryz.underlying57
theorem info_57:((Tryz.prog.info? 97).map fun i=>Nat.beq i.size 1 && Nat.ble i.bytes 65536)=some true:=by kernel_rfl
theorem C3b {c:Bool} {a:Option Addr} {n m:Nat}:abin Tryz.prog 57 c .eql (.slice a n m) (.slice none 0 0)=some (.bool a.isNone):=A5h Tryz.underlying57
theorem B6x {c:Bool} {a:Option Addr} {n m:Nat}:abin Tryz.prog 57 c .neq (.slice a n m) (.slice none 0 0)=some (.bool a.isSome):=A9d Tryz.underlying57
theorem mk_57 {H:AH} {l c:Nat} (hlc:l≤c) (hc:c≤1073741824):A5f Tryz.prog 57 (.int .i64 (l:Int)) (.int .i64 (c:Int)) H=some (.slice (some ⟨H.next,0,some 0⟩) l c,(H.new 1 (List.replicate c (.slice none 0 0))).2):=by rw [← A6w]; exact A62 Tryz.underlying57 info_57 B7r rfl (Nat.le_of_ble_eq_true rfl) hlc hc
theorem B0v {H:AH}:A5a Tryz.prog 57 0 [] H=some (.slice (some ⟨H.next,0,some 0⟩) 0 0,(H.new 1 []).2):=A6h Tryz.underlying57 A3q B7r rfl (Nat.le_of_ble_eq_true rfl)
theorem len_58 {H:AH} {n c:Nat} {a:Option Addr}:A4a Tryz.prog .len [58] [.slice a n c] H=some (.int .i64 (n:Int),H):=A6g Tryz.underlying58
theorem C6y:((Tryz.prog.info? 4).map fun i=>Nat.beq i.size 1 && Nat.ble i.bytes 65536)=some true:=by kernel_rfl
theorem app_58 {H:AH} {t' len cap n:Nat} {base:Option Addr} {x:Value} {new:List Value} (hx:Sh.srcKind Tryz.prog t' x=true) (hn:Sh.newCells 1 H x=some (n,new)) (hb:len+n≤1073741824):A4a Tryz.prog .append [58,t'] [.slice base len cap,x] H=A0e 1 base len cap n new H:=A94 Tryz.underlying58 C6y B9n rfl (Nat.le_of_ble_eq_true rfl) hx hn hb
theorem C0j {c:Bool} {a:Option Addr} {n m:Nat}:abin Tryz.prog 58 c .eql (.slice a n m) (.slice none 0 0)=some (.bool a.isNone):=A5h Tryz.underlying58
theorem B4y {c:Bool} {a:Option Addr} {n m:Nat}:abin Tryz.prog 58 c .neq (.slice a n m) (.slice none 0 0)=some (.bool a.isSome):=A9d Tryz.underlying58
theorem B74 {H:AH} {l c:Nat} (hlc:l≤c) (hc:c≤1073741824):A5f Tryz.prog 58 (.int .i64 (l:Int)) (.int .i64 (c:Int)) H=some (.slice (some ⟨H.next,0,some 0⟩) l c,(H.new 1 (List.replicate c (.bool false))).2):=by rw [← A6w]; exact A62 Tryz.underlying58 C6y B9n rfl (Nat.le_of_ble_eq_true rfl) hlc hc
theorem B9v {H:AH}:A5a Tryz.prog 58 0 [] H=some (.slice (some ⟨H.next,0,some 0⟩) 0 0,(H.new 1 []).2):=A6h Tryz.underlying58 A8h B9n rfl (Nat.le_of_ble_eq_true rfl)
theorem C9o {g o k:Nat}:A6b Tryz.prog 60 0 (.pointer (some ⟨g,o,some k⟩))=some (.pointer (some ⟨g,o+0,some k⟩)):=by have h:=A4b (g:=g) (o:=o) (k:=k) (f:=0) Tryz.underlying60 (Eq.refl (some _)) A3c rfl; exact h
theorem C9z {g o k:Nat}:A6b Tryz.prog 60 1 (.pointer (some ⟨g,o,some k⟩))=some (.pointer (some ⟨g,o+1,some k⟩)):=by have h:=A4b (g:=g) (o:=o) (k:=k) (f:=1) Tryz.underlying60 (Eq.refl (some _)) size_57 rfl; exact h
theorem C0u {g o k:Nat}:A6b Tryz.prog 60 2 (.pointer (some ⟨g,o,some k⟩))=some (.pointer (some ⟨g,o+2,some k⟩)):=by have h:=A4b (g:=g) (o:=o) (k:=k) (f:=2) Tryz.underlying60 (Eq.refl (some _)) B4e rfl; exact h
theorem len_65 {H:AH} {n c:Nat} {a:Option Addr}:A4a Tryz.prog .len [65] [.slice a n c] H=some (.int .i64 (n:Int),H):=A6g Tryz.underlying65
theorem C6u:((Tryz.prog.info? 69).map fun i=>Nat.beq i.size 1 && Nat.ble i.bytes 65536)=some true:=by kernel_rfl
theorem app1_65 {H:AH} {len cap:Nat} {base:Option Addr} {x:List Value} (hx:x.length=1) (hb:len≤1073741823):A4a Tryz.prog .append [65,65] [.slice base len cap,.slice (some ⟨H.next,0,some 0⟩) 1 1] (H.new 1 x).2=A0e 1 base len cap 1 x (H.new 1 x).2:=A0m Tryz.underlying65 C6u A46 rfl (Nat.le_of_ble_eq_true rfl) hx hb
theorem C0e {c:Bool} {a:Option Addr} {n m:Nat}:abin Tryz.prog 65 c .eql (.slice a n m) (.slice none 0 0)=some (.bool a.isNone):=A5h Tryz.underlying65
theorem B2w {c:Bool} {a:Option Addr} {n m:Nat}:abin Tryz.prog 65 c .neq (.slice a n m) (.slice none 0 0)=some (.bool a.isSome):=A9d Tryz.underlying65
theorem mk_65 {H:AH} {l c:Nat} (hlc:l≤c) (hc:c≤1073741824):A5f Tryz.prog 65 (.int .i64 (l:Int)) (.int .i64 (c:Int)) H=some (.slice (some ⟨H.next,0,some 0⟩) l c,(H.new 1 (List.replicate c (.slice none 0 0))).2):=by rw [← A6w]; exact A62 Tryz.underlying65 C6u A46 rfl (Nat.le_of_ble_eq_true rfl) hlc hc
theorem B8x {H:AH}:A5a Tryz.prog 65 0 [] H=some (.slice (some ⟨H.next,0,some 0⟩) 0 0,(H.new 1 []).2):=A6h Tryz.underlying65 A3y A46 rfl (Nat.le_of_ble_eq_true rfl)
theorem C9x {H:AH} {x:Value} (hx:(A6a x).length=1) (hc:(A6a x).all isCell=true):A5a Tryz.prog 65 1 [(0,x)] H=some (.slice (some ⟨H.next,0,some 0⟩) 1 1,(H.new 1 (A6a x)).2):=A2p Tryz.underlying65 A3y A46 rfl (Nat.le_of_ble_eq_true rfl) (Nat.le_of_ble_eq_true rfl) hx hc
theorem len_68 {H:AH} {n c:Nat} {a:Option Addr}:A4a Tryz.prog .len [68] [.slice a n c] H=some (.int .i64 (n:Int),H):=A6g Tryz.underlying68
theorem info_68:((Tryz.prog.info? 92).map fun i=>Nat.beq i.size 1 && Nat.ble i.bytes 65536)=some true:=by kernel_rfl
theorem C7d {c:Bool} {a:Option Addr} {n m:Nat}:abin Tryz.prog 68 c .eql (.slice a n m) (.slice none 0 0)=some (.bool a.isNone):=A5h Tryz.underlying68
theorem B83 {c:Bool} {a:Option Addr} {n m:Nat}:abin Tryz.prog 68 c .neq (.slice a n m) (.slice none 0 0)=some (.bool a.isSome):=A9d Tryz.underlying68
theorem mk_68 {H:AH} {l c:Nat} (hlc:l≤c) (hc:c≤1073741824):A5f Tryz.prog 68 (.int .i64 (l:Int)) (.int .i64 (c:Int)) H=some (.slice (some ⟨H.next,0,some 0⟩) l c,(H.new 1 (List.replicate c (.slice none 0 0))).2):=by rw [← A6w]; exact A62 Tryz.underlying68 info_68 B8r rfl (Nat.le_of_ble_eq_true rfl) hlc hc
theorem B62 {H:AH}:A5a Tryz.prog 68 0 [] H=some (.slice (some ⟨H.next,0,some 0⟩) 0 0,(H.new 1 []).2):=A6h Tryz.underlying68 A39 B8r rfl (Nat.le_of_ble_eq_true rfl)
theorem ia_69 {g o k n c i:Nat} {j:IntKind} (h:i < n):A9a Tryz.prog 69 (.slice (some ⟨g,o,some k⟩) n c) (.int j (i:Int))=some (.pointer (some ⟨g,o+i * 1,some k⟩)):=A1r Tryz.underlying69 A3c h
theorem len_69 {H:AH} {n c:Nat} {a:Option Addr}:A4a Tryz.prog .len [69] [.slice a n c] H=some (.int .i64 (n:Int),H):=A6g Tryz.underlying69
theorem C2a:((Tryz.prog.info? 3).map fun i=>Nat.beq i.size 1 && Nat.ble i.bytes 65536)=some true:=by kernel_rfl
theorem app_69 {H:AH} {t' len cap n:Nat} {base:Option Addr} {x:Value} {new:List Value} (hx:Sh.srcKind Tryz.prog t' x=true) (hn:Sh.newCells 1 H x=some (n,new)) (hb:len+n≤1073741824):A4a Tryz.prog .append [69,t'] [.slice base len cap,x] H=A0e 1 base len cap n new H:=A94 Tryz.underlying69 C2a A91 rfl (Nat.le_of_ble_eq_true rfl) hx hn hb
theorem A48 {H:AH} {len cap:Nat} {base:Option Addr} {x:List Value} (hx:x.length=1) (hb:len≤1073741823):A4a Tryz.prog .append [69,69] [.slice base len cap,.slice (some ⟨H.next,0,some 0⟩) 1 1] (H.new 1 x).2=A0e 1 base len cap 1 x (H.new 1 x).2:=A0m Tryz.underlying69 C2a A91 rfl (Nat.le_of_ble_eq_true rfl) hx hb
theorem C4b {c:Bool} {a:Option Addr} {n m:Nat}:abin Tryz.prog 69 c .eql (.slice a n m) (.slice none 0 0)=some (.bool a.isNone):=A5h Tryz.underlying69
theorem B0y {c:Bool} {a:Option Addr} {n m:Nat}:abin Tryz.prog 69 c .neq (.slice a n m) (.slice none 0 0)=some (.bool a.isSome):=A9d Tryz.underlying69
theorem mk_69 {H:AH} {l c:Nat} (hlc:l≤c) (hc:c≤1073741824):A5f Tryz.prog 69 (.int .i64 (l:Int)) (.int .i64 (c:Int)) H=some (.slice (some ⟨H.next,0,some 0⟩) l c,(H.new 1 (List.replicate c (.int .i64 0))).2):=by rw [← A6w]; exact A62 Tryz.underlying69 C2a A91 rfl (Nat.le_of_ble_eq_true rfl) hlc hc
theorem B53 {H:AH}:A5a Tryz.prog 69 0 [] H=some (.slice (some ⟨H.next,0,some 0⟩) 0 0,(H.new 1 []).2):=A6h Tryz.underlying69 A3c A91 rfl (Nat.le_of_ble_eq_true rfl)
theorem A8o {H:AH} {x:Value} (hx:(A6a x).length=1) (hc:(A6a x).all isCell=true):A5a Tryz.prog 69 1 [(0,x)] H=some (.slice (some ⟨H.next,0,some 0⟩) 1 1,(H.new 1 (A6a x)).2):=A2p Tryz.underlying69 A3c A91 rfl (Nat.le_of_ble_eq_true rfl) (Nat.le_of_ble_eq_true rfl) hx hc
theorem C9t {g o k:Nat}:A6b Tryz.prog 71 0 (.pointer (some ⟨g,o,some k⟩))=some (.pointer (some ⟨g,o+0,some k⟩)):=by have h:=A4b (g:=g) (o:=o) (k:=k) (f:=0) Tryz.underlying71 (Eq.refl (some _)) A00 rfl; exact h
theorem C1w {g o k:Nat}:A6b Tryz.prog 71 1 (.pointer (some ⟨g,o,some k⟩))=some (.pointer (some ⟨g,o+1,some k⟩)):=by have h:=A4b (g:=g) (o:=o) (k:=k) (f:=1) Tryz.underlying71 (Eq.refl (some _)) size_68 rfl; exact h
theorem C41 {g o k:Nat}:A6b Tryz.prog 71 2 (.pointer (some ⟨g,o,some k⟩))=some (.pointer (some ⟨g,o+2,some k⟩)):=by have h:=A4b (g:=g) (o:=o) (k:=k) (f:=2) Tryz.underlying71 (Eq.refl (some _)) A3y rfl; exact h
theorem C0z {g o k:Nat}:A6b Tryz.prog 71 3 (.pointer (some ⟨g,o,some k⟩))=some (.pointer (some ⟨g,o+3,some k⟩)):=by have h:=A4b (g:=g) (o:=o) (k:=k) (f:=3) Tryz.underlying71 (Eq.refl (some _)) A3y rfl; exact h
theorem len_92 {H:AH} {n c:Nat} {a:Option Addr}:A4a Tryz.prog .len [92] [.slice a n c] H=some (.int .i64 (n:Int),H):=A6g Tryz.underlying92
theorem info_92:((Tryz.prog.info? 95).map fun i=>Nat.beq i.size 4 && Nat.ble i.bytes 65536)=some true:=by kernel_rfl
theorem C1r {H:AH} {len cap:Nat} {base:Option Addr} {x:List Value} (hx:x.length=4) (hb:len≤1073741823):A4a Tryz.prog .append [92,92] [.slice base len cap,.slice (some ⟨H.next,0,some 0⟩) 1 1] (H.new 4 x).2=A0e 4 base len cap 1 x (H.new 4 x).2:=A0m Tryz.underlying92 info_92 A17 rfl (Nat.le_of_ble_eq_true rfl) hx hb
theorem C9d {c:Bool} {a:Option Addr} {n m:Nat}:abin Tryz.prog 92 c .eql (.slice a n m) (.slice none 0 0)=some (.bool a.isNone):=A5h Tryz.underlying92
theorem B3x {c:Bool} {a:Option Addr} {n m:Nat}:abin Tryz.prog 92 c .neq (.slice a n m) (.slice none 0 0)=some (.bool a.isSome):=A9d Tryz.underlying92
theorem B34 {H:AH}:A5a Tryz.prog 92 0 [] H=some (.slice (some ⟨H.next,0,some 0⟩) 0 0,(H.new 4 []).2):=A6h Tryz.underlying92 A13 A17 rfl (Nat.le_of_ble_eq_true rfl)
theorem B70 {H:AH} {x:Value} (hx:(A6a x).length=4) (hc:(A6a x).all isCell=true):A5a Tryz.prog 92 1 [(0,x)] H=some (.slice (some ⟨H.next,0,some 0⟩) 1 1,(H.new 4 (A6a x)).2):=A2p Tryz.underlying92 A13 A17 rfl (Nat.le_of_ble_eq_true rfl) (Nat.le_of_ble_eq_true rfl) hx hc
theorem C70 {g o k:Nat}:A6b Tryz.prog 95 0 (.pointer (some ⟨g,o,some k⟩))=some (.pointer (some ⟨g,o+0,some k⟩)):=by have h:=A4b (g:=g) (o:=o) (k:=k) (f:=0) Tryz.underlying95 (Eq.refl (some _)) A3c rfl; exact h
theorem C4w {g o k:Nat}:A6b Tryz.prog 95 1 (.pointer (some ⟨g,o,some k⟩))=some (.pointer (some ⟨g,o+1,some k⟩)):=by have h:=A4b (g:=g) (o:=o) (k:=k) (f:=1) Tryz.underlying95 (Eq.refl (some _)) A3c rfl; exact h
theorem C6x {g o k:Nat}:A6b Tryz.prog 95 2 (.pointer (some ⟨g,o,some k⟩))=some (.pointer (some ⟨g,o+2,some k⟩)):=by have h:=A4b (g:=g) (o:=o) (k:=k) (f:=2) Tryz.underlying95 (Eq.refl (some _)) A3c rfl; exact h
theorem C6o {g o k:Nat}:A6b Tryz.prog 95 3 (.pointer (some ⟨g,o,some k⟩))=some (.pointer (some ⟨g,o+3,some k⟩)):=by have h:=A4b (g:=g) (o:=o) (k:=k) (f:=3) Tryz.underlying95 (Eq.refl (some _)) A3c rfl; exact h
theorem bld_95 {v0 v1 v2 v3:Value} (h0:isCell v0=true) (h1:isCell v1=true) (h2:isCell v2=true) (h3:isCell v3=true):A9r Tryz.prog 95 [(0,v0),(1,v1),(2,v2),(3,v3)]=some (.agg #[v0,v1,v2,v3]):=by refine A3o (pl:=[(0,1),(1,1),(2,1),(3,1)]) Tryz.underlying95 A17 (by kernel_rfl) ?_; have va:∀ xs:Array Value,A6a (.agg xs)=xs.toList:=fun _=>rfl; simp [A82,A7b h0,A7b h1,A7b h2,A7b h3,va,h0,h1,h2,h3,setCells,A5c]
theorem len_97 {H:AH} {n c:Nat} {a:Option Addr}:A4a Tryz.prog .len [97] [.slice a n c] H=some (.int .i64 (n:Int),H):=A6g Tryz.underlying97
theorem info_97:((Tryz.prog.info? 99).map fun i=>Nat.beq i.size 2 && Nat.ble i.bytes 65536)=some true:=by kernel_rfl
theorem C40 {H:AH} {len cap:Nat} {base:Option Addr} {x:List Value} (hx:x.length=2) (hb:len≤1073741823):A4a Tryz.prog .append [97,97] [.slice base len cap,.slice (some ⟨H.next,0,some 0⟩) 1 1] (H.new 2 x).2=A0e 2 base len cap 1 x (H.new 2 x).2:=A0m Tryz.underlying97 info_97 A56 rfl (Nat.le_of_ble_eq_true rfl) hx hb
theorem C1i {c:Bool} {a:Option Addr} {n m:Nat}:abin Tryz.prog 97 c .eql (.slice a n m) (.slice none 0 0)=some (.bool a.isNone):=A5h Tryz.underlying97
theorem B73 {c:Bool} {a:Option Addr} {n m:Nat}:abin Tryz.prog 97 c .neq (.slice a n m) (.slice none 0 0)=some (.bool a.isSome):=A9d Tryz.underlying97
theorem B2x {H:AH}:A5a Tryz.prog 97 0 [] H=some (.slice (some ⟨H.next,0,some 0⟩) 0 0,(H.new 2 []).2):=A6h Tryz.underlying97 A1t A56 rfl (Nat.le_of_ble_eq_true rfl)
theorem B93 {H:AH} {x:Value} (hx:(A6a x).length=2) (hc:(A6a x).all isCell=true):A5a Tryz.prog 97 1 [(0,x)] H=some (.slice (some ⟨H.next,0,some 0⟩) 1 1,(H.new 2 (A6a x)).2):=A2p Tryz.underlying97 A1t A56 rfl (Nat.le_of_ble_eq_true rfl) (Nat.le_of_ble_eq_true rfl) hx hc
theorem C0x {g o k:Nat}:A6b Tryz.prog 99 0 (.pointer (some ⟨g,o,some k⟩))=some (.pointer (some ⟨g,o+0,some k⟩)):=by have h:=A4b (g:=g) (o:=o) (k:=k) (f:=0) Tryz.underlying99 (Eq.refl (some _)) A6j rfl; exact h
theorem C8u {g o k:Nat}:A6b Tryz.prog 99 1 (.pointer (some ⟨g,o,some k⟩))=some (.pointer (some ⟨g,o+1,some k⟩)):=by have h:=A4b (g:=g) (o:=o) (k:=k) (f:=1) Tryz.underlying99 (Eq.refl (some _)) A3c rfl; exact h
theorem bld_99 {v0 v1:Value} (h0:isCell v0=true) (h1:isCell v1=true):A9r Tryz.prog 99 [(0,v0),(1,v1)]=some (.agg #[v0,v1]):=by refine A3o (pl:=[(0,1),(1,1)]) Tryz.underlying99 A56 (by kernel_rfl) ?_; have va:∀ xs:Array Value,A6a (.agg xs)=xs.toList:=fun _=>rfl; simp [A82,A7b h0,A7b h1,va,h0,h1,setCells,A5c]
theorem C5v {H:AH} {n c:Nat} {a:Option Addr}:A4a Tryz.prog .len [103] [.slice a n c] H=some (.int .i64 (n:Int),H):=A6g Tryz.underlying103
theorem info_103:((Tryz.prog.info? 58).map fun i=>Nat.beq i.size 1 && Nat.ble i.bytes 65536)=some true:=by kernel_rfl
theorem C2i {H:AH} {len cap:Nat} {base:Option Addr} {x:List Value} (hx:x.length=1) (hb:len≤1073741823):A4a Tryz.prog .append [103,103] [.slice base len cap,.slice (some ⟨H.next,0,some 0⟩) 1 1] (H.new 1 x).2=A0e 1 base len cap 1 x (H.new 1 x).2:=A0m Tryz.underlying103 info_103 B1i rfl (Nat.le_of_ble_eq_true rfl) hx hb
theorem B5y {c:Bool} {a:Option Addr} {n m:Nat}:abin Tryz.prog 103 c .eql (.slice a n m) (.slice none 0 0)=some (.bool a.isNone):=A5h Tryz.underlying103
theorem B7o {c:Bool} {a:Option Addr} {n m:Nat}:abin Tryz.prog 103 c .neq (.slice a n m) (.slice none 0 0)=some (.bool a.isSome):=A9d Tryz.underlying103
theorem B3q {H:AH}:A5a Tryz.prog 103 0 [] H=some (.slice (some ⟨H.next,0,some 0⟩) 0 0,(H.new 1 []).2):=A6h Tryz.underlying103 B4e B1i rfl (Nat.le_of_ble_eq_true rfl)
theorem A27 {H:AH} {x:Value} (hx:(A6a x).length=1) (hc:(A6a x).all isCell=true):A5a Tryz.prog 103 1 [(0,x)] H=some (.slice (some ⟨H.next,0,some 0⟩) 1 1,(H.new 1 (A6a x)).2):=A2p Tryz.underlying103 B4e B1i rfl (Nat.le_of_ble_eq_true rfl) (Nat.le_of_ble_eq_true rfl) hx hc
theorem C2f {g o k:Nat}:A6b Tryz.prog 105 0 (.pointer (some ⟨g,o,some k⟩))=some (.pointer (some ⟨g,o+0,some k⟩)):=by have h:=A4b (g:=g) (o:=o) (k:=k) (f:=0) Tryz.underlying105 (Eq.refl (some _)) B1e rfl; exact h
theorem C0d {g o k:Nat}:A6b Tryz.prog 105 1 (.pointer (some ⟨g,o,some k⟩))=some (.pointer (some ⟨g,o+3,some k⟩)):=by have h:=A4b (g:=g) (o:=o) (k:=k) (f:=1) Tryz.underlying105 (Eq.refl (some _)) B4s rfl; exact h
theorem C1d {g o k:Nat}:A6b Tryz.prog 105 2 (.pointer (some ⟨g,o,some k⟩))=some (.pointer (some ⟨g,o+4,some k⟩)):=by have h:=A4b (g:=g) (o:=o) (k:=k) (f:=2) Tryz.underlying105 (Eq.refl (some _)) A3c rfl; exact h
theorem C0f {g o k:Nat}:A6b Tryz.prog 105 3 (.pointer (some ⟨g,o,some k⟩))=some (.pointer (some ⟨g,o+5,some k⟩)):=by have h:=A4b (g:=g) (o:=o) (k:=k) (f:=3) Tryz.underlying105 (Eq.refl (some _)) C9y rfl; exact h
theorem C21 {H:AH} {n c:Nat} {a:Option Addr}:A4a Tryz.prog .len [114] [.slice a n c] H=some (.int .i64 (n:Int),H):=A6g Tryz.underlying114
theorem info_114:((Tryz.prog.info? 3).map fun i=>Nat.beq i.size 1 && Nat.ble i.bytes 65536)=some true:=by kernel_rfl
theorem app1_114 {H:AH} {len cap:Nat} {base:Option Addr} {x:List Value} (hx:x.length=1) (hb:len≤1073741823):A4a Tryz.prog .append [114,114] [.slice base len cap,.slice (some ⟨H.next,0,some 0⟩) 1 1] (H.new 1 x).2=A0e 1 base len cap 1 x (H.new 1 x).2:=A0m Tryz.underlying114 info_114 A91 rfl (Nat.le_of_ble_eq_true rfl) hx hb
theorem B9y {c:Bool} {a:Option Addr} {n m:Nat}:abin Tryz.prog 114 c .eql (.slice a n m) (.slice none 0 0)=some (.bool a.isNone):=A5h Tryz.underlying114
theorem B4p {c:Bool} {a:Option Addr} {n m:Nat}:abin Tryz.prog 114 c .neq (.slice a n m) (.slice none 0 0)=some (.bool a.isSome):=A9d Tryz.underlying114
theorem B6n {H:AH}:A5a Tryz.prog 114 0 [] H=some (.slice (some ⟨H.next,0,some 0⟩) 0 0,(H.new 1 []).2):=A6h Tryz.underlying114 A3c A91 rfl (Nat.le_of_ble_eq_true rfl)
theorem C7l {H:AH} {x:Value} (hx:(A6a x).length=1) (hc:(A6a x).all isCell=true):A5a Tryz.prog 114 1 [(0,x)] H=some (.slice (some ⟨H.next,0,some 0⟩) 1 1,(H.new 1 (A6a x)).2):=A2p Tryz.underlying114 A3c A91 rfl (Nat.le_of_ble_eq_true rfl) (Nat.le_of_ble_eq_true rfl) hx hc
theorem C11 {H:AH} {n c:Nat} {a:Option Addr}:A4a Tryz.prog .len [117] [.slice a n c] H=some (.int .i64 (n:Int),H):=A6g Tryz.underlying117
theorem info_117:((Tryz.prog.info? 114).map fun i=>Nat.beq i.size 1 && Nat.ble i.bytes 65536)=some true:=by kernel_rfl
theorem B4v {c:Bool} {a:Option Addr} {n m:Nat}:abin Tryz.prog 117 c .eql (.slice a n m) (.slice none 0 0)=some (.bool a.isNone):=A5h Tryz.underlying117
theorem B2p {c:Bool} {a:Option Addr} {n m:Nat}:abin Tryz.prog 117 c .neq (.slice a n m) (.slice none 0 0)=some (.bool a.isSome):=A9d Tryz.underlying117
theorem mk_117 {H:AH} {l c:Nat} (hlc:l≤c) (hc:c≤1073741824):A5f Tryz.prog 117 (.int .i64 (l:Int)) (.int .i64 (c:Int)) H=some (.slice (some ⟨H.next,0,some 0⟩) l c,(H.new 1 (List.replicate c (.slice none 0 0))).2):=by rw [← A6w]; exact A62 Tryz.underlying117 info_117 B7b rfl (Nat.le_of_ble_eq_true rfl) hlc hc
theorem B3p {H:AH}:A5a Tryz.prog 117 0 [] H=some (.slice (some ⟨H.next,0,some 0⟩) 0 0,(H.new 1 []).2):=A6h Tryz.underlying117 B0c B7b rfl (Nat.le_of_ble_eq_true rfl)
theorem C1b {g o k:Nat}:A6b Tryz.prog 144 0 (.pointer (some ⟨g,o,some k⟩))=some (.pointer (some ⟨g,o+0,some k⟩)):=by have h:=A4b (g:=g) (o:=o) (k:=k) (f:=0) Tryz.underlying144 (Eq.refl (some _)) A3c rfl; exact h
theorem C4i {g o k:Nat}:A6b Tryz.prog 144 1 (.pointer (some ⟨g,o,some k⟩))=some (.pointer (some ⟨g,o+1,some k⟩)):=by have h:=A4b (g:=g) (o:=o) (k:=k) (f:=1) Tryz.underlying144 (Eq.refl (some _)) A3c rfl; exact h
theorem bld_144 {v0 v1:Value} (h0:isCell v0=true) (h1:isCell v1=true):A9r Tryz.prog 144 [(0,v0),(1,v1)]=some (.agg #[v0,v1]):=by refine A3o (pl:=[(0,1),(1,1)]) Tryz.underlying144 A31 (by kernel_rfl) ?_; have va:∀ xs:Array Value,A6a (.agg xs)=xs.toList:=fun _=>rfl; simp [A82,A7b h0,A7b h1,va,h0,h1,setCells,A5c]
theorem C4x {H:AH} {n c:Nat} {a:Option Addr}:A4a Tryz.prog .len [145] [.slice a n c] H=some (.int .i64 (n:Int),H):=A6g Tryz.underlying145
theorem info_145:((Tryz.prog.info? 144).map fun i=>Nat.beq i.size 2 && Nat.ble i.bytes 65536)=some true:=by kernel_rfl
theorem app1_145 {H:AH} {len cap:Nat} {base:Option Addr} {x:List Value} (hx:x.length=2) (hb:len≤1073741823):A4a Tryz.prog .append [145,145] [.slice base len cap,.slice (some ⟨H.next,0,some 0⟩) 1 1] (H.new 2 x).2=A0e 2 base len cap 1 x (H.new 2 x).2:=A0m Tryz.underlying145 info_145 A31 rfl (Nat.le_of_ble_eq_true rfl) hx hb
theorem B41 {c:Bool} {a:Option Addr} {n m:Nat}:abin Tryz.prog 145 c .eql (.slice a n m) (.slice none 0 0)=some (.bool a.isNone):=A5h Tryz.underlying145
theorem B6m {c:Bool} {a:Option Addr} {n m:Nat}:abin Tryz.prog 145 c .neq (.slice a n m) (.slice none 0 0)=some (.bool a.isSome):=A9d Tryz.underlying145
theorem B9m {H:AH}:A5a Tryz.prog 145 0 [] H=some (.slice (some ⟨H.next,0,some 0⟩) 0 0,(H.new 2 []).2):=A6h Tryz.underlying145 A20 A31 rfl (Nat.le_of_ble_eq_true rfl)
theorem C5n {H:AH} {x:Value} (hx:(A6a x).length=2) (hc:(A6a x).all isCell=true):A5a Tryz.prog 145 1 [(0,x)] H=some (.slice (some ⟨H.next,0,some 0⟩) 1 1,(H.new 2 (A6a x)).2):=A2p Tryz.underlying145 A20 A31 rfl (Nat.le_of_ble_eq_true rfl) (Nat.le_of_ble_eq_true rfl) hx hc
theorem C7h {H:AH} {n:Int}:A5i Tryz.prog 3 139 (.int .i64 n) H=some (.int .u64 (IntKind.wrap .u64 n),H):=A8v Tryz.underlying3 Tryz.underlying139
theorem C2b {H:AH} {n:Int}:A5i Tryz.prog 3 168 (.int .i64 n) H=some (.int .u64 (IntKind.wrap .u64 n),H):=A8v Tryz.underlying3 Tryz.underlying168
theorem cv_5_3 {H:AH} {n:Int}:A5i Tryz.prog 5 3 (.int .u8 n) H=some (.int .i64 (IntKind.wrap .i64 n),H):=A8v Tryz.underlying5 Tryz.underlying3
theorem C7g {H:AH} {n:Int}:A5i Tryz.prog 139 3 (.int .u64 n) H=some (.int .i64 (IntKind.wrap .i64 n),H):=A8v Tryz.underlying139 Tryz.underlying3
theorem B4n {H:AH} {n:Int}:A5i Tryz.prog 139 160 (.int .u64 n) H=some (.int .u32 (IntKind.wrap .u32 n),H):=A8v Tryz.underlying139 Tryz.underlying160
theorem C7f {H:AH} {n:Int}:A5i Tryz.prog 160 5 (.int .u32 n) H=some (.int .u8 (IntKind.wrap .u8 n),H):=A8v Tryz.underlying160 Tryz.underlying5
theorem C4e {H:AH} {n:Int}:A5i Tryz.prog 162 5 (.int .u64 n) H=some (.int .u8 (IntKind.wrap .u8 n),H):=A8v Tryz.underlying162 Tryz.underlying5
theorem B71:type_of% (And.intro @zero_1 (And.intro @ld_1 (And.intro @zero_2 (And.intro @ld_2 (And.intro @A91 (And.intro @ld_3 (And.intro @B9n (And.intro @ld_4 (And.intro @zero_5 (And.intro @ld_5 (And.intro @B9k (And.intro @ld_9 (And.intro @B3d (And.intro @ld_22 (And.intro @C1y (And.intro @ld_23 (And.intro @C1x (And.intro @ld_24 (And.intro @C3u (And.intro @ld_26 (And.intro @C3v (And.intro @ld_29 (And.intro @C2q (And.intro @ld_30 (And.intro @B06 (And.intro @ld_49 (And.intro @C8a (And.intro @ld_51 (And.intro @C8o (And.intro @ld_52 (And.intro @C1q (And.intro @ld_57 (And.intro @B1i (And.intro @ld_58 (And.intro @B67 (And.intro @ld_60 (And.intro @C6r (And.intro @ld_64 (And.intro @C31 (And.intro @ld_65 (And.intro @C9u (And.intro @ld_68 (And.intro @A46 (And.intro @ld_69 (And.intro @B39 (And.intro @ld_71 (And.intro @C5z (And.intro @ld_87 (And.intro @C3z (And.intro @ld_90 (And.intro @B8r (And.intro @ld_92 (And.intro @A17 (And.intro @ld_95 (And.intro @B7r (And.intro @ld_97 (And.intro @A56 (And.intro @ld_99 (And.intro @C9g (And.intro @ld_102 (And.intro @C1c (And.intro @ld_103 (And.intro @B8t (And.intro @ld_105 (And.intro @C3e (And.intro @ld_110 (And.intro @C9e (And.intro @ld_113 (And.intro @B7b (And.intro @ld_114 (And.intro @C6c (And.intro @ld_117 (And.intro @C6g (And.intro @ld_121 (And.intro @C2e (And.intro @ld_129 (And.intro @C3c (And.intro @ld_139 (And.intro @A31 (And.intro @ld_144 (And.intro @C8f (And.intro @ld_145 (And.intro @C1g (And.intro @ld_146 (And.intro @C5b (And.intro @ld_152 (And.intro @C5c (And.intro @ld_160 (And.intro @C2j (And.intro @ld_162 (And.intro @C9i (And.intro @ld_168 (And.intro @C8c (And.intro @ld_172 (And.intro @C7c (And.intro @ld_176 (And.intro @len_9 (And.intro @len_22 (And.intro @C6j (And.intro @B03 (And.intro @B8z (And.intro @len_23 (And.intro @C3g (And.intro @B04 (And.intro @B4x (And.intro @len_24 (And.intro @C3i (And.intro @B9u (And.intro @B6v (And.intro @C2u (And.intro @C7w (And.intro @C2v (And.intro @C1s (And.intro @len_29 (And.intro @C3f (And.intro @B91 (And.intro @B3y (And.intro @C10 (And.intro @C4r (And.intro @C8v (And.intro @C5p (And.intro @C3s (And.intro @C4u (And.intro @C0s (And.intro @len_57 (And.intro @C3b (And.intro @B6x (And.intro @B0v (And.intro @len_58 (And.intro @C0j (And.intro @B4y (And.intro @B9v (And.intro @C9o (And.intro @C9z (And.intro @C0u (And.intro @len_65 (And.intro @C0e (And.intro @B2w (And.intro @B8x (And.intro @len_68 (And.intro @C7d (And.intro @B83 (And.intro @B62 (And.intro @len_69 (And.intro @C4b (And.intro @B0y (And.intro @B53 (And.intro @C9t (And.intro @C1w (And.intro @C41 (And.intro @C0z (And.intro @len_92 (And.intro @C9d (And.intro @B3x (And.intro @B34 (And.intro @C70 (And.intro @C4w (And.intro @C6x (And.intro @C6o (And.intro @len_97 (And.intro @C1i (And.intro @B73 (And.intro @B2x (And.intro @C0x (And.intro @C8u (And.intro @C5v (And.intro @B5y (And.intro @B7o (And.intro @B3q (And.intro @C2f (And.intro @C0d (And.intro @C1d (And.intro @C0f (And.intro @C21 (And.intro @B9y (And.intro @B4p (And.intro @B6n (And.intro @C11 (And.intro @B4v (And.intro @B2p (And.intro @B3p (And.intro @C1b (And.intro @C4i (And.intro @C4x (And.intro @B41 (And.intro @B6m (And.intro @B9m (And.intro @C7h (And.intro @C2b (And.intro @cv_5_3 (And.intro @C7g (And.intro @B4n (And.intro @C7f (@C4e)))))))))))))))))))))))))))))))))))))))))))))))))))))))))))))))))))))))))))))))))))))))))))))))))))))))))))))))))))))))))))))))))))))))))))))))))))))))))))))))))))))))))))))))))))))))))))))))))):=And.intro @zero_1 (And.intro @ld_1 (And.intro @zero_2 (And.intro @ld_2 (And.intro @A91 (And.intro @ld_3 (And.intro @B9n (And.intro @ld_4 (And.intro @zero_5 (And.intro @ld_5 (And.intro @B9k (And.intro @ld_9 (And.intro @B3d (And.intro @ld_22 (And.intro @C1y (And.intro @ld_23 (And.intro @C1x (And.intro @ld_24 (And.intro @C3u (And.intro @ld_26 (And.intro @C3v (And.intro @ld_29 (And.intro @C2q (And.intro @ld_30 (And.intro @B06 (And.intro @ld_49 (And.intro @C8a (And.intro @ld_51 (And.intro @C8o (And.intro @ld_52 (And.intro @C1q (And.intro @ld_57 (And.intro @B1i (And.intro @ld_58 (And.intro @B67 (And.intro @ld_60 (And.intro @C6r (And.intro @ld_64 (And.intro @C31 (And.intro @ld_65 (And.intro @C9u (And.intro @ld_68 (And.intro @A46 (And.intro @ld_69 (And.intro @B39 (And.intro @ld_71 (And.intro @C5z (And.intro @ld_87 (And.intro @C3z (And.intro @ld_90 (And.intro @B8r (And.intro @ld_92 (And.intro @A17 (And.intro @ld_95 (And.intro @B7r (And.intro @ld_97 (And.intro @A56 (And.intro @ld_99 (And.intro @C9g (And.intro @ld_102 (And.intro @C1c (And.intro @ld_103 (And.intro @B8t (And.intro @ld_105 (And.intro @C3e (And.intro @ld_110 (And.intro @C9e (And.intro @ld_113 (And.intro @B7b (And.intro @ld_114 (And.intro @C6c (And.intro @ld_117 (And.intro @C6g (And.intro @ld_121 (And.intro @C2e (And.intro @ld_129 (And.intro @C3c (And.intro @ld_139 (And.intro @A31 (And.intro @ld_144 (And.intro @C8f (And.intro @ld_145 (And.intro @C1g (And.intro @ld_146 (And.intro @C5b (And.intro @ld_152 (And.intro @C5c (And.intro @ld_160 (And.intro @C2j (And.intro @ld_162 (And.intro @C9i (And.intro @ld_168 (And.intro @C8c (And.intro @ld_172 (And.intro @C7c (And.intro @ld_176 (And.intro @len_9 (And.intro @len_22 (And.intro @C6j (And.intro @B03 (And.intro @B8z (And.intro @len_23 (And.intro @C3g (And.intro @B04 (And.intro @B4x (And.intro @len_24 (And.intro @C3i (And.intro @B9u (And.intro @B6v (And.intro @C2u (And.intro @C7w (And.intro @C2v (And.intro @C1s (And.intro @len_29 (And.intro @C3f (And.intro @B91 (And.intro @B3y (And.intro @C10 (And.intro @C4r (And.intro @C8v (And.intro @C5p (And.intro @C3s (And.intro @C4u (And.intro @C0s (And.intro @len_57 (And.intro @C3b (And.intro @B6x (And.intro @B0v (And.intro @len_58 (And.intro @C0j (And.intro @B4y (And.intro @B9v (And.intro @C9o (And.intro @C9z (And.intro @C0u (And.intro @len_65 (And.intro @C0e (And.intro @B2w (And.intro @B8x (And.intro @len_68 (And.intro @C7d (And.intro @B83 (And.intro @B62 (And.intro @len_69 (And.intro @C4b (And.intro @B0y (And.intro @B53 (And.intro @C9t (And.intro @C1w (And.intro @C41 (And.intro @C0z (And.intro @len_92 (And.intro @C9d (And.intro @B3x (And.intro @B34 (And.intro @C70 (And.intro @C4w (And.intro @C6x (And.intro @C6o (And.intro @len_97 (And.intro @C1i (And.intro @B73 (And.intro @B2x (And.intro @C0x (And.intro @C8u (And.intro @C5v (And.intro @B5y (And.intro @B7o (And.intro @B3q (And.intro @C2f (And.intro @C0d (And.intro @C1d (And.intro @C0f (And.intro @C21 (And.intro @B9y (And.intro @B4p (And.intro @B6n (And.intro @C11 (And.intro @B4v (And.intro @B2p (And.intro @B3p (And.intro @C1b (And.intro @C4i (And.intro @C4x (And.intro @B41 (And.intro @B6m (And.intro @B9m (And.intro @C7h (And.intro @C2b (And.intro @cv_5_3 (And.intro @C7g (And.intro @B4n (And.intro @C7f (@C4e)))))))))))))))))))))))))))))))))))))))))))))))))))))))))))))))))))))))))))))))))))))))))))))))))))))))))))))))))))))))))))))))))))))))))))))))))))))))))))))))))))))))))))))))))))))))))))))))))
theorem sx:type_of% (And.intro @Sh.sy @B71):=And.intro @Sh.sy @B71
end Go.Proofs.YtcgbiedfbacgpaaGreat
/- Nets in memory: what is made and written of them. -/
set_option maxHeartbeats 4000000
set_option maxRecDepth 20000
namespace Go.Proofs.YtcgbiedfbacgpaaGreat
open Go Go.Proofs Go.Proofs.Sh
section
variable {H:AH} {g:Nat} {sg ar en v:Value} {N:NetD}
theorem A9s (hsg:isCell sg=true) (har:isCell ar=true) (hen:isCell en=true) {n:Int}:anew Tryz.prog 26 H (.agg #[sg,.int .i64 n,ar,en])=some (.pointer (some ⟨H.next,0,some 0⟩),(H.new 4 [sg,.int .i64 n,ar,en]).2):=
 A6r (vs:=[sg,.int .i64 n,ar,en]) B56 rfl (by simp [hsg,har,hen,show isCell (.int .i64 n)=true from rfl])
theorem B2e:anew Tryz.prog 49 H (.agg #[.int .i64 0,.string ⟨#[]⟩,.string ⟨#[]⟩,.int .i64 0,.int .i64 0])=some (.pointer (some ⟨H.next,0,some 0⟩),(H.new 5 [.int .i64 0,.string ⟨#[]⟩,.string ⟨#[]⟩,.int .i64 0,.int .i64 0]).2):=
 A6r (vs:=[.int .i64 0,.string ⟨#[]⟩,.string ⟨#[]⟩,.int .i64 0,.int .i64 0]) A1q rfl rfl
theorem B69:anew Tryz.prog 51 H (.agg #[.int .i64 0,.int .i64 0])=some (.pointer (some ⟨H.next,0,some 0⟩),(H.new 2 [.int .i64 0,.int .i64 0]).2):=A6r (vs:=[.int .i64 0,.int .i64 0]) A3u rfl rfl
theorem arcNew {a:ArcD}:anew Tryz.prog 49 H (.agg a.cells.toArray)=some (.pointer (some ⟨H.next,0,some 0⟩),(H.new 5 a.cells).2):=A6r (vs:=a.cells) A1q rfl rfl
theorem A24 {a:ArcD} {p:Addr}:A6e Tryz.prog 49 H (.agg a.cells.toArray) (.pointer (some p))=H.write p a.cells:=A0z A1q rfl rfl
theorem B0u {a:EndD} {p:Addr}:A6e Tryz.prog 51 H (.agg a.cells.toArray) (.pointer (some p))=H.write p a.cells:=A0z A3u rfl rfl
theorem B7k {a:ArcD} {x0 x1 x2 x3 x4:Value}:(H.new 5 [x0,x1,x2,x3,x4]).2.write ⟨H.next,0,some 0⟩ a.cells=some (H.new 5 a.cells).2:=A5o rfl
theorem B15 {a:EndD} {x0 x1:Value}:(H.new 2 [x0,x1]).2.write ⟨H.next,0,some 0⟩ a.cells=some (H.new 2 a.cells).2:=A5o rfl
theorem arc0 {a:ArcD}:(H.new 5 a.cells).2.cell ⟨H.next,0,some 0⟩=some (.int .i64 a.fr):=A1m _ _ _
theorem arc1 {a:ArcD}:(H.new 5 a.cells).2.cell ⟨H.next,1,some 0⟩=some (.string a.inn):=A1m _ _ _
theorem arc2 {a:ArcD}:(H.new 5 a.cells).2.cell ⟨H.next,2,some 0⟩=some (.string a.out):=A1m _ _ _
theorem arc3 {a:ArcD}:(H.new 5 a.cells).2.cell ⟨H.next,3,some 0⟩=some (.int .i64 a.to):=A1m _ _ _
theorem arc4 {a:ArcD}:(H.new 5 a.cells).2.cell ⟨H.next,4,some 0⟩=some (.int .i64 a.cost):=A1m _ _ _
theorem end0 {a:EndD}:(H.new 2 a.cells).2.cell ⟨H.next,0,some 0⟩=some (.int .i64 a.state):=A1m _ _ _
theorem end1 {a:EndD}:(H.new 2 a.cells).2.cell ⟨H.next,1,some 0⟩=some (.int .i64 a.cost):=A1m _ _ _
theorem B46 (h:NetBox H g sg ar en N) {H':AH}:A4a Tryz.prog .len [22] [sg] H'=some (.int .i64 (N.sigma.length:Int),H'):=by rw [h.hsg.len Tryz.underlying22 H',List.length_map]
theorem A4m (h:NetBox H g sg ar en N) {H':AH}:A4a Tryz.prog .len [23] [ar] H'=some (.int .i64 (N.arcs.length:Int),H'):=by rw [h.har.len Tryz.underlying23 H',List.length_map]
theorem A7r (h:NetBox H g sg ar en N) {H':AH}:A4a Tryz.prog .len [24] [en] H'=some (.int .i64 (N.ends.length:Int),H'):=by rw [h.hen.len Tryz.underlying24 H',List.length_map]
theorem eqT_int {d:Nat} {a b:Int}:eqT Tryz.prog (d+1) 3 (.int .i64 a) (.int .i64 b)=some (decide (a=b)):=by
 simp only [eqT,Tryz.underlying3,A1f,cond_true,A9o]; rfl
end
end Go.Proofs.YtcgbiedfbacgpaaGreat
