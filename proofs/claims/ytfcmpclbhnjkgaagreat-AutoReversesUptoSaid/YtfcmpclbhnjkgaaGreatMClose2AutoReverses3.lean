/- A part of the proof: Facts, GraphArc, GraphEnd, GraphB, CloneStr, GraphNew, NetFacts, AnyLong, IsSymbol, AllSymbols, IsSet, RefSigma, Search, SearchAt, SearchStrings, IsIn, ValidateNet, IsFree, RefValidate, NetOk, CmpLessStr, BinarySearch, PlaceWord, GraphOf. -/
import Derived.Test.YtfcmpclbhnjkgaaGreatProg
import Derived.Test.YtfcmpclbhnjkgaaGreatMClose2AutoReverses2
import Derived.KernelRfl
import Derived.Test.YtfcmpclbhnjkgaaGreatMClose2AutoReverses1
set_option linter.unusedVariables false
set_option linter.unusedSimpArgs false
/- What the types of this program are, for walking. Made by program. -/
set_option linter.unusedVariables false
namespace Go.Proofs.YtfcmpclbhnjkgaaGreat
open Go Go.Proofs Go.Proofs.Sh
theorem agg_1 : aggAt Tryz.prog 1 = some false := by kernel_rfl
theorem zero_1 : zeroAt Tryz.prog 1 = some (.nilFunc) := by kernel_rfl
theorem ld_1 {H : AH} {a : Addr} : aload Tryz.prog 1 H (.pointer (some a)) = H.cell a := load_cell agg_1
theorem agg_2 : aggAt Tryz.prog 2 = some false := by kernel_rfl
theorem zero_2 : zeroAt Tryz.prog 2 = some (.int .i64 0) := by kernel_rfl
theorem ld_2 {H : AH} {a : Addr} : aload Tryz.prog 2 H (.pointer (some a)) = H.cell a := load_cell agg_2
theorem agg_3 : aggAt Tryz.prog 3 = some false := by kernel_rfl
theorem size_3 : sizeAt Tryz.prog 3 = some 1 := by kernel_rfl
theorem cells_3 : Tryz.prog.cellsOf 3 = 1 := by kernel_rfl
theorem zero_3 : zeroAt Tryz.prog 3 = some (.int .i64 0) := by kernel_rfl
theorem ld_3 {H : AH} {a : Addr} : aload Tryz.prog 3 H (.pointer (some a)) = H.cell a := load_cell agg_3
theorem agg_4 : aggAt Tryz.prog 4 = some false := by kernel_rfl
theorem size_4 : sizeAt Tryz.prog 4 = some 1 := by kernel_rfl
theorem zero_4 : zeroAt Tryz.prog 4 = some (.bool false) := by kernel_rfl
theorem ld_4 {H : AH} {a : Addr} : aload Tryz.prog 4 H (.pointer (some a)) = H.cell a := load_cell agg_4
theorem agg_5 : aggAt Tryz.prog 5 = some false := by kernel_rfl
theorem zero_5 : zeroAt Tryz.prog 5 = some (.int .u8 0) := by kernel_rfl
theorem ld_5 {H : AH} {a : Addr} : aload Tryz.prog 5 H (.pointer (some a)) = H.cell a := load_cell agg_5
theorem agg_9 : aggAt Tryz.prog 9 = some false := by kernel_rfl
theorem size_9 : sizeAt Tryz.prog 9 = some 1 := by kernel_rfl
theorem cells_9 : Tryz.prog.cellsOf 9 = 1 := by kernel_rfl
theorem zero_9 : zeroAt Tryz.prog 9 = some (.string ⟨#[]⟩) := by kernel_rfl
theorem ld_9 {H : AH} {a : Addr} : aload Tryz.prog 9 H (.pointer (some a)) = H.cell a := load_cell agg_9
theorem agg_22 : aggAt Tryz.prog 22 = some false := by kernel_rfl
theorem size_22 : sizeAt Tryz.prog 22 = some 1 := by kernel_rfl
theorem cells_22 : Tryz.prog.cellsOf 22 = 1 := by kernel_rfl
theorem zero_22 : zeroAt Tryz.prog 22 = some (.slice none 0 0) := by kernel_rfl
theorem ld_22 {H : AH} {a : Addr} : aload Tryz.prog 22 H (.pointer (some a)) = H.cell a := load_cell agg_22
theorem agg_23 : aggAt Tryz.prog 23 = some false := by kernel_rfl
theorem size_23 : sizeAt Tryz.prog 23 = some 1 := by kernel_rfl
theorem cells_23 : Tryz.prog.cellsOf 23 = 1 := by kernel_rfl
theorem zero_23 : zeroAt Tryz.prog 23 = some (.slice none 0 0) := by kernel_rfl
theorem ld_23 {H : AH} {a : Addr} : aload Tryz.prog 23 H (.pointer (some a)) = H.cell a := load_cell agg_23
theorem agg_24 : aggAt Tryz.prog 24 = some false := by kernel_rfl
theorem size_24 : sizeAt Tryz.prog 24 = some 1 := by kernel_rfl
theorem cells_24 : Tryz.prog.cellsOf 24 = 1 := by kernel_rfl
theorem zero_24 : zeroAt Tryz.prog 24 = some (.slice none 0 0) := by kernel_rfl
theorem ld_24 {H : AH} {a : Addr} : aload Tryz.prog 24 H (.pointer (some a)) = H.cell a := load_cell agg_24
theorem agg_26 : aggAt Tryz.prog 26 = some true := by kernel_rfl
theorem size_26 : sizeAt Tryz.prog 26 = some 4 := by kernel_rfl
theorem cells_26 : Tryz.prog.cellsOf 26 = 4 := by kernel_rfl
theorem zero_26 : zeroAt Tryz.prog 26 = some (.agg #[.slice none 0 0, .int .i64 0, .slice none 0 0, .slice none 0 0]) := by kernel_rfl
theorem ld_26 {H : AH} {a : Addr} : aload Tryz.prog 26 H (.pointer (some a)) = (H.cells a 4).map fun l => .agg l.toArray := load_agg agg_26 size_26
theorem agg_29 : aggAt Tryz.prog 29 = some false := by kernel_rfl
theorem zero_29 : zeroAt Tryz.prog 29 = some (.slice none 0 0) := by kernel_rfl
theorem ld_29 {H : AH} {a : Addr} : aload Tryz.prog 29 H (.pointer (some a)) = H.cell a := load_cell agg_29
theorem agg_30 : aggAt Tryz.prog 30 = some false := by kernel_rfl
theorem zero_30 : zeroAt Tryz.prog 30 = some (.int .i64 0) := by kernel_rfl
theorem ld_30 {H : AH} {a : Addr} : aload Tryz.prog 30 H (.pointer (some a)) = H.cell a := load_cell agg_30
theorem agg_54 : aggAt Tryz.prog 54 = some true := by kernel_rfl
theorem size_54 : sizeAt Tryz.prog 54 = some 5 := by kernel_rfl
theorem cells_54 : Tryz.prog.cellsOf 54 = 5 := by kernel_rfl
theorem zero_54 : zeroAt Tryz.prog 54 = some (.agg #[.int .i64 0, .string ⟨#[]⟩, .string ⟨#[]⟩, .int .i64 0, .int .i64 0]) := by kernel_rfl
theorem ld_54 {H : AH} {a : Addr} : aload Tryz.prog 54 H (.pointer (some a)) = (H.cells a 5).map fun l => .agg l.toArray := load_agg agg_54 size_54
theorem agg_56 : aggAt Tryz.prog 56 = some true := by kernel_rfl
theorem size_56 : sizeAt Tryz.prog 56 = some 2 := by kernel_rfl
theorem cells_56 : Tryz.prog.cellsOf 56 = 2 := by kernel_rfl
theorem zero_56 : zeroAt Tryz.prog 56 = some (.agg #[.int .i64 0, .int .i64 0]) := by kernel_rfl
theorem ld_56 {H : AH} {a : Addr} : aload Tryz.prog 56 H (.pointer (some a)) = (H.cells a 2).map fun l => .agg l.toArray := load_agg agg_56 size_56
theorem agg_57 : aggAt Tryz.prog 57 = some false := by kernel_rfl
theorem zero_57 : zeroAt Tryz.prog 57 = some (.pointer none) := by kernel_rfl
theorem ld_57 {H : AH} {a : Addr} : aload Tryz.prog 57 H (.pointer (some a)) = H.cell a := load_cell agg_57
theorem agg_62 : aggAt Tryz.prog 62 = some false := by kernel_rfl
theorem size_62 : sizeAt Tryz.prog 62 = some 1 := by kernel_rfl
theorem zero_62 : zeroAt Tryz.prog 62 = some (.slice none 0 0) := by kernel_rfl
theorem ld_62 {H : AH} {a : Addr} : aload Tryz.prog 62 H (.pointer (some a)) = H.cell a := load_cell agg_62
theorem agg_63 : aggAt Tryz.prog 63 = some false := by kernel_rfl
theorem size_63 : sizeAt Tryz.prog 63 = some 1 := by kernel_rfl
theorem zero_63 : zeroAt Tryz.prog 63 = some (.slice none 0 0) := by kernel_rfl
theorem ld_63 {H : AH} {a : Addr} : aload Tryz.prog 63 H (.pointer (some a)) = H.cell a := load_cell agg_63
theorem agg_65 : aggAt Tryz.prog 65 = some true := by kernel_rfl
theorem size_65 : sizeAt Tryz.prog 65 = some 3 := by kernel_rfl
theorem zero_65 : zeroAt Tryz.prog 65 = some (.agg #[.int .i64 0, .slice none 0 0, .slice none 0 0]) := by kernel_rfl
theorem ld_65 {H : AH} {a : Addr} : aload Tryz.prog 65 H (.pointer (some a)) = (H.cells a 3).map fun l => .agg l.toArray := load_agg agg_65 size_65
theorem agg_69 : aggAt Tryz.prog 69 = some false := by kernel_rfl
theorem zero_69 : zeroAt Tryz.prog 69 = some (.nilFunc) := by kernel_rfl
theorem ld_69 {H : AH} {a : Addr} : aload Tryz.prog 69 H (.pointer (some a)) = H.cell a := load_cell agg_69
theorem agg_73 : aggAt Tryz.prog 73 = some false := by kernel_rfl
theorem size_73 : sizeAt Tryz.prog 73 = some 1 := by kernel_rfl
theorem zero_73 : zeroAt Tryz.prog 73 = some (.slice none 0 0) := by kernel_rfl
theorem ld_73 {H : AH} {a : Addr} : aload Tryz.prog 73 H (.pointer (some a)) = H.cell a := load_cell agg_73
theorem agg_74 : aggAt Tryz.prog 74 = some false := by kernel_rfl
theorem size_74 : sizeAt Tryz.prog 74 = some 1 := by kernel_rfl
theorem zero_74 : zeroAt Tryz.prog 74 = some (.slice none 0 0) := by kernel_rfl
theorem ld_74 {H : AH} {a : Addr} : aload Tryz.prog 74 H (.pointer (some a)) = H.cell a := load_cell agg_74
theorem agg_76 : aggAt Tryz.prog 76 = some true := by kernel_rfl
theorem size_76 : sizeAt Tryz.prog 76 = some 4 := by kernel_rfl
theorem zero_76 : zeroAt Tryz.prog 76 = some (.agg #[.slice none 0 0, .slice none 0 0, .slice none 0 0, .slice none 0 0]) := by kernel_rfl
theorem ld_76 {H : AH} {a : Addr} : aload Tryz.prog 76 H (.pointer (some a)) = (H.cells a 4).map fun l => .agg l.toArray := load_agg agg_76 size_76
theorem agg_89 : aggAt Tryz.prog 89 = some false := by kernel_rfl
theorem zero_89 : zeroAt Tryz.prog 89 = some (.slice none 0 0) := by kernel_rfl
theorem ld_89 {H : AH} {a : Addr} : aload Tryz.prog 89 H (.pointer (some a)) = H.cell a := load_cell agg_89
theorem agg_93 : aggAt Tryz.prog 93 = some false := by kernel_rfl
theorem zero_93 : zeroAt Tryz.prog 93 = some (.map none) := by kernel_rfl
theorem ld_93 {H : AH} {a : Addr} : aload Tryz.prog 93 H (.pointer (some a)) = H.cell a := load_cell agg_93
theorem agg_94 : aggAt Tryz.prog 94 = some false := by kernel_rfl
theorem size_94 : sizeAt Tryz.prog 94 = some 1 := by kernel_rfl
theorem zero_94 : zeroAt Tryz.prog 94 = some (.slice none 0 0) := by kernel_rfl
theorem ld_94 {H : AH} {a : Addr} : aload Tryz.prog 94 H (.pointer (some a)) = H.cell a := load_cell agg_94
theorem agg_96 : aggAt Tryz.prog 96 = some true := by kernel_rfl
theorem size_96 : sizeAt Tryz.prog 96 = some 4 := by kernel_rfl
theorem zero_96 : zeroAt Tryz.prog 96 = some (.agg #[.int .i64 0, .int .i64 0, .int .i64 0, .int .i64 0]) := by kernel_rfl
theorem ld_96 {H : AH} {a : Addr} : aload Tryz.prog 96 H (.pointer (some a)) = (H.cells a 4).map fun l => .agg l.toArray := load_agg agg_96 size_96
theorem agg_111 : aggAt Tryz.prog 111 = some false := by kernel_rfl
theorem zero_111 : zeroAt Tryz.prog 111 = some (.nilFunc) := by kernel_rfl
theorem ld_111 {H : AH} {a : Addr} : aload Tryz.prog 111 H (.pointer (some a)) = H.cell a := load_cell agg_111
theorem agg_115 : aggAt Tryz.prog 115 = some false := by kernel_rfl
theorem size_115 : sizeAt Tryz.prog 115 = some 1 := by kernel_rfl
theorem zero_115 : zeroAt Tryz.prog 115 = some (.slice none 0 0) := by kernel_rfl
theorem ld_115 {H : AH} {a : Addr} : aload Tryz.prog 115 H (.pointer (some a)) = H.cell a := load_cell agg_115
theorem agg_117 : aggAt Tryz.prog 117 = some true := by kernel_rfl
theorem size_117 : sizeAt Tryz.prog 117 = some 2 := by kernel_rfl
theorem zero_117 : zeroAt Tryz.prog 117 = some (.agg #[.string ⟨#[]⟩, .int .i64 0]) := by kernel_rfl
theorem ld_117 {H : AH} {a : Addr} : aload Tryz.prog 117 H (.pointer (some a)) = (H.cells a 2).map fun l => .agg l.toArray := load_agg agg_117 size_117
theorem agg_128 : aggAt Tryz.prog 128 = some false := by kernel_rfl
theorem zero_128 : zeroAt Tryz.prog 128 = some (.nilFunc) := by kernel_rfl
theorem ld_128 {H : AH} {a : Addr} : aload Tryz.prog 128 H (.pointer (some a)) = H.cell a := load_cell agg_128
theorem agg_136 : aggAt Tryz.prog 136 = some false := by kernel_rfl
theorem zero_136 : zeroAt Tryz.prog 136 = some (.map none) := by kernel_rfl
theorem ld_136 {H : AH} {a : Addr} : aload Tryz.prog 136 H (.pointer (some a)) = H.cell a := load_cell agg_136
theorem agg_142 : aggAt Tryz.prog 142 = some false := by kernel_rfl
theorem zero_142 : zeroAt Tryz.prog 142 = some (.nilFunc) := by kernel_rfl
theorem ld_142 {H : AH} {a : Addr} : aload Tryz.prog 142 H (.pointer (some a)) = H.cell a := load_cell agg_142
theorem agg_153 : aggAt Tryz.prog 153 = some false := by kernel_rfl
theorem zero_153 : zeroAt Tryz.prog 153 = some (.int .u64 0) := by kernel_rfl
theorem ld_153 {H : AH} {a : Addr} : aload Tryz.prog 153 H (.pointer (some a)) = H.cell a := load_cell agg_153
theorem agg_164 : aggAt Tryz.prog 164 = some false := by kernel_rfl
theorem zero_164 : zeroAt Tryz.prog 164 = some (.int .i64 0) := by kernel_rfl
theorem ld_164 {H : AH} {a : Addr} : aload Tryz.prog 164 H (.pointer (some a)) = H.cell a := load_cell agg_164
theorem agg_171 : aggAt Tryz.prog 171 = some false := by kernel_rfl
theorem zero_171 : zeroAt Tryz.prog 171 = some (.int .u32 0) := by kernel_rfl
theorem ld_171 {H : AH} {a : Addr} : aload Tryz.prog 171 H (.pointer (some a)) = H.cell a := load_cell agg_171
theorem agg_173 : aggAt Tryz.prog 173 = some false := by kernel_rfl
theorem zero_173 : zeroAt Tryz.prog 173 = some (.int .u64 0) := by kernel_rfl
theorem ld_173 {H : AH} {a : Addr} : aload Tryz.prog 173 H (.pointer (some a)) = H.cell a := load_cell agg_173
theorem agg_180 : aggAt Tryz.prog 180 = some false := by kernel_rfl
theorem size_180 : sizeAt Tryz.prog 180 = some 1 := by kernel_rfl
theorem zero_180 : zeroAt Tryz.prog 180 = some (.int .u64 0) := by kernel_rfl
theorem ld_180 {H : AH} {a : Addr} : aload Tryz.prog 180 H (.pointer (some a)) = H.cell a := load_cell agg_180
theorem agg_184 : aggAt Tryz.prog 184 = some false := by kernel_rfl
theorem zero_184 : zeroAt Tryz.prog 184 = some (.pointer none) := by kernel_rfl
theorem ld_184 {H : AH} {a : Addr} : aload Tryz.prog 184 H (.pointer (some a)) = H.cell a := load_cell agg_184
theorem agg_188 : aggAt Tryz.prog 188 = some false := by kernel_rfl
theorem zero_188 : zeroAt Tryz.prog 188 = some (.pointer none) := by kernel_rfl
theorem ld_188 {H : AH} {a : Addr} : aload Tryz.prog 188 H (.pointer (some a)) = H.cell a := load_cell agg_188
theorem len_9 {H : AH} {s : ByteArray} : abuiltin Tryz.prog .len [9] [.string s] H = some (.int .i64 (s.size : Int), H) := len_string Tryz.underlying9
theorem len_22 {H : AH} {n c : Nat} {a : Option Addr} : abuiltin Tryz.prog .len [22] [.slice a n c] H = some (.int .i64 (n : Int), H) := len_slice Tryz.underlying22
theorem info_22 : ((Tryz.prog.info? 9).map fun i => Nat.beq i.size 1 && Nat.ble i.bytes 65536) = some true := by kernel_rfl
theorem app_22 {H : AH} {t' len cap n : Nat} {base : Option Addr} {x : Value} {new : List Value} (hx : Sh.srcKind Tryz.prog t' x = true) (hn : Sh.newCells 1 H x = some (n, new)) (hb : len + n ≤ 1073741824) : abuiltin Tryz.prog .append [22, t'] [.slice base len cap, x] H = aappend 1 base len cap n new H := append_at Tryz.underlying22 info_22 zero_9 rfl (Nat.le_of_ble_eq_true rfl) hx hn hb
theorem app1_22 {H : AH} {len cap : Nat} {base : Option Addr} {x : List Value} (hx : x.length = 1) (hb : len ≤ 1073741823) : abuiltin Tryz.prog .append [22, 22] [.slice base len cap, .slice (some ⟨H.next, 0, some 0⟩) 1 1] (H.new 1 x).2 = aappend 1 base len cap 1 x (H.new 1 x).2 := append_one Tryz.underlying22 info_22 zero_9 rfl (Nat.le_of_ble_eq_true rfl) hx hb
theorem isnil_22 {c : Bool} {a : Option Addr} {n m : Nat} : abin Tryz.prog 22 c .eql (.slice a n m) (.slice none 0 0) = some (.bool a.isNone) := slice_nil Tryz.underlying22
theorem notnil_22 {c : Bool} {a : Option Addr} {n m : Nat} : abin Tryz.prog 22 c .neq (.slice a n m) (.slice none 0 0) = some (.bool a.isSome) := slice_not_nil Tryz.underlying22
theorem build0_22 {H : AH} : abuildSlice Tryz.prog 22 0 [] H = some (.slice (some ⟨H.next, 0, some 0⟩) 0 0, (H.new 1 []).2) := build_nil Tryz.underlying22 size_9 zero_9 rfl (Nat.le_of_ble_eq_true rfl)
theorem build1_22 {H : AH} {x : Value} (hx : (vcells x).length = 1) (hc : (vcells x).all isCell = true) : abuildSlice Tryz.prog 22 1 [(0, x)] H = some (.slice (some ⟨H.next, 0, some 0⟩) 1 1, (H.new 1 (vcells x)).2) := build_one Tryz.underlying22 size_9 zero_9 rfl (Nat.le_of_ble_eq_true rfl) (Nat.le_of_ble_eq_true rfl) hx hc
theorem len_23 {H : AH} {n c : Nat} {a : Option Addr} : abuiltin Tryz.prog .len [23] [.slice a n c] H = some (.int .i64 (n : Int), H) := len_slice Tryz.underlying23
theorem info_23 : ((Tryz.prog.info? 54).map fun i => Nat.beq i.size 5 && Nat.ble i.bytes 65536) = some true := by kernel_rfl
theorem app1_23 {H : AH} {len cap : Nat} {base : Option Addr} {x : List Value} (hx : x.length = 5) (hb : len ≤ 1073741823) : abuiltin Tryz.prog .append [23, 23] [.slice base len cap, .slice (some ⟨H.next, 0, some 0⟩) 1 1] (H.new 5 x).2 = aappend 5 base len cap 1 x (H.new 5 x).2 := append_one Tryz.underlying23 info_23 zero_54 rfl (Nat.le_of_ble_eq_true rfl) hx hb
theorem isnil_23 {c : Bool} {a : Option Addr} {n m : Nat} : abin Tryz.prog 23 c .eql (.slice a n m) (.slice none 0 0) = some (.bool a.isNone) := slice_nil Tryz.underlying23
theorem notnil_23 {c : Bool} {a : Option Addr} {n m : Nat} : abin Tryz.prog 23 c .neq (.slice a n m) (.slice none 0 0) = some (.bool a.isSome) := slice_not_nil Tryz.underlying23
theorem build0_23 {H : AH} : abuildSlice Tryz.prog 23 0 [] H = some (.slice (some ⟨H.next, 0, some 0⟩) 0 0, (H.new 5 []).2) := build_nil Tryz.underlying23 size_54 zero_54 rfl (Nat.le_of_ble_eq_true rfl)
theorem build1_23 {H : AH} {x : Value} (hx : (vcells x).length = 5) (hc : (vcells x).all isCell = true) : abuildSlice Tryz.prog 23 1 [(0, x)] H = some (.slice (some ⟨H.next, 0, some 0⟩) 1 1, (H.new 5 (vcells x)).2) := build_one Tryz.underlying23 size_54 zero_54 rfl (Nat.le_of_ble_eq_true rfl) (Nat.le_of_ble_eq_true rfl) hx hc
theorem len_24 {H : AH} {n c : Nat} {a : Option Addr} : abuiltin Tryz.prog .len [24] [.slice a n c] H = some (.int .i64 (n : Int), H) := len_slice Tryz.underlying24
theorem info_24 : ((Tryz.prog.info? 56).map fun i => Nat.beq i.size 2 && Nat.ble i.bytes 65536) = some true := by kernel_rfl
theorem app1_24 {H : AH} {len cap : Nat} {base : Option Addr} {x : List Value} (hx : x.length = 2) (hb : len ≤ 1073741823) : abuiltin Tryz.prog .append [24, 24] [.slice base len cap, .slice (some ⟨H.next, 0, some 0⟩) 1 1] (H.new 2 x).2 = aappend 2 base len cap 1 x (H.new 2 x).2 := append_one Tryz.underlying24 info_24 zero_56 rfl (Nat.le_of_ble_eq_true rfl) hx hb
theorem isnil_24 {c : Bool} {a : Option Addr} {n m : Nat} : abin Tryz.prog 24 c .eql (.slice a n m) (.slice none 0 0) = some (.bool a.isNone) := slice_nil Tryz.underlying24
theorem notnil_24 {c : Bool} {a : Option Addr} {n m : Nat} : abin Tryz.prog 24 c .neq (.slice a n m) (.slice none 0 0) = some (.bool a.isSome) := slice_not_nil Tryz.underlying24
theorem build0_24 {H : AH} : abuildSlice Tryz.prog 24 0 [] H = some (.slice (some ⟨H.next, 0, some 0⟩) 0 0, (H.new 2 []).2) := build_nil Tryz.underlying24 size_56 zero_56 rfl (Nat.le_of_ble_eq_true rfl)
theorem build1_24 {H : AH} {x : Value} (hx : (vcells x).length = 2) (hc : (vcells x).all isCell = true) : abuildSlice Tryz.prog 24 1 [(0, x)] H = some (.slice (some ⟨H.next, 0, some 0⟩) 1 1, (H.new 2 (vcells x)).2) := build_one Tryz.underlying24 size_56 zero_56 rfl (Nat.le_of_ble_eq_true rfl) (Nat.le_of_ble_eq_true rfl) hx hc
theorem fa_26_0 {g o k : Nat} : afieldAddr Tryz.prog 26 0 (.pointer (some ⟨g, o, some k⟩)) = some (.pointer (some ⟨g, o + 0, some k⟩)) := by have h := fieldAddr_at (g := g) (o := o) (k := k) (f := 0) Tryz.underlying26 (Eq.refl (some _)) size_22 rfl; exact h
theorem fa_26_1 {g o k : Nat} : afieldAddr Tryz.prog 26 1 (.pointer (some ⟨g, o, some k⟩)) = some (.pointer (some ⟨g, o + 1, some k⟩)) := by have h := fieldAddr_at (g := g) (o := o) (k := k) (f := 1) Tryz.underlying26 (Eq.refl (some _)) size_3 rfl; exact h
theorem fa_26_2 {g o k : Nat} : afieldAddr Tryz.prog 26 2 (.pointer (some ⟨g, o, some k⟩)) = some (.pointer (some ⟨g, o + 2, some k⟩)) := by have h := fieldAddr_at (g := g) (o := o) (k := k) (f := 2) Tryz.underlying26 (Eq.refl (some _)) size_23 rfl; exact h
theorem fa_26_3 {g o k : Nat} : afieldAddr Tryz.prog 26 3 (.pointer (some ⟨g, o, some k⟩)) = some (.pointer (some ⟨g, o + 3, some k⟩)) := by have h := fieldAddr_at (g := g) (o := o) (k := k) (f := 3) Tryz.underlying26 (Eq.refl (some _)) size_24 rfl; exact h
theorem len_29 {H : AH} {n c : Nat} {a : Option Addr} : abuiltin Tryz.prog .len [29] [.slice a n c] H = some (.int .i64 (n : Int), H) := len_slice Tryz.underlying29
theorem isnil_29 {c : Bool} {a : Option Addr} {n m : Nat} : abin Tryz.prog 29 c .eql (.slice a n m) (.slice none 0 0) = some (.bool a.isNone) := slice_nil Tryz.underlying29
theorem notnil_29 {c : Bool} {a : Option Addr} {n m : Nat} : abin Tryz.prog 29 c .neq (.slice a n m) (.slice none 0 0) = some (.bool a.isSome) := slice_not_nil Tryz.underlying29
theorem build0_29 {H : AH} : abuildSlice Tryz.prog 29 0 [] H = some (.slice (some ⟨H.next, 0, some 0⟩) 0 0, (H.new 1 []).2) := build_nil Tryz.underlying29 size_22 zero_22 rfl (Nat.le_of_ble_eq_true rfl)
theorem build1_29 {H : AH} {x : Value} (hx : (vcells x).length = 1) (hc : (vcells x).all isCell = true) : abuildSlice Tryz.prog 29 1 [(0, x)] H = some (.slice (some ⟨H.next, 0, some 0⟩) 1 1, (H.new 1 (vcells x)).2) := build_one Tryz.underlying29 size_22 zero_22 rfl (Nat.le_of_ble_eq_true rfl) (Nat.le_of_ble_eq_true rfl) hx hc
theorem fa_54_0 {g o k : Nat} : afieldAddr Tryz.prog 54 0 (.pointer (some ⟨g, o, some k⟩)) = some (.pointer (some ⟨g, o + 0, some k⟩)) := by have h := fieldAddr_at (g := g) (o := o) (k := k) (f := 0) Tryz.underlying54 (Eq.refl (some _)) size_3 rfl; exact h
theorem fa_54_1 {g o k : Nat} : afieldAddr Tryz.prog 54 1 (.pointer (some ⟨g, o, some k⟩)) = some (.pointer (some ⟨g, o + 1, some k⟩)) := by have h := fieldAddr_at (g := g) (o := o) (k := k) (f := 1) Tryz.underlying54 (Eq.refl (some _)) size_9 rfl; exact h
theorem fa_54_2 {g o k : Nat} : afieldAddr Tryz.prog 54 2 (.pointer (some ⟨g, o, some k⟩)) = some (.pointer (some ⟨g, o + 2, some k⟩)) := by have h := fieldAddr_at (g := g) (o := o) (k := k) (f := 2) Tryz.underlying54 (Eq.refl (some _)) size_9 rfl; exact h
theorem fa_54_3 {g o k : Nat} : afieldAddr Tryz.prog 54 3 (.pointer (some ⟨g, o, some k⟩)) = some (.pointer (some ⟨g, o + 3, some k⟩)) := by have h := fieldAddr_at (g := g) (o := o) (k := k) (f := 3) Tryz.underlying54 (Eq.refl (some _)) size_3 rfl; exact h
theorem fa_54_4 {g o k : Nat} : afieldAddr Tryz.prog 54 4 (.pointer (some ⟨g, o, some k⟩)) = some (.pointer (some ⟨g, o + 4, some k⟩)) := by have h := fieldAddr_at (g := g) (o := o) (k := k) (f := 4) Tryz.underlying54 (Eq.refl (some _)) size_3 rfl; exact h
theorem bld_54 {v0 v1 v2 v3 v4 : Value} (h0 : isCell v0 = true) (h1 : isCell v1 = true) (h2 : isCell v2 = true) (h3 : isCell v3 = true) (h4 : isCell v4 = true) : abuild Tryz.prog 54 [(0, v0), (1, v1), (2, v2), (3, v3), (4, v4)] = some (.agg #[v0, v1, v2, v3, v4]) := by refine build_struct (pl := [(0, 1), (1, 1), (2, 1), (3, 1), (4, 1)]) Tryz.underlying54 zero_54 (by kernel_rfl) ?_; have va : ∀ xs : Array Value, vcells (.agg xs) = xs.toList := fun _ => rfl; simp [fillA, cell_vcells h0, cell_vcells h1, cell_vcells h2, cell_vcells h3, cell_vcells h4, va, h0, h1, h2, h3, h4, setCells, beq_dec, ble_dec]
theorem fa_56_0 {g o k : Nat} : afieldAddr Tryz.prog 56 0 (.pointer (some ⟨g, o, some k⟩)) = some (.pointer (some ⟨g, o + 0, some k⟩)) := by have h := fieldAddr_at (g := g) (o := o) (k := k) (f := 0) Tryz.underlying56 (Eq.refl (some _)) size_3 rfl; exact h
theorem fa_56_1 {g o k : Nat} : afieldAddr Tryz.prog 56 1 (.pointer (some ⟨g, o, some k⟩)) = some (.pointer (some ⟨g, o + 1, some k⟩)) := by have h := fieldAddr_at (g := g) (o := o) (k := k) (f := 1) Tryz.underlying56 (Eq.refl (some _)) size_3 rfl; exact h
theorem bld_56 {v0 v1 : Value} (h0 : isCell v0 = true) (h1 : isCell v1 = true) : abuild Tryz.prog 56 [(0, v0), (1, v1)] = some (.agg #[v0, v1]) := by refine build_struct (pl := [(0, 1), (1, 1)]) Tryz.underlying56 zero_56 (by kernel_rfl) ?_; have va : ∀ xs : Array Value, vcells (.agg xs) = xs.toList := fun _ => rfl; simp [fillA, cell_vcells h0, cell_vcells h1, va, h0, h1, setCells, beq_dec, ble_dec]
theorem len_62 {H : AH} {n c : Nat} {a : Option Addr} : abuiltin Tryz.prog .len [62] [.slice a n c] H = some (.int .i64 (n : Int), H) := len_slice Tryz.underlying62
theorem info_62 : ((Tryz.prog.info? 115).map fun i => Nat.beq i.size 1 && Nat.ble i.bytes 65536) = some true := by kernel_rfl
theorem isnil_62 {c : Bool} {a : Option Addr} {n m : Nat} : abin Tryz.prog 62 c .eql (.slice a n m) (.slice none 0 0) = some (.bool a.isNone) := slice_nil Tryz.underlying62
theorem notnil_62 {c : Bool} {a : Option Addr} {n m : Nat} : abin Tryz.prog 62 c .neq (.slice a n m) (.slice none 0 0) = some (.bool a.isSome) := slice_not_nil Tryz.underlying62
theorem mk_62 {H : AH} {l c : Nat} (hlc : l ≤ c) (hc : c ≤ 1073741824) : amakeSlice Tryz.prog 62 (.int .i64 (l : Int)) (.int .i64 (c : Int)) H = some (.slice (some ⟨H.next, 0, some 0⟩) l c, (H.new 1 (List.replicate c (.slice none 0 0))).2) := by rw [← repl_one]; exact make_at Tryz.underlying62 info_62 zero_115 rfl (Nat.le_of_ble_eq_true rfl) hlc hc
theorem build0_62 {H : AH} : abuildSlice Tryz.prog 62 0 [] H = some (.slice (some ⟨H.next, 0, some 0⟩) 0 0, (H.new 1 []).2) := build_nil Tryz.underlying62 size_115 zero_115 rfl (Nat.le_of_ble_eq_true rfl)
theorem len_63 {H : AH} {n c : Nat} {a : Option Addr} : abuiltin Tryz.prog .len [63] [.slice a n c] H = some (.int .i64 (n : Int), H) := len_slice Tryz.underlying63
theorem info_63 : ((Tryz.prog.info? 4).map fun i => Nat.beq i.size 1 && Nat.ble i.bytes 65536) = some true := by kernel_rfl
theorem isnil_63 {c : Bool} {a : Option Addr} {n m : Nat} : abin Tryz.prog 63 c .eql (.slice a n m) (.slice none 0 0) = some (.bool a.isNone) := slice_nil Tryz.underlying63
theorem notnil_63 {c : Bool} {a : Option Addr} {n m : Nat} : abin Tryz.prog 63 c .neq (.slice a n m) (.slice none 0 0) = some (.bool a.isSome) := slice_not_nil Tryz.underlying63
theorem mk_63 {H : AH} {l c : Nat} (hlc : l ≤ c) (hc : c ≤ 1073741824) : amakeSlice Tryz.prog 63 (.int .i64 (l : Int)) (.int .i64 (c : Int)) H = some (.slice (some ⟨H.next, 0, some 0⟩) l c, (H.new 1 (List.replicate c (.bool false))).2) := by rw [← repl_one]; exact make_at Tryz.underlying63 info_63 zero_4 rfl (Nat.le_of_ble_eq_true rfl) hlc hc
theorem build0_63 {H : AH} : abuildSlice Tryz.prog 63 0 [] H = some (.slice (some ⟨H.next, 0, some 0⟩) 0 0, (H.new 1 []).2) := build_nil Tryz.underlying63 size_4 zero_4 rfl (Nat.le_of_ble_eq_true rfl)
theorem fa_65_0 {g o k : Nat} : afieldAddr Tryz.prog 65 0 (.pointer (some ⟨g, o, some k⟩)) = some (.pointer (some ⟨g, o + 0, some k⟩)) := by have h := fieldAddr_at (g := g) (o := o) (k := k) (f := 0) Tryz.underlying65 (Eq.refl (some _)) size_3 rfl; exact h
theorem fa_65_1 {g o k : Nat} : afieldAddr Tryz.prog 65 1 (.pointer (some ⟨g, o, some k⟩)) = some (.pointer (some ⟨g, o + 1, some k⟩)) := by have h := fieldAddr_at (g := g) (o := o) (k := k) (f := 1) Tryz.underlying65 (Eq.refl (some _)) size_62 rfl; exact h
theorem fa_65_2 {g o k : Nat} : afieldAddr Tryz.prog 65 2 (.pointer (some ⟨g, o, some k⟩)) = some (.pointer (some ⟨g, o + 2, some k⟩)) := by have h := fieldAddr_at (g := g) (o := o) (k := k) (f := 2) Tryz.underlying65 (Eq.refl (some _)) size_63 rfl; exact h
theorem len_73 {H : AH} {n c : Nat} {a : Option Addr} : abuiltin Tryz.prog .len [73] [.slice a n c] H = some (.int .i64 (n : Int), H) := len_slice Tryz.underlying73
theorem info_73 : ((Tryz.prog.info? 94).map fun i => Nat.beq i.size 1 && Nat.ble i.bytes 65536) = some true := by kernel_rfl
theorem app_73 {H : AH} {t' len cap n : Nat} {base : Option Addr} {x : Value} {new : List Value} (hx : Sh.srcKind Tryz.prog t' x = true) (hn : Sh.newCells 1 H x = some (n, new)) (hb : len + n ≤ 1073741824) : abuiltin Tryz.prog .append [73, t'] [.slice base len cap, x] H = aappend 1 base len cap n new H := append_at Tryz.underlying73 info_73 zero_94 rfl (Nat.le_of_ble_eq_true rfl) hx hn hb
theorem isnil_73 {c : Bool} {a : Option Addr} {n m : Nat} : abin Tryz.prog 73 c .eql (.slice a n m) (.slice none 0 0) = some (.bool a.isNone) := slice_nil Tryz.underlying73
theorem notnil_73 {c : Bool} {a : Option Addr} {n m : Nat} : abin Tryz.prog 73 c .neq (.slice a n m) (.slice none 0 0) = some (.bool a.isSome) := slice_not_nil Tryz.underlying73
theorem mk_73 {H : AH} {l c : Nat} (hlc : l ≤ c) (hc : c ≤ 1073741824) : amakeSlice Tryz.prog 73 (.int .i64 (l : Int)) (.int .i64 (c : Int)) H = some (.slice (some ⟨H.next, 0, some 0⟩) l c, (H.new 1 (List.replicate c (.slice none 0 0))).2) := by rw [← repl_one]; exact make_at Tryz.underlying73 info_73 zero_94 rfl (Nat.le_of_ble_eq_true rfl) hlc hc
theorem build0_73 {H : AH} : abuildSlice Tryz.prog 73 0 [] H = some (.slice (some ⟨H.next, 0, some 0⟩) 0 0, (H.new 1 []).2) := build_nil Tryz.underlying73 size_94 zero_94 rfl (Nat.le_of_ble_eq_true rfl)
theorem build1_73 {H : AH} {x : Value} (hx : (vcells x).length = 1) (hc : (vcells x).all isCell = true) : abuildSlice Tryz.prog 73 1 [(0, x)] H = some (.slice (some ⟨H.next, 0, some 0⟩) 1 1, (H.new 1 (vcells x)).2) := build_one Tryz.underlying73 size_94 zero_94 rfl (Nat.le_of_ble_eq_true rfl) (Nat.le_of_ble_eq_true rfl) hx hc
theorem ia_74 {g o k n c i : Nat} {j : IntKind} (h : i < n) : aindexAddr Tryz.prog 74 (.slice (some ⟨g, o, some k⟩) n c) (.int j (i : Int)) = some (.pointer (some ⟨g, o + i * 1, some k⟩)) := indexAddr_at Tryz.underlying74 size_3 h
theorem len_74 {H : AH} {n c : Nat} {a : Option Addr} : abuiltin Tryz.prog .len [74] [.slice a n c] H = some (.int .i64 (n : Int), H) := len_slice Tryz.underlying74
theorem info_74 : ((Tryz.prog.info? 3).map fun i => Nat.beq i.size 1 && Nat.ble i.bytes 65536) = some true := by kernel_rfl
theorem app_74 {H : AH} {t' len cap n : Nat} {base : Option Addr} {x : Value} {new : List Value} (hx : Sh.srcKind Tryz.prog t' x = true) (hn : Sh.newCells 1 H x = some (n, new)) (hb : len + n ≤ 1073741824) : abuiltin Tryz.prog .append [74, t'] [.slice base len cap, x] H = aappend 1 base len cap n new H := append_at Tryz.underlying74 info_74 zero_3 rfl (Nat.le_of_ble_eq_true rfl) hx hn hb
theorem app1_74 {H : AH} {len cap : Nat} {base : Option Addr} {x : List Value} (hx : x.length = 1) (hb : len ≤ 1073741823) : abuiltin Tryz.prog .append [74, 74] [.slice base len cap, .slice (some ⟨H.next, 0, some 0⟩) 1 1] (H.new 1 x).2 = aappend 1 base len cap 1 x (H.new 1 x).2 := append_one Tryz.underlying74 info_74 zero_3 rfl (Nat.le_of_ble_eq_true rfl) hx hb
theorem isnil_74 {c : Bool} {a : Option Addr} {n m : Nat} : abin Tryz.prog 74 c .eql (.slice a n m) (.slice none 0 0) = some (.bool a.isNone) := slice_nil Tryz.underlying74
theorem notnil_74 {c : Bool} {a : Option Addr} {n m : Nat} : abin Tryz.prog 74 c .neq (.slice a n m) (.slice none 0 0) = some (.bool a.isSome) := slice_not_nil Tryz.underlying74
theorem mk_74 {H : AH} {l c : Nat} (hlc : l ≤ c) (hc : c ≤ 1073741824) : amakeSlice Tryz.prog 74 (.int .i64 (l : Int)) (.int .i64 (c : Int)) H = some (.slice (some ⟨H.next, 0, some 0⟩) l c, (H.new 1 (List.replicate c (.int .i64 0))).2) := by rw [← repl_one]; exact make_at Tryz.underlying74 info_74 zero_3 rfl (Nat.le_of_ble_eq_true rfl) hlc hc
theorem build0_74 {H : AH} : abuildSlice Tryz.prog 74 0 [] H = some (.slice (some ⟨H.next, 0, some 0⟩) 0 0, (H.new 1 []).2) := build_nil Tryz.underlying74 size_3 zero_3 rfl (Nat.le_of_ble_eq_true rfl)
theorem build1_74 {H : AH} {x : Value} (hx : (vcells x).length = 1) (hc : (vcells x).all isCell = true) : abuildSlice Tryz.prog 74 1 [(0, x)] H = some (.slice (some ⟨H.next, 0, some 0⟩) 1 1, (H.new 1 (vcells x)).2) := build_one Tryz.underlying74 size_3 zero_3 rfl (Nat.le_of_ble_eq_true rfl) (Nat.le_of_ble_eq_true rfl) hx hc
theorem fa_76_0 {g o k : Nat} : afieldAddr Tryz.prog 76 0 (.pointer (some ⟨g, o, some k⟩)) = some (.pointer (some ⟨g, o + 0, some k⟩)) := by have h := fieldAddr_at (g := g) (o := o) (k := k) (f := 0) Tryz.underlying76 (Eq.refl (some _)) size_22 rfl; exact h
theorem fa_76_1 {g o k : Nat} : afieldAddr Tryz.prog 76 1 (.pointer (some ⟨g, o, some k⟩)) = some (.pointer (some ⟨g, o + 1, some k⟩)) := by have h := fieldAddr_at (g := g) (o := o) (k := k) (f := 1) Tryz.underlying76 (Eq.refl (some _)) size_73 rfl; exact h
theorem fa_76_2 {g o k : Nat} : afieldAddr Tryz.prog 76 2 (.pointer (some ⟨g, o, some k⟩)) = some (.pointer (some ⟨g, o + 2, some k⟩)) := by have h := fieldAddr_at (g := g) (o := o) (k := k) (f := 2) Tryz.underlying76 (Eq.refl (some _)) size_74 rfl; exact h
theorem fa_76_3 {g o k : Nat} : afieldAddr Tryz.prog 76 3 (.pointer (some ⟨g, o, some k⟩)) = some (.pointer (some ⟨g, o + 3, some k⟩)) := by have h := fieldAddr_at (g := g) (o := o) (k := k) (f := 3) Tryz.underlying76 (Eq.refl (some _)) size_74 rfl; exact h
theorem len_89 {H : AH} {n c : Nat} {a : Option Addr} : abuiltin Tryz.prog .len [89] [.slice a n c] H = some (.int .i64 (n : Int), H) := len_slice Tryz.underlying89
theorem isnil_89 {c : Bool} {a : Option Addr} {n m : Nat} : abin Tryz.prog 89 c .eql (.slice a n m) (.slice none 0 0) = some (.bool a.isNone) := slice_nil Tryz.underlying89
theorem notnil_89 {c : Bool} {a : Option Addr} {n m : Nat} : abin Tryz.prog 89 c .neq (.slice a n m) (.slice none 0 0) = some (.bool a.isSome) := slice_not_nil Tryz.underlying89
theorem build0_89 {H : AH} : abuildSlice Tryz.prog 89 0 [] H = some (.slice (some ⟨H.next, 0, some 0⟩) 0 0, (H.new 1 []).2) := build_nil Tryz.underlying89 size_3 zero_3 rfl (Nat.le_of_ble_eq_true rfl)
theorem len_94 {H : AH} {n c : Nat} {a : Option Addr} : abuiltin Tryz.prog .len [94] [.slice a n c] H = some (.int .i64 (n : Int), H) := len_slice Tryz.underlying94
theorem info_94 : ((Tryz.prog.info? 96).map fun i => Nat.beq i.size 4 && Nat.ble i.bytes 65536) = some true := by kernel_rfl
theorem app1_94 {H : AH} {len cap : Nat} {base : Option Addr} {x : List Value} (hx : x.length = 4) (hb : len ≤ 1073741823) : abuiltin Tryz.prog .append [94, 94] [.slice base len cap, .slice (some ⟨H.next, 0, some 0⟩) 1 1] (H.new 4 x).2 = aappend 4 base len cap 1 x (H.new 4 x).2 := append_one Tryz.underlying94 info_94 zero_96 rfl (Nat.le_of_ble_eq_true rfl) hx hb
theorem isnil_94 {c : Bool} {a : Option Addr} {n m : Nat} : abin Tryz.prog 94 c .eql (.slice a n m) (.slice none 0 0) = some (.bool a.isNone) := slice_nil Tryz.underlying94
theorem notnil_94 {c : Bool} {a : Option Addr} {n m : Nat} : abin Tryz.prog 94 c .neq (.slice a n m) (.slice none 0 0) = some (.bool a.isSome) := slice_not_nil Tryz.underlying94
theorem build0_94 {H : AH} : abuildSlice Tryz.prog 94 0 [] H = some (.slice (some ⟨H.next, 0, some 0⟩) 0 0, (H.new 4 []).2) := build_nil Tryz.underlying94 size_96 zero_96 rfl (Nat.le_of_ble_eq_true rfl)
theorem build1_94 {H : AH} {x : Value} (hx : (vcells x).length = 4) (hc : (vcells x).all isCell = true) : abuildSlice Tryz.prog 94 1 [(0, x)] H = some (.slice (some ⟨H.next, 0, some 0⟩) 1 1, (H.new 4 (vcells x)).2) := build_one Tryz.underlying94 size_96 zero_96 rfl (Nat.le_of_ble_eq_true rfl) (Nat.le_of_ble_eq_true rfl) hx hc
theorem fa_96_0 {g o k : Nat} : afieldAddr Tryz.prog 96 0 (.pointer (some ⟨g, o, some k⟩)) = some (.pointer (some ⟨g, o + 0, some k⟩)) := by have h := fieldAddr_at (g := g) (o := o) (k := k) (f := 0) Tryz.underlying96 (Eq.refl (some _)) size_3 rfl; exact h
theorem fa_96_1 {g o k : Nat} : afieldAddr Tryz.prog 96 1 (.pointer (some ⟨g, o, some k⟩)) = some (.pointer (some ⟨g, o + 1, some k⟩)) := by have h := fieldAddr_at (g := g) (o := o) (k := k) (f := 1) Tryz.underlying96 (Eq.refl (some _)) size_3 rfl; exact h
theorem fa_96_2 {g o k : Nat} : afieldAddr Tryz.prog 96 2 (.pointer (some ⟨g, o, some k⟩)) = some (.pointer (some ⟨g, o + 2, some k⟩)) := by have h := fieldAddr_at (g := g) (o := o) (k := k) (f := 2) Tryz.underlying96 (Eq.refl (some _)) size_3 rfl; exact h
theorem fa_96_3 {g o k : Nat} : afieldAddr Tryz.prog 96 3 (.pointer (some ⟨g, o, some k⟩)) = some (.pointer (some ⟨g, o + 3, some k⟩)) := by have h := fieldAddr_at (g := g) (o := o) (k := k) (f := 3) Tryz.underlying96 (Eq.refl (some _)) size_3 rfl; exact h
theorem bld_96 {v0 v1 v2 v3 : Value} (h0 : isCell v0 = true) (h1 : isCell v1 = true) (h2 : isCell v2 = true) (h3 : isCell v3 = true) : abuild Tryz.prog 96 [(0, v0), (1, v1), (2, v2), (3, v3)] = some (.agg #[v0, v1, v2, v3]) := by refine build_struct (pl := [(0, 1), (1, 1), (2, 1), (3, 1)]) Tryz.underlying96 zero_96 (by kernel_rfl) ?_; have va : ∀ xs : Array Value, vcells (.agg xs) = xs.toList := fun _ => rfl; simp [fillA, cell_vcells h0, cell_vcells h1, cell_vcells h2, cell_vcells h3, va, h0, h1, h2, h3, setCells, beq_dec, ble_dec]
theorem len_115 {H : AH} {n c : Nat} {a : Option Addr} : abuiltin Tryz.prog .len [115] [.slice a n c] H = some (.int .i64 (n : Int), H) := len_slice Tryz.underlying115
theorem info_115 : ((Tryz.prog.info? 117).map fun i => Nat.beq i.size 2 && Nat.ble i.bytes 65536) = some true := by kernel_rfl
theorem app1_115 {H : AH} {len cap : Nat} {base : Option Addr} {x : List Value} (hx : x.length = 2) (hb : len ≤ 1073741823) : abuiltin Tryz.prog .append [115, 115] [.slice base len cap, .slice (some ⟨H.next, 0, some 0⟩) 1 1] (H.new 2 x).2 = aappend 2 base len cap 1 x (H.new 2 x).2 := append_one Tryz.underlying115 info_115 zero_117 rfl (Nat.le_of_ble_eq_true rfl) hx hb
theorem isnil_115 {c : Bool} {a : Option Addr} {n m : Nat} : abin Tryz.prog 115 c .eql (.slice a n m) (.slice none 0 0) = some (.bool a.isNone) := slice_nil Tryz.underlying115
theorem notnil_115 {c : Bool} {a : Option Addr} {n m : Nat} : abin Tryz.prog 115 c .neq (.slice a n m) (.slice none 0 0) = some (.bool a.isSome) := slice_not_nil Tryz.underlying115
theorem build0_115 {H : AH} : abuildSlice Tryz.prog 115 0 [] H = some (.slice (some ⟨H.next, 0, some 0⟩) 0 0, (H.new 2 []).2) := build_nil Tryz.underlying115 size_117 zero_117 rfl (Nat.le_of_ble_eq_true rfl)
theorem build1_115 {H : AH} {x : Value} (hx : (vcells x).length = 2) (hc : (vcells x).all isCell = true) : abuildSlice Tryz.prog 115 1 [(0, x)] H = some (.slice (some ⟨H.next, 0, some 0⟩) 1 1, (H.new 2 (vcells x)).2) := build_one Tryz.underlying115 size_117 zero_117 rfl (Nat.le_of_ble_eq_true rfl) (Nat.le_of_ble_eq_true rfl) hx hc
theorem fa_117_0 {g o k : Nat} : afieldAddr Tryz.prog 117 0 (.pointer (some ⟨g, o, some k⟩)) = some (.pointer (some ⟨g, o + 0, some k⟩)) := by have h := fieldAddr_at (g := g) (o := o) (k := k) (f := 0) Tryz.underlying117 (Eq.refl (some _)) size_9 rfl; exact h
theorem fa_117_1 {g o k : Nat} : afieldAddr Tryz.prog 117 1 (.pointer (some ⟨g, o, some k⟩)) = some (.pointer (some ⟨g, o + 1, some k⟩)) := by have h := fieldAddr_at (g := g) (o := o) (k := k) (f := 1) Tryz.underlying117 (Eq.refl (some _)) size_3 rfl; exact h
theorem bld_117 {v0 v1 : Value} (h0 : isCell v0 = true) (h1 : isCell v1 = true) : abuild Tryz.prog 117 [(0, v0), (1, v1)] = some (.agg #[v0, v1]) := by refine build_struct (pl := [(0, 1), (1, 1)]) Tryz.underlying117 zero_117 (by kernel_rfl) ?_; have va : ∀ xs : Array Value, vcells (.agg xs) = xs.toList := fun _ => rfl; simp [fillA, cell_vcells h0, cell_vcells h1, va, h0, h1, setCells, beq_dec, ble_dec]
theorem cv_3_153 {H : AH} {n : Int} : aconvert Tryz.prog 3 153 (.int .i64 n) H = some (.int .u64 (IntKind.wrap .u64 n), H) := conv_int Tryz.underlying3 Tryz.underlying153
theorem cv_3_180 {H : AH} {n : Int} : aconvert Tryz.prog 3 180 (.int .i64 n) H = some (.int .u64 (IntKind.wrap .u64 n), H) := conv_int Tryz.underlying3 Tryz.underlying180
theorem cv_5_3 {H : AH} {n : Int} : aconvert Tryz.prog 5 3 (.int .u8 n) H = some (.int .i64 (IntKind.wrap .i64 n), H) := conv_int Tryz.underlying5 Tryz.underlying3
theorem cv_153_3 {H : AH} {n : Int} : aconvert Tryz.prog 153 3 (.int .u64 n) H = some (.int .i64 (IntKind.wrap .i64 n), H) := conv_int Tryz.underlying153 Tryz.underlying3
theorem cv_153_171 {H : AH} {n : Int} : aconvert Tryz.prog 153 171 (.int .u64 n) H = some (.int .u32 (IntKind.wrap .u32 n), H) := conv_int Tryz.underlying153 Tryz.underlying171
theorem cv_171_5 {H : AH} {n : Int} : aconvert Tryz.prog 171 5 (.int .u32 n) H = some (.int .u8 (IntKind.wrap .u8 n), H) := conv_int Tryz.underlying171 Tryz.underlying5
theorem cv_173_5 {H : AH} {n : Int} : aconvert Tryz.prog 173 5 (.int .u64 n) H = some (.int .u8 (IntKind.wrap .u8 n), H) := conv_int Tryz.underlying173 Tryz.underlying5
theorem seatFacts : type_of% (And.intro @zero_1 (And.intro @ld_1 (And.intro @zero_2 (And.intro @ld_2 (And.intro @zero_3 (And.intro @ld_3 (And.intro @zero_4 (And.intro @ld_4 (And.intro @zero_5 (And.intro @ld_5 (And.intro @zero_9 (And.intro @ld_9 (And.intro @zero_22 (And.intro @ld_22 (And.intro @zero_23 (And.intro @ld_23 (And.intro @zero_24 (And.intro @ld_24 (And.intro @zero_26 (And.intro @ld_26 (And.intro @zero_29 (And.intro @ld_29 (And.intro @zero_30 (And.intro @ld_30 (And.intro @zero_54 (And.intro @ld_54 (And.intro @zero_56 (And.intro @ld_56 (And.intro @zero_57 (And.intro @ld_57 (And.intro @zero_62 (And.intro @ld_62 (And.intro @zero_63 (And.intro @ld_63 (And.intro @zero_65 (And.intro @ld_65 (And.intro @zero_69 (And.intro @ld_69 (And.intro @zero_73 (And.intro @ld_73 (And.intro @zero_74 (And.intro @ld_74 (And.intro @zero_76 (And.intro @ld_76 (And.intro @zero_89 (And.intro @ld_89 (And.intro @zero_93 (And.intro @ld_93 (And.intro @zero_94 (And.intro @ld_94 (And.intro @zero_96 (And.intro @ld_96 (And.intro @zero_111 (And.intro @ld_111 (And.intro @zero_115 (And.intro @ld_115 (And.intro @zero_117 (And.intro @ld_117 (And.intro @zero_128 (And.intro @ld_128 (And.intro @zero_136 (And.intro @ld_136 (And.intro @zero_142 (And.intro @ld_142 (And.intro @zero_153 (And.intro @ld_153 (And.intro @zero_164 (And.intro @ld_164 (And.intro @zero_171 (And.intro @ld_171 (And.intro @zero_173 (And.intro @ld_173 (And.intro @zero_180 (And.intro @ld_180 (And.intro @zero_184 (And.intro @ld_184 (And.intro @zero_188 (And.intro @ld_188 (And.intro @len_9 (And.intro @len_22 (And.intro @isnil_22 (And.intro @notnil_22 (And.intro @build0_22 (And.intro @len_23 (And.intro @isnil_23 (And.intro @notnil_23 (And.intro @build0_23 (And.intro @len_24 (And.intro @isnil_24 (And.intro @notnil_24 (And.intro @build0_24 (And.intro @fa_26_0 (And.intro @fa_26_1 (And.intro @fa_26_2 (And.intro @fa_26_3 (And.intro @len_29 (And.intro @isnil_29 (And.intro @notnil_29 (And.intro @build0_29 (And.intro @fa_54_0 (And.intro @fa_54_1 (And.intro @fa_54_2 (And.intro @fa_54_3 (And.intro @fa_54_4 (And.intro @fa_56_0 (And.intro @fa_56_1 (And.intro @len_62 (And.intro @isnil_62 (And.intro @notnil_62 (And.intro @build0_62 (And.intro @len_63 (And.intro @isnil_63 (And.intro @notnil_63 (And.intro @build0_63 (And.intro @fa_65_0 (And.intro @fa_65_1 (And.intro @fa_65_2 (And.intro @len_73 (And.intro @isnil_73 (And.intro @notnil_73 (And.intro @build0_73 (And.intro @len_74 (And.intro @isnil_74 (And.intro @notnil_74 (And.intro @build0_74 (And.intro @fa_76_0 (And.intro @fa_76_1 (And.intro @fa_76_2 (And.intro @fa_76_3 (And.intro @len_89 (And.intro @isnil_89 (And.intro @notnil_89 (And.intro @build0_89 (And.intro @len_94 (And.intro @isnil_94 (And.intro @notnil_94 (And.intro @build0_94 (And.intro @fa_96_0 (And.intro @fa_96_1 (And.intro @fa_96_2 (And.intro @fa_96_3 (And.intro @len_115 (And.intro @isnil_115 (And.intro @notnil_115 (And.intro @build0_115 (And.intro @fa_117_0 (And.intro @fa_117_1 (And.intro @cv_3_153 (And.intro @cv_3_180 (And.intro @cv_5_3 (And.intro @cv_153_3 (And.intro @cv_153_171 (And.intro @cv_171_5 (@cv_173_5)))))))))))))))))))))))))))))))))))))))))))))))))))))))))))))))))))))))))))))))))))))))))))))))))))))))))))))))))))))))))))))))))))))))))))))))))))))))))) := And.intro @zero_1 (And.intro @ld_1 (And.intro @zero_2 (And.intro @ld_2 (And.intro @zero_3 (And.intro @ld_3 (And.intro @zero_4 (And.intro @ld_4 (And.intro @zero_5 (And.intro @ld_5 (And.intro @zero_9 (And.intro @ld_9 (And.intro @zero_22 (And.intro @ld_22 (And.intro @zero_23 (And.intro @ld_23 (And.intro @zero_24 (And.intro @ld_24 (And.intro @zero_26 (And.intro @ld_26 (And.intro @zero_29 (And.intro @ld_29 (And.intro @zero_30 (And.intro @ld_30 (And.intro @zero_54 (And.intro @ld_54 (And.intro @zero_56 (And.intro @ld_56 (And.intro @zero_57 (And.intro @ld_57 (And.intro @zero_62 (And.intro @ld_62 (And.intro @zero_63 (And.intro @ld_63 (And.intro @zero_65 (And.intro @ld_65 (And.intro @zero_69 (And.intro @ld_69 (And.intro @zero_73 (And.intro @ld_73 (And.intro @zero_74 (And.intro @ld_74 (And.intro @zero_76 (And.intro @ld_76 (And.intro @zero_89 (And.intro @ld_89 (And.intro @zero_93 (And.intro @ld_93 (And.intro @zero_94 (And.intro @ld_94 (And.intro @zero_96 (And.intro @ld_96 (And.intro @zero_111 (And.intro @ld_111 (And.intro @zero_115 (And.intro @ld_115 (And.intro @zero_117 (And.intro @ld_117 (And.intro @zero_128 (And.intro @ld_128 (And.intro @zero_136 (And.intro @ld_136 (And.intro @zero_142 (And.intro @ld_142 (And.intro @zero_153 (And.intro @ld_153 (And.intro @zero_164 (And.intro @ld_164 (And.intro @zero_171 (And.intro @ld_171 (And.intro @zero_173 (And.intro @ld_173 (And.intro @zero_180 (And.intro @ld_180 (And.intro @zero_184 (And.intro @ld_184 (And.intro @zero_188 (And.intro @ld_188 (And.intro @len_9 (And.intro @len_22 (And.intro @isnil_22 (And.intro @notnil_22 (And.intro @build0_22 (And.intro @len_23 (And.intro @isnil_23 (And.intro @notnil_23 (And.intro @build0_23 (And.intro @len_24 (And.intro @isnil_24 (And.intro @notnil_24 (And.intro @build0_24 (And.intro @fa_26_0 (And.intro @fa_26_1 (And.intro @fa_26_2 (And.intro @fa_26_3 (And.intro @len_29 (And.intro @isnil_29 (And.intro @notnil_29 (And.intro @build0_29 (And.intro @fa_54_0 (And.intro @fa_54_1 (And.intro @fa_54_2 (And.intro @fa_54_3 (And.intro @fa_54_4 (And.intro @fa_56_0 (And.intro @fa_56_1 (And.intro @len_62 (And.intro @isnil_62 (And.intro @notnil_62 (And.intro @build0_62 (And.intro @len_63 (And.intro @isnil_63 (And.intro @notnil_63 (And.intro @build0_63 (And.intro @fa_65_0 (And.intro @fa_65_1 (And.intro @fa_65_2 (And.intro @len_73 (And.intro @isnil_73 (And.intro @notnil_73 (And.intro @build0_73 (And.intro @len_74 (And.intro @isnil_74 (And.intro @notnil_74 (And.intro @build0_74 (And.intro @fa_76_0 (And.intro @fa_76_1 (And.intro @fa_76_2 (And.intro @fa_76_3 (And.intro @len_89 (And.intro @isnil_89 (And.intro @notnil_89 (And.intro @build0_89 (And.intro @len_94 (And.intro @isnil_94 (And.intro @notnil_94 (And.intro @build0_94 (And.intro @fa_96_0 (And.intro @fa_96_1 (And.intro @fa_96_2 (And.intro @fa_96_3 (And.intro @len_115 (And.intro @isnil_115 (And.intro @notnil_115 (And.intro @build0_115 (And.intro @fa_117_0 (And.intro @fa_117_1 (And.intro @cv_3_153 (And.intro @cv_3_180 (And.intro @cv_5_3 (And.intro @cv_153_3 (And.intro @cv_153_171 (And.intro @cv_171_5 (@cv_173_5)))))))))))))))))))))))))))))))))))))))))))))))))))))))))))))))))))))))))))))))))))))))))))))))))))))))))))))))))))))))))))))))))))))))))))))))))))))))))
theorem sx : type_of% (And.intro @Sh.sy @seatFacts) := And.intro @Sh.sy @seatFacts
end Go.Proofs.YtfcmpclbhnjkgaaGreat
-- simp: zero_1, ld_1, zero_2, ld_2, zero_3, ld_3, zero_4, ld_4, zero_5, ld_5, zero_9, ld_9, zero_22, ld_22, zero_23, ld_23, zero_24, ld_24, zero_26, ld_26, zero_29, ld_29, zero_30, ld_30, zero_54, ld_54, zero_56, ld_56, zero_57, ld_57, zero_62, ld_62, zero_63, ld_63, zero_65, ld_65, zero_69, ld_69, zero_73, ld_73, zero_74, ld_74, zero_76, ld_76, zero_89, ld_89, zero_93, ld_93, zero_94, ld_94, zero_96, ld_96, zero_111, ld_111, zero_115, ld_115, zero_117, ld_117, zero_128, ld_128, zero_136, ld_136, zero_142, ld_142, zero_153, ld_153, zero_164, ld_164, zero_171, ld_171, zero_173, ld_173, zero_180, ld_180, zero_184, ld_184, zero_188, ld_188, len_9, len_22, isnil_22, notnil_22, build0_22, len_23, isnil_23, notnil_23, build0_23, len_24, isnil_24, notnil_24, build0_24, fa_26_0, fa_26_1, fa_26_2, fa_26_3, len_29, isnil_29, notnil_29, build0_29, fa_54_0, fa_54_1, fa_54_2, fa_54_3, fa_54_4, fa_56_0, fa_56_1, len_62, isnil_62, notnil_62, build0_62, len_63, isnil_63, notnil_63, build0_63, fa_65_0, fa_65_1, fa_65_2, len_73, isnil_73, notnil_73, build0_73, len_74, isnil_74, notnil_74, build0_74, fa_76_0, fa_76_1, fa_76_2, fa_76_3, len_89, isnil_89, notnil_89, build0_89, len_94, isnil_94, notnil_94, build0_94, fa_96_0, fa_96_1, fa_96_2, fa_96_3, len_115, isnil_115, notnil_115, build0_115, fa_117_0, fa_117_1, cv_3_153, cv_3_180, cv_5_3, cv_153_3, cv_153_171, cv_171_5, cv_173_5
/- (*graph.Graph).Arc: an arc is noted. -/
set_option maxHeartbeats 4000000
set_option maxRecDepth 20000
set_option linter.unusedSimpArgs false
set_option linter.unusedVariables false
set_option pp.deepTerms.threshold 8
namespace Go.Proofs.YtfcmpclbhnjkgaaGreat
open Go Go.Proofs Go.Proofs.Sh
theorem graphArc {H : AH} {g : Nat} {sv av ev cv : Value} {ot : Option Nat} {vals : List Value} {rows : List (List (List Value))} {obs : List (Option Nat)} {s : Nat} {r : List (List Value)} {x0 x1 x2 x3 : Int}
    (hg : Arr H g 0 4 [sv, av, ev, cv]) (hj : Jag H av ot 4 vals rows obs) (hgj : ¬JIn ot obs g) (hr : rows[s]? = some r) (hl : r.length ≤ 1073741823) (hw : Wf H) :
    Sh.Call Tryz.prog (knows 10) 52 [.pointer (some ⟨g, 0, some 0⟩), .int .i64 (s : Int), .int .i64 x0, .int .i64 x1, .int .i64 x2, .int .i64 x3] H (fun _ H' => Chg (JIn ot obs) H H' ∧ ∃ vals' obs', Jag H' av ot 4 vals' (rows.set s (r ++ [[.int .i64 x0, .int .i64 x1, .int .i64 x2, .int .i64 x3]])) obs' ∧ ∀ y, JIn ot obs' y → JIn ot obs y ∨ H.next ≤ y) := by
  refine call_of rfl Tryz.func52 rfl (Nat.le_of_ble_eq_true rfl) ?_
  have hres : Tryz.f52.results.toList = [] := rfl
  have hn := hg.cell 1
  obtain ⟨a, cap, w', H2, H3, o', p, e1, e2, e3, e4, e5, e6, e7, e8, e9⟩ := hj.pushAt Tryz.underlying73 size_94 hw hr (x := [.int .i64 x0, .int .i64 x1, .int .i64 x2, .int .i64 x3]) rfl
  have hb := bld_96 (v0 := .int .i64 x0) (v1 := .int .i64 x1) (v2 := .int .i64 x2) (v3 := .int .i64 x3) rfl rfl rfl rfl
  have hbs := build1_94 (H := H) (x := .agg #[.int .i64 x0, .int .i64 x1, .int .i64 x2, .int .i64 x3]) rfl rfl
  have ha := app1_94 (H := H) (base := a) (len := r.length) (cap := cap) (x := [.int .i64 x0, .int .i64 x1, .int .i64 x2, .int .i64 x3]) rfl (by omega)
  rw [e1] at ha
  have hn2 := (hg.keep (e7.old g (hg.lt hw) hgj)).cell 1
  have st : astore Tryz.prog 94 H2 w' (.pointer (some p)) = some H3 := by rw [store_cell size_94 e8, e4]
  have hav := hj.top.veq
  have va : ∀ xs : Array Value, vcells (.agg xs) = xs.toList := fun _ => rfl
  simp only [va] at hbs
  refine wp_pend (fl := [(0, []), (1, []), (2, []), (3, []), (4, []), (5, []), (6, []), (7, []), (8, []), (9, []), (10, []), (11, []), (12, []), (13, []), (14, []), (15, []), (16, []), (17, []), (18, [3]), (19, []), (20, [])]) (by kernel_rfl) (by kernel_rfl) (by kernel_rfl) ?_
  simp only [↓Sh.dn, sx, Nat.reduceBEq, reduceCtorEq, Nat.reduceEqDiff, wpr, again, isMake, veq_ptr, veq_int, veq_str, veq_bool, veq_undef, veq_slice, forall_eq, forall_eq', hn, e2, e3, hb, hbs, ha, hn2, st, hres, hav]
  exact ⟨e6, _, _, e5, e9⟩
end Go.Proofs.YtfcmpclbhnjkgaaGreat
/- (*graph.Graph).End: an end is noted. -/
set_option maxHeartbeats 4000000
set_option maxRecDepth 20000
set_option linter.unusedSimpArgs false
set_option linter.unusedVariables false
set_option pp.deepTerms.threshold 8
namespace Go.Proofs.YtfcmpclbhnjkgaaGreat
open Go Go.Proofs Go.Proofs.Sh
/-- What one end does to the least costs: the number of ends so far, the least cost so far. -/
def endCost (n c x : Int) : Int := if n = 0 ∨ x < c then x else c
theorem graphEnd {H : AH} {g : Nat} {sv av ev cv : Value} {ends costs : List Int} {oe oc : Option Nat} {s : Nat} {x : Int}
    (hg : Arr H g 0 4 [sv, av, ev, cv]) (he : Buf H 1 ev (ends.map fun n => [.int .i64 n]) oe) (hc : Buf H 1 cv (costs.map fun n => [.int .i64 n]) oc)
    (hge : oe ≠ some g) (hgc : oc ≠ some g) (hec : ∀ y, oe = some y → oc ≠ some y) (hs : s < ends.length) (hs' : s < costs.length) (hw : Wf H)
    (h0 : 0 ≤ ends[s]) (h1 : ends[s] ≤ 1048576) :
    Sh.Call Tryz.prog (knows 10) 53 [.pointer (some ⟨g, 0, some 0⟩), .int .i64 (s : Int), .int .i64 x] H (fun r H' => Chg (fun y => oe = some y ∨ oc = some y) H H' ∧ H'.next = H.next ∧ Buf H' 1 ev ((ends.set s (ends[s] + 1)).map fun n => [.int .i64 n]) oe ∧ Buf H' 1 cv ((costs.set s (endCost ends[s] costs[s] x)).map fun n => [.int .i64 n]) oc) := by
  refine call_of rfl Tryz.func53 rfl (Nat.le_of_ble_eq_true rfl) ?_
  have hres : Tryz.f53.results.toList = [] := rfl
  have hn := hg.cell 2
  have hm := hg.cell 3
  obtain ⟨q, o, k, hia, hcs, hcc⟩ := he.toSl.at Tryz.underlying74 size_3 (i := s) (x := [.int .i64 ends[s]]) (by simp [hs]) .i64
  have hy := hcc 0 _ rfl
  obtain ⟨q', o', k', hia', hcs', hcc'⟩ := hc.toSl.at Tryz.underlying74 size_3 (i := s) (x := [.int .i64 costs[s]]) (by simp [hs']) .i64
  have hy' := hcc' 0 _ rfl
  simp only [Nat.add_zero] at hy hy'
  have wu : IntKind.wrap .i64 (ends[s] + 1) = ends[s] + 1 := by rw [wrap64 (by omega) (by omega)]
  have tl : ∀ H1, Chg (fun y => oc = some y) H H1 → H1.next = H.next → ∃ H2, H1.cell ⟨g, 2, some 0⟩ = some ev ∧ H1.cell ⟨q, o, some k⟩ = some (.int .i64 ends[s]) ∧
      H1.write ⟨q, o, some k⟩ [.int .i64 (ends[s] + 1)] = some H2 ∧ Buf H2 1 ev ((ends.set s (ends[s] + 1)).map fun n => [.int .i64 n]) oe ∧ Chg (fun y => oe = some y ∨ oc = some y) H H2 ∧ Chg (fun y => oe = some y) H1 H2 ∧ H2.next = H.next := by
    intro H1 hch hnx
    have he1 := he.chg hw hch fun y h1 h2 => hec y h1 h2
    obtain ⟨q1, o1, k1, hia1, hcs, hcc⟩ := he1.toSl.at Tryz.underlying74 size_3 (i := s) (x := [.int .i64 ends[s]]) (by simp [hs]) .i64
    have hy := hcc 0 _ rfl
    simp only [Nat.add_zero] at hy
    obtain ⟨pe, H2, ia1, e1, b1, c1, n1⟩ := Buf.set (P := Tryz.prog) he1 hch.wf (i := s) (x := [.int .i64 (ends[s] + 1)]) (by simpa using hs) rfl
    have ia := ia1 Tryz.underlying74 size_3 (j := .i64)
    rw [hia1] at ia
    injection ia with ia; injection ia with ia; injection ia with ia; subst ia
    rw [hia] at hia1
    injection hia1 with ib; injection ib with ib; injection ib with ib; rw [← ib] at hy e1
    have hg1 := hg.keep (hch.old g (hg.lt hw) hgc)
    exact ⟨H2, hg1.cell 2, hy, e1, by simpa only [List.map_set] using b1, (hch.weak fun _ h => Or.inr h).trans (c1.weak fun _ h => Or.inl h), c1, by rw [n1, hnx]⟩
  have st : ∀ (H : AH) (a : Addr) (n : Int), astore Tryz.prog 3 H (.int .i64 n) (.pointer (some a)) = H.write a [.int .i64 n] := fun H a n => store_cell size_3 rfl
  have lastC : ∀ H1 H2, Buf H1 1 cv ((costs.set s x).map fun n => [.int .i64 n]) oc → Wf H1 → Chg (fun y => oe = some y) H1 H2 → (ends[s] = 0 ∨ x < costs[s]) → Buf H2 1 cv ((costs.set s (endCost ends[s] costs[s] x)).map fun n => [.int .i64 n]) oc := by
    intro H1 H2 hb hw1 hch h
    unfold endCost
    rw [if_pos h]
    exact hb.chg hw1 hch fun y h1 h2 => hec y h2 h1
  obtain ⟨pc, C1, ia2, f1, d1, g1, m1⟩ := Buf.set (P := Tryz.prog) hc hw (i := s) (x := [.int .i64 x]) (by simpa using hs') rfl
  have ia := ia2 Tryz.underlying74 size_3 (j := .i64)
  rw [hia'] at ia
  injection ia with ia; injection ia with ia; injection ia with ia; subst ia
  have d1' : Buf C1 1 cv ((costs.set s x).map fun n => [.int .i64 n]) oc := by simpa only [List.map_set] using d1
  by_cases hz : ends[s] = 0
  · have d : decide (ends[s] = 0) = true := by simp [hz]
    obtain ⟨H2, j2, j3, j4, j5, j6, j7, j8⟩ := tl C1 g1 m1
    simp only [↓Sh.dn, sx, Nat.reduceBEq, reduceCtorEq, Nat.reduceEqDiff, hn, hm, hia, hy, hia', hy', d, st, f1, j2, j3, j4, wu, hres]
    exact ⟨j6, j8, j5, lastC _ _ d1' g1.wf j7 (Or.inl hz)⟩
  · have d : decide (ends[s] = 0) = false := by simp [hz]
    by_cases hx : x < costs[s]
    · have d' : decide (x < costs[s]) = true := by simp [hx]
      obtain ⟨H2, j2, j3, j4, j5, j6, j7, j8⟩ := tl C1 g1 m1
      simp only [↓Sh.dn, sx, Nat.reduceBEq, reduceCtorEq, Nat.reduceEqDiff, hn, hm, hia, hy, hia', hy', d, d', st, f1, j2, j3, j4, wu, hres]
      exact ⟨j6, j8, j5, lastC _ _ d1' g1.wf j7 (Or.inr hx)⟩
    · have d' : decide (x < costs[s]) = false := by simp [hx]
      obtain ⟨H2, j2, j3, j4, j5, j6, j7, j8⟩ := tl H (Chg.refl hw) rfl
      simp only [↓Sh.dn, sx, Nat.reduceBEq, reduceCtorEq, Nat.reduceEqDiff, hn, hm, hia, hy, hia', hy', d, d', st, j2, j3, j4, wu, hres]
      refine ⟨j6, j8, j5, ?_⟩
      have e : costs.set s (endCost ends[s] costs[s] x) = costs := by
        unfold endCost
        rw [if_neg (by simp [hz, hx])]
        exact List.set_getElem_self hs'
      rw [e]; exact hc.chg hw j7 fun y h1 h2 => hec y h2 h1
end Go.Proofs.YtfcmpclbhnjkgaaGreat
/- (*graph.Graph).Arc and End, of a graph that is being made. -/
set_option maxHeartbeats 4000000
set_option maxRecDepth 20000
set_option linter.unusedSimpArgs false
set_option linter.unusedVariables false
set_option pp.deepTerms.threshold 8
namespace Go.Proofs.YtfcmpclbhnjkgaaGreat
open Go Go.Proofs Go.Proofs.Sh
/-- What an arc leaves. -/
theorem GrB.arced {H H' : AH} {base g : Nat} {sv av ev cv : Value} {os ot oe oc : Option Nat} {vals vals' : List Value} {obs obs' : List (Option Nat)} {sigma : List ByteArray} {rows rows' : List (List (List Value))} {ends costs : List Int}
    (h : GrB H base g sv av ev cv os ot oe oc vals obs sigma rows ends costs) (hw : Wf H) (hc : Chg (JIn ot obs) H H') (hj : Jag H' av ot 4 vals' rows' obs') (hin : ∀ y, JIn ot obs' y → JIn ot obs y ∨ H.next ≤ y) :
    Chg (fun y => base ≤ y) H H' ∧ Gr H' base g sigma rows' ends costs := by
  have hg := h.arr.lt hw
  refine ⟨hc.weak h.fj, sv, av, ev, cv, os, ot, oe, oc, vals', obs', ?_⟩
  exact { h with
    arr := h.arr.keep (hc.old g hg h.gj)
    sg := h.sg.chg hw hc h.sj
    jag := hj
    en := h.en.chg hw hc h.je
    co := h.co.chg hw hc h.jc
    fj := fun y hy => by
      rcases hin y hy with h1 | h1
      · exact h.fj y h1
      · have := h.fg; omega
    gj := fun hy => by
      rcases hin g hy with h1 | h1
      · exact h.gj h1
      · omega
    sj := fun y hy hy2 => by
      rcases hin y hy2 with h1 | h1
      · exact h.sj y hy h1
      · have := h.sg.lt hw y hy; omega
    je := fun y hy hy2 => by
      rcases hin y hy2 with h1 | h1
      · exact h.je y hy h1
      · have := h.en.lt hw y hy; omega
    jc := fun y hy hy2 => by
      rcases hin y hy2 with h1 | h1
      · exact h.jc y hy h1
      · have := h.co.lt hw y hy; omega }
theorem grArc {H : AH} {base g : Nat} {sigma : List ByteArray} {rows : List (List (List Value))} {ends costs : List Int} {s : Nat} {r : List (List Value)} {x0 x1 x2 x3 : Int}
    (h : Gr H base g sigma rows ends costs) (hr : rows[s]? = some r) (hl : r.length ≤ 1073741823) (hw : Wf H) :
    Sh.Call Tryz.prog (knows 10) 52 [.pointer (some ⟨g, 0, some 0⟩), .int .i64 (s : Int), .int .i64 x0, .int .i64 x1, .int .i64 x2, .int .i64 x3] H (fun _ H' => Chg (fun y => base ≤ y) H H' ∧ Gr H' base g sigma (rows.set s (r ++ [[.int .i64 x0, .int .i64 x1, .int .i64 x2, .int .i64 x3]])) ends costs) := by
  obtain ⟨sv, av, ev, cv, os, ot, oe, oc, vals, obs, h⟩ := h
  refine (graphArc h.arr h.jag h.gj hr hl hw).mono ?_
  rintro _ H' ⟨hc, vals', obs', hj, hin⟩
  exact GrB.arced h hw hc hj hin
theorem grEnd {H : AH} {base g : Nat} {sigma : List ByteArray} {rows : List (List (List Value))} {ends costs : List Int} {s : Nat} {x : Int}
    (h : Gr H base g sigma rows ends costs) (hs : s < ends.length) (hs' : s < costs.length) (hw : Wf H) (h0 : 0 ≤ ends[s]) (h1 : ends[s] ≤ 1048576) :
    Sh.Call Tryz.prog (knows 10) 53 [.pointer (some ⟨g, 0, some 0⟩), .int .i64 (s : Int), .int .i64 x] H (fun _ H' => Chg (fun y => base ≤ y) H H' ∧ Gr H' base g sigma rows (ends.set s (ends[s] + 1)) (costs.set s (endCost ends[s] costs[s] x))) := by
  obtain ⟨sv, av, ev, cv, os, ot, oe, oc, vals, obs, h⟩ := h
  refine (graphEnd h.arr h.en h.co h.ge h.gc h.ec hs hs' hw h0 h1).mono ?_
  rintro _ H' ⟨hc, hn, he, hcc⟩
  refine ⟨hc.weak fun y hy => ?_, sv, av, ev, cv, os, ot, oe, oc, vals, obs, { h with arr := h.arr.keep (hc.old g (h.arr.lt hw) ?_), sg := h.sg.chg hw hc ?_, jag := h.jag.chg hw hc ?_, en := he, co := hcc }⟩
  · rcases hy with hy | hy
    · exact h.fe y hy
    · exact h.fc y hy
  · rintro (hy | hy)
    · exact h.ge hy
    · exact h.gc hy
  · rintro y hy (hy2 | hy2)
    · exact h.se y hy hy2
    · exact h.sc y hy hy2
  · rintro y hy (hy2 | hy2)
    · exact h.je y hy2 hy
    · exact h.jc y hy2 hy
end Go.Proofs.YtfcmpclbhnjkgaaGreat
/- slices.Clone. -/
set_option maxHeartbeats 4000000
set_option maxRecDepth 20000
set_option linter.unusedSimpArgs false
set_option linter.unusedVariables false
set_option pp.deepTerms.threshold 8
namespace Go.Proofs.YtfcmpclbhnjkgaaGreat
open Go Go.Proofs Go.Proofs.Sh
theorem cloneBigStr {H : AH} {v : Value} {l : List (List Value)} (hs : Sl H v 1 l) (hl : l.length ≤ 1073741823) (hw : Wf H) :
    Sh.Call Tryz.prog (knows 10) 99 [v] H (fun r H' => Kept H H' ∧ ∃ b, Buf H' 1 r l b ∧ ∀ g, b = some g → H.next ≤ g) := by
  refine call_of rfl Tryz.func99 rfl (Nat.le_of_ble_eq_true rfl) ?_
  have hres : Tryz.f99.results.toList = [.tmp 2] := rfl
  obtain ⟨a, cap, rfl, h2, h3, h4⟩ := id hs
  cases a with
  | none =>
    obtain ⟨rfl, rfl⟩ := h3 rfl
    simp only [↓Sh.dn, sx, Nat.reduceBEq, reduceCtorEq, Nat.reduceEqDiff, List.length_nil, Option.isNone_none, hres]
    exact ⟨Kept.refl hw, none, .void none, fun g h => by cases h⟩
  | some a =>
    have hs1 := hs.grow (HGrow.new hw 1 [])
    have hk1 : Kept H (H.new 1 []).2 := Kept.new hw 1 []
    obtain ⟨v', H', b', e1, e2, e3, e4⟩ := (Buf.void (H := (H.new 1 []).2) (s := 1) (some ⟨H.next, 0, some 0⟩)).append hk1.wf h2
    have happ := app_22 (base := some ⟨H.next, 0, some 0⟩) (len := 0) (cap := 0) (hs1.srcKind Tryz.underlying22) hs1.newCells (by omega)
    have hk2 : Kept (H.new 1 []).2 H' := e3.kept fun g hg h => by cases h
    simp only [↓Sh.dn, sx, Nat.reduceBEq, reduceCtorEq, Nat.reduceEqDiff, Option.isNone_some, happ, e1, hres]
    refine ⟨hk1.trans hk2, b', by simpa using e2, fun g hg => ?_⟩
    rcases e4 with rfl | ⟨rfl, _⟩
    · cases hg
    · cases hg; exact Nat.le_succ _
theorem cloneStr {H : AH} {v : Value} {l : List (List Value)} (hs : Sl H v 1 l) (hl : l.length ≤ 1048576) (hw : Wf H) :
    Sh.Call Tryz.prog (knows 10) 99 [v] H (fun r H' => Kept H H' ∧ ∃ b, Buf H' 1 r l b ∧ ∀ g, b = some g → H.next ≤ g) := cloneBigStr hs (Nat.le_trans hl (by decide)) hw
end Go.Proofs.YtfcmpclbhnjkgaaGreat
/- graph.New. -/
set_option maxHeartbeats 4000000
set_option maxRecDepth 20000
set_option linter.unusedSimpArgs false
set_option linter.unusedVariables false
set_option pp.deepTerms.threshold 8
namespace Go.Proofs.YtfcmpclbhnjkgaaGreat
open Go Go.Proofs Go.Proofs.Sh
theorem objNew {H : AH} {s : Nat} {vals : List Value} (h : veqs vals vals = true) : ∀ x, (H.new s vals).2.objs.get H.next = some x → objEq x x = true := by
  intro x hx
  have := Obj.new (H := H) s vals
  unfold Obj at this
  rw [this] at hx
  injection hx with hx
  subst hx
  simp [objEq, rowEq, h]
theorem objRep {H : AH} {n : Nat} {z : Value} (hz : veq z z = true) : ∀ x, (H.new 1 (List.replicate n z)).2.objs.get H.next = some x → objEq x x = true :=
  objNew (veqs_self fun x hx => by rw [(List.mem_replicate.1 hx).2]; exact hz)
theorem graphNew {H : AH} {v : Value} {l : List ByteArray} {n : Nat} (hs : Sl H v 1 (l.map strCell)) (hl : l.length ≤ 1048576) (hn : n ≤ 1048576) (hw : Wf H) :
    Sh.Call Tryz.prog (knows 10) 49 [v, .int .i64 (n : Int)] H (fun r H' => Kept H H' ∧ ∃ g, r = .pointer (some ⟨g, 0, some 0⟩) ∧ Gr H' H.next g l (List.replicate n []) (List.replicate n 0) (List.replicate n 0)) := by
  refine call_of rfl Tryz.func49 rfl (Nat.le_of_ble_eq_true rfl) ?_
  have hres : Tryz.f49.results.toList = [.tmp 4] := rfl
  have m1 := mk_73 (H := H) (l := n) (c := n) (Nat.le_refl _) (by omega)
  obtain ⟨K1, hK1⟩ : ∃ K, (H.new 1 (List.replicate n (.slice none 0 0))).2 = K := ⟨_, rfl⟩
  have k1 := Kept.new hw 1 (List.replicate n (.slice none 0 0))
  have jg := Jag.make hw 4 (n := n) (by omega)
  rw [hK1] at m1 k1 jg
  have m2 := mk_74 (H := K1) (l := n) (c := n) (Nat.le_refl _) (by omega)
  have k2 := Kept.new k1.wf 1 (List.replicate n (.int .i64 0))
  have f2 := Buf.fill k1.wf (.int .i64 0) (c := n) (by omega)
  obtain ⟨K2, hK2⟩ : ∃ K, (K1.new 1 (List.replicate n (.int .i64 0))).2 = K := ⟨_, rfl⟩
  rw [hK2] at m2 k2 f2
  have m3 := mk_74 (H := K2) (l := n) (c := n) (Nat.le_refl _) (by omega)
  have k3 := Kept.new k2.wf 1 (List.replicate n (.int .i64 0))
  have f3 := Buf.fill k2.wf (.int .i64 0) (c := n) (by omega)
  obtain ⟨K3, hK3⟩ : ∃ K, (K2.new 1 (List.replicate n (.int .i64 0))).2 = K := ⟨_, rfl⟩
  rw [hK3] at m3 k3 f3
  have x1 : H.next < K1.next := by rw [← hK1]; exact Nat.lt_succ_self _
  have x2 : K1.next < K2.next := by rw [← hK2]; exact Nat.lt_succ_self _
  have x3 : K2.next < K3.next := by rw [← hK3]; exact Nat.lt_succ_self _
  have k123 := (k1.trans k2).trans k3
  obtain ⟨r, H1, hd, hk, b, hb, hf⟩ := cloneStr (hs.grow (k123.grow hw)) (by simpa using hl) k123.wf
  have o1 := objRep (H := H) (n := n) (z := .slice none 0 0) rfl
  have o2 := objRep (H := K1) (n := n) (z := .int .i64 0) veq_int
  have o3 := objRep (H := K2) (n := n) (z := .int .i64 0) veq_int
  rw [hK1] at o1; rw [hK2] at o2; rw [hK3] at o3
  simp only [↓Sh.wp_seq]
  simp only [↓Sh.dn, sx, Nat.reduceBEq, reduceCtorEq, Nat.reduceEqDiff]
  refine wp_early (fl := [(0, true), (2, true), (3, false), (4, true), (5, false), (6, true), (7, false), (1, false), (8, true), (9, false), (10, true)]) (by kernel_rfl) (by kernel_rfl) hw ?_
  simp only [↓Sh.dn, sx, Nat.reduceBEq, reduceCtorEq, Nat.reduceEqDiff, wpg, Still, isEff, isMake, isRead, veq_ptr, veq_int, veq_str, veq_bool, veq_undef, forall_eq, forall_eq', m1, m2, m3, k1.wf, k2.wf, k3.wf]
  refine ⟨o1, o2, o3, _, _, hd, hk.wf, hk.grow k123.wf, ?_⟩
  have nw : ∀ (H : AH) (a b c d : Value), isCell a = true → isCell b = true → isCell c = true → isCell d = true → anew Tryz.prog 76 H (.agg #[a, b, c, d]) = some (.pointer (some ⟨H.next, 0, some 0⟩), (H.new 4 [a, b, c, d]).2) :=
    fun H a b c d ha hb hc hd => new_agg size_76 rfl (by simp [ha, hb, hc, hd])
  have bl : ∀ a b c d : Value, isCell a = true → isCell b = true → isCell c = true → isCell d = true → abuild Tryz.prog 76 [(0, a), (1, b), (2, c), (3, d)] = some (.agg #[a, b, c, d]) := by
    intro a b c d ha hb hc hd
    have va : ∀ xs : Array Value, vcells (.agg xs) = xs.toList := fun _ => rfl
    refine build_struct (pl := [(0, 1), (1, 1), (2, 1), (3, 1)]) Tryz.underlying76 zero_76 (by kernel_rfl) ?_
    simp [fillA, cell_vcells ha, cell_vcells hb, cell_vcells hc, cell_vcells hd, va, ha, hb, hc, hd, setCells, beq_dec, ble_dec]
  have cr := hb.isCell
  have q := nw H1 r (.slice (some ⟨H.next, 0, some 0⟩) n n) (.slice (some ⟨K1.next, 0, some 0⟩) n n) (.slice (some ⟨K2.next, 0, some 0⟩) n n) cr rfl rfl rfl
  have oq := Obj.new (H := H1) 4 [r, .slice (some ⟨H.next, 0, some 0⟩) n n, .slice (some ⟨K1.next, 0, some 0⟩) n n, .slice (some ⟨K2.next, 0, some 0⟩) n n]
  have ee : veqs [r, .slice (some ⟨H.next, 0, some 0⟩) n n, .slice (some ⟨K1.next, 0, some 0⟩) n n, .slice (some ⟨K2.next, 0, some 0⟩) n n] [r, .slice (some ⟨H.next, 0, some 0⟩) n n, .slice (some ⟨K1.next, 0, some 0⟩) n n, .slice (some ⟨K2.next, 0, some 0⟩) n n] = true := by
    refine veqs_self fun x hx => ?_
    simp only [List.mem_cons, List.not_mem_nil, or_false] at hx
    rcases hx with rfl | rfl | rfl | rfl
    · exact hb.toSl.veq
    · exact veq_slice
    · exact veq_slice
    · exact veq_slice
  have o4 := objNew (H := H1) (s := 4) ee
  have k4 := Kept.new hk.wf 4 [r, .slice (some ⟨H.next, 0, some 0⟩) n n, .slice (some ⟨K1.next, 0, some 0⟩) n n, .slice (some ⟨K2.next, 0, some 0⟩) n n]
  have bq := bl r (.slice (some ⟨H.next, 0, some 0⟩) n n) (.slice (some ⟨K1.next, 0, some 0⟩) n n) (.slice (some ⟨K2.next, 0, some 0⟩) n n) cr rfl rfl rfl
  simp only [↓Sh.dn, sx, Nat.reduceBEq, reduceCtorEq, Nat.reduceEqDiff, wpg, Still, isEff, isMake, isRead, veq_ptr, veq_int, veq_str, veq_bool, veq_undef, forall_eq, forall_eq', bq, q, hres]
  have hbs : ∀ g, b = some g → K3.next ≤ g := hf
  have if1 : ∀ {m y : Nat}, (if n = 0 then none else some m) = some y → y = m := by
    intro m y h
    by_cases hn0 : n = 0
    · rw [if_pos hn0] at h; cases h
    · rw [if_neg hn0] at h; exact (Option.some.inj h).symm
  have jin : ∀ y, JIn (if n = 0 then none else some H.next) (List.replicate n none) y → y = H.next := by
    rintro y (h | ⟨i, h⟩)
    · exact if1 h
    · rw [List.getElem?_replicate] at h
      split at h <;> cases h
  have hn := hk.next
  have c1 := (((jg.kept k1.wf k2).kept k2.wf k3).kept k3.wf hk).kept hk.wf k4
  have c2 := ((f2.kept k2.wf k3).kept k3.wf hk).kept hk.wf k4
  have c3 := (f3.kept k3.wf hk).kept hk.wf k4
  have rp : ∀ m : Int, (List.replicate n m).map intC = List.replicate n [.int .i64 m] := fun m => by simp [intC]
  have hlt := fun y (h : b = some y) => hb.lt hk.wf y h
  refine ⟨o4, k123.trans (hk.trans k4), _, rfl, _, _, _, _, b, _, _, _, _, _, ⟨oq.arr, hb.kept hk.wf k4, c1, by rw [rp]; exact c2, by rw [rp]; exact c3, ?_, ?_, ?_, ?_, ?_, ?_, ?_, ?_, ?_, ?_, ?_, ?_, ?_, ?_, ?_⟩⟩
  · omega
  · intro y h; have := hbs y h; omega
  · intro y h; rw [jin y h]; exact Nat.le_refl _
  · intro y h; rw [if1 h]; omega
  · intro y h; rw [if1 h]; omega
  · intro h; have := hlt _ h; omega
  · intro h; have := jin _ h; omega
  · intro h; have := if1 h; omega
  · intro h; have := if1 h; omega
  · intro y h h2; have := hbs y h; have := jin y h2; omega
  · intro y h h2; have := hbs y h; have := if1 h2; omega
  · intro y h h2; have := hbs y h; have := if1 h2; omega
  · intro y h h2; have := if1 h; have := jin y h2; omega
  · intro y h h2; have := if1 h; have := jin y h2; omega
  · intro y h h2; have := if1 h; have := if1 h2; omega
end Go.Proofs.YtfcmpclbhnjkgaaGreat
/- Nets in memory: what is made and written of them. -/
set_option maxHeartbeats 4000000
set_option maxRecDepth 20000
set_option linter.unusedVariables false
namespace Go.Proofs.YtfcmpclbhnjkgaaGreat
open Go Go.Proofs Go.Proofs.Sh
section
variable {H : AH} {g : Nat} {sg ar en v : Value} {N : NetD}
theorem netNew (hsg : isCell sg = true) (har : isCell ar = true) (hen : isCell en = true) {n : Int} : anew Tryz.prog 26 H (.agg #[sg, .int .i64 n, ar, en]) = some (.pointer (some ⟨H.next, 0, some 0⟩), (H.new 4 [sg, .int .i64 n, ar, en]).2) :=
  new_agg (vs := [sg, .int .i64 n, ar, en]) size_26 rfl (by simp [hsg, har, hen, show isCell (.int .i64 n) = true from rfl])
theorem netStore (hsg : isCell sg = true) (har : isCell ar = true) (hen : isCell en = true) {n : Int} {p : Addr} : astore Tryz.prog 26 H (.agg #[sg, .int .i64 n, ar, en]) (.pointer (some p)) = H.write p [sg, .int .i64 n, ar, en] :=
  store_agg (vs := [sg, .int .i64 n, ar, en]) size_26 rfl (by simp [hsg, har, hen, show isCell (.int .i64 n) = true from rfl])
theorem netZero : anew Tryz.prog 26 H (.agg #[.slice none 0 0, .int .i64 0, .slice none 0 0, .slice none 0 0]) = some (.pointer (some ⟨H.next, 0, some 0⟩), (H.new 4 [.slice none 0 0, .int .i64 0, .slice none 0 0, .slice none 0 0]).2) := new_agg (vs := [.slice none 0 0, .int .i64 0, .slice none 0 0, .slice none 0 0]) size_26 rfl rfl
theorem arcZero : anew Tryz.prog 54 H (.agg #[.int .i64 0, .string ⟨#[]⟩, .string ⟨#[]⟩, .int .i64 0, .int .i64 0]) = some (.pointer (some ⟨H.next, 0, some 0⟩), (H.new 5 [.int .i64 0, .string ⟨#[]⟩, .string ⟨#[]⟩, .int .i64 0, .int .i64 0]).2) :=
  new_agg (vs := [.int .i64 0, .string ⟨#[]⟩, .string ⟨#[]⟩, .int .i64 0, .int .i64 0]) size_54 rfl rfl
theorem endZero : anew Tryz.prog 56 H (.agg #[.int .i64 0, .int .i64 0]) = some (.pointer (some ⟨H.next, 0, some 0⟩), (H.new 2 [.int .i64 0, .int .i64 0]).2) := new_agg (vs := [.int .i64 0, .int .i64 0]) size_56 rfl rfl
theorem arcNew {a : ArcD} : anew Tryz.prog 54 H (.agg a.cells.toArray) = some (.pointer (some ⟨H.next, 0, some 0⟩), (H.new 5 a.cells).2) := new_agg (vs := a.cells) size_54 rfl rfl
theorem endNew {a : EndD} : anew Tryz.prog 56 H (.agg a.cells.toArray) = some (.pointer (some ⟨H.next, 0, some 0⟩), (H.new 2 a.cells).2) := new_agg (vs := a.cells) size_56 rfl rfl
theorem arcStore {a : ArcD} {p : Addr} : astore Tryz.prog 54 H (.agg a.cells.toArray) (.pointer (some p)) = H.write p a.cells := store_agg size_54 rfl rfl
theorem endStore {a : EndD} {p : Addr} : astore Tryz.prog 56 H (.agg a.cells.toArray) (.pointer (some p)) = H.write p a.cells := store_agg size_56 rfl rfl
theorem arcOver {a : ArcD} {x0 x1 x2 x3 x4 : Value} : (H.new 5 [x0, x1, x2, x3, x4]).2.write ⟨H.next, 0, some 0⟩ a.cells = some (H.new 5 a.cells).2 := write_new rfl
theorem endOver {a : EndD} {x0 x1 : Value} : (H.new 2 [x0, x1]).2.write ⟨H.next, 0, some 0⟩ a.cells = some (H.new 2 a.cells).2 := write_new rfl
theorem netOver {x0 x1 x2 x3 y0 y1 y2 y3 : Value} : (H.new 4 [x0, x1, x2, x3]).2.write ⟨H.next, 0, some 0⟩ [y0, y1, y2, y3] = some (H.new 4 [y0, y1, y2, y3]).2 := write_new rfl
theorem arc0 {a : ArcD} : (H.new 5 a.cells).2.cell ⟨H.next, 0, some 0⟩ = some (.int .i64 a.fr) := cell_new _ _ _
theorem arc1 {a : ArcD} : (H.new 5 a.cells).2.cell ⟨H.next, 1, some 0⟩ = some (.string a.inn) := cell_new _ _ _
theorem arc2 {a : ArcD} : (H.new 5 a.cells).2.cell ⟨H.next, 2, some 0⟩ = some (.string a.out) := cell_new _ _ _
theorem arc3 {a : ArcD} : (H.new 5 a.cells).2.cell ⟨H.next, 3, some 0⟩ = some (.int .i64 a.to) := cell_new _ _ _
theorem arc4 {a : ArcD} : (H.new 5 a.cells).2.cell ⟨H.next, 4, some 0⟩ = some (.int .i64 a.cost) := cell_new _ _ _
theorem end0 {a : EndD} : (H.new 2 a.cells).2.cell ⟨H.next, 0, some 0⟩ = some (.int .i64 a.state) := cell_new _ _ _
theorem end1 {a : EndD} : (H.new 2 a.cells).2.cell ⟨H.next, 1, some 0⟩ = some (.int .i64 a.cost) := cell_new _ _ _
theorem netLenS (h : NetBox H g sg ar en N) {H' : AH} : abuiltin Tryz.prog .len [22] [sg] H' = some (.int .i64 (N.sigma.length : Int), H') := by rw [h.hsg.len Tryz.underlying22 H', List.length_map]
theorem netLenA (h : NetBox H g sg ar en N) {H' : AH} : abuiltin Tryz.prog .len [23] [ar] H' = some (.int .i64 (N.arcs.length : Int), H') := by rw [h.har.len Tryz.underlying23 H', List.length_map]
theorem netLenE (h : NetBox H g sg ar en N) {H' : AH} : abuiltin Tryz.prog .len [24] [en] H' = some (.int .i64 (N.ends.length : Int), H') := by rw [h.hen.len Tryz.underlying24 H', List.length_map]
theorem held_arc : Tryz.prog.stoodInHeld 54 = false := by kernel_rfl
theorem guard_arc : Tryz.prog.eqGuardType Tryz.prog.depth 54 = false := by kernel_rfl
theorem held_end : Tryz.prog.stoodInHeld 56 = false := by kernel_rfl
theorem guard_end : Tryz.prog.eqGuardType Tryz.prog.depth 56 = false := by kernel_rfl
theorem eqT_int {d : Nat} {a b : Int} : eqT Tryz.prog (d + 1) 3 (.int .i64 a) (.int .i64 b) = some (decide (a = b)) := by
  simp only [eqT, Tryz.underlying3, kindEq_self, cond_true, intEq_eq]; rfl
theorem eqT_str {d : Nat} {a b : ByteArray} : eqT Tryz.prog (d + 1) 9 (.string a) (.string b) = some (decide (a = b)) := by
  simp only [eqT, Tryz.underlying9, bytesEq_dec]
theorem eqArc {c : Bool} {a : ArcD} : abin Tryz.prog 54 c .neq (.agg a.cells.toArray) (.agg a.cells.toArray) = some (.bool false) := by
  have h : eqT Tryz.prog (19 + 1) 54 (.agg a.cells.toArray) (.agg a.cells.toArray) = some true := by
    rw [eqT.eq_def]
    simp only [Tryz.underlying54, held_arc, cond_false, eqFields, apart, agg_3, agg_9, ArcD.cells, List.getElem?_cons_zero, List.getElem?_cons_succ, Option.bind_some, eqT_int (d := 18), eqT_str (d := 18), decide_true]
    simp
  unfold abin aeq eqMay eqDepth
  simp only [guard_arc, Bool.not_false, cond_true]
  rw [h]
  rfl
theorem eqEnd {c : Bool} {a : EndD} : abin Tryz.prog 56 c .neq (.agg a.cells.toArray) (.agg a.cells.toArray) = some (.bool false) := by
  have h : eqT Tryz.prog (19 + 1) 56 (.agg a.cells.toArray) (.agg a.cells.toArray) = some true := by
    rw [eqT.eq_def]
    simp only [Tryz.underlying56, held_end, cond_false, eqFields, apart, agg_3, EndD.cells, List.getElem?_cons_zero, List.getElem?_cons_succ, Option.bind_some, eqT_int (d := 18), decide_true]
    simp
  unfold abin aeq eqMay eqDepth
  simp only [guard_end, Bool.not_false, cond_true]
  rw [h]
  rfl
end
end Go.Proofs.YtfcmpclbhnjkgaaGreat
/- Whether a text of a list is too long for a symbol. -/
set_option maxHeartbeats 4000000
set_option maxRecDepth 20000
set_option linter.unusedSimpArgs false
set_option linter.unusedVariables false
set_option pp.deepTerms.threshold 8
namespace Go.Proofs.YtfcmpclbhnjkgaaGreat
open Go Go.Proofs Go.Proofs.Sh
theorem anyLong {H : AH} {v : Value} {l : List ByteArray} (hs : Sl H v 1 (l.map strCell)) (hl : l.length ≤ 1048576) (hw : Wf H) :
    Sh.Call Tryz.prog (knows 10) 111 [v] H (fun r H' => Kept H H' ∧ r = .bool (l.any fun s => decide (16 < s.size))) := by
  refine call_of rfl Tryz.func111 rfl (Nat.le_of_ble_eq_true rfl) ?_
  have hres : Tryz.f111.results.toList = [.tmp 2] := rfl
  have hlen := hs.len Tryz.underlying22 H
  simp only [↓Sh.dn, sx, Nat.reduceBEq, reduceCtorEq, Nat.reduceEqDiff, ↓Sh.wp_cond]
  refine wp_count l.length (fun i F H' => H' = H ∧ F.get 0 = some v ∧ F.get 3 = some (.int .i64 (i : Int)) ∧ (l.take i).any (fun s => decide (16 < s.size)) = false) (Nat.zero_le _) ⟨rfl, by simp only [↓Sh.dn, sx, Nat.reduceBEq, reduceCtorEq, Nat.reduceEqDiff, ↓Sh.wp_cond], by simp only [↓Sh.dn, sx, Nat.reduceBEq, reduceCtorEq, Nat.reduceEqDiff, ↓Sh.wp_cond]; rfl, rfl⟩ ?_
  rintro i F H' hi ⟨rfl, f0, f3, hall⟩ k
  by_cases hlt : i < l.length
  · obtain ⟨g, o, kk, hia, hc, hcc⟩ := hs.at Tryz.underlying22 size_9 (i := i) (x := strCell l[i]) (by simp [hlt]) .i64
    have hy := hcc 0 _ rfl
    simp only [Nat.add_zero] at hy
    have hc16 : decide ((16 : Int) < ((l[i].size : Nat) : Int)) = decide (16 < l[i].size) := by
      by_cases h : 16 < l[i].size
      · simp [h]; omega
      · simp [h]; omega
    simp only [↓Sh.dn, sx, Nat.reduceBEq, reduceCtorEq, Nat.reduceEqDiff, ↓Sh.wp_cond, f0, f3, hlen, hia, hy, List.length_map, nat_lt, hlt, hc16, decide_true, forall_const, reduceCtorEq, false_implies, and_true, true_and, hres]
    refine ⟨fun h => ⟨Kept.refl hw, ?_⟩, fun h => k _ _ hlt ⟨rfl, by simp only [↓Sh.dn, sx, Nat.reduceBEq, reduceCtorEq, Nat.reduceEqDiff, ↓Sh.wp_cond, f0], by simp only [↓Sh.dn, sx, Nat.reduceBEq, reduceCtorEq, Nat.reduceEqDiff, ↓Sh.wp_cond, wrap_succ hlt hl], ?_⟩⟩
    · have : (l.any fun s => decide (16 < s.size)) = true := List.any_eq_true.2 ⟨_, List.getElem_mem hlt, h⟩
      rw [this]
    · rw [List.take_add_one, List.getElem?_eq_getElem hlt]
      simp only [Option.toList, List.any_append, hall, Bool.false_or, List.any_cons, List.any_nil, Bool.or_false]
      exact h
  · have hin : i = l.length := by omega
    subst hin
    rw [List.take_length] at hall
    simp only [↓Sh.dn, sx, Nat.reduceBEq, reduceCtorEq, Nat.reduceEqDiff, ↓Sh.wp_cond, f0, f3, hlen, List.length_map, nat_lt, hlt, decide_false, forall_const, reduceCtorEq, false_implies, and_true, true_and, hres]
    exact ⟨Kept.refl hw, by rw [hall]⟩
end Go.Proofs.YtfcmpclbhnjkgaaGreat
/- Whether a text is a symbol. -/
set_option maxHeartbeats 4000000
set_option maxRecDepth 20000
set_option linter.unusedSimpArgs false
set_option linter.unusedVariables false
set_option pp.deepTerms.threshold 8
namespace Go.Proofs.YtfcmpclbhnjkgaaGreat
open Go Go.Proofs Go.Proofs.Sh
/-- A byte that no symbol has. -/
def badByte (u : UInt8) : Bool := decide (u.toNat < 33) || decide (126 < u.toNat) || decide (u.toNat = 60) || decide (u.toNat = 62)
def symOk (s : ByteArray) : Bool := !s.data.toList.any badByte && decide (1 ≤ s.size) && decide (s.size ≤ 16)
theorem isSymbol {H : AH} {x : ByteArray} (hl : x.size ≤ 1048576) (hw : Wf H) :
    Sh.Call Tryz.prog (knows 10) 129 [.string x] H (fun r H' => H' = H ∧ r = .bool (symOk x)) := by
  refine call_of rfl Tryz.func129 rfl (Nat.le_of_ble_eq_true rfl) ?_
  have hres : Tryz.f129.results.toList = [.tmp 2] := rfl
  have hsz : x.data.toList.length = x.size := by rw [Array.length_toList]; rfl
  simp only [↓Sh.dn, sx, Nat.reduceBEq, reduceCtorEq, Nat.reduceEqDiff]
  refine wp_count x.size (fun i F H' => H' = H ∧ F.get 0 = some (.string x) ∧ F.get 3 = some (.int .i64 (i : Int)) ∧ (x.data.toList.take i).any badByte = false) (Nat.zero_le _) ⟨rfl, by simp only [↓Sh.dn, sx, Nat.reduceBEq, reduceCtorEq, Nat.reduceEqDiff], by simp only [↓Sh.dn, sx, Nat.reduceBEq, reduceCtorEq, Nat.reduceEqDiff]; rfl, rfl⟩ ?_
  rintro i F H' hi ⟨rfl, f0, f3, hall⟩ k
  by_cases hlt : i < x.size
  · obtain ⟨u, hu⟩ : ∃ u, x.data.toList[i]? = some u := ⟨x.data.toList[i]'(by omega), List.getElem?_eq_getElem (by omega)⟩
    have hix := index_str (P := Tryz.prog) (j := .i64) Tryz.underlying9 hu
    have e33 : decide ((u.toNat : Int) < 33) = decide (u.toNat < 33) := by by_cases h : u.toNat < 33 <;> simp [h] <;> omega
    have e126 : decide (126 < (u.toNat : Int)) = decide (126 < u.toNat) := by by_cases h : 126 < u.toNat <;> simp [h] <;> omega
    have e60 : decide ((u.toNat : Int) = 60) = decide (u.toNat = 60) := by by_cases h : u.toNat = 60 <;> simp [h]; omega
    have e62 : decide ((u.toNat : Int) = 62) = decide (u.toNat = 62) := by by_cases h : u.toNat = 62 <;> simp [h]; omega
    have hstep : badByte u = false → (x.data.toList.take (i + 1)).any badByte = false := by
      intro h
      rw [List.take_add_one, hu]
      simp only [Option.toList, List.any_append, hall, Bool.false_or, List.any_cons, List.any_nil, Bool.or_false]
      exact h
    have hbad : badByte u = true → symOk x = false := by
      intro h
      have : x.data.toList.any badByte = true := List.any_eq_true.2 ⟨_, List.mem_of_getElem? hu, h⟩
      simp [symOk, this]
    have hgo : badByte u = (decide (u.toNat < 33) || decide (126 < u.toNat) || decide (u.toNat = 60) || decide (u.toNat = 62)) := rfl
    have five : ∀ a b c d : Bool, a = true ∨ (a = false ∧ b = true) ∨ (a = false ∧ b = false ∧ c = true) ∨ (a = false ∧ b = false ∧ c = false ∧ d = true) ∨ (a = false ∧ b = false ∧ c = false ∧ d = false) := by decide
    rcases five (decide (u.toNat < 33)) (decide (126 < u.toNat)) (decide (u.toNat = 60)) (decide (u.toNat = 62)) with h1 | ⟨h1, h2⟩ | ⟨h1, h2, h3⟩ | ⟨h1, h2, h3, h4⟩ | ⟨h1, h2, h3, h4⟩ <;> simp only [h1, *, Bool.or_true, Bool.or_false, Bool.true_or, Bool.false_or] at hgo
    · simp only [↓Sh.dn, sx, Nat.reduceBEq, reduceCtorEq, Nat.reduceEqDiff, f0, f3, hix, nat_lt, hlt, e33, h1, decide_true, hres, hbad hgo, true_and]
    · simp only [↓Sh.dn, sx, Nat.reduceBEq, reduceCtorEq, Nat.reduceEqDiff, f0, f3, hix, nat_lt, hlt, e33, e126, h1, h2, decide_true, hres, hbad hgo, true_and]
    · simp only [↓Sh.dn, sx, Nat.reduceBEq, reduceCtorEq, Nat.reduceEqDiff, f0, f3, hix, nat_lt, hlt, e33, e126, e60, h1, h2, h3, decide_true, hres, hbad hgo, true_and]
    · simp only [↓Sh.dn, sx, Nat.reduceBEq, reduceCtorEq, Nat.reduceEqDiff, f0, f3, hix, nat_lt, hlt, e33, e126, e60, e62, h1, h2, h3, h4, decide_true, hres, hbad hgo, true_and]
    · simp only [↓Sh.dn, sx, Nat.reduceBEq, reduceCtorEq, Nat.reduceEqDiff, f0, f3, hix, nat_lt, hlt, e33, e126, e60, e62, h1, h2, h3, h4, decide_true, hres]
      exact k _ _ hlt ⟨rfl, by simp only [↓Sh.dn, sx, Nat.reduceBEq, reduceCtorEq, Nat.reduceEqDiff, f0], by simp only [↓Sh.dn, sx, Nat.reduceBEq, reduceCtorEq, Nat.reduceEqDiff, wrap_succ hlt hl], hstep hgo⟩
  · have hin : i = x.size := by omega
    subst hin
    rw [← hsz, List.take_length] at hall
    have e1 : decide ((1 : Int) ≤ ((x.size : Nat) : Int)) = decide (1 ≤ x.size) := by by_cases h : 1 ≤ x.size <;> simp [h] <;> omega
    have e16 : decide (((x.size : Nat) : Int) ≤ 16) = decide (x.size ≤ 16) := by by_cases h : x.size ≤ 16 <;> simp [h] <;> omega
    cases h1 : decide (1 ≤ x.size) <;>
      simp only [↓Sh.dn, sx, Nat.reduceBEq, reduceCtorEq, Nat.reduceEqDiff, f0, f3, nat_lt, hlt, e1, e16, h1, decide_false, Bool.not_true, forall_const, not_true_eq_false, reduceCtorEq, false_implies, and_true, true_and, hres] <;>
      simp [symOk, hall, h1]
end Go.Proofs.YtfcmpclbhnjkgaaGreat
/- Whether all texts of a list are symbols. -/
set_option maxHeartbeats 4000000
set_option maxRecDepth 20000
set_option linter.unusedSimpArgs false
set_option linter.unusedVariables false
set_option pp.deepTerms.threshold 8
namespace Go.Proofs.YtfcmpclbhnjkgaaGreat
open Go Go.Proofs Go.Proofs.Sh
theorem allSymbols {H : AH} {v : Value} {l : List ByteArray} (hs : Sl H v 1 (l.map strCell)) (hl : l.length ≤ 1048576) (hlx : ∀ x ∈ l, x.size ≤ 1048576) (hw : Wf H) :
    Sh.Call Tryz.prog (knows 10) 112 [v] H (fun r H' => H' = H ∧ r = .bool (l.all symOk)) := by
  refine call_of rfl Tryz.func112 rfl (Nat.le_of_ble_eq_true rfl) ?_
  have hres : Tryz.f112.results.toList = [.tmp 2] := rfl
  have hlen := hs.len Tryz.underlying22 H
  simp only [↓Sh.dn, sx, Nat.reduceBEq, reduceCtorEq, Nat.reduceEqDiff]
  refine wp_count l.length (fun i F H' => H' = H ∧ F.get 0 = some v ∧ F.get 3 = some (.int .i64 (i : Int)) ∧ (l.take i).all symOk = true) (Nat.zero_le _) ⟨rfl, by simp only [↓Sh.dn, sx, Nat.reduceBEq, reduceCtorEq, Nat.reduceEqDiff], by simp only [↓Sh.dn, sx, Nat.reduceBEq, reduceCtorEq, Nat.reduceEqDiff]; rfl, rfl⟩ ?_
  rintro i F H' hi ⟨rfl, f0, f3, hall⟩ k
  by_cases hlt : i < l.length
  · obtain ⟨g, o, kk, hia, hc, hcc⟩ := hs.at Tryz.underlying22 size_9 (i := i) (x := strCell l[i]) (by simp [hlt]) .i64
    have hy := hcc 0 _ rfl
    simp only [Nat.add_zero] at hy
    obtain ⟨r, H1, hd, rfl, rfl⟩ := isSymbol (H := H') (x := l[i]) (hlx _ (List.getElem_mem hlt)) hw
    simp only [↓Sh.dn, sx, Nat.reduceBEq, reduceCtorEq, Nat.reduceEqDiff, f0, f3, hlen, hia, hy, List.length_map, nat_lt, hlt, decide_true, forall_const, reduceCtorEq, false_implies, and_true, true_and, hres]
    refine ⟨_, _, hd, ?_⟩
    cases hsy : symOk l[i] with
    | false =>
      have : l.all symOk = false := by
        rw [List.all_eq_false]
        exact ⟨_, List.getElem_mem hlt, by simp [hsy]⟩
      simp only [↓Sh.dn, sx, Nat.reduceBEq, reduceCtorEq, Nat.reduceEqDiff, hres, this]
    | true =>
      simp only [↓Sh.dn, sx, Nat.reduceBEq, reduceCtorEq, Nat.reduceEqDiff, f0, f3]
      refine k _ _ hlt ⟨rfl, by simp only [↓Sh.dn, sx, Nat.reduceBEq, reduceCtorEq, Nat.reduceEqDiff, f0], by simp only [↓Sh.dn, sx, Nat.reduceBEq, reduceCtorEq, Nat.reduceEqDiff, wrap_succ hlt hl], ?_⟩
      rw [List.take_add_one, List.getElem?_eq_getElem hlt]
      simp only [Option.toList, List.all_append, hall, Bool.true_and, List.all_cons, List.all_nil, Bool.and_true, hsy]
  · have hin : i = l.length := by omega
    subst hin
    rw [List.take_length] at hall
    simp only [↓Sh.dn, sx, Nat.reduceBEq, reduceCtorEq, Nat.reduceEqDiff, f0, f3, hlen, List.length_map, nat_lt, hlt, decide_false, forall_const, reduceCtorEq, false_implies, and_true, true_and, hres]
    rw [hall]
end Go.Proofs.YtfcmpclbhnjkgaaGreat
/- Whether texts ascend. -/
set_option maxHeartbeats 4000000
set_option maxRecDepth 20000
set_option linter.unusedSimpArgs false
set_option linter.unusedVariables false
set_option pp.deepTerms.threshold 8
namespace Go.Proofs.YtfcmpclbhnjkgaaGreat
open Go Go.Proofs Go.Proofs.Sh
/-- Each text is ahead of the next one. -/
def ascB : List ByteArray → Bool
  | x :: y :: l => strLt x y && ascB (y :: l)
  | _ => true
theorem ascB_iff : ∀ {l : List ByteArray}, ascB l = true ↔ ∀ (i : Nat) x y, l[i]? = some x → l[i + 1]? = some y → strLt x y = true
  | [] => by simp [ascB]
  | [a] => by simp [ascB]
  | a :: b :: l => by
    simp only [ascB, Bool.and_eq_true, ascB_iff (l := b :: l)]
    constructor
    · rintro ⟨h1, h2⟩ i x y hx hy
      cases i with
      | zero => simp only [List.getElem?_cons_zero, List.getElem?_cons_succ, Option.some.injEq] at hx hy; subst hx hy; exact h1
      | succ i => exact h2 i x y (by simpa using hx) (by simpa using hy)
    · intro h
      exact ⟨h 0 a b rfl rfl, fun i x y hx hy => h (i + 1) x y (by simpa using hx) (by simpa using hy)⟩
theorem asc_of {l : List ByteArray} (h : ascB l = true) : Asc l := by
  rw [ascB_iff] at h
  intro i j x y hij hx hy
  obtain ⟨d, rfl⟩ : ∃ d, j = i + 1 + d := ⟨j - i - 1, by omega⟩
  induction d generalizing y with
  | zero => exact h i x y hx hy
  | succ d ih =>
    have hjl := (List.getElem?_eq_some_iff.1 hy).1
    have hz : l[i + 1 + d]? = some (l[i + 1 + d]'(by omega)) := List.getElem?_eq_getElem (by omega)
    exact strLt_trans (ih _ (by omega) hz) (h _ _ _ hz hy)
theorem isSet {H : AH} {v : Value} {l : List ByteArray} (hs : Sl H v 1 (l.map strCell)) (hl : l.length ≤ 1048576) (hw : Wf H) :
    Sh.Call Tryz.prog (knows 10) 113 [v] H (fun r H' => H' = H ∧ r = .bool (ascB l)) := by
  refine call_of rfl Tryz.func113 rfl (Nat.le_of_ble_eq_true rfl) ?_
  have hres : Tryz.f113.results.toList = [.tmp 2] := rfl
  have hlen := hs.len Tryz.underlying22 H
  simp only [↓Sh.dn, sx, Nat.reduceBEq, reduceCtorEq, Nat.reduceEqDiff, ↓Sh.wp_cond]
  refine wp_while (fun m F H' => H' = H ∧ ∃ i : Nat, m = l.length - i ∧ 1 ≤ i ∧ F.get 0 = some v ∧ F.get 3 = some (.int .i64 (i : Int)) ∧ (∀ (j : Nat) x y, j + 1 < i → l[j]? = some x → l[j + 1]? = some y → strLt x y = true)) (m := l.length - 1) ⟨rfl, 1, rfl, Nat.le_refl _, by simp only [↓Sh.dn, sx, Nat.reduceBEq, reduceCtorEq, Nat.reduceEqDiff, ↓Sh.wp_cond], by simp only [↓Sh.dn, sx, Nat.reduceBEq, reduceCtorEq, Nat.reduceEqDiff, ↓Sh.wp_cond]; rfl, fun j x y h => by omega⟩ ?_
  rintro m F H' ⟨rfl, i, rfl, h1, f0, f3, hall⟩ k
  by_cases hlt : i < l.length
  · obtain ⟨g, o, kk, hia, hc, hcc⟩ := hs.at Tryz.underlying22 size_9 (i := i) (x := strCell l[i]) (by simp [hlt]) .i64
    have hy := hcc 0 _ rfl
    obtain ⟨g', o', kk', hia', hc', hcc'⟩ := hs.at Tryz.underlying22 size_9 (i := i - 1) (x := strCell (l[i - 1]'(by omega))) (by simp [List.getElem?_eq_getElem (show i - 1 < l.length by omega)]) .i64
    have hy' := hcc' 0 _ rfl
    have hw1 : IntKind.wrap .i64 ((i : Int) - 1) = ((i - 1 : Nat) : Int) := by rw [wrap64 (by omega) (by omega)]; omega
    simp only [Nat.add_zero] at hy hy'
    simp only [↓Sh.dn, sx, Nat.reduceBEq, reduceCtorEq, Nat.reduceEqDiff, ↓Sh.wp_cond, f0, f3, hlen, hia, hia', hy, hy', hw1, List.length_map, nat_lt, hlt, decide_true, forall_const, reduceCtorEq, false_implies, and_true, true_and, hres, Bool.not_eq_true', Bool.not_eq_false']
    have hx1 : l[i - 1]? = some (l[i - 1]'(by omega)) := List.getElem?_eq_getElem (by omega)
    have hx2 : l[i - 1 + 1]? = some l[i] := by rw [show i - 1 + 1 = i by omega]; exact List.getElem?_eq_getElem hlt
    refine ⟨fun h => ?_, fun h => k (l.length - (i + 1)) _ _ (by omega) ⟨rfl, i + 1, rfl, by omega, by simp only [↓Sh.dn, sx, Nat.reduceBEq, reduceCtorEq, Nat.reduceEqDiff, ↓Sh.wp_cond, f0], by simp only [↓Sh.dn, sx, Nat.reduceBEq, reduceCtorEq, Nat.reduceEqDiff, ↓Sh.wp_cond, wrap_succ hlt hl], fun j x y hj hx hy => ?_⟩⟩
    · have : ascB l = false := by
        cases hb : ascB l with
        | false => rfl
        | true => rw [ascB_iff.1 hb _ _ _ hx1 hx2] at h; cases h
      rw [this]
    · by_cases hji : j + 1 < i
      · exact hall j x y hji hx hy
      · have : j = i - 1 := by omega
        subst this
        rw [hx1] at hx
        rw [hx2] at hy
        rw [← Option.some.inj hx, ← Option.some.inj hy]
        exact h
  · simp only [↓Sh.dn, sx, Nat.reduceBEq, reduceCtorEq, Nat.reduceEqDiff, ↓Sh.wp_cond, f0, f3, hlen, List.length_map, nat_lt, hlt, decide_false, forall_const, reduceCtorEq, false_implies, and_true, true_and, hres]
    have : ascB l = true := ascB_iff.2 fun j x y hx hy => hall j x y (by have := (List.getElem?_eq_some_iff.1 hy).1; omega) hx hy
    rw [this]
end Go.Proofs.YtfcmpclbhnjkgaaGreat
/- What is wrong with an alphabet, by the reference. -/
set_option maxHeartbeats 4000000
set_option maxRecDepth 20000
set_option linter.unusedSimpArgs false
set_option linter.unusedVariables false
set_option pp.deepTerms.threshold 8
namespace Go.Proofs.YtfcmpclbhnjkgaaGreat
open Go Go.Proofs Go.Proofs.Sh
def anyLongB (l : List ByteArray) : Bool := l.any fun s => decide (16 < s.size)
def sigErr (l : List ByteArray) : Int := if (decide (40 < l.length) || anyLongB l) = true then 3 else if (l.all symOk && ascB l) = true then 0 else 1
theorem refSigma {H : AH} {v : Value} {l : List ByteArray} (hs : Sl H v 1 (l.map strCell)) (hl : l.length ≤ 1048576) (hlx : ∀ x ∈ l, x.size ≤ 1048576) (hw : Wf H) :
    Sh.Call Tryz.prog (knows 10) 72 [v] H (fun r H' => Kept H H' ∧ r = .int .i64 (sigErr l)) := by
  refine call_of rfl Tryz.func72 rfl (Nat.le_of_ble_eq_true rfl) ?_
  have hres : Tryz.f72.results.toList = [.tmp 2] := rfl
  have hlen := hs.len Tryz.underlying22 H
  have e40 : decide ((40 : Int) < ((l.length : Nat) : Int)) = decide (40 < l.length) := by by_cases h : 40 < l.length <;> simp [h] <;> omega
  simp only [↓Sh.dn, sx, Nat.reduceBEq, reduceCtorEq, Nat.reduceEqDiff, hlen, List.length_map, e40]
  by_cases h40 : 40 < l.length
  · simp only [↓Sh.dn, sx, Nat.reduceBEq, reduceCtorEq, Nat.reduceEqDiff, h40, decide_true, hres, sigErr, Bool.true_or, forall_const, reduceCtorEq, false_implies, and_true, Kept.refl hw]
  · simp only [↓Sh.dn, sx, Nat.reduceBEq, reduceCtorEq, Nat.reduceEqDiff, h40, decide_false]
    obtain ⟨r1, H1, hd1, hk1, rfl⟩ := anyLong hs hl hw
    refine ⟨_, _, hd1, ?_⟩
    cases hL : (l.any fun s => decide (16 < s.size)) with
    | true => simp only [↓Sh.dn, sx, Nat.reduceBEq, reduceCtorEq, Nat.reduceEqDiff, hres, hL, sigErr, anyLongB, h40, decide_false, Bool.false_or, forall_const, reduceCtorEq, false_implies, and_true, hk1]
    | false =>
      simp only [↓Sh.dn, sx, Nat.reduceBEq, reduceCtorEq, Nat.reduceEqDiff, forall_const, reduceCtorEq, false_implies, and_true, true_and]
      obtain ⟨r2, H2, hd2, rfl, rfl⟩ := allSymbols (hs.grow (hk1.grow hw)) hl hlx hk1.wf
      refine ⟨_, _, hd2, ?_⟩
      cases hA : l.all symOk with
      | false => simp only [↓Sh.dn, sx, Nat.reduceBEq, reduceCtorEq, Nat.reduceEqDiff, hres, hL, hA, sigErr, anyLongB, h40, decide_false, Bool.false_or, Bool.false_and, Bool.not_false, forall_const, reduceCtorEq, false_implies, and_true, hk1]
      | true =>
        obtain ⟨r3, H3, hd3, rfl, rfl⟩ := isSet (hs.grow (hk1.grow hw)) hl hk1.wf
        simp only [↓Sh.dn, sx, Nat.reduceBEq, reduceCtorEq, Nat.reduceEqDiff, Bool.not_true, forall_const, reduceCtorEq, false_implies, and_true, true_and]
        refine ⟨_, _, hd3, ?_⟩
        cases hS : ascB l with
        | true => simp only [↓Sh.dn, sx, Nat.reduceBEq, reduceCtorEq, Nat.reduceEqDiff, hres, hL, hA, hS, sigErr, anyLongB, h40, decide_false, Bool.false_or, Bool.true_and, Bool.not_true, forall_const, reduceCtorEq, false_implies, and_true, true_and, hk1]
        | false => simp only [↓Sh.dn, sx, Nat.reduceBEq, reduceCtorEq, Nat.reduceEqDiff, hres, hL, hA, hS, sigErr, anyLongB, h40, decide_false, Bool.false_or, Bool.true_and, Bool.not_false, forall_const, reduceCtorEq, false_implies, and_true, true_and, hk1]
end Go.Proofs.YtfcmpclbhnjkgaaGreat
/- sort.Search: the first place at which a question that stays true is true. -/
set_option maxHeartbeats 4000000
set_option maxRecDepth 20000
set_option linter.unusedSimpArgs false
set_option linter.unusedVariables false
set_option pp.deepTerms.threshold 8
namespace Go.Proofs.YtfcmpclbhnjkgaaGreat
open Go Go.Proofs Go.Proofs.Sh
theorem half (a b : Nat) (h : a + b < 2097152) : ashift false .u64 (IntKind.wrap .u64 (IntKind.wrap .i64 ((a : Int) + (b : Int)))) 1 = some (.int .u64 (((a + b) / 2 : Nat) : Int)) := by
  rw [wrap64 (by omega) (by omega)]
  have e : IntKind.wrap .u64 ((a : Int) + (b : Int)) = ((a + b : Nat) : Int) := by
    simp only [IntKind.wrap]
    simp [IntKind.bits, IntKind.signed]
    omega
  rw [e]
  simp only [ashift, intLe_eq]
  simp [IntKind.bits, Int.fdiv_eq_ediv]
theorem search {H : AH} {n fid : Nat} {caps : List Value} (p : Nat → Bool) (hn : n ≤ 1048576) (hp : ∀ i, i < n → Sh.Call Tryz.prog (knows 10) fid (.int .i64 (i : Int) :: caps) H (fun r H' => r = .bool (p i) ∧ H' = H)) (hm : ∀ a b, a ≤ b → b < n → p a = true → p b = true) (hw : Wf H) :
    Sh.Call Tryz.prog (knows 10) 130 [.int .i64 (n : Int), .func (.func fid) #[] caps.toArray] H (fun r H' => H' = H ∧ ∃ k : Nat, r = .int .i64 (k : Int) ∧ k ≤ n ∧ (∀ i, i < k → p i = false) ∧ (∀ i, k ≤ i → i < n → p i = true)) := by
  refine call_of rfl Tryz.func130 rfl (Nat.le_of_ble_eq_true rfl) ?_
  have hres : Tryz.f130.results.toList = [.tmp 4] := rfl
  simp only [↓Sh.dn, sx, Nat.reduceBEq, reduceCtorEq, Nat.reduceEqDiff]
  refine wp_while (fun m F H' => H' = H ∧ ∃ a b : Nat, m = b - a ∧ a ≤ b ∧ b ≤ n ∧ F.get 5 = some (.int .i64 (a : Int)) ∧ F.get 6 = some (.int .i64 (b : Int)) ∧ F.get 1 = some (.func (.func fid) #[] caps.toArray) ∧ (∀ i, i < a → p i = false) ∧ (∀ i, b ≤ i → i < n → p i = true)) (m := n) ⟨rfl, 0, n, by omega, by omega, by omega, by simp only [↓Sh.dn, sx, Nat.reduceBEq, reduceCtorEq, Nat.reduceEqDiff]; rfl, by simp only [↓Sh.dn, sx, Nat.reduceBEq, reduceCtorEq, Nat.reduceEqDiff], by simp only [↓Sh.dn, sx, Nat.reduceBEq, reduceCtorEq, Nat.reduceEqDiff], fun i h => by omega, fun i h1 h2 => by omega⟩ ?_
  rintro m F H' ⟨rfl, a, b, rfl, hab, hbn, f5, f6, f1, hlo, hhi⟩ k
  by_cases hlt : a < b
  · obtain ⟨r, H1, hd, rfl, rfl⟩ := hp ((a + b) / 2) (by omega)
    have hw2 : IntKind.wrap .i64 (((a + b) / 2 : Nat) : Int) = (((a + b) / 2 : Nat) : Int) := wrap64 (by omega) (by omega)
    simp only [↓Sh.dn, sx, Nat.reduceBEq, reduceCtorEq, Nat.reduceEqDiff, f5, f6, f1, nat_lt, hlt, decide_true, forall_const, reduceCtorEq, false_implies, and_true, true_and, b_shr, half a b (by omega), hw2, Value.func.injEq, Fn.func.injEq]
    refine ⟨_, _, hd, ?_⟩
    cases hpv : p ((a + b) / 2) with
    | false =>
      have hw3 : IntKind.wrap .i64 ((((a + b) / 2 : Nat) : Int) + 1) = (((a + b) / 2 + 1 : Nat) : Int) := wrap_succ (n := n) (by omega) hn
      simp only [↓Sh.dn, sx, Nat.reduceBEq, reduceCtorEq, Nat.reduceEqDiff, hpv, Bool.not_false, Bool.not_true, forall_const, reduceCtorEq, false_implies, and_true, true_and, hw3]
      refine k (b - ((a + b) / 2 + 1)) _ _ (by omega) ⟨rfl, (a + b) / 2 + 1, b, rfl, by omega, hbn, by simp only [↓Sh.dn, sx, Nat.reduceBEq, reduceCtorEq, Nat.reduceEqDiff], by simp only [↓Sh.dn, sx, Nat.reduceBEq, reduceCtorEq, Nat.reduceEqDiff, f6], by simp only [↓Sh.dn, sx, Nat.reduceBEq, reduceCtorEq, Nat.reduceEqDiff, f1], fun i hi => ?_, hhi⟩
      cases hpi : p i with
      | false => rfl
      | true => rw [hm i ((a + b) / 2) (by omega) (by omega) hpi] at hpv; cases hpv
    | true =>
      simp only [↓Sh.dn, sx, Nat.reduceBEq, reduceCtorEq, Nat.reduceEqDiff, hpv, Bool.not_false, Bool.not_true, forall_const, reduceCtorEq, false_implies, and_true, true_and]
      exact k ((a + b) / 2 - a) _ _ (by omega) ⟨rfl, a, (a + b) / 2, rfl, by omega, by omega, by simp only [↓Sh.dn, sx, Nat.reduceBEq, reduceCtorEq, Nat.reduceEqDiff, f5], by simp only [↓Sh.dn, sx, Nat.reduceBEq, reduceCtorEq, Nat.reduceEqDiff], by simp only [↓Sh.dn, sx, Nat.reduceBEq, reduceCtorEq, Nat.reduceEqDiff, f1], hlo, fun i h1 h2 => hm _ i h1 h2 hpv⟩
  · have hab' : a = b := by omega
    subst hab'
    simp only [↓Sh.dn, sx, Nat.reduceBEq, reduceCtorEq, Nat.reduceEqDiff, f5, f6, f1, nat_lt, hlt, decide_false, forall_const, reduceCtorEq, false_implies, and_true, true_and, hres]
    exact ⟨a, rfl, hbn, hlo, hhi⟩
end Go.Proofs.YtfcmpclbhnjkgaaGreat
/- What sort.SearchStrings asks of a place. -/
set_option maxHeartbeats 4000000
set_option maxRecDepth 20000
set_option linter.unusedSimpArgs false
namespace Go.Proofs.YtfcmpclbhnjkgaaGreat
open Go Go.Proofs Go.Proofs.Sh
theorem searchAt {H : AH} {g1 o1 k1 g2 o2 k2 i : Nat} {v : Value} {x y : ByteArray} {l : List ByteArray} (h1 : H.cell ⟨g1, o1, some k1⟩ = some v) (h2 : H.cell ⟨g2, o2, some k2⟩ = some (.string x)) (hs : Sl H v 1 (l.map strCell)) (hi : l[i]? = some y) (hw : Wf H) :
    Sh.Call Tryz.prog (knows 10) 131 [.int .i64 (i : Int), .pointer (some ⟨g1, o1, some k1⟩), .pointer (some ⟨g2, o2, some k2⟩)] H (fun r H' => r = .bool (!strLt y x) ∧ H' = H) := by
  refine call_of rfl Tryz.func131 rfl (Nat.le_of_ble_eq_true rfl) ?_
  have hres : Tryz.f131.results.toList = [.tmp 4] := rfl
  obtain ⟨g, o, kk, hia, hc, hcc⟩ := hs.at Tryz.underlying22 size_9 (i := i) (x := strCell y) (by simp [hi]) .i64
  have hy := hcc 0 _ rfl
  simp only [Nat.add_zero] at hy
  simp only [↓Sh.dn, sx, Nat.reduceBEq, reduceCtorEq, Nat.reduceEqDiff, h1, h2, hia, hy, hres, true_and, and_true]
end Go.Proofs.YtfcmpclbhnjkgaaGreat
/- sort.SearchStrings over an ascending list. -/
set_option maxHeartbeats 4000000
set_option maxRecDepth 20000
set_option linter.unusedSimpArgs false
set_option linter.unusedVariables false
set_option pp.deepTerms.threshold 8
namespace Go.Proofs.YtfcmpclbhnjkgaaGreat
open Go Go.Proofs Go.Proofs.Sh
theorem searchStrings {H : AH} {v : Value} {x : ByteArray} {l : List ByteArray} (hs : Sl H v 1 (l.map strCell)) (ha : Asc l) (hl : l.length ≤ 1048576) (hw : Wf H) :
    Sh.Call Tryz.prog (knows 10) 114 [v, .string x] H (fun r H' => Kept H H' ∧ ∃ k : Nat, r = .int .i64 (k : Int) ∧ k ≤ l.length ∧ (∀ (i : Nat) y, i < k → l[i]? = some y → strLt y x = true) ∧ (∀ (i : Nat) y, k ≤ i → l[i]? = some y → strLt y x = false)) := by
  refine call_of rfl Tryz.func114 rfl (Nat.le_of_ble_eq_true rfl) ?_
  have hres : Tryz.f114.results.toList = [.tmp 4] := rfl
  have hn1 := new_cell (P := Tryz.prog) (H := H) (t := 22) size_22 hs.isCell
  have hk1 := Kept.new hw 1 [v]
  have hO1 := Obj.new (H := H) 1 [v]
  have hn2 := new_cell (P := Tryz.prog) (H := (H.new 1 [v]).2) (t := 9) (v := .string x) size_9 rfl
  have hk2 := hk1.trans (Kept.new hk1.wf 1 [.string x])
  have hO2 := Obj.new (H := (H.new 1 [v]).2) 1 [.string x]
  have hO1' : Sh.Obj ((H.new 1 [v]).2.new 1 [.string x]).2 H.next 1 [v] true := by
    unfold Sh.Obj
    rw [new_old (by rw [new_nx]; omega)]
    exact hO1
  simp only [↓Sh.dn, sx, Nat.reduceBEq, reduceCtorEq, Nat.reduceEqDiff, hn1, hn2]
  have hx1 : (H.new 1 [v]).2.next = H.next + 1 := rfl
  rw [hx1] at hO2 ⊢
  generalize ((H.new 1 [v]).2.new 1 [.string x]).2 = H2 at hO1' hO2 hk2 ⊢
  have c1 : H2.cell ⟨H.next, 0, some 0⟩ = some v := hO1'.cell
  have c2 : H2.cell ⟨H.next + 1, 0, some 0⟩ = some (.string x) := hO2.cell
  have hs2 := hs.grow (hk2.grow hw)
  have hlen := hs2.len Tryz.underlying22 H2
  simp only [c1, hlen, List.length_map, ↓Sh.dn, sx, Nat.reduceBEq, reduceCtorEq, Nat.reduceEqDiff]
  obtain ⟨r, H3, hd, rfl, k, rfl, hk, hlo, hhi⟩ := search (H := H2) (n := l.length) (caps := [.pointer (some ⟨H.next, 0, some 0⟩), .pointer (some ⟨H.next + 1, 0, some 0⟩)]) (fid := 131) (fun i => match l[i]? with | some y => !strLt y x | none => true) hl
    (fun i hi => by
      have hy : l[i]? = some (l[i]'hi) := List.getElem?_eq_getElem hi
      simp only [hy]
      exact searchAt c1 c2 hs2 hy hk2.wf)
    (fun a b hab hb => by
      have hya : l[a]? = some (l[a]'(by omega)) := List.getElem?_eq_getElem (by omega)
      have hyb : l[b]? = some (l[b]'hb) := List.getElem?_eq_getElem hb
      simp only [hya, hyb, Bool.not_eq_true']
      intro h
      rcases Nat.lt_or_ge a b with hlt | hge
      · cases h2 : strLt l[b] x with
        | false => rfl
        | true => rw [strLt_trans (ha a b _ _ hlt hya hyb) h2] at h; cases h
      · have : a = b := by omega
        subst this
        exact h) hk2.wf
  refine ⟨_, _, hd, ?_⟩
  simp only [↓Sh.dn, sx, Nat.reduceBEq, reduceCtorEq, Nat.reduceEqDiff, hres]
  refine ⟨hk2, k, rfl, hk, fun i y hi hy => ?_, fun i y hi hy => ?_⟩
  · have := hlo i hi
    simpa [hy] using this
  · have hil := (List.getElem?_eq_some_iff.1 hy).1
    have := hhi i hi hil
    simpa [hy] using this
end Go.Proofs.YtfcmpclbhnjkgaaGreat
/- Whether a text is in an ascending list. -/
set_option maxHeartbeats 4000000
set_option maxRecDepth 20000
set_option linter.unusedSimpArgs false
set_option linter.unusedVariables false
set_option pp.deepTerms.threshold 8
namespace Go.Proofs.YtfcmpclbhnjkgaaGreat
open Go Go.Proofs Go.Proofs.Sh
theorem isIn {H : AH} {v : Value} {x : ByteArray} {l : List ByteArray} (hs : Sl H v 1 (l.map strCell)) (ha : Asc l) (hl : l.length ≤ 1048576) (hw : Wf H) :
    Sh.Call Tryz.prog (knows 10) 74 [v, .string x] H (fun r H' => Kept H H' ∧ r = .bool (strIn l x)) := by
  refine call_of rfl Tryz.func74 rfl (Nat.le_of_ble_eq_true rfl) ?_
  have hres : Tryz.f74.results.toList = [.tmp 4] := rfl
  obtain ⟨r, H1, hd, hk1, k, rfl, hk, hlo, hhi⟩ := searchStrings hs ha hl hw (x := x)
  have hp := asc_place ha x hlo hhi
  simp only [↓Sh.dn, sx, Nat.reduceBEq, reduceCtorEq, Nat.reduceEqDiff]
  refine ⟨_, _, hd, ?_⟩
  have hs1 := hs.grow (hk1.grow hw)
  have hlen := hs1.len Tryz.underlying22 H1
  by_cases hlt : k < l.length
  · have hy : l[k]? = some (l[k]'hlt) := List.getElem?_eq_getElem hlt
    obtain ⟨g, o, kk, hia, hc, hcc⟩ := hs1.at Tryz.underlying22 size_9 (i := k) (x := strCell l[k]) (by simp [hlt]) .i64
    have hyc := hcc 0 _ rfl
    simp only [Nat.add_zero] at hyc
    simp only [↓Sh.dn, sx, Nat.reduceBEq, reduceCtorEq, Nat.reduceEqDiff, hlen, List.length_map, nat_lt, hlt, decide_true, hia, hyc, hres, forall_const, not_true_eq_false, false_implies, and_true, true_and]
    refine ⟨hk1, ?_⟩
    have : decide (l[k] = x) = strIn l x := by
      rw [Bool.eq_iff_iff, decide_eq_true_eq, strIn_iff, ← hp, hy, Option.some.injEq]
    rw [this]
  · simp only [↓Sh.dn, sx, Nat.reduceBEq, reduceCtorEq, Nat.reduceEqDiff, hlen, List.length_map, nat_lt, hlt, decide_false, Bool.not_true, hres, forall_const, not_true_eq_false, false_implies, and_true, true_and]
    refine ⟨hk1, ?_⟩
    have : strIn l x = false := by
      cases h : strIn l x with
      | false => rfl
      | true =>
        have := hp.2 (strIn_iff.1 h)
        rw [List.getElem?_eq_none (by omega)] at this; cases this
    rw [this]
end Go.Proofs.YtfcmpclbhnjkgaaGreat
/- What is wrong with a net of any kind, by the reference. -/
set_option maxHeartbeats 4000000
set_option maxRecDepth 20000
set_option linter.unusedSimpArgs false
set_option linter.unusedVariables false
set_option pp.deepTerms.threshold 8
namespace Go.Proofs.YtfcmpclbhnjkgaaGreat
open Go Go.Proofs Go.Proofs.Sh
def badSym (N : NetD) (s : ByteArray) : Bool := !decide (s = ⟨#[]⟩) && !strIn N.sigma s
def badArc (N : NetD) (a : ArcD) : Bool := decide (a.fr < 0) || decide (N.states ≤ a.fr) || decide (a.to < 0) || decide (N.states ≤ a.to) || badSym N a.inn || badSym N a.out
def badEnd (N : NetD) (e : EndD) : Bool := decide (e.state < 0) || decide (N.states ≤ e.state)
def tooLarge (N : NetD) : Bool := decide (3000 < N.states) || decide (60000 < N.arcs.length) || decide (60000 < N.ends.length)
def netErr (N : NetD) : Int := if tooLarge N = true then 3 else if sigErr N.sigma ≠ 0 then sigErr N.sigma else if N.states < 1 then 1 else if N.arcs.any (badArc N) = true then 1 else if N.ends.any (badEnd N) = true then 1 else 0
theorem sigErr_asc {l : List ByteArray} (h : sigErr l = 0) : Asc l := by
  unfold sigErr at h
  split at h
  · cases h
  · split at h
    · rename_i h1
      simp only [Bool.and_eq_true] at h1
      exact asc_of h1.2
    · cases h
theorem validateNet {H : AH} {v : Value} {N : NetD} (h : NetAt H v N) (hsm : NetSmall N) (hw : Wf H) :
    Sh.Call Tryz.prog (knows 10) 55 [v] H (fun r H' => Kept H H' ∧ r = .int .i64 (netErr N)) := by
  refine call_of rfl Tryz.func55 rfl (Nat.le_of_ble_eq_true rfl) ?_
  have hres : Tryz.f55.results.toList = [.tmp 2] := rfl
  obtain ⟨sg, ar, en, rfl, hsg, har, hen⟩ := h
  have hb1 := NetBox.of (N := N) hw hsg har hen
  have hk1 : Kept H (H.new 4 [sg, .int .i64 N.states, ar, en]).2 := Kept.new hw 4 _
  have eA : decide ((60000 : Int) < (N.arcs.length : Int)) = decide (60000 < N.arcs.length) := decide_eq_decide.2 (by omega)
  have eE : decide ((60000 : Int) < (N.ends.length : Int)) = decide (60000 < N.ends.length) := decide_eq_decide.2 (by omega)
  simp only [↓Sh.dn, sx, Nat.reduceBEq, reduceCtorEq, Nat.reduceEqDiff, netNew hsg.isCell har.isCell hen.isCell]
  generalize hg : H.next = gg at hb1 ⊢
  generalize (H.new 4 [sg, .int .i64 N.states, ar, en]).2 = H1 at hb1 hk1 ⊢
  simp only [↓Sh.dn, sx, Nat.reduceBEq, reduceCtorEq, Nat.reduceEqDiff, hb1.c0, hb1.c1, hb1.c2, hb1.c3, hb1.ca, netLenS hb1, netLenA hb1, netLenE hb1]
  by_cases hA : 3000 < N.states
  · simp only [↓Sh.dn, sx, Nat.reduceBEq, reduceCtorEq, Nat.reduceEqDiff, hA, decide_true, hres, netErr, tooLarge, Bool.true_or, hk1]
  by_cases hB : 60000 < N.arcs.length
  · simp only [↓Sh.dn, sx, Nat.reduceBEq, reduceCtorEq, Nat.reduceEqDiff, hb1.c0, hb1.c1, hb1.c2, hb1.c3, hb1.ca, netLenS hb1, netLenA hb1, netLenE hb1, hA, eA, hB, decide_true, decide_false, hres, netErr, tooLarge, Bool.true_or, Bool.or_true, hk1]
  by_cases hC : 60000 < N.ends.length
  · simp only [↓Sh.dn, sx, Nat.reduceBEq, reduceCtorEq, Nat.reduceEqDiff, hb1.c0, hb1.c1, hb1.c2, hb1.c3, hb1.ca, netLenS hb1, netLenA hb1, netLenE hb1, hA, eA, eE, hB, hC, decide_true, decide_false, hres, netErr, tooLarge, Bool.true_or, Bool.or_true, hk1]
  have hT : tooLarge N = false := by simp [tooLarge, hA, hB, hC]
  simp only [↓Sh.dn, sx, Nat.reduceBEq, reduceCtorEq, Nat.reduceEqDiff, hb1.c0, hb1.c1, hb1.c2, hb1.c3, hb1.ca, netLenS hb1, netLenA hb1, netLenE hb1, hA, eA, eE, hB, hC, decide_true, decide_false, hres]
  obtain ⟨r, H2, hd, hk2, rfl⟩ := refSigma hb1.hsg hsm.sg hsm.sx hk1.wf
  refine ⟨_, _, hd, ?_⟩
  have hb2 := hb1.kept hk1.wf hk2
  have hk12 := hk1.trans hk2
  by_cases hS : sigErr N.sigma = 0
  case neg => simp only [↓Sh.dn, sx, Nat.reduceBEq, reduceCtorEq, Nat.reduceEqDiff, hS, decide_false, hres, netErr, hT, Bool.false_eq_true, if_false, ne_eq, not_false_eq_true, if_true, hk12]
  have hasc := sigErr_asc hS
  simp only [↓Sh.dn, sx, Nat.reduceBEq, reduceCtorEq, Nat.reduceEqDiff, hS, decide_true, hb2.c0, hb2.c1, hb2.c2, hb2.c3, hb2.ca, netLenS hb2, netLenA hb2, netLenE hb2]
  by_cases hst : N.states < 1
  · simp only [↓Sh.dn, sx, Nat.reduceBEq, reduceCtorEq, Nat.reduceEqDiff, hst, decide_true, hres, netErr, hT, hS, ne_eq, not_true_eq_false, if_false, if_true, hk12, Bool.false_eq_true]
  simp only [↓Sh.dn, sx, Nat.reduceBEq, reduceCtorEq, Nat.reduceEqDiff, hst, decide_false]
  have e1 : N.arcs.any (badArc N) = true → netErr N = 1 := by intro h; simp [netErr, hT, hS, hst, h]
  have e2 : N.ends.any (badEnd N) = true → netErr N = 1 := by intro h; simp [netErr, hT, hS, hst, h]
  have e3 : N.arcs.any (badArc N) = false → N.ends.any (badEnd N) = false → netErr N = 0 := by intro h h'; simp [netErr, hT, hS, hst, h, h']
  refine wp_for N.arcs.length 4 (List.range' 4 87 ++ [2]) (fun i F H' => Kept H2 H' ∧ (N.arcs.take i).any (badArc N) = false) (by simp only [↓Sh.dn, sx, Nat.reduceBEq, reduceCtorEq, Nat.reduceEqDiff]) ⟨Kept.refl hk12.wf, rfl⟩ ?_ ?_
  · rintro i F H' hlt hF f4 ⟨hk, hall⟩ k
    have f1 := hF 1 rfl
    simp only [↓Sh.dn, sx, Nat.reduceBEq, reduceCtorEq, Nat.reduceEqDiff] at f1
    have hb' := hb2.kept hk12.wf hk
    have hb3 := hb'.new hk.wf 5 (N.arcs[i].cells)
    have hk3 := hk.news 5 (N.arcs[i].cells)
    obtain ⟨g, o, kk, hia, hc, hcc⟩ := hb'.har.at Tryz.underlying23 size_54 (i := i) (x := N.arcs[i].cells) (by simp [hlt]) .i64
    clear hcc
    have hin : N.arcs[i] ∈ N.arcs := List.getElem_mem hlt
    have hnext : badArc N N.arcs[i] = false → (N.arcs.take (i + 1)).any (badArc N) = false := by
      intro h
      rw [List.take_add_one, List.getElem?_eq_getElem hlt]
      simp only [Option.toList, List.any_append, hall, List.any_cons, List.any_nil, h, Bool.or_false]
    have hbad : badArc N N.arcs[i] = true → netErr N = 1 := fun h => e1 (List.any_eq_true.2 ⟨_, hin, h⟩)
    generalize N.arcs[i] = a at hb3 hk3 hc hnext hbad
    have hi2 := isIn (x := a.inn) hb3.hsg hasc hsm.sg hk3.wf
    simp only [↓Sh.dn, sx, Nat.reduceBEq, reduceCtorEq, Nat.reduceEqDiff, hb'.c0, hb'.c1, hb'.c2, hb'.c3, hb'.ca, netLenS hb', netLenA hb', netLenE hb', netZero, arcZero, endZero, arcNew, endNew, arcStore, endStore, arcOver, endOver, netOver, arc0, arc1, arc2, arc3, arc4, end0, end1, f1, f4, Option.map_some, nat_lt, hlt, decide_true, hia, hc, hres]
    by_cases h1 : a.fr < 0
    · simp only [↓Sh.dn, sx, Nat.reduceBEq, reduceCtorEq, Nat.reduceEqDiff, hb3.c0, hb3.c1, hb3.c2, hb3.c3, hb3.ca, netLenS hb3, netLenA hb3, netLenE hb3, netZero, arcZero, endZero, arcNew, endNew, arcStore, endStore, arcOver, endOver, netOver, arc0, arc1, arc2, arc3, arc4, end0, end1, h1, decide_true, hres, hbad (by simp [badArc, h1]), hk12.trans hk3]
    simp only [↓Sh.dn, sx, Nat.reduceBEq, reduceCtorEq, Nat.reduceEqDiff, hb3.c0, hb3.c1, hb3.c2, hb3.c3, hb3.ca, netLenS hb3, netLenA hb3, netLenE hb3, netZero, arcZero, endZero, arcNew, endNew, arcStore, endStore, arcOver, endOver, netOver, arc0, arc1, arc2, arc3, arc4, end0, end1, f1, h1, decide_false]
    by_cases h2 : N.states ≤ a.fr
    · simp only [↓Sh.dn, sx, Nat.reduceBEq, reduceCtorEq, Nat.reduceEqDiff, hb3.c0, hb3.c1, hb3.c2, hb3.c3, hb3.ca, netLenS hb3, netLenA hb3, netLenE hb3, netZero, arcZero, endZero, arcNew, endNew, arcStore, endStore, arcOver, endOver, netOver, arc0, arc1, arc2, arc3, arc4, end0, end1, h2, decide_true, hres, hbad (by simp [badArc, h2]), hk12.trans hk3]
    simp only [↓Sh.dn, sx, Nat.reduceBEq, reduceCtorEq, Nat.reduceEqDiff, hb3.c0, hb3.c1, hb3.c2, hb3.c3, hb3.ca, netLenS hb3, netLenA hb3, netLenE hb3, netZero, arcZero, endZero, arcNew, endNew, arcStore, endStore, arcOver, endOver, netOver, arc0, arc1, arc2, arc3, arc4, end0, end1, f1, h2, decide_false]
    by_cases h3 : a.to < 0
    · simp only [↓Sh.dn, sx, Nat.reduceBEq, reduceCtorEq, Nat.reduceEqDiff, hb3.c0, hb3.c1, hb3.c2, hb3.c3, hb3.ca, netLenS hb3, netLenA hb3, netLenE hb3, netZero, arcZero, endZero, arcNew, endNew, arcStore, endStore, arcOver, endOver, netOver, arc0, arc1, arc2, arc3, arc4, end0, end1, h3, decide_true, hres, hbad (by simp [badArc, h3]), hk12.trans hk3]
    simp only [↓Sh.dn, sx, Nat.reduceBEq, reduceCtorEq, Nat.reduceEqDiff, hb3.c0, hb3.c1, hb3.c2, hb3.c3, hb3.ca, netLenS hb3, netLenA hb3, netLenE hb3, netZero, arcZero, endZero, arcNew, endNew, arcStore, endStore, arcOver, endOver, netOver, arc0, arc1, arc2, arc3, arc4, end0, end1, f1, h3, decide_false]
    by_cases h4 : N.states ≤ a.to
    · simp only [↓Sh.dn, sx, Nat.reduceBEq, reduceCtorEq, Nat.reduceEqDiff, hb3.c0, hb3.c1, hb3.c2, hb3.c3, hb3.ca, netLenS hb3, netLenA hb3, netLenE hb3, netZero, arcZero, endZero, arcNew, endNew, arcStore, endStore, arcOver, endOver, netOver, arc0, arc1, arc2, arc3, arc4, end0, end1, h4, decide_true, hres, hbad (by simp [badArc, h4]), hk12.trans hk3]
    simp only [↓Sh.dn, sx, Nat.reduceBEq, reduceCtorEq, Nat.reduceEqDiff, hb3.c0, hb3.c1, hb3.c2, hb3.c3, hb3.ca, netLenS hb3, netLenA hb3, netLenE hb3, netZero, arcZero, endZero, arcNew, endNew, arcStore, endStore, arcOver, endOver, netOver, arc0, arc1, arc2, arc3, arc4, end0, end1, f1, h4, decide_false]
    have hgo : badSym N a.inn = false → badSym N a.out = false → badArc N a = false := by intro h h'; simp [badArc, h1, h2, h3, h4, h, h']
    -- the symbol below
    have hout : ∀ (H4 : AH) (F4 : Fr), Kept (H'.new 5 a.cells).2 H4 → badSym N a.inn = false → True := fun _ _ _ _ => trivial
    by_cases h5 : a.inn = ⟨#[]⟩
    · have hI : badSym N a.inn = false := by simp [badSym, h5]
      simp only [↓Sh.dn, sx, Nat.reduceBEq, reduceCtorEq, Nat.reduceEqDiff, hb3.c0, hb3.c1, hb3.c2, hb3.c3, hb3.ca, netLenS hb3, netLenA hb3, netLenE hb3, netZero, arcZero, endZero, arcNew, endNew, arcStore, endStore, arcOver, endOver, netOver, arc0, arc1, arc2, arc3, arc4, end0, end1, f1, h5, decide_true]
      by_cases h6 : a.out = ⟨#[]⟩
      · have hO : badSym N a.out = false := by simp [badSym, h6]
        simp only [↓Sh.dn, sx, Nat.reduceBEq, reduceCtorEq, Nat.reduceEqDiff, hb3.c0, hb3.c1, hb3.c2, hb3.c3, hb3.ca, netLenS hb3, netLenA hb3, netLenE hb3, netZero, arcZero, endZero, arcNew, endNew, arcStore, endStore, arcOver, endOver, netOver, arc0, arc1, arc2, arc3, arc4, end0, end1, f1, f4, h6, decide_true, wrap_succ hlt hsm.ar]
        exact k _ _ (by repeat (first | refine Same.put ?_ rfl | exact Same.rfl' _)) (by simp only [↓Sh.dn, sx, Nat.reduceBEq, reduceCtorEq, Nat.reduceEqDiff]) ⟨hk3, hnext (hgo hI hO)⟩
      · obtain ⟨r, H4, hd4, hk4, rfl⟩ := isIn (x := a.out) hb3.hsg hasc hsm.sg hk3.wf
        simp only [↓Sh.dn, sx, Nat.reduceBEq, reduceCtorEq, Nat.reduceEqDiff, hb3.c0, hb3.c1, hb3.c2, hb3.c3, hb3.ca, netLenS hb3, netLenA hb3, netLenE hb3, netZero, arcZero, endZero, arcNew, endNew, arcStore, endStore, arcOver, endOver, netOver, arc0, arc1, arc2, arc3, arc4, end0, end1, f1, h6, decide_false]
        refine ⟨_, _, hd4, ?_⟩
        cases h7 : strIn N.sigma a.out with
        | true =>
          have hO : badSym N a.out = false := by simp [badSym, h7]
          simp only [↓Sh.dn, sx, Nat.reduceBEq, reduceCtorEq, Nat.reduceEqDiff, f4, wrap_succ hlt hsm.ar]
          exact k _ _ (by repeat (first | refine Same.put ?_ rfl | exact Same.rfl' _)) (by simp only [↓Sh.dn, sx, Nat.reduceBEq, reduceCtorEq, Nat.reduceEqDiff]) ⟨hk3.trans hk4, hnext (hgo hI hO)⟩
        | false =>
          simp only [↓Sh.dn, sx, Nat.reduceBEq, reduceCtorEq, Nat.reduceEqDiff, hres, hbad (by simp [badArc, badSym, h6, h7]), (hk12.trans hk3).trans hk4]
    · obtain ⟨r, H4, hd4, hk4, rfl⟩ := isIn (x := a.inn) hb3.hsg hasc hsm.sg hk3.wf
      simp only [↓Sh.dn, sx, Nat.reduceBEq, reduceCtorEq, Nat.reduceEqDiff, hb3.c0, hb3.c1, hb3.c2, hb3.c3, hb3.ca, netLenS hb3, netLenA hb3, netLenE hb3, netZero, arcZero, endZero, arcNew, endNew, arcStore, endStore, arcOver, endOver, netOver, arc0, arc1, arc2, arc3, arc4, end0, end1, f1, h5, decide_false]
      refine ⟨_, _, hd4, ?_⟩
      have hb4 := hb3.kept hk3.wf hk4
      have q2 := cell_grow (hk4.grow hk3.wf) (arc2 (H := H') (a := a))
      cases h7 : strIn N.sigma a.inn with
      | false =>
        simp only [↓Sh.dn, sx, Nat.reduceBEq, reduceCtorEq, Nat.reduceEqDiff, hres, hbad (by simp [badArc, badSym, h5, h7]), (hk12.trans hk3).trans hk4]
      | true =>
        have hI : badSym N a.inn = false := by simp [badSym, h7]
        simp only [↓Sh.dn, sx, Nat.reduceBEq, reduceCtorEq, Nat.reduceEqDiff, hb4.c0, hb4.c1, hb4.c2, hb4.c3, hb4.ca, netLenS hb4, netLenA hb4, netLenE hb4, q2, f1]
        by_cases h6 : a.out = ⟨#[]⟩
        · have hO : badSym N a.out = false := by simp [badSym, h6]
          simp only [↓Sh.dn, sx, Nat.reduceBEq, reduceCtorEq, Nat.reduceEqDiff, hb4.c0, hb4.c1, hb4.c2, hb4.c3, hb4.ca, netLenS hb4, netLenA hb4, netLenE hb4, q2, f1, f4, h6, decide_true, wrap_succ hlt hsm.ar]
          exact k _ _ (by repeat (first | refine Same.put ?_ rfl | exact Same.rfl' _)) (by simp only [↓Sh.dn, sx, Nat.reduceBEq, reduceCtorEq, Nat.reduceEqDiff]) ⟨hk3.trans hk4, hnext (hgo hI hO)⟩
        · obtain ⟨r, H5, hd5, hk5, rfl⟩ := isIn (x := a.out) hb4.hsg hasc hsm.sg hk4.wf
          simp only [↓Sh.dn, sx, Nat.reduceBEq, reduceCtorEq, Nat.reduceEqDiff, hb4.c0, hb4.c1, hb4.c2, hb4.c3, hb4.ca, netLenS hb4, netLenA hb4, netLenE hb4, q2, f1, h6, decide_false]
          refine ⟨_, _, hd5, ?_⟩
          cases h8 : strIn N.sigma a.out with
          | true =>
            have hO : badSym N a.out = false := by simp [badSym, h8]
            simp only [↓Sh.dn, sx, Nat.reduceBEq, reduceCtorEq, Nat.reduceEqDiff, f4, wrap_succ hlt hsm.ar]
            exact k _ _ (by repeat (first | refine Same.put ?_ rfl | exact Same.rfl' _)) (by simp only [↓Sh.dn, sx, Nat.reduceBEq, reduceCtorEq, Nat.reduceEqDiff]) ⟨(hk3.trans hk4).trans hk5, hnext (hgo hI hO)⟩
          | false =>
            simp only [↓Sh.dn, sx, Nat.reduceBEq, reduceCtorEq, Nat.reduceEqDiff, hres, hbad (by simp [badArc, badSym, h6, h8]), ((hk12.trans hk3).trans hk4).trans hk5]
  · rintro F H' hF f4 ⟨hk, hall⟩
    have f1 := hF 1 rfl
    simp only [↓Sh.dn, sx, Nat.reduceBEq, reduceCtorEq, Nat.reduceEqDiff] at f1
    rw [List.take_length] at hall
    have hb' := hb2.kept hk12.wf hk
    have hkk := hk12.trans hk
    simp only [↓Sh.dn, sx, Nat.reduceBEq, reduceCtorEq, Nat.reduceEqDiff, hb'.c0, hb'.c1, hb'.c2, hb'.c3, hb'.ca, netLenS hb', netLenA hb', netLenE hb', f1, f4, nat_lt, Nat.lt_irrefl, decide_false]
    refine wp_for N.ends.length 6 (List.range' 91 26 ++ [2, 6]) (fun i F H'' => H'' = H' ∧ (N.ends.take i).any (badEnd N) = false) (by simp only [↓Sh.dn, sx, Nat.reduceBEq, reduceCtorEq, Nat.reduceEqDiff]) ⟨rfl, rfl⟩ ?_ ?_
    · rintro i F2 H'' hlt hF2 f6 ⟨rfl, hall2⟩ k
      have g1 := hF2 1 rfl
      simp only [↓Sh.dn, sx, Nat.reduceBEq, reduceCtorEq, Nat.reduceEqDiff, f1] at g1
      obtain ⟨g, o, kk, hia, hc, hcc⟩ := hb'.hen.at Tryz.underlying24 size_56 (i := i) (x := N.ends[i].cells) (by simp [hlt]) .i64
      have q0 := hcc 0 _ rfl
      simp only [Nat.add_zero] at q0
      have hbad : badEnd N N.ends[i] = true → netErr N = 1 := fun h => e2 (List.any_eq_true.2 ⟨_, List.getElem_mem hlt, h⟩)
      simp only [↓Sh.dn, sx, Nat.reduceBEq, reduceCtorEq, Nat.reduceEqDiff, hb'.c0, hb'.c1, hb'.c2, hb'.c3, hb'.ca, netLenS hb', netLenA hb', netLenE hb', g1, f6, nat_lt, hlt, decide_true, hia, q0, Nat.add_zero]
      by_cases h1 : N.ends[i].state < 0
      · simp only [↓Sh.dn, sx, Nat.reduceBEq, reduceCtorEq, Nat.reduceEqDiff, h1, decide_true, hres, hbad (by simp [badEnd, h1]), hkk]
      simp only [↓Sh.dn, sx, Nat.reduceBEq, reduceCtorEq, Nat.reduceEqDiff, hb'.c0, hb'.c1, hb'.c2, hb'.c3, hb'.ca, netLenS hb', netLenA hb', netLenE hb', g1, f6, hia, q0, h1, decide_false]
      by_cases h2 : N.states ≤ N.ends[i].state
      · simp only [↓Sh.dn, sx, Nat.reduceBEq, reduceCtorEq, Nat.reduceEqDiff, h2, decide_true, hres, hbad (by simp [badEnd, h2]), hkk]
      simp only [↓Sh.dn, sx, Nat.reduceBEq, reduceCtorEq, Nat.reduceEqDiff, f6, h2, decide_false, wrap_succ hlt hsm.en]
      refine k _ _ (by repeat (first | refine Same.put ?_ rfl | exact Same.rfl' _)) (by simp only [↓Sh.dn, sx, Nat.reduceBEq, reduceCtorEq, Nat.reduceEqDiff]) ⟨rfl, ?_⟩
      rw [List.take_add_one, List.getElem?_eq_getElem hlt]
      simp only [Option.toList, List.any_append, hall2, List.any_cons, List.any_nil, Bool.or_false, badEnd, h1, h2, decide_false]
    · rintro F2 H'' hF2 f6 ⟨rfl, hall2⟩
      have g1 := hF2 1 rfl
      simp only [↓Sh.dn, sx, Nat.reduceBEq, reduceCtorEq, Nat.reduceEqDiff, f1] at g1
      rw [List.take_length] at hall2
      simp only [↓Sh.dn, sx, Nat.reduceBEq, reduceCtorEq, Nat.reduceEqDiff, hb'.c0, hb'.c1, hb'.c2, hb'.c3, hb'.ca, netLenS hb', netLenA hb', netLenE hb', g1, f6, nat_lt, Nat.lt_irrefl, decide_false, hres, e3 hall hall2, hkk]
end Go.Proofs.YtfcmpclbhnjkgaaGreat
/- Whether nothing of a net costs. -/
set_option maxHeartbeats 4000000
set_option maxRecDepth 20000
set_option linter.unusedSimpArgs false
namespace Go.Proofs.YtfcmpclbhnjkgaaGreat
open Go Go.Proofs Go.Proofs.Sh
def NetD.free (N : NetD) : Bool := N.arcs.all (fun a => decide (a.cost = 0)) && N.ends.all (fun a => decide (a.cost = 0))
theorem isFree {H : AH} {v : Value} {N : NetD} (h : NetAt H v N) (hw : Wf H) (hl : N.arcs.length ≤ 1048576) (hl2 : N.ends.length ≤ 1048576) : Sh.Call Tryz.prog (knows 10) 56 [v] H (fun r H' => r = .bool (NetD.free N) ∧ Kept H H') := by
  obtain ⟨sg, ar, en, rfl, hsg, har, hen⟩ := h
  refine call_of rfl Tryz.func56 rfl (Nat.le_of_ble_eq_true rfl) ?_
  have hn := new_agg (P := Tryz.prog) (H := H) (t := 26) (vs := [sg, .int .i64 N.states, ar, en]) size_26 rfl (by simp [hsg.isCell, har.isCell, hen.isCell, show isCell (.int .i64 N.states) = true from rfl])
  have hO := Obj.new (H := H) 4 [sg, .int .i64 N.states, ar, en]
  have hk : Kept H (H.new 4 [sg, .int .i64 N.states, ar, en]).2 := Kept.new hw 4 _
  simp only [↓Sh.dn, sx, Nat.reduceBEq, reduceCtorEq, Nat.reduceEqDiff, ↓Sh.wp_cond, hn]
  generalize (H.new 4 [sg, .int .i64 N.states, ar, en]).2 = H1 at hO hk ⊢
  have c2 : H1.cell ⟨H.next, 2, some 0⟩ = some ar := hO.cell
  have c3 : H1.cell ⟨H.next, 3, some 0⟩ = some en := hO.cell
  have har1 := har.grow (hk.grow hw)
  have hen1 := hen.grow (hk.grow hw)
  have l2 := har1.len Tryz.underlying23 H1
  have l3 := hen1.len Tryz.underlying24 H1
  have hres : Tryz.f56.results.toList = [.tmp 2] := rfl
  refine wp_count N.arcs.length (fun i F H' => H' = H1 ∧ F.get 1 = some (.pointer (some ⟨H.next, 0, some 0⟩)) ∧ F.get 3 = some (.int .i64 (i : Int)) ∧ (N.arcs.take i).all (fun a => decide (a.cost = 0)) = true) (Nat.zero_le _) ⟨rfl, by simp only [↓Sh.dn, sx, Nat.reduceBEq, reduceCtorEq, Nat.reduceEqDiff, ↓Sh.wp_cond], by simp only [↓Sh.dn, sx, Nat.reduceBEq, reduceCtorEq, Nat.reduceEqDiff, ↓Sh.wp_cond]; rfl, rfl⟩ ?_
  rintro i F H' hi ⟨rfl, f1, f3, hall⟩ k
  by_cases hlt : i < N.arcs.length
  · have hx : (N.arcs.map ArcD.cells)[i]? = some (N.arcs[i].cells) := by simp [hlt]
    obtain ⟨g, o, kk, hia, hc, hcc⟩ := har1.at Tryz.underlying23 size_54 hx .i64
    have hcost := hcc 4 _ rfl
    simp only [↓Sh.dn, sx, Nat.reduceBEq, reduceCtorEq, Nat.reduceEqDiff, ↓Sh.wp_cond, f1, f3, c2, l2, hia, hcost, List.length_map, nat_lt, hlt, decide_true, forall_const, reduceCtorEq, false_implies, and_true, true_and, hres, resultsA, one]
    refine ⟨fun hne => ⟨?_, hk⟩, fun he => k _ _ hlt ⟨rfl, by simp only [↓Sh.dn, sx, Nat.reduceBEq, reduceCtorEq, Nat.reduceEqDiff, ↓Sh.wp_cond, f1], by simp only [↓Sh.dn, sx, Nat.reduceBEq, reduceCtorEq, Nat.reduceEqDiff, ↓Sh.wp_cond, wrap_succ hlt hl], ?_⟩⟩
    · have : NetD.free N = false := by
        simp only [NetD.free, Bool.and_eq_false_iff, List.all_eq_false]
        exact .inl ⟨_, List.getElem_mem hlt, by simpa using hne⟩
      rw [this]
    · rw [List.take_add_one, List.getElem?_eq_getElem hlt]
      simp only [Option.toList, List.all_append, hall, Bool.true_and, List.all_cons, List.all_nil, Bool.and_true]
      simpa using he
  · have hin : i = N.arcs.length := by omega
    subst hin
    rw [List.take_length] at hall
    simp only [↓Sh.dn, sx, Nat.reduceBEq, reduceCtorEq, Nat.reduceEqDiff, ↓Sh.wp_cond, f1, f3, c2, l2, List.length_map, nat_lt, hlt, decide_false, forall_const, reduceCtorEq, false_implies, and_true, true_and]
    refine wp_count N.ends.length (fun i F H'' => H'' = H' ∧ F.get 1 = some (.pointer (some ⟨H.next, 0, some 0⟩)) ∧ F.get 4 = some (.int .i64 (i : Int)) ∧ (N.ends.take i).all (fun a => decide (a.cost = 0)) = true) (Nat.zero_le _) ⟨rfl, by simp only [↓Sh.dn, sx, Nat.reduceBEq, reduceCtorEq, Nat.reduceEqDiff, ↓Sh.wp_cond, f1], by simp only [↓Sh.dn, sx, Nat.reduceBEq, reduceCtorEq, Nat.reduceEqDiff, ↓Sh.wp_cond]; rfl, rfl⟩ ?_
    clear k
    rintro i F H'' hi ⟨rfl, f1, f4, hall2⟩ k
    by_cases hlt2 : i < N.ends.length
    · have hx : (N.ends.map EndD.cells)[i]? = some (N.ends[i].cells) := by simp [hlt2]
      obtain ⟨g, o, kk, hia, hc, hcc⟩ := hen1.at Tryz.underlying24 size_56 hx .i64
      have hcost := hcc 1 _ rfl
      simp only [↓Sh.dn, sx, Nat.reduceBEq, reduceCtorEq, Nat.reduceEqDiff, ↓Sh.wp_cond, f1, f4, c3, l3, hia, hcost, List.length_map, nat_lt, hlt2, decide_true, forall_const, reduceCtorEq, false_implies, and_true, true_and, hres, resultsA, one]
      refine ⟨fun hne => ⟨?_, hk⟩, fun he => k _ _ hlt2 ⟨rfl, by simp only [↓Sh.dn, sx, Nat.reduceBEq, reduceCtorEq, Nat.reduceEqDiff, ↓Sh.wp_cond, f1], by simp only [↓Sh.dn, sx, Nat.reduceBEq, reduceCtorEq, Nat.reduceEqDiff, ↓Sh.wp_cond, wrap_succ hlt2 hl2], ?_⟩⟩
      · have : NetD.free N = false := by
          simp only [NetD.free, Bool.and_eq_false_iff, List.all_eq_false]
          exact .inr ⟨_, List.getElem_mem hlt2, by simpa using hne⟩
        rw [this]
      · rw [List.take_add_one, List.getElem?_eq_getElem hlt2]
        simp only [Option.toList, List.all_append, hall2, Bool.true_and, List.all_cons, List.all_nil, Bool.and_true]
        simpa using he
    · have hin : i = N.ends.length := by omega
      subst hin
      rw [List.take_length] at hall2
      simp only [↓Sh.dn, sx, Nat.reduceBEq, reduceCtorEq, Nat.reduceEqDiff, ↓Sh.wp_cond, f1, f4, c3, l3, List.length_map, nat_lt, hlt2, decide_false, forall_const, reduceCtorEq, false_implies, and_true, true_and, hres, resultsA, one]
      refine ⟨?_, hk⟩
      rw [NetD.free, hall, hall2]
      rfl
end Go.Proofs.YtfcmpclbhnjkgaaGreat
/- What is wrong with an acceptor, by the reference. -/
set_option maxHeartbeats 4000000
set_option maxRecDepth 20000
set_option linter.unusedSimpArgs false
set_option linter.unusedVariables false
set_option pp.deepTerms.threshold 8
namespace Go.Proofs.YtfcmpclbhnjkgaaGreat
open Go Go.Proofs Go.Proofs.Sh
def unlike (N : NetD) : Bool := N.arcs.any fun a => !decide (a.inn = a.out)
def accErr (N : NetD) : Int := if netErr N ≠ 0 then netErr N else if unlike N = true then 6 else if NetD.free N = true then 0 else 6
theorem refValidate {H : AH} {v : Value} {N : NetD} (h : NetAt H v N) (hsm : NetSmall N) (hw : Wf H) :
    Sh.Call Tryz.prog (knows 10) 25 [v] H (fun r H' => Kept H H' ∧ r = .int .i64 (accErr N)) := by
  refine call_of rfl Tryz.func25 rfl (Nat.le_of_ble_eq_true rfl) ?_
  have hres : Tryz.f25.results.toList = [.tmp 2] := rfl
  obtain ⟨sg, ar, en, rfl, hsg, har, hen⟩ := h
  have hb1 := NetBox.of (N := N) hw hsg har hen
  have hk1 : Kept H (H.new 4 [sg, .int .i64 N.states, ar, en]).2 := Kept.new hw 4 _
  simp only [↓Sh.dn, sx, Nat.reduceBEq, reduceCtorEq, Nat.reduceEqDiff, netNew hsg.isCell har.isCell hen.isCell]
  generalize H.next = gg at hb1 ⊢
  generalize (H.new 4 [sg, .int .i64 N.states, ar, en]).2 = H1 at hb1 hk1 ⊢
  simp only [↓Sh.dn, sx, Nat.reduceBEq, reduceCtorEq, Nat.reduceEqDiff, hb1.c0, hb1.c1, hb1.c2, hb1.c3, hb1.ca, netLenS hb1, netLenA hb1, netLenE hb1, Option.map_some]
  obtain ⟨r, H2, hd, hk2, rfl⟩ := validateNet hb1.netAt hsm hk1.wf
  refine ⟨_, _, hd, ?_⟩
  have hb2 := hb1.kept hk1.wf hk2
  have hk12 := hk1.trans hk2
  by_cases hE : netErr N = 0
  case neg => simp only [↓Sh.dn, sx, Nat.reduceBEq, reduceCtorEq, Nat.reduceEqDiff, hE, decide_false, hres, accErr, if_true, hk12]
  simp only [↓Sh.dn, sx, Nat.reduceBEq, reduceCtorEq, Nat.reduceEqDiff, hE, decide_true, hb2.c0, hb2.c1, hb2.c2, hb2.c3, hb2.ca, netLenS hb2, netLenA hb2, netLenE hb2]
  have e1 : unlike N = true → accErr N = 6 := by intro h; simp [accErr, hE, h]
  refine wp_for N.arcs.length 4 (List.range' 4 26 ++ [2]) (fun i F H' => H' = H2 ∧ (N.arcs.take i).any (fun a => !decide (a.inn = a.out)) = false) (by simp only [↓Sh.dn, sx, Nat.reduceBEq, reduceCtorEq, Nat.reduceEqDiff]) ⟨rfl, rfl⟩ ?_ ?_
  · rintro i F H' hlt hF f4 ⟨rfl, hall⟩ k
    have f1 := hF 1 rfl
    simp only [↓Sh.dn, sx, Nat.reduceBEq, reduceCtorEq, Nat.reduceEqDiff] at f1
    obtain ⟨g, o, kk, hia, hc, hcc⟩ := hb2.har.at Tryz.underlying23 size_54 (i := i) (x := N.arcs[i].cells) (by simp [hlt]) .i64
    have q1 := hcc 1 _ rfl
    have q2 := hcc 2 _ rfl
    simp only [↓Sh.dn, sx, Nat.reduceBEq, reduceCtorEq, Nat.reduceEqDiff, hb2.c0, hb2.c1, hb2.c2, hb2.c3, hb2.ca, netLenS hb2, netLenA hb2, netLenE hb2, f1, f4, nat_lt, hlt, decide_true, hia, q1, q2]
    by_cases hx : N.arcs[i].inn = N.arcs[i].out
    · simp only [↓Sh.dn, sx, Nat.reduceBEq, reduceCtorEq, Nat.reduceEqDiff, hx, decide_true, f4, wrap_succ hlt hsm.ar]
      refine k _ _ (by repeat (first | refine Same.put ?_ rfl | exact Same.rfl' _)) (by simp only [↓Sh.dn, sx, Nat.reduceBEq, reduceCtorEq, Nat.reduceEqDiff]) ⟨rfl, ?_⟩
      rw [List.take_add_one, List.getElem?_eq_getElem hlt]
      simp only [Option.toList, List.any_append, hall, List.any_cons, List.any_nil, hx, decide_true, Bool.not_true, Bool.or_false]
    · simp only [↓Sh.dn, sx, Nat.reduceBEq, reduceCtorEq, Nat.reduceEqDiff, hx, decide_false, hres, e1 (List.any_eq_true.2 ⟨_, List.getElem_mem hlt, by simp [hx]⟩), hk12]
  · rintro F H' hF f4 ⟨rfl, hall⟩
    have f1 := hF 1 rfl
    simp only [↓Sh.dn, sx, Nat.reduceBEq, reduceCtorEq, Nat.reduceEqDiff] at f1
    rw [List.take_length] at hall
    simp only [↓Sh.dn, sx, Nat.reduceBEq, reduceCtorEq, Nat.reduceEqDiff, hb2.c0, hb2.c1, hb2.c2, hb2.c3, hb2.ca, netLenS hb2, netLenA hb2, netLenE hb2, f1, f4, nat_lt, Nat.lt_irrefl, decide_false, Option.map_some]
    obtain ⟨r, H3, hd3, rfl, hk3⟩ := isFree hb2.netAt hk12.wf hsm.ar hsm.en
    refine ⟨_, _, hd3, ?_⟩
    cases hf : NetD.free N with
    | true => simp only [↓Sh.dn, sx, Nat.reduceBEq, reduceCtorEq, Nat.reduceEqDiff, hres, accErr, hE, unlike, hall, hf, if_true, if_false, hk12.trans hk3, Bool.false_eq_true]
    | false => simp only [↓Sh.dn, sx, Nat.reduceBEq, reduceCtorEq, Nat.reduceEqDiff, hres, accErr, hE, unlike, hall, hf, if_true, if_false, hk12.trans hk3, Bool.false_eq_true]
end Go.Proofs.YtfcmpclbhnjkgaaGreat
/- What a net is with which nothing is wrong. -/
set_option maxHeartbeats 4000000
set_option maxRecDepth 20000
set_option linter.unusedSimpArgs false
set_option linter.unusedVariables false
namespace Go.Proofs.YtfcmpclbhnjkgaaGreat
open Go Go.Proofs Go.Proofs.Sh
structure NetOk (N : NetD) : Prop where
  st1 : 1 ≤ N.states
  st2 : N.states ≤ 3000
  ar : N.arcs.length ≤ 60000
  en : N.ends.length ≤ 60000
  sig : sigErr N.sigma = 0
  asc : Asc N.sigma
  sym : ∀ x ∈ N.sigma, symOk x = true
  arc : ∀ a ∈ N.arcs, 0 ≤ a.fr ∧ a.fr < N.states ∧ 0 ≤ a.to ∧ a.to < N.states ∧ (a.inn = ⟨#[]⟩ ∨ a.inn ∈ N.sigma) ∧ (a.out = ⟨#[]⟩ ∨ a.out ∈ N.sigma)
  fin : ∀ e ∈ N.ends, 0 ≤ e.state ∧ e.state < N.states
theorem netOk {N : NetD} (h : netErr N = 0) : NetOk N := by
  unfold netErr at h
  split at h
  · cases h
  rename_i h1
  split at h
  · rename_i h2; exact absurd h h2
  rename_i h2
  split at h
  · cases h
  rename_i h3
  split at h
  · cases h
  rename_i h4
  split at h
  · cases h
  rename_i h5
  simp only [ne_eq, Decidable.not_not] at h2
  simp only [tooLarge, Bool.or_eq_true, decide_eq_true_eq, not_or, Int.not_lt, Nat.not_lt] at h1 h3
  have sy : ∀ x, badSym N x = false → x = ⟨#[]⟩ ∨ x ∈ N.sigma := by
    intro x hx
    simp only [badSym, Bool.and_eq_false_iff, Bool.not_eq_false', decide_eq_true_eq] at hx
    rcases hx with h | h
    · exact .inl h
    · exact .inr (strIn_iff.1 h)
  have hsym : ∀ x ∈ N.sigma, symOk x = true := by
    have := h2
    unfold sigErr at this
    split at this
    · cases this
    split at this
    · rename_i h6
      rw [Bool.and_eq_true] at h6
      exact List.all_eq_true.1 h6.1
    · cases this
  refine ⟨h3, h1.1.1, h1.1.2, h1.2, h2, sigErr_asc h2, hsym, fun a ha => ?_, fun e he => ?_⟩
  · have : ¬(badArc N a = true) := fun hb => h4 (List.any_eq_true.2 ⟨a, ha, hb⟩)
    simp only [badArc, Bool.or_eq_true, decide_eq_true_eq, not_or, Int.not_lt, Int.not_le, Bool.not_eq_true] at this
    obtain ⟨⟨⟨⟨⟨k1, k2⟩, k3⟩, k4⟩, k5⟩, k6⟩ := this
    exact ⟨k1, k2, k3, k4, sy _ k5, sy _ k6⟩
  · have : ¬(badEnd N e = true) := fun hb => h5 (List.any_eq_true.2 ⟨e, he, hb⟩)
    simp only [badEnd, Bool.or_eq_true, decide_eq_true_eq, not_or, Int.not_lt, Int.not_le] at this
    exact this
end Go.Proofs.YtfcmpclbhnjkgaaGreat
/- cmp.Less, where nothing is no number. -/
set_option maxHeartbeats 4000000
set_option maxRecDepth 20000
set_option linter.unusedSimpArgs false
set_option linter.unusedVariables false
namespace Go.Proofs.YtfcmpclbhnjkgaaGreat
open Go Go.Proofs Go.Proofs.Sh
theorem cmpIsNaNStr {H : AH} {x : ByteArray} : Sh.Call Tryz.prog (knows 10) 139 [Value.string x] H (fun r H' => H' = H ∧ r = .bool false) := by
  refine call_of rfl Tryz.func139 rfl (Nat.le_of_ble_eq_true rfl) ?_
  have hres : Tryz.f139.results.toList = [.tmp 2] := rfl
  simp only [↓Sh.dn, sx, Nat.reduceBEq, reduceCtorEq, Nat.reduceEqDiff, hres, decide_true, Bool.not_true, and_self]
theorem cmpLessStr {H : AH} {x y : ByteArray} : Sh.Call Tryz.prog (knows 10) 133 [Value.string x, Value.string y] H (fun r H' => H' = H ∧ r = .bool (strLt x y)) := by
  refine call_of rfl Tryz.func133 rfl (Nat.le_of_ble_eq_true rfl) ?_
  have hres : Tryz.f133.results.toList = [.tmp 4] := rfl
  obtain ⟨r, H1, hd, rfl, rfl⟩ := cmpIsNaNStr (H := H) (x := x)
  simp only [↓Sh.dn, sx, Nat.reduceBEq, reduceCtorEq, Nat.reduceEqDiff]
  refine ⟨_, _, hd, ?_⟩
  simp only [↓Sh.dn, sx, Nat.reduceBEq, reduceCtorEq, Nat.reduceEqDiff, hres, and_self]
  try rfl
/-! ### Lists in rows -/
section
variable {H : AH} {g k n m cap i : Nat} {l : List ByteArray}
end
end Go.Proofs.YtfcmpclbhnjkgaaGreat
/- slices.BinarySearch of an ascending list of texts. -/
set_option maxHeartbeats 4000000
set_option maxRecDepth 20000
set_option linter.unusedSimpArgs false
set_option linter.unusedVariables false
set_option pp.deepTerms.threshold 8
namespace Go.Proofs.YtfcmpclbhnjkgaaGreat
open Go Go.Proofs Go.Proofs.Sh
theorem isNaNStr {H : AH} {x : ByteArray} : Sh.Call Tryz.prog (knows 10) 134 [.string x] H (fun r H' => H' = H ∧ r = .bool false) := by
  refine call_of rfl Tryz.func134 rfl (Nat.le_of_ble_eq_true rfl) ?_
  have hres : Tryz.f134.results.toList = [.tmp 2] := rfl
  simp only [↓Sh.dn, sx, Nat.reduceBEq, reduceCtorEq, Nat.reduceEqDiff, hres, decide_true, Bool.not_true, and_self]
theorem binarySearch {H : AH} {v : Value} {x : ByteArray} {l : List ByteArray} (hs : Sl H v 1 (l.map strCell)) (ha : Asc l) (hl : l.length ≤ 1048576) :
    Sh.Call Tryz.prog (knows 10) 117 [v, .string x] H (fun r H' => H' = H ∧ ∃ k : Nat, r = .tuple #[.int .i64 (k : Int), .bool (strIn l x)] ∧ k ≤ l.length ∧ (l[k]? = some x ↔ x ∈ l)) := by
  refine call_of rfl Tryz.func117 rfl (Nat.le_of_ble_eq_true rfl) ?_
  have hres : Tryz.f117.results.toList = [.tmp 4, .tmp 5] := rfl
  have hlen := hs.len Tryz.underlying22 H
  simp only [↓Sh.dn, sx, Nat.reduceBEq, reduceCtorEq, Nat.reduceEqDiff, hlen, List.length_map]
  refine wp_while (fun m F H' => H' = H ∧ ∃ a b : Nat, m = b - a ∧ a ≤ b ∧ b ≤ l.length ∧ F.get 7 = some (.int .i64 (a : Int)) ∧ F.get 8 = some (.int .i64 (b : Int)) ∧ F.get 0 = some v ∧ F.get 1 = some (.string x) ∧ F.get 6 = some (.int .i64 (l.length : Int)) ∧
    (∀ (i : Nat) y, i < a → l[i]? = some y → strLt y x = true) ∧ (∀ (i : Nat) y, b ≤ i → l[i]? = some y → strLt y x = false)) (m := l.length)
    ⟨rfl, 0, l.length, by omega, by omega, by omega, by simp only [↓Sh.dn, sx, Nat.reduceBEq, reduceCtorEq, Nat.reduceEqDiff]; rfl, by simp only [↓Sh.dn, sx, Nat.reduceBEq, reduceCtorEq, Nat.reduceEqDiff], by simp only [↓Sh.dn, sx, Nat.reduceBEq, reduceCtorEq, Nat.reduceEqDiff], by simp only [↓Sh.dn, sx, Nat.reduceBEq, reduceCtorEq, Nat.reduceEqDiff], by simp only [↓Sh.dn, sx, Nat.reduceBEq, reduceCtorEq, Nat.reduceEqDiff], fun i y h => by omega, fun i y h1 h2 => by have := (List.getElem?_eq_some_iff.1 h2).1; omega⟩ ?_
  rintro m F H' ⟨rfl, a, b, rfl, hab, hbn, f7, f8, f0, f1, f6, hlo, hhi⟩ k
  by_cases hlt : a < b
  · have hm : (a + b) / 2 < l.length := by omega
    have hw2 : IntKind.wrap .i64 (((a + b) / 2 : Nat) : Int) = (((a + b) / 2 : Nat) : Int) := wrap64 (by omega) (by omega)
    obtain ⟨g, o, kk, hia, hc, hcc⟩ := hs.at Tryz.underlying22 size_9 (i := (a + b) / 2) (x := strCell l[(a + b) / 2]) (by simp [hm]) .i64
    have hy := hcc 0 _ rfl
    simp only [Nat.add_zero] at hy
    obtain ⟨r, H1, hd, rfl, rfl⟩ := cmpLessStr (H := H') (x := l[(a + b) / 2]) (y := x)
    have hget : l[(a + b) / 2]? = some l[(a + b) / 2] := List.getElem?_eq_getElem hm
    simp only [↓Sh.dn, sx, Nat.reduceBEq, reduceCtorEq, Nat.reduceEqDiff, f0, f1, f6, f7, f8, nat_lt, hlt, decide_true, b_shr, half a b (by omega), hw2, hia, hy, forall_const, reduceCtorEq, false_implies, and_true, true_and]
    refine ⟨_, _, hd, ?_⟩
    cases hpv : strLt l[(a + b) / 2] x with
    | true =>
      have hw3 : IntKind.wrap .i64 ((((a + b) / 2 : Nat) : Int) + 1) = (((a + b) / 2 + 1 : Nat) : Int) := wrap_succ (n := l.length) (by omega) hl
      simp only [↓Sh.dn, sx, Nat.reduceBEq, reduceCtorEq, Nat.reduceEqDiff, forall_const, reduceCtorEq, false_implies, and_true, true_and, hw3]
      refine k (b - ((a + b) / 2 + 1)) _ _ (by omega) ⟨rfl, (a + b) / 2 + 1, b, rfl, by omega, hbn, by simp only [↓Sh.dn, sx, Nat.reduceBEq, reduceCtorEq, Nat.reduceEqDiff], by simp only [↓Sh.dn, sx, Nat.reduceBEq, reduceCtorEq, Nat.reduceEqDiff, f8], by simp only [↓Sh.dn, sx, Nat.reduceBEq, reduceCtorEq, Nat.reduceEqDiff, f0], by simp only [↓Sh.dn, sx, Nat.reduceBEq, reduceCtorEq, Nat.reduceEqDiff, f1], by simp only [↓Sh.dn, sx, Nat.reduceBEq, reduceCtorEq, Nat.reduceEqDiff, f6], fun i y hi hy => ?_, hhi⟩
      by_cases he : i = (a + b) / 2
      · subst he; rw [hget] at hy; rw [← Option.some.inj hy]; exact hpv
      · exact strLt_trans (ha _ _ _ _ (by omega) hy hget) hpv
    | false =>
      simp only [↓Sh.dn, sx, Nat.reduceBEq, reduceCtorEq, Nat.reduceEqDiff, forall_const, reduceCtorEq, false_implies, and_true, true_and]
      refine k ((a + b) / 2 - a) _ _ (by omega) ⟨rfl, a, (a + b) / 2, rfl, by omega, by omega, by simp only [↓Sh.dn, sx, Nat.reduceBEq, reduceCtorEq, Nat.reduceEqDiff, f7], by simp only [↓Sh.dn, sx, Nat.reduceBEq, reduceCtorEq, Nat.reduceEqDiff], by simp only [↓Sh.dn, sx, Nat.reduceBEq, reduceCtorEq, Nat.reduceEqDiff, f0], by simp only [↓Sh.dn, sx, Nat.reduceBEq, reduceCtorEq, Nat.reduceEqDiff, f1], by simp only [↓Sh.dn, sx, Nat.reduceBEq, reduceCtorEq, Nat.reduceEqDiff, f6], hlo, fun i y h1 hy => ?_⟩
      by_cases he : i = (a + b) / 2
      · subst he; rw [hget] at hy; rw [← Option.some.inj hy]; exact hpv
      · cases hlt2 : strLt y x with
        | false => rfl
        | true => rw [strLt_trans (ha _ _ _ _ (by omega) hget hy) hlt2] at hpv; cases hpv
  · have hab' : a = b := by omega
    subst hab'
    have hp := asc_place ha x hlo hhi
    by_cases hla : a < l.length
    · obtain ⟨g, o, kk, hia, hc, hcc⟩ := hs.at Tryz.underlying22 size_9 (i := a) (x := strCell l[a]) (by simp [hla]) .i64
      have hy := hcc 0 _ rfl
      simp only [Nat.add_zero] at hy
      have hget : l[a]? = some l[a] := List.getElem?_eq_getElem hla
      by_cases hex : l[a] = x
      · have hin : strIn l x = true := strIn_iff.2 (hp.1 (by rw [hget, hex]))
        simp only [↓Sh.dn, sx, Nat.reduceBEq, reduceCtorEq, Nat.reduceEqDiff, f0, f1, f6, f7, f8, nat_lt, hlt, hla, hia, hy, hex, decide_true, decide_false, hres, hin, forall_const, reduceCtorEq, false_implies, and_true, true_and]
        exact ⟨a, rfl, hbn, hp⟩
      · have hin : strIn l x = false := by
          cases h : strIn l x with
          | false => rfl
          | true => have := hp.2 (strIn_iff.1 h); rw [hget] at this; exact absurd (Option.some.inj this) hex
        obtain ⟨r, H1, hd, rfl, rfl⟩ := isNaNStr (H := H') (x := l[a])
        simp only [↓Sh.dn, sx, Nat.reduceBEq, reduceCtorEq, Nat.reduceEqDiff, f0, f1, f6, f7, f8, nat_lt, hlt, hla, hia, hy, hex, decide_true, decide_false, hres, hin, forall_const, reduceCtorEq, false_implies, and_true, true_and]
        refine ⟨_, _, hd, ?_⟩
        simp only [↓Sh.dn, sx, Nat.reduceBEq, reduceCtorEq, Nat.reduceEqDiff, f7, forall_const, reduceCtorEq, false_implies, and_true, true_and, hres]
        exact ⟨a, rfl, hbn, hp⟩
    · have hin : strIn l x = false := by
        cases h : strIn l x with
        | false => rfl
        | true => have := hp.2 (strIn_iff.1 h); rw [List.getElem?_eq_none (by omega)] at this; cases this
      simp only [↓Sh.dn, sx, Nat.reduceBEq, reduceCtorEq, Nat.reduceEqDiff, f0, f1, f6, f7, f8, nat_lt, hlt, hla, decide_true, decide_false, hres, hin, forall_const, reduceCtorEq, false_implies, and_true, true_and]
      exact ⟨a, rfl, hbn, hp⟩
end Go.Proofs.YtfcmpclbhnjkgaaGreat
/- The number of a symbol; a word as numbers. -/
set_option maxHeartbeats 4000000
set_option maxRecDepth 20000
set_option linter.unusedSimpArgs false
set_option linter.unusedVariables false
set_option pp.deepTerms.threshold 8
namespace Go.Proofs.YtfcmpclbhnjkgaaGreat
open Go Go.Proofs Go.Proofs.Sh
theorem place {H : AH} {v : Value} {x : ByteArray} {l : List ByteArray} (hs : Sl H v 1 (l.map strCell)) (ha : Asc l) (hl : l.length ≤ 1048576) :
    Sh.Call Tryz.prog (knows 10) 81 [v, .string x] H (fun r H' => H' = H ∧ r = .int .i64 (symIx l x)) := by
  refine call_of rfl Tryz.func81 rfl (Nat.le_of_ble_eq_true rfl) ?_
  have hres : Tryz.f81.results.toList = [.tmp 4] := rfl
  obtain ⟨r, H1, hd, rfl, k, rfl, _, hk⟩ := binarySearch (x := x) hs ha hl
  simp only [↓Sh.dn, sx, Nat.reduceBEq, reduceCtorEq, Nat.reduceEqDiff]
  refine ⟨_, _, hd, ?_⟩
  cases hin : strIn l x with
  | true =>
    have := symIx_some ha (hk.2 (strIn_iff.1 hin))
    simp only [↓Sh.dn, sx, Nat.reduceBEq, reduceCtorEq, Nat.reduceEqDiff, hres, this]
  | false =>
    have := symIx_none (l := l) (x := x) (fun h => by rw [strIn_iff.2 h] at hin; cases hin)
    simp only [↓Sh.dn, sx, Nat.reduceBEq, reduceCtorEq, Nat.reduceEqDiff, hres, this]
theorem symIx_neg {l : List ByteArray} {x : ByteArray} (ha : Asc l) : decide (symIx l x < 0) = !strIn l x := by
  cases hin : strIn l x with
  | true =>
    obtain ⟨k, hk⟩ := List.mem_iff_getElem?.1 (strIn_iff.1 hin)
    rw [symIx_some ha hk]; simp
  | false =>
    rw [symIx_none (fun h => by rw [strIn_iff.2 h] at hin; cases hin)]; rfl
end Go.Proofs.YtfcmpclbhnjkgaaGreat
/- graph.Of: the graph of a net. -/
set_option maxHeartbeats 4000000
set_option maxRecDepth 20000
set_option linter.unusedSimpArgs false
set_option linter.unusedVariables false
set_option pp.deepTerms.threshold 8
namespace Go.Proofs.YtfcmpclbhnjkgaaGreat
open Go Go.Proofs Go.Proofs.Sh
theorem graphOf {H : AH} {v : Value} {N : NetD} (h : NetAt H v N) (hok : NetOk N) (hsm : NetSmall N) (hw : Wf H) :
    Sh.Call Tryz.prog (knows 10) 37 [v] H (fun r H' => Kept H H' ∧ ∃ g, r = .pointer (some ⟨g, 0, some 0⟩) ∧ ∃ base, H.next ≤ base ∧ Gr H' base g N.sigma (grRows N N.arcs) (grEnds N N.ends) (grCosts N N.ends)) := by
  refine call_of rfl Tryz.func37 rfl (Nat.le_of_ble_eq_true rfl) ?_
  have hres : Tryz.f37.results.toList = [.tmp 2] := rfl
  obtain ⟨sg, ar, en, rfl, hsg, har, hen⟩ := h
  have hb1 := NetBox.of (N := N) hw hsg har hen
  have hk1 : Kept H (H.new 4 [sg, .int .i64 N.states, ar, en]).2 := Kept.new hw 4 _
  have h1 := hok.st1
  have h2 := hok.st2
  obtain ⟨n, hn⟩ : ∃ n : Nat, N.states = (n : Int) := ⟨N.states.toNat, by omega⟩
  have hnn : N.states.toNat = n := by omega
  simp only [↓Sh.dn, sx, Nat.reduceBEq, reduceCtorEq, Nat.reduceEqDiff, netNew hsg.isCell har.isCell hen.isCell]
  have hnx : H.next < (H.new 4 [sg, .int .i64 N.states, ar, en]).2.next := Nat.lt_succ_self _
  generalize H.next = gg at hb1 hnx ⊢
  generalize (H.new 4 [sg, .int .i64 N.states, ar, en]).2 = H1 at hb1 hk1 hnx ⊢
  obtain ⟨r, H2, hd2, hk2, g, rfl, hgr⟩ := graphNew (n := n) hb1.hsg (by simpa using hsm.sg) (by omega) hk1.wf
  simp only [↓Sh.dn, sx, Nat.reduceBEq, reduceCtorEq, Nat.reduceEqDiff, hb1.c0, hb1.c1, hb1.c2, hb1.c3, hb1.ca, netLenS hb1, netLenA hb1, netLenE hb1, Option.map_some, hn]
  refine ⟨_, _, hd2, ?_⟩
  have hb2 := hb1.kept hk1.wf hk2
  simp only [↓Sh.dn, sx, Nat.reduceBEq, reduceCtorEq, Nat.reduceEqDiff, hb2.c0, hb2.c1, hb2.c2, hb2.c3, hb2.ca, netLenS hb2, netLenA hb2, netLenE hb2, Option.map_some]
  have hz : ∀ f : List Int → Int, f [] = 0 → (rowsOf EndD.state EndD.cost N.states.toNat []).map f = List.replicate n 0 := by
    intro f hf
    rw [rowsOf_none, hnn, List.map_replicate, hf]
  refine wp_for N.arcs.length 16 (List.range' 16 37 ++ [5]) (fun i F H' => Kept H1 H' ∧ Gr H' H1.next g N.sigma (grRows N (N.arcs.take i)) (grEnds N []) (grCosts N [])) (by simp only [↓Sh.dn, sx, Nat.reduceBEq, reduceCtorEq, Nat.reduceEqDiff]) ⟨hk2, by
    rw [List.take_zero]; unfold grRows grEnds grCosts; rw [rowsOf_none, hz _ rfl, hz _ rfl, hnn]; exact hgr⟩ ?_ ?_
  · rintro i F H' hlt hF f16 ⟨hk, hg⟩ k
    have f1 := hF 1 rfl
    have f3 := hF 3 rfl
    have f14 := hF 14 rfl
    have f15 := hF 15 rfl
    simp only [↓Sh.dn, sx, Nat.reduceBEq, reduceCtorEq, Nat.reduceEqDiff] at f1 f3 f14 f15
    have hb' := hb1.kept hk1.wf hk
    obtain ⟨q, o, kk, hia, hc, hcc⟩ := hb'.har.at Tryz.underlying23 size_54 (i := i) (x := N.arcs[i].cells) (by simp [hlt]) .i64
    clear hcc
    have htake : N.arcs.take (i + 1) = N.arcs.take i ++ [N.arcs[i]] := by rw [List.take_add_one, List.getElem?_eq_getElem hlt]; rfl
    obtain ⟨k0, k1, k2, k3, k4, k5⟩ := hok.arc _ (List.getElem_mem hlt)
    have hb3 := hb'.new hk.wf 5 (N.arcs[i].cells)
    have hk3 := hk.news 5 (N.arcs[i].cells)
    generalize N.arcs[i] = a at hb3 hk3 hc htake k0 k1 k2 k3 k4 k5
    obtain ⟨s, hs⟩ : ∃ s : Nat, a.fr = (s : Int) := ⟨a.fr.toNat, by omega⟩
    have hsn : s < N.states.toNat := by omega
    obtain ⟨r1, K1, hd1, rfl, rfl⟩ := place (x := a.inn) hb3.hsg hok.asc hsm.sg
    obtain ⟨r2, K2, hd2, rfl, rfl⟩ := place (x := a.out) hb3.hsg hok.asc hsm.sg
    have hrow := rowsOf_get (key := ArcD.fr) (f := edgeC N.sigma) (l := N.arcs.take i) hsn
    have hrl := rowsOf_le hrow
    have hsmA := hsm.ar
    have htl : (N.arcs.take i).length ≤ 1048576 := by rw [List.length_take]; omega
    obtain ⟨sv, av, ev, cv, os, ot, oe, oc, vals, obs, hG0⟩ := hg
    have hG := hG0.chg hk.wf ((Kept.new hk.wf 5 a.cells).chg (X := none')) fun _ _ h => h
    have hnj : ¬JIn ot obs H'.next := fun h => by have := hG0.jag.lt hk.wf _ h; omega
    have hn := hG.arr.cell 1
    obtain ⟨ba, cap, w', H4, H5, o', p, e1, e2, e3, e4, e5, e6, e7, e8, e9⟩ := hG.jag.pushAt Tryz.underlying73 size_94 hk3.wf hrow (x := edgeC N.sigma a) rfl
    rw [← hs] at e2
    have bl := bld_96 (v0 := .int .i64 a.to) (v1 := .int .i64 (symIx N.sigma a.inn)) (v2 := .int .i64 (symIx N.sigma a.out)) (v3 := .int .i64 a.cost) rfl rfl rfl rfl
    have hbs := build1_94 (H := (H'.new 5 a.cells).2) (x := .agg (edgeC N.sigma a).toArray) rfl rfl
    have ha := app1_94 (H := (H'.new 5 a.cells).2) (base := ba) (len := _) (cap := cap) (x := edgeC N.sigma a) rfl (Nat.le_trans hrl (by omega))
    rw [e1] at ha
    have hn4 := (hG.arr.keep (e7.old g (hG.arr.lt hk3.wf) hG.gj)).cell 1
    have c4 := ((Obj.new (H := H') 5 a.cells).arr.keep (e7.old H'.next (Nat.lt_succ_self _) hnj)).cell 0
    have c4' : (a.cells)[0]? = some (.int .i64 a.fr) := rfl
    rw [c4'] at c4
    have st : astore Tryz.prog 94 H4 w' (.pointer (some p)) = some H5 := by rw [store_cell size_94 e8, e4]
    have va : ∀ xs : Array Value, vcells (.agg xs) = xs.toList := fun _ => rfl
    have hav := hG.jag.top.veq
    simp only [va] at hbs
    obtain ⟨z1, z2⟩ := GrB.arced hG hk3.wf e6 e5 e9
    simp only [↓Sh.dn, sx, Nat.reduceBEq, reduceCtorEq, Nat.reduceEqDiff, hb'.c0, hb'.c1, hb'.c2, hb'.c3, hb'.ca, netLenS hb', netLenA hb', netLenE hb', netZero, arcZero, endZero, arcNew, endNew, arcStore, endStore, arcOver, endOver, netOver, arc0, arc1, arc2, arc3, arc4, end0, end1, f1, f3, f14, f15, f16, Option.map_some, nat_lt, hlt, decide_true, hia, hc]
    refine wp_pend (fl := [(0, []), (1, []), (2, []), (3, []), (4, []), (5, []), (6, []), (7, []), (8, []), (9, []), (10, []), (11, []), (12, []), (13, []), (14, []), (15, []), (16, []), (17, []), (18, []), (19, []), (21, []), (22, []), (23, []), (24, []), (26, []), (27, []), (20, [27, 24, 22, 15, 13, 11, 9, 5, 3]), (25, [27, 15, 13, 11, 9, 5, 3]), (28, []), (29, []), (30, [5, 3]), (31, []), (32, [])]) (by kernel_rfl) (by kernel_rfl) (by kernel_rfl) ?_
    simp only [↓Sh.dn, sx, Nat.reduceBEq, reduceCtorEq, Nat.reduceEqDiff, wpr, again, isMake, veq_ptr, veq_int, veq_str, veq_bool, veq_undef, veq_slice, forall_eq, forall_eq', hb3.c0, hb3.c1, hb3.c2, hb3.c3, hb3.ca, netLenS hb3, netLenA hb3, netLenE hb3, netZero, arcZero, endZero, arcNew, endNew, arcStore, endStore, arcOver, endOver, netOver, arc0, arc1, arc2, arc3, arc4, end0, end1, f1, f3, hn, e2, e3, Option.map_some]
    refine ⟨_, _, hd1, ?_⟩
    simp only [↓Sh.dn, sx, Nat.reduceBEq, reduceCtorEq, Nat.reduceEqDiff, wpr, again, isMake, veq_ptr, veq_int, veq_str, veq_bool, veq_undef, veq_slice, forall_eq, forall_eq', hb3.c0, hb3.c1, hb3.c2, hb3.c3, hb3.ca, netLenS hb3, netLenA hb3, netLenE hb3, netZero, arcZero, endZero, arcNew, endNew, arcStore, endStore, arcOver, endOver, netOver, arc0, arc1, arc2, arc3, arc4, end0, end1, f1, f3, hn, e2, e3, Option.map_some, hav, hsg.veq]
    refine ⟨_, _, hd2, ?_⟩
    have bl' : abuild Tryz.prog 96 [(0, .int .i64 a.to), (1, .int .i64 (symIx N.sigma a.inn)), (2, .int .i64 (symIx N.sigma a.out)), (3, .int .i64 a.cost)] = some (.agg (edgeC N.sigma a).toArray) := bl
    simp only [↓Sh.dn, sx, Nat.reduceBEq, reduceCtorEq, Nat.reduceEqDiff, wpr, again, isMake, veq_ptr, veq_int, veq_str, veq_bool, veq_undef, veq_slice, forall_eq, forall_eq', hb3.c0, hb3.c1, hb3.c2, hb3.c3, hb3.ca, netLenS hb3, netLenA hb3, netLenE hb3, netZero, arcZero, endZero, arcNew, endNew, arcStore, endStore, arcOver, endOver, netOver, arc0, arc1, arc2, arc3, arc4, end0, end1, f1, f3, hn, e2, e3, Option.map_some, hav, hsg.veq, bl', hbs, ha, hn4, st, c4, f16, wrap_succ hlt hsm.ar]
    refine k _ _ (by repeat (first | refine Same.put ?_ rfl | exact Same.rfl' _)) (by simp only [↓Sh.dn, sx, Nat.reduceBEq, reduceCtorEq, Nat.reduceEqDiff]) ⟨hk3.then (Nat.le_refl _) z1, ?_⟩
    rw [htake]
    unfold grRows
    rw [rowsOf_snoc hsn hs]
    exact z2
  · rintro F H' hF f16 ⟨hk, hg⟩
    have f1 := hF 1 rfl
    have f3 := hF 3 rfl
    have f15 := hF 15 rfl
    simp only [↓Sh.dn, sx, Nat.reduceBEq, reduceCtorEq, Nat.reduceEqDiff] at f1 f3 f15
    rw [List.take_length] at hg
    have hb' := hb1.kept hk1.wf hk
    simp only [↓Sh.dn, sx, Nat.reduceBEq, reduceCtorEq, Nat.reduceEqDiff, hb'.c0, hb'.c1, hb'.c2, hb'.c3, hb'.ca, netLenS hb', netLenA hb', netLenE hb', f1, f3, f15, f16, nat_lt, Nat.lt_irrefl, decide_false, Option.map_some]
    refine wp_for N.ends.length 56 (List.range' 56 11 ++ [7]) (fun i F H' => Kept H1 H' ∧ Gr H' H1.next g N.sigma (grRows N N.arcs) (grEnds N (N.ends.take i)) (grCosts N (N.ends.take i))) (by simp only [↓Sh.dn, sx, Nat.reduceBEq, reduceCtorEq, Nat.reduceEqDiff]) ⟨hk, hg⟩ ?_ ?_
    · rintro i F' H' hlt hF' f56 ⟨hk, hg⟩ k
      have g1 := hF' 1 rfl
      have g3 := hF' 3 rfl
      have f54 := hF' 54 rfl
      have f55 := hF' 55 rfl
      simp only [↓Sh.dn, sx, Nat.reduceBEq, reduceCtorEq, Nat.reduceEqDiff, f1, f3] at g1 g3 f54 f55
      have hb' := hb1.kept hk1.wf hk
      obtain ⟨q, o, kk, hia, hc, hcc⟩ := hb'.hen.at Tryz.underlying24 size_56 (i := i) (x := N.ends[i].cells) (by simp [hlt]) .i64
      clear hcc
      have htake : N.ends.take (i + 1) = N.ends.take i ++ [N.ends[i]] := by rw [List.take_add_one, List.getElem?_eq_getElem hlt]; rfl
      obtain ⟨k0, k1⟩ := hok.fin _ (List.getElem_mem hlt)
      have hk3 := hk.news 2 (N.ends[i].cells)
      have hg3 := hg.kept hk.wf (Kept.new hk.wf 2 (N.ends[i].cells))
      generalize N.ends[i] = e at hk3 hg3 hc htake k0 k1
      obtain ⟨s, hs⟩ : ∃ s : Nat, e.state = (s : Int) := ⟨e.state.toNat, by omega⟩
      have hsn : s < N.states.toNat := by omega
      have hrow := rowsOf_get (key := EndD.state) (f := EndD.cost) (l := N.ends.take i) hsn
      have hrl := rowsOf_le hrow
      have htl : (N.ends.take i).length ≤ 60000 := by rw [List.length_take]; have := hok.en; omega
      have l1 : s < (grEnds N (N.ends.take i)).length := by unfold grEnds; rw [List.length_map, rowsOf_length]; exact hsn
      have l2 : s < (grCosts N (N.ends.take i)).length := by unfold grCosts; rw [List.length_map, rowsOf_length]; exact hsn
      have v1 : (grEnds N (N.ends.take i))[s] = ((((N.ends.take i).filter fun a => decide (a.state = (s : Int))).map EndD.cost).length : Int) := by
        apply Option.some.inj
        rw [← List.getElem?_eq_getElem l1]
        unfold grEnds
        rw [List.getElem?_map, hrow]; rfl
      have v2 : (grCosts N (N.ends.take i))[s] = leastOf (((N.ends.take i).filter fun a => decide (a.state = (s : Int))).map EndD.cost) := by
        apply Option.some.inj
        rw [← List.getElem?_eq_getElem l2]
        unfold grCosts
        rw [List.getElem?_map, hrow]; rfl
      obtain ⟨r, H5, hd5, hc5, hg5⟩ := grEnd (x := e.cost) hg3 l1 l2 hk3.wf (by rw [v1]; omega) (by rw [v1]; omega)
      rw [v1, v2] at hg5
      rw [← hs] at hd5
      simp only [↓Sh.dn, sx, Nat.reduceBEq, reduceCtorEq, Nat.reduceEqDiff, hb'.c0, hb'.c1, hb'.c2, hb'.c3, hb'.ca, netLenS hb', netLenA hb', netLenE hb', netZero, arcZero, endZero, arcNew, endNew, arcStore, endStore, arcOver, endOver, netOver, arc0, arc1, arc2, arc3, arc4, end0, end1, g1, g3, f54, f55, f56, Option.map_some, nat_lt, hlt, decide_true, hia, hc]
      refine ⟨_, _, hd5, ?_⟩
      have hen := hsm.en
      simp only [↓Sh.dn, sx, Nat.reduceBEq, reduceCtorEq, Nat.reduceEqDiff, f56, wrap_succ hlt hen]
      refine k _ _ (by repeat (first | refine Same.put ?_ rfl | exact Same.rfl' _)) (by simp only [↓Sh.dn, sx, Nat.reduceBEq, reduceCtorEq, Nat.reduceEqDiff]) ⟨hk3.then (Nat.le_refl _) hc5, ?_⟩
      rw [htake]
      have e1 : grEnds N (N.ends.take i ++ [e]) = (grEnds N (N.ends.take i)).set s (((((N.ends.take i).filter fun a => decide (a.state = (s : Int))).map EndD.cost).length : Int) + 1) := by
        unfold grEnds
        rw [rowsOf_snoc hsn hs, List.map_set]
        congr 1
        rw [List.length_append]; simp
      have e2 : grCosts N (N.ends.take i ++ [e]) = (grCosts N (N.ends.take i)).set s (endCost ((((N.ends.take i).filter fun a => decide (a.state = (s : Int))).map EndD.cost).length : Int) (leastOf (((N.ends.take i).filter fun a => decide (a.state = (s : Int))).map EndD.cost)) e.cost) := by
        unfold grCosts
        rw [rowsOf_snoc hsn hs, List.map_set]
        congr 1
        rw [leastOf_snoc]
        unfold endCost
        have : ((((N.ends.take i).filter fun a => decide (a.state = (s : Int))).map EndD.cost).length : Int) = 0 ↔ ((N.ends.take i).filter fun a => decide (a.state = (s : Int))).map EndD.cost = [] := by
          rw [← List.length_eq_zero_iff]; omega
        simp only [this]
      rw [e1, e2]
      exact hg5
    · rintro F' H' hF' f56 ⟨hk, hg⟩
      have g3 := hF' 3 rfl
      have f55 := hF' 55 rfl
      simp only [↓Sh.dn, sx, Nat.reduceBEq, reduceCtorEq, Nat.reduceEqDiff, f3] at g3 f55
      rw [List.take_length] at hg
      simp only [↓Sh.dn, sx, Nat.reduceBEq, reduceCtorEq, Nat.reduceEqDiff, g3, f55, f56, nat_lt, Nat.lt_irrefl, decide_false, hres]
      exact ⟨hk1.trans hk, _, rfl, _, Nat.le_of_lt hnx, hg⟩
end Go.Proofs.YtfcmpclbhnjkgaaGreat
