/- A part of the proof: Facts, NetFacts, AnyLong, IsSymbol, AllSymbols, IsSet, RefSigma, Search, SearchAt, SearchStrings, IsIn, ValidateNet, SymsSmall, IndexFuncStr, SymsValidate, CmpLessStr, BinarySearch, GraphCheck, Priced. -/
import Derived.Test.YtbnpoiibehkjpaaProg
import Derived.Test.YtbnpoiibehkjpaaMCloseCostValidates1
import Derived.KernelRfl
set_option linter.unusedVariables false
set_option linter.unusedSimpArgs false
/- What the types of this program are, for walking. Made by program. -/
set_option linter.unusedVariables false
namespace Go.Proofs.Ytbnpoiibehkjpaa
open Go Go.Proofs Go.Proofs.Sh
theorem agg_1 : aggAt Try.prog 1 = some false := by kernel_rfl
theorem size_1 : sizeAt Try.prog 1 = some 1 := by kernel_rfl
theorem cells_1 : Try.prog.cellsOf 1 = 1 := by kernel_rfl
theorem zero_1 : zeroAt Try.prog 1 = some (.nilFunc) := by kernel_rfl
theorem ld_1 {H : AH} {a : Addr} : aload Try.prog 1 H (.pointer (some a)) = H.cell a := load_cell agg_1
theorem agg_2 : aggAt Try.prog 2 = some false := by kernel_rfl
theorem size_2 : sizeAt Try.prog 2 = some 1 := by kernel_rfl
theorem cells_2 : Try.prog.cellsOf 2 = 1 := by kernel_rfl
theorem zero_2 : zeroAt Try.prog 2 = some (.int .i64 0) := by kernel_rfl
theorem ld_2 {H : AH} {a : Addr} : aload Try.prog 2 H (.pointer (some a)) = H.cell a := load_cell agg_2
theorem agg_3 : aggAt Try.prog 3 = some false := by kernel_rfl
theorem size_3 : sizeAt Try.prog 3 = some 1 := by kernel_rfl
theorem cells_3 : Try.prog.cellsOf 3 = 1 := by kernel_rfl
theorem zero_3 : zeroAt Try.prog 3 = some (.int .i64 0) := by kernel_rfl
theorem ld_3 {H : AH} {a : Addr} : aload Try.prog 3 H (.pointer (some a)) = H.cell a := load_cell agg_3
theorem agg_4 : aggAt Try.prog 4 = some false := by kernel_rfl
theorem size_4 : sizeAt Try.prog 4 = some 1 := by kernel_rfl
theorem cells_4 : Try.prog.cellsOf 4 = 1 := by kernel_rfl
theorem zero_4 : zeroAt Try.prog 4 = some (.bool false) := by kernel_rfl
theorem ld_4 {H : AH} {a : Addr} : aload Try.prog 4 H (.pointer (some a)) = H.cell a := load_cell agg_4
theorem agg_5 : aggAt Try.prog 5 = some false := by kernel_rfl
theorem size_5 : sizeAt Try.prog 5 = some 1 := by kernel_rfl
theorem cells_5 : Try.prog.cellsOf 5 = 1 := by kernel_rfl
theorem zero_5 : zeroAt Try.prog 5 = some (.int .u8 0) := by kernel_rfl
theorem ld_5 {H : AH} {a : Addr} : aload Try.prog 5 H (.pointer (some a)) = H.cell a := load_cell agg_5
theorem agg_9 : aggAt Try.prog 9 = some false := by kernel_rfl
theorem size_9 : sizeAt Try.prog 9 = some 1 := by kernel_rfl
theorem cells_9 : Try.prog.cellsOf 9 = 1 := by kernel_rfl
theorem zero_9 : zeroAt Try.prog 9 = some (.string ⟨#[]⟩) := by kernel_rfl
theorem ld_9 {H : AH} {a : Addr} : aload Try.prog 9 H (.pointer (some a)) = H.cell a := load_cell agg_9
theorem agg_20 : aggAt Try.prog 20 = some false := by kernel_rfl
theorem size_20 : sizeAt Try.prog 20 = some 1 := by kernel_rfl
theorem cells_20 : Try.prog.cellsOf 20 = 1 := by kernel_rfl
theorem zero_20 : zeroAt Try.prog 20 = some (.nilIface) := by kernel_rfl
theorem ld_20 {H : AH} {a : Addr} : aload Try.prog 20 H (.pointer (some a)) = H.cell a := load_cell agg_20
theorem agg_22 : aggAt Try.prog 22 = some false := by kernel_rfl
theorem size_22 : sizeAt Try.prog 22 = some 1 := by kernel_rfl
theorem cells_22 : Try.prog.cellsOf 22 = 1 := by kernel_rfl
theorem zero_22 : zeroAt Try.prog 22 = some (.slice none 0 0) := by kernel_rfl
theorem ld_22 {H : AH} {a : Addr} : aload Try.prog 22 H (.pointer (some a)) = H.cell a := load_cell agg_22
theorem agg_23 : aggAt Try.prog 23 = some false := by kernel_rfl
theorem size_23 : sizeAt Try.prog 23 = some 1 := by kernel_rfl
theorem cells_23 : Try.prog.cellsOf 23 = 1 := by kernel_rfl
theorem zero_23 : zeroAt Try.prog 23 = some (.slice none 0 0) := by kernel_rfl
theorem ld_23 {H : AH} {a : Addr} : aload Try.prog 23 H (.pointer (some a)) = H.cell a := load_cell agg_23
theorem agg_24 : aggAt Try.prog 24 = some false := by kernel_rfl
theorem size_24 : sizeAt Try.prog 24 = some 1 := by kernel_rfl
theorem cells_24 : Try.prog.cellsOf 24 = 1 := by kernel_rfl
theorem zero_24 : zeroAt Try.prog 24 = some (.slice none 0 0) := by kernel_rfl
theorem ld_24 {H : AH} {a : Addr} : aload Try.prog 24 H (.pointer (some a)) = H.cell a := load_cell agg_24
theorem agg_26 : aggAt Try.prog 26 = some true := by kernel_rfl
theorem size_26 : sizeAt Try.prog 26 = some 4 := by kernel_rfl
theorem cells_26 : Try.prog.cellsOf 26 = 4 := by kernel_rfl
theorem zero_26 : zeroAt Try.prog 26 = some (.agg #[.slice none 0 0, .int .i64 0, .slice none 0 0, .slice none 0 0]) := by kernel_rfl
theorem ld_26 {H : AH} {a : Addr} : aload Try.prog 26 H (.pointer (some a)) = (H.cells a 4).map fun l => .agg l.toArray := load_agg agg_26 size_26
theorem agg_28 : aggAt Try.prog 28 = some false := by kernel_rfl
theorem size_28 : sizeAt Try.prog 28 = some 1 := by kernel_rfl
theorem cells_28 : Try.prog.cellsOf 28 = 1 := by kernel_rfl
theorem zero_28 : zeroAt Try.prog 28 = some (.int .i64 0) := by kernel_rfl
theorem ld_28 {H : AH} {a : Addr} : aload Try.prog 28 H (.pointer (some a)) = H.cell a := load_cell agg_28
theorem agg_33 : aggAt Try.prog 33 = some true := by kernel_rfl
theorem size_33 : sizeAt Try.prog 33 = some 5 := by kernel_rfl
theorem cells_33 : Try.prog.cellsOf 33 = 5 := by kernel_rfl
theorem zero_33 : zeroAt Try.prog 33 = some (.agg #[.int .i64 0, .string ⟨#[]⟩, .string ⟨#[]⟩, .int .i64 0, .int .i64 0]) := by kernel_rfl
theorem ld_33 {H : AH} {a : Addr} : aload Try.prog 33 H (.pointer (some a)) = (H.cells a 5).map fun l => .agg l.toArray := load_agg agg_33 size_33
theorem agg_35 : aggAt Try.prog 35 = some true := by kernel_rfl
theorem size_35 : sizeAt Try.prog 35 = some 2 := by kernel_rfl
theorem cells_35 : Try.prog.cellsOf 35 = 2 := by kernel_rfl
theorem zero_35 : zeroAt Try.prog 35 = some (.agg #[.int .i64 0, .int .i64 0]) := by kernel_rfl
theorem ld_35 {H : AH} {a : Addr} : aload Try.prog 35 H (.pointer (some a)) = (H.cells a 2).map fun l => .agg l.toArray := load_agg agg_35 size_35
theorem agg_43 : aggAt Try.prog 43 = some false := by kernel_rfl
theorem size_43 : sizeAt Try.prog 43 = some 1 := by kernel_rfl
theorem cells_43 : Try.prog.cellsOf 43 = 1 := by kernel_rfl
theorem zero_43 : zeroAt Try.prog 43 = some (.nilFunc) := by kernel_rfl
theorem ld_43 {H : AH} {a : Addr} : aload Try.prog 43 H (.pointer (some a)) = H.cell a := load_cell agg_43
theorem agg_45 : aggAt Try.prog 45 = some false := by kernel_rfl
theorem size_45 : sizeAt Try.prog 45 = some 1 := by kernel_rfl
theorem cells_45 : Try.prog.cellsOf 45 = 1 := by kernel_rfl
theorem zero_45 : zeroAt Try.prog 45 = some (.slice none 0 0) := by kernel_rfl
theorem ld_45 {H : AH} {a : Addr} : aload Try.prog 45 H (.pointer (some a)) = H.cell a := load_cell agg_45
theorem agg_49 : aggAt Try.prog 49 = some true := by kernel_rfl
theorem size_49 : sizeAt Try.prog 49 = some 2 := by kernel_rfl
theorem cells_49 : Try.prog.cellsOf 49 = 2 := by kernel_rfl
theorem zero_49 : zeroAt Try.prog 49 = some (.agg #[.int .i64 0, .bool false]) := by kernel_rfl
theorem ld_49 {H : AH} {a : Addr} : aload Try.prog 49 H (.pointer (some a)) = (H.cells a 2).map fun l => .agg l.toArray := load_agg agg_49 size_49
theorem agg_51 : aggAt Try.prog 51 = some false := by kernel_rfl
theorem size_51 : sizeAt Try.prog 51 = some 1 := by kernel_rfl
theorem cells_51 : Try.prog.cellsOf 51 = 1 := by kernel_rfl
theorem zero_51 : zeroAt Try.prog 51 = some (.pointer none) := by kernel_rfl
theorem ld_51 {H : AH} {a : Addr} : aload Try.prog 51 H (.pointer (some a)) = H.cell a := load_cell agg_51
theorem agg_53 : aggAt Try.prog 53 = some false := by kernel_rfl
theorem size_53 : sizeAt Try.prog 53 = some 1 := by kernel_rfl
theorem cells_53 : Try.prog.cellsOf 53 = 1 := by kernel_rfl
theorem zero_53 : zeroAt Try.prog 53 = some (.slice none 0 0) := by kernel_rfl
theorem ld_53 {H : AH} {a : Addr} : aload Try.prog 53 H (.pointer (some a)) = H.cell a := load_cell agg_53
theorem agg_57 : aggAt Try.prog 57 = some false := by kernel_rfl
theorem size_57 : sizeAt Try.prog 57 = some 1 := by kernel_rfl
theorem cells_57 : Try.prog.cellsOf 57 = 1 := by kernel_rfl
theorem zero_57 : zeroAt Try.prog 57 = some (.int .u64 0) := by kernel_rfl
theorem ld_57 {H : AH} {a : Addr} : aload Try.prog 57 H (.pointer (some a)) = H.cell a := load_cell agg_57
theorem agg_61 : aggAt Try.prog 61 = some false := by kernel_rfl
theorem size_61 : sizeAt Try.prog 61 = some 1 := by kernel_rfl
theorem cells_61 : Try.prog.cellsOf 61 = 1 := by kernel_rfl
theorem zero_61 : zeroAt Try.prog 61 = some (.slice none 0 0) := by kernel_rfl
theorem ld_61 {H : AH} {a : Addr} : aload Try.prog 61 H (.pointer (some a)) = H.cell a := load_cell agg_61
theorem agg_64 : aggAt Try.prog 64 = some false := by kernel_rfl
theorem size_64 : sizeAt Try.prog 64 = some 1 := by kernel_rfl
theorem cells_64 : Try.prog.cellsOf 64 = 1 := by kernel_rfl
theorem zero_64 : zeroAt Try.prog 64 = some (.map none) := by kernel_rfl
theorem ld_64 {H : AH} {a : Addr} : aload Try.prog 64 H (.pointer (some a)) = H.cell a := load_cell agg_64
theorem agg_65 : aggAt Try.prog 65 = some false := by kernel_rfl
theorem size_65 : sizeAt Try.prog 65 = some 1 := by kernel_rfl
theorem cells_65 : Try.prog.cellsOf 65 = 1 := by kernel_rfl
theorem zero_65 : zeroAt Try.prog 65 = some (.pointer none) := by kernel_rfl
theorem ld_65 {H : AH} {a : Addr} : aload Try.prog 65 H (.pointer (some a)) = H.cell a := load_cell agg_65
theorem agg_67 : aggAt Try.prog 67 = some false := by kernel_rfl
theorem size_67 : sizeAt Try.prog 67 = some 1 := by kernel_rfl
theorem cells_67 : Try.prog.cellsOf 67 = 1 := by kernel_rfl
theorem zero_67 : zeroAt Try.prog 67 = some (.slice none 0 0) := by kernel_rfl
theorem ld_67 {H : AH} {a : Addr} : aload Try.prog 67 H (.pointer (some a)) = H.cell a := load_cell agg_67
theorem agg_69 : aggAt Try.prog 69 = some true := by kernel_rfl
theorem size_69 : sizeAt Try.prog 69 = some 1 := by kernel_rfl
theorem cells_69 : Try.prog.cellsOf 69 = 1 := by kernel_rfl
theorem zero_69 : zeroAt Try.prog 69 = some (.agg #[.slice none 0 0]) := by kernel_rfl
theorem ld_69 {H : AH} {a : Addr} : aload Try.prog 69 H (.pointer (some a)) = (H.cells a 1).map fun l => .agg l.toArray := load_agg agg_69 size_69
theorem agg_72 : aggAt Try.prog 72 = some true := by kernel_rfl
theorem size_72 : sizeAt Try.prog 72 = some 3 := by kernel_rfl
theorem cells_72 : Try.prog.cellsOf 72 = 3 := by kernel_rfl
theorem zero_72 : zeroAt Try.prog 72 = some (.agg #[.int .i64 0, .int .i64 0, .int .i64 0]) := by kernel_rfl
theorem ld_72 {H : AH} {a : Addr} : aload Try.prog 72 H (.pointer (some a)) = (H.cells a 3).map fun l => .agg l.toArray := load_agg agg_72 size_72
theorem agg_76 : aggAt Try.prog 76 = some false := by kernel_rfl
theorem size_76 : sizeAt Try.prog 76 = some 1 := by kernel_rfl
theorem cells_76 : Try.prog.cellsOf 76 = 1 := by kernel_rfl
theorem zero_76 : zeroAt Try.prog 76 = some (.slice none 0 0) := by kernel_rfl
theorem ld_76 {H : AH} {a : Addr} : aload Try.prog 76 H (.pointer (some a)) = H.cell a := load_cell agg_76
theorem agg_78 : aggAt Try.prog 78 = some true := by kernel_rfl
theorem size_78 : sizeAt Try.prog 78 = some 4 := by kernel_rfl
theorem cells_78 : Try.prog.cellsOf 78 = 4 := by kernel_rfl
theorem zero_78 : zeroAt Try.prog 78 = some (.agg #[.slice none 0 0, .slice none 0 0, .slice none 0 0, .slice none 0 0]) := by kernel_rfl
theorem ld_78 {H : AH} {a : Addr} : aload Try.prog 78 H (.pointer (some a)) = (H.cells a 4).map fun l => .agg l.toArray := load_agg agg_78 size_78
theorem agg_79 : aggAt Try.prog 79 = some false := by kernel_rfl
theorem size_79 : sizeAt Try.prog 79 = some 1 := by kernel_rfl
theorem cells_79 : Try.prog.cellsOf 79 = 1 := by kernel_rfl
theorem zero_79 : zeroAt Try.prog 79 = some (.slice none 0 0) := by kernel_rfl
theorem ld_79 {H : AH} {a : Addr} : aload Try.prog 79 H (.pointer (some a)) = H.cell a := load_cell agg_79
theorem agg_81 : aggAt Try.prog 81 = some true := by kernel_rfl
theorem size_81 : sizeAt Try.prog 81 = some 4 := by kernel_rfl
theorem cells_81 : Try.prog.cellsOf 81 = 4 := by kernel_rfl
theorem zero_81 : zeroAt Try.prog 81 = some (.agg #[.int .i64 0, .int .i64 0, .int .i64 0, .int .i64 0]) := by kernel_rfl
theorem ld_81 {H : AH} {a : Addr} : aload Try.prog 81 H (.pointer (some a)) = (H.cells a 4).map fun l => .agg l.toArray := load_agg agg_81 size_81
theorem agg_87 : aggAt Try.prog 87 = some false := by kernel_rfl
theorem size_87 : sizeAt Try.prog 87 = some 1 := by kernel_rfl
theorem cells_87 : Try.prog.cellsOf 87 = 1 := by kernel_rfl
theorem zero_87 : zeroAt Try.prog 87 = some (.nilFunc) := by kernel_rfl
theorem ld_87 {H : AH} {a : Addr} : aload Try.prog 87 H (.pointer (some a)) = H.cell a := load_cell agg_87
theorem agg_89 : aggAt Try.prog 89 = some false := by kernel_rfl
theorem size_89 : sizeAt Try.prog 89 = some 1 := by kernel_rfl
theorem cells_89 : Try.prog.cellsOf 89 = 1 := by kernel_rfl
theorem zero_89 : zeroAt Try.prog 89 = some (.slice none 0 0) := by kernel_rfl
theorem ld_89 {H : AH} {a : Addr} : aload Try.prog 89 H (.pointer (some a)) = H.cell a := load_cell agg_89
theorem agg_94 : aggAt Try.prog 94 = some false := by kernel_rfl
theorem size_94 : sizeAt Try.prog 94 = some 1 := by kernel_rfl
theorem cells_94 : Try.prog.cellsOf 94 = 1 := by kernel_rfl
theorem zero_94 : zeroAt Try.prog 94 = some (.nilFunc) := by kernel_rfl
theorem ld_94 {H : AH} {a : Addr} : aload Try.prog 94 H (.pointer (some a)) = H.cell a := load_cell agg_94
theorem agg_96 : aggAt Try.prog 96 = some false := by kernel_rfl
theorem size_96 : sizeAt Try.prog 96 = some 1 := by kernel_rfl
theorem cells_96 : Try.prog.cellsOf 96 = 1 := by kernel_rfl
theorem zero_96 : zeroAt Try.prog 96 = some (.pointer none) := by kernel_rfl
theorem ld_96 {H : AH} {a : Addr} : aload Try.prog 96 H (.pointer (some a)) = H.cell a := load_cell agg_96
theorem agg_98 : aggAt Try.prog 98 = some true := by kernel_rfl
theorem size_98 : sizeAt Try.prog 98 = some 4 := by kernel_rfl
theorem cells_98 : Try.prog.cellsOf 98 = 4 := by kernel_rfl
theorem zero_98 : zeroAt Try.prog 98 = some (.agg #[.int .i64 0, .int .i64 0, .int .i64 0, .int .i64 0]) := by kernel_rfl
theorem ld_98 {H : AH} {a : Addr} : aload Try.prog 98 H (.pointer (some a)) = (H.cells a 4).map fun l => .agg l.toArray := load_agg agg_98 size_98
theorem agg_102 : aggAt Try.prog 102 = some false := by kernel_rfl
theorem size_102 : sizeAt Try.prog 102 = some 1 := by kernel_rfl
theorem cells_102 : Try.prog.cellsOf 102 = 1 := by kernel_rfl
theorem zero_102 : zeroAt Try.prog 102 = some (.map none) := by kernel_rfl
theorem ld_102 {H : AH} {a : Addr} : aload Try.prog 102 H (.pointer (some a)) = H.cell a := load_cell agg_102
theorem agg_103 : aggAt Try.prog 103 = some false := by kernel_rfl
theorem size_103 : sizeAt Try.prog 103 = some 1 := by kernel_rfl
theorem cells_103 : Try.prog.cellsOf 103 = 1 := by kernel_rfl
theorem zero_103 : zeroAt Try.prog 103 = some (.slice none 0 0) := by kernel_rfl
theorem ld_103 {H : AH} {a : Addr} : aload Try.prog 103 H (.pointer (some a)) = H.cell a := load_cell agg_103
theorem agg_107 : aggAt Try.prog 107 = some false := by kernel_rfl
theorem size_107 : sizeAt Try.prog 107 = some 1 := by kernel_rfl
theorem cells_107 : Try.prog.cellsOf 107 = 1 := by kernel_rfl
theorem zero_107 : zeroAt Try.prog 107 = some (.nilIface) := by kernel_rfl
theorem ld_107 {H : AH} {a : Addr} : aload Try.prog 107 H (.pointer (some a)) = H.cell a := load_cell agg_107
theorem agg_113 : aggAt Try.prog 113 = some true := by kernel_rfl
theorem size_113 : sizeAt Try.prog 113 = some 2 := by kernel_rfl
theorem cells_113 : Try.prog.cellsOf 113 = 2 := by kernel_rfl
theorem zero_113 : zeroAt Try.prog 113 = some (.agg #[.int .i64 0, .int .i64 0]) := by kernel_rfl
theorem ld_113 {H : AH} {a : Addr} : aload Try.prog 113 H (.pointer (some a)) = (H.cells a 2).map fun l => .agg l.toArray := load_agg agg_113 size_113
theorem agg_114 : aggAt Try.prog 114 = some false := by kernel_rfl
theorem size_114 : sizeAt Try.prog 114 = some 1 := by kernel_rfl
theorem cells_114 : Try.prog.cellsOf 114 = 1 := by kernel_rfl
theorem zero_114 : zeroAt Try.prog 114 = some (.slice none 0 0) := by kernel_rfl
theorem ld_114 {H : AH} {a : Addr} : aload Try.prog 114 H (.pointer (some a)) = H.cell a := load_cell agg_114
theorem agg_115 : aggAt Try.prog 115 = some false := by kernel_rfl
theorem size_115 : sizeAt Try.prog 115 = some 1 := by kernel_rfl
theorem cells_115 : Try.prog.cellsOf 115 = 1 := by kernel_rfl
theorem zero_115 : zeroAt Try.prog 115 = some (.pointer none) := by kernel_rfl
theorem ld_115 {H : AH} {a : Addr} : aload Try.prog 115 H (.pointer (some a)) = H.cell a := load_cell agg_115
theorem len_9 {H : AH} {s : ByteArray} : abuiltin Try.prog .len [9] [.string s] H = some (.int .i64 (s.size : Int), H) := len_string Try.underlying9
theorem ia_22 {g o k n c i : Nat} {j : IntKind} (h : i < n) : aindexAddr Try.prog 22 (.slice (some ⟨g, o, some k⟩) n c) (.int j (i : Int)) = some (.pointer (some ⟨g, o + i * 1, some k⟩)) := indexAddr_at Try.underlying22 size_9 h
theorem len_22 {H : AH} {n c : Nat} {a : Option Addr} : abuiltin Try.prog .len [22] [.slice a n c] H = some (.int .i64 (n : Int), H) := len_slice Try.underlying22
theorem info_22 : ((Try.prog.info? 9).map fun i => Nat.beq i.size 1 && Nat.ble i.bytes 65536) = some true := by kernel_rfl
theorem app_22 {H : AH} {t' len cap n : Nat} {base : Option Addr} {x : Value} {new : List Value} (hx : Sh.srcKind Try.prog t' x = true) (hn : Sh.newCells 1 H x = some (n, new)) (hb : len + n ≤ 1073741824) : abuiltin Try.prog .append [22, t'] [.slice base len cap, x] H = aappend 1 base len cap n new H := append_at Try.underlying22 info_22 zero_9 rfl (Nat.le_of_ble_eq_true rfl) hx hn hb
theorem isnil_22 {c : Bool} {a : Option Addr} {n m : Nat} : abin Try.prog 22 c .eql (.slice a n m) (.slice none 0 0) = some (.bool a.isNone) := slice_nil Try.underlying22
theorem notnil_22 {c : Bool} {a : Option Addr} {n m : Nat} : abin Try.prog 22 c .neq (.slice a n m) (.slice none 0 0) = some (.bool a.isSome) := slice_not_nil Try.underlying22
theorem build0_22 {H : AH} : abuildSlice Try.prog 22 0 [] H = some (.slice (some ⟨H.next, 0, some 0⟩) 0 0, (H.new 1 []).2) := build_nil Try.underlying22 size_9 zero_9 rfl (Nat.le_of_ble_eq_true rfl)
theorem build1_22 {H : AH} {x : Value} (hx : (vcells x).length = 1) (hc : (vcells x).all isCell = true) : abuildSlice Try.prog 22 1 [(0, x)] H = some (.slice (some ⟨H.next, 0, some 0⟩) 1 1, (H.new 1 (vcells x)).2) := build_one Try.underlying22 size_9 zero_9 rfl (Nat.le_of_ble_eq_true rfl) (Nat.le_of_ble_eq_true rfl) hx hc
theorem ia_23 {g o k n c i : Nat} {j : IntKind} (h : i < n) : aindexAddr Try.prog 23 (.slice (some ⟨g, o, some k⟩) n c) (.int j (i : Int)) = some (.pointer (some ⟨g, o + i * 5, some k⟩)) := indexAddr_at Try.underlying23 size_33 h
theorem len_23 {H : AH} {n c : Nat} {a : Option Addr} : abuiltin Try.prog .len [23] [.slice a n c] H = some (.int .i64 (n : Int), H) := len_slice Try.underlying23
theorem info_23 : ((Try.prog.info? 33).map fun i => Nat.beq i.size 5 && Nat.ble i.bytes 65536) = some true := by kernel_rfl
theorem app_23 {H : AH} {t' len cap n : Nat} {base : Option Addr} {x : Value} {new : List Value} (hx : Sh.srcKind Try.prog t' x = true) (hn : Sh.newCells 5 H x = some (n, new)) (hb : len + n ≤ 1073741824) : abuiltin Try.prog .append [23, t'] [.slice base len cap, x] H = aappend 5 base len cap n new H := append_at Try.underlying23 info_23 zero_33 rfl (Nat.le_of_ble_eq_true rfl) hx hn hb
theorem isnil_23 {c : Bool} {a : Option Addr} {n m : Nat} : abin Try.prog 23 c .eql (.slice a n m) (.slice none 0 0) = some (.bool a.isNone) := slice_nil Try.underlying23
theorem notnil_23 {c : Bool} {a : Option Addr} {n m : Nat} : abin Try.prog 23 c .neq (.slice a n m) (.slice none 0 0) = some (.bool a.isSome) := slice_not_nil Try.underlying23
theorem build0_23 {H : AH} : abuildSlice Try.prog 23 0 [] H = some (.slice (some ⟨H.next, 0, some 0⟩) 0 0, (H.new 5 []).2) := build_nil Try.underlying23 size_33 zero_33 rfl (Nat.le_of_ble_eq_true rfl)
theorem build1_23 {H : AH} {x : Value} (hx : (vcells x).length = 5) (hc : (vcells x).all isCell = true) : abuildSlice Try.prog 23 1 [(0, x)] H = some (.slice (some ⟨H.next, 0, some 0⟩) 1 1, (H.new 5 (vcells x)).2) := build_one Try.underlying23 size_33 zero_33 rfl (Nat.le_of_ble_eq_true rfl) (Nat.le_of_ble_eq_true rfl) hx hc
theorem ia_24 {g o k n c i : Nat} {j : IntKind} (h : i < n) : aindexAddr Try.prog 24 (.slice (some ⟨g, o, some k⟩) n c) (.int j (i : Int)) = some (.pointer (some ⟨g, o + i * 2, some k⟩)) := indexAddr_at Try.underlying24 size_35 h
theorem len_24 {H : AH} {n c : Nat} {a : Option Addr} : abuiltin Try.prog .len [24] [.slice a n c] H = some (.int .i64 (n : Int), H) := len_slice Try.underlying24
theorem info_24 : ((Try.prog.info? 35).map fun i => Nat.beq i.size 2 && Nat.ble i.bytes 65536) = some true := by kernel_rfl
theorem app_24 {H : AH} {t' len cap n : Nat} {base : Option Addr} {x : Value} {new : List Value} (hx : Sh.srcKind Try.prog t' x = true) (hn : Sh.newCells 2 H x = some (n, new)) (hb : len + n ≤ 1073741824) : abuiltin Try.prog .append [24, t'] [.slice base len cap, x] H = aappend 2 base len cap n new H := append_at Try.underlying24 info_24 zero_35 rfl (Nat.le_of_ble_eq_true rfl) hx hn hb
theorem isnil_24 {c : Bool} {a : Option Addr} {n m : Nat} : abin Try.prog 24 c .eql (.slice a n m) (.slice none 0 0) = some (.bool a.isNone) := slice_nil Try.underlying24
theorem notnil_24 {c : Bool} {a : Option Addr} {n m : Nat} : abin Try.prog 24 c .neq (.slice a n m) (.slice none 0 0) = some (.bool a.isSome) := slice_not_nil Try.underlying24
theorem build0_24 {H : AH} : abuildSlice Try.prog 24 0 [] H = some (.slice (some ⟨H.next, 0, some 0⟩) 0 0, (H.new 2 []).2) := build_nil Try.underlying24 size_35 zero_35 rfl (Nat.le_of_ble_eq_true rfl)
theorem build1_24 {H : AH} {x : Value} (hx : (vcells x).length = 2) (hc : (vcells x).all isCell = true) : abuildSlice Try.prog 24 1 [(0, x)] H = some (.slice (some ⟨H.next, 0, some 0⟩) 1 1, (H.new 2 (vcells x)).2) := build_one Try.underlying24 size_35 zero_35 rfl (Nat.le_of_ble_eq_true rfl) (Nat.le_of_ble_eq_true rfl) hx hc
theorem fa_26_0 {g o k : Nat} : afieldAddr Try.prog 26 0 (.pointer (some ⟨g, o, some k⟩)) = some (.pointer (some ⟨g, o + 0, some k⟩)) := by have h := fieldAddr_at (g := g) (o := o) (k := k) (f := 0) Try.underlying26 (Eq.refl (some _)) size_22 rfl; exact h
theorem fa_26_1 {g o k : Nat} : afieldAddr Try.prog 26 1 (.pointer (some ⟨g, o, some k⟩)) = some (.pointer (some ⟨g, o + 1, some k⟩)) := by have h := fieldAddr_at (g := g) (o := o) (k := k) (f := 1) Try.underlying26 (Eq.refl (some _)) size_3 rfl; exact h
theorem fa_26_2 {g o k : Nat} : afieldAddr Try.prog 26 2 (.pointer (some ⟨g, o, some k⟩)) = some (.pointer (some ⟨g, o + 2, some k⟩)) := by have h := fieldAddr_at (g := g) (o := o) (k := k) (f := 2) Try.underlying26 (Eq.refl (some _)) size_23 rfl; exact h
theorem fa_26_3 {g o k : Nat} : afieldAddr Try.prog 26 3 (.pointer (some ⟨g, o, some k⟩)) = some (.pointer (some ⟨g, o + 3, some k⟩)) := by have h := fieldAddr_at (g := g) (o := o) (k := k) (f := 3) Try.underlying26 (Eq.refl (some _)) size_24 rfl; exact h
theorem fa_33_0 {g o k : Nat} : afieldAddr Try.prog 33 0 (.pointer (some ⟨g, o, some k⟩)) = some (.pointer (some ⟨g, o + 0, some k⟩)) := by have h := fieldAddr_at (g := g) (o := o) (k := k) (f := 0) Try.underlying33 (Eq.refl (some _)) size_3 rfl; exact h
theorem fa_33_1 {g o k : Nat} : afieldAddr Try.prog 33 1 (.pointer (some ⟨g, o, some k⟩)) = some (.pointer (some ⟨g, o + 1, some k⟩)) := by have h := fieldAddr_at (g := g) (o := o) (k := k) (f := 1) Try.underlying33 (Eq.refl (some _)) size_9 rfl; exact h
theorem fa_33_2 {g o k : Nat} : afieldAddr Try.prog 33 2 (.pointer (some ⟨g, o, some k⟩)) = some (.pointer (some ⟨g, o + 2, some k⟩)) := by have h := fieldAddr_at (g := g) (o := o) (k := k) (f := 2) Try.underlying33 (Eq.refl (some _)) size_9 rfl; exact h
theorem fa_33_3 {g o k : Nat} : afieldAddr Try.prog 33 3 (.pointer (some ⟨g, o, some k⟩)) = some (.pointer (some ⟨g, o + 3, some k⟩)) := by have h := fieldAddr_at (g := g) (o := o) (k := k) (f := 3) Try.underlying33 (Eq.refl (some _)) size_3 rfl; exact h
theorem fa_33_4 {g o k : Nat} : afieldAddr Try.prog 33 4 (.pointer (some ⟨g, o, some k⟩)) = some (.pointer (some ⟨g, o + 4, some k⟩)) := by have h := fieldAddr_at (g := g) (o := o) (k := k) (f := 4) Try.underlying33 (Eq.refl (some _)) size_3 rfl; exact h
theorem fa_35_0 {g o k : Nat} : afieldAddr Try.prog 35 0 (.pointer (some ⟨g, o, some k⟩)) = some (.pointer (some ⟨g, o + 0, some k⟩)) := by have h := fieldAddr_at (g := g) (o := o) (k := k) (f := 0) Try.underlying35 (Eq.refl (some _)) size_3 rfl; exact h
theorem fa_35_1 {g o k : Nat} : afieldAddr Try.prog 35 1 (.pointer (some ⟨g, o, some k⟩)) = some (.pointer (some ⟨g, o + 1, some k⟩)) := by have h := fieldAddr_at (g := g) (o := o) (k := k) (f := 1) Try.underlying35 (Eq.refl (some _)) size_3 rfl; exact h
theorem ia_45 {g o k n c i : Nat} {j : IntKind} (h : i < n) : aindexAddr Try.prog 45 (.slice (some ⟨g, o, some k⟩) n c) (.int j (i : Int)) = some (.pointer (some ⟨g, o + i * 1, some k⟩)) := indexAddr_at Try.underlying45 size_53 h
theorem len_45 {H : AH} {n c : Nat} {a : Option Addr} : abuiltin Try.prog .len [45] [.slice a n c] H = some (.int .i64 (n : Int), H) := len_slice Try.underlying45
theorem info_45 : ((Try.prog.info? 53).map fun i => Nat.beq i.size 1 && Nat.ble i.bytes 65536) = some true := by kernel_rfl
theorem app_45 {H : AH} {t' len cap n : Nat} {base : Option Addr} {x : Value} {new : List Value} (hx : Sh.srcKind Try.prog t' x = true) (hn : Sh.newCells 1 H x = some (n, new)) (hb : len + n ≤ 1073741824) : abuiltin Try.prog .append [45, t'] [.slice base len cap, x] H = aappend 1 base len cap n new H := append_at Try.underlying45 info_45 zero_53 rfl (Nat.le_of_ble_eq_true rfl) hx hn hb
theorem isnil_45 {c : Bool} {a : Option Addr} {n m : Nat} : abin Try.prog 45 c .eql (.slice a n m) (.slice none 0 0) = some (.bool a.isNone) := slice_nil Try.underlying45
theorem notnil_45 {c : Bool} {a : Option Addr} {n m : Nat} : abin Try.prog 45 c .neq (.slice a n m) (.slice none 0 0) = some (.bool a.isSome) := slice_not_nil Try.underlying45
theorem build0_45 {H : AH} : abuildSlice Try.prog 45 0 [] H = some (.slice (some ⟨H.next, 0, some 0⟩) 0 0, (H.new 1 []).2) := build_nil Try.underlying45 size_53 zero_53 rfl (Nat.le_of_ble_eq_true rfl)
theorem build1_45 {H : AH} {x : Value} (hx : (vcells x).length = 1) (hc : (vcells x).all isCell = true) : abuildSlice Try.prog 45 1 [(0, x)] H = some (.slice (some ⟨H.next, 0, some 0⟩) 1 1, (H.new 1 (vcells x)).2) := build_one Try.underlying45 size_53 zero_53 rfl (Nat.le_of_ble_eq_true rfl) (Nat.le_of_ble_eq_true rfl) hx hc
theorem fa_49_0 {g o k : Nat} : afieldAddr Try.prog 49 0 (.pointer (some ⟨g, o, some k⟩)) = some (.pointer (some ⟨g, o + 0, some k⟩)) := by have h := fieldAddr_at (g := g) (o := o) (k := k) (f := 0) Try.underlying49 (Eq.refl (some _)) size_3 rfl; exact h
theorem fa_49_1 {g o k : Nat} : afieldAddr Try.prog 49 1 (.pointer (some ⟨g, o, some k⟩)) = some (.pointer (some ⟨g, o + 1, some k⟩)) := by have h := fieldAddr_at (g := g) (o := o) (k := k) (f := 1) Try.underlying49 (Eq.refl (some _)) size_4 rfl; exact h
theorem ia_53 {g o k n c i : Nat} {j : IntKind} (h : i < n) : aindexAddr Try.prog 53 (.slice (some ⟨g, o, some k⟩) n c) (.int j (i : Int)) = some (.pointer (some ⟨g, o + i * 1, some k⟩)) := indexAddr_at Try.underlying53 size_3 h
theorem len_53 {H : AH} {n c : Nat} {a : Option Addr} : abuiltin Try.prog .len [53] [.slice a n c] H = some (.int .i64 (n : Int), H) := len_slice Try.underlying53
theorem info_53 : ((Try.prog.info? 3).map fun i => Nat.beq i.size 1 && Nat.ble i.bytes 65536) = some true := by kernel_rfl
theorem app_53 {H : AH} {t' len cap n : Nat} {base : Option Addr} {x : Value} {new : List Value} (hx : Sh.srcKind Try.prog t' x = true) (hn : Sh.newCells 1 H x = some (n, new)) (hb : len + n ≤ 1073741824) : abuiltin Try.prog .append [53, t'] [.slice base len cap, x] H = aappend 1 base len cap n new H := append_at Try.underlying53 info_53 zero_3 rfl (Nat.le_of_ble_eq_true rfl) hx hn hb
theorem isnil_53 {c : Bool} {a : Option Addr} {n m : Nat} : abin Try.prog 53 c .eql (.slice a n m) (.slice none 0 0) = some (.bool a.isNone) := slice_nil Try.underlying53
theorem notnil_53 {c : Bool} {a : Option Addr} {n m : Nat} : abin Try.prog 53 c .neq (.slice a n m) (.slice none 0 0) = some (.bool a.isSome) := slice_not_nil Try.underlying53
theorem build0_53 {H : AH} : abuildSlice Try.prog 53 0 [] H = some (.slice (some ⟨H.next, 0, some 0⟩) 0 0, (H.new 1 []).2) := build_nil Try.underlying53 size_3 zero_3 rfl (Nat.le_of_ble_eq_true rfl)
theorem build1_53 {H : AH} {x : Value} (hx : (vcells x).length = 1) (hc : (vcells x).all isCell = true) : abuildSlice Try.prog 53 1 [(0, x)] H = some (.slice (some ⟨H.next, 0, some 0⟩) 1 1, (H.new 1 (vcells x)).2) := build_one Try.underlying53 size_3 zero_3 rfl (Nat.le_of_ble_eq_true rfl) (Nat.le_of_ble_eq_true rfl) hx hc
theorem ia_61 {g o k n c i : Nat} {j : IntKind} (h : i < n) : aindexAddr Try.prog 61 (.slice (some ⟨g, o, some k⟩) n c) (.int j (i : Int)) = some (.pointer (some ⟨g, o + i * 1, some k⟩)) := indexAddr_at Try.underlying61 size_22 h
theorem len_61 {H : AH} {n c : Nat} {a : Option Addr} : abuiltin Try.prog .len [61] [.slice a n c] H = some (.int .i64 (n : Int), H) := len_slice Try.underlying61
theorem info_61 : ((Try.prog.info? 22).map fun i => Nat.beq i.size 1 && Nat.ble i.bytes 65536) = some true := by kernel_rfl
theorem app_61 {H : AH} {t' len cap n : Nat} {base : Option Addr} {x : Value} {new : List Value} (hx : Sh.srcKind Try.prog t' x = true) (hn : Sh.newCells 1 H x = some (n, new)) (hb : len + n ≤ 1073741824) : abuiltin Try.prog .append [61, t'] [.slice base len cap, x] H = aappend 1 base len cap n new H := append_at Try.underlying61 info_61 zero_22 rfl (Nat.le_of_ble_eq_true rfl) hx hn hb
theorem isnil_61 {c : Bool} {a : Option Addr} {n m : Nat} : abin Try.prog 61 c .eql (.slice a n m) (.slice none 0 0) = some (.bool a.isNone) := slice_nil Try.underlying61
theorem notnil_61 {c : Bool} {a : Option Addr} {n m : Nat} : abin Try.prog 61 c .neq (.slice a n m) (.slice none 0 0) = some (.bool a.isSome) := slice_not_nil Try.underlying61
theorem build0_61 {H : AH} : abuildSlice Try.prog 61 0 [] H = some (.slice (some ⟨H.next, 0, some 0⟩) 0 0, (H.new 1 []).2) := build_nil Try.underlying61 size_22 zero_22 rfl (Nat.le_of_ble_eq_true rfl)
theorem build1_61 {H : AH} {x : Value} (hx : (vcells x).length = 1) (hc : (vcells x).all isCell = true) : abuildSlice Try.prog 61 1 [(0, x)] H = some (.slice (some ⟨H.next, 0, some 0⟩) 1 1, (H.new 1 (vcells x)).2) := build_one Try.underlying61 size_22 zero_22 rfl (Nat.le_of_ble_eq_true rfl) (Nat.le_of_ble_eq_true rfl) hx hc
theorem ia_67 {g o k n c i : Nat} {j : IntKind} (h : i < n) : aindexAddr Try.prog 67 (.slice (some ⟨g, o, some k⟩) n c) (.int j (i : Int)) = some (.pointer (some ⟨g, o + i * 4, some k⟩)) := indexAddr_at Try.underlying67 size_98 h
theorem len_67 {H : AH} {n c : Nat} {a : Option Addr} : abuiltin Try.prog .len [67] [.slice a n c] H = some (.int .i64 (n : Int), H) := len_slice Try.underlying67
theorem info_67 : ((Try.prog.info? 98).map fun i => Nat.beq i.size 4 && Nat.ble i.bytes 65536) = some true := by kernel_rfl
theorem app_67 {H : AH} {t' len cap n : Nat} {base : Option Addr} {x : Value} {new : List Value} (hx : Sh.srcKind Try.prog t' x = true) (hn : Sh.newCells 4 H x = some (n, new)) (hb : len + n ≤ 1073741824) : abuiltin Try.prog .append [67, t'] [.slice base len cap, x] H = aappend 4 base len cap n new H := append_at Try.underlying67 info_67 zero_98 rfl (Nat.le_of_ble_eq_true rfl) hx hn hb
theorem isnil_67 {c : Bool} {a : Option Addr} {n m : Nat} : abin Try.prog 67 c .eql (.slice a n m) (.slice none 0 0) = some (.bool a.isNone) := slice_nil Try.underlying67
theorem notnil_67 {c : Bool} {a : Option Addr} {n m : Nat} : abin Try.prog 67 c .neq (.slice a n m) (.slice none 0 0) = some (.bool a.isSome) := slice_not_nil Try.underlying67
theorem build0_67 {H : AH} : abuildSlice Try.prog 67 0 [] H = some (.slice (some ⟨H.next, 0, some 0⟩) 0 0, (H.new 4 []).2) := build_nil Try.underlying67 size_98 zero_98 rfl (Nat.le_of_ble_eq_true rfl)
theorem build1_67 {H : AH} {x : Value} (hx : (vcells x).length = 4) (hc : (vcells x).all isCell = true) : abuildSlice Try.prog 67 1 [(0, x)] H = some (.slice (some ⟨H.next, 0, some 0⟩) 1 1, (H.new 4 (vcells x)).2) := build_one Try.underlying67 size_98 zero_98 rfl (Nat.le_of_ble_eq_true rfl) (Nat.le_of_ble_eq_true rfl) hx hc
theorem fa_69_0 {g o k : Nat} : afieldAddr Try.prog 69 0 (.pointer (some ⟨g, o, some k⟩)) = some (.pointer (some ⟨g, o + 0, some k⟩)) := by have h := fieldAddr_at (g := g) (o := o) (k := k) (f := 0) Try.underlying69 (Eq.refl (some _)) size_67 rfl; exact h
theorem fa_72_0 {g o k : Nat} : afieldAddr Try.prog 72 0 (.pointer (some ⟨g, o, some k⟩)) = some (.pointer (some ⟨g, o + 0, some k⟩)) := by have h := fieldAddr_at (g := g) (o := o) (k := k) (f := 0) Try.underlying72 (Eq.refl (some _)) size_3 rfl; exact h
theorem fa_72_1 {g o k : Nat} : afieldAddr Try.prog 72 1 (.pointer (some ⟨g, o, some k⟩)) = some (.pointer (some ⟨g, o + 1, some k⟩)) := by have h := fieldAddr_at (g := g) (o := o) (k := k) (f := 1) Try.underlying72 (Eq.refl (some _)) size_3 rfl; exact h
theorem fa_72_2 {g o k : Nat} : afieldAddr Try.prog 72 2 (.pointer (some ⟨g, o, some k⟩)) = some (.pointer (some ⟨g, o + 2, some k⟩)) := by have h := fieldAddr_at (g := g) (o := o) (k := k) (f := 2) Try.underlying72 (Eq.refl (some _)) size_3 rfl; exact h
theorem ia_76 {g o k n c i : Nat} {j : IntKind} (h : i < n) : aindexAddr Try.prog 76 (.slice (some ⟨g, o, some k⟩) n c) (.int j (i : Int)) = some (.pointer (some ⟨g, o + i * 1, some k⟩)) := indexAddr_at Try.underlying76 size_79 h
theorem len_76 {H : AH} {n c : Nat} {a : Option Addr} : abuiltin Try.prog .len [76] [.slice a n c] H = some (.int .i64 (n : Int), H) := len_slice Try.underlying76
theorem info_76 : ((Try.prog.info? 79).map fun i => Nat.beq i.size 1 && Nat.ble i.bytes 65536) = some true := by kernel_rfl
theorem app_76 {H : AH} {t' len cap n : Nat} {base : Option Addr} {x : Value} {new : List Value} (hx : Sh.srcKind Try.prog t' x = true) (hn : Sh.newCells 1 H x = some (n, new)) (hb : len + n ≤ 1073741824) : abuiltin Try.prog .append [76, t'] [.slice base len cap, x] H = aappend 1 base len cap n new H := append_at Try.underlying76 info_76 zero_79 rfl (Nat.le_of_ble_eq_true rfl) hx hn hb
theorem isnil_76 {c : Bool} {a : Option Addr} {n m : Nat} : abin Try.prog 76 c .eql (.slice a n m) (.slice none 0 0) = some (.bool a.isNone) := slice_nil Try.underlying76
theorem notnil_76 {c : Bool} {a : Option Addr} {n m : Nat} : abin Try.prog 76 c .neq (.slice a n m) (.slice none 0 0) = some (.bool a.isSome) := slice_not_nil Try.underlying76
theorem build0_76 {H : AH} : abuildSlice Try.prog 76 0 [] H = some (.slice (some ⟨H.next, 0, some 0⟩) 0 0, (H.new 1 []).2) := build_nil Try.underlying76 size_79 zero_79 rfl (Nat.le_of_ble_eq_true rfl)
theorem build1_76 {H : AH} {x : Value} (hx : (vcells x).length = 1) (hc : (vcells x).all isCell = true) : abuildSlice Try.prog 76 1 [(0, x)] H = some (.slice (some ⟨H.next, 0, some 0⟩) 1 1, (H.new 1 (vcells x)).2) := build_one Try.underlying76 size_79 zero_79 rfl (Nat.le_of_ble_eq_true rfl) (Nat.le_of_ble_eq_true rfl) hx hc
theorem fa_78_0 {g o k : Nat} : afieldAddr Try.prog 78 0 (.pointer (some ⟨g, o, some k⟩)) = some (.pointer (some ⟨g, o + 0, some k⟩)) := by have h := fieldAddr_at (g := g) (o := o) (k := k) (f := 0) Try.underlying78 (Eq.refl (some _)) size_22 rfl; exact h
theorem fa_78_1 {g o k : Nat} : afieldAddr Try.prog 78 1 (.pointer (some ⟨g, o, some k⟩)) = some (.pointer (some ⟨g, o + 1, some k⟩)) := by have h := fieldAddr_at (g := g) (o := o) (k := k) (f := 1) Try.underlying78 (Eq.refl (some _)) size_76 rfl; exact h
theorem fa_78_2 {g o k : Nat} : afieldAddr Try.prog 78 2 (.pointer (some ⟨g, o, some k⟩)) = some (.pointer (some ⟨g, o + 2, some k⟩)) := by have h := fieldAddr_at (g := g) (o := o) (k := k) (f := 2) Try.underlying78 (Eq.refl (some _)) size_53 rfl; exact h
theorem fa_78_3 {g o k : Nat} : afieldAddr Try.prog 78 3 (.pointer (some ⟨g, o, some k⟩)) = some (.pointer (some ⟨g, o + 3, some k⟩)) := by have h := fieldAddr_at (g := g) (o := o) (k := k) (f := 3) Try.underlying78 (Eq.refl (some _)) size_53 rfl; exact h
theorem ia_79 {g o k n c i : Nat} {j : IntKind} (h : i < n) : aindexAddr Try.prog 79 (.slice (some ⟨g, o, some k⟩) n c) (.int j (i : Int)) = some (.pointer (some ⟨g, o + i * 4, some k⟩)) := indexAddr_at Try.underlying79 size_81 h
theorem len_79 {H : AH} {n c : Nat} {a : Option Addr} : abuiltin Try.prog .len [79] [.slice a n c] H = some (.int .i64 (n : Int), H) := len_slice Try.underlying79
theorem info_79 : ((Try.prog.info? 81).map fun i => Nat.beq i.size 4 && Nat.ble i.bytes 65536) = some true := by kernel_rfl
theorem app_79 {H : AH} {t' len cap n : Nat} {base : Option Addr} {x : Value} {new : List Value} (hx : Sh.srcKind Try.prog t' x = true) (hn : Sh.newCells 4 H x = some (n, new)) (hb : len + n ≤ 1073741824) : abuiltin Try.prog .append [79, t'] [.slice base len cap, x] H = aappend 4 base len cap n new H := append_at Try.underlying79 info_79 zero_81 rfl (Nat.le_of_ble_eq_true rfl) hx hn hb
theorem isnil_79 {c : Bool} {a : Option Addr} {n m : Nat} : abin Try.prog 79 c .eql (.slice a n m) (.slice none 0 0) = some (.bool a.isNone) := slice_nil Try.underlying79
theorem notnil_79 {c : Bool} {a : Option Addr} {n m : Nat} : abin Try.prog 79 c .neq (.slice a n m) (.slice none 0 0) = some (.bool a.isSome) := slice_not_nil Try.underlying79
theorem build0_79 {H : AH} : abuildSlice Try.prog 79 0 [] H = some (.slice (some ⟨H.next, 0, some 0⟩) 0 0, (H.new 4 []).2) := build_nil Try.underlying79 size_81 zero_81 rfl (Nat.le_of_ble_eq_true rfl)
theorem build1_79 {H : AH} {x : Value} (hx : (vcells x).length = 4) (hc : (vcells x).all isCell = true) : abuildSlice Try.prog 79 1 [(0, x)] H = some (.slice (some ⟨H.next, 0, some 0⟩) 1 1, (H.new 4 (vcells x)).2) := build_one Try.underlying79 size_81 zero_81 rfl (Nat.le_of_ble_eq_true rfl) (Nat.le_of_ble_eq_true rfl) hx hc
theorem fa_81_0 {g o k : Nat} : afieldAddr Try.prog 81 0 (.pointer (some ⟨g, o, some k⟩)) = some (.pointer (some ⟨g, o + 0, some k⟩)) := by have h := fieldAddr_at (g := g) (o := o) (k := k) (f := 0) Try.underlying81 (Eq.refl (some _)) size_3 rfl; exact h
theorem fa_81_1 {g o k : Nat} : afieldAddr Try.prog 81 1 (.pointer (some ⟨g, o, some k⟩)) = some (.pointer (some ⟨g, o + 1, some k⟩)) := by have h := fieldAddr_at (g := g) (o := o) (k := k) (f := 1) Try.underlying81 (Eq.refl (some _)) size_3 rfl; exact h
theorem fa_81_2 {g o k : Nat} : afieldAddr Try.prog 81 2 (.pointer (some ⟨g, o, some k⟩)) = some (.pointer (some ⟨g, o + 2, some k⟩)) := by have h := fieldAddr_at (g := g) (o := o) (k := k) (f := 2) Try.underlying81 (Eq.refl (some _)) size_3 rfl; exact h
theorem fa_81_3 {g o k : Nat} : afieldAddr Try.prog 81 3 (.pointer (some ⟨g, o, some k⟩)) = some (.pointer (some ⟨g, o + 3, some k⟩)) := by have h := fieldAddr_at (g := g) (o := o) (k := k) (f := 3) Try.underlying81 (Eq.refl (some _)) size_3 rfl; exact h
theorem ia_89 {g o k n c i : Nat} {j : IntKind} (h : i < n) : aindexAddr Try.prog 89 (.slice (some ⟨g, o, some k⟩) n c) (.int j (i : Int)) = some (.pointer (some ⟨g, o + i * 1, some k⟩)) := indexAddr_at Try.underlying89 size_4 h
theorem len_89 {H : AH} {n c : Nat} {a : Option Addr} : abuiltin Try.prog .len [89] [.slice a n c] H = some (.int .i64 (n : Int), H) := len_slice Try.underlying89
theorem info_89 : ((Try.prog.info? 4).map fun i => Nat.beq i.size 1 && Nat.ble i.bytes 65536) = some true := by kernel_rfl
theorem app_89 {H : AH} {t' len cap n : Nat} {base : Option Addr} {x : Value} {new : List Value} (hx : Sh.srcKind Try.prog t' x = true) (hn : Sh.newCells 1 H x = some (n, new)) (hb : len + n ≤ 1073741824) : abuiltin Try.prog .append [89, t'] [.slice base len cap, x] H = aappend 1 base len cap n new H := append_at Try.underlying89 info_89 zero_4 rfl (Nat.le_of_ble_eq_true rfl) hx hn hb
theorem isnil_89 {c : Bool} {a : Option Addr} {n m : Nat} : abin Try.prog 89 c .eql (.slice a n m) (.slice none 0 0) = some (.bool a.isNone) := slice_nil Try.underlying89
theorem notnil_89 {c : Bool} {a : Option Addr} {n m : Nat} : abin Try.prog 89 c .neq (.slice a n m) (.slice none 0 0) = some (.bool a.isSome) := slice_not_nil Try.underlying89
theorem build0_89 {H : AH} : abuildSlice Try.prog 89 0 [] H = some (.slice (some ⟨H.next, 0, some 0⟩) 0 0, (H.new 1 []).2) := build_nil Try.underlying89 size_4 zero_4 rfl (Nat.le_of_ble_eq_true rfl)
theorem build1_89 {H : AH} {x : Value} (hx : (vcells x).length = 1) (hc : (vcells x).all isCell = true) : abuildSlice Try.prog 89 1 [(0, x)] H = some (.slice (some ⟨H.next, 0, some 0⟩) 1 1, (H.new 1 (vcells x)).2) := build_one Try.underlying89 size_4 zero_4 rfl (Nat.le_of_ble_eq_true rfl) (Nat.le_of_ble_eq_true rfl) hx hc
theorem fa_98_0 {g o k : Nat} : afieldAddr Try.prog 98 0 (.pointer (some ⟨g, o, some k⟩)) = some (.pointer (some ⟨g, o + 0, some k⟩)) := by have h := fieldAddr_at (g := g) (o := o) (k := k) (f := 0) Try.underlying98 (Eq.refl (some _)) size_3 rfl; exact h
theorem fa_98_1 {g o k : Nat} : afieldAddr Try.prog 98 1 (.pointer (some ⟨g, o, some k⟩)) = some (.pointer (some ⟨g, o + 1, some k⟩)) := by have h := fieldAddr_at (g := g) (o := o) (k := k) (f := 1) Try.underlying98 (Eq.refl (some _)) size_72 rfl; exact h
theorem ia_103 {g o k n c i : Nat} {j : IntKind} (h : i < n) : aindexAddr Try.prog 103 (.slice (some ⟨g, o, some k⟩) n c) (.int j (i : Int)) = some (.pointer (some ⟨g, o + i * 3, some k⟩)) := indexAddr_at Try.underlying103 size_72 h
theorem len_103 {H : AH} {n c : Nat} {a : Option Addr} : abuiltin Try.prog .len [103] [.slice a n c] H = some (.int .i64 (n : Int), H) := len_slice Try.underlying103
theorem info_103 : ((Try.prog.info? 72).map fun i => Nat.beq i.size 3 && Nat.ble i.bytes 65536) = some true := by kernel_rfl
theorem app_103 {H : AH} {t' len cap n : Nat} {base : Option Addr} {x : Value} {new : List Value} (hx : Sh.srcKind Try.prog t' x = true) (hn : Sh.newCells 3 H x = some (n, new)) (hb : len + n ≤ 1073741824) : abuiltin Try.prog .append [103, t'] [.slice base len cap, x] H = aappend 3 base len cap n new H := append_at Try.underlying103 info_103 zero_72 rfl (Nat.le_of_ble_eq_true rfl) hx hn hb
theorem isnil_103 {c : Bool} {a : Option Addr} {n m : Nat} : abin Try.prog 103 c .eql (.slice a n m) (.slice none 0 0) = some (.bool a.isNone) := slice_nil Try.underlying103
theorem notnil_103 {c : Bool} {a : Option Addr} {n m : Nat} : abin Try.prog 103 c .neq (.slice a n m) (.slice none 0 0) = some (.bool a.isSome) := slice_not_nil Try.underlying103
theorem build0_103 {H : AH} : abuildSlice Try.prog 103 0 [] H = some (.slice (some ⟨H.next, 0, some 0⟩) 0 0, (H.new 3 []).2) := build_nil Try.underlying103 size_72 zero_72 rfl (Nat.le_of_ble_eq_true rfl)
theorem build1_103 {H : AH} {x : Value} (hx : (vcells x).length = 3) (hc : (vcells x).all isCell = true) : abuildSlice Try.prog 103 1 [(0, x)] H = some (.slice (some ⟨H.next, 0, some 0⟩) 1 1, (H.new 3 (vcells x)).2) := build_one Try.underlying103 size_72 zero_72 rfl (Nat.le_of_ble_eq_true rfl) (Nat.le_of_ble_eq_true rfl) hx hc
theorem fa_113_0 {g o k : Nat} : afieldAddr Try.prog 113 0 (.pointer (some ⟨g, o, some k⟩)) = some (.pointer (some ⟨g, o + 0, some k⟩)) := by have h := fieldAddr_at (g := g) (o := o) (k := k) (f := 0) Try.underlying113 (Eq.refl (some _)) size_3 rfl; exact h
theorem fa_113_1 {g o k : Nat} : afieldAddr Try.prog 113 1 (.pointer (some ⟨g, o, some k⟩)) = some (.pointer (some ⟨g, o + 1, some k⟩)) := by have h := fieldAddr_at (g := g) (o := o) (k := k) (f := 1) Try.underlying113 (Eq.refl (some _)) size_3 rfl; exact h
theorem ia_114 {g o k n c i : Nat} {j : IntKind} (h : i < n) : aindexAddr Try.prog 114 (.slice (some ⟨g, o, some k⟩) n c) (.int j (i : Int)) = some (.pointer (some ⟨g, o + i * 2, some k⟩)) := indexAddr_at Try.underlying114 size_113 h
theorem len_114 {H : AH} {n c : Nat} {a : Option Addr} : abuiltin Try.prog .len [114] [.slice a n c] H = some (.int .i64 (n : Int), H) := len_slice Try.underlying114
theorem info_114 : ((Try.prog.info? 113).map fun i => Nat.beq i.size 2 && Nat.ble i.bytes 65536) = some true := by kernel_rfl
theorem app_114 {H : AH} {t' len cap n : Nat} {base : Option Addr} {x : Value} {new : List Value} (hx : Sh.srcKind Try.prog t' x = true) (hn : Sh.newCells 2 H x = some (n, new)) (hb : len + n ≤ 1073741824) : abuiltin Try.prog .append [114, t'] [.slice base len cap, x] H = aappend 2 base len cap n new H := append_at Try.underlying114 info_114 zero_113 rfl (Nat.le_of_ble_eq_true rfl) hx hn hb
theorem isnil_114 {c : Bool} {a : Option Addr} {n m : Nat} : abin Try.prog 114 c .eql (.slice a n m) (.slice none 0 0) = some (.bool a.isNone) := slice_nil Try.underlying114
theorem notnil_114 {c : Bool} {a : Option Addr} {n m : Nat} : abin Try.prog 114 c .neq (.slice a n m) (.slice none 0 0) = some (.bool a.isSome) := slice_not_nil Try.underlying114
theorem build0_114 {H : AH} : abuildSlice Try.prog 114 0 [] H = some (.slice (some ⟨H.next, 0, some 0⟩) 0 0, (H.new 2 []).2) := build_nil Try.underlying114 size_113 zero_113 rfl (Nat.le_of_ble_eq_true rfl)
theorem build1_114 {H : AH} {x : Value} (hx : (vcells x).length = 2) (hc : (vcells x).all isCell = true) : abuildSlice Try.prog 114 1 [(0, x)] H = some (.slice (some ⟨H.next, 0, some 0⟩) 1 1, (H.new 2 (vcells x)).2) := build_one Try.underlying114 size_113 zero_113 rfl (Nat.le_of_ble_eq_true rfl) (Nat.le_of_ble_eq_true rfl) hx hc
theorem cv_3_57 {H : AH} {n : Int} : aconvert Try.prog 3 57 (.int .i64 n) H = some (.int .u64 (IntKind.wrap .u64 n), H) := conv_int Try.underlying3 Try.underlying57
theorem cv_57_3 {H : AH} {n : Int} : aconvert Try.prog 57 3 (.int .u64 n) H = some (.int .i64 (IntKind.wrap .i64 n), H) := conv_int Try.underlying57 Try.underlying3
theorem seatFacts : type_of% (And.intro @zero_1 (And.intro @ld_1 (And.intro @zero_2 (And.intro @ld_2 (And.intro @zero_3 (And.intro @ld_3 (And.intro @zero_4 (And.intro @ld_4 (And.intro @zero_5 (And.intro @ld_5 (And.intro @zero_9 (And.intro @ld_9 (And.intro @zero_20 (And.intro @ld_20 (And.intro @zero_22 (And.intro @ld_22 (And.intro @zero_23 (And.intro @ld_23 (And.intro @zero_24 (And.intro @ld_24 (And.intro @zero_26 (And.intro @ld_26 (And.intro @zero_28 (And.intro @ld_28 (And.intro @zero_33 (And.intro @ld_33 (And.intro @zero_35 (And.intro @ld_35 (And.intro @zero_43 (And.intro @ld_43 (And.intro @zero_45 (And.intro @ld_45 (And.intro @zero_49 (And.intro @ld_49 (And.intro @zero_51 (And.intro @ld_51 (And.intro @zero_53 (And.intro @ld_53 (And.intro @zero_57 (And.intro @ld_57 (And.intro @zero_61 (And.intro @ld_61 (And.intro @zero_64 (And.intro @ld_64 (And.intro @zero_65 (And.intro @ld_65 (And.intro @zero_67 (And.intro @ld_67 (And.intro @zero_69 (And.intro @ld_69 (And.intro @zero_72 (And.intro @ld_72 (And.intro @zero_76 (And.intro @ld_76 (And.intro @zero_78 (And.intro @ld_78 (And.intro @zero_79 (And.intro @ld_79 (And.intro @zero_81 (And.intro @ld_81 (And.intro @zero_87 (And.intro @ld_87 (And.intro @zero_89 (And.intro @ld_89 (And.intro @zero_94 (And.intro @ld_94 (And.intro @zero_96 (And.intro @ld_96 (And.intro @zero_98 (And.intro @ld_98 (And.intro @zero_102 (And.intro @ld_102 (And.intro @zero_103 (And.intro @ld_103 (And.intro @zero_107 (And.intro @ld_107 (And.intro @zero_113 (And.intro @ld_113 (And.intro @zero_114 (And.intro @ld_114 (And.intro @zero_115 (And.intro @ld_115 (And.intro @len_9 (And.intro @len_22 (And.intro @isnil_22 (And.intro @notnil_22 (And.intro @build0_22 (And.intro @len_23 (And.intro @isnil_23 (And.intro @notnil_23 (And.intro @build0_23 (And.intro @len_24 (And.intro @isnil_24 (And.intro @notnil_24 (And.intro @build0_24 (And.intro @fa_26_0 (And.intro @fa_26_1 (And.intro @fa_26_2 (And.intro @fa_26_3 (And.intro @fa_33_0 (And.intro @fa_33_1 (And.intro @fa_33_2 (And.intro @fa_33_3 (And.intro @fa_33_4 (And.intro @fa_35_0 (And.intro @fa_35_1 (And.intro @len_45 (And.intro @isnil_45 (And.intro @notnil_45 (And.intro @build0_45 (And.intro @fa_49_0 (And.intro @fa_49_1 (And.intro @len_53 (And.intro @isnil_53 (And.intro @notnil_53 (And.intro @build0_53 (And.intro @len_61 (And.intro @isnil_61 (And.intro @notnil_61 (And.intro @build0_61 (And.intro @len_67 (And.intro @isnil_67 (And.intro @notnil_67 (And.intro @build0_67 (And.intro @fa_69_0 (And.intro @fa_72_0 (And.intro @fa_72_1 (And.intro @fa_72_2 (And.intro @len_76 (And.intro @isnil_76 (And.intro @notnil_76 (And.intro @build0_76 (And.intro @fa_78_0 (And.intro @fa_78_1 (And.intro @fa_78_2 (And.intro @fa_78_3 (And.intro @len_79 (And.intro @isnil_79 (And.intro @notnil_79 (And.intro @build0_79 (And.intro @fa_81_0 (And.intro @fa_81_1 (And.intro @fa_81_2 (And.intro @fa_81_3 (And.intro @len_89 (And.intro @isnil_89 (And.intro @notnil_89 (And.intro @build0_89 (And.intro @fa_98_0 (And.intro @fa_98_1 (And.intro @len_103 (And.intro @isnil_103 (And.intro @notnil_103 (And.intro @build0_103 (And.intro @fa_113_0 (And.intro @fa_113_1 (And.intro @len_114 (And.intro @isnil_114 (And.intro @notnil_114 (And.intro @build0_114 (And.intro @cv_3_57 (@cv_57_3)))))))))))))))))))))))))))))))))))))))))))))))))))))))))))))))))))))))))))))))))))))))))))))))))))))))))))))))))))))))))))))))))))))))))))))))))))))))))))))))))) := And.intro @zero_1 (And.intro @ld_1 (And.intro @zero_2 (And.intro @ld_2 (And.intro @zero_3 (And.intro @ld_3 (And.intro @zero_4 (And.intro @ld_4 (And.intro @zero_5 (And.intro @ld_5 (And.intro @zero_9 (And.intro @ld_9 (And.intro @zero_20 (And.intro @ld_20 (And.intro @zero_22 (And.intro @ld_22 (And.intro @zero_23 (And.intro @ld_23 (And.intro @zero_24 (And.intro @ld_24 (And.intro @zero_26 (And.intro @ld_26 (And.intro @zero_28 (And.intro @ld_28 (And.intro @zero_33 (And.intro @ld_33 (And.intro @zero_35 (And.intro @ld_35 (And.intro @zero_43 (And.intro @ld_43 (And.intro @zero_45 (And.intro @ld_45 (And.intro @zero_49 (And.intro @ld_49 (And.intro @zero_51 (And.intro @ld_51 (And.intro @zero_53 (And.intro @ld_53 (And.intro @zero_57 (And.intro @ld_57 (And.intro @zero_61 (And.intro @ld_61 (And.intro @zero_64 (And.intro @ld_64 (And.intro @zero_65 (And.intro @ld_65 (And.intro @zero_67 (And.intro @ld_67 (And.intro @zero_69 (And.intro @ld_69 (And.intro @zero_72 (And.intro @ld_72 (And.intro @zero_76 (And.intro @ld_76 (And.intro @zero_78 (And.intro @ld_78 (And.intro @zero_79 (And.intro @ld_79 (And.intro @zero_81 (And.intro @ld_81 (And.intro @zero_87 (And.intro @ld_87 (And.intro @zero_89 (And.intro @ld_89 (And.intro @zero_94 (And.intro @ld_94 (And.intro @zero_96 (And.intro @ld_96 (And.intro @zero_98 (And.intro @ld_98 (And.intro @zero_102 (And.intro @ld_102 (And.intro @zero_103 (And.intro @ld_103 (And.intro @zero_107 (And.intro @ld_107 (And.intro @zero_113 (And.intro @ld_113 (And.intro @zero_114 (And.intro @ld_114 (And.intro @zero_115 (And.intro @ld_115 (And.intro @len_9 (And.intro @len_22 (And.intro @isnil_22 (And.intro @notnil_22 (And.intro @build0_22 (And.intro @len_23 (And.intro @isnil_23 (And.intro @notnil_23 (And.intro @build0_23 (And.intro @len_24 (And.intro @isnil_24 (And.intro @notnil_24 (And.intro @build0_24 (And.intro @fa_26_0 (And.intro @fa_26_1 (And.intro @fa_26_2 (And.intro @fa_26_3 (And.intro @fa_33_0 (And.intro @fa_33_1 (And.intro @fa_33_2 (And.intro @fa_33_3 (And.intro @fa_33_4 (And.intro @fa_35_0 (And.intro @fa_35_1 (And.intro @len_45 (And.intro @isnil_45 (And.intro @notnil_45 (And.intro @build0_45 (And.intro @fa_49_0 (And.intro @fa_49_1 (And.intro @len_53 (And.intro @isnil_53 (And.intro @notnil_53 (And.intro @build0_53 (And.intro @len_61 (And.intro @isnil_61 (And.intro @notnil_61 (And.intro @build0_61 (And.intro @len_67 (And.intro @isnil_67 (And.intro @notnil_67 (And.intro @build0_67 (And.intro @fa_69_0 (And.intro @fa_72_0 (And.intro @fa_72_1 (And.intro @fa_72_2 (And.intro @len_76 (And.intro @isnil_76 (And.intro @notnil_76 (And.intro @build0_76 (And.intro @fa_78_0 (And.intro @fa_78_1 (And.intro @fa_78_2 (And.intro @fa_78_3 (And.intro @len_79 (And.intro @isnil_79 (And.intro @notnil_79 (And.intro @build0_79 (And.intro @fa_81_0 (And.intro @fa_81_1 (And.intro @fa_81_2 (And.intro @fa_81_3 (And.intro @len_89 (And.intro @isnil_89 (And.intro @notnil_89 (And.intro @build0_89 (And.intro @fa_98_0 (And.intro @fa_98_1 (And.intro @len_103 (And.intro @isnil_103 (And.intro @notnil_103 (And.intro @build0_103 (And.intro @fa_113_0 (And.intro @fa_113_1 (And.intro @len_114 (And.intro @isnil_114 (And.intro @notnil_114 (And.intro @build0_114 (And.intro @cv_3_57 (@cv_57_3)))))))))))))))))))))))))))))))))))))))))))))))))))))))))))))))))))))))))))))))))))))))))))))))))))))))))))))))))))))))))))))))))))))))))))))))))))))))))))))))))
end Go.Proofs.Ytbnpoiibehkjpaa
-- simp: zero_1, ld_1, zero_2, ld_2, zero_3, ld_3, zero_4, ld_4, zero_5, ld_5, zero_9, ld_9, zero_20, ld_20, zero_22, ld_22, zero_23, ld_23, zero_24, ld_24, zero_26, ld_26, zero_28, ld_28, zero_33, ld_33, zero_35, ld_35, zero_43, ld_43, zero_45, ld_45, zero_49, ld_49, zero_51, ld_51, zero_53, ld_53, zero_57, ld_57, zero_61, ld_61, zero_64, ld_64, zero_65, ld_65, zero_67, ld_67, zero_69, ld_69, zero_72, ld_72, zero_76, ld_76, zero_78, ld_78, zero_79, ld_79, zero_81, ld_81, zero_87, ld_87, zero_89, ld_89, zero_94, ld_94, zero_96, ld_96, zero_98, ld_98, zero_102, ld_102, zero_103, ld_103, zero_107, ld_107, zero_113, ld_113, zero_114, ld_114, zero_115, ld_115, len_9, len_22, isnil_22, notnil_22, build0_22, len_23, isnil_23, notnil_23, build0_23, len_24, isnil_24, notnil_24, build0_24, fa_26_0, fa_26_1, fa_26_2, fa_26_3, fa_33_0, fa_33_1, fa_33_2, fa_33_3, fa_33_4, fa_35_0, fa_35_1, len_45, isnil_45, notnil_45, build0_45, fa_49_0, fa_49_1, len_53, isnil_53, notnil_53, build0_53, len_61, isnil_61, notnil_61, build0_61, len_67, isnil_67, notnil_67, build0_67, fa_69_0, fa_72_0, fa_72_1, fa_72_2, len_76, isnil_76, notnil_76, build0_76, fa_78_0, fa_78_1, fa_78_2, fa_78_3, len_79, isnil_79, notnil_79, build0_79, fa_81_0, fa_81_1, fa_81_2, fa_81_3, len_89, isnil_89, notnil_89, build0_89, fa_98_0, fa_98_1, len_103, isnil_103, notnil_103, build0_103, fa_113_0, fa_113_1, len_114, isnil_114, notnil_114, build0_114, cv_3_57, cv_57_3
/- Nets in memory: what is made and written of them. -/
set_option maxHeartbeats 4000000
set_option linter.unusedVariables false
namespace Go.Proofs.Ytbnpoiibehkjpaa
open Go Go.Proofs Go.Proofs.Sh
section
variable {H : AH} {g : Nat} {sg ar en v : Value} {N : NetD}
theorem netNew (hsg : isCell sg = true) (har : isCell ar = true) (hen : isCell en = true) {n : Int} : anew Try.prog 26 H (.agg #[sg, .int .i64 n, ar, en]) = some (.pointer (some ⟨H.next, 0, some 0⟩), (H.new 4 [sg, .int .i64 n, ar, en]).2) :=
  new_agg (vs := [sg, .int .i64 n, ar, en]) size_26 rfl (by simp [hsg, har, hen, show isCell (.int .i64 n) = true from rfl])
theorem netStore (hsg : isCell sg = true) (har : isCell ar = true) (hen : isCell en = true) {n : Int} {p : Addr} : astore Try.prog 26 H (.agg #[sg, .int .i64 n, ar, en]) (.pointer (some p)) = H.write p [sg, .int .i64 n, ar, en] :=
  store_agg (vs := [sg, .int .i64 n, ar, en]) size_26 rfl (by simp [hsg, har, hen, show isCell (.int .i64 n) = true from rfl])
theorem netZero : anew Try.prog 26 H (.agg #[.slice none 0 0, .int .i64 0, .slice none 0 0, .slice none 0 0]) = some (.pointer (some ⟨H.next, 0, some 0⟩), (H.new 4 [.slice none 0 0, .int .i64 0, .slice none 0 0, .slice none 0 0]).2) := new_agg (vs := [.slice none 0 0, .int .i64 0, .slice none 0 0, .slice none 0 0]) size_26 rfl rfl
theorem arcZero : anew Try.prog 33 H (.agg #[.int .i64 0, .string ⟨#[]⟩, .string ⟨#[]⟩, .int .i64 0, .int .i64 0]) = some (.pointer (some ⟨H.next, 0, some 0⟩), (H.new 5 [.int .i64 0, .string ⟨#[]⟩, .string ⟨#[]⟩, .int .i64 0, .int .i64 0]).2) :=
  new_agg (vs := [.int .i64 0, .string ⟨#[]⟩, .string ⟨#[]⟩, .int .i64 0, .int .i64 0]) size_33 rfl rfl
theorem endZero : anew Try.prog 35 H (.agg #[.int .i64 0, .int .i64 0]) = some (.pointer (some ⟨H.next, 0, some 0⟩), (H.new 2 [.int .i64 0, .int .i64 0]).2) := new_agg (vs := [.int .i64 0, .int .i64 0]) size_35 rfl rfl
theorem arcNew {a : ArcD} : anew Try.prog 33 H (.agg a.cells.toArray) = some (.pointer (some ⟨H.next, 0, some 0⟩), (H.new 5 a.cells).2) := new_agg (vs := a.cells) size_33 rfl rfl
theorem endNew {a : EndD} : anew Try.prog 35 H (.agg a.cells.toArray) = some (.pointer (some ⟨H.next, 0, some 0⟩), (H.new 2 a.cells).2) := new_agg (vs := a.cells) size_35 rfl rfl
theorem arcStore {a : ArcD} {p : Addr} : astore Try.prog 33 H (.agg a.cells.toArray) (.pointer (some p)) = H.write p a.cells := store_agg size_33 rfl rfl
theorem endStore {a : EndD} {p : Addr} : astore Try.prog 35 H (.agg a.cells.toArray) (.pointer (some p)) = H.write p a.cells := store_agg size_35 rfl rfl
theorem arcOver {a : ArcD} {x0 x1 x2 x3 x4 : Value} : (H.new 5 [x0, x1, x2, x3, x4]).2.write ⟨H.next, 0, some 0⟩ a.cells = some (H.new 5 a.cells).2 := write_new rfl
theorem endOver {a : EndD} {x0 x1 : Value} : (H.new 2 [x0, x1]).2.write ⟨H.next, 0, some 0⟩ a.cells = some (H.new 2 a.cells).2 := write_new rfl
theorem netOver {x0 x1 x2 x3 y0 y1 y2 y3 : Value} : (H.new 4 [x0, x1, x2, x3]).2.write ⟨H.next, 0, some 0⟩ [y0, y1, y2, y3] = some (H.new 4 [y0, y1, y2, y3]).2 := write_new rfl
theorem arc0 {a : ArcD} : (H.new 5 a.cells).2.cell ⟨H.next, 0, some 0⟩ = some (.int .i64 a.fr) := cell_new _ _ _
theorem arc1 {a : ArcD} : (H.new 5 a.cells).2.cell ⟨H.next, 1, some 0⟩ = some (.string a.inn) := cell_new _ _ _
theorem arc2 {a : ArcD} : (H.new 5 a.cells).2.cell ⟨H.next, 2, some 0⟩ = some (.string a.out) := cell_new _ _ _
theorem arc3 {a : ArcD} : (H.new 5 a.cells).2.cell ⟨H.next, 3, some 0⟩ = some (.int .i64 a.to) := cell_new _ _ _
theorem arc4 {a : ArcD} : (H.new 5 a.cells).2.cell ⟨H.next, 4, some 0⟩ = some (.int .i64 a.cost) := cell_new _ _ _
theorem end0 {a : EndD} : (H.new 2 a.cells).2.cell ⟨H.next, 0, some 0⟩ = some (.int .i64 a.state) := cell_new _ _ _
theorem end1 {a : EndD} : (H.new 2 a.cells).2.cell ⟨H.next, 1, some 0⟩ = some (.int .i64 a.cost) := cell_new _ _ _
theorem netLenS (h : NetBox H g sg ar en N) {H' : AH} : abuiltin Try.prog .len [22] [sg] H' = some (.int .i64 (N.sigma.length : Int), H') := by rw [h.hsg.len Try.underlying22 H', List.length_map]
theorem netLenA (h : NetBox H g sg ar en N) {H' : AH} : abuiltin Try.prog .len [23] [ar] H' = some (.int .i64 (N.arcs.length : Int), H') := by rw [h.har.len Try.underlying23 H', List.length_map]
theorem netLenE (h : NetBox H g sg ar en N) {H' : AH} : abuiltin Try.prog .len [24] [en] H' = some (.int .i64 (N.ends.length : Int), H') := by rw [h.hen.len Try.underlying24 H', List.length_map]
theorem held_arc : Try.prog.stoodInHeld 33 = false := by kernel_rfl
theorem guard_arc : Try.prog.eqGuardType Try.prog.depth 33 = false := by kernel_rfl
theorem held_end : Try.prog.stoodInHeld 35 = false := by kernel_rfl
theorem guard_end : Try.prog.eqGuardType Try.prog.depth 35 = false := by kernel_rfl
theorem eqT_int {d : Nat} {a b : Int} : eqT Try.prog (d + 1) 3 (.int .i64 a) (.int .i64 b) = some (decide (a = b)) := by
  simp only [eqT, Try.underlying3, kindEq_self, cond_true, intEq_eq]; rfl
theorem eqT_str {d : Nat} {a b : ByteArray} : eqT Try.prog (d + 1) 9 (.string a) (.string b) = some (decide (a = b)) := by
  simp only [eqT, Try.underlying9, bytesEq_dec]
theorem eqArc {c : Bool} {a : ArcD} : abin Try.prog 33 c .neq (.agg a.cells.toArray) (.agg a.cells.toArray) = some (.bool false) := by
  have h : eqT Try.prog (19 + 1) 33 (.agg a.cells.toArray) (.agg a.cells.toArray) = some true := by
    rw [eqT.eq_def]
    simp only [Try.underlying33, held_arc, cond_false, eqFields, apart, agg_3, agg_9, ArcD.cells, List.getElem?_cons_zero, List.getElem?_cons_succ, Option.bind_some, eqT_int (d := 18), eqT_str (d := 18), decide_true]
    simp
  unfold abin aeq eqMay eqDepth
  simp only [guard_arc, Bool.not_false, cond_true]
  rw [h]
  rfl
theorem eqEnd {c : Bool} {a : EndD} : abin Try.prog 35 c .neq (.agg a.cells.toArray) (.agg a.cells.toArray) = some (.bool false) := by
  have h : eqT Try.prog (19 + 1) 35 (.agg a.cells.toArray) (.agg a.cells.toArray) = some true := by
    rw [eqT.eq_def]
    simp only [Try.underlying35, held_end, cond_false, eqFields, apart, agg_3, EndD.cells, List.getElem?_cons_zero, List.getElem?_cons_succ, Option.bind_some, eqT_int (d := 18), decide_true]
    simp
  unfold abin aeq eqMay eqDepth
  simp only [guard_end, Bool.not_false, cond_true]
  rw [h]
  rfl
end
end Go.Proofs.Ytbnpoiibehkjpaa
/- Whether a text of a list is too long for a symbol. -/
set_option maxHeartbeats 4000000
set_option linter.unusedSimpArgs false
set_option linter.unusedVariables false
set_option pp.deepTerms.threshold 8
namespace Go.Proofs.Ytbnpoiibehkjpaa
open Go Go.Proofs Go.Proofs.Sh
theorem anyLong {H : AH} {v : Value} {l : List ByteArray} (hs : Sl H v 1 (l.map strCell)) (hl : l.length ≤ 1048576) (hw : Wf H) :
    Sh.Call Try.prog (knows 7) 28 [v] H (fun r H' => Kept H H' ∧ r = .bool (l.any fun s => decide (16 < s.size))) := by
  refine call_of rfl Try.func28 rfl (Nat.le_of_ble_eq_true rfl) ?_
  have hres : Try.f28.results.toList = [.tmp 2] := rfl
  have hlen := hs.len Try.underlying22 H
  simp only [↓Sh.stepDn, Sh.stepUp, seatFacts, exitTo, calm, isEff, Nat.reduceBEq, evs, evps, evo, isConst, reduceCtorEq, Nat.reduceEqDiff, resultsA, Sh.one, Sh.unit, forall_const, implies_true, eq_self, ne_eq, if_true, if_false, beq_self_eq_true, cond_true, cond_false, List.all_cons, List.all_nil, List.getElem?_cons_zero, List.getElem?_cons_succ, List.nil_append, List.append_nil, Option.bind_some, Option.map_some, Option.some.injEq, exists_eq_left', exists_eq', exists_eq, Prod.mk.injEq, exists_and_left, ↓Sh.wp_cond]
  refine wp_count l.length (fun i F H' => H' = H ∧ F.get 0 = some v ∧ F.get 3 = some (.int .i64 (i : Int)) ∧ (l.take i).any (fun s => decide (16 < s.size)) = false) (Nat.zero_le _) ⟨rfl, by simp only [↓Sh.stepDn, Sh.stepUp, seatFacts, exitTo, calm, isEff, Nat.reduceBEq, evs, evps, evo, isConst, reduceCtorEq, Nat.reduceEqDiff, resultsA, Sh.one, Sh.unit, forall_const, implies_true, eq_self, ne_eq, if_true, if_false, beq_self_eq_true, cond_true, cond_false, List.all_cons, List.all_nil, List.getElem?_cons_zero, List.getElem?_cons_succ, List.nil_append, List.append_nil, Option.bind_some, Option.map_some, Option.some.injEq, exists_eq_left', exists_eq', exists_eq, Prod.mk.injEq, exists_and_left, ↓Sh.wp_cond], by simp only [↓Sh.stepDn, Sh.stepUp, seatFacts, exitTo, calm, isEff, Nat.reduceBEq, evs, evps, evo, isConst, reduceCtorEq, Nat.reduceEqDiff, resultsA, Sh.one, Sh.unit, forall_const, implies_true, eq_self, ne_eq, if_true, if_false, beq_self_eq_true, cond_true, cond_false, List.all_cons, List.all_nil, List.getElem?_cons_zero, List.getElem?_cons_succ, List.nil_append, List.append_nil, Option.bind_some, Option.map_some, Option.some.injEq, exists_eq_left', exists_eq', exists_eq, Prod.mk.injEq, exists_and_left, ↓Sh.wp_cond]; rfl, rfl⟩ ?_
  rintro i F H' hi ⟨rfl, f0, f3, hall⟩ k
  by_cases hlt : i < l.length
  · obtain ⟨g, o, kk, hia, hc, hcc⟩ := hs.at Try.underlying22 size_9 (i := i) (x := strCell l[i]) (by simp [hlt]) .i64
    have hy := hcc 0 _ rfl
    simp only [Nat.add_zero] at hy
    have hc16 : decide ((16 : Int) < ((l[i].size : Nat) : Int)) = decide (16 < l[i].size) := by
      by_cases h : 16 < l[i].size
      · simp [h]; omega
      · simp [h]; omega
    simp only [↓Sh.stepDn, Sh.stepUp, seatFacts, exitTo, calm, isEff, Nat.reduceBEq, evs, evps, evo, isConst, reduceCtorEq, Nat.reduceEqDiff, resultsA, Sh.one, Sh.unit, forall_const, implies_true, eq_self, ne_eq, if_true, if_false, beq_self_eq_true, cond_true, cond_false, List.all_cons, List.all_nil, List.getElem?_cons_zero, List.getElem?_cons_succ, List.nil_append, List.append_nil, Option.bind_some, Option.map_some, Option.some.injEq, exists_eq_left', exists_eq', exists_eq, Prod.mk.injEq, exists_and_left, ↓Sh.wp_cond, f0, f3, hlen, hia, hy, List.length_map, nat_lt, hlt, hc16, decide_true, forall_const, reduceCtorEq, false_implies, and_true, true_and, hres]
    refine ⟨fun h => ⟨Kept.refl hw, ?_⟩, fun h => k _ _ hlt ⟨rfl, by simp only [↓Sh.stepDn, Sh.stepUp, seatFacts, exitTo, calm, isEff, Nat.reduceBEq, evs, evps, evo, isConst, reduceCtorEq, Nat.reduceEqDiff, resultsA, Sh.one, Sh.unit, forall_const, implies_true, eq_self, ne_eq, if_true, if_false, beq_self_eq_true, cond_true, cond_false, List.all_cons, List.all_nil, List.getElem?_cons_zero, List.getElem?_cons_succ, List.nil_append, List.append_nil, Option.bind_some, Option.map_some, Option.some.injEq, exists_eq_left', exists_eq', exists_eq, Prod.mk.injEq, exists_and_left, ↓Sh.wp_cond, f0], by simp only [↓Sh.stepDn, Sh.stepUp, seatFacts, exitTo, calm, isEff, Nat.reduceBEq, evs, evps, evo, isConst, reduceCtorEq, Nat.reduceEqDiff, resultsA, Sh.one, Sh.unit, forall_const, implies_true, eq_self, ne_eq, if_true, if_false, beq_self_eq_true, cond_true, cond_false, List.all_cons, List.all_nil, List.getElem?_cons_zero, List.getElem?_cons_succ, List.nil_append, List.append_nil, Option.bind_some, Option.map_some, Option.some.injEq, exists_eq_left', exists_eq', exists_eq, Prod.mk.injEq, exists_and_left, ↓Sh.wp_cond, wrap_succ hlt hl], ?_⟩⟩
    · have : (l.any fun s => decide (16 < s.size)) = true := List.any_eq_true.2 ⟨_, List.getElem_mem hlt, h⟩
      rw [this]
    · rw [List.take_add_one, List.getElem?_eq_getElem hlt]
      simp only [Option.toList, List.any_append, hall, Bool.false_or, List.any_cons, List.any_nil, Bool.or_false]
      exact h
  · have hin : i = l.length := by omega
    subst hin
    rw [List.take_length] at hall
    simp only [↓Sh.stepDn, Sh.stepUp, seatFacts, exitTo, calm, isEff, Nat.reduceBEq, evs, evps, evo, isConst, reduceCtorEq, Nat.reduceEqDiff, resultsA, Sh.one, Sh.unit, forall_const, implies_true, eq_self, ne_eq, if_true, if_false, beq_self_eq_true, cond_true, cond_false, List.all_cons, List.all_nil, List.getElem?_cons_zero, List.getElem?_cons_succ, List.nil_append, List.append_nil, Option.bind_some, Option.map_some, Option.some.injEq, exists_eq_left', exists_eq', exists_eq, Prod.mk.injEq, exists_and_left, ↓Sh.wp_cond, f0, f3, hlen, List.length_map, nat_lt, hlt, decide_false, forall_const, reduceCtorEq, false_implies, and_true, true_and, hres]
    exact ⟨Kept.refl hw, by rw [hall]⟩
end Go.Proofs.Ytbnpoiibehkjpaa
/- Whether a text is a symbol. -/
set_option maxHeartbeats 4000000
set_option linter.unusedSimpArgs false
set_option linter.unusedVariables false
set_option pp.deepTerms.threshold 8
namespace Go.Proofs.Ytbnpoiibehkjpaa
open Go Go.Proofs Go.Proofs.Sh
/-- A byte that no symbol has. -/
def badByte (u : UInt8) : Bool := decide (u.toNat < 33) || decide (126 < u.toNat) || decide (u.toNat = 60) || decide (u.toNat = 62)
def symOk (s : ByteArray) : Bool := !s.data.toList.any badByte && decide (1 ≤ s.size) && decide (s.size ≤ 16)
theorem isSymbol {H : AH} {x : ByteArray} (hl : x.size ≤ 1048576) (hw : Wf H) :
    Sh.Call Try.prog (knows 7) 48 [.string x] H (fun r H' => H' = H ∧ r = .bool (symOk x)) := by
  refine call_of rfl Try.func48 rfl (Nat.le_of_ble_eq_true rfl) ?_
  have hres : Try.f48.results.toList = [.tmp 2] := rfl
  have hsz : x.data.toList.length = x.size := by rw [Array.length_toList]; rfl
  simp only [↓Sh.stepDn, Sh.stepUp, seatFacts, exitTo, calm, isEff, Nat.reduceBEq, evs, evps, evo, isConst, reduceCtorEq, Nat.reduceEqDiff, resultsA, Sh.one, Sh.unit, forall_const, implies_true, eq_self, ne_eq, if_true, if_false, beq_self_eq_true, cond_true, cond_false, List.all_cons, List.all_nil, List.getElem?_cons_zero, List.getElem?_cons_succ, List.nil_append, List.append_nil, Option.bind_some, Option.map_some, Option.some.injEq, exists_eq_left', exists_eq', exists_eq, Prod.mk.injEq, exists_and_left]
  refine wp_count x.size (fun i F H' => H' = H ∧ F.get 0 = some (.string x) ∧ F.get 3 = some (.int .i64 (i : Int)) ∧ (x.data.toList.take i).any badByte = false) (Nat.zero_le _) ⟨rfl, by simp only [↓Sh.stepDn, Sh.stepUp, seatFacts, exitTo, calm, isEff, Nat.reduceBEq, evs, evps, evo, isConst, reduceCtorEq, Nat.reduceEqDiff, resultsA, Sh.one, Sh.unit, forall_const, implies_true, eq_self, ne_eq, if_true, if_false, beq_self_eq_true, cond_true, cond_false, List.all_cons, List.all_nil, List.getElem?_cons_zero, List.getElem?_cons_succ, List.nil_append, List.append_nil, Option.bind_some, Option.map_some, Option.some.injEq, exists_eq_left', exists_eq', exists_eq, Prod.mk.injEq, exists_and_left], by simp only [↓Sh.stepDn, Sh.stepUp, seatFacts, exitTo, calm, isEff, Nat.reduceBEq, evs, evps, evo, isConst, reduceCtorEq, Nat.reduceEqDiff, resultsA, Sh.one, Sh.unit, forall_const, implies_true, eq_self, ne_eq, if_true, if_false, beq_self_eq_true, cond_true, cond_false, List.all_cons, List.all_nil, List.getElem?_cons_zero, List.getElem?_cons_succ, List.nil_append, List.append_nil, Option.bind_some, Option.map_some, Option.some.injEq, exists_eq_left', exists_eq', exists_eq, Prod.mk.injEq, exists_and_left]; rfl, rfl⟩ ?_
  rintro i F H' hi ⟨rfl, f0, f3, hall⟩ k
  by_cases hlt : i < x.size
  · obtain ⟨u, hu⟩ : ∃ u, x.data.toList[i]? = some u := ⟨x.data.toList[i]'(by omega), List.getElem?_eq_getElem (by omega)⟩
    have hix := index_str (P := Try.prog) (j := .i64) Try.underlying9 hu
    have e33 : decide ((u.toNat : Int) < 33) = decide (u.toNat < 33) := by by_cases h : u.toNat < 33 <;> simp [h] <;> omega
    have e126 : decide (126 < (u.toNat : Int)) = decide (126 < u.toNat) := by by_cases h : 126 < u.toNat <;> simp [h] <;> omega
    have e60 : decide ((u.toNat : Int) = 60) = decide (u.toNat = 60) := by by_cases h : u.toNat = 60 <;> simp [h]; omega
    have e62 : decide ((u.toNat : Int) = 62) = decide (u.toNat = 62) := by by_cases h : u.toNat = 62 <;> simp [h]; omega
    have hstep : badByte u = false → (x.data.toList.take (i + 1)).any badByte = false := by
      intro h
      rw [List.take_add_one, hu]
      simp only [Option.toList, List.any_append, hall, Bool.false_or, List.any_cons, List.any_nil, Bool.or_false]
      exact h
    have hbad : badByte u = true → symOk x = false := by
      intro h
      have : x.data.toList.any badByte = true := List.any_eq_true.2 ⟨_, List.mem_of_getElem? hu, h⟩
      simp [symOk, this]
    have hgo : badByte u = (decide (u.toNat < 33) || decide (126 < u.toNat) || decide (u.toNat = 60) || decide (u.toNat = 62)) := rfl
    have five : ∀ a b c d : Bool, a = true ∨ (a = false ∧ b = true) ∨ (a = false ∧ b = false ∧ c = true) ∨ (a = false ∧ b = false ∧ c = false ∧ d = true) ∨ (a = false ∧ b = false ∧ c = false ∧ d = false) := by decide
    rcases five (decide (u.toNat < 33)) (decide (126 < u.toNat)) (decide (u.toNat = 60)) (decide (u.toNat = 62)) with h1 | ⟨h1, h2⟩ | ⟨h1, h2, h3⟩ | ⟨h1, h2, h3, h4⟩ | ⟨h1, h2, h3, h4⟩ <;> simp only [h1, *, Bool.or_true, Bool.or_false, Bool.true_or, Bool.false_or] at hgo
    · simp only [↓Sh.stepDn, Sh.stepUp, seatFacts, exitTo, calm, isEff, Nat.reduceBEq, evs, evps, evo, isConst, reduceCtorEq, Nat.reduceEqDiff, resultsA, Sh.one, Sh.unit, forall_const, implies_true, eq_self, ne_eq, if_true, if_false, beq_self_eq_true, cond_true, cond_false, List.all_cons, List.all_nil, List.getElem?_cons_zero, List.getElem?_cons_succ, List.nil_append, List.append_nil, Option.bind_some, Option.map_some, Option.some.injEq, exists_eq_left', exists_eq', exists_eq, Prod.mk.injEq, exists_and_left, f0, f3, hix, nat_lt, hlt, e33, h1, decide_true, hres, hbad hgo, true_and]
    · simp only [↓Sh.stepDn, Sh.stepUp, seatFacts, exitTo, calm, isEff, Nat.reduceBEq, evs, evps, evo, isConst, reduceCtorEq, Nat.reduceEqDiff, resultsA, Sh.one, Sh.unit, forall_const, implies_true, eq_self, ne_eq, if_true, if_false, beq_self_eq_true, cond_true, cond_false, List.all_cons, List.all_nil, List.getElem?_cons_zero, List.getElem?_cons_succ, List.nil_append, List.append_nil, Option.bind_some, Option.map_some, Option.some.injEq, exists_eq_left', exists_eq', exists_eq, Prod.mk.injEq, exists_and_left, f0, f3, hix, nat_lt, hlt, e33, e126, h1, h2, decide_true, hres, hbad hgo, true_and]
    · simp only [↓Sh.stepDn, Sh.stepUp, seatFacts, exitTo, calm, isEff, Nat.reduceBEq, evs, evps, evo, isConst, reduceCtorEq, Nat.reduceEqDiff, resultsA, Sh.one, Sh.unit, forall_const, implies_true, eq_self, ne_eq, if_true, if_false, beq_self_eq_true, cond_true, cond_false, List.all_cons, List.all_nil, List.getElem?_cons_zero, List.getElem?_cons_succ, List.nil_append, List.append_nil, Option.bind_some, Option.map_some, Option.some.injEq, exists_eq_left', exists_eq', exists_eq, Prod.mk.injEq, exists_and_left, f0, f3, hix, nat_lt, hlt, e33, e126, e60, h1, h2, h3, decide_true, hres, hbad hgo, true_and]
    · simp only [↓Sh.stepDn, Sh.stepUp, seatFacts, exitTo, calm, isEff, Nat.reduceBEq, evs, evps, evo, isConst, reduceCtorEq, Nat.reduceEqDiff, resultsA, Sh.one, Sh.unit, forall_const, implies_true, eq_self, ne_eq, if_true, if_false, beq_self_eq_true, cond_true, cond_false, List.all_cons, List.all_nil, List.getElem?_cons_zero, List.getElem?_cons_succ, List.nil_append, List.append_nil, Option.bind_some, Option.map_some, Option.some.injEq, exists_eq_left', exists_eq', exists_eq, Prod.mk.injEq, exists_and_left, f0, f3, hix, nat_lt, hlt, e33, e126, e60, e62, h1, h2, h3, h4, decide_true, hres, hbad hgo, true_and]
    · simp only [↓Sh.stepDn, Sh.stepUp, seatFacts, exitTo, calm, isEff, Nat.reduceBEq, evs, evps, evo, isConst, reduceCtorEq, Nat.reduceEqDiff, resultsA, Sh.one, Sh.unit, forall_const, implies_true, eq_self, ne_eq, if_true, if_false, beq_self_eq_true, cond_true, cond_false, List.all_cons, List.all_nil, List.getElem?_cons_zero, List.getElem?_cons_succ, List.nil_append, List.append_nil, Option.bind_some, Option.map_some, Option.some.injEq, exists_eq_left', exists_eq', exists_eq, Prod.mk.injEq, exists_and_left, f0, f3, hix, nat_lt, hlt, e33, e126, e60, e62, h1, h2, h3, h4, decide_true, hres]
      exact k _ _ hlt ⟨rfl, by simp only [↓Sh.stepDn, Sh.stepUp, seatFacts, exitTo, calm, isEff, Nat.reduceBEq, evs, evps, evo, isConst, reduceCtorEq, Nat.reduceEqDiff, resultsA, Sh.one, Sh.unit, forall_const, implies_true, eq_self, ne_eq, if_true, if_false, beq_self_eq_true, cond_true, cond_false, List.all_cons, List.all_nil, List.getElem?_cons_zero, List.getElem?_cons_succ, List.nil_append, List.append_nil, Option.bind_some, Option.map_some, Option.some.injEq, exists_eq_left', exists_eq', exists_eq, Prod.mk.injEq, exists_and_left, f0], by simp only [↓Sh.stepDn, Sh.stepUp, seatFacts, exitTo, calm, isEff, Nat.reduceBEq, evs, evps, evo, isConst, reduceCtorEq, Nat.reduceEqDiff, resultsA, Sh.one, Sh.unit, forall_const, implies_true, eq_self, ne_eq, if_true, if_false, beq_self_eq_true, cond_true, cond_false, List.all_cons, List.all_nil, List.getElem?_cons_zero, List.getElem?_cons_succ, List.nil_append, List.append_nil, Option.bind_some, Option.map_some, Option.some.injEq, exists_eq_left', exists_eq', exists_eq, Prod.mk.injEq, exists_and_left, wrap_succ hlt hl], hstep hgo⟩
  · have hin : i = x.size := by omega
    subst hin
    rw [← hsz, List.take_length] at hall
    have e1 : decide ((1 : Int) ≤ ((x.size : Nat) : Int)) = decide (1 ≤ x.size) := by by_cases h : 1 ≤ x.size <;> simp [h] <;> omega
    have e16 : decide (((x.size : Nat) : Int) ≤ 16) = decide (x.size ≤ 16) := by by_cases h : x.size ≤ 16 <;> simp [h] <;> omega
    cases h1 : decide (1 ≤ x.size) <;>
      simp only [↓Sh.stepDn, Sh.stepUp, seatFacts, exitTo, calm, isEff, Nat.reduceBEq, evs, evps, evo, isConst, reduceCtorEq, Nat.reduceEqDiff, resultsA, Sh.one, Sh.unit, forall_const, implies_true, eq_self, ne_eq, if_true, if_false, beq_self_eq_true, cond_true, cond_false, List.all_cons, List.all_nil, List.getElem?_cons_zero, List.getElem?_cons_succ, List.nil_append, List.append_nil, Option.bind_some, Option.map_some, Option.some.injEq, exists_eq_left', exists_eq', exists_eq, Prod.mk.injEq, exists_and_left, f0, f3, nat_lt, hlt, e1, e16, h1, decide_false, Bool.not_true, forall_const, not_true_eq_false, reduceCtorEq, false_implies, and_true, true_and, hres] <;>
      simp [symOk, hall, h1]
end Go.Proofs.Ytbnpoiibehkjpaa
/- Whether all texts of a list are symbols. -/
set_option maxHeartbeats 4000000
set_option linter.unusedSimpArgs false
set_option linter.unusedVariables false
set_option pp.deepTerms.threshold 8
namespace Go.Proofs.Ytbnpoiibehkjpaa
open Go Go.Proofs Go.Proofs.Sh
theorem allSymbols {H : AH} {v : Value} {l : List ByteArray} (hs : Sl H v 1 (l.map strCell)) (hl : l.length ≤ 1048576) (hlx : ∀ x ∈ l, x.size ≤ 1048576) (hw : Wf H) :
    Sh.Call Try.prog (knows 7) 29 [v] H (fun r H' => H' = H ∧ r = .bool (l.all symOk)) := by
  refine call_of rfl Try.func29 rfl (Nat.le_of_ble_eq_true rfl) ?_
  have hres : Try.f29.results.toList = [.tmp 2] := rfl
  have hlen := hs.len Try.underlying22 H
  simp only [↓Sh.stepDn, Sh.stepUp, seatFacts, exitTo, calm, isEff, Nat.reduceBEq, evs, evps, evo, isConst, reduceCtorEq, Nat.reduceEqDiff, resultsA, Sh.one, Sh.unit, forall_const, implies_true, eq_self, ne_eq, if_true, if_false, beq_self_eq_true, cond_true, cond_false, List.all_cons, List.all_nil, List.getElem?_cons_zero, List.getElem?_cons_succ, List.nil_append, List.append_nil, Option.bind_some, Option.map_some, Option.some.injEq, exists_eq_left', exists_eq', exists_eq, Prod.mk.injEq, exists_and_left]
  refine wp_count l.length (fun i F H' => H' = H ∧ F.get 0 = some v ∧ F.get 3 = some (.int .i64 (i : Int)) ∧ (l.take i).all symOk = true) (Nat.zero_le _) ⟨rfl, by simp only [↓Sh.stepDn, Sh.stepUp, seatFacts, exitTo, calm, isEff, Nat.reduceBEq, evs, evps, evo, isConst, reduceCtorEq, Nat.reduceEqDiff, resultsA, Sh.one, Sh.unit, forall_const, implies_true, eq_self, ne_eq, if_true, if_false, beq_self_eq_true, cond_true, cond_false, List.all_cons, List.all_nil, List.getElem?_cons_zero, List.getElem?_cons_succ, List.nil_append, List.append_nil, Option.bind_some, Option.map_some, Option.some.injEq, exists_eq_left', exists_eq', exists_eq, Prod.mk.injEq, exists_and_left], by simp only [↓Sh.stepDn, Sh.stepUp, seatFacts, exitTo, calm, isEff, Nat.reduceBEq, evs, evps, evo, isConst, reduceCtorEq, Nat.reduceEqDiff, resultsA, Sh.one, Sh.unit, forall_const, implies_true, eq_self, ne_eq, if_true, if_false, beq_self_eq_true, cond_true, cond_false, List.all_cons, List.all_nil, List.getElem?_cons_zero, List.getElem?_cons_succ, List.nil_append, List.append_nil, Option.bind_some, Option.map_some, Option.some.injEq, exists_eq_left', exists_eq', exists_eq, Prod.mk.injEq, exists_and_left]; rfl, rfl⟩ ?_
  rintro i F H' hi ⟨rfl, f0, f3, hall⟩ k
  by_cases hlt : i < l.length
  · obtain ⟨g, o, kk, hia, hc, hcc⟩ := hs.at Try.underlying22 size_9 (i := i) (x := strCell l[i]) (by simp [hlt]) .i64
    have hy := hcc 0 _ rfl
    simp only [Nat.add_zero] at hy
    obtain ⟨r, H1, hd, rfl, rfl⟩ := isSymbol (H := H') (x := l[i]) (hlx _ (List.getElem_mem hlt)) hw
    simp only [↓Sh.stepDn, Sh.stepUp, seatFacts, exitTo, calm, isEff, Nat.reduceBEq, evs, evps, evo, isConst, reduceCtorEq, Nat.reduceEqDiff, resultsA, Sh.one, Sh.unit, forall_const, implies_true, eq_self, ne_eq, if_true, if_false, beq_self_eq_true, cond_true, cond_false, List.all_cons, List.all_nil, List.getElem?_cons_zero, List.getElem?_cons_succ, List.nil_append, List.append_nil, Option.bind_some, Option.map_some, Option.some.injEq, exists_eq_left', exists_eq', exists_eq, Prod.mk.injEq, exists_and_left, f0, f3, hlen, hia, hy, List.length_map, nat_lt, hlt, decide_true, forall_const, reduceCtorEq, false_implies, and_true, true_and, hres]
    refine ⟨_, _, hd, ?_⟩
    cases hsy : symOk l[i] with
    | false =>
      have : l.all symOk = false := by
        rw [List.all_eq_false]
        exact ⟨_, List.getElem_mem hlt, by simp [hsy]⟩
      simp only [↓Sh.stepDn, Sh.stepUp, seatFacts, exitTo, calm, isEff, Nat.reduceBEq, evs, evps, evo, isConst, reduceCtorEq, Nat.reduceEqDiff, resultsA, Sh.one, Sh.unit, forall_const, implies_true, eq_self, ne_eq, if_true, if_false, beq_self_eq_true, cond_true, cond_false, List.all_cons, List.all_nil, List.getElem?_cons_zero, List.getElem?_cons_succ, List.nil_append, List.append_nil, Option.bind_some, Option.map_some, Option.some.injEq, exists_eq_left', exists_eq', exists_eq, Prod.mk.injEq, exists_and_left, hres, this]
    | true =>
      simp only [↓Sh.stepDn, Sh.stepUp, seatFacts, exitTo, calm, isEff, Nat.reduceBEq, evs, evps, evo, isConst, reduceCtorEq, Nat.reduceEqDiff, resultsA, Sh.one, Sh.unit, forall_const, implies_true, eq_self, ne_eq, if_true, if_false, beq_self_eq_true, cond_true, cond_false, List.all_cons, List.all_nil, List.getElem?_cons_zero, List.getElem?_cons_succ, List.nil_append, List.append_nil, Option.bind_some, Option.map_some, Option.some.injEq, exists_eq_left', exists_eq', exists_eq, Prod.mk.injEq, exists_and_left, f0, f3]
      refine k _ _ hlt ⟨rfl, by simp only [↓Sh.stepDn, Sh.stepUp, seatFacts, exitTo, calm, isEff, Nat.reduceBEq, evs, evps, evo, isConst, reduceCtorEq, Nat.reduceEqDiff, resultsA, Sh.one, Sh.unit, forall_const, implies_true, eq_self, ne_eq, if_true, if_false, beq_self_eq_true, cond_true, cond_false, List.all_cons, List.all_nil, List.getElem?_cons_zero, List.getElem?_cons_succ, List.nil_append, List.append_nil, Option.bind_some, Option.map_some, Option.some.injEq, exists_eq_left', exists_eq', exists_eq, Prod.mk.injEq, exists_and_left, f0], by simp only [↓Sh.stepDn, Sh.stepUp, seatFacts, exitTo, calm, isEff, Nat.reduceBEq, evs, evps, evo, isConst, reduceCtorEq, Nat.reduceEqDiff, resultsA, Sh.one, Sh.unit, forall_const, implies_true, eq_self, ne_eq, if_true, if_false, beq_self_eq_true, cond_true, cond_false, List.all_cons, List.all_nil, List.getElem?_cons_zero, List.getElem?_cons_succ, List.nil_append, List.append_nil, Option.bind_some, Option.map_some, Option.some.injEq, exists_eq_left', exists_eq', exists_eq, Prod.mk.injEq, exists_and_left, wrap_succ hlt hl], ?_⟩
      rw [List.take_add_one, List.getElem?_eq_getElem hlt]
      simp only [Option.toList, List.all_append, hall, Bool.true_and, List.all_cons, List.all_nil, Bool.and_true, hsy]
  · have hin : i = l.length := by omega
    subst hin
    rw [List.take_length] at hall
    simp only [↓Sh.stepDn, Sh.stepUp, seatFacts, exitTo, calm, isEff, Nat.reduceBEq, evs, evps, evo, isConst, reduceCtorEq, Nat.reduceEqDiff, resultsA, Sh.one, Sh.unit, forall_const, implies_true, eq_self, ne_eq, if_true, if_false, beq_self_eq_true, cond_true, cond_false, List.all_cons, List.all_nil, List.getElem?_cons_zero, List.getElem?_cons_succ, List.nil_append, List.append_nil, Option.bind_some, Option.map_some, Option.some.injEq, exists_eq_left', exists_eq', exists_eq, Prod.mk.injEq, exists_and_left, f0, f3, hlen, List.length_map, nat_lt, hlt, decide_false, forall_const, reduceCtorEq, false_implies, and_true, true_and, hres]
    rw [hall]
end Go.Proofs.Ytbnpoiibehkjpaa
/- Whether texts ascend. -/
set_option maxHeartbeats 4000000
set_option linter.unusedSimpArgs false
set_option linter.unusedVariables false
set_option pp.deepTerms.threshold 8
namespace Go.Proofs.Ytbnpoiibehkjpaa
open Go Go.Proofs Go.Proofs.Sh
/-- Each text is ahead of the next one. -/
def ascB : List ByteArray → Bool
  | x :: y :: l => strLt x y && ascB (y :: l)
  | _ => true
theorem ascB_iff : ∀ {l : List ByteArray}, ascB l = true ↔ ∀ (i : Nat) x y, l[i]? = some x → l[i + 1]? = some y → strLt x y = true
  | [] => by simp [ascB]
  | [a] => by simp [ascB]
  | a :: b :: l => by
    simp only [ascB, Bool.and_eq_true, ascB_iff (l := b :: l)]
    constructor
    · rintro ⟨h1, h2⟩ i x y hx hy
      cases i with
      | zero => simp only [List.getElem?_cons_zero, List.getElem?_cons_succ, Option.some.injEq] at hx hy; subst hx hy; exact h1
      | succ i => exact h2 i x y (by simpa using hx) (by simpa using hy)
    · intro h
      exact ⟨h 0 a b rfl rfl, fun i x y hx hy => h (i + 1) x y (by simpa using hx) (by simpa using hy)⟩
theorem asc_of {l : List ByteArray} (h : ascB l = true) : Asc l := by
  rw [ascB_iff] at h
  intro i j x y hij hx hy
  obtain ⟨d, rfl⟩ : ∃ d, j = i + 1 + d := ⟨j - i - 1, by omega⟩
  induction d generalizing y with
  | zero => exact h i x y hx hy
  | succ d ih =>
    have hjl := (List.getElem?_eq_some_iff.1 hy).1
    have hz : l[i + 1 + d]? = some (l[i + 1 + d]'(by omega)) := List.getElem?_eq_getElem (by omega)
    exact strLt_trans (ih _ (by omega) hz) (h _ _ _ hz hy)
theorem isSet {H : AH} {v : Value} {l : List ByteArray} (hs : Sl H v 1 (l.map strCell)) (hl : l.length ≤ 1048576) (hw : Wf H) :
    Sh.Call Try.prog (knows 7) 30 [v] H (fun r H' => H' = H ∧ r = .bool (ascB l)) := by
  refine call_of rfl Try.func30 rfl (Nat.le_of_ble_eq_true rfl) ?_
  have hres : Try.f30.results.toList = [.tmp 2] := rfl
  have hlen := hs.len Try.underlying22 H
  simp only [↓Sh.stepDn, Sh.stepUp, seatFacts, exitTo, calm, isEff, Nat.reduceBEq, evs, evps, evo, isConst, reduceCtorEq, Nat.reduceEqDiff, resultsA, Sh.one, Sh.unit, forall_const, implies_true, eq_self, ne_eq, if_true, if_false, beq_self_eq_true, cond_true, cond_false, List.all_cons, List.all_nil, List.getElem?_cons_zero, List.getElem?_cons_succ, List.nil_append, List.append_nil, Option.bind_some, Option.map_some, Option.some.injEq, exists_eq_left', exists_eq', exists_eq, Prod.mk.injEq, exists_and_left, ↓Sh.wp_cond]
  refine wp_while (fun m F H' => H' = H ∧ ∃ i : Nat, m = l.length - i ∧ 1 ≤ i ∧ F.get 0 = some v ∧ F.get 3 = some (.int .i64 (i : Int)) ∧ (∀ (j : Nat) x y, j + 1 < i → l[j]? = some x → l[j + 1]? = some y → strLt x y = true)) (m := l.length - 1) ⟨rfl, 1, rfl, Nat.le_refl _, by simp only [↓Sh.stepDn, Sh.stepUp, seatFacts, exitTo, calm, isEff, Nat.reduceBEq, evs, evps, evo, isConst, reduceCtorEq, Nat.reduceEqDiff, resultsA, Sh.one, Sh.unit, forall_const, implies_true, eq_self, ne_eq, if_true, if_false, beq_self_eq_true, cond_true, cond_false, List.all_cons, List.all_nil, List.getElem?_cons_zero, List.getElem?_cons_succ, List.nil_append, List.append_nil, Option.bind_some, Option.map_some, Option.some.injEq, exists_eq_left', exists_eq', exists_eq, Prod.mk.injEq, exists_and_left, ↓Sh.wp_cond], by simp only [↓Sh.stepDn, Sh.stepUp, seatFacts, exitTo, calm, isEff, Nat.reduceBEq, evs, evps, evo, isConst, reduceCtorEq, Nat.reduceEqDiff, resultsA, Sh.one, Sh.unit, forall_const, implies_true, eq_self, ne_eq, if_true, if_false, beq_self_eq_true, cond_true, cond_false, List.all_cons, List.all_nil, List.getElem?_cons_zero, List.getElem?_cons_succ, List.nil_append, List.append_nil, Option.bind_some, Option.map_some, Option.some.injEq, exists_eq_left', exists_eq', exists_eq, Prod.mk.injEq, exists_and_left, ↓Sh.wp_cond]; rfl, fun j x y h => by omega⟩ ?_
  rintro m F H' ⟨rfl, i, rfl, h1, f0, f3, hall⟩ k
  by_cases hlt : i < l.length
  · obtain ⟨g, o, kk, hia, hc, hcc⟩ := hs.at Try.underlying22 size_9 (i := i) (x := strCell l[i]) (by simp [hlt]) .i64
    have hy := hcc 0 _ rfl
    obtain ⟨g', o', kk', hia', hc', hcc'⟩ := hs.at Try.underlying22 size_9 (i := i - 1) (x := strCell (l[i - 1]'(by omega))) (by simp [List.getElem?_eq_getElem (show i - 1 < l.length by omega)]) .i64
    have hy' := hcc' 0 _ rfl
    have hw1 : IntKind.wrap .i64 ((i : Int) - 1) = ((i - 1 : Nat) : Int) := by rw [wrap64 (by omega) (by omega)]; omega
    simp only [Nat.add_zero] at hy hy'
    simp only [↓Sh.stepDn, Sh.stepUp, seatFacts, exitTo, calm, isEff, Nat.reduceBEq, evs, evps, evo, isConst, reduceCtorEq, Nat.reduceEqDiff, resultsA, Sh.one, Sh.unit, forall_const, implies_true, eq_self, ne_eq, if_true, if_false, beq_self_eq_true, cond_true, cond_false, List.all_cons, List.all_nil, List.getElem?_cons_zero, List.getElem?_cons_succ, List.nil_append, List.append_nil, Option.bind_some, Option.map_some, Option.some.injEq, exists_eq_left', exists_eq', exists_eq, Prod.mk.injEq, exists_and_left, ↓Sh.wp_cond, f0, f3, hlen, hia, hia', hy, hy', hw1, List.length_map, nat_lt, hlt, decide_true, forall_const, reduceCtorEq, false_implies, and_true, true_and, hres, Bool.not_eq_true', Bool.not_eq_false']
    have hx1 : l[i - 1]? = some (l[i - 1]'(by omega)) := List.getElem?_eq_getElem (by omega)
    have hx2 : l[i - 1 + 1]? = some l[i] := by rw [show i - 1 + 1 = i by omega]; exact List.getElem?_eq_getElem hlt
    refine ⟨fun h => ?_, fun h => k (l.length - (i + 1)) _ _ (by omega) ⟨rfl, i + 1, rfl, by omega, by simp only [↓Sh.stepDn, Sh.stepUp, seatFacts, exitTo, calm, isEff, Nat.reduceBEq, evs, evps, evo, isConst, reduceCtorEq, Nat.reduceEqDiff, resultsA, Sh.one, Sh.unit, forall_const, implies_true, eq_self, ne_eq, if_true, if_false, beq_self_eq_true, cond_true, cond_false, List.all_cons, List.all_nil, List.getElem?_cons_zero, List.getElem?_cons_succ, List.nil_append, List.append_nil, Option.bind_some, Option.map_some, Option.some.injEq, exists_eq_left', exists_eq', exists_eq, Prod.mk.injEq, exists_and_left, ↓Sh.wp_cond, f0], by simp only [↓Sh.stepDn, Sh.stepUp, seatFacts, exitTo, calm, isEff, Nat.reduceBEq, evs, evps, evo, isConst, reduceCtorEq, Nat.reduceEqDiff, resultsA, Sh.one, Sh.unit, forall_const, implies_true, eq_self, ne_eq, if_true, if_false, beq_self_eq_true, cond_true, cond_false, List.all_cons, List.all_nil, List.getElem?_cons_zero, List.getElem?_cons_succ, List.nil_append, List.append_nil, Option.bind_some, Option.map_some, Option.some.injEq, exists_eq_left', exists_eq', exists_eq, Prod.mk.injEq, exists_and_left, ↓Sh.wp_cond, wrap_succ hlt hl], fun j x y hj hx hy => ?_⟩⟩
    · have : ascB l = false := by
        cases hb : ascB l with
        | false => rfl
        | true => rw [ascB_iff.1 hb _ _ _ hx1 hx2] at h; cases h
      rw [this]
    · by_cases hji : j + 1 < i
      · exact hall j x y hji hx hy
      · have : j = i - 1 := by omega
        subst this
        rw [hx1] at hx
        rw [hx2] at hy
        rw [← Option.some.inj hx, ← Option.some.inj hy]
        exact h
  · simp only [↓Sh.stepDn, Sh.stepUp, seatFacts, exitTo, calm, isEff, Nat.reduceBEq, evs, evps, evo, isConst, reduceCtorEq, Nat.reduceEqDiff, resultsA, Sh.one, Sh.unit, forall_const, implies_true, eq_self, ne_eq, if_true, if_false, beq_self_eq_true, cond_true, cond_false, List.all_cons, List.all_nil, List.getElem?_cons_zero, List.getElem?_cons_succ, List.nil_append, List.append_nil, Option.bind_some, Option.map_some, Option.some.injEq, exists_eq_left', exists_eq', exists_eq, Prod.mk.injEq, exists_and_left, ↓Sh.wp_cond, f0, f3, hlen, List.length_map, nat_lt, hlt, decide_false, forall_const, reduceCtorEq, false_implies, and_true, true_and, hres]
    have : ascB l = true := ascB_iff.2 fun j x y hx hy => hall j x y (by have := (List.getElem?_eq_some_iff.1 hy).1; omega) hx hy
    rw [this]
end Go.Proofs.Ytbnpoiibehkjpaa
/- What is wrong with an alphabet, by the reference. -/
set_option maxHeartbeats 4000000
set_option linter.unusedSimpArgs false
set_option linter.unusedVariables false
set_option pp.deepTerms.threshold 8
namespace Go.Proofs.Ytbnpoiibehkjpaa
open Go Go.Proofs Go.Proofs.Sh
def anyLongB (l : List ByteArray) : Bool := l.any fun s => decide (16 < s.size)
def sigErr (l : List ByteArray) : Int := if (decide (40 < l.length) || anyLongB l) = true then 3 else if (l.all symOk && ascB l) = true then 0 else 1
theorem refSigma {H : AH} {v : Value} {l : List ByteArray} (hs : Sl H v 1 (l.map strCell)) (hl : l.length ≤ 1048576) (hlx : ∀ x ∈ l, x.size ≤ 1048576) (hw : Wf H) :
    Sh.Call Try.prog (knows 7) 16 [v] H (fun r H' => Kept H H' ∧ r = .int .i64 (sigErr l)) := by
  refine call_of rfl Try.func16 rfl (Nat.le_of_ble_eq_true rfl) ?_
  have hres : Try.f16.results.toList = [.tmp 2] := rfl
  have hlen := hs.len Try.underlying22 H
  have e40 : decide ((40 : Int) < ((l.length : Nat) : Int)) = decide (40 < l.length) := by by_cases h : 40 < l.length <;> simp [h] <;> omega
  simp only [↓Sh.stepDn, Sh.stepUp, seatFacts, exitTo, calm, isEff, Nat.reduceBEq, evs, evps, evo, isConst, reduceCtorEq, Nat.reduceEqDiff, resultsA, Sh.one, Sh.unit, forall_const, implies_true, eq_self, ne_eq, if_true, if_false, beq_self_eq_true, cond_true, cond_false, List.all_cons, List.all_nil, List.getElem?_cons_zero, List.getElem?_cons_succ, List.nil_append, List.append_nil, Option.bind_some, Option.map_some, Option.some.injEq, exists_eq_left', exists_eq', exists_eq, Prod.mk.injEq, exists_and_left, hlen, List.length_map, e40]
  by_cases h40 : 40 < l.length
  · simp only [↓Sh.stepDn, Sh.stepUp, seatFacts, exitTo, calm, isEff, Nat.reduceBEq, evs, evps, evo, isConst, reduceCtorEq, Nat.reduceEqDiff, resultsA, Sh.one, Sh.unit, forall_const, implies_true, eq_self, ne_eq, if_true, if_false, beq_self_eq_true, cond_true, cond_false, List.all_cons, List.all_nil, List.getElem?_cons_zero, List.getElem?_cons_succ, List.nil_append, List.append_nil, Option.bind_some, Option.map_some, Option.some.injEq, exists_eq_left', exists_eq', exists_eq, Prod.mk.injEq, exists_and_left, h40, decide_true, hres, sigErr, Bool.true_or, forall_const, reduceCtorEq, false_implies, and_true, Kept.refl hw]
  · simp only [↓Sh.stepDn, Sh.stepUp, seatFacts, exitTo, calm, isEff, Nat.reduceBEq, evs, evps, evo, isConst, reduceCtorEq, Nat.reduceEqDiff, resultsA, Sh.one, Sh.unit, forall_const, implies_true, eq_self, ne_eq, if_true, if_false, beq_self_eq_true, cond_true, cond_false, List.all_cons, List.all_nil, List.getElem?_cons_zero, List.getElem?_cons_succ, List.nil_append, List.append_nil, Option.bind_some, Option.map_some, Option.some.injEq, exists_eq_left', exists_eq', exists_eq, Prod.mk.injEq, exists_and_left, h40, decide_false]
    obtain ⟨r1, H1, hd1, hk1, rfl⟩ := anyLong hs hl hw
    refine ⟨_, _, hd1, ?_⟩
    cases hL : (l.any fun s => decide (16 < s.size)) with
    | true => simp only [↓Sh.stepDn, Sh.stepUp, seatFacts, exitTo, calm, isEff, Nat.reduceBEq, evs, evps, evo, isConst, reduceCtorEq, Nat.reduceEqDiff, resultsA, Sh.one, Sh.unit, forall_const, implies_true, eq_self, ne_eq, if_true, if_false, beq_self_eq_true, cond_true, cond_false, List.all_cons, List.all_nil, List.getElem?_cons_zero, List.getElem?_cons_succ, List.nil_append, List.append_nil, Option.bind_some, Option.map_some, Option.some.injEq, exists_eq_left', exists_eq', exists_eq, Prod.mk.injEq, exists_and_left, hres, hL, sigErr, anyLongB, h40, decide_false, Bool.false_or, forall_const, reduceCtorEq, false_implies, and_true, hk1]
    | false =>
      simp only [↓Sh.stepDn, Sh.stepUp, seatFacts, exitTo, calm, isEff, Nat.reduceBEq, evs, evps, evo, isConst, reduceCtorEq, Nat.reduceEqDiff, resultsA, Sh.one, Sh.unit, forall_const, implies_true, eq_self, ne_eq, if_true, if_false, beq_self_eq_true, cond_true, cond_false, List.all_cons, List.all_nil, List.getElem?_cons_zero, List.getElem?_cons_succ, List.nil_append, List.append_nil, Option.bind_some, Option.map_some, Option.some.injEq, exists_eq_left', exists_eq', exists_eq, Prod.mk.injEq, exists_and_left, forall_const, reduceCtorEq, false_implies, and_true, true_and]
      obtain ⟨r2, H2, hd2, rfl, rfl⟩ := allSymbols (hs.grow (hk1.grow hw)) hl hlx hk1.wf
      refine ⟨_, _, hd2, ?_⟩
      cases hA : l.all symOk with
      | false => simp only [↓Sh.stepDn, Sh.stepUp, seatFacts, exitTo, calm, isEff, Nat.reduceBEq, evs, evps, evo, isConst, reduceCtorEq, Nat.reduceEqDiff, resultsA, Sh.one, Sh.unit, forall_const, implies_true, eq_self, ne_eq, if_true, if_false, beq_self_eq_true, cond_true, cond_false, List.all_cons, List.all_nil, List.getElem?_cons_zero, List.getElem?_cons_succ, List.nil_append, List.append_nil, Option.bind_some, Option.map_some, Option.some.injEq, exists_eq_left', exists_eq', exists_eq, Prod.mk.injEq, exists_and_left, hres, hL, hA, sigErr, anyLongB, h40, decide_false, Bool.false_or, Bool.false_and, Bool.not_false, forall_const, reduceCtorEq, false_implies, and_true, hk1]
      | true =>
        obtain ⟨r3, H3, hd3, rfl, rfl⟩ := isSet (hs.grow (hk1.grow hw)) hl hk1.wf
        simp only [↓Sh.stepDn, Sh.stepUp, seatFacts, exitTo, calm, isEff, Nat.reduceBEq, evs, evps, evo, isConst, reduceCtorEq, Nat.reduceEqDiff, resultsA, Sh.one, Sh.unit, forall_const, implies_true, eq_self, ne_eq, if_true, if_false, beq_self_eq_true, cond_true, cond_false, List.all_cons, List.all_nil, List.getElem?_cons_zero, List.getElem?_cons_succ, List.nil_append, List.append_nil, Option.bind_some, Option.map_some, Option.some.injEq, exists_eq_left', exists_eq', exists_eq, Prod.mk.injEq, exists_and_left, Bool.not_true, forall_const, reduceCtorEq, false_implies, and_true, true_and]
        refine ⟨_, _, hd3, ?_⟩
        cases hS : ascB l with
        | true => simp only [↓Sh.stepDn, Sh.stepUp, seatFacts, exitTo, calm, isEff, Nat.reduceBEq, evs, evps, evo, isConst, reduceCtorEq, Nat.reduceEqDiff, resultsA, Sh.one, Sh.unit, forall_const, implies_true, eq_self, ne_eq, if_true, if_false, beq_self_eq_true, cond_true, cond_false, List.all_cons, List.all_nil, List.getElem?_cons_zero, List.getElem?_cons_succ, List.nil_append, List.append_nil, Option.bind_some, Option.map_some, Option.some.injEq, exists_eq_left', exists_eq', exists_eq, Prod.mk.injEq, exists_and_left, hres, hL, hA, hS, sigErr, anyLongB, h40, decide_false, Bool.false_or, Bool.true_and, Bool.not_true, forall_const, reduceCtorEq, false_implies, and_true, true_and, hk1]
        | false => simp only [↓Sh.stepDn, Sh.stepUp, seatFacts, exitTo, calm, isEff, Nat.reduceBEq, evs, evps, evo, isConst, reduceCtorEq, Nat.reduceEqDiff, resultsA, Sh.one, Sh.unit, forall_const, implies_true, eq_self, ne_eq, if_true, if_false, beq_self_eq_true, cond_true, cond_false, List.all_cons, List.all_nil, List.getElem?_cons_zero, List.getElem?_cons_succ, List.nil_append, List.append_nil, Option.bind_some, Option.map_some, Option.some.injEq, exists_eq_left', exists_eq', exists_eq, Prod.mk.injEq, exists_and_left, hres, hL, hA, hS, sigErr, anyLongB, h40, decide_false, Bool.false_or, Bool.true_and, Bool.not_false, forall_const, reduceCtorEq, false_implies, and_true, true_and, hk1]
end Go.Proofs.Ytbnpoiibehkjpaa
/- sort.Search: the first place at which a question that stays true is true. -/
set_option maxHeartbeats 4000000
set_option linter.unusedSimpArgs false
set_option linter.unusedVariables false
set_option pp.deepTerms.threshold 8
namespace Go.Proofs.Ytbnpoiibehkjpaa
open Go Go.Proofs Go.Proofs.Sh
theorem half (a b : Nat) (h : a + b < 2097152) : ashift false .u64 (IntKind.wrap .u64 (IntKind.wrap .i64 ((a : Int) + (b : Int)))) 1 = some (.int .u64 (((a + b) / 2 : Nat) : Int)) := by
  rw [wrap64 (by omega) (by omega)]
  have e : IntKind.wrap .u64 ((a : Int) + (b : Int)) = ((a + b : Nat) : Int) := by
    simp only [IntKind.wrap]
    simp [IntKind.bits, IntKind.signed]
    omega
  rw [e]
  simp only [ashift, intLe_eq]
  simp [IntKind.bits, Int.fdiv_eq_ediv]
theorem search {H : AH} {n fid : Nat} {caps : List Value} (p : Nat → Bool) (hn : n ≤ 1048576) (hp : ∀ i, i < n → Sh.Call Try.prog (knows 7) fid (.int .i64 (i : Int) :: caps) H (fun r H' => r = .bool (p i) ∧ H' = H)) (hm : ∀ a b, a ≤ b → b < n → p a = true → p b = true) (hw : Wf H) :
    Sh.Call Try.prog (knows 7) 49 [.int .i64 (n : Int), .func (.func fid) #[] caps.toArray] H (fun r H' => H' = H ∧ ∃ k : Nat, r = .int .i64 (k : Int) ∧ k ≤ n ∧ (∀ i, i < k → p i = false) ∧ (∀ i, k ≤ i → i < n → p i = true)) := by
  refine call_of rfl Try.func49 rfl (Nat.le_of_ble_eq_true rfl) ?_
  have hres : Try.f49.results.toList = [.tmp 4] := rfl
  simp only [↓Sh.stepDn, Sh.stepUp, seatFacts, exitTo, calm, isEff, Nat.reduceBEq, evs, evps, evo, isConst, reduceCtorEq, Nat.reduceEqDiff, resultsA, Sh.one, Sh.unit, forall_const, implies_true, eq_self, ne_eq, if_true, if_false, beq_self_eq_true, cond_true, cond_false, List.all_cons, List.all_nil, List.getElem?_cons_zero, List.getElem?_cons_succ, List.nil_append, List.append_nil, Option.bind_some, Option.map_some, Option.some.injEq, exists_eq_left', exists_eq', exists_eq, Prod.mk.injEq, exists_and_left]
  refine wp_while (fun m F H' => H' = H ∧ ∃ a b : Nat, m = b - a ∧ a ≤ b ∧ b ≤ n ∧ F.get 5 = some (.int .i64 (a : Int)) ∧ F.get 6 = some (.int .i64 (b : Int)) ∧ F.get 1 = some (.func (.func fid) #[] caps.toArray) ∧ (∀ i, i < a → p i = false) ∧ (∀ i, b ≤ i → i < n → p i = true)) (m := n) ⟨rfl, 0, n, by omega, by omega, by omega, by simp only [↓Sh.stepDn, Sh.stepUp, seatFacts, exitTo, calm, isEff, Nat.reduceBEq, evs, evps, evo, isConst, reduceCtorEq, Nat.reduceEqDiff, resultsA, Sh.one, Sh.unit, forall_const, implies_true, eq_self, ne_eq, if_true, if_false, beq_self_eq_true, cond_true, cond_false, List.all_cons, List.all_nil, List.getElem?_cons_zero, List.getElem?_cons_succ, List.nil_append, List.append_nil, Option.bind_some, Option.map_some, Option.some.injEq, exists_eq_left', exists_eq', exists_eq, Prod.mk.injEq, exists_and_left]; rfl, by simp only [↓Sh.stepDn, Sh.stepUp, seatFacts, exitTo, calm, isEff, Nat.reduceBEq, evs, evps, evo, isConst, reduceCtorEq, Nat.reduceEqDiff, resultsA, Sh.one, Sh.unit, forall_const, implies_true, eq_self, ne_eq, if_true, if_false, beq_self_eq_true, cond_true, cond_false, List.all_cons, List.all_nil, List.getElem?_cons_zero, List.getElem?_cons_succ, List.nil_append, List.append_nil, Option.bind_some, Option.map_some, Option.some.injEq, exists_eq_left', exists_eq', exists_eq, Prod.mk.injEq, exists_and_left], by simp only [↓Sh.stepDn, Sh.stepUp, seatFacts, exitTo, calm, isEff, Nat.reduceBEq, evs, evps, evo, isConst, reduceCtorEq, Nat.reduceEqDiff, resultsA, Sh.one, Sh.unit, forall_const, implies_true, eq_self, ne_eq, if_true, if_false, beq_self_eq_true, cond_true, cond_false, List.all_cons, List.all_nil, List.getElem?_cons_zero, List.getElem?_cons_succ, List.nil_append, List.append_nil, Option.bind_some, Option.map_some, Option.some.injEq, exists_eq_left', exists_eq', exists_eq, Prod.mk.injEq, exists_and_left], fun i h => by omega, fun i h1 h2 => by omega⟩ ?_
  rintro m F H' ⟨rfl, a, b, rfl, hab, hbn, f5, f6, f1, hlo, hhi⟩ k
  by_cases hlt : a < b
  · obtain ⟨r, H1, hd, rfl, rfl⟩ := hp ((a + b) / 2) (by omega)
    have hw2 : IntKind.wrap .i64 (((a + b) / 2 : Nat) : Int) = (((a + b) / 2 : Nat) : Int) := wrap64 (by omega) (by omega)
    simp only [↓Sh.stepDn, Sh.stepUp, seatFacts, exitTo, calm, isEff, Nat.reduceBEq, evs, evps, evo, isConst, reduceCtorEq, Nat.reduceEqDiff, resultsA, Sh.one, Sh.unit, forall_const, implies_true, eq_self, ne_eq, if_true, if_false, beq_self_eq_true, cond_true, cond_false, List.all_cons, List.all_nil, List.getElem?_cons_zero, List.getElem?_cons_succ, List.nil_append, List.append_nil, Option.bind_some, Option.map_some, Option.some.injEq, exists_eq_left', exists_eq', exists_eq, Prod.mk.injEq, exists_and_left, f5, f6, f1, nat_lt, hlt, decide_true, forall_const, reduceCtorEq, false_implies, and_true, true_and, b_shr, half a b (by omega), hw2, Value.func.injEq, Fn.func.injEq]
    refine ⟨_, _, hd, ?_⟩
    cases hpv : p ((a + b) / 2) with
    | false =>
      have hw3 : IntKind.wrap .i64 ((((a + b) / 2 : Nat) : Int) + 1) = (((a + b) / 2 + 1 : Nat) : Int) := wrap_succ (n := n) (by omega) hn
      simp only [↓Sh.stepDn, Sh.stepUp, seatFacts, exitTo, calm, isEff, Nat.reduceBEq, evs, evps, evo, isConst, reduceCtorEq, Nat.reduceEqDiff, resultsA, Sh.one, Sh.unit, forall_const, implies_true, eq_self, ne_eq, if_true, if_false, beq_self_eq_true, cond_true, cond_false, List.all_cons, List.all_nil, List.getElem?_cons_zero, List.getElem?_cons_succ, List.nil_append, List.append_nil, Option.bind_some, Option.map_some, Option.some.injEq, exists_eq_left', exists_eq', exists_eq, Prod.mk.injEq, exists_and_left, hpv, Bool.not_false, Bool.not_true, forall_const, reduceCtorEq, false_implies, and_true, true_and, hw3]
      refine k (b - ((a + b) / 2 + 1)) _ _ (by omega) ⟨rfl, (a + b) / 2 + 1, b, rfl, by omega, hbn, by simp only [↓Sh.stepDn, Sh.stepUp, seatFacts, exitTo, calm, isEff, Nat.reduceBEq, evs, evps, evo, isConst, reduceCtorEq, Nat.reduceEqDiff, resultsA, Sh.one, Sh.unit, forall_const, implies_true, eq_self, ne_eq, if_true, if_false, beq_self_eq_true, cond_true, cond_false, List.all_cons, List.all_nil, List.getElem?_cons_zero, List.getElem?_cons_succ, List.nil_append, List.append_nil, Option.bind_some, Option.map_some, Option.some.injEq, exists_eq_left', exists_eq', exists_eq, Prod.mk.injEq, exists_and_left], by simp only [↓Sh.stepDn, Sh.stepUp, seatFacts, exitTo, calm, isEff, Nat.reduceBEq, evs, evps, evo, isConst, reduceCtorEq, Nat.reduceEqDiff, resultsA, Sh.one, Sh.unit, forall_const, implies_true, eq_self, ne_eq, if_true, if_false, beq_self_eq_true, cond_true, cond_false, List.all_cons, List.all_nil, List.getElem?_cons_zero, List.getElem?_cons_succ, List.nil_append, List.append_nil, Option.bind_some, Option.map_some, Option.some.injEq, exists_eq_left', exists_eq', exists_eq, Prod.mk.injEq, exists_and_left, f6], by simp only [↓Sh.stepDn, Sh.stepUp, seatFacts, exitTo, calm, isEff, Nat.reduceBEq, evs, evps, evo, isConst, reduceCtorEq, Nat.reduceEqDiff, resultsA, Sh.one, Sh.unit, forall_const, implies_true, eq_self, ne_eq, if_true, if_false, beq_self_eq_true, cond_true, cond_false, List.all_cons, List.all_nil, List.getElem?_cons_zero, List.getElem?_cons_succ, List.nil_append, List.append_nil, Option.bind_some, Option.map_some, Option.some.injEq, exists_eq_left', exists_eq', exists_eq, Prod.mk.injEq, exists_and_left, f1], fun i hi => ?_, hhi⟩
      cases hpi : p i with
      | false => rfl
      | true => rw [hm i ((a + b) / 2) (by omega) (by omega) hpi] at hpv; cases hpv
    | true =>
      simp only [↓Sh.stepDn, Sh.stepUp, seatFacts, exitTo, calm, isEff, Nat.reduceBEq, evs, evps, evo, isConst, reduceCtorEq, Nat.reduceEqDiff, resultsA, Sh.one, Sh.unit, forall_const, implies_true, eq_self, ne_eq, if_true, if_false, beq_self_eq_true, cond_true, cond_false, List.all_cons, List.all_nil, List.getElem?_cons_zero, List.getElem?_cons_succ, List.nil_append, List.append_nil, Option.bind_some, Option.map_some, Option.some.injEq, exists_eq_left', exists_eq', exists_eq, Prod.mk.injEq, exists_and_left, hpv, Bool.not_false, Bool.not_true, forall_const, reduceCtorEq, false_implies, and_true, true_and]
      exact k ((a + b) / 2 - a) _ _ (by omega) ⟨rfl, a, (a + b) / 2, rfl, by omega, by omega, by simp only [↓Sh.stepDn, Sh.stepUp, seatFacts, exitTo, calm, isEff, Nat.reduceBEq, evs, evps, evo, isConst, reduceCtorEq, Nat.reduceEqDiff, resultsA, Sh.one, Sh.unit, forall_const, implies_true, eq_self, ne_eq, if_true, if_false, beq_self_eq_true, cond_true, cond_false, List.all_cons, List.all_nil, List.getElem?_cons_zero, List.getElem?_cons_succ, List.nil_append, List.append_nil, Option.bind_some, Option.map_some, Option.some.injEq, exists_eq_left', exists_eq', exists_eq, Prod.mk.injEq, exists_and_left, f5], by simp only [↓Sh.stepDn, Sh.stepUp, seatFacts, exitTo, calm, isEff, Nat.reduceBEq, evs, evps, evo, isConst, reduceCtorEq, Nat.reduceEqDiff, resultsA, Sh.one, Sh.unit, forall_const, implies_true, eq_self, ne_eq, if_true, if_false, beq_self_eq_true, cond_true, cond_false, List.all_cons, List.all_nil, List.getElem?_cons_zero, List.getElem?_cons_succ, List.nil_append, List.append_nil, Option.bind_some, Option.map_some, Option.some.injEq, exists_eq_left', exists_eq', exists_eq, Prod.mk.injEq, exists_and_left], by simp only [↓Sh.stepDn, Sh.stepUp, seatFacts, exitTo, calm, isEff, Nat.reduceBEq, evs, evps, evo, isConst, reduceCtorEq, Nat.reduceEqDiff, resultsA, Sh.one, Sh.unit, forall_const, implies_true, eq_self, ne_eq, if_true, if_false, beq_self_eq_true, cond_true, cond_false, List.all_cons, List.all_nil, List.getElem?_cons_zero, List.getElem?_cons_succ, List.nil_append, List.append_nil, Option.bind_some, Option.map_some, Option.some.injEq, exists_eq_left', exists_eq', exists_eq, Prod.mk.injEq, exists_and_left, f1], hlo, fun i h1 h2 => hm _ i h1 h2 hpv⟩
  · have hab' : a = b := by omega
    subst hab'
    simp only [↓Sh.stepDn, Sh.stepUp, seatFacts, exitTo, calm, isEff, Nat.reduceBEq, evs, evps, evo, isConst, reduceCtorEq, Nat.reduceEqDiff, resultsA, Sh.one, Sh.unit, forall_const, implies_true, eq_self, ne_eq, if_true, if_false, beq_self_eq_true, cond_true, cond_false, List.all_cons, List.all_nil, List.getElem?_cons_zero, List.getElem?_cons_succ, List.nil_append, List.append_nil, Option.bind_some, Option.map_some, Option.some.injEq, exists_eq_left', exists_eq', exists_eq, Prod.mk.injEq, exists_and_left, f5, f6, f1, nat_lt, hlt, decide_false, forall_const, reduceCtorEq, false_implies, and_true, true_and, hres]
    exact ⟨a, rfl, hbn, hlo, hhi⟩
end Go.Proofs.Ytbnpoiibehkjpaa
/- What sort.SearchStrings asks of a place. -/
set_option maxHeartbeats 4000000
set_option linter.unusedSimpArgs false
namespace Go.Proofs.Ytbnpoiibehkjpaa
open Go Go.Proofs Go.Proofs.Sh
theorem searchAt {H : AH} {g1 o1 k1 g2 o2 k2 i : Nat} {v : Value} {x y : ByteArray} {l : List ByteArray} (h1 : H.cell ⟨g1, o1, some k1⟩ = some v) (h2 : H.cell ⟨g2, o2, some k2⟩ = some (.string x)) (hs : Sl H v 1 (l.map strCell)) (hi : l[i]? = some y) (hw : Wf H) :
    Sh.Call Try.prog (knows 7) 50 [.int .i64 (i : Int), .pointer (some ⟨g1, o1, some k1⟩), .pointer (some ⟨g2, o2, some k2⟩)] H (fun r H' => r = .bool (!strLt y x) ∧ H' = H) := by
  refine call_of rfl Try.func50 rfl (Nat.le_of_ble_eq_true rfl) ?_
  have hres : Try.f50.results.toList = [.tmp 4] := rfl
  obtain ⟨g, o, kk, hia, hc, hcc⟩ := hs.at Try.underlying22 size_9 (i := i) (x := strCell y) (by simp [hi]) .i64
  have hy := hcc 0 _ rfl
  simp only [Nat.add_zero] at hy
  simp only [↓Sh.stepDn, Sh.stepUp, seatFacts, exitTo, calm, isEff, Nat.reduceBEq, evs, evps, evo, isConst, reduceCtorEq, Nat.reduceEqDiff, resultsA, Sh.one, Sh.unit, forall_const, implies_true, eq_self, ne_eq, if_true, if_false, beq_self_eq_true, cond_true, cond_false, List.all_cons, List.all_nil, List.getElem?_cons_zero, List.getElem?_cons_succ, List.nil_append, List.append_nil, Option.bind_some, Option.map_some, Option.some.injEq, exists_eq_left', exists_eq', exists_eq, Prod.mk.injEq, exists_and_left, h1, h2, hia, hy, hres, true_and, and_true]
end Go.Proofs.Ytbnpoiibehkjpaa
/- sort.SearchStrings over an ascending list. -/
set_option maxHeartbeats 4000000
set_option linter.unusedSimpArgs false
set_option linter.unusedVariables false
set_option pp.deepTerms.threshold 8
namespace Go.Proofs.Ytbnpoiibehkjpaa
open Go Go.Proofs Go.Proofs.Sh
theorem searchStrings {H : AH} {v : Value} {x : ByteArray} {l : List ByteArray} (hs : Sl H v 1 (l.map strCell)) (ha : Asc l) (hl : l.length ≤ 1048576) (hw : Wf H) :
    Sh.Call Try.prog (knows 7) 31 [v, .string x] H (fun r H' => Kept H H' ∧ ∃ k : Nat, r = .int .i64 (k : Int) ∧ k ≤ l.length ∧ (∀ (i : Nat) y, i < k → l[i]? = some y → strLt y x = true) ∧ (∀ (i : Nat) y, k ≤ i → l[i]? = some y → strLt y x = false)) := by
  refine call_of rfl Try.func31 rfl (Nat.le_of_ble_eq_true rfl) ?_
  have hres : Try.f31.results.toList = [.tmp 4] := rfl
  have hn1 := new_cell (P := Try.prog) (H := H) (t := 22) size_22 hs.isCell
  have hk1 := Kept.new hw 1 [v]
  have hO1 := Obj.new (H := H) 1 [v]
  have hn2 := new_cell (P := Try.prog) (H := (H.new 1 [v]).2) (t := 9) (v := .string x) size_9 rfl
  have hk2 := hk1.trans (Kept.new hk1.wf 1 [.string x])
  have hO2 := Obj.new (H := (H.new 1 [v]).2) 1 [.string x]
  have hO1' : Sh.Obj ((H.new 1 [v]).2.new 1 [.string x]).2 H.next 1 [v] true := by
    unfold Sh.Obj
    rw [new_old (by rw [new_nx]; omega)]
    exact hO1
  simp only [↓Sh.stepDn, Sh.stepUp, seatFacts, exitTo, calm, isEff, Nat.reduceBEq, evs, evps, evo, isConst, reduceCtorEq, Nat.reduceEqDiff, resultsA, Sh.one, Sh.unit, forall_const, implies_true, eq_self, ne_eq, if_true, if_false, beq_self_eq_true, cond_true, cond_false, List.all_cons, List.all_nil, List.getElem?_cons_zero, List.getElem?_cons_succ, List.nil_append, List.append_nil, Option.bind_some, Option.map_some, Option.some.injEq, exists_eq_left', exists_eq', exists_eq, Prod.mk.injEq, exists_and_left, hn1, hn2]
  have hx1 : (H.new 1 [v]).2.next = H.next + 1 := rfl
  rw [hx1] at hO2 ⊢
  generalize ((H.new 1 [v]).2.new 1 [.string x]).2 = H2 at hO1' hO2 hk2 ⊢
  have c1 : H2.cell ⟨H.next, 0, some 0⟩ = some v := hO1'.cell
  have c2 : H2.cell ⟨H.next + 1, 0, some 0⟩ = some (.string x) := hO2.cell
  have hs2 := hs.grow (hk2.grow hw)
  have hlen := hs2.len Try.underlying22 H2
  simp only [c1, hlen, List.length_map, ↓Sh.stepDn, Sh.stepUp, seatFacts, exitTo, calm, isEff, Nat.reduceBEq, evs, evps, evo, isConst, reduceCtorEq, Nat.reduceEqDiff, resultsA, Sh.one, Sh.unit, forall_const, implies_true, eq_self, ne_eq, if_true, if_false, beq_self_eq_true, cond_true, cond_false, List.all_cons, List.all_nil, List.getElem?_cons_zero, List.getElem?_cons_succ, List.nil_append, List.append_nil, Option.bind_some, Option.map_some, Option.some.injEq, exists_eq_left', exists_eq', exists_eq, Prod.mk.injEq, exists_and_left]
  obtain ⟨r, H3, hd, rfl, k, rfl, hk, hlo, hhi⟩ := search (H := H2) (n := l.length) (caps := [.pointer (some ⟨H.next, 0, some 0⟩), .pointer (some ⟨H.next + 1, 0, some 0⟩)]) (fid := 50) (fun i => match l[i]? with | some y => !strLt y x | none => true) hl
    (fun i hi => by
      have hy : l[i]? = some (l[i]'hi) := List.getElem?_eq_getElem hi
      simp only [hy]
      exact searchAt c1 c2 hs2 hy hk2.wf)
    (fun a b hab hb => by
      have hya : l[a]? = some (l[a]'(by omega)) := List.getElem?_eq_getElem (by omega)
      have hyb : l[b]? = some (l[b]'hb) := List.getElem?_eq_getElem hb
      simp only [hya, hyb, Bool.not_eq_true']
      intro h
      rcases Nat.lt_or_ge a b with hlt | hge
      · cases h2 : strLt l[b] x with
        | false => rfl
        | true => rw [strLt_trans (ha a b _ _ hlt hya hyb) h2] at h; cases h
      · have : a = b := by omega
        subst this
        exact h) hk2.wf
  refine ⟨_, _, hd, ?_⟩
  simp only [↓Sh.stepDn, Sh.stepUp, seatFacts, exitTo, calm, isEff, Nat.reduceBEq, evs, evps, evo, isConst, reduceCtorEq, Nat.reduceEqDiff, resultsA, Sh.one, Sh.unit, forall_const, implies_true, eq_self, ne_eq, if_true, if_false, beq_self_eq_true, cond_true, cond_false, List.all_cons, List.all_nil, List.getElem?_cons_zero, List.getElem?_cons_succ, List.nil_append, List.append_nil, Option.bind_some, Option.map_some, Option.some.injEq, exists_eq_left', exists_eq', exists_eq, Prod.mk.injEq, exists_and_left, hres]
  refine ⟨hk2, k, rfl, hk, fun i y hi hy => ?_, fun i y hi hy => ?_⟩
  · have := hlo i hi
    simpa [hy] using this
  · have hil := (List.getElem?_eq_some_iff.1 hy).1
    have := hhi i hi hil
    simpa [hy] using this
end Go.Proofs.Ytbnpoiibehkjpaa
/- Whether a text is in an ascending list. -/
set_option maxHeartbeats 4000000
set_option linter.unusedSimpArgs false
set_option linter.unusedVariables false
set_option pp.deepTerms.threshold 8
namespace Go.Proofs.Ytbnpoiibehkjpaa
open Go Go.Proofs Go.Proofs.Sh
theorem isIn {H : AH} {v : Value} {x : ByteArray} {l : List ByteArray} (hs : Sl H v 1 (l.map strCell)) (ha : Asc l) (hl : l.length ≤ 1048576) (hw : Wf H) :
    Sh.Call Try.prog (knows 7) 17 [v, .string x] H (fun r H' => Kept H H' ∧ r = .bool (strIn l x)) := by
  refine call_of rfl Try.func17 rfl (Nat.le_of_ble_eq_true rfl) ?_
  have hres : Try.f17.results.toList = [.tmp 4] := rfl
  obtain ⟨r, H1, hd, hk1, k, rfl, hk, hlo, hhi⟩ := searchStrings hs ha hl hw (x := x)
  have hp := asc_place ha x hlo hhi
  simp only [↓Sh.stepDn, Sh.stepUp, seatFacts, exitTo, calm, isEff, Nat.reduceBEq, evs, evps, evo, isConst, reduceCtorEq, Nat.reduceEqDiff, resultsA, Sh.one, Sh.unit, forall_const, implies_true, eq_self, ne_eq, if_true, if_false, beq_self_eq_true, cond_true, cond_false, List.all_cons, List.all_nil, List.getElem?_cons_zero, List.getElem?_cons_succ, List.nil_append, List.append_nil, Option.bind_some, Option.map_some, Option.some.injEq, exists_eq_left', exists_eq', exists_eq, Prod.mk.injEq, exists_and_left]
  refine ⟨_, _, hd, ?_⟩
  have hs1 := hs.grow (hk1.grow hw)
  have hlen := hs1.len Try.underlying22 H1
  by_cases hlt : k < l.length
  · have hy : l[k]? = some (l[k]'hlt) := List.getElem?_eq_getElem hlt
    obtain ⟨g, o, kk, hia, hc, hcc⟩ := hs1.at Try.underlying22 size_9 (i := k) (x := strCell l[k]) (by simp [hlt]) .i64
    have hyc := hcc 0 _ rfl
    simp only [Nat.add_zero] at hyc
    simp only [↓Sh.stepDn, Sh.stepUp, seatFacts, exitTo, calm, isEff, Nat.reduceBEq, evs, evps, evo, isConst, reduceCtorEq, Nat.reduceEqDiff, resultsA, Sh.one, Sh.unit, forall_const, implies_true, eq_self, ne_eq, if_true, if_false, beq_self_eq_true, cond_true, cond_false, List.all_cons, List.all_nil, List.getElem?_cons_zero, List.getElem?_cons_succ, List.nil_append, List.append_nil, Option.bind_some, Option.map_some, Option.some.injEq, exists_eq_left', exists_eq', exists_eq, Prod.mk.injEq, exists_and_left, hlen, List.length_map, nat_lt, hlt, decide_true, hia, hyc, hres, forall_const, not_true_eq_false, false_implies, and_true, true_and]
    refine ⟨hk1, ?_⟩
    have : decide (l[k] = x) = strIn l x := by
      rw [Bool.eq_iff_iff, decide_eq_true_eq, strIn_iff, ← hp, hy, Option.some.injEq]
    rw [this]
  · simp only [↓Sh.stepDn, Sh.stepUp, seatFacts, exitTo, calm, isEff, Nat.reduceBEq, evs, evps, evo, isConst, reduceCtorEq, Nat.reduceEqDiff, resultsA, Sh.one, Sh.unit, forall_const, implies_true, eq_self, ne_eq, if_true, if_false, beq_self_eq_true, cond_true, cond_false, List.all_cons, List.all_nil, List.getElem?_cons_zero, List.getElem?_cons_succ, List.nil_append, List.append_nil, Option.bind_some, Option.map_some, Option.some.injEq, exists_eq_left', exists_eq', exists_eq, Prod.mk.injEq, exists_and_left, hlen, List.length_map, nat_lt, hlt, decide_false, Bool.not_true, hres, forall_const, not_true_eq_false, false_implies, and_true, true_and]
    refine ⟨hk1, ?_⟩
    have : strIn l x = false := by
      cases h : strIn l x with
      | false => rfl
      | true =>
        have := hp.2 (strIn_iff.1 h)
        rw [List.getElem?_eq_none (by omega)] at this; cases this
    rw [this]
end Go.Proofs.Ytbnpoiibehkjpaa
/- What is wrong with a net of any kind, by the reference. -/
set_option maxHeartbeats 4000000
set_option linter.unusedSimpArgs false
set_option linter.unusedVariables false
set_option pp.deepTerms.threshold 8
namespace Go.Proofs.Ytbnpoiibehkjpaa
open Go Go.Proofs Go.Proofs.Sh
def badSym (N : NetD) (s : ByteArray) : Bool := !decide (s = ⟨#[]⟩) && !strIn N.sigma s
def badArc (N : NetD) (a : ArcD) : Bool := decide (a.fr < 0) || decide (N.states ≤ a.fr) || decide (a.to < 0) || decide (N.states ≤ a.to) || badSym N a.inn || badSym N a.out
def badEnd (N : NetD) (e : EndD) : Bool := decide (e.state < 0) || decide (N.states ≤ e.state)
def tooLarge (N : NetD) : Bool := decide (3000 < N.states) || decide (60000 < N.arcs.length) || decide (60000 < N.ends.length)
def netErr (N : NetD) : Int := if tooLarge N = true then 3 else if sigErr N.sigma ≠ 0 then sigErr N.sigma else if N.states < 1 then 1 else if N.arcs.any (badArc N) = true then 1 else if N.ends.any (badEnd N) = true then 1 else 0
theorem sigErr_asc {l : List ByteArray} (h : sigErr l = 0) : Asc l := by
  unfold sigErr at h
  split at h
  · cases h
  · split at h
    · rename_i h1
      simp only [Bool.and_eq_true] at h1
      exact asc_of h1.2
    · cases h
theorem validateNet {H : AH} {v : Value} {N : NetD} (h : NetAt H v N) (hsm : NetSmall N) (hw : Wf H) :
    Sh.Call Try.prog (knows 7) 10 [v] H (fun r H' => Kept H H' ∧ r = .int .i64 (netErr N)) := by
  refine call_of rfl Try.func10 rfl (Nat.le_of_ble_eq_true rfl) ?_
  have hres : Try.f10.results.toList = [.tmp 2] := rfl
  obtain ⟨sg, ar, en, rfl, hsg, har, hen⟩ := h
  have hb1 := NetBox.of (N := N) hw hsg har hen
  have hk1 : Kept H (H.new 4 [sg, .int .i64 N.states, ar, en]).2 := Kept.new hw 4 _
  have eA : decide ((60000 : Int) < (N.arcs.length : Int)) = decide (60000 < N.arcs.length) := decide_eq_decide.2 (by omega)
  have eE : decide ((60000 : Int) < (N.ends.length : Int)) = decide (60000 < N.ends.length) := decide_eq_decide.2 (by omega)
  simp only [↓Sh.stepDn, Sh.stepUp, seatFacts, exitTo, calm, isEff, Nat.reduceBEq, evs, evps, evo, isConst, reduceCtorEq, Nat.reduceEqDiff, resultsA, Sh.one, Sh.unit, forall_const, implies_true, eq_self, ne_eq, if_true, if_false, beq_self_eq_true, cond_true, cond_false, List.all_cons, List.all_nil, List.getElem?_cons_zero, List.getElem?_cons_succ, List.nil_append, List.append_nil, Option.bind_some, Option.map_some, Option.some.injEq, exists_eq_left', exists_eq', exists_eq, Prod.mk.injEq, exists_and_left, netNew hsg.isCell har.isCell hen.isCell]
  generalize hg : H.next = gg at hb1 ⊢
  generalize (H.new 4 [sg, .int .i64 N.states, ar, en]).2 = H1 at hb1 hk1 ⊢
  simp only [↓Sh.stepDn, Sh.stepUp, seatFacts, exitTo, calm, isEff, Nat.reduceBEq, evs, evps, evo, isConst, reduceCtorEq, Nat.reduceEqDiff, resultsA, Sh.one, Sh.unit, forall_const, implies_true, eq_self, ne_eq, if_true, if_false, beq_self_eq_true, cond_true, cond_false, List.all_cons, List.all_nil, List.getElem?_cons_zero, List.getElem?_cons_succ, List.nil_append, List.append_nil, Option.bind_some, Option.map_some, Option.some.injEq, exists_eq_left', exists_eq', exists_eq, Prod.mk.injEq, exists_and_left, hb1.c0, hb1.c1, hb1.c2, hb1.c3, hb1.ca, netLenS hb1, netLenA hb1, netLenE hb1]
  by_cases hA : 3000 < N.states
  · simp only [↓Sh.stepDn, Sh.stepUp, seatFacts, exitTo, calm, isEff, Nat.reduceBEq, evs, evps, evo, isConst, reduceCtorEq, Nat.reduceEqDiff, resultsA, Sh.one, Sh.unit, forall_const, implies_true, eq_self, ne_eq, if_true, if_false, beq_self_eq_true, cond_true, cond_false, List.all_cons, List.all_nil, List.getElem?_cons_zero, List.getElem?_cons_succ, List.nil_append, List.append_nil, Option.bind_some, Option.map_some, Option.some.injEq, exists_eq_left', exists_eq', exists_eq, Prod.mk.injEq, exists_and_left, hA, decide_true, hres, netErr, tooLarge, Bool.true_or, hk1]
  by_cases hB : 60000 < N.arcs.length
  · simp only [↓Sh.stepDn, Sh.stepUp, seatFacts, exitTo, calm, isEff, Nat.reduceBEq, evs, evps, evo, isConst, reduceCtorEq, Nat.reduceEqDiff, resultsA, Sh.one, Sh.unit, forall_const, implies_true, eq_self, ne_eq, if_true, if_false, beq_self_eq_true, cond_true, cond_false, List.all_cons, List.all_nil, List.getElem?_cons_zero, List.getElem?_cons_succ, List.nil_append, List.append_nil, Option.bind_some, Option.map_some, Option.some.injEq, exists_eq_left', exists_eq', exists_eq, Prod.mk.injEq, exists_and_left, hb1.c0, hb1.c1, hb1.c2, hb1.c3, hb1.ca, netLenS hb1, netLenA hb1, netLenE hb1, hA, eA, hB, decide_true, decide_false, hres, netErr, tooLarge, Bool.true_or, Bool.or_true, hk1]
  by_cases hC : 60000 < N.ends.length
  · simp only [↓Sh.stepDn, Sh.stepUp, seatFacts, exitTo, calm, isEff, Nat.reduceBEq, evs, evps, evo, isConst, reduceCtorEq, Nat.reduceEqDiff, resultsA, Sh.one, Sh.unit, forall_const, implies_true, eq_self, ne_eq, if_true, if_false, beq_self_eq_true, cond_true, cond_false, List.all_cons, List.all_nil, List.getElem?_cons_zero, List.getElem?_cons_succ, List.nil_append, List.append_nil, Option.bind_some, Option.map_some, Option.some.injEq, exists_eq_left', exists_eq', exists_eq, Prod.mk.injEq, exists_and_left, hb1.c0, hb1.c1, hb1.c2, hb1.c3, hb1.ca, netLenS hb1, netLenA hb1, netLenE hb1, hA, eA, eE, hB, hC, decide_true, decide_false, hres, netErr, tooLarge, Bool.true_or, Bool.or_true, hk1]
  have hT : tooLarge N = false := by simp [tooLarge, hA, hB, hC]
  simp only [↓Sh.stepDn, Sh.stepUp, seatFacts, exitTo, calm, isEff, Nat.reduceBEq, evs, evps, evo, isConst, reduceCtorEq, Nat.reduceEqDiff, resultsA, Sh.one, Sh.unit, forall_const, implies_true, eq_self, ne_eq, if_true, if_false, beq_self_eq_true, cond_true, cond_false, List.all_cons, List.all_nil, List.getElem?_cons_zero, List.getElem?_cons_succ, List.nil_append, List.append_nil, Option.bind_some, Option.map_some, Option.some.injEq, exists_eq_left', exists_eq', exists_eq, Prod.mk.injEq, exists_and_left, hb1.c0, hb1.c1, hb1.c2, hb1.c3, hb1.ca, netLenS hb1, netLenA hb1, netLenE hb1, hA, eA, eE, hB, hC, decide_true, decide_false, hres]
  obtain ⟨r, H2, hd, hk2, rfl⟩ := refSigma hb1.hsg hsm.sg hsm.sx hk1.wf
  refine ⟨_, _, hd, ?_⟩
  have hb2 := hb1.kept hk1.wf hk2
  have hk12 := hk1.trans hk2
  by_cases hS : sigErr N.sigma = 0
  case neg => simp only [↓Sh.stepDn, Sh.stepUp, seatFacts, exitTo, calm, isEff, Nat.reduceBEq, evs, evps, evo, isConst, reduceCtorEq, Nat.reduceEqDiff, resultsA, Sh.one, Sh.unit, forall_const, implies_true, eq_self, ne_eq, if_true, if_false, beq_self_eq_true, cond_true, cond_false, List.all_cons, List.all_nil, List.getElem?_cons_zero, List.getElem?_cons_succ, List.nil_append, List.append_nil, Option.bind_some, Option.map_some, Option.some.injEq, exists_eq_left', exists_eq', exists_eq, Prod.mk.injEq, exists_and_left, hS, decide_false, hres, netErr, hT, Bool.false_eq_true, if_false, ne_eq, not_false_eq_true, if_true, hk12]
  have hasc := sigErr_asc hS
  simp only [↓Sh.stepDn, Sh.stepUp, seatFacts, exitTo, calm, isEff, Nat.reduceBEq, evs, evps, evo, isConst, reduceCtorEq, Nat.reduceEqDiff, resultsA, Sh.one, Sh.unit, forall_const, implies_true, eq_self, ne_eq, if_true, if_false, beq_self_eq_true, cond_true, cond_false, List.all_cons, List.all_nil, List.getElem?_cons_zero, List.getElem?_cons_succ, List.nil_append, List.append_nil, Option.bind_some, Option.map_some, Option.some.injEq, exists_eq_left', exists_eq', exists_eq, Prod.mk.injEq, exists_and_left, hS, decide_true, hb2.c0, hb2.c1, hb2.c2, hb2.c3, hb2.ca, netLenS hb2, netLenA hb2, netLenE hb2]
  by_cases hst : N.states < 1
  · simp only [↓Sh.stepDn, Sh.stepUp, seatFacts, exitTo, calm, isEff, Nat.reduceBEq, evs, evps, evo, isConst, reduceCtorEq, Nat.reduceEqDiff, resultsA, Sh.one, Sh.unit, forall_const, implies_true, eq_self, ne_eq, if_true, if_false, beq_self_eq_true, cond_true, cond_false, List.all_cons, List.all_nil, List.getElem?_cons_zero, List.getElem?_cons_succ, List.nil_append, List.append_nil, Option.bind_some, Option.map_some, Option.some.injEq, exists_eq_left', exists_eq', exists_eq, Prod.mk.injEq, exists_and_left, hst, decide_true, hres, netErr, hT, hS, ne_eq, not_true_eq_false, if_false, if_true, hk12, Bool.false_eq_true]
  simp only [↓Sh.stepDn, Sh.stepUp, seatFacts, exitTo, calm, isEff, Nat.reduceBEq, evs, evps, evo, isConst, reduceCtorEq, Nat.reduceEqDiff, resultsA, Sh.one, Sh.unit, forall_const, implies_true, eq_self, ne_eq, if_true, if_false, beq_self_eq_true, cond_true, cond_false, List.all_cons, List.all_nil, List.getElem?_cons_zero, List.getElem?_cons_succ, List.nil_append, List.append_nil, Option.bind_some, Option.map_some, Option.some.injEq, exists_eq_left', exists_eq', exists_eq, Prod.mk.injEq, exists_and_left, hst, decide_false]
  have e1 : N.arcs.any (badArc N) = true → netErr N = 1 := by intro h; simp [netErr, hT, hS, hst, h]
  have e2 : N.ends.any (badEnd N) = true → netErr N = 1 := by intro h; simp [netErr, hT, hS, hst, h]
  have e3 : N.arcs.any (badArc N) = false → N.ends.any (badEnd N) = false → netErr N = 0 := by intro h h'; simp [netErr, hT, hS, hst, h, h']
  refine wp_for N.arcs.length 4 (List.range' 4 87 ++ [2]) (fun i F H' => Kept H2 H' ∧ (N.arcs.take i).any (badArc N) = false) (by simp only [↓Sh.stepDn, Sh.stepUp, seatFacts, exitTo, calm, isEff, Nat.reduceBEq, evs, evps, evo, isConst, reduceCtorEq, Nat.reduceEqDiff, resultsA, Sh.one, Sh.unit, forall_const, implies_true, eq_self, ne_eq, if_true, if_false, beq_self_eq_true, cond_true, cond_false, List.all_cons, List.all_nil, List.getElem?_cons_zero, List.getElem?_cons_succ, List.nil_append, List.append_nil, Option.bind_some, Option.map_some, Option.some.injEq, exists_eq_left', exists_eq', exists_eq, Prod.mk.injEq, exists_and_left]) ⟨Kept.refl hk12.wf, rfl⟩ ?_ ?_
  · rintro i F H' hlt hF f4 ⟨hk, hall⟩ k
    have f1 := hF 1 rfl
    simp only [↓Sh.stepDn, Sh.stepUp, seatFacts, exitTo, calm, isEff, Nat.reduceBEq, evs, evps, evo, isConst, reduceCtorEq, Nat.reduceEqDiff, resultsA, Sh.one, Sh.unit, forall_const, implies_true, eq_self, ne_eq, if_true, if_false, beq_self_eq_true, cond_true, cond_false, List.all_cons, List.all_nil, List.getElem?_cons_zero, List.getElem?_cons_succ, List.nil_append, List.append_nil, Option.bind_some, Option.map_some, Option.some.injEq, exists_eq_left', exists_eq', exists_eq, Prod.mk.injEq, exists_and_left] at f1
    have hb' := hb2.kept hk12.wf hk
    have hb3 := hb'.new hk.wf 5 (N.arcs[i].cells)
    have hk3 := hk.news 5 (N.arcs[i].cells)
    obtain ⟨g, o, kk, hia, hc, hcc⟩ := hb'.har.at Try.underlying23 size_33 (i := i) (x := N.arcs[i].cells) (by simp [hlt]) .i64
    clear hcc
    have hin : N.arcs[i] ∈ N.arcs := List.getElem_mem hlt
    have hnext : badArc N N.arcs[i] = false → (N.arcs.take (i + 1)).any (badArc N) = false := by
      intro h
      rw [List.take_add_one, List.getElem?_eq_getElem hlt]
      simp only [Option.toList, List.any_append, hall, List.any_cons, List.any_nil, h, Bool.or_false]
    have hbad : badArc N N.arcs[i] = true → netErr N = 1 := fun h => e1 (List.any_eq_true.2 ⟨_, hin, h⟩)
    generalize N.arcs[i] = a at hb3 hk3 hc hnext hbad
    have hi2 := isIn (x := a.inn) hb3.hsg hasc hsm.sg hk3.wf
    simp only [↓Sh.stepDn, Sh.stepUp, seatFacts, exitTo, calm, isEff, Nat.reduceBEq, evs, evps, evo, isConst, reduceCtorEq, Nat.reduceEqDiff, resultsA, Sh.one, Sh.unit, forall_const, implies_true, eq_self, ne_eq, if_true, if_false, beq_self_eq_true, cond_true, cond_false, List.all_cons, List.all_nil, List.getElem?_cons_zero, List.getElem?_cons_succ, List.nil_append, List.append_nil, Option.bind_some, Option.map_some, Option.some.injEq, exists_eq_left', exists_eq', exists_eq, Prod.mk.injEq, exists_and_left, hb'.c0, hb'.c1, hb'.c2, hb'.c3, hb'.ca, netLenS hb', netLenA hb', netLenE hb', netZero, arcZero, endZero, arcNew, endNew, arcStore, endStore, arcOver, endOver, netOver, arc0, arc1, arc2, arc3, arc4, end0, end1, f1, f4, Option.map_some, nat_lt, hlt, decide_true, hia, hc, hres]
    by_cases h1 : a.fr < 0
    · simp only [↓Sh.stepDn, Sh.stepUp, seatFacts, exitTo, calm, isEff, Nat.reduceBEq, evs, evps, evo, isConst, reduceCtorEq, Nat.reduceEqDiff, resultsA, Sh.one, Sh.unit, forall_const, implies_true, eq_self, ne_eq, if_true, if_false, beq_self_eq_true, cond_true, cond_false, List.all_cons, List.all_nil, List.getElem?_cons_zero, List.getElem?_cons_succ, List.nil_append, List.append_nil, Option.bind_some, Option.map_some, Option.some.injEq, exists_eq_left', exists_eq', exists_eq, Prod.mk.injEq, exists_and_left, hb3.c0, hb3.c1, hb3.c2, hb3.c3, hb3.ca, netLenS hb3, netLenA hb3, netLenE hb3, netZero, arcZero, endZero, arcNew, endNew, arcStore, endStore, arcOver, endOver, netOver, arc0, arc1, arc2, arc3, arc4, end0, end1, h1, decide_true, hres, hbad (by simp [badArc, h1]), hk12.trans hk3]
    simp only [↓Sh.stepDn, Sh.stepUp, seatFacts, exitTo, calm, isEff, Nat.reduceBEq, evs, evps, evo, isConst, reduceCtorEq, Nat.reduceEqDiff, resultsA, Sh.one, Sh.unit, forall_const, implies_true, eq_self, ne_eq, if_true, if_false, beq_self_eq_true, cond_true, cond_false, List.all_cons, List.all_nil, List.getElem?_cons_zero, List.getElem?_cons_succ, List.nil_append, List.append_nil, Option.bind_some, Option.map_some, Option.some.injEq, exists_eq_left', exists_eq', exists_eq, Prod.mk.injEq, exists_and_left, hb3.c0, hb3.c1, hb3.c2, hb3.c3, hb3.ca, netLenS hb3, netLenA hb3, netLenE hb3, netZero, arcZero, endZero, arcNew, endNew, arcStore, endStore, arcOver, endOver, netOver, arc0, arc1, arc2, arc3, arc4, end0, end1, f1, h1, decide_false]
    by_cases h2 : N.states ≤ a.fr
    · simp only [↓Sh.stepDn, Sh.stepUp, seatFacts, exitTo, calm, isEff, Nat.reduceBEq, evs, evps, evo, isConst, reduceCtorEq, Nat.reduceEqDiff, resultsA, Sh.one, Sh.unit, forall_const, implies_true, eq_self, ne_eq, if_true, if_false, beq_self_eq_true, cond_true, cond_false, List.all_cons, List.all_nil, List.getElem?_cons_zero, List.getElem?_cons_succ, List.nil_append, List.append_nil, Option.bind_some, Option.map_some, Option.some.injEq, exists_eq_left', exists_eq', exists_eq, Prod.mk.injEq, exists_and_left, hb3.c0, hb3.c1, hb3.c2, hb3.c3, hb3.ca, netLenS hb3, netLenA hb3, netLenE hb3, netZero, arcZero, endZero, arcNew, endNew, arcStore, endStore, arcOver, endOver, netOver, arc0, arc1, arc2, arc3, arc4, end0, end1, h2, decide_true, hres, hbad (by simp [badArc, h2]), hk12.trans hk3]
    simp only [↓Sh.stepDn, Sh.stepUp, seatFacts, exitTo, calm, isEff, Nat.reduceBEq, evs, evps, evo, isConst, reduceCtorEq, Nat.reduceEqDiff, resultsA, Sh.one, Sh.unit, forall_const, implies_true, eq_self, ne_eq, if_true, if_false, beq_self_eq_true, cond_true, cond_false, List.all_cons, List.all_nil, List.getElem?_cons_zero, List.getElem?_cons_succ, List.nil_append, List.append_nil, Option.bind_some, Option.map_some, Option.some.injEq, exists_eq_left', exists_eq', exists_eq, Prod.mk.injEq, exists_and_left, hb3.c0, hb3.c1, hb3.c2, hb3.c3, hb3.ca, netLenS hb3, netLenA hb3, netLenE hb3, netZero, arcZero, endZero, arcNew, endNew, arcStore, endStore, arcOver, endOver, netOver, arc0, arc1, arc2, arc3, arc4, end0, end1, f1, h2, decide_false]
    by_cases h3 : a.to < 0
    · simp only [↓Sh.stepDn, Sh.stepUp, seatFacts, exitTo, calm, isEff, Nat.reduceBEq, evs, evps, evo, isConst, reduceCtorEq, Nat.reduceEqDiff, resultsA, Sh.one, Sh.unit, forall_const, implies_true, eq_self, ne_eq, if_true, if_false, beq_self_eq_true, cond_true, cond_false, List.all_cons, List.all_nil, List.getElem?_cons_zero, List.getElem?_cons_succ, List.nil_append, List.append_nil, Option.bind_some, Option.map_some, Option.some.injEq, exists_eq_left', exists_eq', exists_eq, Prod.mk.injEq, exists_and_left, hb3.c0, hb3.c1, hb3.c2, hb3.c3, hb3.ca, netLenS hb3, netLenA hb3, netLenE hb3, netZero, arcZero, endZero, arcNew, endNew, arcStore, endStore, arcOver, endOver, netOver, arc0, arc1, arc2, arc3, arc4, end0, end1, h3, decide_true, hres, hbad (by simp [badArc, h3]), hk12.trans hk3]
    simp only [↓Sh.stepDn, Sh.stepUp, seatFacts, exitTo, calm, isEff, Nat.reduceBEq, evs, evps, evo, isConst, reduceCtorEq, Nat.reduceEqDiff, resultsA, Sh.one, Sh.unit, forall_const, implies_true, eq_self, ne_eq, if_true, if_false, beq_self_eq_true, cond_true, cond_false, List.all_cons, List.all_nil, List.getElem?_cons_zero, List.getElem?_cons_succ, List.nil_append, List.append_nil, Option.bind_some, Option.map_some, Option.some.injEq, exists_eq_left', exists_eq', exists_eq, Prod.mk.injEq, exists_and_left, hb3.c0, hb3.c1, hb3.c2, hb3.c3, hb3.ca, netLenS hb3, netLenA hb3, netLenE hb3, netZero, arcZero, endZero, arcNew, endNew, arcStore, endStore, arcOver, endOver, netOver, arc0, arc1, arc2, arc3, arc4, end0, end1, f1, h3, decide_false]
    by_cases h4 : N.states ≤ a.to
    · simp only [↓Sh.stepDn, Sh.stepUp, seatFacts, exitTo, calm, isEff, Nat.reduceBEq, evs, evps, evo, isConst, reduceCtorEq, Nat.reduceEqDiff, resultsA, Sh.one, Sh.unit, forall_const, implies_true, eq_self, ne_eq, if_true, if_false, beq_self_eq_true, cond_true, cond_false, List.all_cons, List.all_nil, List.getElem?_cons_zero, List.getElem?_cons_succ, List.nil_append, List.append_nil, Option.bind_some, Option.map_some, Option.some.injEq, exists_eq_left', exists_eq', exists_eq, Prod.mk.injEq, exists_and_left, hb3.c0, hb3.c1, hb3.c2, hb3.c3, hb3.ca, netLenS hb3, netLenA hb3, netLenE hb3, netZero, arcZero, endZero, arcNew, endNew, arcStore, endStore, arcOver, endOver, netOver, arc0, arc1, arc2, arc3, arc4, end0, end1, h4, decide_true, hres, hbad (by simp [badArc, h4]), hk12.trans hk3]
    simp only [↓Sh.stepDn, Sh.stepUp, seatFacts, exitTo, calm, isEff, Nat.reduceBEq, evs, evps, evo, isConst, reduceCtorEq, Nat.reduceEqDiff, resultsA, Sh.one, Sh.unit, forall_const, implies_true, eq_self, ne_eq, if_true, if_false, beq_self_eq_true, cond_true, cond_false, List.all_cons, List.all_nil, List.getElem?_cons_zero, List.getElem?_cons_succ, List.nil_append, List.append_nil, Option.bind_some, Option.map_some, Option.some.injEq, exists_eq_left', exists_eq', exists_eq, Prod.mk.injEq, exists_and_left, hb3.c0, hb3.c1, hb3.c2, hb3.c3, hb3.ca, netLenS hb3, netLenA hb3, netLenE hb3, netZero, arcZero, endZero, arcNew, endNew, arcStore, endStore, arcOver, endOver, netOver, arc0, arc1, arc2, arc3, arc4, end0, end1, f1, h4, decide_false]
    have hgo : badSym N a.inn = false → badSym N a.out = false → badArc N a = false := by intro h h'; simp [badArc, h1, h2, h3, h4, h, h']
    -- the symbol below
    have hout : ∀ (H4 : AH) (F4 : Fr), Kept (H'.new 5 a.cells).2 H4 → badSym N a.inn = false → True := fun _ _ _ _ => trivial
    by_cases h5 : a.inn = ⟨#[]⟩
    · have hI : badSym N a.inn = false := by simp [badSym, h5]
      simp only [↓Sh.stepDn, Sh.stepUp, seatFacts, exitTo, calm, isEff, Nat.reduceBEq, evs, evps, evo, isConst, reduceCtorEq, Nat.reduceEqDiff, resultsA, Sh.one, Sh.unit, forall_const, implies_true, eq_self, ne_eq, if_true, if_false, beq_self_eq_true, cond_true, cond_false, List.all_cons, List.all_nil, List.getElem?_cons_zero, List.getElem?_cons_succ, List.nil_append, List.append_nil, Option.bind_some, Option.map_some, Option.some.injEq, exists_eq_left', exists_eq', exists_eq, Prod.mk.injEq, exists_and_left, hb3.c0, hb3.c1, hb3.c2, hb3.c3, hb3.ca, netLenS hb3, netLenA hb3, netLenE hb3, netZero, arcZero, endZero, arcNew, endNew, arcStore, endStore, arcOver, endOver, netOver, arc0, arc1, arc2, arc3, arc4, end0, end1, f1, h5, decide_true]
      by_cases h6 : a.out = ⟨#[]⟩
      · have hO : badSym N a.out = false := by simp [badSym, h6]
        simp only [↓Sh.stepDn, Sh.stepUp, seatFacts, exitTo, calm, isEff, Nat.reduceBEq, evs, evps, evo, isConst, reduceCtorEq, Nat.reduceEqDiff, resultsA, Sh.one, Sh.unit, forall_const, implies_true, eq_self, ne_eq, if_true, if_false, beq_self_eq_true, cond_true, cond_false, List.all_cons, List.all_nil, List.getElem?_cons_zero, List.getElem?_cons_succ, List.nil_append, List.append_nil, Option.bind_some, Option.map_some, Option.some.injEq, exists_eq_left', exists_eq', exists_eq, Prod.mk.injEq, exists_and_left, hb3.c0, hb3.c1, hb3.c2, hb3.c3, hb3.ca, netLenS hb3, netLenA hb3, netLenE hb3, netZero, arcZero, endZero, arcNew, endNew, arcStore, endStore, arcOver, endOver, netOver, arc0, arc1, arc2, arc3, arc4, end0, end1, f1, f4, h6, decide_true, wrap_succ hlt hsm.ar]
        exact k _ _ (by repeat (first | refine Same.put ?_ rfl | exact Same.rfl' _)) (by simp only [↓Sh.stepDn, Sh.stepUp, seatFacts, exitTo, calm, isEff, Nat.reduceBEq, evs, evps, evo, isConst, reduceCtorEq, Nat.reduceEqDiff, resultsA, Sh.one, Sh.unit, forall_const, implies_true, eq_self, ne_eq, if_true, if_false, beq_self_eq_true, cond_true, cond_false, List.all_cons, List.all_nil, List.getElem?_cons_zero, List.getElem?_cons_succ, List.nil_append, List.append_nil, Option.bind_some, Option.map_some, Option.some.injEq, exists_eq_left', exists_eq', exists_eq, Prod.mk.injEq, exists_and_left]) ⟨hk3, hnext (hgo hI hO)⟩
      · obtain ⟨r, H4, hd4, hk4, rfl⟩ := isIn (x := a.out) hb3.hsg hasc hsm.sg hk3.wf
        simp only [↓Sh.stepDn, Sh.stepUp, seatFacts, exitTo, calm, isEff, Nat.reduceBEq, evs, evps, evo, isConst, reduceCtorEq, Nat.reduceEqDiff, resultsA, Sh.one, Sh.unit, forall_const, implies_true, eq_self, ne_eq, if_true, if_false, beq_self_eq_true, cond_true, cond_false, List.all_cons, List.all_nil, List.getElem?_cons_zero, List.getElem?_cons_succ, List.nil_append, List.append_nil, Option.bind_some, Option.map_some, Option.some.injEq, exists_eq_left', exists_eq', exists_eq, Prod.mk.injEq, exists_and_left, hb3.c0, hb3.c1, hb3.c2, hb3.c3, hb3.ca, netLenS hb3, netLenA hb3, netLenE hb3, netZero, arcZero, endZero, arcNew, endNew, arcStore, endStore, arcOver, endOver, netOver, arc0, arc1, arc2, arc3, arc4, end0, end1, f1, h6, decide_false]
        refine ⟨_, _, hd4, ?_⟩
        cases h7 : strIn N.sigma a.out with
        | true =>
          have hO : badSym N a.out = false := by simp [badSym, h7]
          simp only [↓Sh.stepDn, Sh.stepUp, seatFacts, exitTo, calm, isEff, Nat.reduceBEq, evs, evps, evo, isConst, reduceCtorEq, Nat.reduceEqDiff, resultsA, Sh.one, Sh.unit, forall_const, implies_true, eq_self, ne_eq, if_true, if_false, beq_self_eq_true, cond_true, cond_false, List.all_cons, List.all_nil, List.getElem?_cons_zero, List.getElem?_cons_succ, List.nil_append, List.append_nil, Option.bind_some, Option.map_some, Option.some.injEq, exists_eq_left', exists_eq', exists_eq, Prod.mk.injEq, exists_and_left, f4, wrap_succ hlt hsm.ar]
          exact k _ _ (by repeat (first | refine Same.put ?_ rfl | exact Same.rfl' _)) (by simp only [↓Sh.stepDn, Sh.stepUp, seatFacts, exitTo, calm, isEff, Nat.reduceBEq, evs, evps, evo, isConst, reduceCtorEq, Nat.reduceEqDiff, resultsA, Sh.one, Sh.unit, forall_const, implies_true, eq_self, ne_eq, if_true, if_false, beq_self_eq_true, cond_true, cond_false, List.all_cons, List.all_nil, List.getElem?_cons_zero, List.getElem?_cons_succ, List.nil_append, List.append_nil, Option.bind_some, Option.map_some, Option.some.injEq, exists_eq_left', exists_eq', exists_eq, Prod.mk.injEq, exists_and_left]) ⟨hk3.trans hk4, hnext (hgo hI hO)⟩
        | false =>
          simp only [↓Sh.stepDn, Sh.stepUp, seatFacts, exitTo, calm, isEff, Nat.reduceBEq, evs, evps, evo, isConst, reduceCtorEq, Nat.reduceEqDiff, resultsA, Sh.one, Sh.unit, forall_const, implies_true, eq_self, ne_eq, if_true, if_false, beq_self_eq_true, cond_true, cond_false, List.all_cons, List.all_nil, List.getElem?_cons_zero, List.getElem?_cons_succ, List.nil_append, List.append_nil, Option.bind_some, Option.map_some, Option.some.injEq, exists_eq_left', exists_eq', exists_eq, Prod.mk.injEq, exists_and_left, hres, hbad (by simp [badArc, badSym, h6, h7]), (hk12.trans hk3).trans hk4]
    · obtain ⟨r, H4, hd4, hk4, rfl⟩ := isIn (x := a.inn) hb3.hsg hasc hsm.sg hk3.wf
      simp only [↓Sh.stepDn, Sh.stepUp, seatFacts, exitTo, calm, isEff, Nat.reduceBEq, evs, evps, evo, isConst, reduceCtorEq, Nat.reduceEqDiff, resultsA, Sh.one, Sh.unit, forall_const, implies_true, eq_self, ne_eq, if_true, if_false, beq_self_eq_true, cond_true, cond_false, List.all_cons, List.all_nil, List.getElem?_cons_zero, List.getElem?_cons_succ, List.nil_append, List.append_nil, Option.bind_some, Option.map_some, Option.some.injEq, exists_eq_left', exists_eq', exists_eq, Prod.mk.injEq, exists_and_left, hb3.c0, hb3.c1, hb3.c2, hb3.c3, hb3.ca, netLenS hb3, netLenA hb3, netLenE hb3, netZero, arcZero, endZero, arcNew, endNew, arcStore, endStore, arcOver, endOver, netOver, arc0, arc1, arc2, arc3, arc4, end0, end1, f1, h5, decide_false]
      refine ⟨_, _, hd4, ?_⟩
      have hb4 := hb3.kept hk3.wf hk4
      have q2 := cell_grow (hk4.grow hk3.wf) (arc2 (H := H') (a := a))
      cases h7 : strIn N.sigma a.inn with
      | false =>
        simp only [↓Sh.stepDn, Sh.stepUp, seatFacts, exitTo, calm, isEff, Nat.reduceBEq, evs, evps, evo, isConst, reduceCtorEq, Nat.reduceEqDiff, resultsA, Sh.one, Sh.unit, forall_const, implies_true, eq_self, ne_eq, if_true, if_false, beq_self_eq_true, cond_true, cond_false, List.all_cons, List.all_nil, List.getElem?_cons_zero, List.getElem?_cons_succ, List.nil_append, List.append_nil, Option.bind_some, Option.map_some, Option.some.injEq, exists_eq_left', exists_eq', exists_eq, Prod.mk.injEq, exists_and_left, hres, hbad (by simp [badArc, badSym, h5, h7]), (hk12.trans hk3).trans hk4]
      | true =>
        have hI : badSym N a.inn = false := by simp [badSym, h7]
        simp only [↓Sh.stepDn, Sh.stepUp, seatFacts, exitTo, calm, isEff, Nat.reduceBEq, evs, evps, evo, isConst, reduceCtorEq, Nat.reduceEqDiff, resultsA, Sh.one, Sh.unit, forall_const, implies_true, eq_self, ne_eq, if_true, if_false, beq_self_eq_true, cond_true, cond_false, List.all_cons, List.all_nil, List.getElem?_cons_zero, List.getElem?_cons_succ, List.nil_append, List.append_nil, Option.bind_some, Option.map_some, Option.some.injEq, exists_eq_left', exists_eq', exists_eq, Prod.mk.injEq, exists_and_left, hb4.c0, hb4.c1, hb4.c2, hb4.c3, hb4.ca, netLenS hb4, netLenA hb4, netLenE hb4, q2, f1]
        by_cases h6 : a.out = ⟨#[]⟩
        · have hO : badSym N a.out = false := by simp [badSym, h6]
          simp only [↓Sh.stepDn, Sh.stepUp, seatFacts, exitTo, calm, isEff, Nat.reduceBEq, evs, evps, evo, isConst, reduceCtorEq, Nat.reduceEqDiff, resultsA, Sh.one, Sh.unit, forall_const, implies_true, eq_self, ne_eq, if_true, if_false, beq_self_eq_true, cond_true, cond_false, List.all_cons, List.all_nil, List.getElem?_cons_zero, List.getElem?_cons_succ, List.nil_append, List.append_nil, Option.bind_some, Option.map_some, Option.some.injEq, exists_eq_left', exists_eq', exists_eq, Prod.mk.injEq, exists_and_left, hb4.c0, hb4.c1, hb4.c2, hb4.c3, hb4.ca, netLenS hb4, netLenA hb4, netLenE hb4, q2, f1, f4, h6, decide_true, wrap_succ hlt hsm.ar]
          exact k _ _ (by repeat (first | refine Same.put ?_ rfl | exact Same.rfl' _)) (by simp only [↓Sh.stepDn, Sh.stepUp, seatFacts, exitTo, calm, isEff, Nat.reduceBEq, evs, evps, evo, isConst, reduceCtorEq, Nat.reduceEqDiff, resultsA, Sh.one, Sh.unit, forall_const, implies_true, eq_self, ne_eq, if_true, if_false, beq_self_eq_true, cond_true, cond_false, List.all_cons, List.all_nil, List.getElem?_cons_zero, List.getElem?_cons_succ, List.nil_append, List.append_nil, Option.bind_some, Option.map_some, Option.some.injEq, exists_eq_left', exists_eq', exists_eq, Prod.mk.injEq, exists_and_left]) ⟨hk3.trans hk4, hnext (hgo hI hO)⟩
        · obtain ⟨r, H5, hd5, hk5, rfl⟩ := isIn (x := a.out) hb4.hsg hasc hsm.sg hk4.wf
          simp only [↓Sh.stepDn, Sh.stepUp, seatFacts, exitTo, calm, isEff, Nat.reduceBEq, evs, evps, evo, isConst, reduceCtorEq, Nat.reduceEqDiff, resultsA, Sh.one, Sh.unit, forall_const, implies_true, eq_self, ne_eq, if_true, if_false, beq_self_eq_true, cond_true, cond_false, List.all_cons, List.all_nil, List.getElem?_cons_zero, List.getElem?_cons_succ, List.nil_append, List.append_nil, Option.bind_some, Option.map_some, Option.some.injEq, exists_eq_left', exists_eq', exists_eq, Prod.mk.injEq, exists_and_left, hb4.c0, hb4.c1, hb4.c2, hb4.c3, hb4.ca, netLenS hb4, netLenA hb4, netLenE hb4, q2, f1, h6, decide_false]
          refine ⟨_, _, hd5, ?_⟩
          cases h8 : strIn N.sigma a.out with
          | true =>
            have hO : badSym N a.out = false := by simp [badSym, h8]
            simp only [↓Sh.stepDn, Sh.stepUp, seatFacts, exitTo, calm, isEff, Nat.reduceBEq, evs, evps, evo, isConst, reduceCtorEq, Nat.reduceEqDiff, resultsA, Sh.one, Sh.unit, forall_const, implies_true, eq_self, ne_eq, if_true, if_false, beq_self_eq_true, cond_true, cond_false, List.all_cons, List.all_nil, List.getElem?_cons_zero, List.getElem?_cons_succ, List.nil_append, List.append_nil, Option.bind_some, Option.map_some, Option.some.injEq, exists_eq_left', exists_eq', exists_eq, Prod.mk.injEq, exists_and_left, f4, wrap_succ hlt hsm.ar]
            exact k _ _ (by repeat (first | refine Same.put ?_ rfl | exact Same.rfl' _)) (by simp only [↓Sh.stepDn, Sh.stepUp, seatFacts, exitTo, calm, isEff, Nat.reduceBEq, evs, evps, evo, isConst, reduceCtorEq, Nat.reduceEqDiff, resultsA, Sh.one, Sh.unit, forall_const, implies_true, eq_self, ne_eq, if_true, if_false, beq_self_eq_true, cond_true, cond_false, List.all_cons, List.all_nil, List.getElem?_cons_zero, List.getElem?_cons_succ, List.nil_append, List.append_nil, Option.bind_some, Option.map_some, Option.some.injEq, exists_eq_left', exists_eq', exists_eq, Prod.mk.injEq, exists_and_left]) ⟨(hk3.trans hk4).trans hk5, hnext (hgo hI hO)⟩
          | false =>
            simp only [↓Sh.stepDn, Sh.stepUp, seatFacts, exitTo, calm, isEff, Nat.reduceBEq, evs, evps, evo, isConst, reduceCtorEq, Nat.reduceEqDiff, resultsA, Sh.one, Sh.unit, forall_const, implies_true, eq_self, ne_eq, if_true, if_false, beq_self_eq_true, cond_true, cond_false, List.all_cons, List.all_nil, List.getElem?_cons_zero, List.getElem?_cons_succ, List.nil_append, List.append_nil, Option.bind_some, Option.map_some, Option.some.injEq, exists_eq_left', exists_eq', exists_eq, Prod.mk.injEq, exists_and_left, hres, hbad (by simp [badArc, badSym, h6, h8]), ((hk12.trans hk3).trans hk4).trans hk5]
  · rintro F H' hF f4 ⟨hk, hall⟩
    have f1 := hF 1 rfl
    simp only [↓Sh.stepDn, Sh.stepUp, seatFacts, exitTo, calm, isEff, Nat.reduceBEq, evs, evps, evo, isConst, reduceCtorEq, Nat.reduceEqDiff, resultsA, Sh.one, Sh.unit, forall_const, implies_true, eq_self, ne_eq, if_true, if_false, beq_self_eq_true, cond_true, cond_false, List.all_cons, List.all_nil, List.getElem?_cons_zero, List.getElem?_cons_succ, List.nil_append, List.append_nil, Option.bind_some, Option.map_some, Option.some.injEq, exists_eq_left', exists_eq', exists_eq, Prod.mk.injEq, exists_and_left] at f1
    rw [List.take_length] at hall
    have hb' := hb2.kept hk12.wf hk
    have hkk := hk12.trans hk
    simp only [↓Sh.stepDn, Sh.stepUp, seatFacts, exitTo, calm, isEff, Nat.reduceBEq, evs, evps, evo, isConst, reduceCtorEq, Nat.reduceEqDiff, resultsA, Sh.one, Sh.unit, forall_const, implies_true, eq_self, ne_eq, if_true, if_false, beq_self_eq_true, cond_true, cond_false, List.all_cons, List.all_nil, List.getElem?_cons_zero, List.getElem?_cons_succ, List.nil_append, List.append_nil, Option.bind_some, Option.map_some, Option.some.injEq, exists_eq_left', exists_eq', exists_eq, Prod.mk.injEq, exists_and_left, hb'.c0, hb'.c1, hb'.c2, hb'.c3, hb'.ca, netLenS hb', netLenA hb', netLenE hb', f1, f4, nat_lt, Nat.lt_irrefl, decide_false]
    refine wp_for N.ends.length 6 (List.range' 91 26 ++ [2, 6]) (fun i F H'' => H'' = H' ∧ (N.ends.take i).any (badEnd N) = false) (by simp only [↓Sh.stepDn, Sh.stepUp, seatFacts, exitTo, calm, isEff, Nat.reduceBEq, evs, evps, evo, isConst, reduceCtorEq, Nat.reduceEqDiff, resultsA, Sh.one, Sh.unit, forall_const, implies_true, eq_self, ne_eq, if_true, if_false, beq_self_eq_true, cond_true, cond_false, List.all_cons, List.all_nil, List.getElem?_cons_zero, List.getElem?_cons_succ, List.nil_append, List.append_nil, Option.bind_some, Option.map_some, Option.some.injEq, exists_eq_left', exists_eq', exists_eq, Prod.mk.injEq, exists_and_left]) ⟨rfl, rfl⟩ ?_ ?_
    · rintro i F2 H'' hlt hF2 f6 ⟨rfl, hall2⟩ k
      have g1 := hF2 1 rfl
      simp only [↓Sh.stepDn, Sh.stepUp, seatFacts, exitTo, calm, isEff, Nat.reduceBEq, evs, evps, evo, isConst, reduceCtorEq, Nat.reduceEqDiff, resultsA, Sh.one, Sh.unit, forall_const, implies_true, eq_self, ne_eq, if_true, if_false, beq_self_eq_true, cond_true, cond_false, List.all_cons, List.all_nil, List.getElem?_cons_zero, List.getElem?_cons_succ, List.nil_append, List.append_nil, Option.bind_some, Option.map_some, Option.some.injEq, exists_eq_left', exists_eq', exists_eq, Prod.mk.injEq, exists_and_left, f1] at g1
      obtain ⟨g, o, kk, hia, hc, hcc⟩ := hb'.hen.at Try.underlying24 size_35 (i := i) (x := N.ends[i].cells) (by simp [hlt]) .i64
      have q0 := hcc 0 _ rfl
      simp only [Nat.add_zero] at q0
      have hbad : badEnd N N.ends[i] = true → netErr N = 1 := fun h => e2 (List.any_eq_true.2 ⟨_, List.getElem_mem hlt, h⟩)
      simp only [↓Sh.stepDn, Sh.stepUp, seatFacts, exitTo, calm, isEff, Nat.reduceBEq, evs, evps, evo, isConst, reduceCtorEq, Nat.reduceEqDiff, resultsA, Sh.one, Sh.unit, forall_const, implies_true, eq_self, ne_eq, if_true, if_false, beq_self_eq_true, cond_true, cond_false, List.all_cons, List.all_nil, List.getElem?_cons_zero, List.getElem?_cons_succ, List.nil_append, List.append_nil, Option.bind_some, Option.map_some, Option.some.injEq, exists_eq_left', exists_eq', exists_eq, Prod.mk.injEq, exists_and_left, hb'.c0, hb'.c1, hb'.c2, hb'.c3, hb'.ca, netLenS hb', netLenA hb', netLenE hb', g1, f6, nat_lt, hlt, decide_true, hia, q0, Nat.add_zero]
      by_cases h1 : N.ends[i].state < 0
      · simp only [↓Sh.stepDn, Sh.stepUp, seatFacts, exitTo, calm, isEff, Nat.reduceBEq, evs, evps, evo, isConst, reduceCtorEq, Nat.reduceEqDiff, resultsA, Sh.one, Sh.unit, forall_const, implies_true, eq_self, ne_eq, if_true, if_false, beq_self_eq_true, cond_true, cond_false, List.all_cons, List.all_nil, List.getElem?_cons_zero, List.getElem?_cons_succ, List.nil_append, List.append_nil, Option.bind_some, Option.map_some, Option.some.injEq, exists_eq_left', exists_eq', exists_eq, Prod.mk.injEq, exists_and_left, h1, decide_true, hres, hbad (by simp [badEnd, h1]), hkk]
      simp only [↓Sh.stepDn, Sh.stepUp, seatFacts, exitTo, calm, isEff, Nat.reduceBEq, evs, evps, evo, isConst, reduceCtorEq, Nat.reduceEqDiff, resultsA, Sh.one, Sh.unit, forall_const, implies_true, eq_self, ne_eq, if_true, if_false, beq_self_eq_true, cond_true, cond_false, List.all_cons, List.all_nil, List.getElem?_cons_zero, List.getElem?_cons_succ, List.nil_append, List.append_nil, Option.bind_some, Option.map_some, Option.some.injEq, exists_eq_left', exists_eq', exists_eq, Prod.mk.injEq, exists_and_left, hb'.c0, hb'.c1, hb'.c2, hb'.c3, hb'.ca, netLenS hb', netLenA hb', netLenE hb', g1, f6, hia, q0, h1, decide_false]
      by_cases h2 : N.states ≤ N.ends[i].state
      · simp only [↓Sh.stepDn, Sh.stepUp, seatFacts, exitTo, calm, isEff, Nat.reduceBEq, evs, evps, evo, isConst, reduceCtorEq, Nat.reduceEqDiff, resultsA, Sh.one, Sh.unit, forall_const, implies_true, eq_self, ne_eq, if_true, if_false, beq_self_eq_true, cond_true, cond_false, List.all_cons, List.all_nil, List.getElem?_cons_zero, List.getElem?_cons_succ, List.nil_append, List.append_nil, Option.bind_some, Option.map_some, Option.some.injEq, exists_eq_left', exists_eq', exists_eq, Prod.mk.injEq, exists_and_left, h2, decide_true, hres, hbad (by simp [badEnd, h2]), hkk]
      simp only [↓Sh.stepDn, Sh.stepUp, seatFacts, exitTo, calm, isEff, Nat.reduceBEq, evs, evps, evo, isConst, reduceCtorEq, Nat.reduceEqDiff, resultsA, Sh.one, Sh.unit, forall_const, implies_true, eq_self, ne_eq, if_true, if_false, beq_self_eq_true, cond_true, cond_false, List.all_cons, List.all_nil, List.getElem?_cons_zero, List.getElem?_cons_succ, List.nil_append, List.append_nil, Option.bind_some, Option.map_some, Option.some.injEq, exists_eq_left', exists_eq', exists_eq, Prod.mk.injEq, exists_and_left, f6, h2, decide_false, wrap_succ hlt hsm.en]
      refine k _ _ (by repeat (first | refine Same.put ?_ rfl | exact Same.rfl' _)) (by simp only [↓Sh.stepDn, Sh.stepUp, seatFacts, exitTo, calm, isEff, Nat.reduceBEq, evs, evps, evo, isConst, reduceCtorEq, Nat.reduceEqDiff, resultsA, Sh.one, Sh.unit, forall_const, implies_true, eq_self, ne_eq, if_true, if_false, beq_self_eq_true, cond_true, cond_false, List.all_cons, List.all_nil, List.getElem?_cons_zero, List.getElem?_cons_succ, List.nil_append, List.append_nil, Option.bind_some, Option.map_some, Option.some.injEq, exists_eq_left', exists_eq', exists_eq, Prod.mk.injEq, exists_and_left]) ⟨rfl, ?_⟩
      rw [List.take_add_one, List.getElem?_eq_getElem hlt]
      simp only [Option.toList, List.any_append, hall2, List.any_cons, List.any_nil, Bool.or_false, badEnd, h1, h2, decide_false]
    · rintro F2 H'' hF2 f6 ⟨rfl, hall2⟩
      have g1 := hF2 1 rfl
      simp only [↓Sh.stepDn, Sh.stepUp, seatFacts, exitTo, calm, isEff, Nat.reduceBEq, evs, evps, evo, isConst, reduceCtorEq, Nat.reduceEqDiff, resultsA, Sh.one, Sh.unit, forall_const, implies_true, eq_self, ne_eq, if_true, if_false, beq_self_eq_true, cond_true, cond_false, List.all_cons, List.all_nil, List.getElem?_cons_zero, List.getElem?_cons_succ, List.nil_append, List.append_nil, Option.bind_some, Option.map_some, Option.some.injEq, exists_eq_left', exists_eq', exists_eq, Prod.mk.injEq, exists_and_left, f1] at g1
      rw [List.take_length] at hall2
      simp only [↓Sh.stepDn, Sh.stepUp, seatFacts, exitTo, calm, isEff, Nat.reduceBEq, evs, evps, evo, isConst, reduceCtorEq, Nat.reduceEqDiff, resultsA, Sh.one, Sh.unit, forall_const, implies_true, eq_self, ne_eq, if_true, if_false, beq_self_eq_true, cond_true, cond_false, List.all_cons, List.all_nil, List.getElem?_cons_zero, List.getElem?_cons_succ, List.nil_append, List.append_nil, Option.bind_some, Option.map_some, Option.some.injEq, exists_eq_left', exists_eq', exists_eq, Prod.mk.injEq, exists_and_left, hb'.c0, hb'.c1, hb'.c2, hb'.c3, hb'.ca, netLenS hb', netLenA hb', netLenE hb', g1, f6, nat_lt, Nat.lt_irrefl, decide_false, hres, e3 hall hall2, hkk]
end Go.Proofs.Ytbnpoiibehkjpaa
/- syms.isLong and syms.isSymbol. -/
set_option maxHeartbeats 4000000
set_option linter.unusedSimpArgs false
set_option linter.unusedVariables false
set_option pp.deepTerms.threshold 8
namespace Go.Proofs.Ytbnpoiibehkjpaa
open Go Go.Proofs Go.Proofs.Sh
theorem symsIsLong {H : AH} {x : ByteArray} : Sh.Call Try.prog (knows 7) 24 [.string x] H (fun r H' => H' = H ∧ r = .bool (decide (16 < x.size))) := by
  refine call_of rfl Try.func24 rfl (Nat.le_of_ble_eq_true rfl) ?_
  have hres : Try.f24.results.toList = [.tmp 2] := rfl
  have e : decide ((16 : Int) < (x.size : Int)) = decide (16 < x.size) := decide_eq_decide.2 (by omega)
  simp only [↓Sh.stepDn, Sh.stepUp, seatFacts, exitTo, calm, isEff, Nat.reduceBEq, evs, evps, evo, isConst, reduceCtorEq, Nat.reduceEqDiff, resultsA, Sh.one, Sh.unit, forall_const, implies_true, eq_self, ne_eq, if_true, if_false, beq_self_eq_true, cond_true, cond_false, List.all_cons, List.all_nil, List.getElem?_cons_zero, List.getElem?_cons_succ, List.nil_append, List.append_nil, Option.bind_some, Option.map_some, Option.some.injEq, exists_eq_left', exists_eq', exists_eq, Prod.mk.injEq, exists_and_left, hres, e]
/-- A symbol, however long. -/
def chOk (s : ByteArray) : Bool := !s.data.toList.any badByte && decide (1 ≤ s.size)
theorem symOk_chOk (s : ByteArray) : symOk s = (chOk s && decide (s.size ≤ 16)) := rfl
theorem size_empty {x : ByteArray} : decide (x = ⟨#[]⟩) = !decide (1 ≤ x.size) := by
  by_cases h : x = ⟨#[]⟩
  · subst h; rfl
  · have : 1 ≤ x.size := by
      refine Nat.one_le_iff_ne_zero.2 fun h0 => h (ByteArray.ext ?_)
      exact Array.eq_empty_of_size_eq_zero h0
    simp [h, this]
theorem symsIsSymbol {H : AH} {x : ByteArray} (hl : x.size ≤ 1048576) :
    Sh.Call Try.prog (knows 7) 25 [.string x] H (fun r H' => H' = H ∧ r = .bool (chOk x)) := by
  refine call_of rfl Try.func25 rfl (Nat.le_of_ble_eq_true rfl) ?_
  have hres : Try.f25.results.toList = [.tmp 2] := rfl
  have hsz : x.data.toList.length = x.size := by rw [Array.length_toList]; rfl
  simp only [↓Sh.stepDn, Sh.stepUp, seatFacts, exitTo, calm, isEff, Nat.reduceBEq, evs, evps, evo, isConst, reduceCtorEq, Nat.reduceEqDiff, resultsA, Sh.one, Sh.unit, forall_const, implies_true, eq_self, ne_eq, if_true, if_false, beq_self_eq_true, cond_true, cond_false, List.all_cons, List.all_nil, List.getElem?_cons_zero, List.getElem?_cons_succ, List.nil_append, List.append_nil, Option.bind_some, Option.map_some, Option.some.injEq, exists_eq_left', exists_eq', exists_eq, Prod.mk.injEq, exists_and_left]
  refine wp_for x.size 6 (List.range' 6 26 ++ [2, 3]) (fun i F H' => H' = H ∧ (x.data.toList.take i).any badByte = false) (by simp only [↓Sh.stepDn, Sh.stepUp, seatFacts, exitTo, calm, isEff, Nat.reduceBEq, evs, evps, evo, isConst, reduceCtorEq, Nat.reduceEqDiff, resultsA, Sh.one, Sh.unit, forall_const, implies_true, eq_self, ne_eq, if_true, if_false, beq_self_eq_true, cond_true, cond_false, List.all_cons, List.all_nil, List.getElem?_cons_zero, List.getElem?_cons_succ, List.nil_append, List.append_nil, Option.bind_some, Option.map_some, Option.some.injEq, exists_eq_left', exists_eq', exists_eq, Prod.mk.injEq, exists_and_left]) ⟨rfl, rfl⟩ ?_ ?_
  · rintro i F H' hlt hF f6 ⟨rfl, hall⟩ k
    have f0 := hF 0 rfl
    have f5 := hF 5 rfl
    simp only [↓Sh.stepDn, Sh.stepUp, seatFacts, exitTo, calm, isEff, Nat.reduceBEq, evs, evps, evo, isConst, reduceCtorEq, Nat.reduceEqDiff, resultsA, Sh.one, Sh.unit, forall_const, implies_true, eq_self, ne_eq, if_true, if_false, beq_self_eq_true, cond_true, cond_false, List.all_cons, List.all_nil, List.getElem?_cons_zero, List.getElem?_cons_succ, List.nil_append, List.append_nil, Option.bind_some, Option.map_some, Option.some.injEq, exists_eq_left', exists_eq', exists_eq, Prod.mk.injEq, exists_and_left] at f0 f5
    obtain ⟨u, hu⟩ : ∃ u, x.data.toList[i]? = some u := ⟨x.data.toList[i]'(by omega), List.getElem?_eq_getElem (by omega)⟩
    have hix := index_str (P := Try.prog) (j := .i64) Try.underlying9 hu
    have e33 : decide ((u.toNat : Int) < 33) = decide (u.toNat < 33) := decide_eq_decide.2 (by omega)
    have e126 : decide (126 < (u.toNat : Int)) = decide (126 < u.toNat) := decide_eq_decide.2 (by omega)
    have e60 : decide ((u.toNat : Int) = 60) = decide (u.toNat = 60) := decide_eq_decide.2 (by omega)
    have e62 : decide ((u.toNat : Int) = 62) = decide (u.toNat = 62) := decide_eq_decide.2 (by omega)
    have hbad : badByte u = true → chOk x = false := by
      intro h
      have : x.data.toList.any badByte = true := List.any_eq_true.2 ⟨_, List.mem_of_getElem? hu, h⟩
      simp [chOk, this]
    simp only [↓Sh.stepDn, Sh.stepUp, seatFacts, exitTo, calm, isEff, Nat.reduceBEq, evs, evps, evo, isConst, reduceCtorEq, Nat.reduceEqDiff, resultsA, Sh.one, Sh.unit, forall_const, implies_true, eq_self, ne_eq, if_true, if_false, beq_self_eq_true, cond_true, cond_false, List.all_cons, List.all_nil, List.getElem?_cons_zero, List.getElem?_cons_succ, List.nil_append, List.append_nil, Option.bind_some, Option.map_some, Option.some.injEq, exists_eq_left', exists_eq', exists_eq, Prod.mk.injEq, exists_and_left, f0, f5, f6, hix, nat_lt, hlt, e33, decide_true]
    by_cases h1 : u.toNat < 33
    · simp only [↓Sh.stepDn, Sh.stepUp, seatFacts, exitTo, calm, isEff, Nat.reduceBEq, evs, evps, evo, isConst, reduceCtorEq, Nat.reduceEqDiff, resultsA, Sh.one, Sh.unit, forall_const, implies_true, eq_self, ne_eq, if_true, if_false, beq_self_eq_true, cond_true, cond_false, List.all_cons, List.all_nil, List.getElem?_cons_zero, List.getElem?_cons_succ, List.nil_append, List.append_nil, Option.bind_some, Option.map_some, Option.some.injEq, exists_eq_left', exists_eq', exists_eq, Prod.mk.injEq, exists_and_left, h1, decide_true, hres, hbad (by simp [badByte, h1])]
    simp only [↓Sh.stepDn, Sh.stepUp, seatFacts, exitTo, calm, isEff, Nat.reduceBEq, evs, evps, evo, isConst, reduceCtorEq, Nat.reduceEqDiff, resultsA, Sh.one, Sh.unit, forall_const, implies_true, eq_self, ne_eq, if_true, if_false, beq_self_eq_true, cond_true, cond_false, List.all_cons, List.all_nil, List.getElem?_cons_zero, List.getElem?_cons_succ, List.nil_append, List.append_nil, Option.bind_some, Option.map_some, Option.some.injEq, exists_eq_left', exists_eq', exists_eq, Prod.mk.injEq, exists_and_left, f0, hix, h1, e126, decide_false]
    by_cases h2 : 126 < u.toNat
    · simp only [↓Sh.stepDn, Sh.stepUp, seatFacts, exitTo, calm, isEff, Nat.reduceBEq, evs, evps, evo, isConst, reduceCtorEq, Nat.reduceEqDiff, resultsA, Sh.one, Sh.unit, forall_const, implies_true, eq_self, ne_eq, if_true, if_false, beq_self_eq_true, cond_true, cond_false, List.all_cons, List.all_nil, List.getElem?_cons_zero, List.getElem?_cons_succ, List.nil_append, List.append_nil, Option.bind_some, Option.map_some, Option.some.injEq, exists_eq_left', exists_eq', exists_eq, Prod.mk.injEq, exists_and_left, h2, decide_true, hres, hbad (by simp [badByte, h2])]
    simp only [↓Sh.stepDn, Sh.stepUp, seatFacts, exitTo, calm, isEff, Nat.reduceBEq, evs, evps, evo, isConst, reduceCtorEq, Nat.reduceEqDiff, resultsA, Sh.one, Sh.unit, forall_const, implies_true, eq_self, ne_eq, if_true, if_false, beq_self_eq_true, cond_true, cond_false, List.all_cons, List.all_nil, List.getElem?_cons_zero, List.getElem?_cons_succ, List.nil_append, List.append_nil, Option.bind_some, Option.map_some, Option.some.injEq, exists_eq_left', exists_eq', exists_eq, Prod.mk.injEq, exists_and_left, f0, hix, h2, e60, decide_false]
    by_cases h3 : u.toNat = 60
    · simp only [↓Sh.stepDn, Sh.stepUp, seatFacts, exitTo, calm, isEff, Nat.reduceBEq, evs, evps, evo, isConst, reduceCtorEq, Nat.reduceEqDiff, resultsA, Sh.one, Sh.unit, forall_const, implies_true, eq_self, ne_eq, if_true, if_false, beq_self_eq_true, cond_true, cond_false, List.all_cons, List.all_nil, List.getElem?_cons_zero, List.getElem?_cons_succ, List.nil_append, List.append_nil, Option.bind_some, Option.map_some, Option.some.injEq, exists_eq_left', exists_eq', exists_eq, Prod.mk.injEq, exists_and_left, h3, decide_true, hres, hbad (by simp [badByte, h3])]
    simp only [↓Sh.stepDn, Sh.stepUp, seatFacts, exitTo, calm, isEff, Nat.reduceBEq, evs, evps, evo, isConst, reduceCtorEq, Nat.reduceEqDiff, resultsA, Sh.one, Sh.unit, forall_const, implies_true, eq_self, ne_eq, if_true, if_false, beq_self_eq_true, cond_true, cond_false, List.all_cons, List.all_nil, List.getElem?_cons_zero, List.getElem?_cons_succ, List.nil_append, List.append_nil, Option.bind_some, Option.map_some, Option.some.injEq, exists_eq_left', exists_eq', exists_eq, Prod.mk.injEq, exists_and_left, f0, hix, h3, e62, decide_false]
    by_cases h4 : u.toNat = 62
    · simp only [↓Sh.stepDn, Sh.stepUp, seatFacts, exitTo, calm, isEff, Nat.reduceBEq, evs, evps, evo, isConst, reduceCtorEq, Nat.reduceEqDiff, resultsA, Sh.one, Sh.unit, forall_const, implies_true, eq_self, ne_eq, if_true, if_false, beq_self_eq_true, cond_true, cond_false, List.all_cons, List.all_nil, List.getElem?_cons_zero, List.getElem?_cons_succ, List.nil_append, List.append_nil, Option.bind_some, Option.map_some, Option.some.injEq, exists_eq_left', exists_eq', exists_eq, Prod.mk.injEq, exists_and_left, h4, decide_true, hres, hbad (by simp [badByte, h4])]
    simp only [↓Sh.stepDn, Sh.stepUp, seatFacts, exitTo, calm, isEff, Nat.reduceBEq, evs, evps, evo, isConst, reduceCtorEq, Nat.reduceEqDiff, resultsA, Sh.one, Sh.unit, forall_const, implies_true, eq_self, ne_eq, if_true, if_false, beq_self_eq_true, cond_true, cond_false, List.all_cons, List.all_nil, List.getElem?_cons_zero, List.getElem?_cons_succ, List.nil_append, List.append_nil, Option.bind_some, Option.map_some, Option.some.injEq, exists_eq_left', exists_eq', exists_eq, Prod.mk.injEq, exists_and_left, f6, h4, decide_false, wrap_succ hlt hl]
    refine k _ _ (by repeat (first | refine Same.put ?_ rfl | exact Same.rfl' _)) (by simp only [↓Sh.stepDn, Sh.stepUp, seatFacts, exitTo, calm, isEff, Nat.reduceBEq, evs, evps, evo, isConst, reduceCtorEq, Nat.reduceEqDiff, resultsA, Sh.one, Sh.unit, forall_const, implies_true, eq_self, ne_eq, if_true, if_false, beq_self_eq_true, cond_true, cond_false, List.all_cons, List.all_nil, List.getElem?_cons_zero, List.getElem?_cons_succ, List.nil_append, List.append_nil, Option.bind_some, Option.map_some, Option.some.injEq, exists_eq_left', exists_eq', exists_eq, Prod.mk.injEq, exists_and_left]) ⟨rfl, ?_⟩
    rw [List.take_add_one, hu]
    simp only [Option.toList, List.any_append, hall, Bool.false_or, List.any_cons, List.any_nil, Bool.or_false, badByte, h1, h2, h3, h4, decide_false]
  · rintro F H' hF f6 ⟨rfl, hall⟩
    have f0 := hF 0 rfl
    have f5 := hF 5 rfl
    simp only [↓Sh.stepDn, Sh.stepUp, seatFacts, exitTo, calm, isEff, Nat.reduceBEq, evs, evps, evo, isConst, reduceCtorEq, Nat.reduceEqDiff, resultsA, Sh.one, Sh.unit, forall_const, implies_true, eq_self, ne_eq, if_true, if_false, beq_self_eq_true, cond_true, cond_false, List.all_cons, List.all_nil, List.getElem?_cons_zero, List.getElem?_cons_succ, List.nil_append, List.append_nil, Option.bind_some, Option.map_some, Option.some.injEq, exists_eq_left', exists_eq', exists_eq, Prod.mk.injEq, exists_and_left] at f0 f5
    rw [← hsz, List.take_length] at hall
    simp only [↓Sh.stepDn, Sh.stepUp, seatFacts, exitTo, calm, isEff, Nat.reduceBEq, evs, evps, evo, isConst, reduceCtorEq, Nat.reduceEqDiff, resultsA, Sh.one, Sh.unit, forall_const, implies_true, eq_self, ne_eq, if_true, if_false, beq_self_eq_true, cond_true, cond_false, List.all_cons, List.all_nil, List.getElem?_cons_zero, List.getElem?_cons_succ, List.nil_append, List.append_nil, Option.bind_some, Option.map_some, Option.some.injEq, exists_eq_left', exists_eq', exists_eq, Prod.mk.injEq, exists_and_left, f0, f5, f6, nat_lt, Nat.lt_irrefl, decide_false, hres, chOk, hall, size_empty]
end Go.Proofs.Ytbnpoiibehkjpaa
/- slices.IndexFunc and ContainsFunc: whether some element is so. -/
set_option maxHeartbeats 4000000
set_option linter.unusedSimpArgs false
set_option linter.unusedVariables false
set_option pp.deepTerms.threshold 8
namespace Go.Proofs.Ytbnpoiibehkjpaa
open Go Go.Proofs Go.Proofs.Sh
theorem indexFuncStr {H : AH} {v : Value} {l : List ByteArray} {fid : Nat} {caps : List Value} (p : ByteArray → Bool) (hs : Sl H v 1 (l.map strCell)) (hl : l.length ≤ 1048576) (hw : Wf H)
    (hp : ∀ H', Kept H H' → ∀ x ∈ l, Sh.Call Try.prog (knows 7) fid ((fun s => Value.string s) x :: caps) H' (fun r H'' => Kept H' H'' ∧ r = .bool (p x))) :
    Sh.Call Try.prog (knows 7) 46 [v, .func (.func fid) #[] caps.toArray] H (fun r H' => Kept H H' ∧ ∃ k : Int, r = .int .i64 k ∧ decide (0 ≤ k) = l.any p) := by
  refine call_of rfl Try.func46 rfl (Nat.le_of_ble_eq_true rfl) ?_
  have hres : Try.f46.results.toList = [.tmp 4] := rfl
  have hlen := hs.len Try.underlying22 H
  simp only [↓Sh.stepDn, Sh.stepUp, seatFacts, exitTo, calm, isEff, Nat.reduceBEq, evs, evps, evo, isConst, reduceCtorEq, Nat.reduceEqDiff, resultsA, Sh.one, Sh.unit, forall_const, implies_true, eq_self, ne_eq, if_true, if_false, beq_self_eq_true, cond_true, cond_false, List.all_cons, List.all_nil, List.getElem?_cons_zero, List.getElem?_cons_succ, List.nil_append, List.append_nil, Option.bind_some, Option.map_some, Option.some.injEq, exists_eq_left', exists_eq', exists_eq, Prod.mk.injEq, exists_and_left, hlen, List.length_map]
  refine wp_for l.length 8 [5, 8, 9, 10, 11, 12, 13, 14, 15, 16, 18] (fun i F H' => Kept H H' ∧ (l.take i).any p = false) (by simp only [↓Sh.stepDn, Sh.stepUp, seatFacts, exitTo, calm, isEff, Nat.reduceBEq, evs, evps, evo, isConst, reduceCtorEq, Nat.reduceEqDiff, resultsA, Sh.one, Sh.unit, forall_const, implies_true, eq_self, ne_eq, if_true, if_false, beq_self_eq_true, cond_true, cond_false, List.all_cons, List.all_nil, List.getElem?_cons_zero, List.getElem?_cons_succ, List.nil_append, List.append_nil, Option.bind_some, Option.map_some, Option.some.injEq, exists_eq_left', exists_eq', exists_eq, Prod.mk.injEq, exists_and_left]) ⟨Kept.refl hw, rfl⟩ ?_ ?_
  · rintro i F H' hlt hF f8 ⟨hk, hall⟩ k
    have hs1 := hs.grow (hk.grow hw)
    obtain ⟨g, o, kk, hia, hc, hcc⟩ := hs1.at Try.underlying22 size_9 (i := i) (x := strCell l[i]) (by simp [hlt]) .i64
    have hld := hcc 0 _ rfl; simp only [Nat.add_zero] at hld
    have f0 := hF 0 rfl
    have f1 := hF 1 rfl
    have f7 := hF 7 rfl
    simp only [↓Sh.stepDn, Sh.stepUp, seatFacts, exitTo, calm, isEff, Nat.reduceBEq, evs, evps, evo, isConst, reduceCtorEq, Nat.reduceEqDiff, resultsA, Sh.one, Sh.unit, forall_const, implies_true, eq_self, ne_eq, if_true, if_false, beq_self_eq_true, cond_true, cond_false, List.all_cons, List.all_nil, List.getElem?_cons_zero, List.getElem?_cons_succ, List.nil_append, List.append_nil, Option.bind_some, Option.map_some, Option.some.injEq, exists_eq_left', exists_eq', exists_eq, Prod.mk.injEq, exists_and_left] at f0 f1 f7
    obtain ⟨r, H2, hd, hk2, rfl⟩ := hp H' hk l[i] (List.getElem_mem hlt)
    simp only [↓Sh.stepDn, Sh.stepUp, seatFacts, exitTo, calm, isEff, Nat.reduceBEq, evs, evps, evo, isConst, reduceCtorEq, Nat.reduceEqDiff, resultsA, Sh.one, Sh.unit, forall_const, implies_true, eq_self, ne_eq, if_true, if_false, beq_self_eq_true, cond_true, cond_false, List.all_cons, List.all_nil, List.getElem?_cons_zero, List.getElem?_cons_succ, List.nil_append, List.append_nil, Option.bind_some, Option.map_some, Option.some.injEq, exists_eq_left', exists_eq', exists_eq, Prod.mk.injEq, exists_and_left, f0, f1, f7, f8, nat_lt, hlt, decide_true, hia, hld, Option.map_some, forall_const, reduceCtorEq, false_implies, and_true, true_and]
    refine ⟨_, _, hd, ?_⟩
    cases hpv : p l[i] with
    | true =>
      simp only [↓Sh.stepDn, Sh.stepUp, seatFacts, exitTo, calm, isEff, Nat.reduceBEq, evs, evps, evo, isConst, reduceCtorEq, Nat.reduceEqDiff, resultsA, Sh.one, Sh.unit, forall_const, implies_true, eq_self, ne_eq, if_true, if_false, beq_self_eq_true, cond_true, cond_false, List.all_cons, List.all_nil, List.getElem?_cons_zero, List.getElem?_cons_succ, List.nil_append, List.append_nil, Option.bind_some, Option.map_some, Option.some.injEq, exists_eq_left', exists_eq', exists_eq, Prod.mk.injEq, exists_and_left, hres, forall_const, reduceCtorEq, false_implies, and_true, true_and]
      refine ⟨hk.trans hk2, _, rfl, ?_⟩
      rw [List.any_eq_true.2 ⟨_, List.getElem_mem hlt, hpv⟩]
      simp
    | false =>
      simp only [↓Sh.stepDn, Sh.stepUp, seatFacts, exitTo, calm, isEff, Nat.reduceBEq, evs, evps, evo, isConst, reduceCtorEq, Nat.reduceEqDiff, resultsA, Sh.one, Sh.unit, forall_const, implies_true, eq_self, ne_eq, if_true, if_false, beq_self_eq_true, cond_true, cond_false, List.all_cons, List.all_nil, List.getElem?_cons_zero, List.getElem?_cons_succ, List.nil_append, List.append_nil, Option.bind_some, Option.map_some, Option.some.injEq, exists_eq_left', exists_eq', exists_eq, Prod.mk.injEq, exists_and_left, hres, f8, wrap_succ hlt hl, forall_const, reduceCtorEq, false_implies, and_true, true_and]
      refine k _ _ (by repeat (first | refine Same.put ?_ rfl | exact Same.rfl' _)) (by simp only [↓Sh.stepDn, Sh.stepUp, seatFacts, exitTo, calm, isEff, Nat.reduceBEq, evs, evps, evo, isConst, reduceCtorEq, Nat.reduceEqDiff, resultsA, Sh.one, Sh.unit, forall_const, implies_true, eq_self, ne_eq, if_true, if_false, beq_self_eq_true, cond_true, cond_false, List.all_cons, List.all_nil, List.getElem?_cons_zero, List.getElem?_cons_succ, List.nil_append, List.append_nil, Option.bind_some, Option.map_some, Option.some.injEq, exists_eq_left', exists_eq', exists_eq, Prod.mk.injEq, exists_and_left]) ⟨hk.trans hk2, ?_⟩
      rw [List.take_add_one, List.getElem?_eq_getElem hlt]
      simp only [Option.toList, List.any_append, hall, List.any_cons, List.any_nil, hpv, Bool.or_false]
  · rintro F H' hF f8 ⟨hk, hall⟩
    have f7 := hF 7 rfl
    simp only [↓Sh.stepDn, Sh.stepUp, seatFacts, exitTo, calm, isEff, Nat.reduceBEq, evs, evps, evo, isConst, reduceCtorEq, Nat.reduceEqDiff, resultsA, Sh.one, Sh.unit, forall_const, implies_true, eq_self, ne_eq, if_true, if_false, beq_self_eq_true, cond_true, cond_false, List.all_cons, List.all_nil, List.getElem?_cons_zero, List.getElem?_cons_succ, List.nil_append, List.append_nil, Option.bind_some, Option.map_some, Option.some.injEq, exists_eq_left', exists_eq', exists_eq, Prod.mk.injEq, exists_and_left] at f7
    rw [List.take_length] at hall
    simp only [↓Sh.stepDn, Sh.stepUp, seatFacts, exitTo, calm, isEff, Nat.reduceBEq, evs, evps, evo, isConst, reduceCtorEq, Nat.reduceEqDiff, resultsA, Sh.one, Sh.unit, forall_const, implies_true, eq_self, ne_eq, if_true, if_false, beq_self_eq_true, cond_true, cond_false, List.all_cons, List.all_nil, List.getElem?_cons_zero, List.getElem?_cons_succ, List.nil_append, List.append_nil, Option.bind_some, Option.map_some, Option.some.injEq, exists_eq_left', exists_eq', exists_eq, Prod.mk.injEq, exists_and_left, f7, f8, nat_lt, Nat.lt_irrefl, decide_false, hres, forall_const, reduceCtorEq, false_implies, and_true, true_and]
    exact ⟨hk, _, rfl, by rw [hall]; rfl⟩
theorem containsFuncStr {H : AH} {v : Value} {l : List ByteArray} {fid : Nat} {caps : List Value} (p : ByteArray → Bool) (hs : Sl H v 1 (l.map strCell)) (hl : l.length ≤ 1048576) (hw : Wf H)
    (hp : ∀ H', Kept H H' → ∀ x ∈ l, Sh.Call Try.prog (knows 7) fid ((fun s => Value.string s) x :: caps) H' (fun r H'' => Kept H' H'' ∧ r = .bool (p x))) :
    Sh.Call Try.prog (knows 7) 23 [v, .func (.func fid) #[] caps.toArray] H (fun r H' => Kept H H' ∧ r = .bool (l.any p)) := by
  refine call_of rfl Try.func23 rfl (Nat.le_of_ble_eq_true rfl) ?_
  have hres : Try.f23.results.toList = [.tmp 4] := rfl
  obtain ⟨r, H2, hd, hk, k, rfl, hk0⟩ := indexFuncStr p hs hl hw hp
  simp only [↓Sh.stepDn, Sh.stepUp, seatFacts, exitTo, calm, isEff, Nat.reduceBEq, evs, evps, evo, isConst, reduceCtorEq, Nat.reduceEqDiff, resultsA, Sh.one, Sh.unit, forall_const, implies_true, eq_self, ne_eq, if_true, if_false, beq_self_eq_true, cond_true, cond_false, List.all_cons, List.all_nil, List.getElem?_cons_zero, List.getElem?_cons_succ, List.nil_append, List.append_nil, Option.bind_some, Option.map_some, Option.some.injEq, exists_eq_left', exists_eq', exists_eq, Prod.mk.injEq, exists_and_left]
  refine ⟨_, _, hd, ?_⟩
  simp only [↓Sh.stepDn, Sh.stepUp, seatFacts, exitTo, calm, isEff, Nat.reduceBEq, evs, evps, evo, isConst, reduceCtorEq, Nat.reduceEqDiff, resultsA, Sh.one, Sh.unit, forall_const, implies_true, eq_self, ne_eq, if_true, if_false, beq_self_eq_true, cond_true, cond_false, List.all_cons, List.all_nil, List.getElem?_cons_zero, List.getElem?_cons_succ, List.nil_append, List.append_nil, Option.bind_some, Option.map_some, Option.some.injEq, exists_eq_left', exists_eq', exists_eq, Prod.mk.injEq, exists_and_left, hres, hk0, and_true]
  exact hk
end Go.Proofs.Ytbnpoiibehkjpaa
/- What is wrong with an alphabet, by the program. -/
set_option maxHeartbeats 4000000
set_option linter.unusedSimpArgs false
set_option linter.unusedVariables false
set_option pp.deepTerms.threshold 8
namespace Go.Proofs.Ytbnpoiibehkjpaa
open Go Go.Proofs Go.Proofs.Sh
theorem symsValidate {H : AH} {v : Value} {l : List ByteArray} (hs : Sl H v 1 (l.map strCell)) (hl : l.length ≤ 1048576) (hlx : ∀ x ∈ l, x.size ≤ 1048576) (hw : Wf H) :
    Sh.Call Try.prog (knows 7) 13 [v] H (fun r H' => Kept H H' ∧ r = .int .i64 (sigErr l)) := by
  refine call_of rfl Try.func13 rfl (Nat.le_of_ble_eq_true rfl) ?_
  have hres : Try.f13.results.toList = [.tmp 2] := rfl
  have hlen := hs.len Try.underlying22 H
  have e40 : decide ((40 : Int) < ((l.length : Nat) : Int)) = decide (40 < l.length) := decide_eq_decide.2 (by omega)
  simp only [↓Sh.stepDn, Sh.stepUp, seatFacts, exitTo, calm, isEff, Nat.reduceBEq, evs, evps, evo, isConst, reduceCtorEq, Nat.reduceEqDiff, resultsA, Sh.one, Sh.unit, forall_const, implies_true, eq_self, ne_eq, if_true, if_false, beq_self_eq_true, cond_true, cond_false, List.all_cons, List.all_nil, List.getElem?_cons_zero, List.getElem?_cons_succ, List.nil_append, List.append_nil, Option.bind_some, Option.map_some, Option.some.injEq, exists_eq_left', exists_eq', exists_eq, Prod.mk.injEq, exists_and_left, hlen, List.length_map, e40]
  by_cases h40 : 40 < l.length
  · simp only [↓Sh.stepDn, Sh.stepUp, seatFacts, exitTo, calm, isEff, Nat.reduceBEq, evs, evps, evo, isConst, reduceCtorEq, Nat.reduceEqDiff, resultsA, Sh.one, Sh.unit, forall_const, implies_true, eq_self, ne_eq, if_true, if_false, beq_self_eq_true, cond_true, cond_false, List.all_cons, List.all_nil, List.getElem?_cons_zero, List.getElem?_cons_succ, List.nil_append, List.append_nil, Option.bind_some, Option.map_some, Option.some.injEq, exists_eq_left', exists_eq', exists_eq, Prod.mk.injEq, exists_and_left, h40, decide_true, hres, sigErr, Bool.true_or, Kept.refl hw]
  simp only [↓Sh.stepDn, Sh.stepUp, seatFacts, exitTo, calm, isEff, Nat.reduceBEq, evs, evps, evo, isConst, reduceCtorEq, Nat.reduceEqDiff, resultsA, Sh.one, Sh.unit, forall_const, implies_true, eq_self, ne_eq, if_true, if_false, beq_self_eq_true, cond_true, cond_false, List.all_cons, List.all_nil, List.getElem?_cons_zero, List.getElem?_cons_succ, List.nil_append, List.append_nil, Option.bind_some, Option.map_some, Option.some.injEq, exists_eq_left', exists_eq', exists_eq, Prod.mk.injEq, exists_and_left, h40, decide_false]
  obtain ⟨r1, H1, hd1, hk1, rfl⟩ := containsFuncStr (caps := []) (fid := 24) (fun s => decide (16 < s.size)) hs hl hw (fun H' hk x hx => (symsIsLong (H := H') (x := x)).mono fun r H'' h => by rcases h with ⟨rfl, h⟩; exact ⟨Kept.refl hk.wf, h⟩)
  refine ⟨_, _, hd1, ?_⟩
  cases hL : (l.any fun s => decide (16 < s.size)) with
  | true => simp only [↓Sh.stepDn, Sh.stepUp, seatFacts, exitTo, calm, isEff, Nat.reduceBEq, evs, evps, evo, isConst, reduceCtorEq, Nat.reduceEqDiff, resultsA, Sh.one, Sh.unit, forall_const, implies_true, eq_self, ne_eq, if_true, if_false, beq_self_eq_true, cond_true, cond_false, List.all_cons, List.all_nil, List.getElem?_cons_zero, List.getElem?_cons_succ, List.nil_append, List.append_nil, Option.bind_some, Option.map_some, Option.some.injEq, exists_eq_left', exists_eq', exists_eq, Prod.mk.injEq, exists_and_left, hres, hL, sigErr, anyLongB, h40, decide_false, Bool.false_or, hk1]
  | false =>
    have hs1 := hs.grow (hk1.grow hw)
    have hlen1 := hs1.len Try.underlying22 H1
    simp only [↓Sh.stepDn, Sh.stepUp, seatFacts, exitTo, calm, isEff, Nat.reduceBEq, evs, evps, evo, isConst, reduceCtorEq, Nat.reduceEqDiff, resultsA, Sh.one, Sh.unit, forall_const, implies_true, eq_self, ne_eq, if_true, if_false, beq_self_eq_true, cond_true, cond_false, List.all_cons, List.all_nil, List.getElem?_cons_zero, List.getElem?_cons_succ, List.nil_append, List.append_nil, Option.bind_some, Option.map_some, Option.some.injEq, exists_eq_left', exists_eq', exists_eq, Prod.mk.injEq, exists_and_left, hlen1, List.length_map]
    have h16 : ∀ x ∈ l, decide (x.size ≤ 16) = true := by
      intro x hx
      have := List.any_eq_false.1 hL x hx
      simp only [decide_eq_true_eq, Nat.not_lt] at this
      simpa using this
    have e1 : (l.all symOk && ascB l) = false → sigErr l = 1 := by intro h; simp [sigErr, anyLongB, h40, hL]; simpa using h
    have e0 : (l.all symOk && ascB l) = true → sigErr l = 0 := by intro h; simp [sigErr, anyLongB, h40, hL]; simpa using h
    have hsy : ∀ x ∈ l, symOk x = chOk x := by intro x hx; rw [symOk_chOk, h16 x hx, Bool.and_true]
    refine wp_for l.length 14 (List.range' 14 22 ++ [2, 3, 4]) (fun i F H' => H' = H1 ∧ (∀ (j : Nat) x, j < i → l[j]? = some x → chOk x = true) ∧ (∀ (j : Nat) x y, j + 1 < i → l[j]? = some x → l[j + 1]? = some y → strLt x y = true)) (by simp only [↓Sh.stepDn, Sh.stepUp, seatFacts, exitTo, calm, isEff, Nat.reduceBEq, evs, evps, evo, isConst, reduceCtorEq, Nat.reduceEqDiff, resultsA, Sh.one, Sh.unit, forall_const, implies_true, eq_self, ne_eq, if_true, if_false, beq_self_eq_true, cond_true, cond_false, List.all_cons, List.all_nil, List.getElem?_cons_zero, List.getElem?_cons_succ, List.nil_append, List.append_nil, Option.bind_some, Option.map_some, Option.some.injEq, exists_eq_left', exists_eq', exists_eq, Prod.mk.injEq, exists_and_left]) ⟨rfl, fun j x h => by omega, fun j x y h => by omega⟩ ?_ ?_
    · rintro i F H' hlt hF f14 ⟨rfl, hall, hasc⟩ k
      have f0 := hF 0 rfl
      have f12 := hF 12 rfl
      have f13 := hF 13 rfl
      simp only [↓Sh.stepDn, Sh.stepUp, seatFacts, exitTo, calm, isEff, Nat.reduceBEq, evs, evps, evo, isConst, reduceCtorEq, Nat.reduceEqDiff, resultsA, Sh.one, Sh.unit, forall_const, implies_true, eq_self, ne_eq, if_true, if_false, beq_self_eq_true, cond_true, cond_false, List.all_cons, List.all_nil, List.getElem?_cons_zero, List.getElem?_cons_succ, List.nil_append, List.append_nil, Option.bind_some, Option.map_some, Option.some.injEq, exists_eq_left', exists_eq', exists_eq, Prod.mk.injEq, exists_and_left] at f0 f12 f13
      obtain ⟨g, o, kk, hia, hc, hcc⟩ := hs1.at Try.underlying22 size_9 (i := i) (x := strCell l[i]) (by simp [hlt]) .i64
      have hy := hcc 0 _ rfl
      simp only [Nat.add_zero] at hy
      have hget : l[i]? = some l[i] := List.getElem?_eq_getElem hlt
      obtain ⟨r, H2, hd2, rfl, rfl⟩ := symsIsSymbol (H := H') (x := l[i]) (hlx _ (List.getElem_mem hlt))
      simp only [↓Sh.stepDn, Sh.stepUp, seatFacts, exitTo, calm, isEff, Nat.reduceBEq, evs, evps, evo, isConst, reduceCtorEq, Nat.reduceEqDiff, resultsA, Sh.one, Sh.unit, forall_const, implies_true, eq_self, ne_eq, if_true, if_false, beq_self_eq_true, cond_true, cond_false, List.all_cons, List.all_nil, List.getElem?_cons_zero, List.getElem?_cons_succ, List.nil_append, List.append_nil, Option.bind_some, Option.map_some, Option.some.injEq, exists_eq_left', exists_eq', exists_eq, Prod.mk.injEq, exists_and_left, f0, f12, f13, f14, nat_lt, hlt, decide_true, hia, hy]
      refine ⟨_, _, hd2, ?_⟩
      cases hch : chOk l[i] with
      | false =>
        have hbad : sigErr l = 1 := e1 (by
          rw [Bool.and_eq_false_iff]; left
          exact List.all_eq_false.2 ⟨_, List.getElem_mem hlt, by rw [hsy _ (List.getElem_mem hlt), hch]; simp⟩)
        simp only [↓Sh.stepDn, Sh.stepUp, seatFacts, exitTo, calm, isEff, Nat.reduceBEq, evs, evps, evo, isConst, reduceCtorEq, Nat.reduceEqDiff, resultsA, Sh.one, Sh.unit, forall_const, implies_true, eq_self, ne_eq, if_true, if_false, beq_self_eq_true, cond_true, cond_false, List.all_cons, List.all_nil, List.getElem?_cons_zero, List.getElem?_cons_succ, List.nil_append, List.append_nil, Option.bind_some, Option.map_some, Option.some.injEq, exists_eq_left', exists_eq', exists_eq, Prod.mk.injEq, exists_and_left, hres, hbad, hk1]
      | true =>
        have hall' : ∀ (j : Nat) x, j < i + 1 → l[j]? = some x → chOk x = true := by
          intro j x hj hx
          by_cases he : j = i
          · subst he; rw [hget] at hx; rw [← Option.some.inj hx]; exact hch
          · exact hall j x (by omega) hx
        by_cases hi0 : 0 < i
        · have hlt1 : i - 1 < l.length := by omega
          obtain ⟨g', o', kk', hia', hc', hcc'⟩ := hs1.at Try.underlying22 size_9 (i := i - 1) (x := strCell l[i - 1]) (by simp [hlt1]) .i64
          have hy' := hcc' 0 _ rfl
          simp only [Nat.add_zero] at hy'
          have hw1 : IntKind.wrap .i64 ((i : Int) - 1) = ((i - 1 : Nat) : Int) := by rw [wrap64 (by omega) (by omega)]; omega
          have ei : decide ((0 : Int) < (i : Int)) = true := by simpa using hi0
          have hget' : l[i - 1]? = some l[i - 1] := List.getElem?_eq_getElem hlt1
          simp only [↓Sh.stepDn, Sh.stepUp, seatFacts, exitTo, calm, isEff, Nat.reduceBEq, evs, evps, evo, isConst, reduceCtorEq, Nat.reduceEqDiff, resultsA, Sh.one, Sh.unit, forall_const, implies_true, eq_self, ne_eq, if_true, if_false, beq_self_eq_true, cond_true, cond_false, List.all_cons, List.all_nil, List.getElem?_cons_zero, List.getElem?_cons_succ, List.nil_append, List.append_nil, Option.bind_some, Option.map_some, Option.some.injEq, exists_eq_left', exists_eq', exists_eq, Prod.mk.injEq, exists_and_left, f0, ei, hw1, hia', hy']
          cases hq : strLt l[i - 1] l[i] with
          | false =>
            have hbad : sigErr l = 1 := e1 (by
              rw [Bool.and_eq_false_iff]; right
              cases hb : ascB l with
              | false => rfl
              | true =>
                have := ascB_iff.1 hb (i - 1) _ _ hget' (by rw [show i - 1 + 1 = i by omega]; exact hget)
                rw [this] at hq; cases hq)
            simp only [↓Sh.stepDn, Sh.stepUp, seatFacts, exitTo, calm, isEff, Nat.reduceBEq, evs, evps, evo, isConst, reduceCtorEq, Nat.reduceEqDiff, resultsA, Sh.one, Sh.unit, forall_const, implies_true, eq_self, ne_eq, if_true, if_false, beq_self_eq_true, cond_true, cond_false, List.all_cons, List.all_nil, List.getElem?_cons_zero, List.getElem?_cons_succ, List.nil_append, List.append_nil, Option.bind_some, Option.map_some, Option.some.injEq, exists_eq_left', exists_eq', exists_eq, Prod.mk.injEq, exists_and_left, hres, hbad, hk1]
          | true =>
            simp only [↓Sh.stepDn, Sh.stepUp, seatFacts, exitTo, calm, isEff, Nat.reduceBEq, evs, evps, evo, isConst, reduceCtorEq, Nat.reduceEqDiff, resultsA, Sh.one, Sh.unit, forall_const, implies_true, eq_self, ne_eq, if_true, if_false, beq_self_eq_true, cond_true, cond_false, List.all_cons, List.all_nil, List.getElem?_cons_zero, List.getElem?_cons_succ, List.nil_append, List.append_nil, Option.bind_some, Option.map_some, Option.some.injEq, exists_eq_left', exists_eq', exists_eq, Prod.mk.injEq, exists_and_left, f14, wrap_succ hlt hl]
            refine k _ _ (by repeat (first | refine Same.put ?_ rfl | exact Same.rfl' _)) (by simp only [↓Sh.stepDn, Sh.stepUp, seatFacts, exitTo, calm, isEff, Nat.reduceBEq, evs, evps, evo, isConst, reduceCtorEq, Nat.reduceEqDiff, resultsA, Sh.one, Sh.unit, forall_const, implies_true, eq_self, ne_eq, if_true, if_false, beq_self_eq_true, cond_true, cond_false, List.all_cons, List.all_nil, List.getElem?_cons_zero, List.getElem?_cons_succ, List.nil_append, List.append_nil, Option.bind_some, Option.map_some, Option.some.injEq, exists_eq_left', exists_eq', exists_eq, Prod.mk.injEq, exists_and_left]) ⟨rfl, hall', fun j x y hj hx hy => ?_⟩
            by_cases he : j + 1 = i
            · have : j = i - 1 := by omega
              subst this
              rw [he, hget] at hy
              rw [hget'] at hx
              rw [← Option.some.inj hx, ← Option.some.inj hy]; exact hq
            · exact hasc j x y (by omega) hx hy
        · have ei : decide ((0 : Int) < (i : Int)) = false := by simpa using hi0
          simp only [↓Sh.stepDn, Sh.stepUp, seatFacts, exitTo, calm, isEff, Nat.reduceBEq, evs, evps, evo, isConst, reduceCtorEq, Nat.reduceEqDiff, resultsA, Sh.one, Sh.unit, forall_const, implies_true, eq_self, ne_eq, if_true, if_false, beq_self_eq_true, cond_true, cond_false, List.all_cons, List.all_nil, List.getElem?_cons_zero, List.getElem?_cons_succ, List.nil_append, List.append_nil, Option.bind_some, Option.map_some, Option.some.injEq, exists_eq_left', exists_eq', exists_eq, Prod.mk.injEq, exists_and_left, f14, ei, wrap_succ hlt hl]
          exact k _ _ (by repeat (first | refine Same.put ?_ rfl | exact Same.rfl' _)) (by simp only [↓Sh.stepDn, Sh.stepUp, seatFacts, exitTo, calm, isEff, Nat.reduceBEq, evs, evps, evo, isConst, reduceCtorEq, Nat.reduceEqDiff, resultsA, Sh.one, Sh.unit, forall_const, implies_true, eq_self, ne_eq, if_true, if_false, beq_self_eq_true, cond_true, cond_false, List.all_cons, List.all_nil, List.getElem?_cons_zero, List.getElem?_cons_succ, List.nil_append, List.append_nil, Option.bind_some, Option.map_some, Option.some.injEq, exists_eq_left', exists_eq', exists_eq, Prod.mk.injEq, exists_and_left]) ⟨rfl, hall', fun j x y hj hx hy => by omega⟩
    · rintro F H' hF f14 ⟨rfl, hall, hasc⟩
      have f13 := hF 13 rfl
      simp only [↓Sh.stepDn, Sh.stepUp, seatFacts, exitTo, calm, isEff, Nat.reduceBEq, evs, evps, evo, isConst, reduceCtorEq, Nat.reduceEqDiff, resultsA, Sh.one, Sh.unit, forall_const, implies_true, eq_self, ne_eq, if_true, if_false, beq_self_eq_true, cond_true, cond_false, List.all_cons, List.all_nil, List.getElem?_cons_zero, List.getElem?_cons_succ, List.nil_append, List.append_nil, Option.bind_some, Option.map_some, Option.some.injEq, exists_eq_left', exists_eq', exists_eq, Prod.mk.injEq, exists_and_left] at f13
      have hgood : sigErr l = 0 := e0 (by
        rw [Bool.and_eq_true]
        refine ⟨List.all_eq_true.2 fun x hx => ?_, ascB_iff.2 fun j x y hx hy => hasc j x y (List.getElem?_eq_some_iff.1 hy).1 hx hy⟩
        obtain ⟨j, hj⟩ := List.mem_iff_getElem?.1 hx
        rw [hsy x hx]
        exact hall j x (List.getElem?_eq_some_iff.1 hj).1 hj)
      simp only [↓Sh.stepDn, Sh.stepUp, seatFacts, exitTo, calm, isEff, Nat.reduceBEq, evs, evps, evo, isConst, reduceCtorEq, Nat.reduceEqDiff, resultsA, Sh.one, Sh.unit, forall_const, implies_true, eq_self, ne_eq, if_true, if_false, beq_self_eq_true, cond_true, cond_false, List.all_cons, List.all_nil, List.getElem?_cons_zero, List.getElem?_cons_succ, List.nil_append, List.append_nil, Option.bind_some, Option.map_some, Option.some.injEq, exists_eq_left', exists_eq', exists_eq, Prod.mk.injEq, exists_and_left, f13, f14, nat_lt, Nat.lt_irrefl, decide_false, hres, hgood, hk1]
end Go.Proofs.Ytbnpoiibehkjpaa
/- cmp.Less, where nothing is no number. -/
set_option maxHeartbeats 4000000
set_option linter.unusedSimpArgs false
set_option linter.unusedVariables false
namespace Go.Proofs.Ytbnpoiibehkjpaa
open Go Go.Proofs Go.Proofs.Sh
theorem cmpIsNaNStr {H : AH} {x : ByteArray} : Sh.Call Try.prog (knows 7) 47 [.string x] H (fun r H' => H' = H ∧ r = .bool false) := by
  refine call_of rfl Try.func47 rfl (Nat.le_of_ble_eq_true rfl) ?_
  have hres : Try.f47.results.toList = [.tmp 2] := rfl
  simp only [↓Sh.stepDn, Sh.stepUp, seatFacts, exitTo, calm, isEff, Nat.reduceBEq, evs, evps, evo, isConst, reduceCtorEq, Nat.reduceEqDiff, resultsA, Sh.one, Sh.unit, forall_const, implies_true, eq_self, ne_eq, if_true, if_false, beq_self_eq_true, cond_true, cond_false, List.all_cons, List.all_nil, List.getElem?_cons_zero, List.getElem?_cons_succ, List.nil_append, List.append_nil, Option.bind_some, Option.map_some, Option.some.injEq, exists_eq_left', exists_eq', exists_eq, Prod.mk.injEq, exists_and_left, hres, decide_true, Bool.not_true, and_self]
theorem cmpLessStr {H : AH} {x y : ByteArray} : Sh.Call Try.prog (knows 7) 26 [.string x, .string y] H (fun r H' => H' = H ∧ r = .bool (strLt x y)) := by
  refine call_of rfl Try.func26 rfl (Nat.le_of_ble_eq_true rfl) ?_
  have hres : Try.f26.results.toList = [.tmp 4] := rfl
  obtain ⟨r, H1, hd, rfl, rfl⟩ := cmpIsNaNStr (H := H) (x := x)
  simp only [↓Sh.stepDn, Sh.stepUp, seatFacts, exitTo, calm, isEff, Nat.reduceBEq, evs, evps, evo, isConst, reduceCtorEq, Nat.reduceEqDiff, resultsA, Sh.one, Sh.unit, forall_const, implies_true, eq_self, ne_eq, if_true, if_false, beq_self_eq_true, cond_true, cond_false, List.all_cons, List.all_nil, List.getElem?_cons_zero, List.getElem?_cons_succ, List.nil_append, List.append_nil, Option.bind_some, Option.map_some, Option.some.injEq, exists_eq_left', exists_eq', exists_eq, Prod.mk.injEq, exists_and_left]
  refine ⟨_, _, hd, ?_⟩
  simp only [↓Sh.stepDn, Sh.stepUp, seatFacts, exitTo, calm, isEff, Nat.reduceBEq, evs, evps, evo, isConst, reduceCtorEq, Nat.reduceEqDiff, resultsA, Sh.one, Sh.unit, forall_const, implies_true, eq_self, ne_eq, if_true, if_false, beq_self_eq_true, cond_true, cond_false, List.all_cons, List.all_nil, List.getElem?_cons_zero, List.getElem?_cons_succ, List.nil_append, List.append_nil, Option.bind_some, Option.map_some, Option.some.injEq, exists_eq_left', exists_eq', exists_eq, Prod.mk.injEq, exists_and_left, hres, and_self]
end Go.Proofs.Ytbnpoiibehkjpaa
/- slices.BinarySearch of an ascending list of texts. -/
set_option maxHeartbeats 4000000
set_option linter.unusedSimpArgs false
set_option linter.unusedVariables false
set_option pp.deepTerms.threshold 8
namespace Go.Proofs.Ytbnpoiibehkjpaa
open Go Go.Proofs Go.Proofs.Sh
theorem isNaNStr {H : AH} {x : ByteArray} : Sh.Call Try.prog (knows 7) 27 [.string x] H (fun r H' => H' = H ∧ r = .bool false) := by
  refine call_of rfl Try.func27 rfl (Nat.le_of_ble_eq_true rfl) ?_
  have hres : Try.f27.results.toList = [.tmp 2] := rfl
  simp only [↓Sh.stepDn, Sh.stepUp, seatFacts, exitTo, calm, isEff, Nat.reduceBEq, evs, evps, evo, isConst, reduceCtorEq, Nat.reduceEqDiff, resultsA, Sh.one, Sh.unit, forall_const, implies_true, eq_self, ne_eq, if_true, if_false, beq_self_eq_true, cond_true, cond_false, List.all_cons, List.all_nil, List.getElem?_cons_zero, List.getElem?_cons_succ, List.nil_append, List.append_nil, Option.bind_some, Option.map_some, Option.some.injEq, exists_eq_left', exists_eq', exists_eq, Prod.mk.injEq, exists_and_left, hres, decide_true, Bool.not_true, and_self]
theorem binarySearch {H : AH} {v : Value} {x : ByteArray} {l : List ByteArray} (hs : Sl H v 1 (l.map strCell)) (ha : Asc l) (hl : l.length ≤ 1048576) :
    Sh.Call Try.prog (knows 7) 15 [v, .string x] H (fun r H' => H' = H ∧ ∃ k : Nat, r = .tuple #[.int .i64 (k : Int), .bool (strIn l x)] ∧ k ≤ l.length ∧ (l[k]? = some x ↔ x ∈ l)) := by
  refine call_of rfl Try.func15 rfl (Nat.le_of_ble_eq_true rfl) ?_
  have hres : Try.f15.results.toList = [.tmp 4, .tmp 5] := rfl
  have hlen := hs.len Try.underlying22 H
  simp only [↓Sh.stepDn, Sh.stepUp, seatFacts, exitTo, calm, isEff, Nat.reduceBEq, evs, evps, evo, isConst, reduceCtorEq, Nat.reduceEqDiff, resultsA, Sh.one, Sh.unit, forall_const, implies_true, eq_self, ne_eq, if_true, if_false, beq_self_eq_true, cond_true, cond_false, List.all_cons, List.all_nil, List.getElem?_cons_zero, List.getElem?_cons_succ, List.nil_append, List.append_nil, Option.bind_some, Option.map_some, Option.some.injEq, exists_eq_left', exists_eq', exists_eq, Prod.mk.injEq, exists_and_left, hlen, List.length_map]
  refine wp_while (fun m F H' => H' = H ∧ ∃ a b : Nat, m = b - a ∧ a ≤ b ∧ b ≤ l.length ∧ F.get 7 = some (.int .i64 (a : Int)) ∧ F.get 8 = some (.int .i64 (b : Int)) ∧ F.get 0 = some v ∧ F.get 1 = some (.string x) ∧ F.get 6 = some (.int .i64 (l.length : Int)) ∧
    (∀ (i : Nat) y, i < a → l[i]? = some y → strLt y x = true) ∧ (∀ (i : Nat) y, b ≤ i → l[i]? = some y → strLt y x = false)) (m := l.length)
    ⟨rfl, 0, l.length, by omega, by omega, by omega, by simp only [↓Sh.stepDn, Sh.stepUp, seatFacts, exitTo, calm, isEff, Nat.reduceBEq, evs, evps, evo, isConst, reduceCtorEq, Nat.reduceEqDiff, resultsA, Sh.one, Sh.unit, forall_const, implies_true, eq_self, ne_eq, if_true, if_false, beq_self_eq_true, cond_true, cond_false, List.all_cons, List.all_nil, List.getElem?_cons_zero, List.getElem?_cons_succ, List.nil_append, List.append_nil, Option.bind_some, Option.map_some, Option.some.injEq, exists_eq_left', exists_eq', exists_eq, Prod.mk.injEq, exists_and_left]; rfl, by simp only [↓Sh.stepDn, Sh.stepUp, seatFacts, exitTo, calm, isEff, Nat.reduceBEq, evs, evps, evo, isConst, reduceCtorEq, Nat.reduceEqDiff, resultsA, Sh.one, Sh.unit, forall_const, implies_true, eq_self, ne_eq, if_true, if_false, beq_self_eq_true, cond_true, cond_false, List.all_cons, List.all_nil, List.getElem?_cons_zero, List.getElem?_cons_succ, List.nil_append, List.append_nil, Option.bind_some, Option.map_some, Option.some.injEq, exists_eq_left', exists_eq', exists_eq, Prod.mk.injEq, exists_and_left], by simp only [↓Sh.stepDn, Sh.stepUp, seatFacts, exitTo, calm, isEff, Nat.reduceBEq, evs, evps, evo, isConst, reduceCtorEq, Nat.reduceEqDiff, resultsA, Sh.one, Sh.unit, forall_const, implies_true, eq_self, ne_eq, if_true, if_false, beq_self_eq_true, cond_true, cond_false, List.all_cons, List.all_nil, List.getElem?_cons_zero, List.getElem?_cons_succ, List.nil_append, List.append_nil, Option.bind_some, Option.map_some, Option.some.injEq, exists_eq_left', exists_eq', exists_eq, Prod.mk.injEq, exists_and_left], by simp only [↓Sh.stepDn, Sh.stepUp, seatFacts, exitTo, calm, isEff, Nat.reduceBEq, evs, evps, evo, isConst, reduceCtorEq, Nat.reduceEqDiff, resultsA, Sh.one, Sh.unit, forall_const, implies_true, eq_self, ne_eq, if_true, if_false, beq_self_eq_true, cond_true, cond_false, List.all_cons, List.all_nil, List.getElem?_cons_zero, List.getElem?_cons_succ, List.nil_append, List.append_nil, Option.bind_some, Option.map_some, Option.some.injEq, exists_eq_left', exists_eq', exists_eq, Prod.mk.injEq, exists_and_left], by simp only [↓Sh.stepDn, Sh.stepUp, seatFacts, exitTo, calm, isEff, Nat.reduceBEq, evs, evps, evo, isConst, reduceCtorEq, Nat.reduceEqDiff, resultsA, Sh.one, Sh.unit, forall_const, implies_true, eq_self, ne_eq, if_true, if_false, beq_self_eq_true, cond_true, cond_false, List.all_cons, List.all_nil, List.getElem?_cons_zero, List.getElem?_cons_succ, List.nil_append, List.append_nil, Option.bind_some, Option.map_some, Option.some.injEq, exists_eq_left', exists_eq', exists_eq, Prod.mk.injEq, exists_and_left], fun i y h => by omega, fun i y h1 h2 => by have := (List.getElem?_eq_some_iff.1 h2).1; omega⟩ ?_
  rintro m F H' ⟨rfl, a, b, rfl, hab, hbn, f7, f8, f0, f1, f6, hlo, hhi⟩ k
  by_cases hlt : a < b
  · have hm : (a + b) / 2 < l.length := by omega
    have hw2 : IntKind.wrap .i64 (((a + b) / 2 : Nat) : Int) = (((a + b) / 2 : Nat) : Int) := wrap64 (by omega) (by omega)
    obtain ⟨g, o, kk, hia, hc, hcc⟩ := hs.at Try.underlying22 size_9 (i := (a + b) / 2) (x := strCell l[(a + b) / 2]) (by simp [hm]) .i64
    have hy := hcc 0 _ rfl
    simp only [Nat.add_zero] at hy
    obtain ⟨r, H1, hd, rfl, rfl⟩ := cmpLessStr (H := H') (x := l[(a + b) / 2]) (y := x)
    have hget : l[(a + b) / 2]? = some l[(a + b) / 2] := List.getElem?_eq_getElem hm
    simp only [↓Sh.stepDn, Sh.stepUp, seatFacts, exitTo, calm, isEff, Nat.reduceBEq, evs, evps, evo, isConst, reduceCtorEq, Nat.reduceEqDiff, resultsA, Sh.one, Sh.unit, forall_const, implies_true, eq_self, ne_eq, if_true, if_false, beq_self_eq_true, cond_true, cond_false, List.all_cons, List.all_nil, List.getElem?_cons_zero, List.getElem?_cons_succ, List.nil_append, List.append_nil, Option.bind_some, Option.map_some, Option.some.injEq, exists_eq_left', exists_eq', exists_eq, Prod.mk.injEq, exists_and_left, f0, f1, f6, f7, f8, nat_lt, hlt, decide_true, b_shr, half a b (by omega), hw2, hia, hy, forall_const, reduceCtorEq, false_implies, and_true, true_and]
    refine ⟨_, _, hd, ?_⟩
    cases hpv : strLt l[(a + b) / 2] x with
    | true =>
      have hw3 : IntKind.wrap .i64 ((((a + b) / 2 : Nat) : Int) + 1) = (((a + b) / 2 + 1 : Nat) : Int) := wrap_succ (n := l.length) (by omega) hl
      simp only [↓Sh.stepDn, Sh.stepUp, seatFacts, exitTo, calm, isEff, Nat.reduceBEq, evs, evps, evo, isConst, reduceCtorEq, Nat.reduceEqDiff, resultsA, Sh.one, Sh.unit, forall_const, implies_true, eq_self, ne_eq, if_true, if_false, beq_self_eq_true, cond_true, cond_false, List.all_cons, List.all_nil, List.getElem?_cons_zero, List.getElem?_cons_succ, List.nil_append, List.append_nil, Option.bind_some, Option.map_some, Option.some.injEq, exists_eq_left', exists_eq', exists_eq, Prod.mk.injEq, exists_and_left, forall_const, reduceCtorEq, false_implies, and_true, true_and, hw3]
      refine k (b - ((a + b) / 2 + 1)) _ _ (by omega) ⟨rfl, (a + b) / 2 + 1, b, rfl, by omega, hbn, by simp only [↓Sh.stepDn, Sh.stepUp, seatFacts, exitTo, calm, isEff, Nat.reduceBEq, evs, evps, evo, isConst, reduceCtorEq, Nat.reduceEqDiff, resultsA, Sh.one, Sh.unit, forall_const, implies_true, eq_self, ne_eq, if_true, if_false, beq_self_eq_true, cond_true, cond_false, List.all_cons, List.all_nil, List.getElem?_cons_zero, List.getElem?_cons_succ, List.nil_append, List.append_nil, Option.bind_some, Option.map_some, Option.some.injEq, exists_eq_left', exists_eq', exists_eq, Prod.mk.injEq, exists_and_left], by simp only [↓Sh.stepDn, Sh.stepUp, seatFacts, exitTo, calm, isEff, Nat.reduceBEq, evs, evps, evo, isConst, reduceCtorEq, Nat.reduceEqDiff, resultsA, Sh.one, Sh.unit, forall_const, implies_true, eq_self, ne_eq, if_true, if_false, beq_self_eq_true, cond_true, cond_false, List.all_cons, List.all_nil, List.getElem?_cons_zero, List.getElem?_cons_succ, List.nil_append, List.append_nil, Option.bind_some, Option.map_some, Option.some.injEq, exists_eq_left', exists_eq', exists_eq, Prod.mk.injEq, exists_and_left, f8], by simp only [↓Sh.stepDn, Sh.stepUp, seatFacts, exitTo, calm, isEff, Nat.reduceBEq, evs, evps, evo, isConst, reduceCtorEq, Nat.reduceEqDiff, resultsA, Sh.one, Sh.unit, forall_const, implies_true, eq_self, ne_eq, if_true, if_false, beq_self_eq_true, cond_true, cond_false, List.all_cons, List.all_nil, List.getElem?_cons_zero, List.getElem?_cons_succ, List.nil_append, List.append_nil, Option.bind_some, Option.map_some, Option.some.injEq, exists_eq_left', exists_eq', exists_eq, Prod.mk.injEq, exists_and_left, f0], by simp only [↓Sh.stepDn, Sh.stepUp, seatFacts, exitTo, calm, isEff, Nat.reduceBEq, evs, evps, evo, isConst, reduceCtorEq, Nat.reduceEqDiff, resultsA, Sh.one, Sh.unit, forall_const, implies_true, eq_self, ne_eq, if_true, if_false, beq_self_eq_true, cond_true, cond_false, List.all_cons, List.all_nil, List.getElem?_cons_zero, List.getElem?_cons_succ, List.nil_append, List.append_nil, Option.bind_some, Option.map_some, Option.some.injEq, exists_eq_left', exists_eq', exists_eq, Prod.mk.injEq, exists_and_left, f1], by simp only [↓Sh.stepDn, Sh.stepUp, seatFacts, exitTo, calm, isEff, Nat.reduceBEq, evs, evps, evo, isConst, reduceCtorEq, Nat.reduceEqDiff, resultsA, Sh.one, Sh.unit, forall_const, implies_true, eq_self, ne_eq, if_true, if_false, beq_self_eq_true, cond_true, cond_false, List.all_cons, List.all_nil, List.getElem?_cons_zero, List.getElem?_cons_succ, List.nil_append, List.append_nil, Option.bind_some, Option.map_some, Option.some.injEq, exists_eq_left', exists_eq', exists_eq, Prod.mk.injEq, exists_and_left, f6], fun i y hi hy => ?_, hhi⟩
      by_cases he : i = (a + b) / 2
      · subst he; rw [hget] at hy; rw [← Option.some.inj hy]; exact hpv
      · exact strLt_trans (ha _ _ _ _ (by omega) hy hget) hpv
    | false =>
      simp only [↓Sh.stepDn, Sh.stepUp, seatFacts, exitTo, calm, isEff, Nat.reduceBEq, evs, evps, evo, isConst, reduceCtorEq, Nat.reduceEqDiff, resultsA, Sh.one, Sh.unit, forall_const, implies_true, eq_self, ne_eq, if_true, if_false, beq_self_eq_true, cond_true, cond_false, List.all_cons, List.all_nil, List.getElem?_cons_zero, List.getElem?_cons_succ, List.nil_append, List.append_nil, Option.bind_some, Option.map_some, Option.some.injEq, exists_eq_left', exists_eq', exists_eq, Prod.mk.injEq, exists_and_left, forall_const, reduceCtorEq, false_implies, and_true, true_and]
      refine k ((a + b) / 2 - a) _ _ (by omega) ⟨rfl, a, (a + b) / 2, rfl, by omega, by omega, by simp only [↓Sh.stepDn, Sh.stepUp, seatFacts, exitTo, calm, isEff, Nat.reduceBEq, evs, evps, evo, isConst, reduceCtorEq, Nat.reduceEqDiff, resultsA, Sh.one, Sh.unit, forall_const, implies_true, eq_self, ne_eq, if_true, if_false, beq_self_eq_true, cond_true, cond_false, List.all_cons, List.all_nil, List.getElem?_cons_zero, List.getElem?_cons_succ, List.nil_append, List.append_nil, Option.bind_some, Option.map_some, Option.some.injEq, exists_eq_left', exists_eq', exists_eq, Prod.mk.injEq, exists_and_left, f7], by simp only [↓Sh.stepDn, Sh.stepUp, seatFacts, exitTo, calm, isEff, Nat.reduceBEq, evs, evps, evo, isConst, reduceCtorEq, Nat.reduceEqDiff, resultsA, Sh.one, Sh.unit, forall_const, implies_true, eq_self, ne_eq, if_true, if_false, beq_self_eq_true, cond_true, cond_false, List.all_cons, List.all_nil, List.getElem?_cons_zero, List.getElem?_cons_succ, List.nil_append, List.append_nil, Option.bind_some, Option.map_some, Option.some.injEq, exists_eq_left', exists_eq', exists_eq, Prod.mk.injEq, exists_and_left], by simp only [↓Sh.stepDn, Sh.stepUp, seatFacts, exitTo, calm, isEff, Nat.reduceBEq, evs, evps, evo, isConst, reduceCtorEq, Nat.reduceEqDiff, resultsA, Sh.one, Sh.unit, forall_const, implies_true, eq_self, ne_eq, if_true, if_false, beq_self_eq_true, cond_true, cond_false, List.all_cons, List.all_nil, List.getElem?_cons_zero, List.getElem?_cons_succ, List.nil_append, List.append_nil, Option.bind_some, Option.map_some, Option.some.injEq, exists_eq_left', exists_eq', exists_eq, Prod.mk.injEq, exists_and_left, f0], by simp only [↓Sh.stepDn, Sh.stepUp, seatFacts, exitTo, calm, isEff, Nat.reduceBEq, evs, evps, evo, isConst, reduceCtorEq, Nat.reduceEqDiff, resultsA, Sh.one, Sh.unit, forall_const, implies_true, eq_self, ne_eq, if_true, if_false, beq_self_eq_true, cond_true, cond_false, List.all_cons, List.all_nil, List.getElem?_cons_zero, List.getElem?_cons_succ, List.nil_append, List.append_nil, Option.bind_some, Option.map_some, Option.some.injEq, exists_eq_left', exists_eq', exists_eq, Prod.mk.injEq, exists_and_left, f1], by simp only [↓Sh.stepDn, Sh.stepUp, seatFacts, exitTo, calm, isEff, Nat.reduceBEq, evs, evps, evo, isConst, reduceCtorEq, Nat.reduceEqDiff, resultsA, Sh.one, Sh.unit, forall_const, implies_true, eq_self, ne_eq, if_true, if_false, beq_self_eq_true, cond_true, cond_false, List.all_cons, List.all_nil, List.getElem?_cons_zero, List.getElem?_cons_succ, List.nil_append, List.append_nil, Option.bind_some, Option.map_some, Option.some.injEq, exists_eq_left', exists_eq', exists_eq, Prod.mk.injEq, exists_and_left, f6], hlo, fun i y h1 hy => ?_⟩
      by_cases he : i = (a + b) / 2
      · subst he; rw [hget] at hy; rw [← Option.some.inj hy]; exact hpv
      · cases hlt2 : strLt y x with
        | false => rfl
        | true => rw [strLt_trans (ha _ _ _ _ (by omega) hget hy) hlt2] at hpv; cases hpv
  · have hab' : a = b := by omega
    subst hab'
    have hp := asc_place ha x hlo hhi
    by_cases hla : a < l.length
    · obtain ⟨g, o, kk, hia, hc, hcc⟩ := hs.at Try.underlying22 size_9 (i := a) (x := strCell l[a]) (by simp [hla]) .i64
      have hy := hcc 0 _ rfl
      simp only [Nat.add_zero] at hy
      have hget : l[a]? = some l[a] := List.getElem?_eq_getElem hla
      by_cases hex : l[a] = x
      · have hin : strIn l x = true := strIn_iff.2 (hp.1 (by rw [hget, hex]))
        simp only [↓Sh.stepDn, Sh.stepUp, seatFacts, exitTo, calm, isEff, Nat.reduceBEq, evs, evps, evo, isConst, reduceCtorEq, Nat.reduceEqDiff, resultsA, Sh.one, Sh.unit, forall_const, implies_true, eq_self, ne_eq, if_true, if_false, beq_self_eq_true, cond_true, cond_false, List.all_cons, List.all_nil, List.getElem?_cons_zero, List.getElem?_cons_succ, List.nil_append, List.append_nil, Option.bind_some, Option.map_some, Option.some.injEq, exists_eq_left', exists_eq', exists_eq, Prod.mk.injEq, exists_and_left, f0, f1, f6, f7, f8, nat_lt, hlt, hla, hia, hy, hex, decide_true, decide_false, hres, hin, forall_const, reduceCtorEq, false_implies, and_true, true_and]
        exact ⟨a, rfl, hbn, hp⟩
      · have hin : strIn l x = false := by
          cases h : strIn l x with
          | false => rfl
          | true => have := hp.2 (strIn_iff.1 h); rw [hget] at this; exact absurd (Option.some.inj this) hex
        obtain ⟨r, H1, hd, rfl, rfl⟩ := isNaNStr (H := H') (x := l[a])
        simp only [↓Sh.stepDn, Sh.stepUp, seatFacts, exitTo, calm, isEff, Nat.reduceBEq, evs, evps, evo, isConst, reduceCtorEq, Nat.reduceEqDiff, resultsA, Sh.one, Sh.unit, forall_const, implies_true, eq_self, ne_eq, if_true, if_false, beq_self_eq_true, cond_true, cond_false, List.all_cons, List.all_nil, List.getElem?_cons_zero, List.getElem?_cons_succ, List.nil_append, List.append_nil, Option.bind_some, Option.map_some, Option.some.injEq, exists_eq_left', exists_eq', exists_eq, Prod.mk.injEq, exists_and_left, f0, f1, f6, f7, f8, nat_lt, hlt, hla, hia, hy, hex, decide_true, decide_false, hres, hin, forall_const, reduceCtorEq, false_implies, and_true, true_and]
        refine ⟨_, _, hd, ?_⟩
        simp only [↓Sh.stepDn, Sh.stepUp, seatFacts, exitTo, calm, isEff, Nat.reduceBEq, evs, evps, evo, isConst, reduceCtorEq, Nat.reduceEqDiff, resultsA, Sh.one, Sh.unit, forall_const, implies_true, eq_self, ne_eq, if_true, if_false, beq_self_eq_true, cond_true, cond_false, List.all_cons, List.all_nil, List.getElem?_cons_zero, List.getElem?_cons_succ, List.nil_append, List.append_nil, Option.bind_some, Option.map_some, Option.some.injEq, exists_eq_left', exists_eq', exists_eq, Prod.mk.injEq, exists_and_left, f7, forall_const, reduceCtorEq, false_implies, and_true, true_and, hres]
        exact ⟨a, rfl, hbn, hp⟩
    · have hin : strIn l x = false := by
        cases h : strIn l x with
        | false => rfl
        | true => have := hp.2 (strIn_iff.1 h); rw [List.getElem?_eq_none (by omega)] at this; cases this
      simp only [↓Sh.stepDn, Sh.stepUp, seatFacts, exitTo, calm, isEff, Nat.reduceBEq, evs, evps, evo, isConst, reduceCtorEq, Nat.reduceEqDiff, resultsA, Sh.one, Sh.unit, forall_const, implies_true, eq_self, ne_eq, if_true, if_false, beq_self_eq_true, cond_true, cond_false, List.all_cons, List.all_nil, List.getElem?_cons_zero, List.getElem?_cons_succ, List.nil_append, List.append_nil, Option.bind_some, Option.map_some, Option.some.injEq, exists_eq_left', exists_eq', exists_eq, Prod.mk.injEq, exists_and_left, f0, f1, f6, f7, f8, nat_lt, hlt, hla, decide_true, decide_false, hres, hin, forall_const, reduceCtorEq, false_implies, and_true, true_and]
      exact ⟨a, rfl, hbn, hp⟩
end Go.Proofs.Ytbnpoiibehkjpaa
/- What is wrong with a net of any kind, by the program. -/
set_option maxHeartbeats 4000000
set_option linter.unusedSimpArgs false
set_option linter.unusedVariables false
set_option pp.deepTerms.threshold 8
namespace Go.Proofs.Ytbnpoiibehkjpaa
open Go Go.Proofs Go.Proofs.Sh
theorem checkIs {H : AH} {gg : Nat} {sg ar en : Value} {N : NetD} {s : ByteArray} (hb : NetBox H gg sg ar en N) (ha : Asc N.sigma) (hl : N.sigma.length ≤ 1048576) :
    Sh.Call Try.prog (knows 7) 14 [.string s, .pointer (some ⟨gg, 0, some 0⟩)] H (fun r H' => H' = H ∧ r = .bool (!badSym N s)) := by
  refine call_of rfl Try.func14 rfl (Nat.le_of_ble_eq_true rfl) ?_
  have hres : Try.f14.results.toList = [.tmp 3] := rfl
  obtain ⟨r, H1, hd, rfl, k, rfl, _, _⟩ := binarySearch (x := s) hb.hsg ha hl
  simp only [↓Sh.stepDn, Sh.stepUp, seatFacts, exitTo, calm, isEff, Nat.reduceBEq, evs, evps, evo, isConst, reduceCtorEq, Nat.reduceEqDiff, resultsA, Sh.one, Sh.unit, forall_const, implies_true, eq_self, ne_eq, if_true, if_false, beq_self_eq_true, cond_true, cond_false, List.all_cons, List.all_nil, List.getElem?_cons_zero, List.getElem?_cons_succ, List.nil_append, List.append_nil, Option.bind_some, Option.map_some, Option.some.injEq, exists_eq_left', exists_eq', exists_eq, Prod.mk.injEq, exists_and_left, hb.c0, hb.c1, hb.c2, hb.c3, hb.ca, netLenS hb, netLenA hb, netLenE hb]
  refine ⟨_, _, hd, ?_⟩
  simp only [↓Sh.stepDn, Sh.stepUp, seatFacts, exitTo, calm, isEff, Nat.reduceBEq, evs, evps, evo, isConst, reduceCtorEq, Nat.reduceEqDiff, resultsA, Sh.one, Sh.unit, forall_const, implies_true, eq_self, ne_eq, if_true, if_false, beq_self_eq_true, cond_true, cond_false, List.all_cons, List.all_nil, List.getElem?_cons_zero, List.getElem?_cons_succ, List.nil_append, List.append_nil, Option.bind_some, Option.map_some, Option.some.injEq, exists_eq_left', exists_eq', exists_eq, Prod.mk.injEq, exists_and_left, o_extract]
  by_cases h : s = ⟨#[]⟩
  · simp only [↓Sh.stepDn, Sh.stepUp, seatFacts, exitTo, calm, isEff, Nat.reduceBEq, evs, evps, evo, isConst, reduceCtorEq, Nat.reduceEqDiff, resultsA, Sh.one, Sh.unit, forall_const, implies_true, eq_self, ne_eq, if_true, if_false, beq_self_eq_true, cond_true, cond_false, List.all_cons, List.all_nil, List.getElem?_cons_zero, List.getElem?_cons_succ, List.nil_append, List.append_nil, Option.bind_some, Option.map_some, Option.some.injEq, exists_eq_left', exists_eq', exists_eq, Prod.mk.injEq, exists_and_left, h, decide_true, hres, badSym]
  · simp only [↓Sh.stepDn, Sh.stepUp, seatFacts, exitTo, calm, isEff, Nat.reduceBEq, evs, evps, evo, isConst, reduceCtorEq, Nat.reduceEqDiff, resultsA, Sh.one, Sh.unit, forall_const, implies_true, eq_self, ne_eq, if_true, if_false, beq_self_eq_true, cond_true, cond_false, List.all_cons, List.all_nil, List.getElem?_cons_zero, List.getElem?_cons_succ, List.nil_append, List.append_nil, Option.bind_some, Option.map_some, Option.some.injEq, exists_eq_left', exists_eq', exists_eq, Prod.mk.injEq, exists_and_left, h, decide_false, hres, badSym]
theorem graphCheck {H : AH} {v : Value} {N : NetD} (h : NetAt H v N) (hsm : NetSmall N) (hw : Wf H) :
    Sh.Call Try.prog (knows 7) 8 [v] H (fun r H' => Kept H H' ∧ r = .int .i64 (netErr N)) := by
  refine call_of rfl Try.func8 rfl (Nat.le_of_ble_eq_true rfl) ?_
  have hres : Try.f8.results.toList = [.tmp 2] := rfl
  obtain ⟨sg, ar, en, rfl, hsg, har, hen⟩ := h
  have hb1 := NetBox.of (N := N) hw hsg har hen
  have hk1 : Kept H (H.new 4 [sg, .int .i64 N.states, ar, en]).2 := Kept.new hw 4 _
  have eA : decide ((60000 : Int) < (N.arcs.length : Int)) = decide (60000 < N.arcs.length) := decide_eq_decide.2 (by omega)
  have eE : decide ((60000 : Int) < (N.ends.length : Int)) = decide (60000 < N.ends.length) := decide_eq_decide.2 (by omega)
  simp only [↓Sh.stepDn, Sh.stepUp, seatFacts, exitTo, calm, isEff, Nat.reduceBEq, evs, evps, evo, isConst, reduceCtorEq, Nat.reduceEqDiff, resultsA, Sh.one, Sh.unit, forall_const, implies_true, eq_self, ne_eq, if_true, if_false, beq_self_eq_true, cond_true, cond_false, List.all_cons, List.all_nil, List.getElem?_cons_zero, List.getElem?_cons_succ, List.nil_append, List.append_nil, Option.bind_some, Option.map_some, Option.some.injEq, exists_eq_left', exists_eq', exists_eq, Prod.mk.injEq, exists_and_left, netNew hsg.isCell har.isCell hen.isCell]
  generalize H.next = gg at hb1 ⊢
  generalize (H.new 4 [sg, .int .i64 N.states, ar, en]).2 = H1 at hb1 hk1 ⊢
  simp only [↓Sh.stepDn, Sh.stepUp, seatFacts, exitTo, calm, isEff, Nat.reduceBEq, evs, evps, evo, isConst, reduceCtorEq, Nat.reduceEqDiff, resultsA, Sh.one, Sh.unit, forall_const, implies_true, eq_self, ne_eq, if_true, if_false, beq_self_eq_true, cond_true, cond_false, List.all_cons, List.all_nil, List.getElem?_cons_zero, List.getElem?_cons_succ, List.nil_append, List.append_nil, Option.bind_some, Option.map_some, Option.some.injEq, exists_eq_left', exists_eq', exists_eq, Prod.mk.injEq, exists_and_left, hb1.c0, hb1.c1, hb1.c2, hb1.c3, hb1.ca, netLenS hb1, netLenA hb1, netLenE hb1]
  by_cases hA : 3000 < N.states
  · simp only [↓Sh.stepDn, Sh.stepUp, seatFacts, exitTo, calm, isEff, Nat.reduceBEq, evs, evps, evo, isConst, reduceCtorEq, Nat.reduceEqDiff, resultsA, Sh.one, Sh.unit, forall_const, implies_true, eq_self, ne_eq, if_true, if_false, beq_self_eq_true, cond_true, cond_false, List.all_cons, List.all_nil, List.getElem?_cons_zero, List.getElem?_cons_succ, List.nil_append, List.append_nil, Option.bind_some, Option.map_some, Option.some.injEq, exists_eq_left', exists_eq', exists_eq, Prod.mk.injEq, exists_and_left, hA, decide_true, hres, netErr, tooLarge, Bool.true_or, hk1]
  by_cases hB : 60000 < N.arcs.length
  · simp only [↓Sh.stepDn, Sh.stepUp, seatFacts, exitTo, calm, isEff, Nat.reduceBEq, evs, evps, evo, isConst, reduceCtorEq, Nat.reduceEqDiff, resultsA, Sh.one, Sh.unit, forall_const, implies_true, eq_self, ne_eq, if_true, if_false, beq_self_eq_true, cond_true, cond_false, List.all_cons, List.all_nil, List.getElem?_cons_zero, List.getElem?_cons_succ, List.nil_append, List.append_nil, Option.bind_some, Option.map_some, Option.some.injEq, exists_eq_left', exists_eq', exists_eq, Prod.mk.injEq, exists_and_left, hb1.c0, hb1.c1, hb1.c2, hb1.c3, hb1.ca, netLenS hb1, netLenA hb1, netLenE hb1, hA, eA, hB, decide_true, decide_false, hres, netErr, tooLarge, Bool.true_or, Bool.or_true, hk1]
  by_cases hC : 60000 < N.ends.length
  · simp only [↓Sh.stepDn, Sh.stepUp, seatFacts, exitTo, calm, isEff, Nat.reduceBEq, evs, evps, evo, isConst, reduceCtorEq, Nat.reduceEqDiff, resultsA, Sh.one, Sh.unit, forall_const, implies_true, eq_self, ne_eq, if_true, if_false, beq_self_eq_true, cond_true, cond_false, List.all_cons, List.all_nil, List.getElem?_cons_zero, List.getElem?_cons_succ, List.nil_append, List.append_nil, Option.bind_some, Option.map_some, Option.some.injEq, exists_eq_left', exists_eq', exists_eq, Prod.mk.injEq, exists_and_left, hb1.c0, hb1.c1, hb1.c2, hb1.c3, hb1.ca, netLenS hb1, netLenA hb1, netLenE hb1, hA, eA, eE, hB, hC, decide_true, decide_false, hres, netErr, tooLarge, Bool.true_or, Bool.or_true, hk1]
  have hT : tooLarge N = false := by simp [tooLarge, hA, hB, hC]
  simp only [↓Sh.stepDn, Sh.stepUp, seatFacts, exitTo, calm, isEff, Nat.reduceBEq, evs, evps, evo, isConst, reduceCtorEq, Nat.reduceEqDiff, resultsA, Sh.one, Sh.unit, forall_const, implies_true, eq_self, ne_eq, if_true, if_false, beq_self_eq_true, cond_true, cond_false, List.all_cons, List.all_nil, List.getElem?_cons_zero, List.getElem?_cons_succ, List.nil_append, List.append_nil, Option.bind_some, Option.map_some, Option.some.injEq, exists_eq_left', exists_eq', exists_eq, Prod.mk.injEq, exists_and_left, hb1.c0, hb1.c1, hb1.c2, hb1.c3, hb1.ca, netLenS hb1, netLenA hb1, netLenE hb1, hA, eA, eE, hB, hC, decide_true, decide_false, hres]
  obtain ⟨r, H2, hd, hk2, rfl⟩ := symsValidate hb1.hsg hsm.sg hsm.sx hk1.wf
  refine ⟨_, _, hd, ?_⟩
  have hb2 := hb1.kept hk1.wf hk2
  have hk12 := hk1.trans hk2
  by_cases hS : sigErr N.sigma = 0
  case neg => simp only [↓Sh.stepDn, Sh.stepUp, seatFacts, exitTo, calm, isEff, Nat.reduceBEq, evs, evps, evo, isConst, reduceCtorEq, Nat.reduceEqDiff, resultsA, Sh.one, Sh.unit, forall_const, implies_true, eq_self, ne_eq, if_true, if_false, beq_self_eq_true, cond_true, cond_false, List.all_cons, List.all_nil, List.getElem?_cons_zero, List.getElem?_cons_succ, List.nil_append, List.append_nil, Option.bind_some, Option.map_some, Option.some.injEq, exists_eq_left', exists_eq', exists_eq, Prod.mk.injEq, exists_and_left, hS, decide_false, hres, netErr, hT, Bool.false_eq_true, if_false, ne_eq, not_false_eq_true, if_true, hk12]
  have hasc := sigErr_asc hS
  simp only [↓Sh.stepDn, Sh.stepUp, seatFacts, exitTo, calm, isEff, Nat.reduceBEq, evs, evps, evo, isConst, reduceCtorEq, Nat.reduceEqDiff, resultsA, Sh.one, Sh.unit, forall_const, implies_true, eq_self, ne_eq, if_true, if_false, beq_self_eq_true, cond_true, cond_false, List.all_cons, List.all_nil, List.getElem?_cons_zero, List.getElem?_cons_succ, List.nil_append, List.append_nil, Option.bind_some, Option.map_some, Option.some.injEq, exists_eq_left', exists_eq', exists_eq, Prod.mk.injEq, exists_and_left, hS, decide_true, hb2.c0, hb2.c1, hb2.c2, hb2.c3, hb2.ca, netLenS hb2, netLenA hb2, netLenE hb2]
  by_cases hst : N.states < 1
  · simp only [↓Sh.stepDn, Sh.stepUp, seatFacts, exitTo, calm, isEff, Nat.reduceBEq, evs, evps, evo, isConst, reduceCtorEq, Nat.reduceEqDiff, resultsA, Sh.one, Sh.unit, forall_const, implies_true, eq_self, ne_eq, if_true, if_false, beq_self_eq_true, cond_true, cond_false, List.all_cons, List.all_nil, List.getElem?_cons_zero, List.getElem?_cons_succ, List.nil_append, List.append_nil, Option.bind_some, Option.map_some, Option.some.injEq, exists_eq_left', exists_eq', exists_eq, Prod.mk.injEq, exists_and_left, hst, decide_true, hres, netErr, hT, hS, ne_eq, not_true_eq_false, if_false, if_true, hk12, Bool.false_eq_true]
  simp only [↓Sh.stepDn, Sh.stepUp, seatFacts, exitTo, calm, isEff, Nat.reduceBEq, evs, evps, evo, isConst, reduceCtorEq, Nat.reduceEqDiff, resultsA, Sh.one, Sh.unit, forall_const, implies_true, eq_self, ne_eq, if_true, if_false, beq_self_eq_true, cond_true, cond_false, List.all_cons, List.all_nil, List.getElem?_cons_zero, List.getElem?_cons_succ, List.nil_append, List.append_nil, Option.bind_some, Option.map_some, Option.some.injEq, exists_eq_left', exists_eq', exists_eq, Prod.mk.injEq, exists_and_left, hst, decide_false, hb2.c0, hb2.c1, hb2.c2, hb2.c3, hb2.ca, netLenS hb2, netLenA hb2, netLenE hb2]
  have e1 : N.arcs.any (badArc N) = true → netErr N = 1 := by intro h; simp [netErr, hT, hS, hst, h]
  have e2 : N.ends.any (badEnd N) = true → netErr N = 1 := by intro h; simp [netErr, hT, hS, hst, h]
  have e3 : N.arcs.any (badArc N) = false → N.ends.any (badEnd N) = false → netErr N = 0 := by intro h h'; simp [netErr, hT, hS, hst, h, h']
  refine wp_for N.arcs.length 37 (List.range' 37 41 ++ [2, 6]) (fun i F H' => Kept H2 H' ∧ (N.arcs.take i).any (badArc N) = false) (by simp only [↓Sh.stepDn, Sh.stepUp, seatFacts, exitTo, calm, isEff, Nat.reduceBEq, evs, evps, evo, isConst, reduceCtorEq, Nat.reduceEqDiff, resultsA, Sh.one, Sh.unit, forall_const, implies_true, eq_self, ne_eq, if_true, if_false, beq_self_eq_true, cond_true, cond_false, List.all_cons, List.all_nil, List.getElem?_cons_zero, List.getElem?_cons_succ, List.nil_append, List.append_nil, Option.bind_some, Option.map_some, Option.some.injEq, exists_eq_left', exists_eq', exists_eq, Prod.mk.injEq, exists_and_left]) ⟨Kept.refl hk12.wf, rfl⟩ ?_ ?_
  · rintro i F H' hlt hF f37 ⟨hk, hall⟩ k
    have f1 := hF 1 rfl
    have f4 := hF 4 rfl
    have f35 := hF 35 rfl
    have f36 := hF 36 rfl
    simp only [↓Sh.stepDn, Sh.stepUp, seatFacts, exitTo, calm, isEff, Nat.reduceBEq, evs, evps, evo, isConst, reduceCtorEq, Nat.reduceEqDiff, resultsA, Sh.one, Sh.unit, forall_const, implies_true, eq_self, ne_eq, if_true, if_false, beq_self_eq_true, cond_true, cond_false, List.all_cons, List.all_nil, List.getElem?_cons_zero, List.getElem?_cons_succ, List.nil_append, List.append_nil, Option.bind_some, Option.map_some, Option.some.injEq, exists_eq_left', exists_eq', exists_eq, Prod.mk.injEq, exists_and_left] at f1 f4 f35 f36
    have hb' := hb2.kept hk12.wf hk
    have hb3 := hb'.new hk.wf 5 (N.arcs[i].cells)
    have hk3 := hk.news 5 (N.arcs[i].cells)
    obtain ⟨g, o, kk, hia, hc, hcc⟩ := hb'.har.at Try.underlying23 size_33 (i := i) (x := N.arcs[i].cells) (by simp [hlt]) .i64
    clear hcc
    have hin : N.arcs[i] ∈ N.arcs := List.getElem_mem hlt
    have hnext : badArc N N.arcs[i] = false → (N.arcs.take (i + 1)).any (badArc N) = false := by
      intro h
      rw [List.take_add_one, List.getElem?_eq_getElem hlt]
      simp only [Option.toList, List.any_append, hall, List.any_cons, List.any_nil, h, Bool.or_false]
    have hbad : badArc N N.arcs[i] = true → netErr N = 1 := fun h => e1 (List.any_eq_true.2 ⟨_, hin, h⟩)
    generalize N.arcs[i] = a at hb3 hk3 hc hnext hbad
    simp only [↓Sh.stepDn, Sh.stepUp, seatFacts, exitTo, calm, isEff, Nat.reduceBEq, evs, evps, evo, isConst, reduceCtorEq, Nat.reduceEqDiff, resultsA, Sh.one, Sh.unit, forall_const, implies_true, eq_self, ne_eq, if_true, if_false, beq_self_eq_true, cond_true, cond_false, List.all_cons, List.all_nil, List.getElem?_cons_zero, List.getElem?_cons_succ, List.nil_append, List.append_nil, Option.bind_some, Option.map_some, Option.some.injEq, exists_eq_left', exists_eq', exists_eq, Prod.mk.injEq, exists_and_left, hb'.c0, hb'.c1, hb'.c2, hb'.c3, hb'.ca, netLenS hb', netLenA hb', netLenE hb', netZero, arcZero, endZero, arcNew, endNew, arcStore, endStore, arcOver, endOver, netOver, arc0, arc1, arc2, arc3, arc4, end0, end1, f1, f35, f36, f37, Option.map_some, nat_lt, hlt, decide_true, hia, hc, hres]
    by_cases h1 : a.fr < 0
    · simp only [↓Sh.stepDn, Sh.stepUp, seatFacts, exitTo, calm, isEff, Nat.reduceBEq, evs, evps, evo, isConst, reduceCtorEq, Nat.reduceEqDiff, resultsA, Sh.one, Sh.unit, forall_const, implies_true, eq_self, ne_eq, if_true, if_false, beq_self_eq_true, cond_true, cond_false, List.all_cons, List.all_nil, List.getElem?_cons_zero, List.getElem?_cons_succ, List.nil_append, List.append_nil, Option.bind_some, Option.map_some, Option.some.injEq, exists_eq_left', exists_eq', exists_eq, Prod.mk.injEq, exists_and_left, hb3.c0, hb3.c1, hb3.c2, hb3.c3, hb3.ca, netLenS hb3, netLenA hb3, netLenE hb3, netZero, arcZero, endZero, arcNew, endNew, arcStore, endStore, arcOver, endOver, netOver, arc0, arc1, arc2, arc3, arc4, end0, end1, h1, decide_true, hres, hbad (by simp [badArc, h1]), hk12.trans hk3]
    simp only [↓Sh.stepDn, Sh.stepUp, seatFacts, exitTo, calm, isEff, Nat.reduceBEq, evs, evps, evo, isConst, reduceCtorEq, Nat.reduceEqDiff, resultsA, Sh.one, Sh.unit, forall_const, implies_true, eq_self, ne_eq, if_true, if_false, beq_self_eq_true, cond_true, cond_false, List.all_cons, List.all_nil, List.getElem?_cons_zero, List.getElem?_cons_succ, List.nil_append, List.append_nil, Option.bind_some, Option.map_some, Option.some.injEq, exists_eq_left', exists_eq', exists_eq, Prod.mk.injEq, exists_and_left, hb3.c0, hb3.c1, hb3.c2, hb3.c3, hb3.ca, netLenS hb3, netLenA hb3, netLenE hb3, netZero, arcZero, endZero, arcNew, endNew, arcStore, endStore, arcOver, endOver, netOver, arc0, arc1, arc2, arc3, arc4, end0, end1, f1, h1, decide_false]
    by_cases h2 : N.states ≤ a.fr
    · simp only [↓Sh.stepDn, Sh.stepUp, seatFacts, exitTo, calm, isEff, Nat.reduceBEq, evs, evps, evo, isConst, reduceCtorEq, Nat.reduceEqDiff, resultsA, Sh.one, Sh.unit, forall_const, implies_true, eq_self, ne_eq, if_true, if_false, beq_self_eq_true, cond_true, cond_false, List.all_cons, List.all_nil, List.getElem?_cons_zero, List.getElem?_cons_succ, List.nil_append, List.append_nil, Option.bind_some, Option.map_some, Option.some.injEq, exists_eq_left', exists_eq', exists_eq, Prod.mk.injEq, exists_and_left, hb3.c0, hb3.c1, hb3.c2, hb3.c3, hb3.ca, netLenS hb3, netLenA hb3, netLenE hb3, netZero, arcZero, endZero, arcNew, endNew, arcStore, endStore, arcOver, endOver, netOver, arc0, arc1, arc2, arc3, arc4, end0, end1, h2, decide_true, hres, hbad (by simp [badArc, h2]), hk12.trans hk3]
    simp only [↓Sh.stepDn, Sh.stepUp, seatFacts, exitTo, calm, isEff, Nat.reduceBEq, evs, evps, evo, isConst, reduceCtorEq, Nat.reduceEqDiff, resultsA, Sh.one, Sh.unit, forall_const, implies_true, eq_self, ne_eq, if_true, if_false, beq_self_eq_true, cond_true, cond_false, List.all_cons, List.all_nil, List.getElem?_cons_zero, List.getElem?_cons_succ, List.nil_append, List.append_nil, Option.bind_some, Option.map_some, Option.some.injEq, exists_eq_left', exists_eq', exists_eq, Prod.mk.injEq, exists_and_left, hb3.c0, hb3.c1, hb3.c2, hb3.c3, hb3.ca, netLenS hb3, netLenA hb3, netLenE hb3, netZero, arcZero, endZero, arcNew, endNew, arcStore, endStore, arcOver, endOver, netOver, arc0, arc1, arc2, arc3, arc4, end0, end1, f1, h2, decide_false]
    by_cases h3 : a.to < 0
    · simp only [↓Sh.stepDn, Sh.stepUp, seatFacts, exitTo, calm, isEff, Nat.reduceBEq, evs, evps, evo, isConst, reduceCtorEq, Nat.reduceEqDiff, resultsA, Sh.one, Sh.unit, forall_const, implies_true, eq_self, ne_eq, if_true, if_false, beq_self_eq_true, cond_true, cond_false, List.all_cons, List.all_nil, List.getElem?_cons_zero, List.getElem?_cons_succ, List.nil_append, List.append_nil, Option.bind_some, Option.map_some, Option.some.injEq, exists_eq_left', exists_eq', exists_eq, Prod.mk.injEq, exists_and_left, hb3.c0, hb3.c1, hb3.c2, hb3.c3, hb3.ca, netLenS hb3, netLenA hb3, netLenE hb3, netZero, arcZero, endZero, arcNew, endNew, arcStore, endStore, arcOver, endOver, netOver, arc0, arc1, arc2, arc3, arc4, end0, end1, h3, decide_true, hres, hbad (by simp [badArc, h3]), hk12.trans hk3]
    simp only [↓Sh.stepDn, Sh.stepUp, seatFacts, exitTo, calm, isEff, Nat.reduceBEq, evs, evps, evo, isConst, reduceCtorEq, Nat.reduceEqDiff, resultsA, Sh.one, Sh.unit, forall_const, implies_true, eq_self, ne_eq, if_true, if_false, beq_self_eq_true, cond_true, cond_false, List.all_cons, List.all_nil, List.getElem?_cons_zero, List.getElem?_cons_succ, List.nil_append, List.append_nil, Option.bind_some, Option.map_some, Option.some.injEq, exists_eq_left', exists_eq', exists_eq, Prod.mk.injEq, exists_and_left, hb3.c0, hb3.c1, hb3.c2, hb3.c3, hb3.ca, netLenS hb3, netLenA hb3, netLenE hb3, netZero, arcZero, endZero, arcNew, endNew, arcStore, endStore, arcOver, endOver, netOver, arc0, arc1, arc2, arc3, arc4, end0, end1, f1, h3, decide_false]
    by_cases h4 : N.states ≤ a.to
    · simp only [↓Sh.stepDn, Sh.stepUp, seatFacts, exitTo, calm, isEff, Nat.reduceBEq, evs, evps, evo, isConst, reduceCtorEq, Nat.reduceEqDiff, resultsA, Sh.one, Sh.unit, forall_const, implies_true, eq_self, ne_eq, if_true, if_false, beq_self_eq_true, cond_true, cond_false, List.all_cons, List.all_nil, List.getElem?_cons_zero, List.getElem?_cons_succ, List.nil_append, List.append_nil, Option.bind_some, Option.map_some, Option.some.injEq, exists_eq_left', exists_eq', exists_eq, Prod.mk.injEq, exists_and_left, hb3.c0, hb3.c1, hb3.c2, hb3.c3, hb3.ca, netLenS hb3, netLenA hb3, netLenE hb3, netZero, arcZero, endZero, arcNew, endNew, arcStore, endStore, arcOver, endOver, netOver, arc0, arc1, arc2, arc3, arc4, end0, end1, h4, decide_true, hres, hbad (by simp [badArc, h4]), hk12.trans hk3]
    obtain ⟨r, H4, hd4, rfl, rfl⟩ := checkIs (s := a.inn) hb3 hasc hsm.sg
    simp only [↓Sh.stepDn, Sh.stepUp, seatFacts, exitTo, calm, isEff, Nat.reduceBEq, evs, evps, evo, isConst, reduceCtorEq, Nat.reduceEqDiff, resultsA, Sh.one, Sh.unit, forall_const, implies_true, eq_self, ne_eq, if_true, if_false, beq_self_eq_true, cond_true, cond_false, List.all_cons, List.all_nil, List.getElem?_cons_zero, List.getElem?_cons_succ, List.nil_append, List.append_nil, Option.bind_some, Option.map_some, Option.some.injEq, exists_eq_left', exists_eq', exists_eq, Prod.mk.injEq, exists_and_left, hb3.c0, hb3.c1, hb3.c2, hb3.c3, hb3.ca, netLenS hb3, netLenA hb3, netLenE hb3, netZero, arcZero, endZero, arcNew, endNew, arcStore, endStore, arcOver, endOver, netOver, arc0, arc1, arc2, arc3, arc4, end0, end1, f1, f4, h4, decide_false]
    refine ⟨_, _, hd4, ?_⟩
    have hb4 := hb3
    cases hI : badSym N a.inn with
    | true => simp only [↓Sh.stepDn, Sh.stepUp, seatFacts, exitTo, calm, isEff, Nat.reduceBEq, evs, evps, evo, isConst, reduceCtorEq, Nat.reduceEqDiff, resultsA, Sh.one, Sh.unit, forall_const, implies_true, eq_self, ne_eq, if_true, if_false, beq_self_eq_true, cond_true, cond_false, List.all_cons, List.all_nil, List.getElem?_cons_zero, List.getElem?_cons_succ, List.nil_append, List.append_nil, Option.bind_some, Option.map_some, Option.some.injEq, exists_eq_left', exists_eq', exists_eq, Prod.mk.injEq, exists_and_left, hres, hbad (by simp [badArc, hI]), hk12.trans hk3]
    | false =>
      obtain ⟨r, H5, hd5, rfl, rfl⟩ := checkIs (s := a.out) hb3 hasc hsm.sg
      simp only [↓Sh.stepDn, Sh.stepUp, seatFacts, exitTo, calm, isEff, Nat.reduceBEq, evs, evps, evo, isConst, reduceCtorEq, Nat.reduceEqDiff, resultsA, Sh.one, Sh.unit, forall_const, implies_true, eq_self, ne_eq, if_true, if_false, beq_self_eq_true, cond_true, cond_false, List.all_cons, List.all_nil, List.getElem?_cons_zero, List.getElem?_cons_succ, List.nil_append, List.append_nil, Option.bind_some, Option.map_some, Option.some.injEq, exists_eq_left', exists_eq', exists_eq, Prod.mk.injEq, exists_and_left, hb3.c0, hb3.c1, hb3.c2, hb3.c3, hb3.ca, netLenS hb3, netLenA hb3, netLenE hb3, netZero, arcZero, endZero, arcNew, endNew, arcStore, endStore, arcOver, endOver, netOver, arc0, arc1, arc2, arc3, arc4, end0, end1, f1, f4]
      refine ⟨_, _, hd5, ?_⟩
      cases hO : badSym N a.out with
      | true => simp only [↓Sh.stepDn, Sh.stepUp, seatFacts, exitTo, calm, isEff, Nat.reduceBEq, evs, evps, evo, isConst, reduceCtorEq, Nat.reduceEqDiff, resultsA, Sh.one, Sh.unit, forall_const, implies_true, eq_self, ne_eq, if_true, if_false, beq_self_eq_true, cond_true, cond_false, List.all_cons, List.all_nil, List.getElem?_cons_zero, List.getElem?_cons_succ, List.nil_append, List.append_nil, Option.bind_some, Option.map_some, Option.some.injEq, exists_eq_left', exists_eq', exists_eq, Prod.mk.injEq, exists_and_left, hres, hbad (by simp [badArc, hO]), hk12.trans hk3]
      | false =>
        simp only [↓Sh.stepDn, Sh.stepUp, seatFacts, exitTo, calm, isEff, Nat.reduceBEq, evs, evps, evo, isConst, reduceCtorEq, Nat.reduceEqDiff, resultsA, Sh.one, Sh.unit, forall_const, implies_true, eq_self, ne_eq, if_true, if_false, beq_self_eq_true, cond_true, cond_false, List.all_cons, List.all_nil, List.getElem?_cons_zero, List.getElem?_cons_succ, List.nil_append, List.append_nil, Option.bind_some, Option.map_some, Option.some.injEq, exists_eq_left', exists_eq', exists_eq, Prod.mk.injEq, exists_and_left, f37, wrap_succ hlt hsm.ar]
        exact k _ _ (by repeat (first | refine Same.put ?_ rfl | exact Same.rfl' _)) (by simp only [↓Sh.stepDn, Sh.stepUp, seatFacts, exitTo, calm, isEff, Nat.reduceBEq, evs, evps, evo, isConst, reduceCtorEq, Nat.reduceEqDiff, resultsA, Sh.one, Sh.unit, forall_const, implies_true, eq_self, ne_eq, if_true, if_false, beq_self_eq_true, cond_true, cond_false, List.all_cons, List.all_nil, List.getElem?_cons_zero, List.getElem?_cons_succ, List.nil_append, List.append_nil, Option.bind_some, Option.map_some, Option.some.injEq, exists_eq_left', exists_eq', exists_eq, Prod.mk.injEq, exists_and_left]) ⟨hk3, hnext (by simp [badArc, h1, h2, h3, h4, hI, hO])⟩
  · rintro F H' hF f37 ⟨hk, hall⟩
    have f1 := hF 1 rfl
    have f36 := hF 36 rfl
    simp only [↓Sh.stepDn, Sh.stepUp, seatFacts, exitTo, calm, isEff, Nat.reduceBEq, evs, evps, evo, isConst, reduceCtorEq, Nat.reduceEqDiff, resultsA, Sh.one, Sh.unit, forall_const, implies_true, eq_self, ne_eq, if_true, if_false, beq_self_eq_true, cond_true, cond_false, List.all_cons, List.all_nil, List.getElem?_cons_zero, List.getElem?_cons_succ, List.nil_append, List.append_nil, Option.bind_some, Option.map_some, Option.some.injEq, exists_eq_left', exists_eq', exists_eq, Prod.mk.injEq, exists_and_left] at f1 f36
    rw [List.take_length] at hall
    have hb' := hb2.kept hk12.wf hk
    simp only [↓Sh.stepDn, Sh.stepUp, seatFacts, exitTo, calm, isEff, Nat.reduceBEq, evs, evps, evo, isConst, reduceCtorEq, Nat.reduceEqDiff, resultsA, Sh.one, Sh.unit, forall_const, implies_true, eq_self, ne_eq, if_true, if_false, beq_self_eq_true, cond_true, cond_false, List.all_cons, List.all_nil, List.getElem?_cons_zero, List.getElem?_cons_succ, List.nil_append, List.append_nil, Option.bind_some, Option.map_some, Option.some.injEq, exists_eq_left', exists_eq', exists_eq, Prod.mk.injEq, exists_and_left, hb'.c0, hb'.c1, hb'.c2, hb'.c3, hb'.ca, netLenS hb', netLenA hb', netLenE hb', f1, f36, f37, nat_lt, Nat.lt_irrefl, decide_false]
    refine wp_for N.ends.length 81 (List.range' 81 15 ++ [2, 8]) (fun i F H'' => Kept H' H'' ∧ (N.ends.take i).any (badEnd N) = false) (by simp only [↓Sh.stepDn, Sh.stepUp, seatFacts, exitTo, calm, isEff, Nat.reduceBEq, evs, evps, evo, isConst, reduceCtorEq, Nat.reduceEqDiff, resultsA, Sh.one, Sh.unit, forall_const, implies_true, eq_self, ne_eq, if_true, if_false, beq_self_eq_true, cond_true, cond_false, List.all_cons, List.all_nil, List.getElem?_cons_zero, List.getElem?_cons_succ, List.nil_append, List.append_nil, Option.bind_some, Option.map_some, Option.some.injEq, exists_eq_left', exists_eq', exists_eq, Prod.mk.injEq, exists_and_left]) ⟨Kept.refl hk.wf, rfl⟩ ?_ ?_
    · rintro i F2 H'' hlt hF2 f81 ⟨hk2', hall2⟩ k
      have g1 := hF2 1 rfl
      have g79 := hF2 79 rfl
      have g80 := hF2 80 rfl
      simp only [↓Sh.stepDn, Sh.stepUp, seatFacts, exitTo, calm, isEff, Nat.reduceBEq, evs, evps, evo, isConst, reduceCtorEq, Nat.reduceEqDiff, resultsA, Sh.one, Sh.unit, forall_const, implies_true, eq_self, ne_eq, if_true, if_false, beq_self_eq_true, cond_true, cond_false, List.all_cons, List.all_nil, List.getElem?_cons_zero, List.getElem?_cons_succ, List.nil_append, List.append_nil, Option.bind_some, Option.map_some, Option.some.injEq, exists_eq_left', exists_eq', exists_eq, Prod.mk.injEq, exists_and_left, f1] at g1 g79 g80
      have hbx := hb'.kept hk.wf hk2'
      have hb3 := hbx.new hk2'.wf 2 (N.ends[i].cells)
      have hk3 := hk2'.news 2 (N.ends[i].cells)
      have hkk := (hk12.trans hk).trans hk3
      obtain ⟨g, o, kk, hia, hc, hcc⟩ := hbx.hen.at Try.underlying24 size_35 (i := i) (x := N.ends[i].cells) (by simp [hlt]) .i64
      clear hcc
      have hbad : badEnd N N.ends[i] = true → netErr N = 1 := fun h => e2 (List.any_eq_true.2 ⟨_, List.getElem_mem hlt, h⟩)
      simp only [↓Sh.stepDn, Sh.stepUp, seatFacts, exitTo, calm, isEff, Nat.reduceBEq, evs, evps, evo, isConst, reduceCtorEq, Nat.reduceEqDiff, resultsA, Sh.one, Sh.unit, forall_const, implies_true, eq_self, ne_eq, if_true, if_false, beq_self_eq_true, cond_true, cond_false, List.all_cons, List.all_nil, List.getElem?_cons_zero, List.getElem?_cons_succ, List.nil_append, List.append_nil, Option.bind_some, Option.map_some, Option.some.injEq, exists_eq_left', exists_eq', exists_eq, Prod.mk.injEq, exists_and_left, hbx.c0, hbx.c1, hbx.c2, hbx.c3, hbx.ca, netLenS hbx, netLenA hbx, netLenE hbx, netZero, arcZero, endZero, arcNew, endNew, arcStore, endStore, arcOver, endOver, netOver, arc0, arc1, arc2, arc3, arc4, end0, end1, g1, g79, g80, f81, nat_lt, hlt, decide_true, hia, hc, Option.map_some]
      by_cases h1 : N.ends[i].state < 0
      · simp only [↓Sh.stepDn, Sh.stepUp, seatFacts, exitTo, calm, isEff, Nat.reduceBEq, evs, evps, evo, isConst, reduceCtorEq, Nat.reduceEqDiff, resultsA, Sh.one, Sh.unit, forall_const, implies_true, eq_self, ne_eq, if_true, if_false, beq_self_eq_true, cond_true, cond_false, List.all_cons, List.all_nil, List.getElem?_cons_zero, List.getElem?_cons_succ, List.nil_append, List.append_nil, Option.bind_some, Option.map_some, Option.some.injEq, exists_eq_left', exists_eq', exists_eq, Prod.mk.injEq, exists_and_left, hb3.c0, hb3.c1, hb3.c2, hb3.c3, hb3.ca, netLenS hb3, netLenA hb3, netLenE hb3, netZero, arcZero, endZero, arcNew, endNew, arcStore, endStore, arcOver, endOver, netOver, arc0, arc1, arc2, arc3, arc4, end0, end1, h1, decide_true, hres, hbad (by simp [badEnd, h1]), hkk]
      simp only [↓Sh.stepDn, Sh.stepUp, seatFacts, exitTo, calm, isEff, Nat.reduceBEq, evs, evps, evo, isConst, reduceCtorEq, Nat.reduceEqDiff, resultsA, Sh.one, Sh.unit, forall_const, implies_true, eq_self, ne_eq, if_true, if_false, beq_self_eq_true, cond_true, cond_false, List.all_cons, List.all_nil, List.getElem?_cons_zero, List.getElem?_cons_succ, List.nil_append, List.append_nil, Option.bind_some, Option.map_some, Option.some.injEq, exists_eq_left', exists_eq', exists_eq, Prod.mk.injEq, exists_and_left, hb3.c0, hb3.c1, hb3.c2, hb3.c3, hb3.ca, netLenS hb3, netLenA hb3, netLenE hb3, netZero, arcZero, endZero, arcNew, endNew, arcStore, endStore, arcOver, endOver, netOver, arc0, arc1, arc2, arc3, arc4, end0, end1, g1, f81, h1, decide_false]
      by_cases h2 : N.states ≤ N.ends[i].state
      · simp only [↓Sh.stepDn, Sh.stepUp, seatFacts, exitTo, calm, isEff, Nat.reduceBEq, evs, evps, evo, isConst, reduceCtorEq, Nat.reduceEqDiff, resultsA, Sh.one, Sh.unit, forall_const, implies_true, eq_self, ne_eq, if_true, if_false, beq_self_eq_true, cond_true, cond_false, List.all_cons, List.all_nil, List.getElem?_cons_zero, List.getElem?_cons_succ, List.nil_append, List.append_nil, Option.bind_some, Option.map_some, Option.some.injEq, exists_eq_left', exists_eq', exists_eq, Prod.mk.injEq, exists_and_left, h2, decide_true, hres, hbad (by simp [badEnd, h2]), hkk]
      simp only [↓Sh.stepDn, Sh.stepUp, seatFacts, exitTo, calm, isEff, Nat.reduceBEq, evs, evps, evo, isConst, reduceCtorEq, Nat.reduceEqDiff, resultsA, Sh.one, Sh.unit, forall_const, implies_true, eq_self, ne_eq, if_true, if_false, beq_self_eq_true, cond_true, cond_false, List.all_cons, List.all_nil, List.getElem?_cons_zero, List.getElem?_cons_succ, List.nil_append, List.append_nil, Option.bind_some, Option.map_some, Option.some.injEq, exists_eq_left', exists_eq', exists_eq, Prod.mk.injEq, exists_and_left, f81, h2, decide_false, wrap_succ hlt hsm.en]
      refine k _ _ (by repeat (first | refine Same.put ?_ rfl | exact Same.rfl' _)) (by simp only [↓Sh.stepDn, Sh.stepUp, seatFacts, exitTo, calm, isEff, Nat.reduceBEq, evs, evps, evo, isConst, reduceCtorEq, Nat.reduceEqDiff, resultsA, Sh.one, Sh.unit, forall_const, implies_true, eq_self, ne_eq, if_true, if_false, beq_self_eq_true, cond_true, cond_false, List.all_cons, List.all_nil, List.getElem?_cons_zero, List.getElem?_cons_succ, List.nil_append, List.append_nil, Option.bind_some, Option.map_some, Option.some.injEq, exists_eq_left', exists_eq', exists_eq, Prod.mk.injEq, exists_and_left]) ⟨hk3, ?_⟩
      rw [List.take_add_one, List.getElem?_eq_getElem hlt]
      simp only [Option.toList, List.any_append, hall2, List.any_cons, List.any_nil, Bool.or_false, badEnd, h1, h2, decide_false]
    · rintro F2 H'' hF2 f81 ⟨hk2', hall2⟩
      have g80 := hF2 80 rfl
      simp only [↓Sh.stepDn, Sh.stepUp, seatFacts, exitTo, calm, isEff, Nat.reduceBEq, evs, evps, evo, isConst, reduceCtorEq, Nat.reduceEqDiff, resultsA, Sh.one, Sh.unit, forall_const, implies_true, eq_self, ne_eq, if_true, if_false, beq_self_eq_true, cond_true, cond_false, List.all_cons, List.all_nil, List.getElem?_cons_zero, List.getElem?_cons_succ, List.nil_append, List.append_nil, Option.bind_some, Option.map_some, Option.some.injEq, exists_eq_left', exists_eq', exists_eq, Prod.mk.injEq, exists_and_left] at g80
      rw [List.take_length] at hall2
      simp only [↓Sh.stepDn, Sh.stepUp, seatFacts, exitTo, calm, isEff, Nat.reduceBEq, evs, evps, evo, isConst, reduceCtorEq, Nat.reduceEqDiff, resultsA, Sh.one, Sh.unit, forall_const, implies_true, eq_self, ne_eq, if_true, if_false, beq_self_eq_true, cond_true, cond_false, List.all_cons, List.all_nil, List.getElem?_cons_zero, List.getElem?_cons_succ, List.nil_append, List.append_nil, Option.bind_some, Option.map_some, Option.some.injEq, exists_eq_left', exists_eq', exists_eq, Prod.mk.injEq, exists_and_left, g80, f81, nat_lt, Nat.lt_irrefl, decide_false, hres, e3 hall hall2, (hk12.trans hk).trans hk2']
end Go.Proofs.Ytbnpoiibehkjpaa
/- Whether a net has a cost out of bounds. -/
set_option maxHeartbeats 4000000
set_option linter.unusedSimpArgs false
set_option linter.unusedVariables false
set_option pp.deepTerms.threshold 8
namespace Go.Proofs.Ytbnpoiibehkjpaa
open Go Go.Proofs Go.Proofs.Sh
def pricedB (N : NetD) (m : Int) : Bool := N.arcs.any (fun a => decide (a.cost < 0) || decide (m < a.cost)) || N.ends.any (fun a => decide (a.cost < 0) || decide (m < a.cost))
theorem priced {H : AH} {v : Value} {N : NetD} {m : Int} (h : NetAt H v N) (hsm : NetSmall N) (hw : Wf H) :
    Sh.Call Try.prog (knows 7) 9 [v, .int .i64 m] H (fun r H' => Kept H H' ∧ r = .bool (pricedB N m)) := by
  refine call_of rfl Try.func9 rfl (Nat.le_of_ble_eq_true rfl) ?_
  have hres : Try.f9.results.toList = [.tmp 4] := rfl
  obtain ⟨sg, ar, en, rfl, hsg, har, hen⟩ := h
  have hb1 := NetBox.of (N := N) hw hsg har hen
  have hk1 : Kept H (H.new 4 [sg, .int .i64 N.states, ar, en]).2 := Kept.new hw 4 _
  simp only [↓Sh.stepDn, Sh.stepUp, seatFacts, exitTo, calm, isEff, Nat.reduceBEq, evs, evps, evo, isConst, reduceCtorEq, Nat.reduceEqDiff, resultsA, Sh.one, Sh.unit, forall_const, implies_true, eq_self, ne_eq, if_true, if_false, beq_self_eq_true, cond_true, cond_false, List.all_cons, List.all_nil, List.getElem?_cons_zero, List.getElem?_cons_succ, List.nil_append, List.append_nil, Option.bind_some, Option.map_some, Option.some.injEq, exists_eq_left', exists_eq', exists_eq, Prod.mk.injEq, exists_and_left, netNew hsg.isCell har.isCell hen.isCell]
  generalize H.next = gg at hb1 ⊢
  generalize (H.new 4 [sg, .int .i64 N.states, ar, en]).2 = H1 at hb1 hk1 ⊢
  simp only [↓Sh.stepDn, Sh.stepUp, seatFacts, exitTo, calm, isEff, Nat.reduceBEq, evs, evps, evo, isConst, reduceCtorEq, Nat.reduceEqDiff, resultsA, Sh.one, Sh.unit, forall_const, implies_true, eq_self, ne_eq, if_true, if_false, beq_self_eq_true, cond_true, cond_false, List.all_cons, List.all_nil, List.getElem?_cons_zero, List.getElem?_cons_succ, List.nil_append, List.append_nil, Option.bind_some, Option.map_some, Option.some.injEq, exists_eq_left', exists_eq', exists_eq, Prod.mk.injEq, exists_and_left, hb1.c0, hb1.c1, hb1.c2, hb1.c3, hb1.ca, netLenS hb1, netLenA hb1, netLenE hb1]
  refine wp_for N.arcs.length 12 (List.range' 12 14 ++ [4, 6]) (fun i F H' => Kept H1 H' ∧ (N.arcs.take i).any (fun a => decide (a.cost < 0) || decide (m < a.cost)) = false) (by simp only [↓Sh.stepDn, Sh.stepUp, seatFacts, exitTo, calm, isEff, Nat.reduceBEq, evs, evps, evo, isConst, reduceCtorEq, Nat.reduceEqDiff, resultsA, Sh.one, Sh.unit, forall_const, implies_true, eq_self, ne_eq, if_true, if_false, beq_self_eq_true, cond_true, cond_false, List.all_cons, List.all_nil, List.getElem?_cons_zero, List.getElem?_cons_succ, List.nil_append, List.append_nil, Option.bind_some, Option.map_some, Option.some.injEq, exists_eq_left', exists_eq', exists_eq, Prod.mk.injEq, exists_and_left]) ⟨Kept.refl hk1.wf, rfl⟩ ?_ ?_
  · rintro i F H' hlt hF f12 ⟨hk, hall⟩ k
    have f1 := hF 1 rfl
    have f10 := hF 10 rfl
    have f11 := hF 11 rfl
    simp only [↓Sh.stepDn, Sh.stepUp, seatFacts, exitTo, calm, isEff, Nat.reduceBEq, evs, evps, evo, isConst, reduceCtorEq, Nat.reduceEqDiff, resultsA, Sh.one, Sh.unit, forall_const, implies_true, eq_self, ne_eq, if_true, if_false, beq_self_eq_true, cond_true, cond_false, List.all_cons, List.all_nil, List.getElem?_cons_zero, List.getElem?_cons_succ, List.nil_append, List.append_nil, Option.bind_some, Option.map_some, Option.some.injEq, exists_eq_left', exists_eq', exists_eq, Prod.mk.injEq, exists_and_left] at f1 f10 f11
    have hb' := hb1.kept hk1.wf hk
    have hb3 := hb'.new hk.wf 5 (N.arcs[i].cells)
    have hk3 := hk.news 5 (N.arcs[i].cells)
    obtain ⟨g, o, kk, hia, hc, hcc⟩ := hb'.har.at Try.underlying23 size_33 (i := i) (x := N.arcs[i].cells) (by simp [hlt]) .i64
    clear hcc
    have hbad : (decide (N.arcs[i].cost < 0) || decide (m < N.arcs[i].cost)) = true → pricedB N m = true := fun h => by
      rw [pricedB, List.any_eq_true.2 ⟨_, List.getElem_mem hlt, h⟩]; rfl
    simp only [↓Sh.stepDn, Sh.stepUp, seatFacts, exitTo, calm, isEff, Nat.reduceBEq, evs, evps, evo, isConst, reduceCtorEq, Nat.reduceEqDiff, resultsA, Sh.one, Sh.unit, forall_const, implies_true, eq_self, ne_eq, if_true, if_false, beq_self_eq_true, cond_true, cond_false, List.all_cons, List.all_nil, List.getElem?_cons_zero, List.getElem?_cons_succ, List.nil_append, List.append_nil, Option.bind_some, Option.map_some, Option.some.injEq, exists_eq_left', exists_eq', exists_eq, Prod.mk.injEq, exists_and_left, hb'.c0, hb'.c1, hb'.c2, hb'.c3, hb'.ca, netLenS hb', netLenA hb', netLenE hb', netZero, arcZero, endZero, arcNew, endNew, arcStore, endStore, arcOver, endOver, netOver, arc0, arc1, arc2, arc3, arc4, end0, end1, f1, f10, f11, f12, Option.map_some, nat_lt, hlt, decide_true, hia, hc, hres]
    by_cases h1 : N.arcs[i].cost < 0
    · simp only [↓Sh.stepDn, Sh.stepUp, seatFacts, exitTo, calm, isEff, Nat.reduceBEq, evs, evps, evo, isConst, reduceCtorEq, Nat.reduceEqDiff, resultsA, Sh.one, Sh.unit, forall_const, implies_true, eq_self, ne_eq, if_true, if_false, beq_self_eq_true, cond_true, cond_false, List.all_cons, List.all_nil, List.getElem?_cons_zero, List.getElem?_cons_succ, List.nil_append, List.append_nil, Option.bind_some, Option.map_some, Option.some.injEq, exists_eq_left', exists_eq', exists_eq, Prod.mk.injEq, exists_and_left, h1, decide_true, hres, hbad (by simp [h1]), hk1.trans hk3]
    simp only [↓Sh.stepDn, Sh.stepUp, seatFacts, exitTo, calm, isEff, Nat.reduceBEq, evs, evps, evo, isConst, reduceCtorEq, Nat.reduceEqDiff, resultsA, Sh.one, Sh.unit, forall_const, implies_true, eq_self, ne_eq, if_true, if_false, beq_self_eq_true, cond_true, cond_false, List.all_cons, List.all_nil, List.getElem?_cons_zero, List.getElem?_cons_succ, List.nil_append, List.append_nil, Option.bind_some, Option.map_some, Option.some.injEq, exists_eq_left', exists_eq', exists_eq, Prod.mk.injEq, exists_and_left, netZero, arcZero, endZero, arcNew, endNew, arcStore, endStore, arcOver, endOver, netOver, arc0, arc1, arc2, arc3, arc4, end0, end1, f1, h1, decide_false]
    by_cases h2 : m < N.arcs[i].cost
    · simp only [↓Sh.stepDn, Sh.stepUp, seatFacts, exitTo, calm, isEff, Nat.reduceBEq, evs, evps, evo, isConst, reduceCtorEq, Nat.reduceEqDiff, resultsA, Sh.one, Sh.unit, forall_const, implies_true, eq_self, ne_eq, if_true, if_false, beq_self_eq_true, cond_true, cond_false, List.all_cons, List.all_nil, List.getElem?_cons_zero, List.getElem?_cons_succ, List.nil_append, List.append_nil, Option.bind_some, Option.map_some, Option.some.injEq, exists_eq_left', exists_eq', exists_eq, Prod.mk.injEq, exists_and_left, h2, decide_true, hres, hbad (by simp [h2]), hk1.trans hk3]
    simp only [↓Sh.stepDn, Sh.stepUp, seatFacts, exitTo, calm, isEff, Nat.reduceBEq, evs, evps, evo, isConst, reduceCtorEq, Nat.reduceEqDiff, resultsA, Sh.one, Sh.unit, forall_const, implies_true, eq_self, ne_eq, if_true, if_false, beq_self_eq_true, cond_true, cond_false, List.all_cons, List.all_nil, List.getElem?_cons_zero, List.getElem?_cons_succ, List.nil_append, List.append_nil, Option.bind_some, Option.map_some, Option.some.injEq, exists_eq_left', exists_eq', exists_eq, Prod.mk.injEq, exists_and_left, f12, h2, decide_false, wrap_succ hlt hsm.ar]
    refine k _ _ (by repeat (first | refine Same.put ?_ rfl | exact Same.rfl' _)) (by simp only [↓Sh.stepDn, Sh.stepUp, seatFacts, exitTo, calm, isEff, Nat.reduceBEq, evs, evps, evo, isConst, reduceCtorEq, Nat.reduceEqDiff, resultsA, Sh.one, Sh.unit, forall_const, implies_true, eq_self, ne_eq, if_true, if_false, beq_self_eq_true, cond_true, cond_false, List.all_cons, List.all_nil, List.getElem?_cons_zero, List.getElem?_cons_succ, List.nil_append, List.append_nil, Option.bind_some, Option.map_some, Option.some.injEq, exists_eq_left', exists_eq', exists_eq, Prod.mk.injEq, exists_and_left]) ⟨hk3, ?_⟩
    rw [List.take_add_one, List.getElem?_eq_getElem hlt]
    simp only [Option.toList, List.any_append, hall, List.any_cons, List.any_nil, Bool.or_false, h1, h2, decide_false]
  · rintro F H' hF f12 ⟨hk, hall⟩
    have f2 := hF 2 rfl
    have f11 := hF 11 rfl
    simp only [↓Sh.stepDn, Sh.stepUp, seatFacts, exitTo, calm, isEff, Nat.reduceBEq, evs, evps, evo, isConst, reduceCtorEq, Nat.reduceEqDiff, resultsA, Sh.one, Sh.unit, forall_const, implies_true, eq_self, ne_eq, if_true, if_false, beq_self_eq_true, cond_true, cond_false, List.all_cons, List.all_nil, List.getElem?_cons_zero, List.getElem?_cons_succ, List.nil_append, List.append_nil, Option.bind_some, Option.map_some, Option.some.injEq, exists_eq_left', exists_eq', exists_eq, Prod.mk.injEq, exists_and_left] at f2 f11
    rw [List.take_length] at hall
    have hb' := hb1.kept hk1.wf hk
    simp only [↓Sh.stepDn, Sh.stepUp, seatFacts, exitTo, calm, isEff, Nat.reduceBEq, evs, evps, evo, isConst, reduceCtorEq, Nat.reduceEqDiff, resultsA, Sh.one, Sh.unit, forall_const, implies_true, eq_self, ne_eq, if_true, if_false, beq_self_eq_true, cond_true, cond_false, List.all_cons, List.all_nil, List.getElem?_cons_zero, List.getElem?_cons_succ, List.nil_append, List.append_nil, Option.bind_some, Option.map_some, Option.some.injEq, exists_eq_left', exists_eq', exists_eq, Prod.mk.injEq, exists_and_left, hb'.c0, hb'.c1, hb'.c2, hb'.c3, hb'.ca, netLenS hb', netLenA hb', netLenE hb', f2, f11, f12, nat_lt, Nat.lt_irrefl, decide_false]
    refine wp_for N.ends.length 29 (List.range' 29 14 ++ [4, 8]) (fun i F H'' => Kept H' H'' ∧ (N.ends.take i).any (fun a => decide (a.cost < 0) || decide (m < a.cost)) = false) (by simp only [↓Sh.stepDn, Sh.stepUp, seatFacts, exitTo, calm, isEff, Nat.reduceBEq, evs, evps, evo, isConst, reduceCtorEq, Nat.reduceEqDiff, resultsA, Sh.one, Sh.unit, forall_const, implies_true, eq_self, ne_eq, if_true, if_false, beq_self_eq_true, cond_true, cond_false, List.all_cons, List.all_nil, List.getElem?_cons_zero, List.getElem?_cons_succ, List.nil_append, List.append_nil, Option.bind_some, Option.map_some, Option.some.injEq, exists_eq_left', exists_eq', exists_eq, Prod.mk.injEq, exists_and_left]) ⟨Kept.refl hk.wf, rfl⟩ ?_ ?_
    · rintro i F2 H'' hlt hF2 f29 ⟨hk2', hall2⟩ k
      have g1 := hF2 1 rfl
      have h1' := hF 1 rfl
      have g27 := hF2 27 rfl
      have g28 := hF2 28 rfl
      simp only [↓Sh.stepDn, Sh.stepUp, seatFacts, exitTo, calm, isEff, Nat.reduceBEq, evs, evps, evo, isConst, reduceCtorEq, Nat.reduceEqDiff, resultsA, Sh.one, Sh.unit, forall_const, implies_true, eq_self, ne_eq, if_true, if_false, beq_self_eq_true, cond_true, cond_false, List.all_cons, List.all_nil, List.getElem?_cons_zero, List.getElem?_cons_succ, List.nil_append, List.append_nil, Option.bind_some, Option.map_some, Option.some.injEq, exists_eq_left', exists_eq', exists_eq, Prod.mk.injEq, exists_and_left] at g1 g27 g28 h1'
      have hbx := hb'.kept hk.wf hk2'
      have hb3 := hbx.new hk2'.wf 2 (N.ends[i].cells)
      have hk3 := hk2'.news 2 (N.ends[i].cells)
      have hkk := (hk1.trans hk).trans hk3
      obtain ⟨g, o, kk, hia, hc, hcc⟩ := hbx.hen.at Try.underlying24 size_35 (i := i) (x := N.ends[i].cells) (by simp [hlt]) .i64
      clear hcc
      have hbad : (decide (N.ends[i].cost < 0) || decide (m < N.ends[i].cost)) = true → pricedB N m = true := fun h => by
        rw [pricedB, List.any_eq_true.2 ⟨_, List.getElem_mem hlt, h⟩, Bool.or_true]
      simp only [↓Sh.stepDn, Sh.stepUp, seatFacts, exitTo, calm, isEff, Nat.reduceBEq, evs, evps, evo, isConst, reduceCtorEq, Nat.reduceEqDiff, resultsA, Sh.one, Sh.unit, forall_const, implies_true, eq_self, ne_eq, if_true, if_false, beq_self_eq_true, cond_true, cond_false, List.all_cons, List.all_nil, List.getElem?_cons_zero, List.getElem?_cons_succ, List.nil_append, List.append_nil, Option.bind_some, Option.map_some, Option.some.injEq, exists_eq_left', exists_eq', exists_eq, Prod.mk.injEq, exists_and_left, hbx.c0, hbx.c1, hbx.c2, hbx.c3, hbx.ca, netLenS hbx, netLenA hbx, netLenE hbx, netZero, arcZero, endZero, arcNew, endNew, arcStore, endStore, arcOver, endOver, netOver, arc0, arc1, arc2, arc3, arc4, end0, end1, g1, h1', g27, g28, f29, nat_lt, hlt, decide_true, hia, hc, Option.map_some]
      by_cases h1 : N.ends[i].cost < 0
      · simp only [↓Sh.stepDn, Sh.stepUp, seatFacts, exitTo, calm, isEff, Nat.reduceBEq, evs, evps, evo, isConst, reduceCtorEq, Nat.reduceEqDiff, resultsA, Sh.one, Sh.unit, forall_const, implies_true, eq_self, ne_eq, if_true, if_false, beq_self_eq_true, cond_true, cond_false, List.all_cons, List.all_nil, List.getElem?_cons_zero, List.getElem?_cons_succ, List.nil_append, List.append_nil, Option.bind_some, Option.map_some, Option.some.injEq, exists_eq_left', exists_eq', exists_eq, Prod.mk.injEq, exists_and_left, h1, decide_true, hres, hbad (by simp [h1]), hkk]
      simp only [↓Sh.stepDn, Sh.stepUp, seatFacts, exitTo, calm, isEff, Nat.reduceBEq, evs, evps, evo, isConst, reduceCtorEq, Nat.reduceEqDiff, resultsA, Sh.one, Sh.unit, forall_const, implies_true, eq_self, ne_eq, if_true, if_false, beq_self_eq_true, cond_true, cond_false, List.all_cons, List.all_nil, List.getElem?_cons_zero, List.getElem?_cons_succ, List.nil_append, List.append_nil, Option.bind_some, Option.map_some, Option.some.injEq, exists_eq_left', exists_eq', exists_eq, Prod.mk.injEq, exists_and_left, netZero, arcZero, endZero, arcNew, endNew, arcStore, endStore, arcOver, endOver, netOver, arc0, arc1, arc2, arc3, arc4, end0, end1, g1, h1', f29, h1, decide_false]
      by_cases h2 : m < N.ends[i].cost
      · simp only [↓Sh.stepDn, Sh.stepUp, seatFacts, exitTo, calm, isEff, Nat.reduceBEq, evs, evps, evo, isConst, reduceCtorEq, Nat.reduceEqDiff, resultsA, Sh.one, Sh.unit, forall_const, implies_true, eq_self, ne_eq, if_true, if_false, beq_self_eq_true, cond_true, cond_false, List.all_cons, List.all_nil, List.getElem?_cons_zero, List.getElem?_cons_succ, List.nil_append, List.append_nil, Option.bind_some, Option.map_some, Option.some.injEq, exists_eq_left', exists_eq', exists_eq, Prod.mk.injEq, exists_and_left, h2, decide_true, hres, hbad (by simp [h2]), hkk]
      simp only [↓Sh.stepDn, Sh.stepUp, seatFacts, exitTo, calm, isEff, Nat.reduceBEq, evs, evps, evo, isConst, reduceCtorEq, Nat.reduceEqDiff, resultsA, Sh.one, Sh.unit, forall_const, implies_true, eq_self, ne_eq, if_true, if_false, beq_self_eq_true, cond_true, cond_false, List.all_cons, List.all_nil, List.getElem?_cons_zero, List.getElem?_cons_succ, List.nil_append, List.append_nil, Option.bind_some, Option.map_some, Option.some.injEq, exists_eq_left', exists_eq', exists_eq, Prod.mk.injEq, exists_and_left, f29, h2, decide_false, wrap_succ hlt hsm.en]
      refine k _ _ (by repeat (first | refine Same.put ?_ rfl | exact Same.rfl' _)) (by simp only [↓Sh.stepDn, Sh.stepUp, seatFacts, exitTo, calm, isEff, Nat.reduceBEq, evs, evps, evo, isConst, reduceCtorEq, Nat.reduceEqDiff, resultsA, Sh.one, Sh.unit, forall_const, implies_true, eq_self, ne_eq, if_true, if_false, beq_self_eq_true, cond_true, cond_false, List.all_cons, List.all_nil, List.getElem?_cons_zero, List.getElem?_cons_succ, List.nil_append, List.append_nil, Option.bind_some, Option.map_some, Option.some.injEq, exists_eq_left', exists_eq', exists_eq, Prod.mk.injEq, exists_and_left]) ⟨hk3, ?_⟩
      rw [List.take_add_one, List.getElem?_eq_getElem hlt]
      simp only [Option.toList, List.any_append, hall2, List.any_cons, List.any_nil, Bool.or_false, h1, h2, decide_false]
    · rintro F2 H'' hF2 f29 ⟨hk2', hall2⟩
      have g28 := hF2 28 rfl
      simp only [↓Sh.stepDn, Sh.stepUp, seatFacts, exitTo, calm, isEff, Nat.reduceBEq, evs, evps, evo, isConst, reduceCtorEq, Nat.reduceEqDiff, resultsA, Sh.one, Sh.unit, forall_const, implies_true, eq_self, ne_eq, if_true, if_false, beq_self_eq_true, cond_true, cond_false, List.all_cons, List.all_nil, List.getElem?_cons_zero, List.getElem?_cons_succ, List.nil_append, List.append_nil, Option.bind_some, Option.map_some, Option.some.injEq, exists_eq_left', exists_eq', exists_eq, Prod.mk.injEq, exists_and_left] at g28
      rw [List.take_length] at hall2
      simp only [↓Sh.stepDn, Sh.stepUp, seatFacts, exitTo, calm, isEff, Nat.reduceBEq, evs, evps, evo, isConst, reduceCtorEq, Nat.reduceEqDiff, resultsA, Sh.one, Sh.unit, forall_const, implies_true, eq_self, ne_eq, if_true, if_false, beq_self_eq_true, cond_true, cond_false, List.all_cons, List.all_nil, List.getElem?_cons_zero, List.getElem?_cons_succ, List.nil_append, List.append_nil, Option.bind_some, Option.map_some, Option.some.injEq, exists_eq_left', exists_eq', exists_eq, Prod.mk.injEq, exists_and_left, g28, f29, nat_lt, Nat.lt_irrefl, decide_false, hres, pricedB, hall, hall2, (hk1.trans hk).trans hk2']
end Go.Proofs.Ytbnpoiibehkjpaa
