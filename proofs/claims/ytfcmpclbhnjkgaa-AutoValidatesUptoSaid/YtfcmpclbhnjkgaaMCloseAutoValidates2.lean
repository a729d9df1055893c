/- A part of the proof: Facts, NetFacts, AnyLong, IsSymbol, AllSymbols, IsSet, RefSigma, Search, SearchAt, SearchStrings, IsIn, ValidateNet, SymsSmall, IndexFuncStr, SymsValidate, CmpLessStr, BinarySearch, GraphCheck, IsFree, RefValidate. -/
import Derived.Test.YtfcmpclbhnjkgaaProg
import Derived.Test.YtfcmpclbhnjkgaaMCloseAutoValidates1
import Derived.KernelRfl
set_option linter.unusedVariables false
set_option linter.unusedSimpArgs false
/- What the types of this program are, for walking. Made by program. -/
set_option linter.unusedVariables false
namespace Go.Proofs.Ytfcmpclbhnjkgaa
open Go Go.Proofs Go.Proofs.Sh
theorem agg_1 : aggAt Try.prog 1 = some false := by kernel_rfl
theorem size_1 : sizeAt Try.prog 1 = some 1 := by kernel_rfl
theorem cells_1 : Try.prog.cellsOf 1 = 1 := by kernel_rfl
theorem zero_1 : zeroAt Try.prog 1 = some (.nilFunc) := by kernel_rfl
theorem ld_1 {H : AH} {a : Addr} : aload Try.prog 1 H (.pointer (some a)) = H.cell a := load_cell agg_1
theorem agg_2 : aggAt Try.prog 2 = some false := by kernel_rfl
theorem size_2 : sizeAt Try.prog 2 = some 1 := by kernel_rfl
theorem cells_2 : Try.prog.cellsOf 2 = 1 := by kernel_rfl
theorem zero_2 : zeroAt Try.prog 2 = some (.int .i64 0) := by kernel_rfl
theorem ld_2 {H : AH} {a : Addr} : aload Try.prog 2 H (.pointer (some a)) = H.cell a := load_cell agg_2
theorem agg_3 : aggAt Try.prog 3 = some false := by kernel_rfl
theorem size_3 : sizeAt Try.prog 3 = some 1 := by kernel_rfl
theorem cells_3 : Try.prog.cellsOf 3 = 1 := by kernel_rfl
theorem zero_3 : zeroAt Try.prog 3 = some (.int .i64 0) := by kernel_rfl
theorem ld_3 {H : AH} {a : Addr} : aload Try.prog 3 H (.pointer (some a)) = H.cell a := load_cell agg_3
theorem agg_4 : aggAt Try.prog 4 = some false := by kernel_rfl
theorem size_4 : sizeAt Try.prog 4 = some 1 := by kernel_rfl
theorem cells_4 : Try.prog.cellsOf 4 = 1 := by kernel_rfl
theorem zero_4 : zeroAt Try.prog 4 = some (.bool false) := by kernel_rfl
theorem ld_4 {H : AH} {a : Addr} : aload Try.prog 4 H (.pointer (some a)) = H.cell a := load_cell agg_4
theorem agg_5 : aggAt Try.prog 5 = some false := by kernel_rfl
theorem size_5 : sizeAt Try.prog 5 = some 1 := by kernel_rfl
theorem cells_5 : Try.prog.cellsOf 5 = 1 := by kernel_rfl
theorem zero_5 : zeroAt Try.prog 5 = some (.int .u8 0) := by kernel_rfl
theorem ld_5 {H : AH} {a : Addr} : aload Try.prog 5 H (.pointer (some a)) = H.cell a := load_cell agg_5
theorem agg_9 : aggAt Try.prog 9 = some false := by kernel_rfl
theorem size_9 : sizeAt Try.prog 9 = some 1 := by kernel_rfl
theorem cells_9 : Try.prog.cellsOf 9 = 1 := by kernel_rfl
theorem zero_9 : zeroAt Try.prog 9 = some (.string ⟨#[]⟩) := by kernel_rfl
theorem ld_9 {H : AH} {a : Addr} : aload Try.prog 9 H (.pointer (some a)) = H.cell a := load_cell agg_9
theorem agg_22 : aggAt Try.prog 22 = some false := by kernel_rfl
theorem size_22 : sizeAt Try.prog 22 = some 1 := by kernel_rfl
theorem cells_22 : Try.prog.cellsOf 22 = 1 := by kernel_rfl
theorem zero_22 : zeroAt Try.prog 22 = some (.slice none 0 0) := by kernel_rfl
theorem ld_22 {H : AH} {a : Addr} : aload Try.prog 22 H (.pointer (some a)) = H.cell a := load_cell agg_22
theorem agg_23 : aggAt Try.prog 23 = some false := by kernel_rfl
theorem size_23 : sizeAt Try.prog 23 = some 1 := by kernel_rfl
theorem cells_23 : Try.prog.cellsOf 23 = 1 := by kernel_rfl
theorem zero_23 : zeroAt Try.prog 23 = some (.slice none 0 0) := by kernel_rfl
theorem ld_23 {H : AH} {a : Addr} : aload Try.prog 23 H (.pointer (some a)) = H.cell a := load_cell agg_23
theorem agg_24 : aggAt Try.prog 24 = some false := by kernel_rfl
theorem size_24 : sizeAt Try.prog 24 = some 1 := by kernel_rfl
theorem cells_24 : Try.prog.cellsOf 24 = 1 := by kernel_rfl
theorem zero_24 : zeroAt Try.prog 24 = some (.slice none 0 0) := by kernel_rfl
theorem ld_24 {H : AH} {a : Addr} : aload Try.prog 24 H (.pointer (some a)) = H.cell a := load_cell agg_24
theorem agg_26 : aggAt Try.prog 26 = some true := by kernel_rfl
theorem size_26 : sizeAt Try.prog 26 = some 4 := by kernel_rfl
theorem cells_26 : Try.prog.cellsOf 26 = 4 := by kernel_rfl
theorem zero_26 : zeroAt Try.prog 26 = some (.agg #[.slice none 0 0, .int .i64 0, .slice none 0 0, .slice none 0 0]) := by kernel_rfl
theorem ld_26 {H : AH} {a : Addr} : aload Try.prog 26 H (.pointer (some a)) = (H.cells a 4).map fun l => .agg l.toArray := load_agg agg_26 size_26
theorem agg_29 : aggAt Try.prog 29 = some false := by kernel_rfl
theorem size_29 : sizeAt Try.prog 29 = some 1 := by kernel_rfl
theorem cells_29 : Try.prog.cellsOf 29 = 1 := by kernel_rfl
theorem zero_29 : zeroAt Try.prog 29 = some (.int .i64 0) := by kernel_rfl
theorem ld_29 {H : AH} {a : Addr} : aload Try.prog 29 H (.pointer (some a)) = H.cell a := load_cell agg_29
theorem agg_34 : aggAt Try.prog 34 = some false := by kernel_rfl
theorem size_34 : sizeAt Try.prog 34 = some 1 := by kernel_rfl
theorem cells_34 : Try.prog.cellsOf 34 = 1 := by kernel_rfl
theorem zero_34 : zeroAt Try.prog 34 = some (.slice none 0 0) := by kernel_rfl
theorem ld_34 {H : AH} {a : Addr} : aload Try.prog 34 H (.pointer (some a)) = H.cell a := load_cell agg_34
theorem agg_43 : aggAt Try.prog 43 = some true := by kernel_rfl
theorem size_43 : sizeAt Try.prog 43 = some 5 := by kernel_rfl
theorem cells_43 : Try.prog.cellsOf 43 = 5 := by kernel_rfl
theorem zero_43 : zeroAt Try.prog 43 = some (.agg #[.int .i64 0, .string ⟨#[]⟩, .string ⟨#[]⟩, .int .i64 0, .int .i64 0]) := by kernel_rfl
theorem ld_43 {H : AH} {a : Addr} : aload Try.prog 43 H (.pointer (some a)) = (H.cells a 5).map fun l => .agg l.toArray := load_agg agg_43 size_43
theorem agg_45 : aggAt Try.prog 45 = some true := by kernel_rfl
theorem size_45 : sizeAt Try.prog 45 = some 2 := by kernel_rfl
theorem cells_45 : Try.prog.cellsOf 45 = 2 := by kernel_rfl
theorem zero_45 : zeroAt Try.prog 45 = some (.agg #[.int .i64 0, .int .i64 0]) := by kernel_rfl
theorem ld_45 {H : AH} {a : Addr} : aload Try.prog 45 H (.pointer (some a)) = (H.cells a 2).map fun l => .agg l.toArray := load_agg agg_45 size_45
theorem agg_47 : aggAt Try.prog 47 = some false := by kernel_rfl
theorem size_47 : sizeAt Try.prog 47 = some 1 := by kernel_rfl
theorem cells_47 : Try.prog.cellsOf 47 = 1 := by kernel_rfl
theorem zero_47 : zeroAt Try.prog 47 = some (.nilFunc) := by kernel_rfl
theorem ld_47 {H : AH} {a : Addr} : aload Try.prog 47 H (.pointer (some a)) = H.cell a := load_cell agg_47
theorem agg_53 : aggAt Try.prog 53 = some false := by kernel_rfl
theorem size_53 : sizeAt Try.prog 53 = some 1 := by kernel_rfl
theorem cells_53 : Try.prog.cellsOf 53 = 1 := by kernel_rfl
theorem zero_53 : zeroAt Try.prog 53 = some (.pointer none) := by kernel_rfl
theorem ld_53 {H : AH} {a : Addr} : aload Try.prog 53 H (.pointer (some a)) = H.cell a := load_cell agg_53
theorem agg_57 : aggAt Try.prog 57 = some false := by kernel_rfl
theorem size_57 : sizeAt Try.prog 57 = some 1 := by kernel_rfl
theorem cells_57 : Try.prog.cellsOf 57 = 1 := by kernel_rfl
theorem zero_57 : zeroAt Try.prog 57 = some (.slice none 0 0) := by kernel_rfl
theorem ld_57 {H : AH} {a : Addr} : aload Try.prog 57 H (.pointer (some a)) = H.cell a := load_cell agg_57
theorem agg_61 : aggAt Try.prog 61 = some false := by kernel_rfl
theorem size_61 : sizeAt Try.prog 61 = some 1 := by kernel_rfl
theorem cells_61 : Try.prog.cellsOf 61 = 1 := by kernel_rfl
theorem zero_61 : zeroAt Try.prog 61 = some (.slice none 0 0) := by kernel_rfl
theorem ld_61 {H : AH} {a : Addr} : aload Try.prog 61 H (.pointer (some a)) = H.cell a := load_cell agg_61
theorem agg_66 : aggAt Try.prog 66 = some false := by kernel_rfl
theorem size_66 : sizeAt Try.prog 66 = some 1 := by kernel_rfl
theorem cells_66 : Try.prog.cellsOf 66 = 1 := by kernel_rfl
theorem zero_66 : zeroAt Try.prog 66 = some (.nilFunc) := by kernel_rfl
theorem ld_66 {H : AH} {a : Addr} : aload Try.prog 66 H (.pointer (some a)) = H.cell a := load_cell agg_66
theorem agg_70 : aggAt Try.prog 70 = some false := by kernel_rfl
theorem size_70 : sizeAt Try.prog 70 = some 1 := by kernel_rfl
theorem cells_70 : Try.prog.cellsOf 70 = 1 := by kernel_rfl
theorem zero_70 : zeroAt Try.prog 70 = some (.slice none 0 0) := by kernel_rfl
theorem ld_70 {H : AH} {a : Addr} : aload Try.prog 70 H (.pointer (some a)) = H.cell a := load_cell agg_70
theorem agg_71 : aggAt Try.prog 71 = some false := by kernel_rfl
theorem size_71 : sizeAt Try.prog 71 = some 1 := by kernel_rfl
theorem cells_71 : Try.prog.cellsOf 71 = 1 := by kernel_rfl
theorem zero_71 : zeroAt Try.prog 71 = some (.slice none 0 0) := by kernel_rfl
theorem ld_71 {H : AH} {a : Addr} : aload Try.prog 71 H (.pointer (some a)) = H.cell a := load_cell agg_71
theorem agg_73 : aggAt Try.prog 73 = some true := by kernel_rfl
theorem size_73 : sizeAt Try.prog 73 = some 4 := by kernel_rfl
theorem cells_73 : Try.prog.cellsOf 73 = 4 := by kernel_rfl
theorem zero_73 : zeroAt Try.prog 73 = some (.agg #[.slice none 0 0, .slice none 0 0, .slice none 0 0, .slice none 0 0]) := by kernel_rfl
theorem ld_73 {H : AH} {a : Addr} : aload Try.prog 73 H (.pointer (some a)) = (H.cells a 4).map fun l => .agg l.toArray := load_agg agg_73 size_73
theorem agg_76 : aggAt Try.prog 76 = some true := by kernel_rfl
theorem size_76 : sizeAt Try.prog 76 = some 4 := by kernel_rfl
theorem cells_76 : Try.prog.cellsOf 76 = 4 := by kernel_rfl
theorem zero_76 : zeroAt Try.prog 76 = some (.agg #[.int .i64 0, .int .i64 0, .int .i64 0, .int .i64 0]) := by kernel_rfl
theorem ld_76 {H : AH} {a : Addr} : aload Try.prog 76 H (.pointer (some a)) = (H.cells a 4).map fun l => .agg l.toArray := load_agg agg_76 size_76
theorem agg_78 : aggAt Try.prog 78 = some false := by kernel_rfl
theorem size_78 : sizeAt Try.prog 78 = some 1 := by kernel_rfl
theorem cells_78 : Try.prog.cellsOf 78 = 1 := by kernel_rfl
theorem zero_78 : zeroAt Try.prog 78 = some (.slice none 0 0) := by kernel_rfl
theorem ld_78 {H : AH} {a : Addr} : aload Try.prog 78 H (.pointer (some a)) = H.cell a := load_cell agg_78
theorem agg_81 : aggAt Try.prog 81 = some false := by kernel_rfl
theorem size_81 : sizeAt Try.prog 81 = some 1 := by kernel_rfl
theorem cells_81 : Try.prog.cellsOf 81 = 1 := by kernel_rfl
theorem zero_81 : zeroAt Try.prog 81 = some (.slice none 0 0) := by kernel_rfl
theorem ld_81 {H : AH} {a : Addr} : aload Try.prog 81 H (.pointer (some a)) = H.cell a := load_cell agg_81
theorem agg_83 : aggAt Try.prog 83 = some false := by kernel_rfl
theorem size_83 : sizeAt Try.prog 83 = some 1 := by kernel_rfl
theorem cells_83 : Try.prog.cellsOf 83 = 1 := by kernel_rfl
theorem zero_83 : zeroAt Try.prog 83 = some (.nilFunc) := by kernel_rfl
theorem ld_83 {H : AH} {a : Addr} : aload Try.prog 83 H (.pointer (some a)) = H.cell a := load_cell agg_83
theorem agg_91 : aggAt Try.prog 91 = some false := by kernel_rfl
theorem size_91 : sizeAt Try.prog 91 = some 1 := by kernel_rfl
theorem cells_91 : Try.prog.cellsOf 91 = 1 := by kernel_rfl
theorem zero_91 : zeroAt Try.prog 91 = some (.nilFunc) := by kernel_rfl
theorem ld_91 {H : AH} {a : Addr} : aload Try.prog 91 H (.pointer (some a)) = H.cell a := load_cell agg_91
theorem agg_93 : aggAt Try.prog 93 = some false := by kernel_rfl
theorem size_93 : sizeAt Try.prog 93 = some 1 := by kernel_rfl
theorem cells_93 : Try.prog.cellsOf 93 = 1 := by kernel_rfl
theorem zero_93 : zeroAt Try.prog 93 = some (.int .u64 0) := by kernel_rfl
theorem ld_93 {H : AH} {a : Addr} : aload Try.prog 93 H (.pointer (some a)) = H.cell a := load_cell agg_93
theorem agg_97 : aggAt Try.prog 97 = some false := by kernel_rfl
theorem size_97 : sizeAt Try.prog 97 = some 1 := by kernel_rfl
theorem cells_97 : Try.prog.cellsOf 97 = 1 := by kernel_rfl
theorem zero_97 : zeroAt Try.prog 97 = some (.slice none 0 0) := by kernel_rfl
theorem ld_97 {H : AH} {a : Addr} : aload Try.prog 97 H (.pointer (some a)) = H.cell a := load_cell agg_97
theorem agg_99 : aggAt Try.prog 99 = some false := by kernel_rfl
theorem size_99 : sizeAt Try.prog 99 = some 1 := by kernel_rfl
theorem cells_99 : Try.prog.cellsOf 99 = 1 := by kernel_rfl
theorem zero_99 : zeroAt Try.prog 99 = some (.nilFunc) := by kernel_rfl
theorem ld_99 {H : AH} {a : Addr} : aload Try.prog 99 H (.pointer (some a)) = H.cell a := load_cell agg_99
theorem agg_101 : aggAt Try.prog 101 = some false := by kernel_rfl
theorem size_101 : sizeAt Try.prog 101 = some 1 := by kernel_rfl
theorem cells_101 : Try.prog.cellsOf 101 = 1 := by kernel_rfl
theorem zero_101 : zeroAt Try.prog 101 = some (.slice none 0 0) := by kernel_rfl
theorem ld_101 {H : AH} {a : Addr} : aload Try.prog 101 H (.pointer (some a)) = H.cell a := load_cell agg_101
theorem agg_103 : aggAt Try.prog 103 = some false := by kernel_rfl
theorem size_103 : sizeAt Try.prog 103 = some 1 := by kernel_rfl
theorem cells_103 : Try.prog.cellsOf 103 = 1 := by kernel_rfl
theorem zero_103 : zeroAt Try.prog 103 = some (.nilFunc) := by kernel_rfl
theorem ld_103 {H : AH} {a : Addr} : aload Try.prog 103 H (.pointer (some a)) = H.cell a := load_cell agg_103
theorem agg_109 : aggAt Try.prog 109 = some false := by kernel_rfl
theorem size_109 : sizeAt Try.prog 109 = some 1 := by kernel_rfl
theorem cells_109 : Try.prog.cellsOf 109 = 1 := by kernel_rfl
theorem zero_109 : zeroAt Try.prog 109 = some (.map none) := by kernel_rfl
theorem ld_109 {H : AH} {a : Addr} : aload Try.prog 109 H (.pointer (some a)) = H.cell a := load_cell agg_109
theorem agg_112 : aggAt Try.prog 112 = some true := by kernel_rfl
theorem size_112 : sizeAt Try.prog 112 = some 2 := by kernel_rfl
theorem cells_112 : Try.prog.cellsOf 112 = 2 := by kernel_rfl
theorem zero_112 : zeroAt Try.prog 112 = some (.agg #[.int .i64 0, .int .i64 0]) := by kernel_rfl
theorem ld_112 {H : AH} {a : Addr} : aload Try.prog 112 H (.pointer (some a)) = (H.cells a 2).map fun l => .agg l.toArray := load_agg agg_112 size_112
theorem agg_113 : aggAt Try.prog 113 = some false := by kernel_rfl
theorem size_113 : sizeAt Try.prog 113 = some 1 := by kernel_rfl
theorem cells_113 : Try.prog.cellsOf 113 = 1 := by kernel_rfl
theorem zero_113 : zeroAt Try.prog 113 = some (.slice none 0 0) := by kernel_rfl
theorem ld_113 {H : AH} {a : Addr} : aload Try.prog 113 H (.pointer (some a)) = H.cell a := load_cell agg_113
theorem agg_114 : aggAt Try.prog 114 = some false := by kernel_rfl
theorem size_114 : sizeAt Try.prog 114 = some 1 := by kernel_rfl
theorem cells_114 : Try.prog.cellsOf 114 = 1 := by kernel_rfl
theorem zero_114 : zeroAt Try.prog 114 = some (.pointer none) := by kernel_rfl
theorem ld_114 {H : AH} {a : Addr} : aload Try.prog 114 H (.pointer (some a)) = H.cell a := load_cell agg_114
theorem agg_118 : aggAt Try.prog 118 = some false := by kernel_rfl
theorem size_118 : sizeAt Try.prog 118 = some 1 := by kernel_rfl
theorem cells_118 : Try.prog.cellsOf 118 = 1 := by kernel_rfl
theorem zero_118 : zeroAt Try.prog 118 = some (.int .i64 0) := by kernel_rfl
theorem ld_118 {H : AH} {a : Addr} : aload Try.prog 118 H (.pointer (some a)) = H.cell a := load_cell agg_118
theorem agg_126 : aggAt Try.prog 126 = some false := by kernel_rfl
theorem size_126 : sizeAt Try.prog 126 = some 1 := by kernel_rfl
theorem cells_126 : Try.prog.cellsOf 126 = 1 := by kernel_rfl
theorem zero_126 : zeroAt Try.prog 126 = some (.int .u32 0) := by kernel_rfl
theorem ld_126 {H : AH} {a : Addr} : aload Try.prog 126 H (.pointer (some a)) = H.cell a := load_cell agg_126
theorem agg_128 : aggAt Try.prog 128 = some false := by kernel_rfl
theorem size_128 : sizeAt Try.prog 128 = some 1 := by kernel_rfl
theorem cells_128 : Try.prog.cellsOf 128 = 1 := by kernel_rfl
theorem zero_128 : zeroAt Try.prog 128 = some (.int .u64 0) := by kernel_rfl
theorem ld_128 {H : AH} {a : Addr} : aload Try.prog 128 H (.pointer (some a)) = H.cell a := load_cell agg_128
theorem agg_129 : aggAt Try.prog 129 = some false := by kernel_rfl
theorem size_129 : sizeAt Try.prog 129 = some 1 := by kernel_rfl
theorem cells_129 : Try.prog.cellsOf 129 = 1 := by kernel_rfl
theorem zero_129 : zeroAt Try.prog 129 = some (.int .u64 0) := by kernel_rfl
theorem ld_129 {H : AH} {a : Addr} : aload Try.prog 129 H (.pointer (some a)) = H.cell a := load_cell agg_129
theorem agg_133 : aggAt Try.prog 133 = some false := by kernel_rfl
theorem size_133 : sizeAt Try.prog 133 = some 1 := by kernel_rfl
theorem cells_133 : Try.prog.cellsOf 133 = 1 := by kernel_rfl
theorem zero_133 : zeroAt Try.prog 133 = some (.pointer none) := by kernel_rfl
theorem ld_133 {H : AH} {a : Addr} : aload Try.prog 133 H (.pointer (some a)) = H.cell a := load_cell agg_133
theorem agg_135 : aggAt Try.prog 135 = some false := by kernel_rfl
theorem size_135 : sizeAt Try.prog 135 = some 1 := by kernel_rfl
theorem cells_135 : Try.prog.cellsOf 135 = 1 := by kernel_rfl
theorem zero_135 : zeroAt Try.prog 135 = some (.pointer none) := by kernel_rfl
theorem ld_135 {H : AH} {a : Addr} : aload Try.prog 135 H (.pointer (some a)) = H.cell a := load_cell agg_135
theorem len_9 {H : AH} {s : ByteArray} : abuiltin Try.prog .len [9] [.string s] H = some (.int .i64 (s.size : Int), H) := len_string Try.underlying9
theorem ia_22 {g o k n c i : Nat} {j : IntKind} (h : i < n) : aindexAddr Try.prog 22 (.slice (some ⟨g, o, some k⟩) n c) (.int j (i : Int)) = some (.pointer (some ⟨g, o + i * 1, some k⟩)) := indexAddr_at Try.underlying22 size_9 h
theorem len_22 {H : AH} {n c : Nat} {a : Option Addr} : abuiltin Try.prog .len [22] [.slice a n c] H = some (.int .i64 (n : Int), H) := len_slice Try.underlying22
theorem info_22 : ((Try.prog.info? 9).map fun i => Nat.beq i.size 1 && Nat.ble i.bytes 65536) = some true := by kernel_rfl
theorem app_22 {H : AH} {t' len cap n : Nat} {base : Option Addr} {x : Value} {new : List Value} (hx : Sh.srcKind Try.prog t' x = true) (hn : Sh.newCells 1 H x = some (n, new)) (hb : len + n ≤ 1073741824) : abuiltin Try.prog .append [22, t'] [.slice base len cap, x] H = aappend 1 base len cap n new H := append_at Try.underlying22 info_22 zero_9 rfl (Nat.le_of_ble_eq_true rfl) hx hn hb
theorem isnil_22 {c : Bool} {a : Option Addr} {n m : Nat} : abin Try.prog 22 c .eql (.slice a n m) (.slice none 0 0) = some (.bool a.isNone) := slice_nil Try.underlying22
theorem notnil_22 {c : Bool} {a : Option Addr} {n m : Nat} : abin Try.prog 22 c .neq (.slice a n m) (.slice none 0 0) = some (.bool a.isSome) := slice_not_nil Try.underlying22
theorem build0_22 {H : AH} : abuildSlice Try.prog 22 0 [] H = some (.slice (some ⟨H.next, 0, some 0⟩) 0 0, (H.new 1 []).2) := build_nil Try.underlying22 size_9 zero_9 rfl (Nat.le_of_ble_eq_true rfl)
theorem build1_22 {H : AH} {x : Value} (hx : (vcells x).length = 1) (hc : (vcells x).all isCell = true) : abuildSlice Try.prog 22 1 [(0, x)] H = some (.slice (some ⟨H.next, 0, some 0⟩) 1 1, (H.new 1 (vcells x)).2) := build_one Try.underlying22 size_9 zero_9 rfl (Nat.le_of_ble_eq_true rfl) (Nat.le_of_ble_eq_true rfl) hx hc
theorem ia_23 {g o k n c i : Nat} {j : IntKind} (h : i < n) : aindexAddr Try.prog 23 (.slice (some ⟨g, o, some k⟩) n c) (.int j (i : Int)) = some (.pointer (some ⟨g, o + i * 5, some k⟩)) := indexAddr_at Try.underlying23 size_43 h
theorem len_23 {H : AH} {n c : Nat} {a : Option Addr} : abuiltin Try.prog .len [23] [.slice a n c] H = some (.int .i64 (n : Int), H) := len_slice Try.underlying23
theorem info_23 : ((Try.prog.info? 43).map fun i => Nat.beq i.size 5 && Nat.ble i.bytes 65536) = some true := by kernel_rfl
theorem app_23 {H : AH} {t' len cap n : Nat} {base : Option Addr} {x : Value} {new : List Value} (hx : Sh.srcKind Try.prog t' x = true) (hn : Sh.newCells 5 H x = some (n, new)) (hb : len + n ≤ 1073741824) : abuiltin Try.prog .append [23, t'] [.slice base len cap, x] H = aappend 5 base len cap n new H := append_at Try.underlying23 info_23 zero_43 rfl (Nat.le_of_ble_eq_true rfl) hx hn hb
theorem isnil_23 {c : Bool} {a : Option Addr} {n m : Nat} : abin Try.prog 23 c .eql (.slice a n m) (.slice none 0 0) = some (.bool a.isNone) := slice_nil Try.underlying23
theorem notnil_23 {c : Bool} {a : Option Addr} {n m : Nat} : abin Try.prog 23 c .neq (.slice a n m) (.slice none 0 0) = some (.bool a.isSome) := slice_not_nil Try.underlying23
theorem build0_23 {H : AH} : abuildSlice Try.prog 23 0 [] H = some (.slice (some ⟨H.next, 0, some 0⟩) 0 0, (H.new 5 []).2) := build_nil Try.underlying23 size_43 zero_43 rfl (Nat.le_of_ble_eq_true rfl)
theorem build1_23 {H : AH} {x : Value} (hx : (vcells x).length = 5) (hc : (vcells x).all isCell = true) : abuildSlice Try.prog 23 1 [(0, x)] H = some (.slice (some ⟨H.next, 0, some 0⟩) 1 1, (H.new 5 (vcells x)).2) := build_one Try.underlying23 size_43 zero_43 rfl (Nat.le_of_ble_eq_true rfl) (Nat.le_of_ble_eq_true rfl) hx hc
theorem ia_24 {g o k n c i : Nat} {j : IntKind} (h : i < n) : aindexAddr Try.prog 24 (.slice (some ⟨g, o, some k⟩) n c) (.int j (i : Int)) = some (.pointer (some ⟨g, o + i * 2, some k⟩)) := indexAddr_at Try.underlying24 size_45 h
theorem len_24 {H : AH} {n c : Nat} {a : Option Addr} : abuiltin Try.prog .len [24] [.slice a n c] H = some (.int .i64 (n : Int), H) := len_slice Try.underlying24
theorem info_24 : ((Try.prog.info? 45).map fun i => Nat.beq i.size 2 && Nat.ble i.bytes 65536) = some true := by kernel_rfl
theorem app_24 {H : AH} {t' len cap n : Nat} {base : Option Addr} {x : Value} {new : List Value} (hx : Sh.srcKind Try.prog t' x = true) (hn : Sh.newCells 2 H x = some (n, new)) (hb : len + n ≤ 1073741824) : abuiltin Try.prog .append [24, t'] [.slice base len cap, x] H = aappend 2 base len cap n new H := append_at Try.underlying24 info_24 zero_45 rfl (Nat.le_of_ble_eq_true rfl) hx hn hb
theorem isnil_24 {c : Bool} {a : Option Addr} {n m : Nat} : abin Try.prog 24 c .eql (.slice a n m) (.slice none 0 0) = some (.bool a.isNone) := slice_nil Try.underlying24
theorem notnil_24 {c : Bool} {a : Option Addr} {n m : Nat} : abin Try.prog 24 c .neq (.slice a n m) (.slice none 0 0) = some (.bool a.isSome) := slice_not_nil Try.underlying24
theorem build0_24 {H : AH} : abuildSlice Try.prog 24 0 [] H = some (.slice (some ⟨H.next, 0, some 0⟩) 0 0, (H.new 2 []).2) := build_nil Try.underlying24 size_45 zero_45 rfl (Nat.le_of_ble_eq_true rfl)
theorem build1_24 {H : AH} {x : Value} (hx : (vcells x).length = 2) (hc : (vcells x).all isCell = true) : abuildSlice Try.prog 24 1 [(0, x)] H = some (.slice (some ⟨H.next, 0, some 0⟩) 1 1, (H.new 2 (vcells x)).2) := build_one Try.underlying24 size_45 zero_45 rfl (Nat.le_of_ble_eq_true rfl) (Nat.le_of_ble_eq_true rfl) hx hc
theorem fa_26_0 {g o k : Nat} : afieldAddr Try.prog 26 0 (.pointer (some ⟨g, o, some k⟩)) = some (.pointer (some ⟨g, o + 0, some k⟩)) := by have h := fieldAddr_at (g := g) (o := o) (k := k) (f := 0) Try.underlying26 (Eq.refl (some _)) size_22 rfl; exact h
theorem fa_26_1 {g o k : Nat} : afieldAddr Try.prog 26 1 (.pointer (some ⟨g, o, some k⟩)) = some (.pointer (some ⟨g, o + 1, some k⟩)) := by have h := fieldAddr_at (g := g) (o := o) (k := k) (f := 1) Try.underlying26 (Eq.refl (some _)) size_3 rfl; exact h
theorem fa_26_2 {g o k : Nat} : afieldAddr Try.prog 26 2 (.pointer (some ⟨g, o, some k⟩)) = some (.pointer (some ⟨g, o + 2, some k⟩)) := by have h := fieldAddr_at (g := g) (o := o) (k := k) (f := 2) Try.underlying26 (Eq.refl (some _)) size_23 rfl; exact h
theorem fa_26_3 {g o k : Nat} : afieldAddr Try.prog 26 3 (.pointer (some ⟨g, o, some k⟩)) = some (.pointer (some ⟨g, o + 3, some k⟩)) := by have h := fieldAddr_at (g := g) (o := o) (k := k) (f := 3) Try.underlying26 (Eq.refl (some _)) size_24 rfl; exact h
theorem ia_34 {g o k n c i : Nat} {j : IntKind} (h : i < n) : aindexAddr Try.prog 34 (.slice (some ⟨g, o, some k⟩) n c) (.int j (i : Int)) = some (.pointer (some ⟨g, o + i * 1, some k⟩)) := indexAddr_at Try.underlying34 size_22 h
theorem len_34 {H : AH} {n c : Nat} {a : Option Addr} : abuiltin Try.prog .len [34] [.slice a n c] H = some (.int .i64 (n : Int), H) := len_slice Try.underlying34
theorem info_34 : ((Try.prog.info? 22).map fun i => Nat.beq i.size 1 && Nat.ble i.bytes 65536) = some true := by kernel_rfl
theorem app_34 {H : AH} {t' len cap n : Nat} {base : Option Addr} {x : Value} {new : List Value} (hx : Sh.srcKind Try.prog t' x = true) (hn : Sh.newCells 1 H x = some (n, new)) (hb : len + n ≤ 1073741824) : abuiltin Try.prog .append [34, t'] [.slice base len cap, x] H = aappend 1 base len cap n new H := append_at Try.underlying34 info_34 zero_22 rfl (Nat.le_of_ble_eq_true rfl) hx hn hb
theorem isnil_34 {c : Bool} {a : Option Addr} {n m : Nat} : abin Try.prog 34 c .eql (.slice a n m) (.slice none 0 0) = some (.bool a.isNone) := slice_nil Try.underlying34
theorem notnil_34 {c : Bool} {a : Option Addr} {n m : Nat} : abin Try.prog 34 c .neq (.slice a n m) (.slice none 0 0) = some (.bool a.isSome) := slice_not_nil Try.underlying34
theorem build0_34 {H : AH} : abuildSlice Try.prog 34 0 [] H = some (.slice (some ⟨H.next, 0, some 0⟩) 0 0, (H.new 1 []).2) := build_nil Try.underlying34 size_22 zero_22 rfl (Nat.le_of_ble_eq_true rfl)
theorem build1_34 {H : AH} {x : Value} (hx : (vcells x).length = 1) (hc : (vcells x).all isCell = true) : abuildSlice Try.prog 34 1 [(0, x)] H = some (.slice (some ⟨H.next, 0, some 0⟩) 1 1, (H.new 1 (vcells x)).2) := build_one Try.underlying34 size_22 zero_22 rfl (Nat.le_of_ble_eq_true rfl) (Nat.le_of_ble_eq_true rfl) hx hc
theorem fa_43_0 {g o k : Nat} : afieldAddr Try.prog 43 0 (.pointer (some ⟨g, o, some k⟩)) = some (.pointer (some ⟨g, o + 0, some k⟩)) := by have h := fieldAddr_at (g := g) (o := o) (k := k) (f := 0) Try.underlying43 (Eq.refl (some _)) size_3 rfl; exact h
theorem fa_43_1 {g o k : Nat} : afieldAddr Try.prog 43 1 (.pointer (some ⟨g, o, some k⟩)) = some (.pointer (some ⟨g, o + 1, some k⟩)) := by have h := fieldAddr_at (g := g) (o := o) (k := k) (f := 1) Try.underlying43 (Eq.refl (some _)) size_9 rfl; exact h
theorem fa_43_2 {g o k : Nat} : afieldAddr Try.prog 43 2 (.pointer (some ⟨g, o, some k⟩)) = some (.pointer (some ⟨g, o + 2, some k⟩)) := by have h := fieldAddr_at (g := g) (o := o) (k := k) (f := 2) Try.underlying43 (Eq.refl (some _)) size_9 rfl; exact h
theorem fa_43_3 {g o k : Nat} : afieldAddr Try.prog 43 3 (.pointer (some ⟨g, o, some k⟩)) = some (.pointer (some ⟨g, o + 3, some k⟩)) := by have h := fieldAddr_at (g := g) (o := o) (k := k) (f := 3) Try.underlying43 (Eq.refl (some _)) size_3 rfl; exact h
theorem fa_43_4 {g o k : Nat} : afieldAddr Try.prog 43 4 (.pointer (some ⟨g, o, some k⟩)) = some (.pointer (some ⟨g, o + 4, some k⟩)) := by have h := fieldAddr_at (g := g) (o := o) (k := k) (f := 4) Try.underlying43 (Eq.refl (some _)) size_3 rfl; exact h
theorem fa_45_0 {g o k : Nat} : afieldAddr Try.prog 45 0 (.pointer (some ⟨g, o, some k⟩)) = some (.pointer (some ⟨g, o + 0, some k⟩)) := by have h := fieldAddr_at (g := g) (o := o) (k := k) (f := 0) Try.underlying45 (Eq.refl (some _)) size_3 rfl; exact h
theorem fa_45_1 {g o k : Nat} : afieldAddr Try.prog 45 1 (.pointer (some ⟨g, o, some k⟩)) = some (.pointer (some ⟨g, o + 1, some k⟩)) := by have h := fieldAddr_at (g := g) (o := o) (k := k) (f := 1) Try.underlying45 (Eq.refl (some _)) size_3 rfl; exact h
theorem ia_57 {g o k n c i : Nat} {j : IntKind} (h : i < n) : aindexAddr Try.prog 57 (.slice (some ⟨g, o, some k⟩) n c) (.int j (i : Int)) = some (.pointer (some ⟨g, o + i * 1, some k⟩)) := indexAddr_at Try.underlying57 size_3 h
theorem len_57 {H : AH} {n c : Nat} {a : Option Addr} : abuiltin Try.prog .len [57] [.slice a n c] H = some (.int .i64 (n : Int), H) := len_slice Try.underlying57
theorem info_57 : ((Try.prog.info? 3).map fun i => Nat.beq i.size 1 && Nat.ble i.bytes 65536) = some true := by kernel_rfl
theorem app_57 {H : AH} {t' len cap n : Nat} {base : Option Addr} {x : Value} {new : List Value} (hx : Sh.srcKind Try.prog t' x = true) (hn : Sh.newCells 1 H x = some (n, new)) (hb : len + n ≤ 1073741824) : abuiltin Try.prog .append [57, t'] [.slice base len cap, x] H = aappend 1 base len cap n new H := append_at Try.underlying57 info_57 zero_3 rfl (Nat.le_of_ble_eq_true rfl) hx hn hb
theorem isnil_57 {c : Bool} {a : Option Addr} {n m : Nat} : abin Try.prog 57 c .eql (.slice a n m) (.slice none 0 0) = some (.bool a.isNone) := slice_nil Try.underlying57
theorem notnil_57 {c : Bool} {a : Option Addr} {n m : Nat} : abin Try.prog 57 c .neq (.slice a n m) (.slice none 0 0) = some (.bool a.isSome) := slice_not_nil Try.underlying57
theorem build0_57 {H : AH} : abuildSlice Try.prog 57 0 [] H = some (.slice (some ⟨H.next, 0, some 0⟩) 0 0, (H.new 1 []).2) := build_nil Try.underlying57 size_3 zero_3 rfl (Nat.le_of_ble_eq_true rfl)
theorem build1_57 {H : AH} {x : Value} (hx : (vcells x).length = 1) (hc : (vcells x).all isCell = true) : abuildSlice Try.prog 57 1 [(0, x)] H = some (.slice (some ⟨H.next, 0, some 0⟩) 1 1, (H.new 1 (vcells x)).2) := build_one Try.underlying57 size_3 zero_3 rfl (Nat.le_of_ble_eq_true rfl) (Nat.le_of_ble_eq_true rfl) hx hc
theorem ia_61 {g o k n c i : Nat} {j : IntKind} (h : i < n) : aindexAddr Try.prog 61 (.slice (some ⟨g, o, some k⟩) n c) (.int j (i : Int)) = some (.pointer (some ⟨g, o + i * 1, some k⟩)) := indexAddr_at Try.underlying61 size_3 h
theorem len_61 {H : AH} {n c : Nat} {a : Option Addr} : abuiltin Try.prog .len [61] [.slice a n c] H = some (.int .i64 (n : Int), H) := len_slice Try.underlying61
theorem info_61 : ((Try.prog.info? 3).map fun i => Nat.beq i.size 1 && Nat.ble i.bytes 65536) = some true := by kernel_rfl
theorem app_61 {H : AH} {t' len cap n : Nat} {base : Option Addr} {x : Value} {new : List Value} (hx : Sh.srcKind Try.prog t' x = true) (hn : Sh.newCells 1 H x = some (n, new)) (hb : len + n ≤ 1073741824) : abuiltin Try.prog .append [61, t'] [.slice base len cap, x] H = aappend 1 base len cap n new H := append_at Try.underlying61 info_61 zero_3 rfl (Nat.le_of_ble_eq_true rfl) hx hn hb
theorem isnil_61 {c : Bool} {a : Option Addr} {n m : Nat} : abin Try.prog 61 c .eql (.slice a n m) (.slice none 0 0) = some (.bool a.isNone) := slice_nil Try.underlying61
theorem notnil_61 {c : Bool} {a : Option Addr} {n m : Nat} : abin Try.prog 61 c .neq (.slice a n m) (.slice none 0 0) = some (.bool a.isSome) := slice_not_nil Try.underlying61
theorem build0_61 {H : AH} : abuildSlice Try.prog 61 0 [] H = some (.slice (some ⟨H.next, 0, some 0⟩) 0 0, (H.new 1 []).2) := build_nil Try.underlying61 size_3 zero_3 rfl (Nat.le_of_ble_eq_true rfl)
theorem build1_61 {H : AH} {x : Value} (hx : (vcells x).length = 1) (hc : (vcells x).all isCell = true) : abuildSlice Try.prog 61 1 [(0, x)] H = some (.slice (some ⟨H.next, 0, some 0⟩) 1 1, (H.new 1 (vcells x)).2) := build_one Try.underlying61 size_3 zero_3 rfl (Nat.le_of_ble_eq_true rfl) (Nat.le_of_ble_eq_true rfl) hx hc
theorem ia_70 {g o k n c i : Nat} {j : IntKind} (h : i < n) : aindexAddr Try.prog 70 (.slice (some ⟨g, o, some k⟩) n c) (.int j (i : Int)) = some (.pointer (some ⟨g, o + i * 4, some k⟩)) := indexAddr_at Try.underlying70 size_76 h
theorem len_70 {H : AH} {n c : Nat} {a : Option Addr} : abuiltin Try.prog .len [70] [.slice a n c] H = some (.int .i64 (n : Int), H) := len_slice Try.underlying70
theorem info_70 : ((Try.prog.info? 76).map fun i => Nat.beq i.size 4 && Nat.ble i.bytes 65536) = some true := by kernel_rfl
theorem app_70 {H : AH} {t' len cap n : Nat} {base : Option Addr} {x : Value} {new : List Value} (hx : Sh.srcKind Try.prog t' x = true) (hn : Sh.newCells 4 H x = some (n, new)) (hb : len + n ≤ 1073741824) : abuiltin Try.prog .append [70, t'] [.slice base len cap, x] H = aappend 4 base len cap n new H := append_at Try.underlying70 info_70 zero_76 rfl (Nat.le_of_ble_eq_true rfl) hx hn hb
theorem isnil_70 {c : Bool} {a : Option Addr} {n m : Nat} : abin Try.prog 70 c .eql (.slice a n m) (.slice none 0 0) = some (.bool a.isNone) := slice_nil Try.underlying70
theorem notnil_70 {c : Bool} {a : Option Addr} {n m : Nat} : abin Try.prog 70 c .neq (.slice a n m) (.slice none 0 0) = some (.bool a.isSome) := slice_not_nil Try.underlying70
theorem build0_70 {H : AH} : abuildSlice Try.prog 70 0 [] H = some (.slice (some ⟨H.next, 0, some 0⟩) 0 0, (H.new 4 []).2) := build_nil Try.underlying70 size_76 zero_76 rfl (Nat.le_of_ble_eq_true rfl)
theorem build1_70 {H : AH} {x : Value} (hx : (vcells x).length = 4) (hc : (vcells x).all isCell = true) : abuildSlice Try.prog 70 1 [(0, x)] H = some (.slice (some ⟨H.next, 0, some 0⟩) 1 1, (H.new 4 (vcells x)).2) := build_one Try.underlying70 size_76 zero_76 rfl (Nat.le_of_ble_eq_true rfl) (Nat.le_of_ble_eq_true rfl) hx hc
theorem ia_71 {g o k n c i : Nat} {j : IntKind} (h : i < n) : aindexAddr Try.prog 71 (.slice (some ⟨g, o, some k⟩) n c) (.int j (i : Int)) = some (.pointer (some ⟨g, o + i * 1, some k⟩)) := indexAddr_at Try.underlying71 size_70 h
theorem len_71 {H : AH} {n c : Nat} {a : Option Addr} : abuiltin Try.prog .len [71] [.slice a n c] H = some (.int .i64 (n : Int), H) := len_slice Try.underlying71
theorem info_71 : ((Try.prog.info? 70).map fun i => Nat.beq i.size 1 && Nat.ble i.bytes 65536) = some true := by kernel_rfl
theorem app_71 {H : AH} {t' len cap n : Nat} {base : Option Addr} {x : Value} {new : List Value} (hx : Sh.srcKind Try.prog t' x = true) (hn : Sh.newCells 1 H x = some (n, new)) (hb : len + n ≤ 1073741824) : abuiltin Try.prog .append [71, t'] [.slice base len cap, x] H = aappend 1 base len cap n new H := append_at Try.underlying71 info_71 zero_70 rfl (Nat.le_of_ble_eq_true rfl) hx hn hb
theorem isnil_71 {c : Bool} {a : Option Addr} {n m : Nat} : abin Try.prog 71 c .eql (.slice a n m) (.slice none 0 0) = some (.bool a.isNone) := slice_nil Try.underlying71
theorem notnil_71 {c : Bool} {a : Option Addr} {n m : Nat} : abin Try.prog 71 c .neq (.slice a n m) (.slice none 0 0) = some (.bool a.isSome) := slice_not_nil Try.underlying71
theorem build0_71 {H : AH} : abuildSlice Try.prog 71 0 [] H = some (.slice (some ⟨H.next, 0, some 0⟩) 0 0, (H.new 1 []).2) := build_nil Try.underlying71 size_70 zero_70 rfl (Nat.le_of_ble_eq_true rfl)
theorem build1_71 {H : AH} {x : Value} (hx : (vcells x).length = 1) (hc : (vcells x).all isCell = true) : abuildSlice Try.prog 71 1 [(0, x)] H = some (.slice (some ⟨H.next, 0, some 0⟩) 1 1, (H.new 1 (vcells x)).2) := build_one Try.underlying71 size_70 zero_70 rfl (Nat.le_of_ble_eq_true rfl) (Nat.le_of_ble_eq_true rfl) hx hc
theorem fa_73_0 {g o k : Nat} : afieldAddr Try.prog 73 0 (.pointer (some ⟨g, o, some k⟩)) = some (.pointer (some ⟨g, o + 0, some k⟩)) := by have h := fieldAddr_at (g := g) (o := o) (k := k) (f := 0) Try.underlying73 (Eq.refl (some _)) size_22 rfl; exact h
theorem fa_73_1 {g o k : Nat} : afieldAddr Try.prog 73 1 (.pointer (some ⟨g, o, some k⟩)) = some (.pointer (some ⟨g, o + 1, some k⟩)) := by have h := fieldAddr_at (g := g) (o := o) (k := k) (f := 1) Try.underlying73 (Eq.refl (some _)) size_71 rfl; exact h
theorem fa_73_2 {g o k : Nat} : afieldAddr Try.prog 73 2 (.pointer (some ⟨g, o, some k⟩)) = some (.pointer (some ⟨g, o + 2, some k⟩)) := by have h := fieldAddr_at (g := g) (o := o) (k := k) (f := 2) Try.underlying73 (Eq.refl (some _)) size_57 rfl; exact h
theorem fa_73_3 {g o k : Nat} : afieldAddr Try.prog 73 3 (.pointer (some ⟨g, o, some k⟩)) = some (.pointer (some ⟨g, o + 3, some k⟩)) := by have h := fieldAddr_at (g := g) (o := o) (k := k) (f := 3) Try.underlying73 (Eq.refl (some _)) size_57 rfl; exact h
theorem fa_76_0 {g o k : Nat} : afieldAddr Try.prog 76 0 (.pointer (some ⟨g, o, some k⟩)) = some (.pointer (some ⟨g, o + 0, some k⟩)) := by have h := fieldAddr_at (g := g) (o := o) (k := k) (f := 0) Try.underlying76 (Eq.refl (some _)) size_3 rfl; exact h
theorem fa_76_1 {g o k : Nat} : afieldAddr Try.prog 76 1 (.pointer (some ⟨g, o, some k⟩)) = some (.pointer (some ⟨g, o + 1, some k⟩)) := by have h := fieldAddr_at (g := g) (o := o) (k := k) (f := 1) Try.underlying76 (Eq.refl (some _)) size_3 rfl; exact h
theorem fa_76_2 {g o k : Nat} : afieldAddr Try.prog 76 2 (.pointer (some ⟨g, o, some k⟩)) = some (.pointer (some ⟨g, o + 2, some k⟩)) := by have h := fieldAddr_at (g := g) (o := o) (k := k) (f := 2) Try.underlying76 (Eq.refl (some _)) size_3 rfl; exact h
theorem fa_76_3 {g o k : Nat} : afieldAddr Try.prog 76 3 (.pointer (some ⟨g, o, some k⟩)) = some (.pointer (some ⟨g, o + 3, some k⟩)) := by have h := fieldAddr_at (g := g) (o := o) (k := k) (f := 3) Try.underlying76 (Eq.refl (some _)) size_3 rfl; exact h
theorem ia_78 {g o k n c i : Nat} {j : IntKind} (h : i < n) : aindexAddr Try.prog 78 (.slice (some ⟨g, o, some k⟩) n c) (.int j (i : Int)) = some (.pointer (some ⟨g, o + i * 1, some k⟩)) := indexAddr_at Try.underlying78 size_4 h
theorem len_78 {H : AH} {n c : Nat} {a : Option Addr} : abuiltin Try.prog .len [78] [.slice a n c] H = some (.int .i64 (n : Int), H) := len_slice Try.underlying78
theorem info_78 : ((Try.prog.info? 4).map fun i => Nat.beq i.size 1 && Nat.ble i.bytes 65536) = some true := by kernel_rfl
theorem app_78 {H : AH} {t' len cap n : Nat} {base : Option Addr} {x : Value} {new : List Value} (hx : Sh.srcKind Try.prog t' x = true) (hn : Sh.newCells 1 H x = some (n, new)) (hb : len + n ≤ 1073741824) : abuiltin Try.prog .append [78, t'] [.slice base len cap, x] H = aappend 1 base len cap n new H := append_at Try.underlying78 info_78 zero_4 rfl (Nat.le_of_ble_eq_true rfl) hx hn hb
theorem isnil_78 {c : Bool} {a : Option Addr} {n m : Nat} : abin Try.prog 78 c .eql (.slice a n m) (.slice none 0 0) = some (.bool a.isNone) := slice_nil Try.underlying78
theorem notnil_78 {c : Bool} {a : Option Addr} {n m : Nat} : abin Try.prog 78 c .neq (.slice a n m) (.slice none 0 0) = some (.bool a.isSome) := slice_not_nil Try.underlying78
theorem build0_78 {H : AH} : abuildSlice Try.prog 78 0 [] H = some (.slice (some ⟨H.next, 0, some 0⟩) 0 0, (H.new 1 []).2) := build_nil Try.underlying78 size_4 zero_4 rfl (Nat.le_of_ble_eq_true rfl)
theorem build1_78 {H : AH} {x : Value} (hx : (vcells x).length = 1) (hc : (vcells x).all isCell = true) : abuildSlice Try.prog 78 1 [(0, x)] H = some (.slice (some ⟨H.next, 0, some 0⟩) 1 1, (H.new 1 (vcells x)).2) := build_one Try.underlying78 size_4 zero_4 rfl (Nat.le_of_ble_eq_true rfl) (Nat.le_of_ble_eq_true rfl) hx hc
theorem ia_81 {g o k n c i : Nat} {j : IntKind} (h : i < n) : aindexAddr Try.prog 81 (.slice (some ⟨g, o, some k⟩) n c) (.int j (i : Int)) = some (.pointer (some ⟨g, o + i * 1, some k⟩)) := indexAddr_at Try.underlying81 size_57 h
theorem len_81 {H : AH} {n c : Nat} {a : Option Addr} : abuiltin Try.prog .len [81] [.slice a n c] H = some (.int .i64 (n : Int), H) := len_slice Try.underlying81
theorem info_81 : ((Try.prog.info? 57).map fun i => Nat.beq i.size 1 && Nat.ble i.bytes 65536) = some true := by kernel_rfl
theorem app_81 {H : AH} {t' len cap n : Nat} {base : Option Addr} {x : Value} {new : List Value} (hx : Sh.srcKind Try.prog t' x = true) (hn : Sh.newCells 1 H x = some (n, new)) (hb : len + n ≤ 1073741824) : abuiltin Try.prog .append [81, t'] [.slice base len cap, x] H = aappend 1 base len cap n new H := append_at Try.underlying81 info_81 zero_57 rfl (Nat.le_of_ble_eq_true rfl) hx hn hb
theorem isnil_81 {c : Bool} {a : Option Addr} {n m : Nat} : abin Try.prog 81 c .eql (.slice a n m) (.slice none 0 0) = some (.bool a.isNone) := slice_nil Try.underlying81
theorem notnil_81 {c : Bool} {a : Option Addr} {n m : Nat} : abin Try.prog 81 c .neq (.slice a n m) (.slice none 0 0) = some (.bool a.isSome) := slice_not_nil Try.underlying81
theorem build0_81 {H : AH} : abuildSlice Try.prog 81 0 [] H = some (.slice (some ⟨H.next, 0, some 0⟩) 0 0, (H.new 1 []).2) := build_nil Try.underlying81 size_57 zero_57 rfl (Nat.le_of_ble_eq_true rfl)
theorem build1_81 {H : AH} {x : Value} (hx : (vcells x).length = 1) (hc : (vcells x).all isCell = true) : abuildSlice Try.prog 81 1 [(0, x)] H = some (.slice (some ⟨H.next, 0, some 0⟩) 1 1, (H.new 1 (vcells x)).2) := build_one Try.underlying81 size_57 zero_57 rfl (Nat.le_of_ble_eq_true rfl) (Nat.le_of_ble_eq_true rfl) hx hc
theorem ia_97 {g o k n c i : Nat} {j : IntKind} (h : i < n) : aindexAddr Try.prog 97 (.slice (some ⟨g, o, some k⟩) n c) (.int j (i : Int)) = some (.pointer (some ⟨g, o + i * 1, some k⟩)) := indexAddr_at Try.underlying97 size_78 h
theorem len_97 {H : AH} {n c : Nat} {a : Option Addr} : abuiltin Try.prog .len [97] [.slice a n c] H = some (.int .i64 (n : Int), H) := len_slice Try.underlying97
theorem info_97 : ((Try.prog.info? 78).map fun i => Nat.beq i.size 1 && Nat.ble i.bytes 65536) = some true := by kernel_rfl
theorem app_97 {H : AH} {t' len cap n : Nat} {base : Option Addr} {x : Value} {new : List Value} (hx : Sh.srcKind Try.prog t' x = true) (hn : Sh.newCells 1 H x = some (n, new)) (hb : len + n ≤ 1073741824) : abuiltin Try.prog .append [97, t'] [.slice base len cap, x] H = aappend 1 base len cap n new H := append_at Try.underlying97 info_97 zero_78 rfl (Nat.le_of_ble_eq_true rfl) hx hn hb
theorem isnil_97 {c : Bool} {a : Option Addr} {n m : Nat} : abin Try.prog 97 c .eql (.slice a n m) (.slice none 0 0) = some (.bool a.isNone) := slice_nil Try.underlying97
theorem notnil_97 {c : Bool} {a : Option Addr} {n m : Nat} : abin Try.prog 97 c .neq (.slice a n m) (.slice none 0 0) = some (.bool a.isSome) := slice_not_nil Try.underlying97
theorem build0_97 {H : AH} : abuildSlice Try.prog 97 0 [] H = some (.slice (some ⟨H.next, 0, some 0⟩) 0 0, (H.new 1 []).2) := build_nil Try.underlying97 size_78 zero_78 rfl (Nat.le_of_ble_eq_true rfl)
theorem build1_97 {H : AH} {x : Value} (hx : (vcells x).length = 1) (hc : (vcells x).all isCell = true) : abuildSlice Try.prog 97 1 [(0, x)] H = some (.slice (some ⟨H.next, 0, some 0⟩) 1 1, (H.new 1 (vcells x)).2) := build_one Try.underlying97 size_78 zero_78 rfl (Nat.le_of_ble_eq_true rfl) (Nat.le_of_ble_eq_true rfl) hx hc
theorem ia_101 {g o k n c i : Nat} {j : IntKind} (h : i < n) : aindexAddr Try.prog 101 (.slice (some ⟨g, o, some k⟩) n c) (.int j (i : Int)) = some (.pointer (some ⟨g, o + i * 1, some k⟩)) := indexAddr_at Try.underlying101 size_61 h
theorem len_101 {H : AH} {n c : Nat} {a : Option Addr} : abuiltin Try.prog .len [101] [.slice a n c] H = some (.int .i64 (n : Int), H) := len_slice Try.underlying101
theorem info_101 : ((Try.prog.info? 61).map fun i => Nat.beq i.size 1 && Nat.ble i.bytes 65536) = some true := by kernel_rfl
theorem app_101 {H : AH} {t' len cap n : Nat} {base : Option Addr} {x : Value} {new : List Value} (hx : Sh.srcKind Try.prog t' x = true) (hn : Sh.newCells 1 H x = some (n, new)) (hb : len + n ≤ 1073741824) : abuiltin Try.prog .append [101, t'] [.slice base len cap, x] H = aappend 1 base len cap n new H := append_at Try.underlying101 info_101 zero_61 rfl (Nat.le_of_ble_eq_true rfl) hx hn hb
theorem isnil_101 {c : Bool} {a : Option Addr} {n m : Nat} : abin Try.prog 101 c .eql (.slice a n m) (.slice none 0 0) = some (.bool a.isNone) := slice_nil Try.underlying101
theorem notnil_101 {c : Bool} {a : Option Addr} {n m : Nat} : abin Try.prog 101 c .neq (.slice a n m) (.slice none 0 0) = some (.bool a.isSome) := slice_not_nil Try.underlying101
theorem build0_101 {H : AH} : abuildSlice Try.prog 101 0 [] H = some (.slice (some ⟨H.next, 0, some 0⟩) 0 0, (H.new 1 []).2) := build_nil Try.underlying101 size_61 zero_61 rfl (Nat.le_of_ble_eq_true rfl)
theorem build1_101 {H : AH} {x : Value} (hx : (vcells x).length = 1) (hc : (vcells x).all isCell = true) : abuildSlice Try.prog 101 1 [(0, x)] H = some (.slice (some ⟨H.next, 0, some 0⟩) 1 1, (H.new 1 (vcells x)).2) := build_one Try.underlying101 size_61 zero_61 rfl (Nat.le_of_ble_eq_true rfl) (Nat.le_of_ble_eq_true rfl) hx hc
theorem fa_112_0 {g o k : Nat} : afieldAddr Try.prog 112 0 (.pointer (some ⟨g, o, some k⟩)) = some (.pointer (some ⟨g, o + 0, some k⟩)) := by have h := fieldAddr_at (g := g) (o := o) (k := k) (f := 0) Try.underlying112 (Eq.refl (some _)) size_3 rfl; exact h
theorem fa_112_1 {g o k : Nat} : afieldAddr Try.prog 112 1 (.pointer (some ⟨g, o, some k⟩)) = some (.pointer (some ⟨g, o + 1, some k⟩)) := by have h := fieldAddr_at (g := g) (o := o) (k := k) (f := 1) Try.underlying112 (Eq.refl (some _)) size_3 rfl; exact h
theorem ia_113 {g o k n c i : Nat} {j : IntKind} (h : i < n) : aindexAddr Try.prog 113 (.slice (some ⟨g, o, some k⟩) n c) (.int j (i : Int)) = some (.pointer (some ⟨g, o + i * 2, some k⟩)) := indexAddr_at Try.underlying113 size_112 h
theorem len_113 {H : AH} {n c : Nat} {a : Option Addr} : abuiltin Try.prog .len [113] [.slice a n c] H = some (.int .i64 (n : Int), H) := len_slice Try.underlying113
theorem info_113 : ((Try.prog.info? 112).map fun i => Nat.beq i.size 2 && Nat.ble i.bytes 65536) = some true := by kernel_rfl
theorem app_113 {H : AH} {t' len cap n : Nat} {base : Option Addr} {x : Value} {new : List Value} (hx : Sh.srcKind Try.prog t' x = true) (hn : Sh.newCells 2 H x = some (n, new)) (hb : len + n ≤ 1073741824) : abuiltin Try.prog .append [113, t'] [.slice base len cap, x] H = aappend 2 base len cap n new H := append_at Try.underlying113 info_113 zero_112 rfl (Nat.le_of_ble_eq_true rfl) hx hn hb
theorem isnil_113 {c : Bool} {a : Option Addr} {n m : Nat} : abin Try.prog 113 c .eql (.slice a n m) (.slice none 0 0) = some (.bool a.isNone) := slice_nil Try.underlying113
theorem notnil_113 {c : Bool} {a : Option Addr} {n m : Nat} : abin Try.prog 113 c .neq (.slice a n m) (.slice none 0 0) = some (.bool a.isSome) := slice_not_nil Try.underlying113
theorem build0_113 {H : AH} : abuildSlice Try.prog 113 0 [] H = some (.slice (some ⟨H.next, 0, some 0⟩) 0 0, (H.new 2 []).2) := build_nil Try.underlying113 size_112 zero_112 rfl (Nat.le_of_ble_eq_true rfl)
theorem build1_113 {H : AH} {x : Value} (hx : (vcells x).length = 2) (hc : (vcells x).all isCell = true) : abuildSlice Try.prog 113 1 [(0, x)] H = some (.slice (some ⟨H.next, 0, some 0⟩) 1 1, (H.new 2 (vcells x)).2) := build_one Try.underlying113 size_112 zero_112 rfl (Nat.le_of_ble_eq_true rfl) (Nat.le_of_ble_eq_true rfl) hx hc
theorem cv_3_93 {H : AH} {n : Int} : aconvert Try.prog 3 93 (.int .i64 n) H = some (.int .u64 (IntKind.wrap .u64 n), H) := conv_int Try.underlying3 Try.underlying93
theorem cv_3_129 {H : AH} {n : Int} : aconvert Try.prog 3 129 (.int .i64 n) H = some (.int .u64 (IntKind.wrap .u64 n), H) := conv_int Try.underlying3 Try.underlying129
theorem cv_5_3 {H : AH} {n : Int} : aconvert Try.prog 5 3 (.int .u8 n) H = some (.int .i64 (IntKind.wrap .i64 n), H) := conv_int Try.underlying5 Try.underlying3
theorem cv_93_3 {H : AH} {n : Int} : aconvert Try.prog 93 3 (.int .u64 n) H = some (.int .i64 (IntKind.wrap .i64 n), H) := conv_int Try.underlying93 Try.underlying3
theorem cv_93_126 {H : AH} {n : Int} : aconvert Try.prog 93 126 (.int .u64 n) H = some (.int .u32 (IntKind.wrap .u32 n), H) := conv_int Try.underlying93 Try.underlying126
theorem cv_126_5 {H : AH} {n : Int} : aconvert Try.prog 126 5 (.int .u32 n) H = some (.int .u8 (IntKind.wrap .u8 n), H) := conv_int Try.underlying126 Try.underlying5
theorem cv_128_5 {H : AH} {n : Int} : aconvert Try.prog 128 5 (.int .u64 n) H = some (.int .u8 (IntKind.wrap .u8 n), H) := conv_int Try.underlying128 Try.underlying5
theorem seatFacts : type_of% (And.intro @zero_1 (And.intro @ld_1 (And.intro @zero_2 (And.intro @ld_2 (And.intro @zero_3 (And.intro @ld_3 (And.intro @zero_4 (And.intro @ld_4 (And.intro @zero_5 (And.intro @ld_5 (And.intro @zero_9 (And.intro @ld_9 (And.intro @zero_22 (And.intro @ld_22 (And.intro @zero_23 (And.intro @ld_23 (And.intro @zero_24 (And.intro @ld_24 (And.intro @zero_26 (And.intro @ld_26 (And.intro @zero_29 (And.intro @ld_29 (And.intro @zero_34 (And.intro @ld_34 (And.intro @zero_43 (And.intro @ld_43 (And.intro @zero_45 (And.intro @ld_45 (And.intro @zero_47 (And.intro @ld_47 (And.intro @zero_53 (And.intro @ld_53 (And.intro @zero_57 (And.intro @ld_57 (And.intro @zero_61 (And.intro @ld_61 (And.intro @zero_66 (And.intro @ld_66 (And.intro @zero_70 (And.intro @ld_70 (And.intro @zero_71 (And.intro @ld_71 (And.intro @zero_73 (And.intro @ld_73 (And.intro @zero_76 (And.intro @ld_76 (And.intro @zero_78 (And.intro @ld_78 (And.intro @zero_81 (And.intro @ld_81 (And.intro @zero_83 (And.intro @ld_83 (And.intro @zero_91 (And.intro @ld_91 (And.intro @zero_93 (And.intro @ld_93 (And.intro @zero_97 (And.intro @ld_97 (And.intro @zero_99 (And.intro @ld_99 (And.intro @zero_101 (And.intro @ld_101 (And.intro @zero_103 (And.intro @ld_103 (And.intro @zero_109 (And.intro @ld_109 (And.intro @zero_112 (And.intro @ld_112 (And.intro @zero_113 (And.intro @ld_113 (And.intro @zero_114 (And.intro @ld_114 (And.intro @zero_118 (And.intro @ld_118 (And.intro @zero_126 (And.intro @ld_126 (And.intro @zero_128 (And.intro @ld_128 (And.intro @zero_129 (And.intro @ld_129 (And.intro @zero_133 (And.intro @ld_133 (And.intro @zero_135 (And.intro @ld_135 (And.intro @len_9 (And.intro @len_22 (And.intro @isnil_22 (And.intro @notnil_22 (And.intro @build0_22 (And.intro @len_23 (And.intro @isnil_23 (And.intro @notnil_23 (And.intro @build0_23 (And.intro @len_24 (And.intro @isnil_24 (And.intro @notnil_24 (And.intro @build0_24 (And.intro @fa_26_0 (And.intro @fa_26_1 (And.intro @fa_26_2 (And.intro @fa_26_3 (And.intro @len_34 (And.intro @isnil_34 (And.intro @notnil_34 (And.intro @build0_34 (And.intro @fa_43_0 (And.intro @fa_43_1 (And.intro @fa_43_2 (And.intro @fa_43_3 (And.intro @fa_43_4 (And.intro @fa_45_0 (And.intro @fa_45_1 (And.intro @len_57 (And.intro @isnil_57 (And.intro @notnil_57 (And.intro @build0_57 (And.intro @len_61 (And.intro @isnil_61 (And.intro @notnil_61 (And.intro @build0_61 (And.intro @len_70 (And.intro @isnil_70 (And.intro @notnil_70 (And.intro @build0_70 (And.intro @len_71 (And.intro @isnil_71 (And.intro @notnil_71 (And.intro @build0_71 (And.intro @fa_73_0 (And.intro @fa_73_1 (And.intro @fa_73_2 (And.intro @fa_73_3 (And.intro @fa_76_0 (And.intro @fa_76_1 (And.intro @fa_76_2 (And.intro @fa_76_3 (And.intro @len_78 (And.intro @isnil_78 (And.intro @notnil_78 (And.intro @build0_78 (And.intro @len_81 (And.intro @isnil_81 (And.intro @notnil_81 (And.intro @build0_81 (And.intro @len_97 (And.intro @isnil_97 (And.intro @notnil_97 (And.intro @build0_97 (And.intro @len_101 (And.intro @isnil_101 (And.intro @notnil_101 (And.intro @build0_101 (And.intro @fa_112_0 (And.intro @fa_112_1 (And.intro @len_113 (And.intro @isnil_113 (And.intro @notnil_113 (And.intro @build0_113 (And.intro @cv_3_93 (And.intro @cv_3_129 (And.intro @cv_5_3 (And.intro @cv_93_3 (And.intro @cv_93_126 (And.intro @cv_126_5 (@cv_128_5))))))))))))))))))))))))))))))))))))))))))))))))))))))))))))))))))))))))))))))))))))))))))))))))))))))))))))))))))))))))))))))))))))))))))))))))))))))))))))))))))))) := And.intro @zero_1 (And.intro @ld_1 (And.intro @zero_2 (And.intro @ld_2 (And.intro @zero_3 (And.intro @ld_3 (And.intro @zero_4 (And.intro @ld_4 (And.intro @zero_5 (And.intro @ld_5 (And.intro @zero_9 (And.intro @ld_9 (And.intro @zero_22 (And.intro @ld_22 (And.intro @zero_23 (And.intro @ld_23 (And.intro @zero_24 (And.intro @ld_24 (And.intro @zero_26 (And.intro @ld_26 (And.intro @zero_29 (And.intro @ld_29 (And.intro @zero_34 (And.intro @ld_34 (And.intro @zero_43 (And.intro @ld_43 (And.intro @zero_45 (And.intro @ld_45 (And.intro @zero_47 (And.intro @ld_47 (And.intro @zero_53 (And.intro @ld_53 (And.intro @zero_57 (And.intro @ld_57 (And.intro @zero_61 (And.intro @ld_61 (And.intro @zero_66 (And.intro @ld_66 (And.intro @zero_70 (And.intro @ld_70 (And.intro @zero_71 (And.intro @ld_71 (And.intro @zero_73 (And.intro @ld_73 (And.intro @zero_76 (And.intro @ld_76 (And.intro @zero_78 (And.intro @ld_78 (And.intro @zero_81 (And.intro @ld_81 (And.intro @zero_83 (And.intro @ld_83 (And.intro @zero_91 (And.intro @ld_91 (And.intro @zero_93 (And.intro @ld_93 (And.intro @zero_97 (And.intro @ld_97 (And.intro @zero_99 (And.intro @ld_99 (And.intro @zero_101 (And.intro @ld_101 (And.intro @zero_103 (And.intro @ld_103 (And.intro @zero_109 (And.intro @ld_109 (And.intro @zero_112 (And.intro @ld_112 (And.intro @zero_113 (And.intro @ld_113 (And.intro @zero_114 (And.intro @ld_114 (And.intro @zero_118 (And.intro @ld_118 (And.intro @zero_126 (And.intro @ld_126 (And.intro @zero_128 (And.intro @ld_128 (And.intro @zero_129 (And.intro @ld_129 (And.intro @zero_133 (And.intro @ld_133 (And.intro @zero_135 (And.intro @ld_135 (And.intro @len_9 (And.intro @len_22 (And.intro @isnil_22 (And.intro @notnil_22 (And.intro @build0_22 (And.intro @len_23 (And.intro @isnil_23 (And.intro @notnil_23 (And.intro @build0_23 (And.intro @len_24 (And.intro @isnil_24 (And.intro @notnil_24 (And.intro @build0_24 (And.intro @fa_26_0 (And.intro @fa_26_1 (And.intro @fa_26_2 (And.intro @fa_26_3 (And.intro @len_34 (And.intro @isnil_34 (And.intro @notnil_34 (And.intro @build0_34 (And.intro @fa_43_0 (And.intro @fa_43_1 (And.intro @fa_43_2 (And.intro @fa_43_3 (And.intro @fa_43_4 (And.intro @fa_45_0 (And.intro @fa_45_1 (And.intro @len_57 (And.intro @isnil_57 (And.intro @notnil_57 (And.intro @build0_57 (And.intro @len_61 (And.intro @isnil_61 (And.intro @notnil_61 (And.intro @build0_61 (And.intro @len_70 (And.intro @isnil_70 (And.intro @notnil_70 (And.intro @build0_70 (And.intro @len_71 (And.intro @isnil_71 (And.intro @notnil_71 (And.intro @build0_71 (And.intro @fa_73_0 (And.intro @fa_73_1 (And.intro @fa_73_2 (And.intro @fa_73_3 (And.intro @fa_76_0 (And.intro @fa_76_1 (And.intro @fa_76_2 (And.intro @fa_76_3 (And.intro @len_78 (And.intro @isnil_78 (And.intro @notnil_78 (And.intro @build0_78 (And.intro @len_81 (And.intro @isnil_81 (And.intro @notnil_81 (And.intro @build0_81 (And.intro @len_97 (And.intro @isnil_97 (And.intro @notnil_97 (And.intro @build0_97 (And.intro @len_101 (And.intro @isnil_101 (And.intro @notnil_101 (And.intro @build0_101 (And.intro @fa_112_0 (And.intro @fa_112_1 (And.intro @len_113 (And.intro @isnil_113 (And.intro @notnil_113 (And.intro @build0_113 (And.intro @cv_3_93 (And.intro @cv_3_129 (And.intro @cv_5_3 (And.intro @cv_93_3 (And.intro @cv_93_126 (And.intro @cv_126_5 (@cv_128_5))))))))))))))))))))))))))))))))))))))))))))))))))))))))))))))))))))))))))))))))))))))))))))))))))))))))))))))))))))))))))))))))))))))))))))))))))))))))))))))))))))
end Go.Proofs.Ytfcmpclbhnjkgaa
-- simp: zero_1, ld_1, zero_2, ld_2, zero_3, ld_3, zero_4, ld_4, zero_5, ld_5, zero_9, ld_9, zero_22, ld_22, zero_23, ld_23, zero_24, ld_24, zero_26, ld_26, zero_29, ld_29, zero_34, ld_34, zero_43, ld_43, zero_45, ld_45, zero_47, ld_47, zero_53, ld_53, zero_57, ld_57, zero_61, ld_61, zero_66, ld_66, zero_70, ld_70, zero_71, ld_71, zero_73, ld_73, zero_76, ld_76, zero_78, ld_78, zero_81, ld_81, zero_83, ld_83, zero_91, ld_91, zero_93, ld_93, zero_97, ld_97, zero_99, ld_99, zero_101, ld_101, zero_103, ld_103, zero_109, ld_109, zero_112, ld_112, zero_113, ld_113, zero_114, ld_114, zero_118, ld_118, zero_126, ld_126, zero_128, ld_128, zero_129, ld_129, zero_133, ld_133, zero_135, ld_135, len_9, len_22, isnil_22, notnil_22, build0_22, len_23, isnil_23, notnil_23, build0_23, len_24, isnil_24, notnil_24, build0_24, fa_26_0, fa_26_1, fa_26_2, fa_26_3, len_34, isnil_34, notnil_34, build0_34, fa_43_0, fa_43_1, fa_43_2, fa_43_3, fa_43_4, fa_45_0, fa_45_1, len_57, isnil_57, notnil_57, build0_57, len_61, isnil_61, notnil_61, build0_61, len_70, isnil_70, notnil_70, build0_70, len_71, isnil_71, notnil_71, build0_71, fa_73_0, fa_73_1, fa_73_2, fa_73_3, fa_76_0, fa_76_1, fa_76_2, fa_76_3, len_78, isnil_78, notnil_78, build0_78, len_81, isnil_81, notnil_81, build0_81, len_97, isnil_97, notnil_97, build0_97, len_101, isnil_101, notnil_101, build0_101, fa_112_0, fa_112_1, len_113, isnil_113, notnil_113, build0_113, cv_3_93, cv_3_129, cv_5_3, cv_93_3, cv_93_126, cv_126_5, cv_128_5
/- Nets in memory: what is made and written of them. -/
set_option maxHeartbeats 4000000
set_option linter.unusedVariables false
namespace Go.Proofs.Ytfcmpclbhnjkgaa
open Go Go.Proofs Go.Proofs.Sh
section
variable {H : AH} {g : Nat} {sg ar en v : Value} {N : NetD}
theorem netNew (hsg : isCell sg = true) (har : isCell ar = true) (hen : isCell en = true) {n : Int} : anew Try.prog 26 H (.agg #[sg, .int .i64 n, ar, en]) = some (.pointer (some ⟨H.next, 0, some 0⟩), (H.new 4 [sg, .int .i64 n, ar, en]).2) :=
  new_agg (vs := [sg, .int .i64 n, ar, en]) size_26 rfl (by simp [hsg, har, hen, show isCell (.int .i64 n) = true from rfl])
theorem netStore (hsg : isCell sg = true) (har : isCell ar = true) (hen : isCell en = true) {n : Int} {p : Addr} : astore Try.prog 26 H (.agg #[sg, .int .i64 n, ar, en]) (.pointer (some p)) = H.write p [sg, .int .i64 n, ar, en] :=
  store_agg (vs := [sg, .int .i64 n, ar, en]) size_26 rfl (by simp [hsg, har, hen, show isCell (.int .i64 n) = true from rfl])
theorem netZero : anew Try.prog 26 H (.agg #[.slice none 0 0, .int .i64 0, .slice none 0 0, .slice none 0 0]) = some (.pointer (some ⟨H.next, 0, some 0⟩), (H.new 4 [.slice none 0 0, .int .i64 0, .slice none 0 0, .slice none 0 0]).2) := new_agg (vs := [.slice none 0 0, .int .i64 0, .slice none 0 0, .slice none 0 0]) size_26 rfl rfl
theorem arcZero : anew Try.prog 43 H (.agg #[.int .i64 0, .string ⟨#[]⟩, .string ⟨#[]⟩, .int .i64 0, .int .i64 0]) = some (.pointer (some ⟨H.next, 0, some 0⟩), (H.new 5 [.int .i64 0, .string ⟨#[]⟩, .string ⟨#[]⟩, .int .i64 0, .int .i64 0]).2) :=
  new_agg (vs := [.int .i64 0, .string ⟨#[]⟩, .string ⟨#[]⟩, .int .i64 0, .int .i64 0]) size_43 rfl rfl
theorem endZero : anew Try.prog 45 H (.agg #[.int .i64 0, .int .i64 0]) = some (.pointer (some ⟨H.next, 0, some 0⟩), (H.new 2 [.int .i64 0, .int .i64 0]).2) := new_agg (vs := [.int .i64 0, .int .i64 0]) size_45 rfl rfl
theorem arcNew {a : ArcD} : anew Try.prog 43 H (.agg a.cells.toArray) = some (.pointer (some ⟨H.next, 0, some 0⟩), (H.new 5 a.cells).2) := new_agg (vs := a.cells) size_43 rfl rfl
theorem endNew {a : EndD} : anew Try.prog 45 H (.agg a.cells.toArray) = some (.pointer (some ⟨H.next, 0, some 0⟩), (H.new 2 a.cells).2) := new_agg (vs := a.cells) size_45 rfl rfl
theorem arcStore {a : ArcD} {p : Addr} : astore Try.prog 43 H (.agg a.cells.toArray) (.pointer (some p)) = H.write p a.cells := store_agg size_43 rfl rfl
theorem endStore {a : EndD} {p : Addr} : astore Try.prog 45 H (.agg a.cells.toArray) (.pointer (some p)) = H.write p a.cells := store_agg size_45 rfl rfl
theorem arcOver {a : ArcD} {x0 x1 x2 x3 x4 : Value} : (H.new 5 [x0, x1, x2, x3, x4]).2.write ⟨H.next, 0, some 0⟩ a.cells = some (H.new 5 a.cells).2 := write_new rfl
theorem endOver {a : EndD} {x0 x1 : Value} : (H.new 2 [x0, x1]).2.write ⟨H.next, 0, some 0⟩ a.cells = some (H.new 2 a.cells).2 := write_new rfl
theorem netOver {x0 x1 x2 x3 y0 y1 y2 y3 : Value} : (H.new 4 [x0, x1, x2, x3]).2.write ⟨H.next, 0, some 0⟩ [y0, y1, y2, y3] = some (H.new 4 [y0, y1, y2, y3]).2 := write_new rfl
theorem arc0 {a : ArcD} : (H.new 5 a.cells).2.cell ⟨H.next, 0, some 0⟩ = some (.int .i64 a.fr) := cell_new _ _ _
theorem arc1 {a : ArcD} : (H.new 5 a.cells).2.cell ⟨H.next, 1, some 0⟩ = some (.string a.inn) := cell_new _ _ _
theorem arc2 {a : ArcD} : (H.new 5 a.cells).2.cell ⟨H.next, 2, some 0⟩ = some (.string a.out) := cell_new _ _ _
theorem arc3 {a : ArcD} : (H.new 5 a.cells).2.cell ⟨H.next, 3, some 0⟩ = some (.int .i64 a.to) := cell_new _ _ _
theorem arc4 {a : ArcD} : (H.new 5 a.cells).2.cell ⟨H.next, 4, some 0⟩ = some (.int .i64 a.cost) := cell_new _ _ _
theorem end0 {a : EndD} : (H.new 2 a.cells).2.cell ⟨H.next, 0, some 0⟩ = some (.int .i64 a.state) := cell_new _ _ _
theorem end1 {a : EndD} : (H.new 2 a.cells).2.cell ⟨H.next, 1, some 0⟩ = some (.int .i64 a.cost) := cell_new _ _ _
theorem netLenS (h : NetBox H g sg ar en N) {H' : AH} : abuiltin Try.prog .len [22] [sg] H' = some (.int .i64 (N.sigma.length : Int), H') := by rw [h.hsg.len Try.underlying22 H', List.length_map]
theorem netLenA (h : NetBox H g sg ar en N) {H' : AH} : abuiltin Try.prog .len [23] [ar] H' = some (.int .i64 (N.arcs.length : Int), H') := by rw [h.har.len Try.underlying23 H', List.length_map]
theorem netLenE (h : NetBox H g sg ar en N) {H' : AH} : abuiltin Try.prog .len [24] [en] H' = some (.int .i64 (N.ends.length : Int), H') := by rw [h.hen.len Try.underlying24 H', List.length_map]
theorem held_arc : Try.prog.stoodInHeld 43 = false := by kernel_rfl
theorem guard_arc : Try.prog.eqGuardType Try.prog.depth 43 = false := by kernel_rfl
theorem held_end : Try.prog.stoodInHeld 45 = false := by kernel_rfl
theorem guard_end : Try.prog.eqGuardType Try.prog.depth 45 = false := by kernel_rfl
theorem eqT_int {d : Nat} {a b : Int} : eqT Try.prog (d + 1) 3 (.int .i64 a) (.int .i64 b) = some (decide (a = b)) := by
  simp only [eqT, Try.underlying3, kindEq_self, cond_true, intEq_eq]; rfl
theorem eqT_str {d : Nat} {a b : ByteArray} : eqT Try.prog (d + 1) 9 (.string a) (.string b) = some (decide (a = b)) := by
  simp only [eqT, Try.underlying9, bytesEq_dec]
theorem eqArc {c : Bool} {a : ArcD} : abin Try.prog 43 c .neq (.agg a.cells.toArray) (.agg a.cells.toArray) = some (.bool false) := by
  have h : eqT Try.prog (19 + 1) 43 (.agg a.cells.toArray) (.agg a.cells.toArray) = some true := by
    rw [eqT.eq_def]
    simp only [Try.underlying43, held_arc, cond_false, eqFields, apart, agg_3, agg_9, ArcD.cells, List.getElem?_cons_zero, List.getElem?_cons_succ, Option.bind_some, eqT_int (d := 18), eqT_str (d := 18), decide_true]
    simp
  unfold abin aeq eqMay eqDepth
  simp only [guard_arc, Bool.not_false, cond_true]
  rw [h]
  rfl
theorem eqEnd {c : Bool} {a : EndD} : abin Try.prog 45 c .neq (.agg a.cells.toArray) (.agg a.cells.toArray) = some (.bool false) := by
  have h : eqT Try.prog (19 + 1) 45 (.agg a.cells.toArray) (.agg a.cells.toArray) = some true := by
    rw [eqT.eq_def]
    simp only [Try.underlying45, held_end, cond_false, eqFields, apart, agg_3, EndD.cells, List.getElem?_cons_zero, List.getElem?_cons_succ, Option.bind_some, eqT_int (d := 18), decide_true]
    simp
  unfold abin aeq eqMay eqDepth
  simp only [guard_end, Bool.not_false, cond_true]
  rw [h]
  rfl
end
end Go.Proofs.Ytfcmpclbhnjkgaa
/- Whether a text of a list is too long for a symbol. -/
set_option maxHeartbeats 4000000
set_option linter.unusedSimpArgs false
set_option linter.unusedVariables false
set_option pp.deepTerms.threshold 8
namespace Go.Proofs.Ytfcmpclbhnjkgaa
open Go Go.Proofs Go.Proofs.Sh
theorem anyLong {H : AH} {v : Value} {l : List ByteArray} (hs : Sl H v 1 (l.map strCell)) (hl : l.length ≤ 1048576) (hw : Wf H) :
    Sh.Call Try.prog (knows 6) 61 [v] H (fun r H' => Kept H H' ∧ r = .bool (l.any fun s => decide (16 < s.size))) := by
  refine call_of rfl Try.func61 rfl (Nat.le_of_ble_eq_true rfl) ?_
  have hres : Try.f61.results.toList = [.tmp 2] := rfl
  have hlen := hs.len Try.underlying22 H
  simp only [↓Sh.stepDn, Sh.stepUp, seatFacts, exitTo, calm, isEff, Nat.reduceBEq, evs, evps, evo, isConst, reduceCtorEq, Nat.reduceEqDiff, resultsA, Sh.one, Sh.unit, forall_const, implies_true, eq_self, ne_eq, if_true, if_false, beq_self_eq_true, cond_true, cond_false, List.all_cons, List.all_nil, List.getElem?_cons_zero, List.getElem?_cons_succ, List.nil_append, List.append_nil, Option.bind_some, Option.map_some, Option.some.injEq, exists_eq_left', exists_eq', exists_eq, Prod.mk.injEq, exists_and_left, ↓Sh.wp_cond]
  refine wp_count l.length (fun i F H' => H' = H ∧ F.get 0 = some v ∧ F.get 3 = some (.int .i64 (i : Int)) ∧ (l.take i).any (fun s => decide (16 < s.size)) = false) (Nat.zero_le _) ⟨rfl, by simp only [↓Sh.stepDn, Sh.stepUp, seatFacts, exitTo, calm, isEff, Nat.reduceBEq, evs, evps, evo, isConst, reduceCtorEq, Nat.reduceEqDiff, resultsA, Sh.one, Sh.unit, forall_const, implies_true, eq_self, ne_eq, if_true, if_false, beq_self_eq_true, cond_true, cond_false, List.all_cons, List.all_nil, List.getElem?_cons_zero, List.getElem?_cons_succ, List.nil_append, List.append_nil, Option.bind_some, Option.map_some, Option.some.injEq, exists_eq_left', exists_eq', exists_eq, Prod.mk.injEq, exists_and_left, ↓Sh.wp_cond], by simp only [↓Sh.stepDn, Sh.stepUp, seatFacts, exitTo, calm, isEff, Nat.reduceBEq, evs, evps, evo, isConst, reduceCtorEq, Nat.reduceEqDiff, resultsA, Sh.one, Sh.unit, forall_const, implies_true, eq_self, ne_eq, if_true, if_false, beq_self_eq_true, cond_true, cond_false, List.all_cons, List.all_nil, List.getElem?_cons_zero, List.getElem?_cons_succ, List.nil_append, List.append_nil, Option.bind_some, Option.map_some, Option.some.injEq, exists_eq_left', exists_eq', exists_eq, Prod.mk.injEq, exists_and_left, ↓Sh.wp_cond]; rfl, rfl⟩ ?_
  rintro i F H' hi ⟨rfl, f0, f3, hall⟩ k
  by_cases hlt : i < l.length
  · obtain ⟨g, o, kk, hia, hc, hcc⟩ := hs.at Try.underlying22 size_9 (i := i) (x := strCell l[i]) (by simp [hlt]) .i64
    have hy := hcc 0 _ rfl
    simp only [Nat.add_zero] at hy
    have hc16 : decide ((16 : Int) < ((l[i].size : Nat) : Int)) = decide (16 < l[i].size) := by
      by_cases h : 16 < l[i].size
      · simp [h]; omega
      · simp [h]; omega
    simp only [↓Sh.stepDn, Sh.stepUp, seatFacts, exitTo, calm, isEff, Nat.reduceBEq, evs, evps, evo, isConst, reduceCtorEq, Nat.reduceEqDiff, resultsA, Sh.one, Sh.unit, forall_const, implies_true, eq_self, ne_eq, if_true, if_false, beq_self_eq_true, cond_true, cond_false, List.all_cons, List.all_nil, List.getElem?_cons_zero, List.getElem?_cons_succ, List.nil_append, List.append_nil, Option.bind_some, Option.map_some, Option.some.injEq, exists_eq_left', exists_eq', exists_eq, Prod.mk.injEq, exists_and_left, ↓Sh.wp_cond, f0, f3, hlen, hia, hy, List.length_map, nat_lt, hlt, hc16, decide_true, forall_const, reduceCtorEq, false_implies, and_true, true_and, hres]
    refine ⟨fun h => ⟨Kept.refl hw, ?_⟩, fun h => k _ _ hlt ⟨rfl, by simp only [↓Sh.stepDn, Sh.stepUp, seatFacts, exitTo, calm, isEff, Nat.reduceBEq, evs, evps, evo, isConst, reduceCtorEq, Nat.reduceEqDiff, resultsA, Sh.one, Sh.unit, forall_const, implies_true, eq_self, ne_eq, if_true, if_false, beq_self_eq_true, cond_true, cond_false, List.all_cons, List.all_nil, List.getElem?_cons_zero, List.getElem?_cons_succ, List.nil_append, List.append_nil, Option.bind_some, Option.map_some, Option.some.injEq, exists_eq_left', exists_eq', exists_eq, Prod.mk.injEq, exists_and_left, ↓Sh.wp_cond, f0], by simp only [↓Sh.stepDn, Sh.stepUp, seatFacts, exitTo, calm, isEff, Nat.reduceBEq, evs, evps, evo, isConst, reduceCtorEq, Nat.reduceEqDiff, resultsA, Sh.one, Sh.unit, forall_const, implies_true, eq_self, ne_eq, if_true, if_false, beq_self_eq_true, cond_true, cond_false, List.all_cons, List.all_nil, List.getElem?_cons_zero, List.getElem?_cons_succ, List.nil_append, List.append_nil, Option.bind_some, Option.map_some, Option.some.injEq, exists_eq_left', exists_eq', exists_eq, Prod.mk.injEq, exists_and_left, ↓Sh.wp_cond, wrap_succ hlt hl], ?_⟩⟩
    · have : (l.any fun s => decide (16 < s.size)) = true := List.any_eq_true.2 ⟨_, List.getElem_mem hlt, h⟩
      rw [this]
    · rw [List.take_add_one, List.getElem?_eq_getElem hlt]
      simp only [Option.toList, List.any_append, hall, Bool.false_or, List.any_cons, List.any_nil, Bool.or_false]
      exact h
  · have hin : i = l.length := by omega
    subst hin
    rw [List.take_length] at hall
    simp only [↓Sh.stepDn, Sh.stepUp, seatFacts, exitTo, calm, isEff, Nat.reduceBEq, evs, evps, evo, isConst, reduceCtorEq, Nat.reduceEqDiff, resultsA, Sh.one, Sh.unit, forall_const, implies_true, eq_self, ne_eq, if_true, if_false, beq_self_eq_true, cond_true, cond_false, List.all_cons, List.all_nil, List.getElem?_cons_zero, List.getElem?_cons_succ, List.nil_append, List.append_nil, Option.bind_some, Option.map_some, Option.some.injEq, exists_eq_left', exists_eq', exists_eq, Prod.mk.injEq, exists_and_left, ↓Sh.wp_cond, f0, f3, hlen, List.length_map, nat_lt, hlt, decide_false, forall_const, reduceCtorEq, false_implies, and_true, true_and, hres]
    exact ⟨Kept.refl hw, by rw [hall]⟩
end Go.Proofs.Ytfcmpclbhnjkgaa
/- Whether a text is a symbol. -/
set_option maxHeartbeats 4000000
set_option linter.unusedSimpArgs false
set_option linter.unusedVariables false
set_option pp.deepTerms.threshold 8
namespace Go.Proofs.Ytfcmpclbhnjkgaa
open Go Go.Proofs Go.Proofs.Sh
/-- A byte that no symbol has. -/
def badByte (u : UInt8) : Bool := decide (u.toNat < 33) || decide (126 < u.toNat) || decide (u.toNat = 60) || decide (u.toNat = 62)
def symOk (s : ByteArray) : Bool := !s.data.toList.any badByte && decide (1 ≤ s.size) && decide (s.size ≤ 16)
theorem isSymbol {H : AH} {x : ByteArray} (hl : x.size ≤ 1048576) (hw : Wf H) :
    Sh.Call Try.prog (knows 6) 82 [.string x] H (fun r H' => H' = H ∧ r = .bool (symOk x)) := by
  refine call_of rfl Try.func82 rfl (Nat.le_of_ble_eq_true rfl) ?_
  have hres : Try.f82.results.toList = [.tmp 2] := rfl
  have hsz : x.data.toList.length = x.size := by rw [Array.length_toList]; rfl
  simp only [↓Sh.stepDn, Sh.stepUp, seatFacts, exitTo, calm, isEff, Nat.reduceBEq, evs, evps, evo, isConst, reduceCtorEq, Nat.reduceEqDiff, resultsA, Sh.one, Sh.unit, forall_const, implies_true, eq_self, ne_eq, if_true, if_false, beq_self_eq_true, cond_true, cond_false, List.all_cons, List.all_nil, List.getElem?_cons_zero, List.getElem?_cons_succ, List.nil_append, List.append_nil, Option.bind_some, Option.map_some, Option.some.injEq, exists_eq_left', exists_eq', exists_eq, Prod.mk.injEq, exists_and_left]
  refine wp_count x.size (fun i F H' => H' = H ∧ F.get 0 = some (.string x) ∧ F.get 3 = some (.int .i64 (i : Int)) ∧ (x.data.toList.take i).any badByte = false) (Nat.zero_le _) ⟨rfl, by simp only [↓Sh.stepDn, Sh.stepUp, seatFacts, exitTo, calm, isEff, Nat.reduceBEq, evs, evps, evo, isConst, reduceCtorEq, Nat.reduceEqDiff, resultsA, Sh.one, Sh.unit, forall_const, implies_true, eq_self, ne_eq, if_true, if_false, beq_self_eq_true, cond_true, cond_false, List.all_cons, List.all_nil, List.getElem?_cons_zero, List.getElem?_cons_succ, List.nil_append, List.append_nil, Option.bind_some, Option.map_some, Option.some.injEq, exists_eq_left', exists_eq', exists_eq, Prod.mk.injEq, exists_and_left], by simp only [↓Sh.stepDn, Sh.stepUp, seatFacts, exitTo, calm, isEff, Nat.reduceBEq, evs, evps, evo, isConst, reduceCtorEq, Nat.reduceEqDiff, resultsA, Sh.one, Sh.unit, forall_const, implies_true, eq_self, ne_eq, if_true, if_false, beq_self_eq_true, cond_true, cond_false, List.all_cons, List.all_nil, List.getElem?_cons_zero, List.getElem?_cons_succ, List.nil_append, List.append_nil, Option.bind_some, Option.map_some, Option.some.injEq, exists_eq_left', exists_eq', exists_eq, Prod.mk.injEq, exists_and_left]; rfl, rfl⟩ ?_
  rintro i F H' hi ⟨rfl, f0, f3, hall⟩ k
  by_cases hlt : i < x.size
  · obtain ⟨u, hu⟩ : ∃ u, x.data.toList[i]? = some u := ⟨x.data.toList[i]'(by omega), List.getElem?_eq_getElem (by omega)⟩
    have hix := index_str (P := Try.prog) (j := .i64) Try.underlying9 hu
    have e33 : decide ((u.toNat : Int) < 33) = decide (u.toNat < 33) := by by_cases h : u.toNat < 33 <;> simp [h] <;> omega
    have e126 : decide (126 < (u.toNat : Int)) = decide (126 < u.toNat) := by by_cases h : 126 < u.toNat <;> simp [h] <;> omega
    have e60 : decide ((u.toNat : Int) = 60) = decide (u.toNat = 60) := by by_cases h : u.toNat = 60 <;> simp [h]; omega
    have e62 : decide ((u.toNat : Int) = 62) = decide (u.toNat = 62) := by by_cases h : u.toNat = 62 <;> simp [h]; omega
    have hstep : badByte u = false → (x.data.toList.take (i + 1)).any badByte = false := by
      intro h
      rw [List.take_add_one, hu]
      simp only [Option.toList, List.any_append, hall, Bool.false_or, List.any_cons, List.any_nil, Bool.or_false]
      exact h
    have hbad : badByte u = true → symOk x = false := by
      intro h
      have : x.data.toList.any badByte = true := List.any_eq_true.2 ⟨_, List.mem_of_getElem? hu, h⟩
      simp [symOk, this]
    have hgo : badByte u = (decide (u.toNat < 33) || decide (126 < u.toNat) || decide (u.toNat = 60) || decide (u.toNat = 62)) := rfl
    have five : ∀ a b c d : Bool, a = true ∨ (a = false ∧ b = true) ∨ (a = false ∧ b = false ∧ c = true) ∨ (a = false ∧ b = false ∧ c = false ∧ d = true) ∨ (a = false ∧ b = false ∧ c = false ∧ d = false) := by decide
    rcases five (decide (u.toNat < 33)) (decide (126 < u.toNat)) (decide (u.toNat = 60)) (decide (u.toNat = 62)) with h1 | ⟨h1, h2⟩ | ⟨h1, h2, h3⟩ | ⟨h1, h2, h3, h4⟩ | ⟨h1, h2, h3, h4⟩ <;> simp only [h1, *, Bool.or_true, Bool.or_false, Bool.true_or, Bool.false_or] at hgo
    · simp only [↓Sh.stepDn, Sh.stepUp, seatFacts, exitTo, calm, isEff, Nat.reduceBEq, evs, evps, evo, isConst, reduceCtorEq, Nat.reduceEqDiff, resultsA, Sh.one, Sh.unit, forall_const, implies_true, eq_self, ne_eq, if_true, if_false, beq_self_eq_true, cond_true, cond_false, List.all_cons, List.all_nil, List.getElem?_cons_zero, List.getElem?_cons_succ, List.nil_append, List.append_nil, Option.bind_some, Option.map_some, Option.some.injEq, exists_eq_left', exists_eq', exists_eq, Prod.mk.injEq, exists_and_left, f0, f3, hix, nat_lt, hlt, e33, h1, decide_true, hres, hbad hgo, true_and]
    · simp only [↓Sh.stepDn, Sh.stepUp, seatFacts, exitTo, calm, isEff, Nat.reduceBEq, evs, evps, evo, isConst, reduceCtorEq, Nat.reduceEqDiff, resultsA, Sh.one, Sh.unit, forall_const, implies_true, eq_self, ne_eq, if_true, if_false, beq_self_eq_true, cond_true, cond_false, List.all_cons, List.all_nil, List.getElem?_cons_zero, List.getElem?_cons_succ, List.nil_append, List.append_nil, Option.bind_some, Option.map_some, Option.some.injEq, exists_eq_left', exists_eq', exists_eq, Prod.mk.injEq, exists_and_left, f0, f3, hix, nat_lt, hlt, e33, e126, h1, h2, decide_true, hres, hbad hgo, true_and]
    · simp only [↓Sh.stepDn, Sh.stepUp, seatFacts, exitTo, calm, isEff, Nat.reduceBEq, evs, evps, evo, isConst, reduceCtorEq, Nat.reduceEqDiff, resultsA, Sh.one, Sh.unit, forall_const, implies_true, eq_self, ne_eq, if_true, if_false, beq_self_eq_true, cond_true, cond_false, List.all_cons, List.all_nil, List.getElem?_cons_zero, List.getElem?_cons_succ, List.nil_append, List.append_nil, Option.bind_some, Option.map_some, Option.some.injEq, exists_eq_left', exists_eq', exists_eq, Prod.mk.injEq, exists_and_left, f0, f3, hix, nat_lt, hlt, e33, e126, e60, h1, h2, h3, decide_true, hres, hbad hgo, true_and]
    · simp only [↓Sh.stepDn, Sh.stepUp, seatFacts, exitTo, calm, isEff, Nat.reduceBEq, evs, evps, evo, isConst, reduceCtorEq, Nat.reduceEqDiff, resultsA, Sh.one, Sh.unit, forall_const, implies_true, eq_self, ne_eq, if_true, if_false, beq_self_eq_true, cond_true, cond_false, List.all_cons, List.all_nil, List.getElem?_cons_zero, List.getElem?_cons_succ, List.nil_append, List.append_nil, Option.bind_some, Option.map_some, Option.some.injEq, exists_eq_left', exists_eq', exists_eq, Prod.mk.injEq, exists_and_left, f0, f3, hix, nat_lt, hlt, e33, e126, e60, e62, h1, h2, h3, h4, decide_true, hres, hbad hgo, true_and]
    · simp only [↓Sh.stepDn, Sh.stepUp, seatFacts, exitTo, calm, isEff, Nat.reduceBEq, evs, evps, evo, isConst, reduceCtorEq, Nat.reduceEqDiff, resultsA, Sh.one, Sh.unit, forall_const, implies_true, eq_self, ne_eq, if_true, if_false, beq_self_eq_true, cond_true, cond_false, List.all_cons, List.all_nil, List.getElem?_cons_zero, List.getElem?_cons_succ, List.nil_append, List.append_nil, Option.bind_some, Option.map_some, Option.some.injEq, exists_eq_left', exists_eq', exists_eq, Prod.mk.injEq, exists_and_left, f0, f3, hix, nat_lt, hlt, e33, e126, e60, e62, h1, h2, h3, h4, decide_true, hres]
      exact k _ _ hlt ⟨rfl, by simp only [↓Sh.stepDn, Sh.stepUp, seatFacts, exitTo, calm, isEff, Nat.reduceBEq, evs, evps, evo, isConst, reduceCtorEq, Nat.reduceEqDiff, resultsA, Sh.one, Sh.unit, forall_const, implies_true, eq_self, ne_eq, if_true, if_false, beq_self_eq_true, cond_true, cond_false, List.all_cons, List.all_nil, List.getElem?_cons_zero, List.getElem?_cons_succ, List.nil_append, List.append_nil, Option.bind_some, Option.map_some, Option.some.injEq, exists_eq_left', exists_eq', exists_eq, Prod.mk.injEq, exists_and_left, f0], by simp only [↓Sh.stepDn, Sh.stepUp, seatFacts, exitTo, calm, isEff, Nat.reduceBEq, evs, evps, evo, isConst, reduceCtorEq, Nat.reduceEqDiff, resultsA, Sh.one, Sh.unit, forall_const, implies_true, eq_self, ne_eq, if_true, if_false, beq_self_eq_true, cond_true, cond_false, List.all_cons, List.all_nil, List.getElem?_cons_zero, List.getElem?_cons_succ, List.nil_append, List.append_nil, Option.bind_some, Option.map_some, Option.some.injEq, exists_eq_left', exists_eq', exists_eq, Prod.mk.injEq, exists_and_left, wrap_succ hlt hl], hstep hgo⟩
  · have hin : i = x.size := by omega
    subst hin
    rw [← hsz, List.take_length] at hall
    have e1 : decide ((1 : Int) ≤ ((x.size : Nat) : Int)) = decide (1 ≤ x.size) := by by_cases h : 1 ≤ x.size <;> simp [h] <;> omega
    have e16 : decide (((x.size : Nat) : Int) ≤ 16) = decide (x.size ≤ 16) := by by_cases h : x.size ≤ 16 <;> simp [h] <;> omega
    cases h1 : decide (1 ≤ x.size) <;>
      simp only [↓Sh.stepDn, Sh.stepUp, seatFacts, exitTo, calm, isEff, Nat.reduceBEq, evs, evps, evo, isConst, reduceCtorEq, Nat.reduceEqDiff, resultsA, Sh.one, Sh.unit, forall_const, implies_true, eq_self, ne_eq, if_true, if_false, beq_self_eq_true, cond_true, cond_false, List.all_cons, List.all_nil, List.getElem?_cons_zero, List.getElem?_cons_succ, List.nil_append, List.append_nil, Option.bind_some, Option.map_some, Option.some.injEq, exists_eq_left', exists_eq', exists_eq, Prod.mk.injEq, exists_and_left, f0, f3, nat_lt, hlt, e1, e16, h1, decide_false, Bool.not_true, forall_const, not_true_eq_false, reduceCtorEq, false_implies, and_true, true_and, hres] <;>
      simp [symOk, hall, h1]
end Go.Proofs.Ytfcmpclbhnjkgaa
/- Whether all texts of a list are symbols. -/
set_option maxHeartbeats 4000000
set_option linter.unusedSimpArgs false
set_option linter.unusedVariables false
set_option pp.deepTerms.threshold 8
namespace Go.Proofs.Ytfcmpclbhnjkgaa
open Go Go.Proofs Go.Proofs.Sh
theorem allSymbols {H : AH} {v : Value} {l : List ByteArray} (hs : Sl H v 1 (l.map strCell)) (hl : l.length ≤ 1048576) (hlx : ∀ x ∈ l, x.size ≤ 1048576) (hw : Wf H) :
    Sh.Call Try.prog (knows 6) 62 [v] H (fun r H' => H' = H ∧ r = .bool (l.all symOk)) := by
  refine call_of rfl Try.func62 rfl (Nat.le_of_ble_eq_true rfl) ?_
  have hres : Try.f62.results.toList = [.tmp 2] := rfl
  have hlen := hs.len Try.underlying22 H
  simp only [↓Sh.stepDn, Sh.stepUp, seatFacts, exitTo, calm, isEff, Nat.reduceBEq, evs, evps, evo, isConst, reduceCtorEq, Nat.reduceEqDiff, resultsA, Sh.one, Sh.unit, forall_const, implies_true, eq_self, ne_eq, if_true, if_false, beq_self_eq_true, cond_true, cond_false, List.all_cons, List.all_nil, List.getElem?_cons_zero, List.getElem?_cons_succ, List.nil_append, List.append_nil, Option.bind_some, Option.map_some, Option.some.injEq, exists_eq_left', exists_eq', exists_eq, Prod.mk.injEq, exists_and_left]
  refine wp_count l.length (fun i F H' => H' = H ∧ F.get 0 = some v ∧ F.get 3 = some (.int .i64 (i : Int)) ∧ (l.take i).all symOk = true) (Nat.zero_le _) ⟨rfl, by simp only [↓Sh.stepDn, Sh.stepUp, seatFacts, exitTo, calm, isEff, Nat.reduceBEq, evs, evps, evo, isConst, reduceCtorEq, Nat.reduceEqDiff, resultsA, Sh.one, Sh.unit, forall_const, implies_true, eq_self, ne_eq, if_true, if_false, beq_self_eq_true, cond_true, cond_false, List.all_cons, List.all_nil, List.getElem?_cons_zero, List.getElem?_cons_succ, List.nil_append, List.append_nil, Option.bind_some, Option.map_some, Option.some.injEq, exists_eq_left', exists_eq', exists_eq, Prod.mk.injEq, exists_and_left], by simp only [↓Sh.stepDn, Sh.stepUp, seatFacts, exitTo, calm, isEff, Nat.reduceBEq, evs, evps, evo, isConst, reduceCtorEq, Nat.reduceEqDiff, resultsA, Sh.one, Sh.unit, forall_const, implies_true, eq_self, ne_eq, if_true, if_false, beq_self_eq_true, cond_true, cond_false, List.all_cons, List.all_nil, List.getElem?_cons_zero, List.getElem?_cons_succ, List.nil_append, List.append_nil, Option.bind_some, Option.map_some, Option.some.injEq, exists_eq_left', exists_eq', exists_eq, Prod.mk.injEq, exists_and_left]; rfl, rfl⟩ ?_
  rintro i F H' hi ⟨rfl, f0, f3, hall⟩ k
  by_cases hlt : i < l.length
  · obtain ⟨g, o, kk, hia, hc, hcc⟩ := hs.at Try.underlying22 size_9 (i := i) (x := strCell l[i]) (by simp [hlt]) .i64
    have hy := hcc 0 _ rfl
    simp only [Nat.add_zero] at hy
    obtain ⟨r, H1, hd, rfl, rfl⟩ := isSymbol (H := H') (x := l[i]) (hlx _ (List.getElem_mem hlt)) hw
    simp only [↓Sh.stepDn, Sh.stepUp, seatFacts, exitTo, calm, isEff, Nat.reduceBEq, evs, evps, evo, isConst, reduceCtorEq, Nat.reduceEqDiff, resultsA, Sh.one, Sh.unit, forall_const, implies_true, eq_self, ne_eq, if_true, if_false, beq_self_eq_true, cond_true, cond_false, List.all_cons, List.all_nil, List.getElem?_cons_zero, List.getElem?_cons_succ, List.nil_append, List.append_nil, Option.bind_some, Option.map_some, Option.some.injEq, exists_eq_left', exists_eq', exists_eq, Prod.mk.injEq, exists_and_left, f0, f3, hlen, hia, hy, List.length_map, nat_lt, hlt, decide_true, forall_const, reduceCtorEq, false_implies, and_true, true_and, hres]
    refine ⟨_, _, hd, ?_⟩
    cases hsy : symOk l[i] with
    | false =>
      have : l.all symOk = false := by
        rw [List.all_eq_false]
        exact ⟨_, List.getElem_mem hlt, by simp [hsy]⟩
      simp only [↓Sh.stepDn, Sh.stepUp, seatFacts, exitTo, calm, isEff, Nat.reduceBEq, evs, evps, evo, isConst, reduceCtorEq, Nat.reduceEqDiff, resultsA, Sh.one, Sh.unit, forall_const, implies_true, eq_self, ne_eq, if_true, if_false, beq_self_eq_true, cond_true, cond_false, List.all_cons, List.all_nil, List.getElem?_cons_zero, List.getElem?_cons_succ, List.nil_append, List.append_nil, Option.bind_some, Option.map_some, Option.some.injEq, exists_eq_left', exists_eq', exists_eq, Prod.mk.injEq, exists_and_left, hres, this]
    | true =>
      simp only [↓Sh.stepDn, Sh.stepUp, seatFacts, exitTo, calm, isEff, Nat.reduceBEq, evs, evps, evo, isConst, reduceCtorEq, Nat.reduceEqDiff, resultsA, Sh.one, Sh.unit, forall_const, implies_true, eq_self, ne_eq, if_true, if_false, beq_self_eq_true, cond_true, cond_false, List.all_cons, List.all_nil, List.getElem?_cons_zero, List.getElem?_cons_succ, List.nil_append, List.append_nil, Option.bind_some, Option.map_some, Option.some.injEq, exists_eq_left', exists_eq', exists_eq, Prod.mk.injEq, exists_and_left, f0, f3]
      refine k _ _ hlt ⟨rfl, by simp only [↓Sh.stepDn, Sh.stepUp, seatFacts, exitTo, calm, isEff, Nat.reduceBEq, evs, evps, evo, isConst, reduceCtorEq, Nat.reduceEqDiff, resultsA, Sh.one, Sh.unit, forall_const, implies_true, eq_self, ne_eq, if_true, if_false, beq_self_eq_true, cond_true, cond_false, List.all_cons, List.all_nil, List.getElem?_cons_zero, List.getElem?_cons_succ, List.nil_append, List.append_nil, Option.bind_some, Option.map_some, Option.some.injEq, exists_eq_left', exists_eq', exists_eq, Prod.mk.injEq, exists_and_left, f0], by simp only [↓Sh.stepDn, Sh.stepUp, seatFacts, exitTo, calm, isEff, Nat.reduceBEq, evs, evps, evo, isConst, reduceCtorEq, Nat.reduceEqDiff, resultsA, Sh.one, Sh.unit, forall_const, implies_true, eq_self, ne_eq, if_true, if_false, beq_self_eq_true, cond_true, cond_false, List.all_cons, List.all_nil, List.getElem?_cons_zero, List.getElem?_cons_succ, List.nil_append, List.append_nil, Option.bind_some, Option.map_some, Option.some.injEq, exists_eq_left', exists_eq', exists_eq, Prod.mk.injEq, exists_and_left, wrap_succ hlt hl], ?_⟩
      rw [List.take_add_one, List.getElem?_eq_getElem hlt]
      simp only [Option.toList, List.all_append, hall, Bool.true_and, List.all_cons, List.all_nil, Bool.and_true, hsy]
  · have hin : i = l.length := by omega
    subst hin
    rw [List.take_length] at hall
    simp only [↓Sh.stepDn, Sh.stepUp, seatFacts, exitTo, calm, isEff, Nat.reduceBEq, evs, evps, evo, isConst, reduceCtorEq, Nat.reduceEqDiff, resultsA, Sh.one, Sh.unit, forall_const, implies_true, eq_self, ne_eq, if_true, if_false, beq_self_eq_true, cond_true, cond_false, List.all_cons, List.all_nil, List.getElem?_cons_zero, List.getElem?_cons_succ, List.nil_append, List.append_nil, Option.bind_some, Option.map_some, Option.some.injEq, exists_eq_left', exists_eq', exists_eq, Prod.mk.injEq, exists_and_left, f0, f3, hlen, List.length_map, nat_lt, hlt, decide_false, forall_const, reduceCtorEq, false_implies, and_true, true_and, hres]
    rw [hall]
end Go.Proofs.Ytfcmpclbhnjkgaa
/- Whether texts ascend. -/
set_option maxHeartbeats 4000000
set_option linter.unusedSimpArgs false
set_option linter.unusedVariables false
set_option pp.deepTerms.threshold 8
namespace Go.Proofs.Ytfcmpclbhnjkgaa
open Go Go.Proofs Go.Proofs.Sh
/-- Each text is ahead of the next one. -/
def ascB : List ByteArray → Bool
  | x :: y :: l => strLt x y && ascB (y :: l)
  | _ => true
theorem ascB_iff : ∀ {l : List ByteArray}, ascB l = true ↔ ∀ (i : Nat) x y, l[i]? = some x → l[i + 1]? = some y → strLt x y = true
  | [] => by simp [ascB]
  | [a] => by simp [ascB]
  | a :: b :: l => by
    simp only [ascB, Bool.and_eq_true, ascB_iff (l := b :: l)]
    constructor
    · rintro ⟨h1, h2⟩ i x y hx hy
      cases i with
      | zero => simp only [List.getElem?_cons_zero, List.getElem?_cons_succ, Option.some.injEq] at hx hy; subst hx hy; exact h1
      | succ i => exact h2 i x y (by simpa using hx) (by simpa using hy)
    · intro h
      exact ⟨h 0 a b rfl rfl, fun i x y hx hy => h (i + 1) x y (by simpa using hx) (by simpa using hy)⟩
theorem asc_of {l : List ByteArray} (h : ascB l = true) : Asc l := by
  rw [ascB_iff] at h
  intro i j x y hij hx hy
  obtain ⟨d, rfl⟩ : ∃ d, j = i + 1 + d := ⟨j - i - 1, by omega⟩
  induction d generalizing y with
  | zero => exact h i x y hx hy
  | succ d ih =>
    have hjl := (List.getElem?_eq_some_iff.1 hy).1
    have hz : l[i + 1 + d]? = some (l[i + 1 + d]'(by omega)) := List.getElem?_eq_getElem (by omega)
    exact strLt_trans (ih _ (by omega) hz) (h _ _ _ hz hy)
theorem isSet {H : AH} {v : Value} {l : List ByteArray} (hs : Sl H v 1 (l.map strCell)) (hl : l.length ≤ 1048576) (hw : Wf H) :
    Sh.Call Try.prog (knows 6) 63 [v] H (fun r H' => H' = H ∧ r = .bool (ascB l)) := by
  refine call_of rfl Try.func63 rfl (Nat.le_of_ble_eq_true rfl) ?_
  have hres : Try.f63.results.toList = [.tmp 2] := rfl
  have hlen := hs.len Try.underlying22 H
  simp only [↓Sh.stepDn, Sh.stepUp, seatFacts, exitTo, calm, isEff, Nat.reduceBEq, evs, evps, evo, isConst, reduceCtorEq, Nat.reduceEqDiff, resultsA, Sh.one, Sh.unit, forall_const, implies_true, eq_self, ne_eq, if_true, if_false, beq_self_eq_true, cond_true, cond_false, List.all_cons, List.all_nil, List.getElem?_cons_zero, List.getElem?_cons_succ, List.nil_append, List.append_nil, Option.bind_some, Option.map_some, Option.some.injEq, exists_eq_left', exists_eq', exists_eq, Prod.mk.injEq, exists_and_left, ↓Sh.wp_cond]
  refine wp_while (fun m F H' => H' = H ∧ ∃ i : Nat, m = l.length - i ∧ 1 ≤ i ∧ F.get 0 = some v ∧ F.get 3 = some (.int .i64 (i : Int)) ∧ (∀ (j : Nat) x y, j + 1 < i → l[j]? = some x → l[j + 1]? = some y → strLt x y = true)) (m := l.length - 1) ⟨rfl, 1, rfl, Nat.le_refl _, by simp only [↓Sh.stepDn, Sh.stepUp, seatFacts, exitTo, calm, isEff, Nat.reduceBEq, evs, evps, evo, isConst, reduceCtorEq, Nat.reduceEqDiff, resultsA, Sh.one, Sh.unit, forall_const, implies_true, eq_self, ne_eq, if_true, if_false, beq_self_eq_true, cond_true, cond_false, List.all_cons, List.all_nil, List.getElem?_cons_zero, List.getElem?_cons_succ, List.nil_append, List.append_nil, Option.bind_some, Option.map_some, Option.some.injEq, exists_eq_left', exists_eq', exists_eq, Prod.mk.injEq, exists_and_left, ↓Sh.wp_cond], by simp only [↓Sh.stepDn, Sh.stepUp, seatFacts, exitTo, calm, isEff, Nat.reduceBEq, evs, evps, evo, isConst, reduceCtorEq, Nat.reduceEqDiff, resultsA, Sh.one, Sh.unit, forall_const, implies_true, eq_self, ne_eq, if_true, if_false, beq_self_eq_true, cond_true, cond_false, List.all_cons, List.all_nil, List.getElem?_cons_zero, List.getElem?_cons_succ, List.nil_append, List.append_nil, Option.bind_some, Option.map_some, Option.some.injEq, exists_eq_left', exists_eq', exists_eq, Prod.mk.injEq, exists_and_left, ↓Sh.wp_cond]; rfl, fun j x y h => by omega⟩ ?_
  rintro m F H' ⟨rfl, i, rfl, h1, f0, f3, hall⟩ k
  by_cases hlt : i < l.length
  · obtain ⟨g, o, kk, hia, hc, hcc⟩ := hs.at Try.underlying22 size_9 (i := i) (x := strCell l[i]) (by simp [hlt]) .i64
    have hy := hcc 0 _ rfl
    obtain ⟨g', o', kk', hia', hc', hcc'⟩ := hs.at Try.underlying22 size_9 (i := i - 1) (x := strCell (l[i - 1]'(by omega))) (by simp [List.getElem?_eq_getElem (show i - 1 < l.length by omega)]) .i64
    have hy' := hcc' 0 _ rfl
    have hw1 : IntKind.wrap .i64 ((i : Int) - 1) = ((i - 1 : Nat) : Int) := by rw [wrap64 (by omega) (by omega)]; omega
    simp only [Nat.add_zero] at hy hy'
    simp only [↓Sh.stepDn, Sh.stepUp, seatFacts, exitTo, calm, isEff, Nat.reduceBEq, evs, evps, evo, isConst, reduceCtorEq, Nat.reduceEqDiff, resultsA, Sh.one, Sh.unit, forall_const, implies_true, eq_self, ne_eq, if_true, if_false, beq_self_eq_true, cond_true, cond_false, List.all_cons, List.all_nil, List.getElem?_cons_zero, List.getElem?_cons_succ, List.nil_append, List.append_nil, Option.bind_some, Option.map_some, Option.some.injEq, exists_eq_left', exists_eq', exists_eq, Prod.mk.injEq, exists_and_left, ↓Sh.wp_cond, f0, f3, hlen, hia, hia', hy, hy', hw1, List.length_map, nat_lt, hlt, decide_true, forall_const, reduceCtorEq, false_implies, and_true, true_and, hres, Bool.not_eq_true', Bool.not_eq_false']
    have hx1 : l[i - 1]? = some (l[i - 1]'(by omega)) := List.getElem?_eq_getElem (by omega)
    have hx2 : l[i - 1 + 1]? = some l[i] := by rw [show i - 1 + 1 = i by omega]; exact List.getElem?_eq_getElem hlt
    refine ⟨fun h => ?_, fun h => k (l.length - (i + 1)) _ _ (by omega) ⟨rfl, i + 1, rfl, by omega, by simp only [↓Sh.stepDn, Sh.stepUp, seatFacts, exitTo, calm, isEff, Nat.reduceBEq, evs, evps, evo, isConst, reduceCtorEq, Nat.reduceEqDiff, resultsA, Sh.one, Sh.unit, forall_const, implies_true, eq_self, ne_eq, if_true, if_false, beq_self_eq_true, cond_true, cond_false, List.all_cons, List.all_nil, List.getElem?_cons_zero, List.getElem?_cons_succ, List.nil_append, List.append_nil, Option.bind_some, Option.map_some, Option.some.injEq, exists_eq_left', exists_eq', exists_eq, Prod.mk.injEq, exists_and_left, ↓Sh.wp_cond, f0], by simp only [↓Sh.stepDn, Sh.stepUp, seatFacts, exitTo, calm, isEff, Nat.reduceBEq, evs, evps, evo, isConst, reduceCtorEq, Nat.reduceEqDiff, resultsA, Sh.one, Sh.unit, forall_const, implies_true, eq_self, ne_eq, if_true, if_false, beq_self_eq_true, cond_true, cond_false, List.all_cons, List.all_nil, List.getElem?_cons_zero, List.getElem?_cons_succ, List.nil_append, List.append_nil, Option.bind_some, Option.map_some, Option.some.injEq, exists_eq_left', exists_eq', exists_eq, Prod.mk.injEq, exists_and_left, ↓Sh.wp_cond, wrap_succ hlt hl], fun j x y hj hx hy => ?_⟩⟩
    · have : ascB l = false := by
        cases hb : ascB l with
        | false => rfl
        | true => rw [ascB_iff.1 hb _ _ _ hx1 hx2] at h; cases h
      rw [this]
    · by_cases hji : j + 1 < i
      · exact hall j x y hji hx hy
      · have : j = i - 1 := by omega
        subst this
        rw [hx1] at hx
        rw [hx2] at hy
        rw [← Option.some.inj hx, ← Option.some.inj hy]
        exact h
  · simp only [↓Sh.stepDn, Sh.stepUp, seatFacts, exitTo, calm, isEff, Nat.reduceBEq, evs, evps, evo, isConst, reduceCtorEq, Nat.reduceEqDiff, resultsA, Sh.one, Sh.unit, forall_const, implies_true, eq_self, ne_eq, if_true, if_false, beq_self_eq_true, cond_true, cond_false, List.all_cons, List.all_nil, List.getElem?_cons_zero, List.getElem?_cons_succ, List.nil_append, List.append_nil, Option.bind_some, Option.map_some, Option.some.injEq, exists_eq_left', exists_eq', exists_eq, Prod.mk.injEq, exists_and_left, ↓Sh.wp_cond, f0, f3, hlen, List.length_map, nat_lt, hlt, decide_false, forall_const, reduceCtorEq, false_implies, and_true, true_and, hres]
    have : ascB l = true := ascB_iff.2 fun j x y hx hy => hall j x y (by have := (List.getElem?_eq_some_iff.1 hy).1; omega) hx hy
    rw [this]
end Go.Proofs.Ytfcmpclbhnjkgaa
/- What is wrong with an alphabet, by the reference. -/
set_option maxHeartbeats 4000000
set_option linter.unusedSimpArgs false
set_option linter.unusedVariables false
set_option pp.deepTerms.threshold 8
namespace Go.Proofs.Ytfcmpclbhnjkgaa
open Go Go.Proofs Go.Proofs.Sh
def anyLongB (l : List ByteArray) : Bool := l.any fun s => decide (16 < s.size)
def sigErr (l : List ByteArray) : Int := if (decide (40 < l.length) || anyLongB l) = true then 3 else if (l.all symOk && ascB l) = true then 0 else 1
theorem refSigma {H : AH} {v : Value} {l : List ByteArray} (hs : Sl H v 1 (l.map strCell)) (hl : l.length ≤ 1048576) (hlx : ∀ x ∈ l, x.size ≤ 1048576) (hw : Wf H) :
    Sh.Call Try.prog (knows 6) 38 [v] H (fun r H' => Kept H H' ∧ r = .int .i64 (sigErr l)) := by
  refine call_of rfl Try.func38 rfl (Nat.le_of_ble_eq_true rfl) ?_
  have hres : Try.f38.results.toList = [.tmp 2] := rfl
  have hlen := hs.len Try.underlying22 H
  have e40 : decide ((40 : Int) < ((l.length : Nat) : Int)) = decide (40 < l.length) := by by_cases h : 40 < l.length <;> simp [h] <;> omega
  simp only [↓Sh.stepDn, Sh.stepUp, seatFacts, exitTo, calm, isEff, Nat.reduceBEq, evs, evps, evo, isConst, reduceCtorEq, Nat.reduceEqDiff, resultsA, Sh.one, Sh.unit, forall_const, implies_true, eq_self, ne_eq, if_true, if_false, beq_self_eq_true, cond_true, cond_false, List.all_cons, List.all_nil, List.getElem?_cons_zero, List.getElem?_cons_succ, List.nil_append, List.append_nil, Option.bind_some, Option.map_some, Option.some.injEq, exists_eq_left', exists_eq', exists_eq, Prod.mk.injEq, exists_and_left, hlen, List.length_map, e40]
  by_cases h40 : 40 < l.length
  · simp only [↓Sh.stepDn, Sh.stepUp, seatFacts, exitTo, calm, isEff, Nat.reduceBEq, evs, evps, evo, isConst, reduceCtorEq, Nat.reduceEqDiff, resultsA, Sh.one, Sh.unit, forall_const, implies_true, eq_self, ne_eq, if_true, if_false, beq_self_eq_true, cond_true, cond_false, List.all_cons, List.all_nil, List.getElem?_cons_zero, List.getElem?_cons_succ, List.nil_append, List.append_nil, Option.bind_some, Option.map_some, Option.some.injEq, exists_eq_left', exists_eq', exists_eq, Prod.mk.injEq, exists_and_left, h40, decide_true, hres, sigErr, Bool.true_or, forall_const, reduceCtorEq, false_implies, and_true, Kept.refl hw]
  · simp only [↓Sh.stepDn, Sh.stepUp, seatFacts, exitTo, calm, isEff, Nat.reduceBEq, evs, evps, evo, isConst, reduceCtorEq, Nat.reduceEqDiff, resultsA, Sh.one, Sh.unit, forall_const, implies_true, eq_self, ne_eq, if_true, if_false, beq_self_eq_true, cond_true, cond_false, List.all_cons, List.all_nil, List.getElem?_cons_zero, List.getElem?_cons_succ, List.nil_append, List.append_nil, Option.bind_some, Option.map_some, Option.some.injEq, exists_eq_left', exists_eq', exists_eq, Prod.mk.injEq, exists_and_left, h40, decide_false]
    obtain ⟨r1, H1, hd1, hk1, rfl⟩ := anyLong hs hl hw
    refine ⟨_, _, hd1, ?_⟩
    cases hL : (l.any fun s => decide (16 < s.size)) with
    | true => simp only [↓Sh.stepDn, Sh.stepUp, seatFacts, exitTo, calm, isEff, Nat.reduceBEq, evs, evps, evo, isConst, reduceCtorEq, Nat.reduceEqDiff, resultsA, Sh.one, Sh.unit, forall_const, implies_true, eq_self, ne_eq, if_true, if_false, beq_self_eq_true, cond_true, cond_false, List.all_cons, List.all_nil, List.getElem?_cons_zero, List.getElem?_cons_succ, List.nil_append, List.append_nil, Option.bind_some, Option.map_some, Option.some.injEq, exists_eq_left', exists_eq', exists_eq, Prod.mk.injEq, exists_and_left, hres, hL, sigErr, anyLongB, h40, decide_false, Bool.false_or, forall_const, reduceCtorEq, false_implies, and_true, hk1]
    | false =>
      simp only [↓Sh.stepDn, Sh.stepUp, seatFacts, exitTo, calm, isEff, Nat.reduceBEq, evs, evps, evo, isConst, reduceCtorEq, Nat.reduceEqDiff, resultsA, Sh.one, Sh.unit, forall_const, implies_true, eq_self, ne_eq, if_true, if_false, beq_self_eq_true, cond_true, cond_false, List.all_cons, List.all_nil, List.getElem?_cons_zero, List.getElem?_cons_succ, List.nil_append, List.append_nil, Option.bind_some, Option.map_some, Option.some.injEq, exists_eq_left', exists_eq', exists_eq, Prod.mk.injEq, exists_and_left, forall_const, reduceCtorEq, false_implies, and_true, true_and]
      obtain ⟨r2, H2, hd2, rfl, rfl⟩ := allSymbols (hs.grow (hk1.grow hw)) hl hlx hk1.wf
      refine ⟨_, _, hd2, ?_⟩
      cases hA : l.all symOk with
      | false => simp only [↓Sh.stepDn, Sh.stepUp, seatFacts, exitTo, calm, isEff, Nat.reduceBEq, evs, evps, evo, isConst, reduceCtorEq, Nat.reduceEqDiff, resultsA, Sh.one, Sh.unit, forall_const, implies_true, eq_self, ne_eq, if_true, if_false, beq_self_eq_true, cond_true, cond_false, List.all_cons, List.all_nil, List.getElem?_cons_zero, List.getElem?_cons_succ, List.nil_append, List.append_nil, Option.bind_some, Option.map_some, Option.some.injEq, exists_eq_left', exists_eq', exists_eq, Prod.mk.injEq, exists_and_left, hres, hL, hA, sigErr, anyLongB, h40, decide_false, Bool.false_or, Bool.false_and, Bool.not_false, forall_const, reduceCtorEq, false_implies, and_true, hk1]
      | true =>
        obtain ⟨r3, H3, hd3, rfl, rfl⟩ := isSet (hs.grow (hk1.grow hw)) hl hk1.wf
        simp only [↓Sh.stepDn, Sh.stepUp, seatFacts, exitTo, calm, isEff, Nat.reduceBEq, evs, evps, evo, isConst, reduceCtorEq, Nat.reduceEqDiff, resultsA, Sh.one, Sh.unit, forall_const, implies_true, eq_self, ne_eq, if_true, if_false, beq_self_eq_true, cond_true, cond_false, List.all_cons, List.all_nil, List.getElem?_cons_zero, List.getElem?_cons_succ, List.nil_append, List.append_nil, Option.bind_some, Option.map_some, Option.some.injEq, exists_eq_left', exists_eq', exists_eq, Prod.mk.injEq, exists_and_left, Bool.not_true, forall_const, reduceCtorEq, false_implies, and_true, true_and]
        refine ⟨_, _, hd3, ?_⟩
        cases hS : ascB l with
        | true => simp only [↓Sh.stepDn, Sh.stepUp, seatFacts, exitTo, calm, isEff, Nat.reduceBEq, evs, evps, evo, isConst, reduceCtorEq, Nat.reduceEqDiff, resultsA, Sh.one, Sh.unit, forall_const, implies_true, eq_self, ne_eq, if_true, if_false, beq_self_eq_true, cond_true, cond_false, List.all_cons, List.all_nil, List.getElem?_cons_zero, List.getElem?_cons_succ, List.nil_append, List.append_nil, Option.bind_some, Option.map_some, Option.some.injEq, exists_eq_left', exists_eq', exists_eq, Prod.mk.injEq, exists_and_left, hres, hL, hA, hS, sigErr, anyLongB, h40, decide_false, Bool.false_or, Bool.true_and, Bool.not_true, forall_const, reduceCtorEq, false_implies, and_true, true_and, hk1]
        | false => simp only [↓Sh.stepDn, Sh.stepUp, seatFacts, exitTo, calm, isEff, Nat.reduceBEq, evs, evps, evo, isConst, reduceCtorEq, Nat.reduceEqDiff, resultsA, Sh.one, Sh.unit, forall_const, implies_true, eq_self, ne_eq, if_true, if_false, beq_self_eq_true, cond_true, cond_false, List.all_cons, List.all_nil, List.getElem?_cons_zero, List.getElem?_cons_succ, List.nil_append, List.append_nil, Option.bind_some, Option.map_some, Option.some.injEq, exists_eq_left', exists_eq', exists_eq, Prod.mk.injEq, exists_and_left, hres, hL, hA, hS, sigErr, anyLongB, h40, decide_false, Bool.false_or, Bool.true_and, Bool.not_false, forall_const, reduceCtorEq, false_implies, and_true, true_and, hk1]
end Go.Proofs.Ytfcmpclbhnjkgaa
/- sort.Search: the first place at which a question that stays true is true. -/
set_option maxHeartbeats 4000000
set_option linter.unusedSimpArgs false
set_option linter.unusedVariables false
set_option pp.deepTerms.threshold 8
namespace Go.Proofs.Ytfcmpclbhnjkgaa
open Go Go.Proofs Go.Proofs.Sh
theorem half (a b : Nat) (h : a + b < 2097152) : ashift false .u64 (IntKind.wrap .u64 (IntKind.wrap .i64 ((a : Int) + (b : Int)))) 1 = some (.int .u64 (((a + b) / 2 : Nat) : Int)) := by
  rw [wrap64 (by omega) (by omega)]
  have e : IntKind.wrap .u64 ((a : Int) + (b : Int)) = ((a + b : Nat) : Int) := by
    simp only [IntKind.wrap]
    simp [IntKind.bits, IntKind.signed]
    omega
  rw [e]
  simp only [ashift, intLe_eq]
  simp [IntKind.bits, Int.fdiv_eq_ediv]
theorem search {H : AH} {n fid : Nat} {caps : List Value} (p : Nat → Bool) (hn : n ≤ 1048576) (hp : ∀ i, i < n → Sh.Call Try.prog (knows 6) fid (.int .i64 (i : Int) :: caps) H (fun r H' => r = .bool (p i) ∧ H' = H)) (hm : ∀ a b, a ≤ b → b < n → p a = true → p b = true) (hw : Wf H) :
    Sh.Call Try.prog (knows 6) 83 [.int .i64 (n : Int), .func (.func fid) #[] caps.toArray] H (fun r H' => H' = H ∧ ∃ k : Nat, r = .int .i64 (k : Int) ∧ k ≤ n ∧ (∀ i, i < k → p i = false) ∧ (∀ i, k ≤ i → i < n → p i = true)) := by
  refine call_of rfl Try.func83 rfl (Nat.le_of_ble_eq_true rfl) ?_
  have hres : Try.f83.results.toList = [.tmp 4] := rfl
  simp only [↓Sh.stepDn, Sh.stepUp, seatFacts, exitTo, calm, isEff, Nat.reduceBEq, evs, evps, evo, isConst, reduceCtorEq, Nat.reduceEqDiff, resultsA, Sh.one, Sh.unit, forall_const, implies_true, eq_self, ne_eq, if_true, if_false, beq_self_eq_true, cond_true, cond_false, List.all_cons, List.all_nil, List.getElem?_cons_zero, List.getElem?_cons_succ, List.nil_append, List.append_nil, Option.bind_some, Option.map_some, Option.some.injEq, exists_eq_left', exists_eq', exists_eq, Prod.mk.injEq, exists_and_left]
  refine wp_while (fun m F H' => H' = H ∧ ∃ a b : Nat, m = b - a ∧ a ≤ b ∧ b ≤ n ∧ F.get 5 = some (.int .i64 (a : Int)) ∧ F.get 6 = some (.int .i64 (b : Int)) ∧ F.get 1 = some (.func (.func fid) #[] caps.toArray) ∧ (∀ i, i < a → p i = false) ∧ (∀ i, b ≤ i → i < n → p i = true)) (m := n) ⟨rfl, 0, n, by omega, by omega, by omega, by simp only [↓Sh.stepDn, Sh.stepUp, seatFacts, exitTo, calm, isEff, Nat.reduceBEq, evs, evps, evo, isConst, reduceCtorEq, Nat.reduceEqDiff, resultsA, Sh.one, Sh.unit, forall_const, implies_true, eq_self, ne_eq, if_true, if_false, beq_self_eq_true, cond_true, cond_false, List.all_cons, List.all_nil, List.getElem?_cons_zero, List.getElem?_cons_succ, List.nil_append, List.append_nil, Option.bind_some, Option.map_some, Option.some.injEq, exists_eq_left', exists_eq', exists_eq, Prod.mk.injEq, exists_and_left]; rfl, by simp only [↓Sh.stepDn, Sh.stepUp, seatFacts, exitTo, calm, isEff, Nat.reduceBEq, evs, evps, evo, isConst, reduceCtorEq, Nat.reduceEqDiff, resultsA, Sh.one, Sh.unit, forall_const, implies_true, eq_self, ne_eq, if_true, if_false, beq_self_eq_true, cond_true, cond_false, List.all_cons, List.all_nil, List.getElem?_cons_zero, List.getElem?_cons_succ, List.nil_append, List.append_nil, Option.bind_some, Option.map_some, Option.some.injEq, exists_eq_left', exists_eq', exists_eq, Prod.mk.injEq, exists_and_left], by simp only [↓Sh.stepDn, Sh.stepUp, seatFacts, exitTo, calm, isEff, Nat.reduceBEq, evs, evps, evo, isConst, reduceCtorEq, Nat.reduceEqDiff, resultsA, Sh.one, Sh.unit, forall_const, implies_true, eq_self, ne_eq, if_true, if_false, beq_self_eq_true, cond_true, cond_false, List.all_cons, List.all_nil, List.getElem?_cons_zero, List.getElem?_cons_succ, List.nil_append, List.append_nil, Option.bind_some, Option.map_some, Option.some.injEq, exists_eq_left', exists_eq', exists_eq, Prod.mk.injEq, exists_and_left], fun i h => by omega, fun i h1 h2 => by omega⟩ ?_
  rintro m F H' ⟨rfl, a, b, rfl, hab, hbn, f5, f6, f1, hlo, hhi⟩ k
  by_cases hlt : a < b
  · obtain ⟨r, H1, hd, rfl, rfl⟩ := hp ((a + b) / 2) (by omega)
    have hw2 : IntKind.wrap .i64 (((a + b) / 2 : Nat) : Int) = (((a + b) / 2 : Nat) : Int) := wrap64 (by omega) (by omega)
    simp only [↓Sh.stepDn, Sh.stepUp, seatFacts, exitTo, calm, isEff, Nat.reduceBEq, evs, evps, evo, isConst, reduceCtorEq, Nat.reduceEqDiff, resultsA, Sh.one, Sh.unit, forall_const, implies_true, eq_self, ne_eq, if_true, if_false, beq_self_eq_true, cond_true, cond_false, List.all_cons, List.all_nil, List.getElem?_cons_zero, List.getElem?_cons_succ, List.nil_append, List.append_nil, Option.bind_some, Option.map_some, Option.some.injEq, exists_eq_left', exists_eq', exists_eq, Prod.mk.injEq, exists_and_left, f5, f6, f1, nat_lt, hlt, decide_true, forall_const, reduceCtorEq, false_implies, and_true, true_and, b_shr, half a b (by omega), hw2, Value.func.injEq, Fn.func.injEq]
    refine ⟨_, _, hd, ?_⟩
    cases hpv : p ((a + b) / 2) with
    | false =>
      have hw3 : IntKind.wrap .i64 ((((a + b) / 2 : Nat) : Int) + 1) = (((a + b) / 2 + 1 : Nat) : Int) := wrap_succ (n := n) (by omega) hn
      simp only [↓Sh.stepDn, Sh.stepUp, seatFacts, exitTo, calm, isEff, Nat.reduceBEq, evs, evps, evo, isConst, reduceCtorEq, Nat.reduceEqDiff, resultsA, Sh.one, Sh.unit, forall_const, implies_true, eq_self, ne_eq, if_true, if_false, beq_self_eq_true, cond_true, cond_false, List.all_cons, List.all_nil, List.getElem?_cons_zero, List.getElem?_cons_succ, List.nil_append, List.append_nil, Option.bind_some, Option.map_some, Option.some.injEq, exists_eq_left', exists_eq', exists_eq, Prod.mk.injEq, exists_and_left, hpv, Bool.not_false, Bool.not_true, forall_const, reduceCtorEq, false_implies, and_true, true_and, hw3]
      refine k (b - ((a + b) / 2 + 1)) _ _ (by omega) ⟨rfl, (a + b) / 2 + 1, b, rfl, by omega, hbn, by simp only [↓Sh.stepDn, Sh.stepUp, seatFacts, exitTo, calm, isEff, Nat.reduceBEq, evs, evps, evo, isConst, reduceCtorEq, Nat.reduceEqDiff, resultsA, Sh.one, Sh.unit, forall_const, implies_true, eq_self, ne_eq, if_true, if_false, beq_self_eq_true, cond_true, cond_false, List.all_cons, List.all_nil, List.getElem?_cons_zero, List.getElem?_cons_succ, List.nil_append, List.append_nil, Option.bind_some, Option.map_some, Option.some.injEq, exists_eq_left', exists_eq', exists_eq, Prod.mk.injEq, exists_and_left], by simp only [↓Sh.stepDn, Sh.stepUp, seatFacts, exitTo, calm, isEff, Nat.reduceBEq, evs, evps, evo, isConst, reduceCtorEq, Nat.reduceEqDiff, resultsA, Sh.one, Sh.unit, forall_const, implies_true, eq_self, ne_eq, if_true, if_false, beq_self_eq_true, cond_true, cond_false, List.all_cons, List.all_nil, List.getElem?_cons_zero, List.getElem?_cons_succ, List.nil_append, List.append_nil, Option.bind_some, Option.map_some, Option.some.injEq, exists_eq_left', exists_eq', exists_eq, Prod.mk.injEq, exists_and_left, f6], by simp only [↓Sh.stepDn, Sh.stepUp, seatFacts, exitTo, calm, isEff, Nat.reduceBEq, evs, evps, evo, isConst, reduceCtorEq, Nat.reduceEqDiff, resultsA, Sh.one, Sh.unit, forall_const, implies_true, eq_self, ne_eq, if_true, if_false, beq_self_eq_true, cond_true, cond_false, List.all_cons, List.all_nil, List.getElem?_cons_zero, List.getElem?_cons_succ, List.nil_append, List.append_nil, Option.bind_some, Option.map_some, Option.some.injEq, exists_eq_left', exists_eq', exists_eq, Prod.mk.injEq, exists_and_left, f1], fun i hi => ?_, hhi⟩
      cases hpi : p i with
      | false => rfl
      | true => rw [hm i ((a + b) / 2) (by omega) (by omega) hpi] at hpv; cases hpv
    | true =>
      simp only [↓Sh.stepDn, Sh.stepUp, seatFacts, exitTo, calm, isEff, Nat.reduceBEq, evs, evps, evo, isConst, reduceCtorEq, Nat.reduceEqDiff, resultsA, Sh.one, Sh.unit, forall_const, implies_true, eq_self, ne_eq, if_true, if_false, beq_self_eq_true, cond_true, cond_false, List.all_cons, List.all_nil, List.getElem?_cons_zero, List.getElem?_cons_succ, List.nil_append, List.append_nil, Option.bind_some, Option.map_some, Option.some.injEq, exists_eq_left', exists_eq', exists_eq, Prod.mk.injEq, exists_and_left, hpv, Bool.not_false, Bool.not_true, forall_const, reduceCtorEq, false_implies, and_true, true_and]
      exact k ((a + b) / 2 - a) _ _ (by omega) ⟨rfl, a, (a + b) / 2, rfl, by omega, by omega, by simp only [↓Sh.stepDn, Sh.stepUp, seatFacts, exitTo, calm, isEff, Nat.reduceBEq, evs, evps, evo, isConst, reduceCtorEq, Nat.reduceEqDiff, resultsA, Sh.one, Sh.unit, forall_const, implies_true, eq_self, ne_eq, if_true, if_false, beq_self_eq_true, cond_true, cond_false, List.all_cons, List.all_nil, List.getElem?_cons_zero, List.getElem?_cons_succ, List.nil_append, List.append_nil, Option.bind_some, Option.map_some, Option.some.injEq, exists_eq_left', exists_eq', exists_eq, Prod.mk.injEq, exists_and_left, f5], by simp only [↓Sh.stepDn, Sh.stepUp, seatFacts, exitTo, calm, isEff, Nat.reduceBEq, evs, evps, evo, isConst, reduceCtorEq, Nat.reduceEqDiff, resultsA, Sh.one, Sh.unit, forall_const, implies_true, eq_self, ne_eq, if_true, if_false, beq_self_eq_true, cond_true, cond_false, List.all_cons, List.all_nil, List.getElem?_cons_zero, List.getElem?_cons_succ, List.nil_append, List.append_nil, Option.bind_some, Option.map_some, Option.some.injEq, exists_eq_left', exists_eq', exists_eq, Prod.mk.injEq, exists_and_left], by simp only [↓Sh.stepDn, Sh.stepUp, seatFacts, exitTo, calm, isEff, Nat.reduceBEq, evs, evps, evo, isConst, reduceCtorEq, Nat.reduceEqDiff, resultsA, Sh.one, Sh.unit, forall_const, implies_true, eq_self, ne_eq, if_true, if_false, beq_self_eq_true, cond_true, cond_false, List.all_cons, List.all_nil, List.getElem?_cons_zero, List.getElem?_cons_succ, List.nil_append, List.append_nil, Option.bind_some, Option.map_some, Option.some.injEq, exists_eq_left', exists_eq', exists_eq, Prod.mk.injEq, exists_and_left, f1], hlo, fun i h1 h2 => hm _ i h1 h2 hpv⟩
  · have hab' : a = b := by omega
    subst hab'
    simp only [↓Sh.stepDn, Sh.stepUp, seatFacts, exitTo, calm, isEff, Nat.reduceBEq, evs, evps, evo, isConst, reduceCtorEq, Nat.reduceEqDiff, resultsA, Sh.one, Sh.unit, forall_const, implies_true, eq_self, ne_eq, if_true, if_false, beq_self_eq_true, cond_true, cond_false, List.all_cons, List.all_nil, List.getElem?_cons_zero, List.getElem?_cons_succ, List.nil_append, List.append_nil, Option.bind_some, Option.map_some, Option.some.injEq, exists_eq_left', exists_eq', exists_eq, Prod.mk.injEq, exists_and_left, f5, f6, f1, nat_lt, hlt, decide_false, forall_const, reduceCtorEq, false_implies, and_true, true_and, hres]
    exact ⟨a, rfl, hbn, hlo, hhi⟩
end Go.Proofs.Ytfcmpclbhnjkgaa
/- What sort.SearchStrings asks of a place. -/
set_option maxHeartbeats 4000000
set_option linter.unusedSimpArgs false
namespace Go.Proofs.Ytfcmpclbhnjkgaa
open Go Go.Proofs Go.Proofs.Sh
theorem searchAt {H : AH} {g1 o1 k1 g2 o2 k2 i : Nat} {v : Value} {x y : ByteArray} {l : List ByteArray} (h1 : H.cell ⟨g1, o1, some k1⟩ = some v) (h2 : H.cell ⟨g2, o2, some k2⟩ = some (.string x)) (hs : Sl H v 1 (l.map strCell)) (hi : l[i]? = some y) (hw : Wf H) :
    Sh.Call Try.prog (knows 6) 84 [.int .i64 (i : Int), .pointer (some ⟨g1, o1, some k1⟩), .pointer (some ⟨g2, o2, some k2⟩)] H (fun r H' => r = .bool (!strLt y x) ∧ H' = H) := by
  refine call_of rfl Try.func84 rfl (Nat.le_of_ble_eq_true rfl) ?_
  have hres : Try.f84.results.toList = [.tmp 4] := rfl
  obtain ⟨g, o, kk, hia, hc, hcc⟩ := hs.at Try.underlying22 size_9 (i := i) (x := strCell y) (by simp [hi]) .i64
  have hy := hcc 0 _ rfl
  simp only [Nat.add_zero] at hy
  simp only [↓Sh.stepDn, Sh.stepUp, seatFacts, exitTo, calm, isEff, Nat.reduceBEq, evs, evps, evo, isConst, reduceCtorEq, Nat.reduceEqDiff, resultsA, Sh.one, Sh.unit, forall_const, implies_true, eq_self, ne_eq, if_true, if_false, beq_self_eq_true, cond_true, cond_false, List.all_cons, List.all_nil, List.getElem?_cons_zero, List.getElem?_cons_succ, List.nil_append, List.append_nil, Option.bind_some, Option.map_some, Option.some.injEq, exists_eq_left', exists_eq', exists_eq, Prod.mk.injEq, exists_and_left, h1, h2, hia, hy, hres, true_and, and_true]
end Go.Proofs.Ytfcmpclbhnjkgaa
/- sort.SearchStrings over an ascending list. -/
set_option maxHeartbeats 4000000
set_option linter.unusedSimpArgs false
set_option linter.unusedVariables false
set_option pp.deepTerms.threshold 8
namespace Go.Proofs.Ytfcmpclbhnjkgaa
open Go Go.Proofs Go.Proofs.Sh
theorem searchStrings {H : AH} {v : Value} {x : ByteArray} {l : List ByteArray} (hs : Sl H v 1 (l.map strCell)) (ha : Asc l) (hl : l.length ≤ 1048576) (hw : Wf H) :
    Sh.Call Try.prog (knows 6) 64 [v, .string x] H (fun r H' => Kept H H' ∧ ∃ k : Nat, r = .int .i64 (k : Int) ∧ k ≤ l.length ∧ (∀ (i : Nat) y, i < k → l[i]? = some y → strLt y x = true) ∧ (∀ (i : Nat) y, k ≤ i → l[i]? = some y → strLt y x = false)) := by
  refine call_of rfl Try.func64 rfl (Nat.le_of_ble_eq_true rfl) ?_
  have hres : Try.f64.results.toList = [.tmp 4] := rfl
  have hn1 := new_cell (P := Try.prog) (H := H) (t := 22) size_22 hs.isCell
  have hk1 := Kept.new hw 1 [v]
  have hO1 := Obj.new (H := H) 1 [v]
  have hn2 := new_cell (P := Try.prog) (H := (H.new 1 [v]).2) (t := 9) (v := .string x) size_9 rfl
  have hk2 := hk1.trans (Kept.new hk1.wf 1 [.string x])
  have hO2 := Obj.new (H := (H.new 1 [v]).2) 1 [.string x]
  have hO1' : Sh.Obj ((H.new 1 [v]).2.new 1 [.string x]).2 H.next 1 [v] true := by
    unfold Sh.Obj
    rw [new_old (by rw [new_nx]; omega)]
    exact hO1
  simp only [↓Sh.stepDn, Sh.stepUp, seatFacts, exitTo, calm, isEff, Nat.reduceBEq, evs, evps, evo, isConst, reduceCtorEq, Nat.reduceEqDiff, resultsA, Sh.one, Sh.unit, forall_const, implies_true, eq_self, ne_eq, if_true, if_false, beq_self_eq_true, cond_true, cond_false, List.all_cons, List.all_nil, List.getElem?_cons_zero, List.getElem?_cons_succ, List.nil_append, List.append_nil, Option.bind_some, Option.map_some, Option.some.injEq, exists_eq_left', exists_eq', exists_eq, Prod.mk.injEq, exists_and_left, hn1, hn2]
  have hx1 : (H.new 1 [v]).2.next = H.next + 1 := rfl
  rw [hx1] at hO2 ⊢
  generalize ((H.new 1 [v]).2.new 1 [.string x]).2 = H2 at hO1' hO2 hk2 ⊢
  have c1 : H2.cell ⟨H.next, 0, some 0⟩ = some v := hO1'.cell
  have c2 : H2.cell ⟨H.next + 1, 0, some 0⟩ = some (.string x) := hO2.cell
  have hs2 := hs.grow (hk2.grow hw)
  have hlen := hs2.len Try.underlying22 H2
  simp only [c1, hlen, List.length_map, ↓Sh.stepDn, Sh.stepUp, seatFacts, exitTo, calm, isEff, Nat.reduceBEq, evs, evps, evo, isConst, reduceCtorEq, Nat.reduceEqDiff, resultsA, Sh.one, Sh.unit, forall_const, implies_true, eq_self, ne_eq, if_true, if_false, beq_self_eq_true, cond_true, cond_false, List.all_cons, List.all_nil, List.getElem?_cons_zero, List.getElem?_cons_succ, List.nil_append, List.append_nil, Option.bind_some, Option.map_some, Option.some.injEq, exists_eq_left', exists_eq', exists_eq, Prod.mk.injEq, exists_and_left]
  obtain ⟨r, H3, hd, rfl, k, rfl, hk, hlo, hhi⟩ := search (H := H2) (n := l.length) (caps := [.pointer (some ⟨H.next, 0, some 0⟩), .pointer (some ⟨H.next + 1, 0, some 0⟩)]) (fid := 84) (fun i => match l[i]? with | some y => !strLt y x | none => true) hl
    (fun i hi => by
      have hy : l[i]? = some (l[i]'hi) := List.getElem?_eq_getElem hi
      simp only [hy]
      exact searchAt c1 c2 hs2 hy hk2.wf)
    (fun a b hab hb => by
      have hya : l[a]? = some (l[a]'(by omega)) := List.getElem?_eq_getElem (by omega)
      have hyb : l[b]? = some (l[b]'hb) := List.getElem?_eq_getElem hb
      simp only [hya, hyb, Bool.not_eq_true']
      intro h
      rcases Nat.lt_or_ge a b with hlt | hge
      · cases h2 : strLt l[b] x with
        | false => rfl
        | true => rw [strLt_trans (ha a b _ _ hlt hya hyb) h2] at h; cases h
      · have : a = b := by omega
        subst this
        exact h) hk2.wf
  refine ⟨_, _, hd, ?_⟩
  simp only [↓Sh.stepDn, Sh.stepUp, seatFacts, exitTo, calm, isEff, Nat.reduceBEq, evs, evps, evo, isConst, reduceCtorEq, Nat.reduceEqDiff, resultsA, Sh.one, Sh.unit, forall_const, implies_true, eq_self, ne_eq, if_true, if_false, beq_self_eq_true, cond_true, cond_false, List.all_cons, List.all_nil, List.getElem?_cons_zero, List.getElem?_cons_succ, List.nil_append, List.append_nil, Option.bind_some, Option.map_some, Option.some.injEq, exists_eq_left', exists_eq', exists_eq, Prod.mk.injEq, exists_and_left, hres]
  refine ⟨hk2, k, rfl, hk, fun i y hi hy => ?_, fun i y hi hy => ?_⟩
  · have := hlo i hi
    simpa [hy] using this
  · have hil := (List.getElem?_eq_some_iff.1 hy).1
    have := hhi i hi hil
    simpa [hy] using this
end Go.Proofs.Ytfcmpclbhnjkgaa
/- Whether a text is in an ascending list. -/
set_option maxHeartbeats 4000000
set_option linter.unusedSimpArgs false
set_option linter.unusedVariables false
set_option pp.deepTerms.threshold 8
namespace Go.Proofs.Ytfcmpclbhnjkgaa
open Go Go.Proofs Go.Proofs.Sh
theorem isIn {H : AH} {v : Value} {x : ByteArray} {l : List ByteArray} (hs : Sl H v 1 (l.map strCell)) (ha : Asc l) (hl : l.length ≤ 1048576) (hw : Wf H) :
    Sh.Call Try.prog (knows 6) 39 [v, .string x] H (fun r H' => Kept H H' ∧ r = .bool (strIn l x)) := by
  refine call_of rfl Try.func39 rfl (Nat.le_of_ble_eq_true rfl) ?_
  have hres : Try.f39.results.toList = [.tmp 4] := rfl
  obtain ⟨r, H1, hd, hk1, k, rfl, hk, hlo, hhi⟩ := searchStrings hs ha hl hw (x := x)
  have hp := asc_place ha x hlo hhi
  simp only [↓Sh.stepDn, Sh.stepUp, seatFacts, exitTo, calm, isEff, Nat.reduceBEq, evs, evps, evo, isConst, reduceCtorEq, Nat.reduceEqDiff, resultsA, Sh.one, Sh.unit, forall_const, implies_true, eq_self, ne_eq, if_true, if_false, beq_self_eq_true, cond_true, cond_false, List.all_cons, List.all_nil, List.getElem?_cons_zero, List.getElem?_cons_succ, List.nil_append, List.append_nil, Option.bind_some, Option.map_some, Option.some.injEq, exists_eq_left', exists_eq', exists_eq, Prod.mk.injEq, exists_and_left]
  refine ⟨_, _, hd, ?_⟩
  have hs1 := hs.grow (hk1.grow hw)
  have hlen := hs1.len Try.underlying22 H1
  by_cases hlt : k < l.length
  · have hy : l[k]? = some (l[k]'hlt) := List.getElem?_eq_getElem hlt
    obtain ⟨g, o, kk, hia, hc, hcc⟩ := hs1.at Try.underlying22 size_9 (i := k) (x := strCell l[k]) (by simp [hlt]) .i64
    have hyc := hcc 0 _ rfl
    simp only [Nat.add_zero] at hyc
    simp only [↓Sh.stepDn, Sh.stepUp, seatFacts, exitTo, calm, isEff, Nat.reduceBEq, evs, evps, evo, isConst, reduceCtorEq, Nat.reduceEqDiff, resultsA, Sh.one, Sh.unit, forall_const, implies_true, eq_self, ne_eq, if_true, if_false, beq_self_eq_true, cond_true, cond_false, List.all_cons, List.all_nil, List.getElem?_cons_zero, List.getElem?_cons_succ, List.nil_append, List.append_nil, Option.bind_some, Option.map_some, Option.some.injEq, exists_eq_left', exists_eq', exists_eq, Prod.mk.injEq, exists_and_left, hlen, List.length_map, nat_lt, hlt, decide_true, hia, hyc, hres, forall_const, not_true_eq_false, false_implies, and_true, true_and]
    refine ⟨hk1, ?_⟩
    have : decide (l[k] = x) = strIn l x := by
      rw [Bool.eq_iff_iff, decide_eq_true_eq, strIn_iff, ← hp, hy, Option.some.injEq]
    rw [this]
  · simp only [↓Sh.stepDn, Sh.stepUp, seatFacts, exitTo, calm, isEff, Nat.reduceBEq, evs, evps, evo, isConst, reduceCtorEq, Nat.reduceEqDiff, resultsA, Sh.one, Sh.unit, forall_const, implies_true, eq_self, ne_eq, if_true, if_false, beq_self_eq_true, cond_true, cond_false, List.all_cons, List.all_nil, List.getElem?_cons_zero, List.getElem?_cons_succ, List.nil_append, List.append_nil, Option.bind_some, Option.map_some, Option.some.injEq, exists_eq_left', exists_eq', exists_eq, Prod.mk.injEq, exists_and_left, hlen, List.length_map, nat_lt, hlt, decide_false, Bool.not_true, hres, forall_const, not_true_eq_false, false_implies, and_true, true_and]
    refine ⟨hk1, ?_⟩
    have : strIn l x = false := by
      cases h : strIn l x with
      | false => rfl
      | true =>
        have := hp.2 (strIn_iff.1 h)
        rw [List.getElem?_eq_none (by omega)] at this; cases this
    rw [this]
end Go.Proofs.Ytfcmpclbhnjkgaa
/- What is wrong with a net of any kind, by the reference. -/
set_option maxHeartbeats 4000000
set_option linter.unusedSimpArgs false
set_option linter.unusedVariables false
set_option pp.deepTerms.threshold 8
namespace Go.Proofs.Ytfcmpclbhnjkgaa
open Go Go.Proofs Go.Proofs.Sh
def badSym (N : NetD) (s : ByteArray) : Bool := !decide (s = ⟨#[]⟩) && !strIn N.sigma s
def badArc (N : NetD) (a : ArcD) : Bool := decide (a.fr < 0) || decide (N.states ≤ a.fr) || decide (a.to < 0) || decide (N.states ≤ a.to) || badSym N a.inn || badSym N a.out
def badEnd (N : NetD) (e : EndD) : Bool := decide (e.state < 0) || decide (N.states ≤ e.state)
def tooLarge (N : NetD) : Bool := decide (3000 < N.states) || decide (60000 < N.arcs.length) || decide (60000 < N.ends.length)
def netErr (N : NetD) : Int := if tooLarge N = true then 3 else if sigErr N.sigma ≠ 0 then sigErr N.sigma else if N.states < 1 then 1 else if N.arcs.any (badArc N) = true then 1 else if N.ends.any (badEnd N) = true then 1 else 0
theorem sigErr_asc {l : List ByteArray} (h : sigErr l = 0) : Asc l := by
  unfold sigErr at h
  split at h
  · cases h
  · split at h
    · rename_i h1
      simp only [Bool.and_eq_true] at h1
      exact asc_of h1.2
    · cases h
theorem validateNet {H : AH} {v : Value} {N : NetD} (h : NetAt H v N) (hsm : NetSmall N) (hw : Wf H) :
    Sh.Call Try.prog (knows 6) 21 [v] H (fun r H' => Kept H H' ∧ r = .int .i64 (netErr N)) := by
  refine call_of rfl Try.func21 rfl (Nat.le_of_ble_eq_true rfl) ?_
  have hres : Try.f21.results.toList = [.tmp 2] := rfl
  obtain ⟨sg, ar, en, rfl, hsg, har, hen⟩ := h
  have hb1 := NetBox.of (N := N) hw hsg har hen
  have hk1 : Kept H (H.new 4 [sg, .int .i64 N.states, ar, en]).2 := Kept.new hw 4 _
  have eA : decide ((60000 : Int) < (N.arcs.length : Int)) = decide (60000 < N.arcs.length) := decide_eq_decide.2 (by omega)
  have eE : decide ((60000 : Int) < (N.ends.length : Int)) = decide (60000 < N.ends.length) := decide_eq_decide.2 (by omega)
  simp only [↓Sh.stepDn, Sh.stepUp, seatFacts, exitTo, calm, isEff, Nat.reduceBEq, evs, evps, evo, isConst, reduceCtorEq, Nat.reduceEqDiff, resultsA, Sh.one, Sh.unit, forall_const, implies_true, eq_self, ne_eq, if_true, if_false, beq_self_eq_true, cond_true, cond_false, List.all_cons, List.all_nil, List.getElem?_cons_zero, List.getElem?_cons_succ, List.nil_append, List.append_nil, Option.bind_some, Option.map_some, Option.some.injEq, exists_eq_left', exists_eq', exists_eq, Prod.mk.injEq, exists_and_left, netNew hsg.isCell har.isCell hen.isCell]
  generalize hg : H.next = gg at hb1 ⊢
  generalize (H.new 4 [sg, .int .i64 N.states, ar, en]).2 = H1 at hb1 hk1 ⊢
  simp only [↓Sh.stepDn, Sh.stepUp, seatFacts, exitTo, calm, isEff, Nat.reduceBEq, evs, evps, evo, isConst, reduceCtorEq, Nat.reduceEqDiff, resultsA, Sh.one, Sh.unit, forall_const, implies_true, eq_self, ne_eq, if_true, if_false, beq_self_eq_true, cond_true, cond_false, List.all_cons, List.all_nil, List.getElem?_cons_zero, List.getElem?_cons_succ, List.nil_append, List.append_nil, Option.bind_some, Option.map_some, Option.some.injEq, exists_eq_left', exists_eq', exists_eq, Prod.mk.injEq, exists_and_left, hb1.c0, hb1.c1, hb1.c2, hb1.c3, hb1.ca, netLenS hb1, netLenA hb1, netLenE hb1]
  by_cases hA : 3000 < N.states
  · simp only [↓Sh.stepDn, Sh.stepUp, seatFacts, exitTo, calm, isEff, Nat.reduceBEq, evs, evps, evo, isConst, reduceCtorEq, Nat.reduceEqDiff, resultsA, Sh.one, Sh.unit, forall_const, implies_true, eq_self, ne_eq, if_true, if_false, beq_self_eq_true, cond_true, cond_false, List.all_cons, List.all_nil, List.getElem?_cons_zero, List.getElem?_cons_succ, List.nil_append, List.append_nil, Option.bind_some, Option.map_some, Option.some.injEq, exists_eq_left', exists_eq', exists_eq, Prod.mk.injEq, exists_and_left, hA, decide_true, hres, netErr, tooLarge, Bool.true_or, hk1]
  by_cases hB : 60000 < N.arcs.length
  · simp only [↓Sh.stepDn, Sh.stepUp, seatFacts, exitTo, calm, isEff, Nat.reduceBEq, evs, evps, evo, isConst, reduceCtorEq, Nat.reduceEqDiff, resultsA, Sh.one, Sh.unit, forall_const, implies_true, eq_self, ne_eq, if_true, if_false, beq_self_eq_true, cond_true, cond_false, List.all_cons, List.all_nil, List.getElem?_cons_zero, List.getElem?_cons_succ, List.nil_append, List.append_nil, Option.bind_some, Option.map_some, Option.some.injEq, exists_eq_left', exists_eq', exists_eq, Prod.mk.injEq, exists_and_left, hb1.c0, hb1.c1, hb1.c2, hb1.c3, hb1.ca, netLenS hb1, netLenA hb1, netLenE hb1, hA, eA, hB, decide_true, decide_false, hres, netErr, tooLarge, Bool.true_or, Bool.or_true, hk1]
  by_cases hC : 60000 < N.ends.length
  · simp only [↓Sh.stepDn, Sh.stepUp, seatFacts, exitTo, calm, isEff, Nat.reduceBEq, evs, evps, evo, isConst, reduceCtorEq, Nat.reduceEqDiff, resultsA, Sh.one, Sh.unit, forall_const, implies_true, eq_self, ne_eq, if_true, if_false, beq_self_eq_true, cond_true, cond_false, List.all_cons, List.all_nil, List.getElem?_cons_zero, List.getElem?_cons_succ, List.nil_append, List.append_nil, Option.bind_some, Option.map_some, Option.some.injEq, exists_eq_left', exists_eq', exists_eq, Prod.mk.injEq, exists_and_left, hb1.c0, hb1.c1, hb1.c2, hb1.c3, hb1.ca, netLenS hb1, netLenA hb1, netLenE hb1, hA, eA, eE, hB, hC, decide_true, decide_false, hres, netErr, tooLarge, Bool.true_or, Bool.or_true, hk1]
  have hT : tooLarge N = false := by simp [tooLarge, hA, hB, hC]
  simp only [↓Sh.stepDn, Sh.stepUp, seatFacts, exitTo, calm, isEff, Nat.reduceBEq, evs, evps, evo, isConst, reduceCtorEq, Nat.reduceEqDiff, resultsA, Sh.one, Sh.unit, forall_const, implies_true, eq_self, ne_eq, if_true, if_false, beq_self_eq_true, cond_true, cond_false, List.all_cons, List.all_nil, List.getElem?_cons_zero, List.getElem?_cons_succ, List.nil_append, List.append_nil, Option.bind_some, Option.map_some, Option.some.injEq, exists_eq_left', exists_eq', exists_eq, Prod.mk.injEq, exists_and_left, hb1.c0, hb1.c1, hb1.c2, hb1.c3, hb1.ca, netLenS hb1, netLenA hb1, netLenE hb1, hA, eA, eE, hB, hC, decide_true, decide_false, hres]
  obtain ⟨r, H2, hd, hk2, rfl⟩ := refSigma hb1.hsg hsm.sg hsm.sx hk1.wf
  refine ⟨_, _, hd, ?_⟩
  have hb2 := hb1.kept hk1.wf hk2
  have hk12 := hk1.trans hk2
  by_cases hS : sigErr N.sigma = 0
  case neg => simp only [↓Sh.stepDn, Sh.stepUp, seatFacts, exitTo, calm, isEff, Nat.reduceBEq, evs, evps, evo, isConst, reduceCtorEq, Nat.reduceEqDiff, resultsA, Sh.one, Sh.unit, forall_const, implies_true, eq_self, ne_eq, if_true, if_false, beq_self_eq_true, cond_true, cond_false, List.all_cons, List.all_nil, List.getElem?_cons_zero, List.getElem?_cons_succ, List.nil_append, List.append_nil, Option.bind_some, Option.map_some, Option.some.injEq, exists_eq_left', exists_eq', exists_eq, Prod.mk.injEq, exists_and_left, hS, decide_false, hres, netErr, hT, Bool.false_eq_true, if_false, ne_eq, not_false_eq_true, if_true, hk12]
  have hasc := sigErr_asc hS
  simp only [↓Sh.stepDn, Sh.stepUp, seatFacts, exitTo, calm, isEff, Nat.reduceBEq, evs, evps, evo, isConst, reduceCtorEq, Nat.reduceEqDiff, resultsA, Sh.one, Sh.unit, forall_const, implies_true, eq_self, ne_eq, if_true, if_false, beq_self_eq_true, cond_true, cond_false, List.all_cons, List.all_nil, List.getElem?_cons_zero, List.getElem?_cons_succ, List.nil_append, List.append_nil, Option.bind_some, Option.map_some, Option.some.injEq, exists_eq_left', exists_eq', exists_eq, Prod.mk.injEq, exists_and_left, hS, decide_true, hb2.c0, hb2.c1, hb2.c2, hb2.c3, hb2.ca, netLenS hb2, netLenA hb2, netLenE hb2]
  by_cases hst : N.states < 1
  · simp only [↓Sh.stepDn, Sh.stepUp, seatFacts, exitTo, calm, isEff, Nat.reduceBEq, evs, evps, evo, isConst, reduceCtorEq, Nat.reduceEqDiff, resultsA, Sh.one, Sh.unit, forall_const, implies_true, eq_self, ne_eq, if_true, if_false, beq_self_eq_true, cond_true, cond_false, List.all_cons, List.all_nil, List.getElem?_cons_zero, List.getElem?_cons_succ, List.nil_append, List.append_nil, Option.bind_some, Option.map_some, Option.some.injEq, exists_eq_left', exists_eq', exists_eq, Prod.mk.injEq, exists_and_left, hst, decide_true, hres, netErr, hT, hS, ne_eq, not_true_eq_false, if_false, if_true, hk12, Bool.false_eq_true]
  simp only [↓Sh.stepDn, Sh.stepUp, seatFacts, exitTo, calm, isEff, Nat.reduceBEq, evs, evps, evo, isConst, reduceCtorEq, Nat.reduceEqDiff, resultsA, Sh.one, Sh.unit, forall_const, implies_true, eq_self, ne_eq, if_true, if_false, beq_self_eq_true, cond_true, cond_false, List.all_cons, List.all_nil, List.getElem?_cons_zero, List.getElem?_cons_succ, List.nil_append, List.append_nil, Option.bind_some, Option.map_some, Option.some.injEq, exists_eq_left', exists_eq', exists_eq, Prod.mk.injEq, exists_and_left, hst, decide_false]
  have e1 : N.arcs.any (badArc N) = true → netErr N = 1 := by intro h; simp [netErr, hT, hS, hst, h]
  have e2 : N.ends.any (badEnd N) = true → netErr N = 1 := by intro h; simp [netErr, hT, hS, hst, h]
  have e3 : N.arcs.any (badArc N) = false → N.ends.any (badEnd N) = false → netErr N = 0 := by intro h h'; simp [netErr, hT, hS, hst, h, h']
  refine wp_for N.arcs.length 4 (List.range' 4 87 ++ [2]) (fun i F H' => Kept H2 H' ∧ (N.arcs.take i).any (badArc N) = false) (by simp only [↓Sh.stepDn, Sh.stepUp, seatFacts, exitTo, calm, isEff, Nat.reduceBEq, evs, evps, evo, isConst, reduceCtorEq, Nat.reduceEqDiff, resultsA, Sh.one, Sh.unit, forall_const, implies_true, eq_self, ne_eq, if_true, if_false, beq_self_eq_true, cond_true, cond_false, List.all_cons, List.all_nil, List.getElem?_cons_zero, List.getElem?_cons_succ, List.nil_append, List.append_nil, Option.bind_some, Option.map_some, Option.some.injEq, exists_eq_left', exists_eq', exists_eq, Prod.mk.injEq, exists_and_left]) ⟨Kept.refl hk12.wf, rfl⟩ ?_ ?_
  · rintro i F H' hlt hF f4 ⟨hk, hall⟩ k
    have f1 := hF 1 rfl
    simp only [↓Sh.stepDn, Sh.stepUp, seatFacts, exitTo, calm, isEff, Nat.reduceBEq, evs, evps, evo, isConst, reduceCtorEq, Nat.reduceEqDiff, resultsA, Sh.one, Sh.unit, forall_const, implies_true, eq_self, ne_eq, if_true, if_false, beq_self_eq_true, cond_true, cond_false, List.all_cons, List.all_nil, List.getElem?_cons_zero, List.getElem?_cons_succ, List.nil_append, List.append_nil, Option.bind_some, Option.map_some, Option.some.injEq, exists_eq_left', exists_eq', exists_eq, Prod.mk.injEq, exists_and_left] at f1
    have hb' := hb2.kept hk12.wf hk
    have hb3 := hb'.new hk.wf 5 (N.arcs[i].cells)
    have hk3 := hk.news 5 (N.arcs[i].cells)
    obtain ⟨g, o, kk, hia, hc, hcc⟩ := hb'.har.at Try.underlying23 size_43 (i := i) (x := N.arcs[i].cells) (by simp [hlt]) .i64
    clear hcc
    have hin : N.arcs[i] ∈ N.arcs := List.getElem_mem hlt
    have hnext : badArc N N.arcs[i] = false → (N.arcs.take (i + 1)).any (badArc N) = false := by
      intro h
      rw [List.take_add_one, List.getElem?_eq_getElem hlt]
      simp only [Option.toList, List.any_append, hall, List.any_cons, List.any_nil, h, Bool.or_false]
    have hbad : badArc N N.arcs[i] = true → netErr N = 1 := fun h => e1 (List.any_eq_true.2 ⟨_, hin, h⟩)
    generalize N.arcs[i] = a at hb3 hk3 hc hnext hbad
    have hi2 := isIn (x := a.inn) hb3.hsg hasc hsm.sg hk3.wf
    simp only [↓Sh.stepDn, Sh.stepUp, seatFacts, exitTo, calm, isEff, Nat.reduceBEq, evs, evps, evo, isConst, reduceCtorEq, Nat.reduceEqDiff, resultsA, Sh.one, Sh.unit, forall_const, implies_true, eq_self, ne_eq, if_true, if_false, beq_self_eq_true, cond_true, cond_false, List.all_cons, List.all_nil, List.getElem?_cons_zero, List.getElem?_cons_succ, List.nil_append, List.append_nil, Option.bind_some, Option.map_some, Option.some.injEq, exists_eq_left', exists_eq', exists_eq, Prod.mk.injEq, exists_and_left, hb'.c0, hb'.c1, hb'.c2, hb'.c3, hb'.ca, netLenS hb', netLenA hb', netLenE hb', netZero, arcZero, endZero, arcNew, endNew, arcStore, endStore, arcOver, endOver, netOver, arc0, arc1, arc2, arc3, arc4, end0, end1, f1, f4, Option.map_some, nat_lt, hlt, decide_true, hia, hc, hres]
    by_cases h1 : a.fr < 0
    · simp only [↓Sh.stepDn, Sh.stepUp, seatFacts, exitTo, calm, isEff, Nat.reduceBEq, evs, evps, evo, isConst, reduceCtorEq, Nat.reduceEqDiff, resultsA, Sh.one, Sh.unit, forall_const, implies_true, eq_self, ne_eq, if_true, if_false, beq_self_eq_true, cond_true, cond_false, List.all_cons, List.all_nil, List.getElem?_cons_zero, List.getElem?_cons_succ, List.nil_append, List.append_nil, Option.bind_some, Option.map_some, Option.some.injEq, exists_eq_left', exists_eq', exists_eq, Prod.mk.injEq, exists_and_left, hb3.c0, hb3.c1, hb3.c2, hb3.c3, hb3.ca, netLenS hb3, netLenA hb3, netLenE hb3, netZero, arcZero, endZero, arcNew, endNew, arcStore, endStore, arcOver, endOver, netOver, arc0, arc1, arc2, arc3, arc4, end0, end1, h1, decide_true, hres, hbad (by simp [badArc, h1]), hk12.trans hk3]
    simp only [↓Sh.stepDn, Sh.stepUp, seatFacts, exitTo, calm, isEff, Nat.reduceBEq, evs, evps, evo, isConst, reduceCtorEq, Nat.reduceEqDiff, resultsA, Sh.one, Sh.unit, forall_const, implies_true, eq_self, ne_eq, if_true, if_false, beq_self_eq_true, cond_true, cond_false, List.all_cons, List.all_nil, List.getElem?_cons_zero, List.getElem?_cons_succ, List.nil_append, List.append_nil, Option.bind_some, Option.map_some, Option.some.injEq, exists_eq_left', exists_eq', exists_eq, Prod.mk.injEq, exists_and_left, hb3.c0, hb3.c1, hb3.c2, hb3.c3, hb3.ca, netLenS hb3, netLenA hb3, netLenE hb3, netZero, arcZero, endZero, arcNew, endNew, arcStore, endStore, arcOver, endOver, netOver, arc0, arc1, arc2, arc3, arc4, end0, end1, f1, h1, decide_false]
    by_cases h2 : N.states ≤ a.fr
    · simp only [↓Sh.stepDn, Sh.stepUp, seatFacts, exitTo, calm, isEff, Nat.reduceBEq, evs, evps, evo, isConst, reduceCtorEq, Nat.reduceEqDiff, resultsA, Sh.one, Sh.unit, forall_const, implies_true, eq_self, ne_eq, if_true, if_false, beq_self_eq_true, cond_true, cond_false, List.all_cons, List.all_nil, List.getElem?_cons_zero, List.getElem?_cons_succ, List.nil_append, List.append_nil, Option.bind_some, Option.map_some, Option.some.injEq, exists_eq_left', exists_eq', exists_eq, Prod.mk.injEq, exists_and_left, hb3.c0, hb3.c1, hb3.c2, hb3.c3, hb3.ca, netLenS hb3, netLenA hb3, netLenE hb3, netZero, arcZero, endZero, arcNew, endNew, arcStore, endStore, arcOver, endOver, netOver, arc0, arc1, arc2, arc3, arc4, end0, end1, h2, decide_true, hres, hbad (by simp [badArc, h2]), hk12.trans hk3]
    simp only [↓Sh.stepDn, Sh.stepUp, seatFacts, exitTo, calm, isEff, Nat.reduceBEq, evs, evps, evo, isConst, reduceCtorEq, Nat.reduceEqDiff, resultsA, Sh.one, Sh.unit, forall_const, implies_true, eq_self, ne_eq, if_true, if_false, beq_self_eq_true, cond_true, cond_false, List.all_cons, List.all_nil, List.getElem?_cons_zero, List.getElem?_cons_succ, List.nil_append, List.append_nil, Option.bind_some, Option.map_some, Option.some.injEq, exists_eq_left', exists_eq', exists_eq, Prod.mk.injEq, exists_and_left, hb3.c0, hb3.c1, hb3.c2, hb3.c3, hb3.ca, netLenS hb3, netLenA hb3, netLenE hb3, netZero, arcZero, endZero, arcNew, endNew, arcStore, endStore, arcOver, endOver, netOver, arc0, arc1, arc2, arc3, arc4, end0, end1, f1, h2, decide_false]
    by_cases h3 : a.to < 0
    · simp only [↓Sh.stepDn, Sh.stepUp, seatFacts, exitTo, calm, isEff, Nat.reduceBEq, evs, evps, evo, isConst, reduceCtorEq, Nat.reduceEqDiff, resultsA, Sh.one, Sh.unit, forall_const, implies_true, eq_self, ne_eq, if_true, if_false, beq_self_eq_true, cond_true, cond_false, List.all_cons, List.all_nil, List.getElem?_cons_zero, List.getElem?_cons_succ, List.nil_append, List.append_nil, Option.bind_some, Option.map_some, Option.some.injEq, exists_eq_left', exists_eq', exists_eq, Prod.mk.injEq, exists_and_left, hb3.c0, hb3.c1, hb3.c2, hb3.c3, hb3.ca, netLenS hb3, netLenA hb3, netLenE hb3, netZero, arcZero, endZero, arcNew, endNew, arcStore, endStore, arcOver, endOver, netOver, arc0, arc1, arc2, arc3, arc4, end0, end1, h3, decide_true, hres, hbad (by simp [badArc, h3]), hk12.trans hk3]
    simp only [↓Sh.stepDn, Sh.stepUp, seatFacts, exitTo, calm, isEff, Nat.reduceBEq, evs, evps, evo, isConst, reduceCtorEq, Nat.reduceEqDiff, resultsA, Sh.one, Sh.unit, forall_const, implies_true, eq_self, ne_eq, if_true, if_false, beq_self_eq_true, cond_true, cond_false, List.all_cons, List.all_nil, List.getElem?_cons_zero, List.getElem?_cons_succ, List.nil_append, List.append_nil, Option.bind_some, Option.map_some, Option.some.injEq, exists_eq_left', exists_eq', exists_eq, Prod.mk.injEq, exists_and_left, hb3.c0, hb3.c1, hb3.c2, hb3.c3, hb3.ca, netLenS hb3, netLenA hb3, netLenE hb3, netZero, arcZero, endZero, arcNew, endNew, arcStore, endStore, arcOver, endOver, netOver, arc0, arc1, arc2, arc3, arc4, end0, end1, f1, h3, decide_false]
    by_cases h4 : N.states ≤ a.to
    · simp only [↓Sh.stepDn, Sh.stepUp, seatFacts, exitTo, calm, isEff, Nat.reduceBEq, evs, evps, evo, isConst, reduceCtorEq, Nat.reduceEqDiff, resultsA, Sh.one, Sh.unit, forall_const, implies_true, eq_self, ne_eq, if_true, if_false, beq_self_eq_true, cond_true, cond_false, List.all_cons, List.all_nil, List.getElem?_cons_zero, List.getElem?_cons_succ, List.nil_append, List.append_nil, Option.bind_some, Option.map_some, Option.some.injEq, exists_eq_left', exists_eq', exists_eq, Prod.mk.injEq, exists_and_left, hb3.c0, hb3.c1, hb3.c2, hb3.c3, hb3.ca, netLenS hb3, netLenA hb3, netLenE hb3, netZero, arcZero, endZero, arcNew, endNew, arcStore, endStore, arcOver, endOver, netOver, arc0, arc1, arc2, arc3, arc4, end0, end1, h4, decide_true, hres, hbad (by simp [badArc, h4]), hk12.trans hk3]
    simp only [↓Sh.stepDn, Sh.stepUp, seatFacts, exitTo, calm, isEff, Nat.reduceBEq, evs, evps, evo, isConst, reduceCtorEq, Nat.reduceEqDiff, resultsA, Sh.one, Sh.unit, forall_const, implies_true, eq_self, ne_eq, if_true, if_false, beq_self_eq_true, cond_true, cond_false, List.all_cons, List.all_nil, List.getElem?_cons_zero, List.getElem?_cons_succ, List.nil_append, List.append_nil, Option.bind_some, Option.map_some, Option.some.injEq, exists_eq_left', exists_eq', exists_eq, Prod.mk.injEq, exists_and_left, hb3.c0, hb3.c1, hb3.c2, hb3.c3, hb3.ca, netLenS hb3, netLenA hb3, netLenE hb3, netZero, arcZero, endZero, arcNew, endNew, arcStore, endStore, arcOver, endOver, netOver, arc0, arc1, arc2, arc3, arc4, end0, end1, f1, h4, decide_false]
    have hgo : badSym N a.inn = false → badSym N a.out = false → badArc N a = false := by intro h h'; simp [badArc, h1, h2, h3, h4, h, h']
    -- the symbol below
    have hout : ∀ (H4 : AH) (F4 : Fr), Kept (H'.new 5 a.cells).2 H4 → badSym N a.inn = false → True := fun _ _ _ _ => trivial
    by_cases h5 : a.inn = ⟨#[]⟩
    · have hI : badSym N a.inn = false := by simp [badSym, h5]
      simp only [↓Sh.stepDn, Sh.stepUp, seatFacts, exitTo, calm, isEff, Nat.reduceBEq, evs, evps, evo, isConst, reduceCtorEq, Nat.reduceEqDiff, resultsA, Sh.one, Sh.unit, forall_const, implies_true, eq_self, ne_eq, if_true, if_false, beq_self_eq_true, cond_true, cond_false, List.all_cons, List.all_nil, List.getElem?_cons_zero, List.getElem?_cons_succ, List.nil_append, List.append_nil, Option.bind_some, Option.map_some, Option.some.injEq, exists_eq_left', exists_eq', exists_eq, Prod.mk.injEq, exists_and_left, hb3.c0, hb3.c1, hb3.c2, hb3.c3, hb3.ca, netLenS hb3, netLenA hb3, netLenE hb3, netZero, arcZero, endZero, arcNew, endNew, arcStore, endStore, arcOver, endOver, netOver, arc0, arc1, arc2, arc3, arc4, end0, end1, f1, h5, decide_true]
      by_cases h6 : a.out = ⟨#[]⟩
      · have hO : badSym N a.out = false := by simp [badSym, h6]
        simp only [↓Sh.stepDn, Sh.stepUp, seatFacts, exitTo, calm, isEff, Nat.reduceBEq, evs, evps, evo, isConst, reduceCtorEq, Nat.reduceEqDiff, resultsA, Sh.one, Sh.unit, forall_const, implies_true, eq_self, ne_eq, if_true, if_false, beq_self_eq_true, cond_true, cond_false, List.all_cons, List.all_nil, List.getElem?_cons_zero, List.getElem?_cons_succ, List.nil_append, List.append_nil, Option.bind_some, Option.map_some, Option.some.injEq, exists_eq_left', exists_eq', exists_eq, Prod.mk.injEq, exists_and_left, hb3.c0, hb3.c1, hb3.c2, hb3.c3, hb3.ca, netLenS hb3, netLenA hb3, netLenE hb3, netZero, arcZero, endZero, arcNew, endNew, arcStore, endStore, arcOver, endOver, netOver, arc0, arc1, arc2, arc3, arc4, end0, end1, f1, f4, h6, decide_true, wrap_succ hlt hsm.ar]
        exact k _ _ (by repeat (first | refine Same.put ?_ rfl | exact Same.rfl' _)) (by simp only [↓Sh.stepDn, Sh.stepUp, seatFacts, exitTo, calm, isEff, Nat.reduceBEq, evs, evps, evo, isConst, reduceCtorEq, Nat.reduceEqDiff, resultsA, Sh.one, Sh.unit, forall_const, implies_true, eq_self, ne_eq, if_true, if_false, beq_self_eq_true, cond_true, cond_false, List.all_cons, List.all_nil, List.getElem?_cons_zero, List.getElem?_cons_succ, List.nil_append, List.append_nil, Option.bind_some, Option.map_some, Option.some.injEq, exists_eq_left', exists_eq', exists_eq, Prod.mk.injEq, exists_and_left]) ⟨hk3, hnext (hgo hI hO)⟩
      · obtain ⟨r, H4, hd4, hk4, rfl⟩ := isIn (x := a.out) hb3.hsg hasc hsm.sg hk3.wf
        simp only [↓Sh.stepDn, Sh.stepUp, seatFacts, exitTo, calm, isEff, Nat.reduceBEq, evs, evps, evo, isConst, reduceCtorEq, Nat.reduceEqDiff, resultsA, Sh.one, Sh.unit, forall_const, implies_true, eq_self, ne_eq, if_true, if_false, beq_self_eq_true, cond_true, cond_false, List.all_cons, List.all_nil, List.getElem?_cons_zero, List.getElem?_cons_succ, List.nil_append, List.append_nil, Option.bind_some, Option.map_some, Option.some.injEq, exists_eq_left', exists_eq', exists_eq, Prod.mk.injEq, exists_and_left, hb3.c0, hb3.c1, hb3.c2, hb3.c3, hb3.ca, netLenS hb3, netLenA hb3, netLenE hb3, netZero, arcZero, endZero, arcNew, endNew, arcStore, endStore, arcOver, endOver, netOver, arc0, arc1, arc2, arc3, arc4, end0, end1, f1, h6, decide_false]
        refine ⟨_, _, hd4, ?_⟩
        cases h7 : strIn N.sigma a.out with
        | true =>
          have hO : badSym N a.out = false := by simp [badSym, h7]
          simp only [↓Sh.stepDn, Sh.stepUp, seatFacts, exitTo, calm, isEff, Nat.reduceBEq, evs, evps, evo, isConst, reduceCtorEq, Nat.reduceEqDiff, resultsA, Sh.one, Sh.unit, forall_const, implies_true, eq_self, ne_eq, if_true, if_false, beq_self_eq_true, cond_true, cond_false, List.all_cons, List.all_nil, List.getElem?_cons_zero, List.getElem?_cons_succ, List.nil_append, List.append_nil, Option.bind_some, Option.map_some, Option.some.injEq, exists_eq_left', exists_eq', exists_eq, Prod.mk.injEq, exists_and_left, f4, wrap_succ hlt hsm.ar]
          exact k _ _ (by repeat (first | refine Same.put ?_ rfl | exact Same.rfl' _)) (by simp only [↓Sh.stepDn, Sh.stepUp, seatFacts, exitTo, calm, isEff, Nat.reduceBEq, evs, evps, evo, isConst, reduceCtorEq, Nat.reduceEqDiff, resultsA, Sh.one, Sh.unit, forall_const, implies_true, eq_self, ne_eq, if_true, if_false, beq_self_eq_true, cond_true, cond_false, List.all_cons, List.all_nil, List.getElem?_cons_zero, List.getElem?_cons_succ, List.nil_append, List.append_nil, Option.bind_some, Option.map_some, Option.some.injEq, exists_eq_left', exists_eq', exists_eq, Prod.mk.injEq, exists_and_left]) ⟨hk3.trans hk4, hnext (hgo hI hO)⟩
        | false =>
          simp only [↓Sh.stepDn, Sh.stepUp, seatFacts, exitTo, calm, isEff, Nat.reduceBEq, evs, evps, evo, isConst, reduceCtorEq, Nat.reduceEqDiff, resultsA, Sh.one, Sh.unit, forall_const, implies_true, eq_self, ne_eq, if_true, if_false, beq_self_eq_true, cond_true, cond_false, List.all_cons, List.all_nil, List.getElem?_cons_zero, List.getElem?_cons_succ, List.nil_append, List.append_nil, Option.bind_some, Option.map_some, Option.some.injEq, exists_eq_left', exists_eq', exists_eq, Prod.mk.injEq, exists_and_left, hres, hbad (by simp [badArc, badSym, h6, h7]), (hk12.trans hk3).trans hk4]
    · obtain ⟨r, H4, hd4, hk4, rfl⟩ := isIn (x := a.inn) hb3.hsg hasc hsm.sg hk3.wf
      simp only [↓Sh.stepDn, Sh.stepUp, seatFacts, exitTo, calm, isEff, Nat.reduceBEq, evs, evps, evo, isConst, reduceCtorEq, Nat.reduceEqDiff, resultsA, Sh.one, Sh.unit, forall_const, implies_true, eq_self, ne_eq, if_true, if_false, beq_self_eq_true, cond_true, cond_false, List.all_cons, List.all_nil, List.getElem?_cons_zero, List.getElem?_cons_succ, List.nil_append, List.append_nil, Option.bind_some, Option.map_some, Option.some.injEq, exists_eq_left', exists_eq', exists_eq, Prod.mk.injEq, exists_and_left, hb3.c0, hb3.c1, hb3.c2, hb3.c3, hb3.ca, netLenS hb3, netLenA hb3, netLenE hb3, netZero, arcZero, endZero, arcNew, endNew, arcStore, endStore, arcOver, endOver, netOver, arc0, arc1, arc2, arc3, arc4, end0, end1, f1, h5, decide_false]
      refine ⟨_, _, hd4, ?_⟩
      have hb4 := hb3.kept hk3.wf hk4
      have q2 := cell_grow (hk4.grow hk3.wf) (arc2 (H := H') (a := a))
      cases h7 : strIn N.sigma a.inn with
      | false =>
        simp only [↓Sh.stepDn, Sh.stepUp, seatFacts, exitTo, calm, isEff, Nat.reduceBEq, evs, evps, evo, isConst, reduceCtorEq, Nat.reduceEqDiff, resultsA, Sh.one, Sh.unit, forall_const, implies_true, eq_self, ne_eq, if_true, if_false, beq_self_eq_true, cond_true, cond_false, List.all_cons, List.all_nil, List.getElem?_cons_zero, List.getElem?_cons_succ, List.nil_append, List.append_nil, Option.bind_some, Option.map_some, Option.some.injEq, exists_eq_left', exists_eq', exists_eq, Prod.mk.injEq, exists_and_left, hres, hbad (by simp [badArc, badSym, h5, h7]), (hk12.trans hk3).trans hk4]
      | true =>
        have hI : badSym N a.inn = false := by simp [badSym, h7]
        simp only [↓Sh.stepDn, Sh.stepUp, seatFacts, exitTo, calm, isEff, Nat.reduceBEq, evs, evps, evo, isConst, reduceCtorEq, Nat.reduceEqDiff, resultsA, Sh.one, Sh.unit, forall_const, implies_true, eq_self, ne_eq, if_true, if_false, beq_self_eq_true, cond_true, cond_false, List.all_cons, List.all_nil, List.getElem?_cons_zero, List.getElem?_cons_succ, List.nil_append, List.append_nil, Option.bind_some, Option.map_some, Option.some.injEq, exists_eq_left', exists_eq', exists_eq, Prod.mk.injEq, exists_and_left, hb4.c0, hb4.c1, hb4.c2, hb4.c3, hb4.ca, netLenS hb4, netLenA hb4, netLenE hb4, q2, f1]
        by_cases h6 : a.out = ⟨#[]⟩
        · have hO : badSym N a.out = false := by simp [badSym, h6]
          simp only [↓Sh.stepDn, Sh.stepUp, seatFacts, exitTo, calm, isEff, Nat.reduceBEq, evs, evps, evo, isConst, reduceCtorEq, Nat.reduceEqDiff, resultsA, Sh.one, Sh.unit, forall_const, implies_true, eq_self, ne_eq, if_true, if_false, beq_self_eq_true, cond_true, cond_false, List.all_cons, List.all_nil, List.getElem?_cons_zero, List.getElem?_cons_succ, List.nil_append, List.append_nil, Option.bind_some, Option.map_some, Option.some.injEq, exists_eq_left', exists_eq', exists_eq, Prod.mk.injEq, exists_and_left, hb4.c0, hb4.c1, hb4.c2, hb4.c3, hb4.ca, netLenS hb4, netLenA hb4, netLenE hb4, q2, f1, f4, h6, decide_true, wrap_succ hlt hsm.ar]
          exact k _ _ (by repeat (first | refine Same.put ?_ rfl | exact Same.rfl' _)) (by simp only [↓Sh.stepDn, Sh.stepUp, seatFacts, exitTo, calm, isEff, Nat.reduceBEq, evs, evps, evo, isConst, reduceCtorEq, Nat.reduceEqDiff, resultsA, Sh.one, Sh.unit, forall_const, implies_true, eq_self, ne_eq, if_true, if_false, beq_self_eq_true, cond_true, cond_false, List.all_cons, List.all_nil, List.getElem?_cons_zero, List.getElem?_cons_succ, List.nil_append, List.append_nil, Option.bind_some, Option.map_some, Option.some.injEq, exists_eq_left', exists_eq', exists_eq, Prod.mk.injEq, exists_and_left]) ⟨hk3.trans hk4, hnext (hgo hI hO)⟩
        · obtain ⟨r, H5, hd5, hk5, rfl⟩ := isIn (x := a.out) hb4.hsg hasc hsm.sg hk4.wf
          simp only [↓Sh.stepDn, Sh.stepUp, seatFacts, exitTo, calm, isEff, Nat.reduceBEq, evs, evps, evo, isConst, reduceCtorEq, Nat.reduceEqDiff, resultsA, Sh.one, Sh.unit, forall_const, implies_true, eq_self, ne_eq, if_true, if_false, beq_self_eq_true, cond_true, cond_false, List.all_cons, List.all_nil, List.getElem?_cons_zero, List.getElem?_cons_succ, List.nil_append, List.append_nil, Option.bind_some, Option.map_some, Option.some.injEq, exists_eq_left', exists_eq', exists_eq, Prod.mk.injEq, exists_and_left, hb4.c0, hb4.c1, hb4.c2, hb4.c3, hb4.ca, netLenS hb4, netLenA hb4, netLenE hb4, q2, f1, h6, decide_false]
          refine ⟨_, _, hd5, ?_⟩
          cases h8 : strIn N.sigma a.out with
          | true =>
            have hO : badSym N a.out = false := by simp [badSym, h8]
            simp only [↓Sh.stepDn, Sh.stepUp, seatFacts, exitTo, calm, isEff, Nat.reduceBEq, evs, evps, evo, isConst, reduceCtorEq, Nat.reduceEqDiff, resultsA, Sh.one, Sh.unit, forall_const, implies_true, eq_self, ne_eq, if_true, if_false, beq_self_eq_true, cond_true, cond_false, List.all_cons, List.all_nil, List.getElem?_cons_zero, List.getElem?_cons_succ, List.nil_append, List.append_nil, Option.bind_some, Option.map_some, Option.some.injEq, exists_eq_left', exists_eq', exists_eq, Prod.mk.injEq, exists_and_left, f4, wrap_succ hlt hsm.ar]
            exact k _ _ (by repeat (first | refine Same.put ?_ rfl | exact Same.rfl' _)) (by simp only [↓Sh.stepDn, Sh.stepUp, seatFacts, exitTo, calm, isEff, Nat.reduceBEq, evs, evps, evo, isConst, reduceCtorEq, Nat.reduceEqDiff, resultsA, Sh.one, Sh.unit, forall_const, implies_true, eq_self, ne_eq, if_true, if_false, beq_self_eq_true, cond_true, cond_false, List.all_cons, List.all_nil, List.getElem?_cons_zero, List.getElem?_cons_succ, List.nil_append, List.append_nil, Option.bind_some, Option.map_some, Option.some.injEq, exists_eq_left', exists_eq', exists_eq, Prod.mk.injEq, exists_and_left]) ⟨(hk3.trans hk4).trans hk5, hnext (hgo hI hO)⟩
          | false =>
            simp only [↓Sh.stepDn, Sh.stepUp, seatFacts, exitTo, calm, isEff, Nat.reduceBEq, evs, evps, evo, isConst, reduceCtorEq, Nat.reduceEqDiff, resultsA, Sh.one, Sh.unit, forall_const, implies_true, eq_self, ne_eq, if_true, if_false, beq_self_eq_true, cond_true, cond_false, List.all_cons, List.all_nil, List.getElem?_cons_zero, List.getElem?_cons_succ, List.nil_append, List.append_nil, Option.bind_some, Option.map_some, Option.some.injEq, exists_eq_left', exists_eq', exists_eq, Prod.mk.injEq, exists_and_left, hres, hbad (by simp [badArc, badSym, h6, h8]), ((hk12.trans hk3).trans hk4).trans hk5]
  · rintro F H' hF f4 ⟨hk, hall⟩
    have f1 := hF 1 rfl
    simp only [↓Sh.stepDn, Sh.stepUp, seatFacts, exitTo, calm, isEff, Nat.reduceBEq, evs, evps, evo, isConst, reduceCtorEq, Nat.reduceEqDiff, resultsA, Sh.one, Sh.unit, forall_const, implies_true, eq_self, ne_eq, if_true, if_false, beq_self_eq_true, cond_true, cond_false, List.all_cons, List.all_nil, List.getElem?_cons_zero, List.getElem?_cons_succ, List.nil_append, List.append_nil, Option.bind_some, Option.map_some, Option.some.injEq, exists_eq_left', exists_eq', exists_eq, Prod.mk.injEq, exists_and_left] at f1
    rw [List.take_length] at hall
    have hb' := hb2.kept hk12.wf hk
    have hkk := hk12.trans hk
    simp only [↓Sh.stepDn, Sh.stepUp, seatFacts, exitTo, calm, isEff, Nat.reduceBEq, evs, evps, evo, isConst, reduceCtorEq, Nat.reduceEqDiff, resultsA, Sh.one, Sh.unit, forall_const, implies_true, eq_self, ne_eq, if_true, if_false, beq_self_eq_true, cond_true, cond_false, List.all_cons, List.all_nil, List.getElem?_cons_zero, List.getElem?_cons_succ, List.nil_append, List.append_nil, Option.bind_some, Option.map_some, Option.some.injEq, exists_eq_left', exists_eq', exists_eq, Prod.mk.injEq, exists_and_left, hb'.c0, hb'.c1, hb'.c2, hb'.c3, hb'.ca, netLenS hb', netLenA hb', netLenE hb', f1, f4, nat_lt, Nat.lt_irrefl, decide_false]
    refine wp_for N.ends.length 6 (List.range' 91 26 ++ [2, 6]) (fun i F H'' => H'' = H' ∧ (N.ends.take i).any (badEnd N) = false) (by simp only [↓Sh.stepDn, Sh.stepUp, seatFacts, exitTo, calm, isEff, Nat.reduceBEq, evs, evps, evo, isConst, reduceCtorEq, Nat.reduceEqDiff, resultsA, Sh.one, Sh.unit, forall_const, implies_true, eq_self, ne_eq, if_true, if_false, beq_self_eq_true, cond_true, cond_false, List.all_cons, List.all_nil, List.getElem?_cons_zero, List.getElem?_cons_succ, List.nil_append, List.append_nil, Option.bind_some, Option.map_some, Option.some.injEq, exists_eq_left', exists_eq', exists_eq, Prod.mk.injEq, exists_and_left]) ⟨rfl, rfl⟩ ?_ ?_
    · rintro i F2 H'' hlt hF2 f6 ⟨rfl, hall2⟩ k
      have g1 := hF2 1 rfl
      simp only [↓Sh.stepDn, Sh.stepUp, seatFacts, exitTo, calm, isEff, Nat.reduceBEq, evs, evps, evo, isConst, reduceCtorEq, Nat.reduceEqDiff, resultsA, Sh.one, Sh.unit, forall_const, implies_true, eq_self, ne_eq, if_true, if_false, beq_self_eq_true, cond_true, cond_false, List.all_cons, List.all_nil, List.getElem?_cons_zero, List.getElem?_cons_succ, List.nil_append, List.append_nil, Option.bind_some, Option.map_some, Option.some.injEq, exists_eq_left', exists_eq', exists_eq, Prod.mk.injEq, exists_and_left, f1] at g1
      obtain ⟨g, o, kk, hia, hc, hcc⟩ := hb'.hen.at Try.underlying24 size_45 (i := i) (x := N.ends[i].cells) (by simp [hlt]) .i64
      have q0 := hcc 0 _ rfl
      simp only [Nat.add_zero] at q0
      have hbad : badEnd N N.ends[i] = true → netErr N = 1 := fun h => e2 (List.any_eq_true.2 ⟨_, List.getElem_mem hlt, h⟩)
      simp only [↓Sh.stepDn, Sh.stepUp, seatFacts, exitTo, calm, isEff, Nat.reduceBEq, evs, evps, evo, isConst, reduceCtorEq, Nat.reduceEqDiff, resultsA, Sh.one, Sh.unit, forall_const, implies_true, eq_self, ne_eq, if_true, if_false, beq_self_eq_true, cond_true, cond_false, List.all_cons, List.all_nil, List.getElem?_cons_zero, List.getElem?_cons_succ, List.nil_append, List.append_nil, Option.bind_some, Option.map_some, Option.some.injEq, exists_eq_left', exists_eq', exists_eq, Prod.mk.injEq, exists_and_left, hb'.c0, hb'.c1, hb'.c2, hb'.c3, hb'.ca, netLenS hb', netLenA hb', netLenE hb', g1, f6, nat_lt, hlt, decide_true, hia, q0, Nat.add_zero]
      by_cases h1 : N.ends[i].state < 0
      · simp only [↓Sh.stepDn, Sh.stepUp, seatFacts, exitTo, calm, isEff, Nat.reduceBEq, evs, evps, evo, isConst, reduceCtorEq, Nat.reduceEqDiff, resultsA, Sh.one, Sh.unit, forall_const, implies_true, eq_self, ne_eq, if_true, if_false, beq_self_eq_true, cond_true, cond_false, List.all_cons, List.all_nil, List.getElem?_cons_zero, List.getElem?_cons_succ, List.nil_append, List.append_nil, Option.bind_some, Option.map_some, Option.some.injEq, exists_eq_left', exists_eq', exists_eq, Prod.mk.injEq, exists_and_left, h1, decide_true, hres, hbad (by simp [badEnd, h1]), hkk]
      simp only [↓Sh.stepDn, Sh.stepUp, seatFacts, exitTo, calm, isEff, Nat.reduceBEq, evs, evps, evo, isConst, reduceCtorEq, Nat.reduceEqDiff, resultsA, Sh.one, Sh.unit, forall_const, implies_true, eq_self, ne_eq, if_true, if_false, beq_self_eq_true, cond_true, cond_false, List.all_cons, List.all_nil, List.getElem?_cons_zero, List.getElem?_cons_succ, List.nil_append, List.append_nil, Option.bind_some, Option.map_some, Option.some.injEq, exists_eq_left', exists_eq', exists_eq, Prod.mk.injEq, exists_and_left, hb'.c0, hb'.c1, hb'.c2, hb'.c3, hb'.ca, netLenS hb', netLenA hb', netLenE hb', g1, f6, hia, q0, h1, decide_false]
      by_cases h2 : N.states ≤ N.ends[i].state
      · simp only [↓Sh.stepDn, Sh.stepUp, seatFacts, exitTo, calm, isEff, Nat.reduceBEq, evs, evps, evo, isConst, reduceCtorEq, Nat.reduceEqDiff, resultsA, Sh.one, Sh.unit, forall_const, implies_true, eq_self, ne_eq, if_true, if_false, beq_self_eq_true, cond_true, cond_false, List.all_cons, List.all_nil, List.getElem?_cons_zero, List.getElem?_cons_succ, List.nil_append, List.append_nil, Option.bind_some, Option.map_some, Option.some.injEq, exists_eq_left', exists_eq', exists_eq, Prod.mk.injEq, exists_and_left, h2, decide_true, hres, hbad (by simp [badEnd, h2]), hkk]
      simp only [↓Sh.stepDn, Sh.stepUp, seatFacts, exitTo, calm, isEff, Nat.reduceBEq, evs, evps, evo, isConst, reduceCtorEq, Nat.reduceEqDiff, resultsA, Sh.one, Sh.unit, forall_const, implies_true, eq_self, ne_eq, if_true, if_false, beq_self_eq_true, cond_true, cond_false, List.all_cons, List.all_nil, List.getElem?_cons_zero, List.getElem?_cons_succ, List.nil_append, List.append_nil, Option.bind_some, Option.map_some, Option.some.injEq, exists_eq_left', exists_eq', exists_eq, Prod.mk.injEq, exists_and_left, f6, h2, decide_false, wrap_succ hlt hsm.en]
      refine k _ _ (by repeat (first | refine Same.put ?_ rfl | exact Same.rfl' _)) (by simp only [↓Sh.stepDn, Sh.stepUp, seatFacts, exitTo, calm, isEff, Nat.reduceBEq, evs, evps, evo, isConst, reduceCtorEq, Nat.reduceEqDiff, resultsA, Sh.one, Sh.unit, forall_const, implies_true, eq_self, ne_eq, if_true, if_false, beq_self_eq_true, cond_true, cond_false, List.all_cons, List.all_nil, List.getElem?_cons_zero, List.getElem?_cons_succ, List.nil_append, List.append_nil, Option.bind_some, Option.map_some, Option.some.injEq, exists_eq_left', exists_eq', exists_eq, Prod.mk.injEq, exists_and_left]) ⟨rfl, ?_⟩
      rw [List.take_add_one, List.getElem?_eq_getElem hlt]
      simp only [Option.toList, List.any_append, hall2, List.any_cons, List.any_nil, Bool.or_false, badEnd, h1, h2, decide_false]
    · rintro F2 H'' hF2 f6 ⟨rfl, hall2⟩
      have g1 := hF2 1 rfl
      simp only [↓Sh.stepDn, Sh.stepUp, seatFacts, exitTo, calm, isEff, Nat.reduceBEq, evs, evps, evo, isConst, reduceCtorEq, Nat.reduceEqDiff, resultsA, Sh.one, Sh.unit, forall_const, implies_true, eq_self, ne_eq, if_true, if_false, beq_self_eq_true, cond_true, cond_false, List.all_cons, List.all_nil, List.getElem?_cons_zero, List.getElem?_cons_succ, List.nil_append, List.append_nil, Option.bind_some, Option.map_some, Option.some.injEq, exists_eq_left', exists_eq', exists_eq, Prod.mk.injEq, exists_and_left, f1] at g1
      rw [List.take_length] at hall2
      simp only [↓Sh.stepDn, Sh.stepUp, seatFacts, exitTo, calm, isEff, Nat.reduceBEq, evs, evps, evo, isConst, reduceCtorEq, Nat.reduceEqDiff, resultsA, Sh.one, Sh.unit, forall_const, implies_true, eq_self, ne_eq, if_true, if_false, beq_self_eq_true, cond_true, cond_false, List.all_cons, List.all_nil, List.getElem?_cons_zero, List.getElem?_cons_succ, List.nil_append, List.append_nil, Option.bind_some, Option.map_some, Option.some.injEq, exists_eq_left', exists_eq', exists_eq, Prod.mk.injEq, exists_and_left, hb'.c0, hb'.c1, hb'.c2, hb'.c3, hb'.ca, netLenS hb', netLenA hb', netLenE hb', g1, f6, nat_lt, Nat.lt_irrefl, decide_false, hres, e3 hall hall2, hkk]
end Go.Proofs.Ytfcmpclbhnjkgaa
/- syms.isLong and syms.isSymbol. -/
set_option maxHeartbeats 4000000
set_option linter.unusedSimpArgs false
set_option linter.unusedVariables false
set_option pp.deepTerms.threshold 8
namespace Go.Proofs.Ytfcmpclbhnjkgaa
open Go Go.Proofs Go.Proofs.Sh
theorem symsIsLong {H : AH} {x : ByteArray} : Sh.Call Try.prog (knows 6) 57 [.string x] H (fun r H' => H' = H ∧ r = .bool (decide (16 < x.size))) := by
  refine call_of rfl Try.func57 rfl (Nat.le_of_ble_eq_true rfl) ?_
  have hres : Try.f57.results.toList = [.tmp 2] := rfl
  have e : decide ((16 : Int) < (x.size : Int)) = decide (16 < x.size) := decide_eq_decide.2 (by omega)
  simp only [↓Sh.stepDn, Sh.stepUp, seatFacts, exitTo, calm, isEff, Nat.reduceBEq, evs, evps, evo, isConst, reduceCtorEq, Nat.reduceEqDiff, resultsA, Sh.one, Sh.unit, forall_const, implies_true, eq_self, ne_eq, if_true, if_false, beq_self_eq_true, cond_true, cond_false, List.all_cons, List.all_nil, List.getElem?_cons_zero, List.getElem?_cons_succ, List.nil_append, List.append_nil, Option.bind_some, Option.map_some, Option.some.injEq, exists_eq_left', exists_eq', exists_eq, Prod.mk.injEq, exists_and_left, hres, e]
/-- A symbol, however long. -/
def chOk (s : ByteArray) : Bool := !s.data.toList.any badByte && decide (1 ≤ s.size)
theorem symOk_chOk (s : ByteArray) : symOk s = (chOk s && decide (s.size ≤ 16)) := rfl
theorem size_empty {x : ByteArray} : decide (x = ⟨#[]⟩) = !decide (1 ≤ x.size) := by
  by_cases h : x = ⟨#[]⟩
  · subst h; rfl
  · have : 1 ≤ x.size := by
      refine Nat.one_le_iff_ne_zero.2 fun h0 => h (ByteArray.ext ?_)
      exact Array.eq_empty_of_size_eq_zero h0
    simp [h, this]
theorem symsIsSymbol {H : AH} {x : ByteArray} (hl : x.size ≤ 1048576) :
    Sh.Call Try.prog (knows 6) 58 [.string x] H (fun r H' => H' = H ∧ r = .bool (chOk x)) := by
  refine call_of rfl Try.func58 rfl (Nat.le_of_ble_eq_true rfl) ?_
  have hres : Try.f58.results.toList = [.tmp 2] := rfl
  have hsz : x.data.toList.length = x.size := by rw [Array.length_toList]; rfl
  simp only [↓Sh.stepDn, Sh.stepUp, seatFacts, exitTo, calm, isEff, Nat.reduceBEq, evs, evps, evo, isConst, reduceCtorEq, Nat.reduceEqDiff, resultsA, Sh.one, Sh.unit, forall_const, implies_true, eq_self, ne_eq, if_true, if_false, beq_self_eq_true, cond_true, cond_false, List.all_cons, List.all_nil, List.getElem?_cons_zero, List.getElem?_cons_succ, List.nil_append, List.append_nil, Option.bind_some, Option.map_some, Option.some.injEq, exists_eq_left', exists_eq', exists_eq, Prod.mk.injEq, exists_and_left]
  refine wp_for x.size 6 (List.range' 6 26 ++ [2, 3]) (fun i F H' => H' = H ∧ (x.data.toList.take i).any badByte = false) (by simp only [↓Sh.stepDn, Sh.stepUp, seatFacts, exitTo, calm, isEff, Nat.reduceBEq, evs, evps, evo, isConst, reduceCtorEq, Nat.reduceEqDiff, resultsA, Sh.one, Sh.unit, forall_const, implies_true, eq_self, ne_eq, if_true, if_false, beq_self_eq_true, cond_true, cond_false, List.all_cons, List.all_nil, List.getElem?_cons_zero, List.getElem?_cons_succ, List.nil_append, List.append_nil, Option.bind_some, Option.map_some, Option.some.injEq, exists_eq_left', exists_eq', exists_eq, Prod.mk.injEq, exists_and_left]) ⟨rfl, rfl⟩ ?_ ?_
  · rintro i F H' hlt hF f6 ⟨rfl, hall⟩ k
    have f0 := hF 0 rfl
    have f5 := hF 5 rfl
    simp only [↓Sh.stepDn, Sh.stepUp, seatFacts, exitTo, calm, isEff, Nat.reduceBEq, evs, evps, evo, isConst, reduceCtorEq, Nat.reduceEqDiff, resultsA, Sh.one, Sh.unit, forall_const, implies_true, eq_self, ne_eq, if_true, if_false, beq_self_eq_true, cond_true, cond_false, List.all_cons, List.all_nil, List.getElem?_cons_zero, List.getElem?_cons_succ, List.nil_append, List.append_nil, Option.bind_some, Option.map_some, Option.some.injEq, exists_eq_left', exists_eq', exists_eq, Prod.mk.injEq, exists_and_left] at f0 f5
    obtain ⟨u, hu⟩ : ∃ u, x.data.toList[i]? = some u := ⟨x.data.toList[i]'(by omega), List.getElem?_eq_getElem (by omega)⟩
    have hix := index_str (P := Try.prog) (j := .i64) Try.underlying9 hu
    have e33 : decide ((u.toNat : Int) < 33) = decide (u.toNat < 33) := decide_eq_decide.2 (by omega)
    have e126 : decide (126 < (u.toNat : Int)) = decide (126 < u.toNat) := decide_eq_decide.2 (by omega)
    have e60 : decide ((u.toNat : Int) = 60) = decide (u.toNat = 60) := decide_eq_decide.2 (by omega)
    have e62 : decide ((u.toNat : Int) = 62) = decide (u.toNat = 62) := decide_eq_decide.2 (by omega)
    have hbad : badByte u = true → chOk x = false := by
      intro h
      have : x.data.toList.any badByte = true := List.any_eq_true.2 ⟨_, List.mem_of_getElem? hu, h⟩
      simp [chOk, this]
    simp only [↓Sh.stepDn, Sh.stepUp, seatFacts, exitTo, calm, isEff, Nat.reduceBEq, evs, evps, evo, isConst, reduceCtorEq, Nat.reduceEqDiff, resultsA, Sh.one, Sh.unit, forall_const, implies_true, eq_self, ne_eq, if_true, if_false, beq_self_eq_true, cond_true, cond_false, List.all_cons, List.all_nil, List.getElem?_cons_zero, List.getElem?_cons_succ, List.nil_append, List.append_nil, Option.bind_some, Option.map_some, Option.some.injEq, exists_eq_left', exists_eq', exists_eq, Prod.mk.injEq, exists_and_left, f0, f5, f6, hix, nat_lt, hlt, e33, decide_true]
    by_cases h1 : u.toNat < 33
    · simp only [↓Sh.stepDn, Sh.stepUp, seatFacts, exitTo, calm, isEff, Nat.reduceBEq, evs, evps, evo, isConst, reduceCtorEq, Nat.reduceEqDiff, resultsA, Sh.one, Sh.unit, forall_const, implies_true, eq_self, ne_eq, if_true, if_false, beq_self_eq_true, cond_true, cond_false, List.all_cons, List.all_nil, List.getElem?_cons_zero, List.getElem?_cons_succ, List.nil_append, List.append_nil, Option.bind_some, Option.map_some, Option.some.injEq, exists_eq_left', exists_eq', exists_eq, Prod.mk.injEq, exists_and_left, h1, decide_true, hres, hbad (by simp [badByte, h1])]
    simp only [↓Sh.stepDn, Sh.stepUp, seatFacts, exitTo, calm, isEff, Nat.reduceBEq, evs, evps, evo, isConst, reduceCtorEq, Nat.reduceEqDiff, resultsA, Sh.one, Sh.unit, forall_const, implies_true, eq_self, ne_eq, if_true, if_false, beq_self_eq_true, cond_true, cond_false, List.all_cons, List.all_nil, List.getElem?_cons_zero, List.getElem?_cons_succ, List.nil_append, List.append_nil, Option.bind_some, Option.map_some, Option.some.injEq, exists_eq_left', exists_eq', exists_eq, Prod.mk.injEq, exists_and_left, f0, hix, h1, e126, decide_false]
    by_cases h2 : 126 < u.toNat
    · simp only [↓Sh.stepDn, Sh.stepUp, seatFacts, exitTo, calm, isEff, Nat.reduceBEq, evs, evps, evo, isConst, reduceCtorEq, Nat.reduceEqDiff, resultsA, Sh.one, Sh.unit, forall_const, implies_true, eq_self, ne_eq, if_true, if_false, beq_self_eq_true, cond_true, cond_false, List.all_cons, List.all_nil, List.getElem?_cons_zero, List.getElem?_cons_succ, List.nil_append, List.append_nil, Option.bind_some, Option.map_some, Option.some.injEq, exists_eq_left', exists_eq', exists_eq, Prod.mk.injEq, exists_and_left, h2, decide_true, hres, hbad (by simp [badByte, h2])]
    simp only [↓Sh.stepDn, Sh.stepUp, seatFacts, exitTo, calm, isEff, Nat.reduceBEq, evs, evps, evo, isConst, reduceCtorEq, Nat.reduceEqDiff, resultsA, Sh.one, Sh.unit, forall_const, implies_true, eq_self, ne_eq, if_true, if_false, beq_self_eq_true, cond_true, cond_false, List.all_cons, List.all_nil, List.getElem?_cons_zero, List.getElem?_cons_succ, List.nil_append, List.append_nil, Option.bind_some, Option.map_some, Option.some.injEq, exists_eq_left', exists_eq', exists_eq, Prod.mk.injEq, exists_and_left, f0, hix, h2, e60, decide_false]
    by_cases h3 : u.toNat = 60
    · simp only [↓Sh.stepDn, Sh.stepUp, seatFacts, exitTo, calm, isEff, Nat.reduceBEq, evs, evps, evo, isConst, reduceCtorEq, Nat.reduceEqDiff, resultsA, Sh.one, Sh.unit, forall_const, implies_true, eq_self, ne_eq, if_true, if_false, beq_self_eq_true, cond_true, cond_false, List.all_cons, List.all_nil, List.getElem?_cons_zero, List.getElem?_cons_succ, List.nil_append, List.append_nil, Option.bind_some, Option.map_some, Option.some.injEq, exists_eq_left', exists_eq', exists_eq, Prod.mk.injEq, exists_and_left, h3, decide_true, hres, hbad (by simp [badByte, h3])]
    simp only [↓Sh.stepDn, Sh.stepUp, seatFacts, exitTo, calm, isEff, Nat.reduceBEq, evs, evps, evo, isConst, reduceCtorEq, Nat.reduceEqDiff, resultsA, Sh.one, Sh.unit, forall_const, implies_true, eq_self, ne_eq, if_true, if_false, beq_self_eq_true, cond_true, cond_false, List.all_cons, List.all_nil, List.getElem?_cons_zero, List.getElem?_cons_succ, List.nil_append, List.append_nil, Option.bind_some, Option.map_some, Option.some.injEq, exists_eq_left', exists_eq', exists_eq, Prod.mk.injEq, exists_and_left, f0, hix, h3, e62, decide_false]
    by_cases h4 : u.toNat = 62
    · simp only [↓Sh.stepDn, Sh.stepUp, seatFacts, exitTo, calm, isEff, Nat.reduceBEq, evs, evps, evo, isConst, reduceCtorEq, Nat.reduceEqDiff, resultsA, Sh.one, Sh.unit, forall_const, implies_true, eq_self, ne_eq, if_true, if_false, beq_self_eq_true, cond_true, cond_false, List.all_cons, List.all_nil, List.getElem?_cons_zero, List.getElem?_cons_succ, List.nil_append, List.append_nil, Option.bind_some, Option.map_some, Option.some.injEq, exists_eq_left', exists_eq', exists_eq, Prod.mk.injEq, exists_and_left, h4, decide_true, hres, hbad (by simp [badByte, h4])]
    simp only [↓Sh.stepDn, Sh.stepUp, seatFacts, exitTo, calm, isEff, Nat.reduceBEq, evs, evps, evo, isConst, reduceCtorEq, Nat.reduceEqDiff, resultsA, Sh.one, Sh.unit, forall_const, implies_true, eq_self, ne_eq, if_true, if_false, beq_self_eq_true, cond_true, cond_false, List.all_cons, List.all_nil, List.getElem?_cons_zero, List.getElem?_cons_succ, List.nil_append, List.append_nil, Option.bind_some, Option.map_some, Option.some.injEq, exists_eq_left', exists_eq', exists_eq, Prod.mk.injEq, exists_and_left, f6, h4, decide_false, wrap_succ hlt hl]
    refine k _ _ (by repeat (first | refine Same.put ?_ rfl | exact Same.rfl' _)) (by simp only [↓Sh.stepDn, Sh.stepUp, seatFacts, exitTo, calm, isEff, Nat.reduceBEq, evs, evps, evo, isConst, reduceCtorEq, Nat.reduceEqDiff, resultsA, Sh.one, Sh.unit, forall_const, implies_true, eq_self, ne_eq, if_true, if_false, beq_self_eq_true, cond_true, cond_false, List.all_cons, List.all_nil, List.getElem?_cons_zero, List.getElem?_cons_succ, List.nil_append, List.append_nil, Option.bind_some, Option.map_some, Option.some.injEq, exists_eq_left', exists_eq', exists_eq, Prod.mk.injEq, exists_and_left]) ⟨rfl, ?_⟩
    rw [List.take_add_one, hu]
    simp only [Option.toList, List.any_append, hall, Bool.false_or, List.any_cons, List.any_nil, Bool.or_false, badByte, h1, h2, h3, h4, decide_false]
  · rintro F H' hF f6 ⟨rfl, hall⟩
    have f0 := hF 0 rfl
    have f5 := hF 5 rfl
    simp only [↓Sh.stepDn, Sh.stepUp, seatFacts, exitTo, calm, isEff, Nat.reduceBEq, evs, evps, evo, isConst, reduceCtorEq, Nat.reduceEqDiff, resultsA, Sh.one, Sh.unit, forall_const, implies_true, eq_self, ne_eq, if_true, if_false, beq_self_eq_true, cond_true, cond_false, List.all_cons, List.all_nil, List.getElem?_cons_zero, List.getElem?_cons_succ, List.nil_append, List.append_nil, Option.bind_some, Option.map_some, Option.some.injEq, exists_eq_left', exists_eq', exists_eq, Prod.mk.injEq, exists_and_left] at f0 f5
    rw [← hsz, List.take_length] at hall
    simp only [↓Sh.stepDn, Sh.stepUp, seatFacts, exitTo, calm, isEff, Nat.reduceBEq, evs, evps, evo, isConst, reduceCtorEq, Nat.reduceEqDiff, resultsA, Sh.one, Sh.unit, forall_const, implies_true, eq_self, ne_eq, if_true, if_false, beq_self_eq_true, cond_true, cond_false, List.all_cons, List.all_nil, List.getElem?_cons_zero, List.getElem?_cons_succ, List.nil_append, List.append_nil, Option.bind_some, Option.map_some, Option.some.injEq, exists_eq_left', exists_eq', exists_eq, Prod.mk.injEq, exists_and_left, f0, f5, f6, nat_lt, Nat.lt_irrefl, decide_false, hres, chOk, hall, size_empty]
end Go.Proofs.Ytfcmpclbhnjkgaa
/- slices.IndexFunc and ContainsFunc: whether some element is so. -/
set_option maxHeartbeats 4000000
set_option linter.unusedSimpArgs false
set_option linter.unusedVariables false
set_option pp.deepTerms.threshold 8
namespace Go.Proofs.Ytfcmpclbhnjkgaa
open Go Go.Proofs Go.Proofs.Sh
theorem indexFuncStr {H : AH} {v : Value} {l : List ByteArray} {fid : Nat} {caps : List Value} (p : ByteArray → Bool) (hs : Sl H v 1 (l.map strCell)) (hl : l.length ≤ 1048576) (hw : Wf H)
    (hp : ∀ H', Kept H H' → ∀ x ∈ l, Sh.Call Try.prog (knows 6) fid ((fun s => Value.string s) x :: caps) H' (fun r H'' => Kept H' H'' ∧ r = .bool (p x))) :
    Sh.Call Try.prog (knows 6) 80 [v, .func (.func fid) #[] caps.toArray] H (fun r H' => Kept H H' ∧ ∃ k : Int, r = .int .i64 k ∧ decide (0 ≤ k) = l.any p) := by
  refine call_of rfl Try.func80 rfl (Nat.le_of_ble_eq_true rfl) ?_
  have hres : Try.f80.results.toList = [.tmp 4] := rfl
  have hlen := hs.len Try.underlying22 H
  simp only [↓Sh.stepDn, Sh.stepUp, seatFacts, exitTo, calm, isEff, Nat.reduceBEq, evs, evps, evo, isConst, reduceCtorEq, Nat.reduceEqDiff, resultsA, Sh.one, Sh.unit, forall_const, implies_true, eq_self, ne_eq, if_true, if_false, beq_self_eq_true, cond_true, cond_false, List.all_cons, List.all_nil, List.getElem?_cons_zero, List.getElem?_cons_succ, List.nil_append, List.append_nil, Option.bind_some, Option.map_some, Option.some.injEq, exists_eq_left', exists_eq', exists_eq, Prod.mk.injEq, exists_and_left, hlen, List.length_map]
  refine wp_for l.length 8 [5, 8, 9, 10, 11, 12, 13, 14, 15, 16, 18] (fun i F H' => Kept H H' ∧ (l.take i).any p = false) (by simp only [↓Sh.stepDn, Sh.stepUp, seatFacts, exitTo, calm, isEff, Nat.reduceBEq, evs, evps, evo, isConst, reduceCtorEq, Nat.reduceEqDiff, resultsA, Sh.one, Sh.unit, forall_const, implies_true, eq_self, ne_eq, if_true, if_false, beq_self_eq_true, cond_true, cond_false, List.all_cons, List.all_nil, List.getElem?_cons_zero, List.getElem?_cons_succ, List.nil_append, List.append_nil, Option.bind_some, Option.map_some, Option.some.injEq, exists_eq_left', exists_eq', exists_eq, Prod.mk.injEq, exists_and_left]) ⟨Kept.refl hw, rfl⟩ ?_ ?_
  · rintro i F H' hlt hF f8 ⟨hk, hall⟩ k
    have hs1 := hs.grow (hk.grow hw)
    obtain ⟨g, o, kk, hia, hc, hcc⟩ := hs1.at Try.underlying22 size_9 (i := i) (x := strCell l[i]) (by simp [hlt]) .i64
    have hld := hcc 0 _ rfl; simp only [Nat.add_zero] at hld
    have f0 := hF 0 rfl
    have f1 := hF 1 rfl
    have f7 := hF 7 rfl
    simp only [↓Sh.stepDn, Sh.stepUp, seatFacts, exitTo, calm, isEff, Nat.reduceBEq, evs, evps, evo, isConst, reduceCtorEq, Nat.reduceEqDiff, resultsA, Sh.one, Sh.unit, forall_const, implies_true, eq_self, ne_eq, if_true, if_false, beq_self_eq_true, cond_true, cond_false, List.all_cons, List.all_nil, List.getElem?_cons_zero, List.getElem?_cons_succ, List.nil_append, List.append_nil, Option.bind_some, Option.map_some, Option.some.injEq, exists_eq_left', exists_eq', exists_eq, Prod.mk.injEq, exists_and_left] at f0 f1 f7
    obtain ⟨r, H2, hd, hk2, rfl⟩ := hp H' hk l[i] (List.getElem_mem hlt)
    simp only [↓Sh.stepDn, Sh.stepUp, seatFacts, exitTo, calm, isEff, Nat.reduceBEq, evs, evps, evo, isConst, reduceCtorEq, Nat.reduceEqDiff, resultsA, Sh.one, Sh.unit, forall_const, implies_true, eq_self, ne_eq, if_true, if_false, beq_self_eq_true, cond_true, cond_false, List.all_cons, List.all_nil, List.getElem?_cons_zero, List.getElem?_cons_succ, List.nil_append, List.append_nil, Option.bind_some, Option.map_some, Option.some.injEq, exists_eq_left', exists_eq', exists_eq, Prod.mk.injEq, exists_and_left, f0, f1, f7, f8, nat_lt, hlt, decide_true, hia, hld, Option.map_some, forall_const, reduceCtorEq, false_implies, and_true, true_and]
    refine ⟨_, _, hd, ?_⟩
    cases hpv : p l[i] with
    | true =>
      simp only [↓Sh.stepDn, Sh.stepUp, seatFacts, exitTo, calm, isEff, Nat.reduceBEq, evs, evps, evo, isConst, reduceCtorEq, Nat.reduceEqDiff, resultsA, Sh.one, Sh.unit, forall_const, implies_true, eq_self, ne_eq, if_true, if_false, beq_self_eq_true, cond_true, cond_false, List.all_cons, List.all_nil, List.getElem?_cons_zero, List.getElem?_cons_succ, List.nil_append, List.append_nil, Option.bind_some, Option.map_some, Option.some.injEq, exists_eq_left', exists_eq', exists_eq, Prod.mk.injEq, exists_and_left, hres, forall_const, reduceCtorEq, false_implies, and_true, true_and]
      refine ⟨hk.trans hk2, _, rfl, ?_⟩
      rw [List.any_eq_true.2 ⟨_, List.getElem_mem hlt, hpv⟩]
      simp
    | false =>
      simp only [↓Sh.stepDn, Sh.stepUp, seatFacts, exitTo, calm, isEff, Nat.reduceBEq, evs, evps, evo, isConst, reduceCtorEq, Nat.reduceEqDiff, resultsA, Sh.one, Sh.unit, forall_const, implies_true, eq_self, ne_eq, if_true, if_false, beq_self_eq_true, cond_true, cond_false, List.all_cons, List.all_nil, List.getElem?_cons_zero, List.getElem?_cons_succ, List.nil_append, List.append_nil, Option.bind_some, Option.map_some, Option.some.injEq, exists_eq_left', exists_eq', exists_eq, Prod.mk.injEq, exists_and_left, hres, f8, wrap_succ hlt hl, forall_const, reduceCtorEq, false_implies, and_true, true_and]
      refine k _ _ (by repeat (first | refine Same.put ?_ rfl | exact Same.rfl' _)) (by simp only [↓Sh.stepDn, Sh.stepUp, seatFacts, exitTo, calm, isEff, Nat.reduceBEq, evs, evps, evo, isConst, reduceCtorEq, Nat.reduceEqDiff, resultsA, Sh.one, Sh.unit, forall_const, implies_true, eq_self, ne_eq, if_true, if_false, beq_self_eq_true, cond_true, cond_false, List.all_cons, List.all_nil, List.getElem?_cons_zero, List.getElem?_cons_succ, List.nil_append, List.append_nil, Option.bind_some, Option.map_some, Option.some.injEq, exists_eq_left', exists_eq', exists_eq, Prod.mk.injEq, exists_and_left]) ⟨hk.trans hk2, ?_⟩
      rw [List.take_add_one, List.getElem?_eq_getElem hlt]
      simp only [Option.toList, List.any_append, hall, List.any_cons, List.any_nil, hpv, Bool.or_false]
  · rintro F H' hF f8 ⟨hk, hall⟩
    have f7 := hF 7 rfl
    simp only [↓Sh.stepDn, Sh.stepUp, seatFacts, exitTo, calm, isEff, Nat.reduceBEq, evs, evps, evo, isConst, reduceCtorEq, Nat.reduceEqDiff, resultsA, Sh.one, Sh.unit, forall_const, implies_true, eq_self, ne_eq, if_true, if_false, beq_self_eq_true, cond_true, cond_false, List.all_cons, List.all_nil, List.getElem?_cons_zero, List.getElem?_cons_succ, List.nil_append, List.append_nil, Option.bind_some, Option.map_some, Option.some.injEq, exists_eq_left', exists_eq', exists_eq, Prod.mk.injEq, exists_and_left] at f7
    rw [List.take_length] at hall
    simp only [↓Sh.stepDn, Sh.stepUp, seatFacts, exitTo, calm, isEff, Nat.reduceBEq, evs, evps, evo, isConst, reduceCtorEq, Nat.reduceEqDiff, resultsA, Sh.one, Sh.unit, forall_const, implies_true, eq_self, ne_eq, if_true, if_false, beq_self_eq_true, cond_true, cond_false, List.all_cons, List.all_nil, List.getElem?_cons_zero, List.getElem?_cons_succ, List.nil_append, List.append_nil, Option.bind_some, Option.map_some, Option.some.injEq, exists_eq_left', exists_eq', exists_eq, Prod.mk.injEq, exists_and_left, f7, f8, nat_lt, Nat.lt_irrefl, decide_false, hres, forall_const, reduceCtorEq, false_implies, and_true, true_and]
    exact ⟨hk, _, rfl, by rw [hall]; rfl⟩
theorem containsFuncStr {H : AH} {v : Value} {l : List ByteArray} {fid : Nat} {caps : List Value} (p : ByteArray → Bool) (hs : Sl H v 1 (l.map strCell)) (hl : l.length ≤ 1048576) (hw : Wf H)
    (hp : ∀ H', Kept H H' → ∀ x ∈ l, Sh.Call Try.prog (knows 6) fid ((fun s => Value.string s) x :: caps) H' (fun r H'' => Kept H' H'' ∧ r = .bool (p x))) :
    Sh.Call Try.prog (knows 6) 56 [v, .func (.func fid) #[] caps.toArray] H (fun r H' => Kept H H' ∧ r = .bool (l.any p)) := by
  refine call_of rfl Try.func56 rfl (Nat.le_of_ble_eq_true rfl) ?_
  have hres : Try.f56.results.toList = [.tmp 4] := rfl
  obtain ⟨r, H2, hd, hk, k, rfl, hk0⟩ := indexFuncStr p hs hl hw hp
  simp only [↓Sh.stepDn, Sh.stepUp, seatFacts, exitTo, calm, isEff, Nat.reduceBEq, evs, evps, evo, isConst, reduceCtorEq, Nat.reduceEqDiff, resultsA, Sh.one, Sh.unit, forall_const, implies_true, eq_self, ne_eq, if_true, if_false, beq_self_eq_true, cond_true, cond_false, List.all_cons, List.all_nil, List.getElem?_cons_zero, List.getElem?_cons_succ, List.nil_append, List.append_nil, Option.bind_some, Option.map_some, Option.some.injEq, exists_eq_left', exists_eq', exists_eq, Prod.mk.injEq, exists_and_left]
  refine ⟨_, _, hd, ?_⟩
  simp only [↓Sh.stepDn, Sh.stepUp, seatFacts, exitTo, calm, isEff, Nat.reduceBEq, evs, evps, evo, isConst, reduceCtorEq, Nat.reduceEqDiff, resultsA, Sh.one, Sh.unit, forall_const, implies_true, eq_self, ne_eq, if_true, if_false, beq_self_eq_true, cond_true, cond_false, List.all_cons, List.all_nil, List.getElem?_cons_zero, List.getElem?_cons_succ, List.nil_append, List.append_nil, Option.bind_some, Option.map_some, Option.some.injEq, exists_eq_left', exists_eq', exists_eq, Prod.mk.injEq, exists_and_left, hres, hk0, and_true]
  exact hk
end Go.Proofs.Ytfcmpclbhnjkgaa
/- What is wrong with an alphabet, by the program. -/
set_option maxHeartbeats 4000000
set_option linter.unusedSimpArgs false
set_option linter.unusedVariables false
set_option pp.deepTerms.threshold 8
namespace Go.Proofs.Ytfcmpclbhnjkgaa
open Go Go.Proofs Go.Proofs.Sh
theorem symsValidate {H : AH} {v : Value} {l : List ByteArray} (hs : Sl H v 1 (l.map strCell)) (hl : l.length ≤ 1048576) (hlx : ∀ x ∈ l, x.size ≤ 1048576) (hw : Wf H) :
    Sh.Call Try.prog (knows 6) 34 [v] H (fun r H' => Kept H H' ∧ r = .int .i64 (sigErr l)) := by
  refine call_of rfl Try.func34 rfl (Nat.le_of_ble_eq_true rfl) ?_
  have hres : Try.f34.results.toList = [.tmp 2] := rfl
  have hlen := hs.len Try.underlying22 H
  have e40 : decide ((40 : Int) < ((l.length : Nat) : Int)) = decide (40 < l.length) := decide_eq_decide.2 (by omega)
  simp only [↓Sh.stepDn, Sh.stepUp, seatFacts, exitTo, calm, isEff, Nat.reduceBEq, evs, evps, evo, isConst, reduceCtorEq, Nat.reduceEqDiff, resultsA, Sh.one, Sh.unit, forall_const, implies_true, eq_self, ne_eq, if_true, if_false, beq_self_eq_true, cond_true, cond_false, List.all_cons, List.all_nil, List.getElem?_cons_zero, List.getElem?_cons_succ, List.nil_append, List.append_nil, Option.bind_some, Option.map_some, Option.some.injEq, exists_eq_left', exists_eq', exists_eq, Prod.mk.injEq, exists_and_left, hlen, List.length_map, e40]
  by_cases h40 : 40 < l.length
  · simp only [↓Sh.stepDn, Sh.stepUp, seatFacts, exitTo, calm, isEff, Nat.reduceBEq, evs, evps, evo, isConst, reduceCtorEq, Nat.reduceEqDiff, resultsA, Sh.one, Sh.unit, forall_const, implies_true, eq_self, ne_eq, if_true, if_false, beq_self_eq_true, cond_true, cond_false, List.all_cons, List.all_nil, List.getElem?_cons_zero, List.getElem?_cons_succ, List.nil_append, List.append_nil, Option.bind_some, Option.map_some, Option.some.injEq, exists_eq_left', exists_eq', exists_eq, Prod.mk.injEq, exists_and_left, h40, decide_true, hres, sigErr, Bool.true_or, Kept.refl hw]
  simp only [↓Sh.stepDn, Sh.stepUp, seatFacts, exitTo, calm, isEff, Nat.reduceBEq, evs, evps, evo, isConst, reduceCtorEq, Nat.reduceEqDiff, resultsA, Sh.one, Sh.unit, forall_const, implies_true, eq_self, ne_eq, if_true, if_false, beq_self_eq_true, cond_true, cond_false, List.all_cons, List.all_nil, List.getElem?_cons_zero, List.getElem?_cons_succ, List.nil_append, List.append_nil, Option.bind_some, Option.map_some, Option.some.injEq, exists_eq_left', exists_eq', exists_eq, Prod.mk.injEq, exists_and_left, h40, decide_false]
  obtain ⟨r1, H1, hd1, hk1, rfl⟩ := containsFuncStr (caps := []) (fid := 57) (fun s => decide (16 < s.size)) hs hl hw (fun H' hk x hx => (symsIsLong (H := H') (x := x)).mono fun r H'' h => by rcases h with ⟨rfl, h⟩; exact ⟨Kept.refl hk.wf, h⟩)
  refine ⟨_, _, hd1, ?_⟩
  cases hL : (l.any fun s => decide (16 < s.size)) with
  | true => simp only [↓Sh.stepDn, Sh.stepUp, seatFacts, exitTo, calm, isEff, Nat.reduceBEq, evs, evps, evo, isConst, reduceCtorEq, Nat.reduceEqDiff, resultsA, Sh.one, Sh.unit, forall_const, implies_true, eq_self, ne_eq, if_true, if_false, beq_self_eq_true, cond_true, cond_false, List.all_cons, List.all_nil, List.getElem?_cons_zero, List.getElem?_cons_succ, List.nil_append, List.append_nil, Option.bind_some, Option.map_some, Option.some.injEq, exists_eq_left', exists_eq', exists_eq, Prod.mk.injEq, exists_and_left, hres, hL, sigErr, anyLongB, h40, decide_false, Bool.false_or, hk1]
  | false =>
    have hs1 := hs.grow (hk1.grow hw)
    have hlen1 := hs1.len Try.underlying22 H1
    simp only [↓Sh.stepDn, Sh.stepUp, seatFacts, exitTo, calm, isEff, Nat.reduceBEq, evs, evps, evo, isConst, reduceCtorEq, Nat.reduceEqDiff, resultsA, Sh.one, Sh.unit, forall_const, implies_true, eq_self, ne_eq, if_true, if_false, beq_self_eq_true, cond_true, cond_false, List.all_cons, List.all_nil, List.getElem?_cons_zero, List.getElem?_cons_succ, List.nil_append, List.append_nil, Option.bind_some, Option.map_some, Option.some.injEq, exists_eq_left', exists_eq', exists_eq, Prod.mk.injEq, exists_and_left, hlen1, List.length_map]
    have h16 : ∀ x ∈ l, decide (x.size ≤ 16) = true := by
      intro x hx
      have := List.any_eq_false.1 hL x hx
      simp only [decide_eq_true_eq, Nat.not_lt] at this
      simpa using this
    have e1 : (l.all symOk && ascB l) = false → sigErr l = 1 := by intro h; simp [sigErr, anyLongB, h40, hL]; simpa using h
    have e0 : (l.all symOk && ascB l) = true → sigErr l = 0 := by intro h; simp [sigErr, anyLongB, h40, hL]; simpa using h
    have hsy : ∀ x ∈ l, symOk x = chOk x := by intro x hx; rw [symOk_chOk, h16 x hx, Bool.and_true]
    refine wp_for l.length 14 (List.range' 14 22 ++ [2, 3, 4]) (fun i F H' => H' = H1 ∧ (∀ (j : Nat) x, j < i → l[j]? = some x → chOk x = true) ∧ (∀ (j : Nat) x y, j + 1 < i → l[j]? = some x → l[j + 1]? = some y → strLt x y = true)) (by simp only [↓Sh.stepDn, Sh.stepUp, seatFacts, exitTo, calm, isEff, Nat.reduceBEq, evs, evps, evo, isConst, reduceCtorEq, Nat.reduceEqDiff, resultsA, Sh.one, Sh.unit, forall_const, implies_true, eq_self, ne_eq, if_true, if_false, beq_self_eq_true, cond_true, cond_false, List.all_cons, List.all_nil, List.getElem?_cons_zero, List.getElem?_cons_succ, List.nil_append, List.append_nil, Option.bind_some, Option.map_some, Option.some.injEq, exists_eq_left', exists_eq', exists_eq, Prod.mk.injEq, exists_and_left]) ⟨rfl, fun j x h => by omega, fun j x y h => by omega⟩ ?_ ?_
    · rintro i F H' hlt hF f14 ⟨rfl, hall, hasc⟩ k
      have f0 := hF 0 rfl
      have f12 := hF 12 rfl
      have f13 := hF 13 rfl
      simp only [↓Sh.stepDn, Sh.stepUp, seatFacts, exitTo, calm, isEff, Nat.reduceBEq, evs, evps, evo, isConst, reduceCtorEq, Nat.reduceEqDiff, resultsA, Sh.one, Sh.unit, forall_const, implies_true, eq_self, ne_eq, if_true, if_false, beq_self_eq_true, cond_true, cond_false, List.all_cons, List.all_nil, List.getElem?_cons_zero, List.getElem?_cons_succ, List.nil_append, List.append_nil, Option.bind_some, Option.map_some, Option.some.injEq, exists_eq_left', exists_eq', exists_eq, Prod.mk.injEq, exists_and_left] at f0 f12 f13
      obtain ⟨g, o, kk, hia, hc, hcc⟩ := hs1.at Try.underlying22 size_9 (i := i) (x := strCell l[i]) (by simp [hlt]) .i64
      have hy := hcc 0 _ rfl
      simp only [Nat.add_zero] at hy
      have hget : l[i]? = some l[i] := List.getElem?_eq_getElem hlt
      obtain ⟨r, H2, hd2, rfl, rfl⟩ := symsIsSymbol (H := H') (x := l[i]) (hlx _ (List.getElem_mem hlt))
      simp only [↓Sh.stepDn, Sh.stepUp, seatFacts, exitTo, calm, isEff, Nat.reduceBEq, evs, evps, evo, isConst, reduceCtorEq, Nat.reduceEqDiff, resultsA, Sh.one, Sh.unit, forall_const, implies_true, eq_self, ne_eq, if_true, if_false, beq_self_eq_true, cond_true, cond_false, List.all_cons, List.all_nil, List.getElem?_cons_zero, List.getElem?_cons_succ, List.nil_append, List.append_nil, Option.bind_some, Option.map_some, Option.some.injEq, exists_eq_left', exists_eq', exists_eq, Prod.mk.injEq, exists_and_left, f0, f12, f13, f14, nat_lt, hlt, decide_true, hia, hy]
      refine ⟨_, _, hd2, ?_⟩
      cases hch : chOk l[i] with
      | false =>
        have hbad : sigErr l = 1 := e1 (by
          rw [Bool.and_eq_false_iff]; left
          exact List.all_eq_false.2 ⟨_, List.getElem_mem hlt, by rw [hsy _ (List.getElem_mem hlt), hch]; simp⟩)
        simp only [↓Sh.stepDn, Sh.stepUp, seatFacts, exitTo, calm, isEff, Nat.reduceBEq, evs, evps, evo, isConst, reduceCtorEq, Nat.reduceEqDiff, resultsA, Sh.one, Sh.unit, forall_const, implies_true, eq_self, ne_eq, if_true, if_false, beq_self_eq_true, cond_true, cond_false, List.all_cons, List.all_nil, List.getElem?_cons_zero, List.getElem?_cons_succ, List.nil_append, List.append_nil, Option.bind_some, Option.map_some, Option.some.injEq, exists_eq_left', exists_eq', exists_eq, Prod.mk.injEq, exists_and_left, hres, hbad, hk1]
      | true =>
        have hall' : ∀ (j : Nat) x, j < i + 1 → l[j]? = some x → chOk x = true := by
          intro j x hj hx
          by_cases he : j = i
          · subst he; rw [hget] at hx; rw [← Option.some.inj hx]; exact hch
          · exact hall j x (by omega) hx
        by_cases hi0 : 0 < i
        · have hlt1 : i - 1 < l.length := by omega
          obtain ⟨g', o', kk', hia', hc', hcc'⟩ := hs1.at Try.underlying22 size_9 (i := i - 1) (x := strCell l[i - 1]) (by simp [hlt1]) .i64
          have hy' := hcc' 0 _ rfl
          simp only [Nat.add_zero] at hy'
          have hw1 : IntKind.wrap .i64 ((i : Int) - 1) = ((i - 1 : Nat) : Int) := by rw [wrap64 (by omega) (by omega)]; omega
          have ei : decide ((0 : Int) < (i : Int)) = true := by simpa using hi0
          have hget' : l[i - 1]? = some l[i - 1] := List.getElem?_eq_getElem hlt1
          simp only [↓Sh.stepDn, Sh.stepUp, seatFacts, exitTo, calm, isEff, Nat.reduceBEq, evs, evps, evo, isConst, reduceCtorEq, Nat.reduceEqDiff, resultsA, Sh.one, Sh.unit, forall_const, implies_true, eq_self, ne_eq, if_true, if_false, beq_self_eq_true, cond_true, cond_false, List.all_cons, List.all_nil, List.getElem?_cons_zero, List.getElem?_cons_succ, List.nil_append, List.append_nil, Option.bind_some, Option.map_some, Option.some.injEq, exists_eq_left', exists_eq', exists_eq, Prod.mk.injEq, exists_and_left, f0, ei, hw1, hia', hy']
          cases hq : strLt l[i - 1] l[i] with
          | false =>
            have hbad : sigErr l = 1 := e1 (by
              rw [Bool.and_eq_false_iff]; right
              cases hb : ascB l with
              | false => rfl
              | true =>
                have := ascB_iff.1 hb (i - 1) _ _ hget' (by rw [show i - 1 + 1 = i by omega]; exact hget)
                rw [this] at hq; cases hq)
            simp only [↓Sh.stepDn, Sh.stepUp, seatFacts, exitTo, calm, isEff, Nat.reduceBEq, evs, evps, evo, isConst, reduceCtorEq, Nat.reduceEqDiff, resultsA, Sh.one, Sh.unit, forall_const, implies_true, eq_self, ne_eq, if_true, if_false, beq_self_eq_true, cond_true, cond_false, List.all_cons, List.all_nil, List.getElem?_cons_zero, List.getElem?_cons_succ, List.nil_append, List.append_nil, Option.bind_some, Option.map_some, Option.some.injEq, exists_eq_left', exists_eq', exists_eq, Prod.mk.injEq, exists_and_left, hres, hbad, hk1]
          | true =>
            simp only [↓Sh.stepDn, Sh.stepUp, seatFacts, exitTo, calm, isEff, Nat.reduceBEq, evs, evps, evo, isConst, reduceCtorEq, Nat.reduceEqDiff, resultsA, Sh.one, Sh.unit, forall_const, implies_true, eq_self, ne_eq, if_true, if_false, beq_self_eq_true, cond_true, cond_false, List.all_cons, List.all_nil, List.getElem?_cons_zero, List.getElem?_cons_succ, List.nil_append, List.append_nil, Option.bind_some, Option.map_some, Option.some.injEq, exists_eq_left', exists_eq', exists_eq, Prod.mk.injEq, exists_and_left, f14, wrap_succ hlt hl]
            refine k _ _ (by repeat (first | refine Same.put ?_ rfl | exact Same.rfl' _)) (by simp only [↓Sh.stepDn, Sh.stepUp, seatFacts, exitTo, calm, isEff, Nat.reduceBEq, evs, evps, evo, isConst, reduceCtorEq, Nat.reduceEqDiff, resultsA, Sh.one, Sh.unit, forall_const, implies_true, eq_self, ne_eq, if_true, if_false, beq_self_eq_true, cond_true, cond_false, List.all_cons, List.all_nil, List.getElem?_cons_zero, List.getElem?_cons_succ, List.nil_append, List.append_nil, Option.bind_some, Option.map_some, Option.some.injEq, exists_eq_left', exists_eq', exists_eq, Prod.mk.injEq, exists_and_left]) ⟨rfl, hall', fun j x y hj hx hy => ?_⟩
            by_cases he : j + 1 = i
            · have : j = i - 1 := by omega
              subst this
              rw [he, hget] at hy
              rw [hget'] at hx
              rw [← Option.some.inj hx, ← Option.some.inj hy]; exact hq
            · exact hasc j x y (by omega) hx hy
        · have ei : decide ((0 : Int) < (i : Int)) = false := by simpa using hi0
          simp only [↓Sh.stepDn, Sh.stepUp, seatFacts, exitTo, calm, isEff, Nat.reduceBEq, evs, evps, evo, isConst, reduceCtorEq, Nat.reduceEqDiff, resultsA, Sh.one, Sh.unit, forall_const, implies_true, eq_self, ne_eq, if_true, if_false, beq_self_eq_true, cond_true, cond_false, List.all_cons, List.all_nil, List.getElem?_cons_zero, List.getElem?_cons_succ, List.nil_append, List.append_nil, Option.bind_some, Option.map_some, Option.some.injEq, exists_eq_left', exists_eq', exists_eq, Prod.mk.injEq, exists_and_left, f14, ei, wrap_succ hlt hl]
          exact k _ _ (by repeat (first | refine Same.put ?_ rfl | exact Same.rfl' _)) (by simp only [↓Sh.stepDn, Sh.stepUp, seatFacts, exitTo, calm, isEff, Nat.reduceBEq, evs, evps, evo, isConst, reduceCtorEq, Nat.reduceEqDiff, resultsA, Sh.one, Sh.unit, forall_const, implies_true, eq_self, ne_eq, if_true, if_false, beq_self_eq_true, cond_true, cond_false, List.all_cons, List.all_nil, List.getElem?_cons_zero, List.getElem?_cons_succ, List.nil_append, List.append_nil, Option.bind_some, Option.map_some, Option.some.injEq, exists_eq_left', exists_eq', exists_eq, Prod.mk.injEq, exists_and_left]) ⟨rfl, hall', fun j x y hj hx hy => by omega⟩
    · rintro F H' hF f14 ⟨rfl, hall, hasc⟩
      have f13 := hF 13 rfl
      simp only [↓Sh.stepDn, Sh.stepUp, seatFacts, exitTo, calm, isEff, Nat.reduceBEq, evs, evps, evo, isConst, reduceCtorEq, Nat.reduceEqDiff, resultsA, Sh.one, Sh.unit, forall_const, implies_true, eq_self, ne_eq, if_true, if_false, beq_self_eq_true, cond_true, cond_false, List.all_cons, List.all_nil, List.getElem?_cons_zero, List.getElem?_cons_succ, List.nil_append, List.append_nil, Option.bind_some, Option.map_some, Option.some.injEq, exists_eq_left', exists_eq', exists_eq, Prod.mk.injEq, exists_and_left] at f13
      have hgood : sigErr l = 0 := e0 (by
        rw [Bool.and_eq_true]
        refine ⟨List.all_eq_true.2 fun x hx => ?_, ascB_iff.2 fun j x y hx hy => hasc j x y (List.getElem?_eq_some_iff.1 hy).1 hx hy⟩
        obtain ⟨j, hj⟩ := List.mem_iff_getElem?.1 hx
        rw [hsy x hx]
        exact hall j x (List.getElem?_eq_some_iff.1 hj).1 hj)
      simp only [↓Sh.stepDn, Sh.stepUp, seatFacts, exitTo, calm, isEff, Nat.reduceBEq, evs, evps, evo, isConst, reduceCtorEq, Nat.reduceEqDiff, resultsA, Sh.one, Sh.unit, forall_const, implies_true, eq_self, ne_eq, if_true, if_false, beq_self_eq_true, cond_true, cond_false, List.all_cons, List.all_nil, List.getElem?_cons_zero, List.getElem?_cons_succ, List.nil_append, List.append_nil, Option.bind_some, Option.map_some, Option.some.injEq, exists_eq_left', exists_eq', exists_eq, Prod.mk.injEq, exists_and_left, f13, f14, nat_lt, Nat.lt_irrefl, decide_false, hres, hgood, hk1]
end Go.Proofs.Ytfcmpclbhnjkgaa
/- cmp.Less, where nothing is no number. -/
set_option maxHeartbeats 4000000
set_option linter.unusedSimpArgs false
set_option linter.unusedVariables false
namespace Go.Proofs.Ytfcmpclbhnjkgaa
open Go Go.Proofs Go.Proofs.Sh
theorem cmpIsNaNStr {H : AH} {x : ByteArray} : Sh.Call Try.prog (knows 6) 81 [.string x] H (fun r H' => H' = H ∧ r = .bool false) := by
  refine call_of rfl Try.func81 rfl (Nat.le_of_ble_eq_true rfl) ?_
  have hres : Try.f81.results.toList = [.tmp 2] := rfl
  simp only [↓Sh.stepDn, Sh.stepUp, seatFacts, exitTo, calm, isEff, Nat.reduceBEq, evs, evps, evo, isConst, reduceCtorEq, Nat.reduceEqDiff, resultsA, Sh.one, Sh.unit, forall_const, implies_true, eq_self, ne_eq, if_true, if_false, beq_self_eq_true, cond_true, cond_false, List.all_cons, List.all_nil, List.getElem?_cons_zero, List.getElem?_cons_succ, List.nil_append, List.append_nil, Option.bind_some, Option.map_some, Option.some.injEq, exists_eq_left', exists_eq', exists_eq, Prod.mk.injEq, exists_and_left, hres, decide_true, Bool.not_true, and_self]
theorem cmpLessStr {H : AH} {x y : ByteArray} : Sh.Call Try.prog (knows 6) 59 [.string x, .string y] H (fun r H' => H' = H ∧ r = .bool (strLt x y)) := by
  refine call_of rfl Try.func59 rfl (Nat.le_of_ble_eq_true rfl) ?_
  have hres : Try.f59.results.toList = [.tmp 4] := rfl
  obtain ⟨r, H1, hd, rfl, rfl⟩ := cmpIsNaNStr (H := H) (x := x)
  simp only [↓Sh.stepDn, Sh.stepUp, seatFacts, exitTo, calm, isEff, Nat.reduceBEq, evs, evps, evo, isConst, reduceCtorEq, Nat.reduceEqDiff, resultsA, Sh.one, Sh.unit, forall_const, implies_true, eq_self, ne_eq, if_true, if_false, beq_self_eq_true, cond_true, cond_false, List.all_cons, List.all_nil, List.getElem?_cons_zero, List.getElem?_cons_succ, List.nil_append, List.append_nil, Option.bind_some, Option.map_some, Option.some.injEq, exists_eq_left', exists_eq', exists_eq, Prod.mk.injEq, exists_and_left]
  refine ⟨_, _, hd, ?_⟩
  simp only [↓Sh.stepDn, Sh.stepUp, seatFacts, exitTo, calm, isEff, Nat.reduceBEq, evs, evps, evo, isConst, reduceCtorEq, Nat.reduceEqDiff, resultsA, Sh.one, Sh.unit, forall_const, implies_true, eq_self, ne_eq, if_true, if_false, beq_self_eq_true, cond_true, cond_false, List.all_cons, List.all_nil, List.getElem?_cons_zero, List.getElem?_cons_succ, List.nil_append, List.append_nil, Option.bind_some, Option.map_some, Option.some.injEq, exists_eq_left', exists_eq', exists_eq, Prod.mk.injEq, exists_and_left, hres, and_self]
end Go.Proofs.Ytfcmpclbhnjkgaa
/- slices.BinarySearch of an ascending list of texts. -/
set_option maxHeartbeats 4000000
set_option linter.unusedSimpArgs false
set_option linter.unusedVariables false
set_option pp.deepTerms.threshold 8
namespace Go.Proofs.Ytfcmpclbhnjkgaa
open Go Go.Proofs Go.Proofs.Sh
theorem isNaNStr {H : AH} {x : ByteArray} : Sh.Call Try.prog (knows 6) 60 [.string x] H (fun r H' => H' = H ∧ r = .bool false) := by
  refine call_of rfl Try.func60 rfl (Nat.le_of_ble_eq_true rfl) ?_
  have hres : Try.f60.results.toList = [.tmp 2] := rfl
  simp only [↓Sh.stepDn, Sh.stepUp, seatFacts, exitTo, calm, isEff, Nat.reduceBEq, evs, evps, evo, isConst, reduceCtorEq, Nat.reduceEqDiff, resultsA, Sh.one, Sh.unit, forall_const, implies_true, eq_self, ne_eq, if_true, if_false, beq_self_eq_true, cond_true, cond_false, List.all_cons, List.all_nil, List.getElem?_cons_zero, List.getElem?_cons_succ, List.nil_append, List.append_nil, Option.bind_some, Option.map_some, Option.some.injEq, exists_eq_left', exists_eq', exists_eq, Prod.mk.injEq, exists_and_left, hres, decide_true, Bool.not_true, and_self]
theorem binarySearch {H : AH} {v : Value} {x : ByteArray} {l : List ByteArray} (hs : Sl H v 1 (l.map strCell)) (ha : Asc l) (hl : l.length ≤ 1048576) :
    Sh.Call Try.prog (knows 6) 36 [v, .string x] H (fun r H' => H' = H ∧ ∃ k : Nat, r = .tuple #[.int .i64 (k : Int), .bool (strIn l x)] ∧ k ≤ l.length ∧ (l[k]? = some x ↔ x ∈ l)) := by
  refine call_of rfl Try.func36 rfl (Nat.le_of_ble_eq_true rfl) ?_
  have hres : Try.f36.results.toList = [.tmp 4, .tmp 5] := rfl
  have hlen := hs.len Try.underlying22 H
  simp only [↓Sh.stepDn, Sh.stepUp, seatFacts, exitTo, calm, isEff, Nat.reduceBEq, evs, evps, evo, isConst, reduceCtorEq, Nat.reduceEqDiff, resultsA, Sh.one, Sh.unit, forall_const, implies_true, eq_self, ne_eq, if_true, if_false, beq_self_eq_true, cond_true, cond_false, List.all_cons, List.all_nil, List.getElem?_cons_zero, List.getElem?_cons_succ, List.nil_append, List.append_nil, Option.bind_some, Option.map_some, Option.some.injEq, exists_eq_left', exists_eq', exists_eq, Prod.mk.injEq, exists_and_left, hlen, List.length_map]
  refine wp_while (fun m F H' => H' = H ∧ ∃ a b : Nat, m = b - a ∧ a ≤ b ∧ b ≤ l.length ∧ F.get 7 = some (.int .i64 (a : Int)) ∧ F.get 8 = some (.int .i64 (b : Int)) ∧ F.get 0 = some v ∧ F.get 1 = some (.string x) ∧ F.get 6 = some (.int .i64 (l.length : Int)) ∧
    (∀ (i : Nat) y, i < a → l[i]? = some y → strLt y x = true) ∧ (∀ (i : Nat) y, b ≤ i → l[i]? = some y → strLt y x = false)) (m := l.length)
    ⟨rfl, 0, l.length, by omega, by omega, by omega, by simp only [↓Sh.stepDn, Sh.stepUp, seatFacts, exitTo, calm, isEff, Nat.reduceBEq, evs, evps, evo, isConst, reduceCtorEq, Nat.reduceEqDiff, resultsA, Sh.one, Sh.unit, forall_const, implies_true, eq_self, ne_eq, if_true, if_false, beq_self_eq_true, cond_true, cond_false, List.all_cons, List.all_nil, List.getElem?_cons_zero, List.getElem?_cons_succ, List.nil_append, List.append_nil, Option.bind_some, Option.map_some, Option.some.injEq, exists_eq_left', exists_eq', exists_eq, Prod.mk.injEq, exists_and_left]; rfl, by simp only [↓Sh.stepDn, Sh.stepUp, seatFacts, exitTo, calm, isEff, Nat.reduceBEq, evs, evps, evo, isConst, reduceCtorEq, Nat.reduceEqDiff, resultsA, Sh.one, Sh.unit, forall_const, implies_true, eq_self, ne_eq, if_true, if_false, beq_self_eq_true, cond_true, cond_false, List.all_cons, List.all_nil, List.getElem?_cons_zero, List.getElem?_cons_succ, List.nil_append, List.append_nil, Option.bind_some, Option.map_some, Option.some.injEq, exists_eq_left', exists_eq', exists_eq, Prod.mk.injEq, exists_and_left], by simp only [↓Sh.stepDn, Sh.stepUp, seatFacts, exitTo, calm, isEff, Nat.reduceBEq, evs, evps, evo, isConst, reduceCtorEq, Nat.reduceEqDiff, resultsA, Sh.one, Sh.unit, forall_const, implies_true, eq_self, ne_eq, if_true, if_false, beq_self_eq_true, cond_true, cond_false, List.all_cons, List.all_nil, List.getElem?_cons_zero, List.getElem?_cons_succ, List.nil_append, List.append_nil, Option.bind_some, Option.map_some, Option.some.injEq, exists_eq_left', exists_eq', exists_eq, Prod.mk.injEq, exists_and_left], by simp only [↓Sh.stepDn, Sh.stepUp, seatFacts, exitTo, calm, isEff, Nat.reduceBEq, evs, evps, evo, isConst, reduceCtorEq, Nat.reduceEqDiff, resultsA, Sh.one, Sh.unit, forall_const, implies_true, eq_self, ne_eq, if_true, if_false, beq_self_eq_true, cond_true, cond_false, List.all_cons, List.all_nil, List.getElem?_cons_zero, List.getElem?_cons_succ, List.nil_append, List.append_nil, Option.bind_some, Option.map_some, Option.some.injEq, exists_eq_left', exists_eq', exists_eq, Prod.mk.injEq, exists_and_left], by simp only [↓Sh.stepDn, Sh.stepUp, seatFacts, exitTo, calm, isEff, Nat.reduceBEq, evs, evps, evo, isConst, reduceCtorEq, Nat.reduceEqDiff, resultsA, Sh.one, Sh.unit, forall_const, implies_true, eq_self, ne_eq, if_true, if_false, beq_self_eq_true, cond_true, cond_false, List.all_cons, List.all_nil, List.getElem?_cons_zero, List.getElem?_cons_succ, List.nil_append, List.append_nil, Option.bind_some, Option.map_some, Option.some.injEq, exists_eq_left', exists_eq', exists_eq, Prod.mk.injEq, exists_and_left], fun i y h => by omega, fun i y h1 h2 => by have := (List.getElem?_eq_some_iff.1 h2).1; omega⟩ ?_
  rintro m F H' ⟨rfl, a, b, rfl, hab, hbn, f7, f8, f0, f1, f6, hlo, hhi⟩ k
  by_cases hlt : a < b
  · have hm : (a + b) / 2 < l.length := by omega
    have hw2 : IntKind.wrap .i64 (((a + b) / 2 : Nat) : Int) = (((a + b) / 2 : Nat) : Int) := wrap64 (by omega) (by omega)
    obtain ⟨g, o, kk, hia, hc, hcc⟩ := hs.at Try.underlying22 size_9 (i := (a + b) / 2) (x := strCell l[(a + b) / 2]) (by simp [hm]) .i64
    have hy := hcc 0 _ rfl
    simp only [Nat.add_zero] at hy
    obtain ⟨r, H1, hd, rfl, rfl⟩ := cmpLessStr (H := H') (x := l[(a + b) / 2]) (y := x)
    have hget : l[(a + b) / 2]? = some l[(a + b) / 2] := List.getElem?_eq_getElem hm
    simp only [↓Sh.stepDn, Sh.stepUp, seatFacts, exitTo, calm, isEff, Nat.reduceBEq, evs, evps, evo, isConst, reduceCtorEq, Nat.reduceEqDiff, resultsA, Sh.one, Sh.unit, forall_const, implies_true, eq_self, ne_eq, if_true, if_false, beq_self_eq_true, cond_true, cond_false, List.all_cons, List.all_nil, List.getElem?_cons_zero, List.getElem?_cons_succ, List.nil_append, List.append_nil, Option.bind_some, Option.map_some, Option.some.injEq, exists_eq_left', exists_eq', exists_eq, Prod.mk.injEq, exists_and_left, f0, f1, f6, f7, f8, nat_lt, hlt, decide_true, b_shr, half a b (by omega), hw2, hia, hy, forall_const, reduceCtorEq, false_implies, and_true, true_and]
    refine ⟨_, _, hd, ?_⟩
    cases hpv : strLt l[(a + b) / 2] x with
    | true =>
      have hw3 : IntKind.wrap .i64 ((((a + b) / 2 : Nat) : Int) + 1) = (((a + b) / 2 + 1 : Nat) : Int) := wrap_succ (n := l.length) (by omega) hl
      simp only [↓Sh.stepDn, Sh.stepUp, seatFacts, exitTo, calm, isEff, Nat.reduceBEq, evs, evps, evo, isConst, reduceCtorEq, Nat.reduceEqDiff, resultsA, Sh.one, Sh.unit, forall_const, implies_true, eq_self, ne_eq, if_true, if_false, beq_self_eq_true, cond_true, cond_false, List.all_cons, List.all_nil, List.getElem?_cons_zero, List.getElem?_cons_succ, List.nil_append, List.append_nil, Option.bind_some, Option.map_some, Option.some.injEq, exists_eq_left', exists_eq', exists_eq, Prod.mk.injEq, exists_and_left, forall_const, reduceCtorEq, false_implies, and_true, true_and, hw3]
      refine k (b - ((a + b) / 2 + 1)) _ _ (by omega) ⟨rfl, (a + b) / 2 + 1, b, rfl, by omega, hbn, by simp only [↓Sh.stepDn, Sh.stepUp, seatFacts, exitTo, calm, isEff, Nat.reduceBEq, evs, evps, evo, isConst, reduceCtorEq, Nat.reduceEqDiff, resultsA, Sh.one, Sh.unit, forall_const, implies_true, eq_self, ne_eq, if_true, if_false, beq_self_eq_true, cond_true, cond_false, List.all_cons, List.all_nil, List.getElem?_cons_zero, List.getElem?_cons_succ, List.nil_append, List.append_nil, Option.bind_some, Option.map_some, Option.some.injEq, exists_eq_left', exists_eq', exists_eq, Prod.mk.injEq, exists_and_left], by simp only [↓Sh.stepDn, Sh.stepUp, seatFacts, exitTo, calm, isEff, Nat.reduceBEq, evs, evps, evo, isConst, reduceCtorEq, Nat.reduceEqDiff, resultsA, Sh.one, Sh.unit, forall_const, implies_true, eq_self, ne_eq, if_true, if_false, beq_self_eq_true, cond_true, cond_false, List.all_cons, List.all_nil, List.getElem?_cons_zero, List.getElem?_cons_succ, List.nil_append, List.append_nil, Option.bind_some, Option.map_some, Option.some.injEq, exists_eq_left', exists_eq', exists_eq, Prod.mk.injEq, exists_and_left, f8], by simp only [↓Sh.stepDn, Sh.stepUp, seatFacts, exitTo, calm, isEff, Nat.reduceBEq, evs, evps, evo, isConst, reduceCtorEq, Nat.reduceEqDiff, resultsA, Sh.one, Sh.unit, forall_const, implies_true, eq_self, ne_eq, if_true, if_false, beq_self_eq_true, cond_true, cond_false, List.all_cons, List.all_nil, List.getElem?_cons_zero, List.getElem?_cons_succ, List.nil_append, List.append_nil, Option.bind_some, Option.map_some, Option.some.injEq, exists_eq_left', exists_eq', exists_eq, Prod.mk.injEq, exists_and_left, f0], by simp only [↓Sh.stepDn, Sh.stepUp, seatFacts, exitTo, calm, isEff, Nat.reduceBEq, evs, evps, evo, isConst, reduceCtorEq, Nat.reduceEqDiff, resultsA, Sh.one, Sh.unit, forall_const, implies_true, eq_self, ne_eq, if_true, if_false, beq_self_eq_true, cond_true, cond_false, List.all_cons, List.all_nil, List.getElem?_cons_zero, List.getElem?_cons_succ, List.nil_append, List.append_nil, Option.bind_some, Option.map_some, Option.some.injEq, exists_eq_left', exists_eq', exists_eq, Prod.mk.injEq, exists_and_left, f1], by simp only [↓Sh.stepDn, Sh.stepUp, seatFacts, exitTo, calm, isEff, Nat.reduceBEq, evs, evps, evo, isConst, reduceCtorEq, Nat.reduceEqDiff, resultsA, Sh.one, Sh.unit, forall_const, implies_true, eq_self, ne_eq, if_true, if_false, beq_self_eq_true, cond_true, cond_false, List.all_cons, List.all_nil, List.getElem?_cons_zero, List.getElem?_cons_succ, List.nil_append, List.append_nil, Option.bind_some, Option.map_some, Option.some.injEq, exists_eq_left', exists_eq', exists_eq, Prod.mk.injEq, exists_and_left, f6], fun i y hi hy => ?_, hhi⟩
      by_cases he : i = (a + b) / 2
      · subst he; rw [hget] at hy; rw [← Option.some.inj hy]; exact hpv
      · exact strLt_trans (ha _ _ _ _ (by omega) hy hget) hpv
    | false =>
      simp only [↓Sh.stepDn, Sh.stepUp, seatFacts, exitTo, calm, isEff, Nat.reduceBEq, evs, evps, evo, isConst, reduceCtorEq, Nat.reduceEqDiff, resultsA, Sh.one, Sh.unit, forall_const, implies_true, eq_self, ne_eq, if_true, if_false, beq_self_eq_true, cond_true, cond_false, List.all_cons, List.all_nil, List.getElem?_cons_zero, List.getElem?_cons_succ, List.nil_append, List.append_nil, Option.bind_some, Option.map_some, Option.some.injEq, exists_eq_left', exists_eq', exists_eq, Prod.mk.injEq, exists_and_left, forall_const, reduceCtorEq, false_implies, and_true, true_and]
      refine k ((a + b) / 2 - a) _ _ (by omega) ⟨rfl, a, (a + b) / 2, rfl, by omega, by omega, by simp only [↓Sh.stepDn, Sh.stepUp, seatFacts, exitTo, calm, isEff, Nat.reduceBEq, evs, evps, evo, isConst, reduceCtorEq, Nat.reduceEqDiff, resultsA, Sh.one, Sh.unit, forall_const, implies_true, eq_self, ne_eq, if_true, if_false, beq_self_eq_true, cond_true, cond_false, List.all_cons, List.all_nil, List.getElem?_cons_zero, List.getElem?_cons_succ, List.nil_append, List.append_nil, Option.bind_some, Option.map_some, Option.some.injEq, exists_eq_left', exists_eq', exists_eq, Prod.mk.injEq, exists_and_left, f7], by simp only [↓Sh.stepDn, Sh.stepUp, seatFacts, exitTo, calm, isEff, Nat.reduceBEq, evs, evps, evo, isConst, reduceCtorEq, Nat.reduceEqDiff, resultsA, Sh.one, Sh.unit, forall_const, implies_true, eq_self, ne_eq, if_true, if_false, beq_self_eq_true, cond_true, cond_false, List.all_cons, List.all_nil, List.getElem?_cons_zero, List.getElem?_cons_succ, List.nil_append, List.append_nil, Option.bind_some, Option.map_some, Option.some.injEq, exists_eq_left', exists_eq', exists_eq, Prod.mk.injEq, exists_and_left], by simp only [↓Sh.stepDn, Sh.stepUp, seatFacts, exitTo, calm, isEff, Nat.reduceBEq, evs, evps, evo, isConst, reduceCtorEq, Nat.reduceEqDiff, resultsA, Sh.one, Sh.unit, forall_const, implies_true, eq_self, ne_eq, if_true, if_false, beq_self_eq_true, cond_true, cond_false, List.all_cons, List.all_nil, List.getElem?_cons_zero, List.getElem?_cons_succ, List.nil_append, List.append_nil, Option.bind_some, Option.map_some, Option.some.injEq, exists_eq_left', exists_eq', exists_eq, Prod.mk.injEq, exists_and_left, f0], by simp only [↓Sh.stepDn, Sh.stepUp, seatFacts, exitTo, calm, isEff, Nat.reduceBEq, evs, evps, evo, isConst, reduceCtorEq, Nat.reduceEqDiff, resultsA, Sh.one, Sh.unit, forall_const, implies_true, eq_self, ne_eq, if_true, if_false, beq_self_eq_true, cond_true, cond_false, List.all_cons, List.all_nil, List.getElem?_cons_zero, List.getElem?_cons_succ, List.nil_append, List.append_nil, Option.bind_some, Option.map_some, Option.some.injEq, exists_eq_left', exists_eq', exists_eq, Prod.mk.injEq, exists_and_left, f1], by simp only [↓Sh.stepDn, Sh.stepUp, seatFacts, exitTo, calm, isEff, Nat.reduceBEq, evs, evps, evo, isConst, reduceCtorEq, Nat.reduceEqDiff, resultsA, Sh.one, Sh.unit, forall_const, implies_true, eq_self, ne_eq, if_true, if_false, beq_self_eq_true, cond_true, cond_false, List.all_cons, List.all_nil, List.getElem?_cons_zero, List.getElem?_cons_succ, List.nil_append, List.append_nil, Option.bind_some, Option.map_some, Option.some.injEq, exists_eq_left', exists_eq', exists_eq, Prod.mk.injEq, exists_and_left, f6], hlo, fun i y h1 hy => ?_⟩
      by_cases he : i = (a + b) / 2
      · subst he; rw [hget] at hy; rw [← Option.some.inj hy]; exact hpv
      · cases hlt2 : strLt y x with
        | false => rfl
        | true => rw [strLt_trans (ha _ _ _ _ (by omega) hget hy) hlt2] at hpv; cases hpv
  · have hab' : a = b := by omega
    subst hab'
    have hp := asc_place ha x hlo hhi
    by_cases hla : a < l.length
    · obtain ⟨g, o, kk, hia, hc, hcc⟩ := hs.at Try.underlying22 size_9 (i := a) (x := strCell l[a]) (by simp [hla]) .i64
      have hy := hcc 0 _ rfl
      simp only [Nat.add_zero] at hy
      have hget : l[a]? = some l[a] := List.getElem?_eq_getElem hla
      by_cases hex : l[a] = x
      · have hin : strIn l x = true := strIn_iff.2 (hp.1 (by rw [hget, hex]))
        simp only [↓Sh.stepDn, Sh.stepUp, seatFacts, exitTo, calm, isEff, Nat.reduceBEq, evs, evps, evo, isConst, reduceCtorEq, Nat.reduceEqDiff, resultsA, Sh.one, Sh.unit, forall_const, implies_true, eq_self, ne_eq, if_true, if_false, beq_self_eq_true, cond_true, cond_false, List.all_cons, List.all_nil, List.getElem?_cons_zero, List.getElem?_cons_succ, List.nil_append, List.append_nil, Option.bind_some, Option.map_some, Option.some.injEq, exists_eq_left', exists_eq', exists_eq, Prod.mk.injEq, exists_and_left, f0, f1, f6, f7, f8, nat_lt, hlt, hla, hia, hy, hex, decide_true, decide_false, hres, hin, forall_const, reduceCtorEq, false_implies, and_true, true_and]
        exact ⟨a, rfl, hbn, hp⟩
      · have hin : strIn l x = false := by
          cases h : strIn l x with
          | false => rfl
          | true => have := hp.2 (strIn_iff.1 h); rw [hget] at this; exact absurd (Option.some.inj this) hex
        obtain ⟨r, H1, hd, rfl, rfl⟩ := isNaNStr (H := H') (x := l[a])
        simp only [↓Sh.stepDn, Sh.stepUp, seatFacts, exitTo, calm, isEff, Nat.reduceBEq, evs, evps, evo, isConst, reduceCtorEq, Nat.reduceEqDiff, resultsA, Sh.one, Sh.unit, forall_const, implies_true, eq_self, ne_eq, if_true, if_false, beq_self_eq_true, cond_true, cond_false, List.all_cons, List.all_nil, List.getElem?_cons_zero, List.getElem?_cons_succ, List.nil_append, List.append_nil, Option.bind_some, Option.map_some, Option.some.injEq, exists_eq_left', exists_eq', exists_eq, Prod.mk.injEq, exists_and_left, f0, f1, f6, f7, f8, nat_lt, hlt, hla, hia, hy, hex, decide_true, decide_false, hres, hin, forall_const, reduceCtorEq, false_implies, and_true, true_and]
        refine ⟨_, _, hd, ?_⟩
        simp only [↓Sh.stepDn, Sh.stepUp, seatFacts, exitTo, calm, isEff, Nat.reduceBEq, evs, evps, evo, isConst, reduceCtorEq, Nat.reduceEqDiff, resultsA, Sh.one, Sh.unit, forall_const, implies_true, eq_self, ne_eq, if_true, if_false, beq_self_eq_true, cond_true, cond_false, List.all_cons, List.all_nil, List.getElem?_cons_zero, List.getElem?_cons_succ, List.nil_append, List.append_nil, Option.bind_some, Option.map_some, Option.some.injEq, exists_eq_left', exists_eq', exists_eq, Prod.mk.injEq, exists_and_left, f7, forall_const, reduceCtorEq, false_implies, and_true, true_and, hres]
        exact ⟨a, rfl, hbn, hp⟩
    · have hin : strIn l x = false := by
        cases h : strIn l x with
        | false => rfl
        | true => have := hp.2 (strIn_iff.1 h); rw [List.getElem?_eq_none (by omega)] at this; cases this
      simp only [↓Sh.stepDn, Sh.stepUp, seatFacts, exitTo, calm, isEff, Nat.reduceBEq, evs, evps, evo, isConst, reduceCtorEq, Nat.reduceEqDiff, resultsA, Sh.one, Sh.unit, forall_const, implies_true, eq_self, ne_eq, if_true, if_false, beq_self_eq_true, cond_true, cond_false, List.all_cons, List.all_nil, List.getElem?_cons_zero, List.getElem?_cons_succ, List.nil_append, List.append_nil, Option.bind_some, Option.map_some, Option.some.injEq, exists_eq_left', exists_eq', exists_eq, Prod.mk.injEq, exists_and_left, f0, f1, f6, f7, f8, nat_lt, hlt, hla, decide_true, decide_false, hres, hin, forall_const, reduceCtorEq, false_implies, and_true, true_and]
      exact ⟨a, rfl, hbn, hp⟩
end Go.Proofs.Ytfcmpclbhnjkgaa
/- What is wrong with a net of any kind, by the program. -/
set_option maxHeartbeats 4000000
set_option linter.unusedSimpArgs false
set_option linter.unusedVariables false
set_option pp.deepTerms.threshold 8
namespace Go.Proofs.Ytfcmpclbhnjkgaa
open Go Go.Proofs Go.Proofs.Sh
theorem checkIs {H : AH} {gg : Nat} {sg ar en : Value} {N : NetD} {s : ByteArray} (hb : NetBox H gg sg ar en N) (ha : Asc N.sigma) (hl : N.sigma.length ≤ 1048576) :
    Sh.Call Try.prog (knows 6) 35 [.string s, .pointer (some ⟨gg, 0, some 0⟩)] H (fun r H' => H' = H ∧ r = .bool (!badSym N s)) := by
  refine call_of rfl Try.func35 rfl (Nat.le_of_ble_eq_true rfl) ?_
  have hres : Try.f35.results.toList = [.tmp 3] := rfl
  obtain ⟨r, H1, hd, rfl, k, rfl, _, _⟩ := binarySearch (x := s) hb.hsg ha hl
  simp only [↓Sh.stepDn, Sh.stepUp, seatFacts, exitTo, calm, isEff, Nat.reduceBEq, evs, evps, evo, isConst, reduceCtorEq, Nat.reduceEqDiff, resultsA, Sh.one, Sh.unit, forall_const, implies_true, eq_self, ne_eq, if_true, if_false, beq_self_eq_true, cond_true, cond_false, List.all_cons, List.all_nil, List.getElem?_cons_zero, List.getElem?_cons_succ, List.nil_append, List.append_nil, Option.bind_some, Option.map_some, Option.some.injEq, exists_eq_left', exists_eq', exists_eq, Prod.mk.injEq, exists_and_left, hb.c0, hb.c1, hb.c2, hb.c3, hb.ca, netLenS hb, netLenA hb, netLenE hb]
  refine ⟨_, _, hd, ?_⟩
  simp only [↓Sh.stepDn, Sh.stepUp, seatFacts, exitTo, calm, isEff, Nat.reduceBEq, evs, evps, evo, isConst, reduceCtorEq, Nat.reduceEqDiff, resultsA, Sh.one, Sh.unit, forall_const, implies_true, eq_self, ne_eq, if_true, if_false, beq_self_eq_true, cond_true, cond_false, List.all_cons, List.all_nil, List.getElem?_cons_zero, List.getElem?_cons_succ, List.nil_append, List.append_nil, Option.bind_some, Option.map_some, Option.some.injEq, exists_eq_left', exists_eq', exists_eq, Prod.mk.injEq, exists_and_left, o_extract]
  by_cases h : s = ⟨#[]⟩
  · simp only [↓Sh.stepDn, Sh.stepUp, seatFacts, exitTo, calm, isEff, Nat.reduceBEq, evs, evps, evo, isConst, reduceCtorEq, Nat.reduceEqDiff, resultsA, Sh.one, Sh.unit, forall_const, implies_true, eq_self, ne_eq, if_true, if_false, beq_self_eq_true, cond_true, cond_false, List.all_cons, List.all_nil, List.getElem?_cons_zero, List.getElem?_cons_succ, List.nil_append, List.append_nil, Option.bind_some, Option.map_some, Option.some.injEq, exists_eq_left', exists_eq', exists_eq, Prod.mk.injEq, exists_and_left, h, decide_true, hres, badSym]
  · simp only [↓Sh.stepDn, Sh.stepUp, seatFacts, exitTo, calm, isEff, Nat.reduceBEq, evs, evps, evo, isConst, reduceCtorEq, Nat.reduceEqDiff, resultsA, Sh.one, Sh.unit, forall_const, implies_true, eq_self, ne_eq, if_true, if_false, beq_self_eq_true, cond_true, cond_false, List.all_cons, List.all_nil, List.getElem?_cons_zero, List.getElem?_cons_succ, List.nil_append, List.append_nil, Option.bind_some, Option.map_some, Option.some.injEq, exists_eq_left', exists_eq', exists_eq, Prod.mk.injEq, exists_and_left, h, decide_false, hres, badSym]
theorem graphCheck {H : AH} {v : Value} {N : NetD} (h : NetAt H v N) (hsm : NetSmall N) (hw : Wf H) :
    Sh.Call Try.prog (knows 6) 17 [v] H (fun r H' => Kept H H' ∧ r = .int .i64 (netErr N)) := by
  refine call_of rfl Try.func17 rfl (Nat.le_of_ble_eq_true rfl) ?_
  have hres : Try.f17.results.toList = [.tmp 2] := rfl
  obtain ⟨sg, ar, en, rfl, hsg, har, hen⟩ := h
  have hb1 := NetBox.of (N := N) hw hsg har hen
  have hk1 : Kept H (H.new 4 [sg, .int .i64 N.states, ar, en]).2 := Kept.new hw 4 _
  have eA : decide ((60000 : Int) < (N.arcs.length : Int)) = decide (60000 < N.arcs.length) := decide_eq_decide.2 (by omega)
  have eE : decide ((60000 : Int) < (N.ends.length : Int)) = decide (60000 < N.ends.length) := decide_eq_decide.2 (by omega)
  simp only [↓Sh.stepDn, Sh.stepUp, seatFacts, exitTo, calm, isEff, Nat.reduceBEq, evs, evps, evo, isConst, reduceCtorEq, Nat.reduceEqDiff, resultsA, Sh.one, Sh.unit, forall_const, implies_true, eq_self, ne_eq, if_true, if_false, beq_self_eq_true, cond_true, cond_false, List.all_cons, List.all_nil, List.getElem?_cons_zero, List.getElem?_cons_succ, List.nil_append, List.append_nil, Option.bind_some, Option.map_some, Option.some.injEq, exists_eq_left', exists_eq', exists_eq, Prod.mk.injEq, exists_and_left, netNew hsg.isCell har.isCell hen.isCell]
  generalize H.next = gg at hb1 ⊢
  generalize (H.new 4 [sg, .int .i64 N.states, ar, en]).2 = H1 at hb1 hk1 ⊢
  simp only [↓Sh.stepDn, Sh.stepUp, seatFacts, exitTo, calm, isEff, Nat.reduceBEq, evs, evps, evo, isConst, reduceCtorEq, Nat.reduceEqDiff, resultsA, Sh.one, Sh.unit, forall_const, implies_true, eq_self, ne_eq, if_true, if_false, beq_self_eq_true, cond_true, cond_false, List.all_cons, List.all_nil, List.getElem?_cons_zero, List.getElem?_cons_succ, List.nil_append, List.append_nil, Option.bind_some, Option.map_some, Option.some.injEq, exists_eq_left', exists_eq', exists_eq, Prod.mk.injEq, exists_and_left, hb1.c0, hb1.c1, hb1.c2, hb1.c3, hb1.ca, netLenS hb1, netLenA hb1, netLenE hb1]
  by_cases hA : 3000 < N.states
  · simp only [↓Sh.stepDn, Sh.stepUp, seatFacts, exitTo, calm, isEff, Nat.reduceBEq, evs, evps, evo, isConst, reduceCtorEq, Nat.reduceEqDiff, resultsA, Sh.one, Sh.unit, forall_const, implies_true, eq_self, ne_eq, if_true, if_false, beq_self_eq_true, cond_true, cond_false, List.all_cons, List.all_nil, List.getElem?_cons_zero, List.getElem?_cons_succ, List.nil_append, List.append_nil, Option.bind_some, Option.map_some, Option.some.injEq, exists_eq_left', exists_eq', exists_eq, Prod.mk.injEq, exists_and_left, hA, decide_true, hres, netErr, tooLarge, Bool.true_or, hk1]
  by_cases hB : 60000 < N.arcs.length
  · simp only [↓Sh.stepDn, Sh.stepUp, seatFacts, exitTo, calm, isEff, Nat.reduceBEq, evs, evps, evo, isConst, reduceCtorEq, Nat.reduceEqDiff, resultsA, Sh.one, Sh.unit, forall_const, implies_true, eq_self, ne_eq, if_true, if_false, beq_self_eq_true, cond_true, cond_false, List.all_cons, List.all_nil, List.getElem?_cons_zero, List.getElem?_cons_succ, List.nil_append, List.append_nil, Option.bind_some, Option.map_some, Option.some.injEq, exists_eq_left', exists_eq', exists_eq, Prod.mk.injEq, exists_and_left, hb1.c0, hb1.c1, hb1.c2, hb1.c3, hb1.ca, netLenS hb1, netLenA hb1, netLenE hb1, hA, eA, hB, decide_true, decide_false, hres, netErr, tooLarge, Bool.true_or, Bool.or_true, hk1]
  by_cases hC : 60000 < N.ends.length
  · simp only [↓Sh.stepDn, Sh.stepUp, seatFacts, exitTo, calm, isEff, Nat.reduceBEq, evs, evps, evo, isConst, reduceCtorEq, Nat.reduceEqDiff, resultsA, Sh.one, Sh.unit, forall_const, implies_true, eq_self, ne_eq, if_true, if_false, beq_self_eq_true, cond_true, cond_false, List.all_cons, List.all_nil, List.getElem?_cons_zero, List.getElem?_cons_succ, List.nil_append, List.append_nil, Option.bind_some, Option.map_some, Option.some.injEq, exists_eq_left', exists_eq', exists_eq, Prod.mk.injEq, exists_and_left, hb1.c0, hb1.c1, hb1.c2, hb1.c3, hb1.ca, netLenS hb1, netLenA hb1, netLenE hb1, hA, eA, eE, hB, hC, decide_true, decide_false, hres, netErr, tooLarge, Bool.true_or, Bool.or_true, hk1]
  have hT : tooLarge N = false := by simp [tooLarge, hA, hB, hC]
  simp only [↓Sh.stepDn, Sh.stepUp, seatFacts, exitTo, calm, isEff, Nat.reduceBEq, evs, evps, evo, isConst, reduceCtorEq, Nat.reduceEqDiff, resultsA, Sh.one, Sh.unit, forall_const, implies_true, eq_self, ne_eq, if_true, if_false, beq_self_eq_true, cond_true, cond_false, List.all_cons, List.all_nil, List.getElem?_cons_zero, List.getElem?_cons_succ, List.nil_append, List.append_nil, Option.bind_some, Option.map_some, Option.some.injEq, exists_eq_left', exists_eq', exists_eq, Prod.mk.injEq, exists_and_left, hb1.c0, hb1.c1, hb1.c2, hb1.c3, hb1.ca, netLenS hb1, netLenA hb1, netLenE hb1, hA, eA, eE, hB, hC, decide_true, decide_false, hres]
  obtain ⟨r, H2, hd, hk2, rfl⟩ := symsValidate hb1.hsg hsm.sg hsm.sx hk1.wf
  refine ⟨_, _, hd, ?_⟩
  have hb2 := hb1.kept hk1.wf hk2
  have hk12 := hk1.trans hk2
  by_cases hS : sigErr N.sigma = 0
  case neg => simp only [↓Sh.stepDn, Sh.stepUp, seatFacts, exitTo, calm, isEff, Nat.reduceBEq, evs, evps, evo, isConst, reduceCtorEq, Nat.reduceEqDiff, resultsA, Sh.one, Sh.unit, forall_const, implies_true, eq_self, ne_eq, if_true, if_false, beq_self_eq_true, cond_true, cond_false, List.all_cons, List.all_nil, List.getElem?_cons_zero, List.getElem?_cons_succ, List.nil_append, List.append_nil, Option.bind_some, Option.map_some, Option.some.injEq, exists_eq_left', exists_eq', exists_eq, Prod.mk.injEq, exists_and_left, hS, decide_false, hres, netErr, hT, Bool.false_eq_true, if_false, ne_eq, not_false_eq_true, if_true, hk12]
  have hasc := sigErr_asc hS
  simp only [↓Sh.stepDn, Sh.stepUp, seatFacts, exitTo, calm, isEff, Nat.reduceBEq, evs, evps, evo, isConst, reduceCtorEq, Nat.reduceEqDiff, resultsA, Sh.one, Sh.unit, forall_const, implies_true, eq_self, ne_eq, if_true, if_false, beq_self_eq_true, cond_true, cond_false, List.all_cons, List.all_nil, List.getElem?_cons_zero, List.getElem?_cons_succ, List.nil_append, List.append_nil, Option.bind_some, Option.map_some, Option.some.injEq, exists_eq_left', exists_eq', exists_eq, Prod.mk.injEq, exists_and_left, hS, decide_true, hb2.c0, hb2.c1, hb2.c2, hb2.c3, hb2.ca, netLenS hb2, netLenA hb2, netLenE hb2]
  by_cases hst : N.states < 1
  · simp only [↓Sh.stepDn, Sh.stepUp, seatFacts, exitTo, calm, isEff, Nat.reduceBEq, evs, evps, evo, isConst, reduceCtorEq, Nat.reduceEqDiff, resultsA, Sh.one, Sh.unit, forall_const, implies_true, eq_self, ne_eq, if_true, if_false, beq_self_eq_true, cond_true, cond_false, List.all_cons, List.all_nil, List.getElem?_cons_zero, List.getElem?_cons_succ, List.nil_append, List.append_nil, Option.bind_some, Option.map_some, Option.some.injEq, exists_eq_left', exists_eq', exists_eq, Prod.mk.injEq, exists_and_left, hst, decide_true, hres, netErr, hT, hS, ne_eq, not_true_eq_false, if_false, if_true, hk12, Bool.false_eq_true]
  simp only [↓Sh.stepDn, Sh.stepUp, seatFacts, exitTo, calm, isEff, Nat.reduceBEq, evs, evps, evo, isConst, reduceCtorEq, Nat.reduceEqDiff, resultsA, Sh.one, Sh.unit, forall_const, implies_true, eq_self, ne_eq, if_true, if_false, beq_self_eq_true, cond_true, cond_false, List.all_cons, List.all_nil, List.getElem?_cons_zero, List.getElem?_cons_succ, List.nil_append, List.append_nil, Option.bind_some, Option.map_some, Option.some.injEq, exists_eq_left', exists_eq', exists_eq, Prod.mk.injEq, exists_and_left, hst, decide_false, hb2.c0, hb2.c1, hb2.c2, hb2.c3, hb2.ca, netLenS hb2, netLenA hb2, netLenE hb2]
  have e1 : N.arcs.any (badArc N) = true → netErr N = 1 := by intro h; simp [netErr, hT, hS, hst, h]
  have e2 : N.ends.any (badEnd N) = true → netErr N = 1 := by intro h; simp [netErr, hT, hS, hst, h]
  have e3 : N.arcs.any (badArc N) = false → N.ends.any (badEnd N) = false → netErr N = 0 := by intro h h'; simp [netErr, hT, hS, hst, h, h']
  refine wp_for N.arcs.length 37 (List.range' 37 41 ++ [2, 6]) (fun i F H' => Kept H2 H' ∧ (N.arcs.take i).any (badArc N) = false) (by simp only [↓Sh.stepDn, Sh.stepUp, seatFacts, exitTo, calm, isEff, Nat.reduceBEq, evs, evps, evo, isConst, reduceCtorEq, Nat.reduceEqDiff, resultsA, Sh.one, Sh.unit, forall_const, implies_true, eq_self, ne_eq, if_true, if_false, beq_self_eq_true, cond_true, cond_false, List.all_cons, List.all_nil, List.getElem?_cons_zero, List.getElem?_cons_succ, List.nil_append, List.append_nil, Option.bind_some, Option.map_some, Option.some.injEq, exists_eq_left', exists_eq', exists_eq, Prod.mk.injEq, exists_and_left]) ⟨Kept.refl hk12.wf, rfl⟩ ?_ ?_
  · rintro i F H' hlt hF f37 ⟨hk, hall⟩ k
    have f1 := hF 1 rfl
    have f4 := hF 4 rfl
    have f35 := hF 35 rfl
    have f36 := hF 36 rfl
    simp only [↓Sh.stepDn, Sh.stepUp, seatFacts, exitTo, calm, isEff, Nat.reduceBEq, evs, evps, evo, isConst, reduceCtorEq, Nat.reduceEqDiff, resultsA, Sh.one, Sh.unit, forall_const, implies_true, eq_self, ne_eq, if_true, if_false, beq_self_eq_true, cond_true, cond_false, List.all_cons, List.all_nil, List.getElem?_cons_zero, List.getElem?_cons_succ, List.nil_append, List.append_nil, Option.bind_some, Option.map_some, Option.some.injEq, exists_eq_left', exists_eq', exists_eq, Prod.mk.injEq, exists_and_left] at f1 f4 f35 f36
    have hb' := hb2.kept hk12.wf hk
    have hb3 := hb'.new hk.wf 5 (N.arcs[i].cells)
    have hk3 := hk.news 5 (N.arcs[i].cells)
    obtain ⟨g, o, kk, hia, hc, hcc⟩ := hb'.har.at Try.underlying23 size_43 (i := i) (x := N.arcs[i].cells) (by simp [hlt]) .i64
    clear hcc
    have hin : N.arcs[i] ∈ N.arcs := List.getElem_mem hlt
    have hnext : badArc N N.arcs[i] = false → (N.arcs.take (i + 1)).any (badArc N) = false := by
      intro h
      rw [List.take_add_one, List.getElem?_eq_getElem hlt]
      simp only [Option.toList, List.any_append, hall, List.any_cons, List.any_nil, h, Bool.or_false]
    have hbad : badArc N N.arcs[i] = true → netErr N = 1 := fun h => e1 (List.any_eq_true.2 ⟨_, hin, h⟩)
    generalize N.arcs[i] = a at hb3 hk3 hc hnext hbad
    simp only [↓Sh.stepDn, Sh.stepUp, seatFacts, exitTo, calm, isEff, Nat.reduceBEq, evs, evps, evo, isConst, reduceCtorEq, Nat.reduceEqDiff, resultsA, Sh.one, Sh.unit, forall_const, implies_true, eq_self, ne_eq, if_true, if_false, beq_self_eq_true, cond_true, cond_false, List.all_cons, List.all_nil, List.getElem?_cons_zero, List.getElem?_cons_succ, List.nil_append, List.append_nil, Option.bind_some, Option.map_some, Option.some.injEq, exists_eq_left', exists_eq', exists_eq, Prod.mk.injEq, exists_and_left, hb'.c0, hb'.c1, hb'.c2, hb'.c3, hb'.ca, netLenS hb', netLenA hb', netLenE hb', netZero, arcZero, endZero, arcNew, endNew, arcStore, endStore, arcOver, endOver, netOver, arc0, arc1, arc2, arc3, arc4, end0, end1, f1, f35, f36, f37, Option.map_some, nat_lt, hlt, decide_true, hia, hc, hres]
    by_cases h1 : a.fr < 0
    · simp only [↓Sh.stepDn, Sh.stepUp, seatFacts, exitTo, calm, isEff, Nat.reduceBEq, evs, evps, evo, isConst, reduceCtorEq, Nat.reduceEqDiff, resultsA, Sh.one, Sh.unit, forall_const, implies_true, eq_self, ne_eq, if_true, if_false, beq_self_eq_true, cond_true, cond_false, List.all_cons, List.all_nil, List.getElem?_cons_zero, List.getElem?_cons_succ, List.nil_append, List.append_nil, Option.bind_some, Option.map_some, Option.some.injEq, exists_eq_left', exists_eq', exists_eq, Prod.mk.injEq, exists_and_left, hb3.c0, hb3.c1, hb3.c2, hb3.c3, hb3.ca, netLenS hb3, netLenA hb3, netLenE hb3, netZero, arcZero, endZero, arcNew, endNew, arcStore, endStore, arcOver, endOver, netOver, arc0, arc1, arc2, arc3, arc4, end0, end1, h1, decide_true, hres, hbad (by simp [badArc, h1]), hk12.trans hk3]
    simp only [↓Sh.stepDn, Sh.stepUp, seatFacts, exitTo, calm, isEff, Nat.reduceBEq, evs, evps, evo, isConst, reduceCtorEq, Nat.reduceEqDiff, resultsA, Sh.one, Sh.unit, forall_const, implies_true, eq_self, ne_eq, if_true, if_false, beq_self_eq_true, cond_true, cond_false, List.all_cons, List.all_nil, List.getElem?_cons_zero, List.getElem?_cons_succ, List.nil_append, List.append_nil, Option.bind_some, Option.map_some, Option.some.injEq, exists_eq_left', exists_eq', exists_eq, Prod.mk.injEq, exists_and_left, hb3.c0, hb3.c1, hb3.c2, hb3.c3, hb3.ca, netLenS hb3, netLenA hb3, netLenE hb3, netZero, arcZero, endZero, arcNew, endNew, arcStore, endStore, arcOver, endOver, netOver, arc0, arc1, arc2, arc3, arc4, end0, end1, f1, h1, decide_false]
    by_cases h2 : N.states ≤ a.fr
    · simp only [↓Sh.stepDn, Sh.stepUp, seatFacts, exitTo, calm, isEff, Nat.reduceBEq, evs, evps, evo, isConst, reduceCtorEq, Nat.reduceEqDiff, resultsA, Sh.one, Sh.unit, forall_const, implies_true, eq_self, ne_eq, if_true, if_false, beq_self_eq_true, cond_true, cond_false, List.all_cons, List.all_nil, List.getElem?_cons_zero, List.getElem?_cons_succ, List.nil_append, List.append_nil, Option.bind_some, Option.map_some, Option.some.injEq, exists_eq_left', exists_eq', exists_eq, Prod.mk.injEq, exists_and_left, hb3.c0, hb3.c1, hb3.c2, hb3.c3, hb3.ca, netLenS hb3, netLenA hb3, netLenE hb3, netZero, arcZero, endZero, arcNew, endNew, arcStore, endStore, arcOver, endOver, netOver, arc0, arc1, arc2, arc3, arc4, end0, end1, h2, decide_true, hres, hbad (by simp [badArc, h2]), hk12.trans hk3]
    simp only [↓Sh.stepDn, Sh.stepUp, seatFacts, exitTo, calm, isEff, Nat.reduceBEq, evs, evps, evo, isConst, reduceCtorEq, Nat.reduceEqDiff, resultsA, Sh.one, Sh.unit, forall_const, implies_true, eq_self, ne_eq, if_true, if_false, beq_self_eq_true, cond_true, cond_false, List.all_cons, List.all_nil, List.getElem?_cons_zero, List.getElem?_cons_succ, List.nil_append, List.append_nil, Option.bind_some, Option.map_some, Option.some.injEq, exists_eq_left', exists_eq', exists_eq, Prod.mk.injEq, exists_and_left, hb3.c0, hb3.c1, hb3.c2, hb3.c3, hb3.ca, netLenS hb3, netLenA hb3, netLenE hb3, netZero, arcZero, endZero, arcNew, endNew, arcStore, endStore, arcOver, endOver, netOver, arc0, arc1, arc2, arc3, arc4, end0, end1, f1, h2, decide_false]
    by_cases h3 : a.to < 0
    · simp only [↓Sh.stepDn, Sh.stepUp, seatFacts, exitTo, calm, isEff, Nat.reduceBEq, evs, evps, evo, isConst, reduceCtorEq, Nat.reduceEqDiff, resultsA, Sh.one, Sh.unit, forall_const, implies_true, eq_self, ne_eq, if_true, if_false, beq_self_eq_true, cond_true, cond_false, List.all_cons, List.all_nil, List.getElem?_cons_zero, List.getElem?_cons_succ, List.nil_append, List.append_nil, Option.bind_some, Option.map_some, Option.some.injEq, exists_eq_left', exists_eq', exists_eq, Prod.mk.injEq, exists_and_left, hb3.c0, hb3.c1, hb3.c2, hb3.c3, hb3.ca, netLenS hb3, netLenA hb3, netLenE hb3, netZero, arcZero, endZero, arcNew, endNew, arcStore, endStore, arcOver, endOver, netOver, arc0, arc1, arc2, arc3, arc4, end0, end1, h3, decide_true, hres, hbad (by simp [badArc, h3]), hk12.trans hk3]
    simp only [↓Sh.stepDn, Sh.stepUp, seatFacts, exitTo, calm, isEff, Nat.reduceBEq, evs, evps, evo, isConst, reduceCtorEq, Nat.reduceEqDiff, resultsA, Sh.one, Sh.unit, forall_const, implies_true, eq_self, ne_eq, if_true, if_false, beq_self_eq_true, cond_true, cond_false, List.all_cons, List.all_nil, List.getElem?_cons_zero, List.getElem?_cons_succ, List.nil_append, List.append_nil, Option.bind_some, Option.map_some, Option.some.injEq, exists_eq_left', exists_eq', exists_eq, Prod.mk.injEq, exists_and_left, hb3.c0, hb3.c1, hb3.c2, hb3.c3, hb3.ca, netLenS hb3, netLenA hb3, netLenE hb3, netZero, arcZero, endZero, arcNew, endNew, arcStore, endStore, arcOver, endOver, netOver, arc0, arc1, arc2, arc3, arc4, end0, end1, f1, h3, decide_false]
    by_cases h4 : N.states ≤ a.to
    · simp only [↓Sh.stepDn, Sh.stepUp, seatFacts, exitTo, calm, isEff, Nat.reduceBEq, evs, evps, evo, isConst, reduceCtorEq, Nat.reduceEqDiff, resultsA, Sh.one, Sh.unit, forall_const, implies_true, eq_self, ne_eq, if_true, if_false, beq_self_eq_true, cond_true, cond_false, List.all_cons, List.all_nil, List.getElem?_cons_zero, List.getElem?_cons_succ, List.nil_append, List.append_nil, Option.bind_some, Option.map_some, Option.some.injEq, exists_eq_left', exists_eq', exists_eq, Prod.mk.injEq, exists_and_left, hb3.c0, hb3.c1, hb3.c2, hb3.c3, hb3.ca, netLenS hb3, netLenA hb3, netLenE hb3, netZero, arcZero, endZero, arcNew, endNew, arcStore, endStore, arcOver, endOver, netOver, arc0, arc1, arc2, arc3, arc4, end0, end1, h4, decide_true, hres, hbad (by simp [badArc, h4]), hk12.trans hk3]
    obtain ⟨r, H4, hd4, rfl, rfl⟩ := checkIs (s := a.inn) hb3 hasc hsm.sg
    simp only [↓Sh.stepDn, Sh.stepUp, seatFacts, exitTo, calm, isEff, Nat.reduceBEq, evs, evps, evo, isConst, reduceCtorEq, Nat.reduceEqDiff, resultsA, Sh.one, Sh.unit, forall_const, implies_true, eq_self, ne_eq, if_true, if_false, beq_self_eq_true, cond_true, cond_false, List.all_cons, List.all_nil, List.getElem?_cons_zero, List.getElem?_cons_succ, List.nil_append, List.append_nil, Option.bind_some, Option.map_some, Option.some.injEq, exists_eq_left', exists_eq', exists_eq, Prod.mk.injEq, exists_and_left, hb3.c0, hb3.c1, hb3.c2, hb3.c3, hb3.ca, netLenS hb3, netLenA hb3, netLenE hb3, netZero, arcZero, endZero, arcNew, endNew, arcStore, endStore, arcOver, endOver, netOver, arc0, arc1, arc2, arc3, arc4, end0, end1, f1, f4, h4, decide_false]
    refine ⟨_, _, hd4, ?_⟩
    have hb4 := hb3
    cases hI : badSym N a.inn with
    | true => simp only [↓Sh.stepDn, Sh.stepUp, seatFacts, exitTo, calm, isEff, Nat.reduceBEq, evs, evps, evo, isConst, reduceCtorEq, Nat.reduceEqDiff, resultsA, Sh.one, Sh.unit, forall_const, implies_true, eq_self, ne_eq, if_true, if_false, beq_self_eq_true, cond_true, cond_false, List.all_cons, List.all_nil, List.getElem?_cons_zero, List.getElem?_cons_succ, List.nil_append, List.append_nil, Option.bind_some, Option.map_some, Option.some.injEq, exists_eq_left', exists_eq', exists_eq, Prod.mk.injEq, exists_and_left, hres, hbad (by simp [badArc, hI]), hk12.trans hk3]
    | false =>
      obtain ⟨r, H5, hd5, rfl, rfl⟩ := checkIs (s := a.out) hb3 hasc hsm.sg
      simp only [↓Sh.stepDn, Sh.stepUp, seatFacts, exitTo, calm, isEff, Nat.reduceBEq, evs, evps, evo, isConst, reduceCtorEq, Nat.reduceEqDiff, resultsA, Sh.one, Sh.unit, forall_const, implies_true, eq_self, ne_eq, if_true, if_false, beq_self_eq_true, cond_true, cond_false, List.all_cons, List.all_nil, List.getElem?_cons_zero, List.getElem?_cons_succ, List.nil_append, List.append_nil, Option.bind_some, Option.map_some, Option.some.injEq, exists_eq_left', exists_eq', exists_eq, Prod.mk.injEq, exists_and_left, hb3.c0, hb3.c1, hb3.c2, hb3.c3, hb3.ca, netLenS hb3, netLenA hb3, netLenE hb3, netZero, arcZero, endZero, arcNew, endNew, arcStore, endStore, arcOver, endOver, netOver, arc0, arc1, arc2, arc3, arc4, end0, end1, f1, f4]
      refine ⟨_, _, hd5, ?_⟩
      cases hO : badSym N a.out with
      | true => simp only [↓Sh.stepDn, Sh.stepUp, seatFacts, exitTo, calm, isEff, Nat.reduceBEq, evs, evps, evo, isConst, reduceCtorEq, Nat.reduceEqDiff, resultsA, Sh.one, Sh.unit, forall_const, implies_true, eq_self, ne_eq, if_true, if_false, beq_self_eq_true, cond_true, cond_false, List.all_cons, List.all_nil, List.getElem?_cons_zero, List.getElem?_cons_succ, List.nil_append, List.append_nil, Option.bind_some, Option.map_some, Option.some.injEq, exists_eq_left', exists_eq', exists_eq, Prod.mk.injEq, exists_and_left, hres, hbad (by simp [badArc, hO]), hk12.trans hk3]
      | false =>
        simp only [↓Sh.stepDn, Sh.stepUp, seatFacts, exitTo, calm, isEff, Nat.reduceBEq, evs, evps, evo, isConst, reduceCtorEq, Nat.reduceEqDiff, resultsA, Sh.one, Sh.unit, forall_const, implies_true, eq_self, ne_eq, if_true, if_false, beq_self_eq_true, cond_true, cond_false, List.all_cons, List.all_nil, List.getElem?_cons_zero, List.getElem?_cons_succ, List.nil_append, List.append_nil, Option.bind_some, Option.map_some, Option.some.injEq, exists_eq_left', exists_eq', exists_eq, Prod.mk.injEq, exists_and_left, f37, wrap_succ hlt hsm.ar]
        exact k _ _ (by repeat (first | refine Same.put ?_ rfl | exact Same.rfl' _)) (by simp only [↓Sh.stepDn, Sh.stepUp, seatFacts, exitTo, calm, isEff, Nat.reduceBEq, evs, evps, evo, isConst, reduceCtorEq, Nat.reduceEqDiff, resultsA, Sh.one, Sh.unit, forall_const, implies_true, eq_self, ne_eq, if_true, if_false, beq_self_eq_true, cond_true, cond_false, List.all_cons, List.all_nil, List.getElem?_cons_zero, List.getElem?_cons_succ, List.nil_append, List.append_nil, Option.bind_some, Option.map_some, Option.some.injEq, exists_eq_left', exists_eq', exists_eq, Prod.mk.injEq, exists_and_left]) ⟨hk3, hnext (by simp [badArc, h1, h2, h3, h4, hI, hO])⟩
  · rintro F H' hF f37 ⟨hk, hall⟩
    have f1 := hF 1 rfl
    have f36 := hF 36 rfl
    simp only [↓Sh.stepDn, Sh.stepUp, seatFacts, exitTo, calm, isEff, Nat.reduceBEq, evs, evps, evo, isConst, reduceCtorEq, Nat.reduceEqDiff, resultsA, Sh.one, Sh.unit, forall_const, implies_true, eq_self, ne_eq, if_true, if_false, beq_self_eq_true, cond_true, cond_false, List.all_cons, List.all_nil, List.getElem?_cons_zero, List.getElem?_cons_succ, List.nil_append, List.append_nil, Option.bind_some, Option.map_some, Option.some.injEq, exists_eq_left', exists_eq', exists_eq, Prod.mk.injEq, exists_and_left] at f1 f36
    rw [List.take_length] at hall
    have hb' := hb2.kept hk12.wf hk
    simp only [↓Sh.stepDn, Sh.stepUp, seatFacts, exitTo, calm, isEff, Nat.reduceBEq, evs, evps, evo, isConst, reduceCtorEq, Nat.reduceEqDiff, resultsA, Sh.one, Sh.unit, forall_const, implies_true, eq_self, ne_eq, if_true, if_false, beq_self_eq_true, cond_true, cond_false, List.all_cons, List.all_nil, List.getElem?_cons_zero, List.getElem?_cons_succ, List.nil_append, List.append_nil, Option.bind_some, Option.map_some, Option.some.injEq, exists_eq_left', exists_eq', exists_eq, Prod.mk.injEq, exists_and_left, hb'.c0, hb'.c1, hb'.c2, hb'.c3, hb'.ca, netLenS hb', netLenA hb', netLenE hb', f1, f36, f37, nat_lt, Nat.lt_irrefl, decide_false]
    refine wp_for N.ends.length 81 (List.range' 81 15 ++ [2, 8]) (fun i F H'' => Kept H' H'' ∧ (N.ends.take i).any (badEnd N) = false) (by simp only [↓Sh.stepDn, Sh.stepUp, seatFacts, exitTo, calm, isEff, Nat.reduceBEq, evs, evps, evo, isConst, reduceCtorEq, Nat.reduceEqDiff, resultsA, Sh.one, Sh.unit, forall_const, implies_true, eq_self, ne_eq, if_true, if_false, beq_self_eq_true, cond_true, cond_false, List.all_cons, List.all_nil, List.getElem?_cons_zero, List.getElem?_cons_succ, List.nil_append, List.append_nil, Option.bind_some, Option.map_some, Option.some.injEq, exists_eq_left', exists_eq', exists_eq, Prod.mk.injEq, exists_and_left]) ⟨Kept.refl hk.wf, rfl⟩ ?_ ?_
    · rintro i F2 H'' hlt hF2 f81 ⟨hk2', hall2⟩ k
      have g1 := hF2 1 rfl
      have g79 := hF2 79 rfl
      have g80 := hF2 80 rfl
      simp only [↓Sh.stepDn, Sh.stepUp, seatFacts, exitTo, calm, isEff, Nat.reduceBEq, evs, evps, evo, isConst, reduceCtorEq, Nat.reduceEqDiff, resultsA, Sh.one, Sh.unit, forall_const, implies_true, eq_self, ne_eq, if_true, if_false, beq_self_eq_true, cond_true, cond_false, List.all_cons, List.all_nil, List.getElem?_cons_zero, List.getElem?_cons_succ, List.nil_append, List.append_nil, Option.bind_some, Option.map_some, Option.some.injEq, exists_eq_left', exists_eq', exists_eq, Prod.mk.injEq, exists_and_left, f1] at g1 g79 g80
      have hbx := hb'.kept hk.wf hk2'
      have hb3 := hbx.new hk2'.wf 2 (N.ends[i].cells)
      have hk3 := hk2'.news 2 (N.ends[i].cells)
      have hkk := (hk12.trans hk).trans hk3
      obtain ⟨g, o, kk, hia, hc, hcc⟩ := hbx.hen.at Try.underlying24 size_45 (i := i) (x := N.ends[i].cells) (by simp [hlt]) .i64
      clear hcc
      have hbad : badEnd N N.ends[i] = true → netErr N = 1 := fun h => e2 (List.any_eq_true.2 ⟨_, List.getElem_mem hlt, h⟩)
      simp only [↓Sh.stepDn, Sh.stepUp, seatFacts, exitTo, calm, isEff, Nat.reduceBEq, evs, evps, evo, isConst, reduceCtorEq, Nat.reduceEqDiff, resultsA, Sh.one, Sh.unit, forall_const, implies_true, eq_self, ne_eq, if_true, if_false, beq_self_eq_true, cond_true, cond_false, List.all_cons, List.all_nil, List.getElem?_cons_zero, List.getElem?_cons_succ, List.nil_append, List.append_nil, Option.bind_some, Option.map_some, Option.some.injEq, exists_eq_left', exists_eq', exists_eq, Prod.mk.injEq, exists_and_left, hbx.c0, hbx.c1, hbx.c2, hbx.c3, hbx.ca, netLenS hbx, netLenA hbx, netLenE hbx, netZero, arcZero, endZero, arcNew, endNew, arcStore, endStore, arcOver, endOver, netOver, arc0, arc1, arc2, arc3, arc4, end0, end1, g1, g79, g80, f81, nat_lt, hlt, decide_true, hia, hc, Option.map_some]
      by_cases h1 : N.ends[i].state < 0
      · simp only [↓Sh.stepDn, Sh.stepUp, seatFacts, exitTo, calm, isEff, Nat.reduceBEq, evs, evps, evo, isConst, reduceCtorEq, Nat.reduceEqDiff, resultsA, Sh.one, Sh.unit, forall_const, implies_true, eq_self, ne_eq, if_true, if_false, beq_self_eq_true, cond_true, cond_false, List.all_cons, List.all_nil, List.getElem?_cons_zero, List.getElem?_cons_succ, List.nil_append, List.append_nil, Option.bind_some, Option.map_some, Option.some.injEq, exists_eq_left', exists_eq', exists_eq, Prod.mk.injEq, exists_and_left, hb3.c0, hb3.c1, hb3.c2, hb3.c3, hb3.ca, netLenS hb3, netLenA hb3, netLenE hb3, netZero, arcZero, endZero, arcNew, endNew, arcStore, endStore, arcOver, endOver, netOver, arc0, arc1, arc2, arc3, arc4, end0, end1, h1, decide_true, hres, hbad (by simp [badEnd, h1]), hkk]
      simp only [↓Sh.stepDn, Sh.stepUp, seatFacts, exitTo, calm, isEff, Nat.reduceBEq, evs, evps, evo, isConst, reduceCtorEq, Nat.reduceEqDiff, resultsA, Sh.one, Sh.unit, forall_const, implies_true, eq_self, ne_eq, if_true, if_false, beq_self_eq_true, cond_true, cond_false, List.all_cons, List.all_nil, List.getElem?_cons_zero, List.getElem?_cons_succ, List.nil_append, List.append_nil, Option.bind_some, Option.map_some, Option.some.injEq, exists_eq_left', exists_eq', exists_eq, Prod.mk.injEq, exists_and_left, hb3.c0, hb3.c1, hb3.c2, hb3.c3, hb3.ca, netLenS hb3, netLenA hb3, netLenE hb3, netZero, arcZero, endZero, arcNew, endNew, arcStore, endStore, arcOver, endOver, netOver, arc0, arc1, arc2, arc3, arc4, end0, end1, g1, f81, h1, decide_false]
      by_cases h2 : N.states ≤ N.ends[i].state
      · simp only [↓Sh.stepDn, Sh.stepUp, seatFacts, exitTo, calm, isEff, Nat.reduceBEq, evs, evps, evo, isConst, reduceCtorEq, Nat.reduceEqDiff, resultsA, Sh.one, Sh.unit, forall_const, implies_true, eq_self, ne_eq, if_true, if_false, beq_self_eq_true, cond_true, cond_false, List.all_cons, List.all_nil, List.getElem?_cons_zero, List.getElem?_cons_succ, List.nil_append, List.append_nil, Option.bind_some, Option.map_some, Option.some.injEq, exists_eq_left', exists_eq', exists_eq, Prod.mk.injEq, exists_and_left, h2, decide_true, hres, hbad (by simp [badEnd, h2]), hkk]
      simp only [↓Sh.stepDn, Sh.stepUp, seatFacts, exitTo, calm, isEff, Nat.reduceBEq, evs, evps, evo, isConst, reduceCtorEq, Nat.reduceEqDiff, resultsA, Sh.one, Sh.unit, forall_const, implies_true, eq_self, ne_eq, if_true, if_false, beq_self_eq_true, cond_true, cond_false, List.all_cons, List.all_nil, List.getElem?_cons_zero, List.getElem?_cons_succ, List.nil_append, List.append_nil, Option.bind_some, Option.map_some, Option.some.injEq, exists_eq_left', exists_eq', exists_eq, Prod.mk.injEq, exists_and_left, f81, h2, decide_false, wrap_succ hlt hsm.en]
      refine k _ _ (by repeat (first | refine Same.put ?_ rfl | exact Same.rfl' _)) (by simp only [↓Sh.stepDn, Sh.stepUp, seatFacts, exitTo, calm, isEff, Nat.reduceBEq, evs, evps, evo, isConst, reduceCtorEq, Nat.reduceEqDiff, resultsA, Sh.one, Sh.unit, forall_const, implies_true, eq_self, ne_eq, if_true, if_false, beq_self_eq_true, cond_true, cond_false, List.all_cons, List.all_nil, List.getElem?_cons_zero, List.getElem?_cons_succ, List.nil_append, List.append_nil, Option.bind_some, Option.map_some, Option.some.injEq, exists_eq_left', exists_eq', exists_eq, Prod.mk.injEq, exists_and_left]) ⟨hk3, ?_⟩
      rw [List.take_add_one, List.getElem?_eq_getElem hlt]
      simp only [Option.toList, List.any_append, hall2, List.any_cons, List.any_nil, Bool.or_false, badEnd, h1, h2, decide_false]
    · rintro F2 H'' hF2 f81 ⟨hk2', hall2⟩
      have g80 := hF2 80 rfl
      simp only [↓Sh.stepDn, Sh.stepUp, seatFacts, exitTo, calm, isEff, Nat.reduceBEq, evs, evps, evo, isConst, reduceCtorEq, Nat.reduceEqDiff, resultsA, Sh.one, Sh.unit, forall_const, implies_true, eq_self, ne_eq, if_true, if_false, beq_self_eq_true, cond_true, cond_false, List.all_cons, List.all_nil, List.getElem?_cons_zero, List.getElem?_cons_succ, List.nil_append, List.append_nil, Option.bind_some, Option.map_some, Option.some.injEq, exists_eq_left', exists_eq', exists_eq, Prod.mk.injEq, exists_and_left] at g80
      rw [List.take_length] at hall2
      simp only [↓Sh.stepDn, Sh.stepUp, seatFacts, exitTo, calm, isEff, Nat.reduceBEq, evs, evps, evo, isConst, reduceCtorEq, Nat.reduceEqDiff, resultsA, Sh.one, Sh.unit, forall_const, implies_true, eq_self, ne_eq, if_true, if_false, beq_self_eq_true, cond_true, cond_false, List.all_cons, List.all_nil, List.getElem?_cons_zero, List.getElem?_cons_succ, List.nil_append, List.append_nil, Option.bind_some, Option.map_some, Option.some.injEq, exists_eq_left', exists_eq', exists_eq, Prod.mk.injEq, exists_and_left, g80, f81, nat_lt, Nat.lt_irrefl, decide_false, hres, e3 hall hall2, (hk12.trans hk).trans hk2']
end Go.Proofs.Ytfcmpclbhnjkgaa
/- Whether nothing of a net costs. -/
set_option maxHeartbeats 4000000
set_option linter.unusedSimpArgs false
namespace Go.Proofs.Ytfcmpclbhnjkgaa
open Go Go.Proofs Go.Proofs.Sh
def NetD.free (N : NetD) : Bool := N.arcs.all (fun a => decide (a.cost = 0)) && N.ends.all (fun a => decide (a.cost = 0))
theorem isFree {H : AH} {v : Value} {N : NetD} (h : NetAt H v N) (hw : Wf H) (hl : N.arcs.length ≤ 1048576) (hl2 : N.ends.length ≤ 1048576) : Sh.Call Try.prog (knows 6) 22 [v] H (fun r H' => r = .bool (NetD.free N) ∧ Kept H H') := by
  obtain ⟨sg, ar, en, rfl, hsg, har, hen⟩ := h
  refine call_of rfl Try.func22 rfl (Nat.le_of_ble_eq_true rfl) ?_
  have hn := new_agg (P := Try.prog) (H := H) (t := 26) (vs := [sg, .int .i64 N.states, ar, en]) size_26 rfl (by simp [hsg.isCell, har.isCell, hen.isCell, show isCell (.int .i64 N.states) = true from rfl])
  have hO := Obj.new (H := H) 4 [sg, .int .i64 N.states, ar, en]
  have hk : Kept H (H.new 4 [sg, .int .i64 N.states, ar, en]).2 := Kept.new hw 4 _
  simp only [↓Sh.stepDn, Sh.stepUp, seatFacts, exitTo, calm, isEff, Nat.reduceBEq, evs, evps, evo, isConst, reduceCtorEq, Nat.reduceEqDiff, resultsA, Sh.one, Sh.unit, forall_const, implies_true, eq_self, ne_eq, if_true, if_false, beq_self_eq_true, cond_true, cond_false, List.all_cons, List.all_nil, List.getElem?_cons_zero, List.getElem?_cons_succ, List.nil_append, List.append_nil, Option.bind_some, Option.map_some, Option.some.injEq, exists_eq_left', exists_eq', exists_eq, Prod.mk.injEq, exists_and_left, ↓Sh.wp_cond, hn]
  generalize (H.new 4 [sg, .int .i64 N.states, ar, en]).2 = H1 at hO hk ⊢
  have c2 : H1.cell ⟨H.next, 2, some 0⟩ = some ar := hO.cell
  have c3 : H1.cell ⟨H.next, 3, some 0⟩ = some en := hO.cell
  have har1 := har.grow (hk.grow hw)
  have hen1 := hen.grow (hk.grow hw)
  have l2 := har1.len Try.underlying23 H1
  have l3 := hen1.len Try.underlying24 H1
  have hres : Try.f22.results.toList = [.tmp 2] := rfl
  refine wp_count N.arcs.length (fun i F H' => H' = H1 ∧ F.get 1 = some (.pointer (some ⟨H.next, 0, some 0⟩)) ∧ F.get 3 = some (.int .i64 (i : Int)) ∧ (N.arcs.take i).all (fun a => decide (a.cost = 0)) = true) (Nat.zero_le _) ⟨rfl, by simp only [↓Sh.stepDn, Sh.stepUp, seatFacts, exitTo, calm, isEff, Nat.reduceBEq, evs, evps, evo, isConst, reduceCtorEq, Nat.reduceEqDiff, resultsA, Sh.one, Sh.unit, forall_const, implies_true, eq_self, ne_eq, if_true, if_false, beq_self_eq_true, cond_true, cond_false, List.all_cons, List.all_nil, List.getElem?_cons_zero, List.getElem?_cons_succ, List.nil_append, List.append_nil, Option.bind_some, Option.map_some, Option.some.injEq, exists_eq_left', exists_eq', exists_eq, Prod.mk.injEq, exists_and_left, ↓Sh.wp_cond], by simp only [↓Sh.stepDn, Sh.stepUp, seatFacts, exitTo, calm, isEff, Nat.reduceBEq, evs, evps, evo, isConst, reduceCtorEq, Nat.reduceEqDiff, resultsA, Sh.one, Sh.unit, forall_const, implies_true, eq_self, ne_eq, if_true, if_false, beq_self_eq_true, cond_true, cond_false, List.all_cons, List.all_nil, List.getElem?_cons_zero, List.getElem?_cons_succ, List.nil_append, List.append_nil, Option.bind_some, Option.map_some, Option.some.injEq, exists_eq_left', exists_eq', exists_eq, Prod.mk.injEq, exists_and_left, ↓Sh.wp_cond]; rfl, rfl⟩ ?_
  rintro i F H' hi ⟨rfl, f1, f3, hall⟩ k
  by_cases hlt : i < N.arcs.length
  · have hx : (N.arcs.map ArcD.cells)[i]? = some (N.arcs[i].cells) := by simp [hlt]
    obtain ⟨g, o, kk, hia, hc, hcc⟩ := har1.at Try.underlying23 size_43 hx .i64
    have hcost := hcc 4 _ rfl
    simp only [↓Sh.stepDn, Sh.stepUp, seatFacts, exitTo, calm, isEff, Nat.reduceBEq, evs, evps, evo, isConst, reduceCtorEq, Nat.reduceEqDiff, resultsA, Sh.one, Sh.unit, forall_const, implies_true, eq_self, ne_eq, if_true, if_false, beq_self_eq_true, cond_true, cond_false, List.all_cons, List.all_nil, List.getElem?_cons_zero, List.getElem?_cons_succ, List.nil_append, List.append_nil, Option.bind_some, Option.map_some, Option.some.injEq, exists_eq_left', exists_eq', exists_eq, Prod.mk.injEq, exists_and_left, ↓Sh.wp_cond, f1, f3, c2, l2, hia, hcost, List.length_map, nat_lt, hlt, decide_true, forall_const, reduceCtorEq, false_implies, and_true, true_and, hres, resultsA, one]
    refine ⟨fun hne => ⟨?_, hk⟩, fun he => k _ _ hlt ⟨rfl, by simp only [↓Sh.stepDn, Sh.stepUp, seatFacts, exitTo, calm, isEff, Nat.reduceBEq, evs, evps, evo, isConst, reduceCtorEq, Nat.reduceEqDiff, resultsA, Sh.one, Sh.unit, forall_const, implies_true, eq_self, ne_eq, if_true, if_false, beq_self_eq_true, cond_true, cond_false, List.all_cons, List.all_nil, List.getElem?_cons_zero, List.getElem?_cons_succ, List.nil_append, List.append_nil, Option.bind_some, Option.map_some, Option.some.injEq, exists_eq_left', exists_eq', exists_eq, Prod.mk.injEq, exists_and_left, ↓Sh.wp_cond, f1], by simp only [↓Sh.stepDn, Sh.stepUp, seatFacts, exitTo, calm, isEff, Nat.reduceBEq, evs, evps, evo, isConst, reduceCtorEq, Nat.reduceEqDiff, resultsA, Sh.one, Sh.unit, forall_const, implies_true, eq_self, ne_eq, if_true, if_false, beq_self_eq_true, cond_true, cond_false, List.all_cons, List.all_nil, List.getElem?_cons_zero, List.getElem?_cons_succ, List.nil_append, List.append_nil, Option.bind_some, Option.map_some, Option.some.injEq, exists_eq_left', exists_eq', exists_eq, Prod.mk.injEq, exists_and_left, ↓Sh.wp_cond, wrap_succ hlt hl], ?_⟩⟩
    · have : NetD.free N = false := by
        simp only [NetD.free, Bool.and_eq_false_iff, List.all_eq_false]
        exact .inl ⟨_, List.getElem_mem hlt, by simpa using hne⟩
      rw [this]
    · rw [List.take_add_one, List.getElem?_eq_getElem hlt]
      simp only [Option.toList, List.all_append, hall, Bool.true_and, List.all_cons, List.all_nil, Bool.and_true]
      simpa using he
  · have hin : i = N.arcs.length := by omega
    subst hin
    rw [List.take_length] at hall
    simp only [↓Sh.stepDn, Sh.stepUp, seatFacts, exitTo, calm, isEff, Nat.reduceBEq, evs, evps, evo, isConst, reduceCtorEq, Nat.reduceEqDiff, resultsA, Sh.one, Sh.unit, forall_const, implies_true, eq_self, ne_eq, if_true, if_false, beq_self_eq_true, cond_true, cond_false, List.all_cons, List.all_nil, List.getElem?_cons_zero, List.getElem?_cons_succ, List.nil_append, List.append_nil, Option.bind_some, Option.map_some, Option.some.injEq, exists_eq_left', exists_eq', exists_eq, Prod.mk.injEq, exists_and_left, ↓Sh.wp_cond, f1, f3, c2, l2, List.length_map, nat_lt, hlt, decide_false, forall_const, reduceCtorEq, false_implies, and_true, true_and]
    refine wp_count N.ends.length (fun i F H'' => H'' = H' ∧ F.get 1 = some (.pointer (some ⟨H.next, 0, some 0⟩)) ∧ F.get 4 = some (.int .i64 (i : Int)) ∧ (N.ends.take i).all (fun a => decide (a.cost = 0)) = true) (Nat.zero_le _) ⟨rfl, by simp only [↓Sh.stepDn, Sh.stepUp, seatFacts, exitTo, calm, isEff, Nat.reduceBEq, evs, evps, evo, isConst, reduceCtorEq, Nat.reduceEqDiff, resultsA, Sh.one, Sh.unit, forall_const, implies_true, eq_self, ne_eq, if_true, if_false, beq_self_eq_true, cond_true, cond_false, List.all_cons, List.all_nil, List.getElem?_cons_zero, List.getElem?_cons_succ, List.nil_append, List.append_nil, Option.bind_some, Option.map_some, Option.some.injEq, exists_eq_left', exists_eq', exists_eq, Prod.mk.injEq, exists_and_left, ↓Sh.wp_cond, f1], by simp only [↓Sh.stepDn, Sh.stepUp, seatFacts, exitTo, calm, isEff, Nat.reduceBEq, evs, evps, evo, isConst, reduceCtorEq, Nat.reduceEqDiff, resultsA, Sh.one, Sh.unit, forall_const, implies_true, eq_self, ne_eq, if_true, if_false, beq_self_eq_true, cond_true, cond_false, List.all_cons, List.all_nil, List.getElem?_cons_zero, List.getElem?_cons_succ, List.nil_append, List.append_nil, Option.bind_some, Option.map_some, Option.some.injEq, exists_eq_left', exists_eq', exists_eq, Prod.mk.injEq, exists_and_left, ↓Sh.wp_cond]; rfl, rfl⟩ ?_
    clear k
    rintro i F H'' hi ⟨rfl, f1, f4, hall2⟩ k
    by_cases hlt2 : i < N.ends.length
    · have hx : (N.ends.map EndD.cells)[i]? = some (N.ends[i].cells) := by simp [hlt2]
      obtain ⟨g, o, kk, hia, hc, hcc⟩ := hen1.at Try.underlying24 size_45 hx .i64
      have hcost := hcc 1 _ rfl
      simp only [↓Sh.stepDn, Sh.stepUp, seatFacts, exitTo, calm, isEff, Nat.reduceBEq, evs, evps, evo, isConst, reduceCtorEq, Nat.reduceEqDiff, resultsA, Sh.one, Sh.unit, forall_const, implies_true, eq_self, ne_eq, if_true, if_false, beq_self_eq_true, cond_true, cond_false, List.all_cons, List.all_nil, List.getElem?_cons_zero, List.getElem?_cons_succ, List.nil_append, List.append_nil, Option.bind_some, Option.map_some, Option.some.injEq, exists_eq_left', exists_eq', exists_eq, Prod.mk.injEq, exists_and_left, ↓Sh.wp_cond, f1, f4, c3, l3, hia, hcost, List.length_map, nat_lt, hlt2, decide_true, forall_const, reduceCtorEq, false_implies, and_true, true_and, hres, resultsA, one]
      refine ⟨fun hne => ⟨?_, hk⟩, fun he => k _ _ hlt2 ⟨rfl, by simp only [↓Sh.stepDn, Sh.stepUp, seatFacts, exitTo, calm, isEff, Nat.reduceBEq, evs, evps, evo, isConst, reduceCtorEq, Nat.reduceEqDiff, resultsA, Sh.one, Sh.unit, forall_const, implies_true, eq_self, ne_eq, if_true, if_false, beq_self_eq_true, cond_true, cond_false, List.all_cons, List.all_nil, List.getElem?_cons_zero, List.getElem?_cons_succ, List.nil_append, List.append_nil, Option.bind_some, Option.map_some, Option.some.injEq, exists_eq_left', exists_eq', exists_eq, Prod.mk.injEq, exists_and_left, ↓Sh.wp_cond, f1], by simp only [↓Sh.stepDn, Sh.stepUp, seatFacts, exitTo, calm, isEff, Nat.reduceBEq, evs, evps, evo, isConst, reduceCtorEq, Nat.reduceEqDiff, resultsA, Sh.one, Sh.unit, forall_const, implies_true, eq_self, ne_eq, if_true, if_false, beq_self_eq_true, cond_true, cond_false, List.all_cons, List.all_nil, List.getElem?_cons_zero, List.getElem?_cons_succ, List.nil_append, List.append_nil, Option.bind_some, Option.map_some, Option.some.injEq, exists_eq_left', exists_eq', exists_eq, Prod.mk.injEq, exists_and_left, ↓Sh.wp_cond, wrap_succ hlt2 hl2], ?_⟩⟩
      · have : NetD.free N = false := by
          simp only [NetD.free, Bool.and_eq_false_iff, List.all_eq_false]
          exact .inr ⟨_, List.getElem_mem hlt2, by simpa using hne⟩
        rw [this]
      · rw [List.take_add_one, List.getElem?_eq_getElem hlt2]
        simp only [Option.toList, List.all_append, hall2, Bool.true_and, List.all_cons, List.all_nil, Bool.and_true]
        simpa using he
    · have hin : i = N.ends.length := by omega
      subst hin
      rw [List.take_length] at hall2
      simp only [↓Sh.stepDn, Sh.stepUp, seatFacts, exitTo, calm, isEff, Nat.reduceBEq, evs, evps, evo, isConst, reduceCtorEq, Nat.reduceEqDiff, resultsA, Sh.one, Sh.unit, forall_const, implies_true, eq_self, ne_eq, if_true, if_false, beq_self_eq_true, cond_true, cond_false, List.all_cons, List.all_nil, List.getElem?_cons_zero, List.getElem?_cons_succ, List.nil_append, List.append_nil, Option.bind_some, Option.map_some, Option.some.injEq, exists_eq_left', exists_eq', exists_eq, Prod.mk.injEq, exists_and_left, ↓Sh.wp_cond, f1, f4, c3, l3, List.length_map, nat_lt, hlt2, decide_false, forall_const, reduceCtorEq, false_implies, and_true, true_and, hres, resultsA, one]
      refine ⟨?_, hk⟩
      rw [NetD.free, hall, hall2]
      rfl
end Go.Proofs.Ytfcmpclbhnjkgaa
/- What is wrong with an acceptor, by the reference. -/
set_option maxHeartbeats 4000000
set_option linter.unusedSimpArgs false
set_option linter.unusedVariables false
set_option pp.deepTerms.threshold 8
namespace Go.Proofs.Ytfcmpclbhnjkgaa
open Go Go.Proofs Go.Proofs.Sh
def unlike (N : NetD) : Bool := N.arcs.any fun a => !decide (a.inn = a.out)
def accErr (N : NetD) : Int := if netErr N ≠ 0 then netErr N else if unlike N = true then 6 else if NetD.free N = true then 0 else 6
theorem refValidate {H : AH} {v : Value} {N : NetD} (h : NetAt H v N) (hsm : NetSmall N) (hw : Wf H) :
    Sh.Call Try.prog (knows 6) 8 [v] H (fun r H' => Kept H H' ∧ r = .int .i64 (accErr N)) := by
  refine call_of rfl Try.func8 rfl (Nat.le_of_ble_eq_true rfl) ?_
  have hres : Try.f8.results.toList = [.tmp 2] := rfl
  obtain ⟨sg, ar, en, rfl, hsg, har, hen⟩ := h
  have hb1 := NetBox.of (N := N) hw hsg har hen
  have hk1 : Kept H (H.new 4 [sg, .int .i64 N.states, ar, en]).2 := Kept.new hw 4 _
  simp only [↓Sh.stepDn, Sh.stepUp, seatFacts, exitTo, calm, isEff, Nat.reduceBEq, evs, evps, evo, isConst, reduceCtorEq, Nat.reduceEqDiff, resultsA, Sh.one, Sh.unit, forall_const, implies_true, eq_self, ne_eq, if_true, if_false, beq_self_eq_true, cond_true, cond_false, List.all_cons, List.all_nil, List.getElem?_cons_zero, List.getElem?_cons_succ, List.nil_append, List.append_nil, Option.bind_some, Option.map_some, Option.some.injEq, exists_eq_left', exists_eq', exists_eq, Prod.mk.injEq, exists_and_left, netNew hsg.isCell har.isCell hen.isCell]
  generalize H.next = gg at hb1 ⊢
  generalize (H.new 4 [sg, .int .i64 N.states, ar, en]).2 = H1 at hb1 hk1 ⊢
  simp only [↓Sh.stepDn, Sh.stepUp, seatFacts, exitTo, calm, isEff, Nat.reduceBEq, evs, evps, evo, isConst, reduceCtorEq, Nat.reduceEqDiff, resultsA, Sh.one, Sh.unit, forall_const, implies_true, eq_self, ne_eq, if_true, if_false, beq_self_eq_true, cond_true, cond_false, List.all_cons, List.all_nil, List.getElem?_cons_zero, List.getElem?_cons_succ, List.nil_append, List.append_nil, Option.bind_some, Option.map_some, Option.some.injEq, exists_eq_left', exists_eq', exists_eq, Prod.mk.injEq, exists_and_left, hb1.c0, hb1.c1, hb1.c2, hb1.c3, hb1.ca, netLenS hb1, netLenA hb1, netLenE hb1, Option.map_some]
  obtain ⟨r, H2, hd, hk2, rfl⟩ := validateNet hb1.netAt hsm hk1.wf
  refine ⟨_, _, hd, ?_⟩
  have hb2 := hb1.kept hk1.wf hk2
  have hk12 := hk1.trans hk2
  by_cases hE : netErr N = 0
  case neg => simp only [↓Sh.stepDn, Sh.stepUp, seatFacts, exitTo, calm, isEff, Nat.reduceBEq, evs, evps, evo, isConst, reduceCtorEq, Nat.reduceEqDiff, resultsA, Sh.one, Sh.unit, forall_const, implies_true, eq_self, ne_eq, if_true, if_false, beq_self_eq_true, cond_true, cond_false, List.all_cons, List.all_nil, List.getElem?_cons_zero, List.getElem?_cons_succ, List.nil_append, List.append_nil, Option.bind_some, Option.map_some, Option.some.injEq, exists_eq_left', exists_eq', exists_eq, Prod.mk.injEq, exists_and_left, hE, decide_false, hres, accErr, if_true, hk12]
  simp only [↓Sh.stepDn, Sh.stepUp, seatFacts, exitTo, calm, isEff, Nat.reduceBEq, evs, evps, evo, isConst, reduceCtorEq, Nat.reduceEqDiff, resultsA, Sh.one, Sh.unit, forall_const, implies_true, eq_self, ne_eq, if_true, if_false, beq_self_eq_true, cond_true, cond_false, List.all_cons, List.all_nil, List.getElem?_cons_zero, List.getElem?_cons_succ, List.nil_append, List.append_nil, Option.bind_some, Option.map_some, Option.some.injEq, exists_eq_left', exists_eq', exists_eq, Prod.mk.injEq, exists_and_left, hE, decide_true, hb2.c0, hb2.c1, hb2.c2, hb2.c3, hb2.ca, netLenS hb2, netLenA hb2, netLenE hb2]
  have e1 : unlike N = true → accErr N = 6 := by intro h; simp [accErr, hE, h]
  refine wp_for N.arcs.length 4 (List.range' 4 26 ++ [2]) (fun i F H' => H' = H2 ∧ (N.arcs.take i).any (fun a => !decide (a.inn = a.out)) = false) (by simp only [↓Sh.stepDn, Sh.stepUp, seatFacts, exitTo, calm, isEff, Nat.reduceBEq, evs, evps, evo, isConst, reduceCtorEq, Nat.reduceEqDiff, resultsA, Sh.one, Sh.unit, forall_const, implies_true, eq_self, ne_eq, if_true, if_false, beq_self_eq_true, cond_true, cond_false, List.all_cons, List.all_nil, List.getElem?_cons_zero, List.getElem?_cons_succ, List.nil_append, List.append_nil, Option.bind_some, Option.map_some, Option.some.injEq, exists_eq_left', exists_eq', exists_eq, Prod.mk.injEq, exists_and_left]) ⟨rfl, rfl⟩ ?_ ?_
  · rintro i F H' hlt hF f4 ⟨rfl, hall⟩ k
    have f1 := hF 1 rfl
    simp only [↓Sh.stepDn, Sh.stepUp, seatFacts, exitTo, calm, isEff, Nat.reduceBEq, evs, evps, evo, isConst, reduceCtorEq, Nat.reduceEqDiff, resultsA, Sh.one, Sh.unit, forall_const, implies_true, eq_self, ne_eq, if_true, if_false, beq_self_eq_true, cond_true, cond_false, List.all_cons, List.all_nil, List.getElem?_cons_zero, List.getElem?_cons_succ, List.nil_append, List.append_nil, Option.bind_some, Option.map_some, Option.some.injEq, exists_eq_left', exists_eq', exists_eq, Prod.mk.injEq, exists_and_left] at f1
    obtain ⟨g, o, kk, hia, hc, hcc⟩ := hb2.har.at Try.underlying23 size_43 (i := i) (x := N.arcs[i].cells) (by simp [hlt]) .i64
    have q1 := hcc 1 _ rfl
    have q2 := hcc 2 _ rfl
    simp only [↓Sh.stepDn, Sh.stepUp, seatFacts, exitTo, calm, isEff, Nat.reduceBEq, evs, evps, evo, isConst, reduceCtorEq, Nat.reduceEqDiff, resultsA, Sh.one, Sh.unit, forall_const, implies_true, eq_self, ne_eq, if_true, if_false, beq_self_eq_true, cond_true, cond_false, List.all_cons, List.all_nil, List.getElem?_cons_zero, List.getElem?_cons_succ, List.nil_append, List.append_nil, Option.bind_some, Option.map_some, Option.some.injEq, exists_eq_left', exists_eq', exists_eq, Prod.mk.injEq, exists_and_left, hb2.c0, hb2.c1, hb2.c2, hb2.c3, hb2.ca, netLenS hb2, netLenA hb2, netLenE hb2, f1, f4, nat_lt, hlt, decide_true, hia, q1, q2]
    by_cases hx : N.arcs[i].inn = N.arcs[i].out
    · simp only [↓Sh.stepDn, Sh.stepUp, seatFacts, exitTo, calm, isEff, Nat.reduceBEq, evs, evps, evo, isConst, reduceCtorEq, Nat.reduceEqDiff, resultsA, Sh.one, Sh.unit, forall_const, implies_true, eq_self, ne_eq, if_true, if_false, beq_self_eq_true, cond_true, cond_false, List.all_cons, List.all_nil, List.getElem?_cons_zero, List.getElem?_cons_succ, List.nil_append, List.append_nil, Option.bind_some, Option.map_some, Option.some.injEq, exists_eq_left', exists_eq', exists_eq, Prod.mk.injEq, exists_and_left, hx, decide_true, f4, wrap_succ hlt hsm.ar]
      refine k _ _ (by repeat (first | refine Same.put ?_ rfl | exact Same.rfl' _)) (by simp only [↓Sh.stepDn, Sh.stepUp, seatFacts, exitTo, calm, isEff, Nat.reduceBEq, evs, evps, evo, isConst, reduceCtorEq, Nat.reduceEqDiff, resultsA, Sh.one, Sh.unit, forall_const, implies_true, eq_self, ne_eq, if_true, if_false, beq_self_eq_true, cond_true, cond_false, List.all_cons, List.all_nil, List.getElem?_cons_zero, List.getElem?_cons_succ, List.nil_append, List.append_nil, Option.bind_some, Option.map_some, Option.some.injEq, exists_eq_left', exists_eq', exists_eq, Prod.mk.injEq, exists_and_left]) ⟨rfl, ?_⟩
      rw [List.take_add_one, List.getElem?_eq_getElem hlt]
      simp only [Option.toList, List.any_append, hall, List.any_cons, List.any_nil, hx, decide_true, Bool.not_true, Bool.or_false]
    · simp only [↓Sh.stepDn, Sh.stepUp, seatFacts, exitTo, calm, isEff, Nat.reduceBEq, evs, evps, evo, isConst, reduceCtorEq, Nat.reduceEqDiff, resultsA, Sh.one, Sh.unit, forall_const, implies_true, eq_self, ne_eq, if_true, if_false, beq_self_eq_true, cond_true, cond_false, List.all_cons, List.all_nil, List.getElem?_cons_zero, List.getElem?_cons_succ, List.nil_append, List.append_nil, Option.bind_some, Option.map_some, Option.some.injEq, exists_eq_left', exists_eq', exists_eq, Prod.mk.injEq, exists_and_left, hx, decide_false, hres, e1 (List.any_eq_true.2 ⟨_, List.getElem_mem hlt, by simp [hx]⟩), hk12]
  · rintro F H' hF f4 ⟨rfl, hall⟩
    have f1 := hF 1 rfl
    simp only [↓Sh.stepDn, Sh.stepUp, seatFacts, exitTo, calm, isEff, Nat.reduceBEq, evs, evps, evo, isConst, reduceCtorEq, Nat.reduceEqDiff, resultsA, Sh.one, Sh.unit, forall_const, implies_true, eq_self, ne_eq, if_true, if_false, beq_self_eq_true, cond_true, cond_false, List.all_cons, List.all_nil, List.getElem?_cons_zero, List.getElem?_cons_succ, List.nil_append, List.append_nil, Option.bind_some, Option.map_some, Option.some.injEq, exists_eq_left', exists_eq', exists_eq, Prod.mk.injEq, exists_and_left] at f1
    rw [List.take_length] at hall
    simp only [↓Sh.stepDn, Sh.stepUp, seatFacts, exitTo, calm, isEff, Nat.reduceBEq, evs, evps, evo, isConst, reduceCtorEq, Nat.reduceEqDiff, resultsA, Sh.one, Sh.unit, forall_const, implies_true, eq_self, ne_eq, if_true, if_false, beq_self_eq_true, cond_true, cond_false, List.all_cons, List.all_nil, List.getElem?_cons_zero, List.getElem?_cons_succ, List.nil_append, List.append_nil, Option.bind_some, Option.map_some, Option.some.injEq, exists_eq_left', exists_eq', exists_eq, Prod.mk.injEq, exists_and_left, hb2.c0, hb2.c1, hb2.c2, hb2.c3, hb2.ca, netLenS hb2, netLenA hb2, netLenE hb2, f1, f4, nat_lt, Nat.lt_irrefl, decide_false, Option.map_some]
    obtain ⟨r, H3, hd3, rfl, hk3⟩ := isFree hb2.netAt hk12.wf hsm.ar hsm.en
    refine ⟨_, _, hd3, ?_⟩
    cases hf : NetD.free N with
    | true => simp only [↓Sh.stepDn, Sh.stepUp, seatFacts, exitTo, calm, isEff, Nat.reduceBEq, evs, evps, evo, isConst, reduceCtorEq, Nat.reduceEqDiff, resultsA, Sh.one, Sh.unit, forall_const, implies_true, eq_self, ne_eq, if_true, if_false, beq_self_eq_true, cond_true, cond_false, List.all_cons, List.all_nil, List.getElem?_cons_zero, List.getElem?_cons_succ, List.nil_append, List.append_nil, Option.bind_some, Option.map_some, Option.some.injEq, exists_eq_left', exists_eq', exists_eq, Prod.mk.injEq, exists_and_left, hres, accErr, hE, unlike, hall, hf, if_true, if_false, hk12.trans hk3, Bool.false_eq_true]
    | false => simp only [↓Sh.stepDn, Sh.stepUp, seatFacts, exitTo, calm, isEff, Nat.reduceBEq, evs, evps, evo, isConst, reduceCtorEq, Nat.reduceEqDiff, resultsA, Sh.one, Sh.unit, forall_const, implies_true, eq_self, ne_eq, if_true, if_false, beq_self_eq_true, cond_true, cond_false, List.all_cons, List.all_nil, List.getElem?_cons_zero, List.getElem?_cons_succ, List.nil_append, List.append_nil, Option.bind_some, Option.map_some, Option.some.injEq, exists_eq_left', exists_eq', exists_eq, Prod.mk.injEq, exists_and_left, hres, accErr, hE, unlike, hall, hf, if_true, if_false, hk12.trans hk3, Bool.false_eq_true]
end Go.Proofs.Ytfcmpclbhnjkgaa
