/- A part of the proof: Facts, NetFacts, AnyLong, IsSymbol, AllSymbols, IsSet, RefSigma, Search, SearchAt, SearchStrings, IsIn, ValidateNet, IsFree, RefValidate, NetOk, CloneStr, GraphNew, RefGraph. -/
import Derived.Test.YtcgbiedfbacgpaaGreatProg
import Derived.Test.YtcgbiedfbacgpaaGreatMClose2AutoLists2
import Derived.KernelRfl
import Derived.Test.YtcgbiedfbacgpaaGreatMClose2AutoLists1
set_option linter.unusedVariables false
set_option linter.unusedSimpArgs false
/- What the types of this program are, for walking. Made by program. -/
set_option linter.unusedVariables false
namespace Go.Proofs.YtcgbiedfbacgpaaGreat
open Go Go.Proofs Go.Proofs.Sh
theorem agg_1 : A5f Tryz.prog 1 = some false := by kernel_rfl
theorem zero_1 : zeroAt Tryz.prog 1 = some (.nilFunc) := by kernel_rfl
theorem ld_1 {H : AH} {a : Addr} : A2f Tryz.prog 1 H (.pointer (some a)) = H.cell a := A3b agg_1
theorem agg_2 : A5f Tryz.prog 2 = some false := by kernel_rfl
theorem zero_2 : zeroAt Tryz.prog 2 = some (.int .i64 0) := by kernel_rfl
theorem ld_2 {H : AH} {a : Addr} : A2f Tryz.prog 2 H (.pointer (some a)) = H.cell a := A3b agg_2
theorem agg_3 : A5f Tryz.prog 3 = some false := by kernel_rfl
theorem A7c : A8b Tryz.prog 3 = some 1 := by kernel_rfl
theorem B36 : Tryz.prog.cellsOf 3 = 1 := by kernel_rfl
theorem A60 : zeroAt Tryz.prog 3 = some (.int .i64 0) := by kernel_rfl
theorem ld_3 {H : AH} {a : Addr} : A2f Tryz.prog 3 H (.pointer (some a)) = H.cell a := A3b agg_3
theorem agg_4 : A5f Tryz.prog 4 = some false := by kernel_rfl
theorem A2j : A8b Tryz.prog 4 = some 1 := by kernel_rfl
theorem B5m : zeroAt Tryz.prog 4 = some (.bool false) := by kernel_rfl
theorem ld_4 {H : AH} {a : Addr} : A2f Tryz.prog 4 H (.pointer (some a)) = H.cell a := A3b agg_4
theorem agg_5 : A5f Tryz.prog 5 = some false := by kernel_rfl
theorem zero_5 : zeroAt Tryz.prog 5 = some (.int .u8 0) := by kernel_rfl
theorem ld_5 {H : AH} {a : Addr} : A2f Tryz.prog 5 H (.pointer (some a)) = H.cell a := A3b agg_5
theorem agg_9 : A5f Tryz.prog 9 = some false := by kernel_rfl
theorem A1j : A8b Tryz.prog 9 = some 1 := by kernel_rfl
theorem C9u : Tryz.prog.cellsOf 9 = 1 := by kernel_rfl
theorem B5h : zeroAt Tryz.prog 9 = some (.string ⟨#[]⟩) := by kernel_rfl
theorem ld_9 {H : AH} {a : Addr} : A2f Tryz.prog 9 H (.pointer (some a)) = H.cell a := A3b agg_9
theorem agg_22 : A5f Tryz.prog 22 = some false := by kernel_rfl
theorem A4w : A8b Tryz.prog 22 = some 1 := by kernel_rfl
theorem cells_22 : Tryz.prog.cellsOf 22 = 1 := by kernel_rfl
theorem B3e : zeroAt Tryz.prog 22 = some (.slice none 0 0) := by kernel_rfl
theorem ld_22 {H : AH} {a : Addr} : A2f Tryz.prog 22 H (.pointer (some a)) = H.cell a := A3b agg_22
theorem agg_23 : A5f Tryz.prog 23 = some false := by kernel_rfl
theorem size_23 : A8b Tryz.prog 23 = some 1 := by kernel_rfl
theorem cells_23 : Tryz.prog.cellsOf 23 = 1 := by kernel_rfl
theorem C7r : zeroAt Tryz.prog 23 = some (.slice none 0 0) := by kernel_rfl
theorem ld_23 {H : AH} {a : Addr} : A2f Tryz.prog 23 H (.pointer (some a)) = H.cell a := A3b agg_23
theorem agg_24 : A5f Tryz.prog 24 = some false := by kernel_rfl
theorem size_24 : A8b Tryz.prog 24 = some 1 := by kernel_rfl
theorem cells_24 : Tryz.prog.cellsOf 24 = 1 := by kernel_rfl
theorem C4u : zeroAt Tryz.prog 24 = some (.slice none 0 0) := by kernel_rfl
theorem ld_24 {H : AH} {a : Addr} : A2f Tryz.prog 24 H (.pointer (some a)) = H.cell a := A3b agg_24
theorem agg_26 : A5f Tryz.prog 26 = some true := by kernel_rfl
theorem B19 : A8b Tryz.prog 26 = some 4 := by kernel_rfl
theorem cells_26 : Tryz.prog.cellsOf 26 = 4 := by kernel_rfl
theorem C3y : zeroAt Tryz.prog 26 = some (.agg #[.slice none 0 0, .int .i64 0, .slice none 0 0, .slice none 0 0]) := by kernel_rfl
theorem ld_26 {H : AH} {a : Addr} : A2f Tryz.prog 26 H (.pointer (some a)) = (H.cells a 4).map fun l => .agg l.toArray := A0q agg_26 B19
theorem agg_29 : A5f Tryz.prog 29 = some false := by kernel_rfl
theorem C1u : A8b Tryz.prog 29 = some 1 := by kernel_rfl
theorem C6v : zeroAt Tryz.prog 29 = some (.slice none 0 0) := by kernel_rfl
theorem ld_29 {H : AH} {a : Addr} : A2f Tryz.prog 29 H (.pointer (some a)) = H.cell a := A3b agg_29
theorem agg_30 : A5f Tryz.prog 30 = some false := by kernel_rfl
theorem C6r : zeroAt Tryz.prog 30 = some (.int .i64 0) := by kernel_rfl
theorem ld_30 {H : AH} {a : Addr} : A2f Tryz.prog 30 H (.pointer (some a)) = H.cell a := A3b agg_30
theorem agg_49 : A5f Tryz.prog 49 = some true := by kernel_rfl
theorem A9o : A8b Tryz.prog 49 = some 5 := by kernel_rfl
theorem C6a : Tryz.prog.cellsOf 49 = 5 := by kernel_rfl
theorem B17 : zeroAt Tryz.prog 49 = some (.agg #[.int .i64 0, .string ⟨#[]⟩, .string ⟨#[]⟩, .int .i64 0, .int .i64 0]) := by kernel_rfl
theorem ld_49 {H : AH} {a : Addr} : A2f Tryz.prog 49 H (.pointer (some a)) = (H.cells a 5).map fun l => .agg l.toArray := A0q agg_49 A9o
theorem agg_51 : A5f Tryz.prog 51 = some true := by kernel_rfl
theorem A9t : A8b Tryz.prog 51 = some 2 := by kernel_rfl
theorem C6b : Tryz.prog.cellsOf 51 = 2 := by kernel_rfl
theorem B47 : zeroAt Tryz.prog 51 = some (.agg #[.int .i64 0, .int .i64 0]) := by kernel_rfl
theorem ld_51 {H : AH} {a : Addr} : A2f Tryz.prog 51 H (.pointer (some a)) = (H.cells a 2).map fun l => .agg l.toArray := A0q agg_51 A9t
theorem agg_52 : A5f Tryz.prog 52 = some false := by kernel_rfl
theorem B83 : A8b Tryz.prog 52 = some 1 := by kernel_rfl
theorem C4t : zeroAt Tryz.prog 52 = some (.pointer none) := by kernel_rfl
theorem ld_52 {H : AH} {a : Addr} : A2f Tryz.prog 52 H (.pointer (some a)) = H.cell a := A3b agg_52
theorem agg_57 : A5f Tryz.prog 57 = some false := by kernel_rfl
theorem size_57 : A8b Tryz.prog 57 = some 1 := by kernel_rfl
theorem C4n : zeroAt Tryz.prog 57 = some (.slice none 0 0) := by kernel_rfl
theorem ld_57 {H : AH} {a : Addr} : A2f Tryz.prog 57 H (.pointer (some a)) = H.cell a := A3b agg_57
theorem agg_58 : A5f Tryz.prog 58 = some false := by kernel_rfl
theorem B5i : A8b Tryz.prog 58 = some 1 := by kernel_rfl
theorem B2h : zeroAt Tryz.prog 58 = some (.slice none 0 0) := by kernel_rfl
theorem ld_58 {H : AH} {a : Addr} : A2f Tryz.prog 58 H (.pointer (some a)) = H.cell a := A3b agg_58
theorem agg_60 : A5f Tryz.prog 60 = some true := by kernel_rfl
theorem B3i : A8b Tryz.prog 60 = some 3 := by kernel_rfl
theorem B09 : zeroAt Tryz.prog 60 = some (.agg #[.int .i64 0, .slice none 0 0, .slice none 0 0]) := by kernel_rfl
theorem ld_60 {H : AH} {a : Addr} : A2f Tryz.prog 60 H (.pointer (some a)) = (H.cells a 3).map fun l => .agg l.toArray := A0q agg_60 B3i
theorem agg_64 : A5f Tryz.prog 64 = some false := by kernel_rfl
theorem C3r : zeroAt Tryz.prog 64 = some (.nilFunc) := by kernel_rfl
theorem ld_64 {H : AH} {a : Addr} : A2f Tryz.prog 64 H (.pointer (some a)) = H.cell a := A3b agg_64
theorem agg_65 : A5f Tryz.prog 65 = some false := by kernel_rfl
theorem C4s : A8b Tryz.prog 65 = some 1 := by kernel_rfl
theorem C8z : zeroAt Tryz.prog 65 = some (.slice none 0 0) := by kernel_rfl
theorem ld_65 {H : AH} {a : Addr} : A2f Tryz.prog 65 H (.pointer (some a)) = H.cell a := A3b agg_65
theorem agg_68 : A5f Tryz.prog 68 = some false := by kernel_rfl
theorem size_68 : A8b Tryz.prog 68 = some 1 := by kernel_rfl
theorem C8v : zeroAt Tryz.prog 68 = some (.slice none 0 0) := by kernel_rfl
theorem ld_68 {H : AH} {a : Addr} : A2f Tryz.prog 68 H (.pointer (some a)) = H.cell a := A3b agg_68
theorem agg_69 : A5f Tryz.prog 69 = some false := by kernel_rfl
theorem A6w : A8b Tryz.prog 69 = some 1 := by kernel_rfl
theorem A96 : zeroAt Tryz.prog 69 = some (.slice none 0 0) := by kernel_rfl
theorem ld_69 {H : AH} {a : Addr} : A2f Tryz.prog 69 H (.pointer (some a)) = H.cell a := A3b agg_69
theorem agg_71 : A5f Tryz.prog 71 = some true := by kernel_rfl
theorem C8q : A8b Tryz.prog 71 = some 4 := by kernel_rfl
theorem B98 : zeroAt Tryz.prog 71 = some (.agg #[.slice none 0 0, .slice none 0 0, .slice none 0 0, .slice none 0 0]) := by kernel_rfl
theorem ld_71 {H : AH} {a : Addr} : A2f Tryz.prog 71 H (.pointer (some a)) = (H.cells a 4).map fun l => .agg l.toArray := A0q agg_71 C8q
theorem agg_75 : A5f Tryz.prog 75 = some false := by kernel_rfl
theorem C3v : zeroAt Tryz.prog 75 = some (.map none) := by kernel_rfl
theorem ld_75 {H : AH} {a : Addr} : A2f Tryz.prog 75 H (.pointer (some a)) = H.cell a := A3b agg_75
theorem agg_79 : A5f Tryz.prog 79 = some true := by kernel_rfl
theorem size_79 : A8b Tryz.prog 79 = some 2 := by kernel_rfl
theorem C8y : zeroAt Tryz.prog 79 = some (.agg #[.int .i64 0, .int .i64 0]) := by kernel_rfl
theorem ld_79 {H : AH} {a : Addr} : A2f Tryz.prog 79 H (.pointer (some a)) = (H.cells a 2).map fun l => .agg l.toArray := A0q agg_79 size_79
theorem agg_85 : A5f Tryz.prog 85 = some false := by kernel_rfl
theorem size_85 : A8b Tryz.prog 85 = some 1 := by kernel_rfl
theorem B35 : zeroAt Tryz.prog 85 = some (.map none) := by kernel_rfl
theorem ld_85 {H : AH} {a : Addr} : A2f Tryz.prog 85 H (.pointer (some a)) = H.cell a := A3b agg_85
theorem agg_86 : A5f Tryz.prog 86 = some false := by kernel_rfl
theorem C7v : zeroAt Tryz.prog 86 = some (.slice none 0 0) := by kernel_rfl
theorem ld_86 {H : AH} {a : Addr} : A2f Tryz.prog 86 H (.pointer (some a)) = H.cell a := A3b agg_86
theorem agg_87 : A5f Tryz.prog 87 = some false := by kernel_rfl
theorem C6o : zeroAt Tryz.prog 87 = some (.map none) := by kernel_rfl
theorem ld_87 {H : AH} {a : Addr} : A2f Tryz.prog 87 H (.pointer (some a)) = H.cell a := A3b agg_87
theorem agg_90 : A5f Tryz.prog 90 = some false := by kernel_rfl
theorem C0z : zeroAt Tryz.prog 90 = some (.nilFunc) := by kernel_rfl
theorem ld_90 {H : AH} {a : Addr} : A2f Tryz.prog 90 H (.pointer (some a)) = H.cell a := A3b agg_90
theorem agg_92 : A5f Tryz.prog 92 = some false := by kernel_rfl
theorem A85 : A8b Tryz.prog 92 = some 1 := by kernel_rfl
theorem B2s : zeroAt Tryz.prog 92 = some (.slice none 0 0) := by kernel_rfl
theorem ld_92 {H : AH} {a : Addr} : A2f Tryz.prog 92 H (.pointer (some a)) = H.cell a := A3b agg_92
theorem agg_95 : A5f Tryz.prog 95 = some true := by kernel_rfl
theorem A01 : A8b Tryz.prog 95 = some 4 := by kernel_rfl
theorem A75 : zeroAt Tryz.prog 95 = some (.agg #[.int .i64 0, .int .i64 0, .int .i64 0, .int .i64 0]) := by kernel_rfl
theorem ld_95 {H : AH} {a : Addr} : A2f Tryz.prog 95 H (.pointer (some a)) = (H.cells a 4).map fun l => .agg l.toArray := A0q agg_95 A01
theorem agg_97 : A5f Tryz.prog 97 = some false := by kernel_rfl
theorem A6p : A8b Tryz.prog 97 = some 1 := by kernel_rfl
theorem B4s : zeroAt Tryz.prog 97 = some (.slice none 0 0) := by kernel_rfl
theorem ld_97 {H : AH} {a : Addr} : A2f Tryz.prog 97 H (.pointer (some a)) = H.cell a := A3b agg_97
theorem agg_99 : A5f Tryz.prog 99 = some true := by kernel_rfl
theorem A4s : A8b Tryz.prog 99 = some 2 := by kernel_rfl
theorem A57 : zeroAt Tryz.prog 99 = some (.agg #[.string ⟨#[]⟩, .int .i64 0]) := by kernel_rfl
theorem ld_99 {H : AH} {a : Addr} : A2f Tryz.prog 99 H (.pointer (some a)) = (H.cells a 2).map fun l => .agg l.toArray := A0q agg_99 A4s
theorem agg_102 : A5f Tryz.prog 102 = some false := by kernel_rfl
theorem C2i : zeroAt Tryz.prog 102 = some (.pointer none) := by kernel_rfl
theorem ld_102 {H : AH} {a : Addr} : A2f Tryz.prog 102 H (.pointer (some a)) = H.cell a := A3b agg_102
theorem agg_103 : A5f Tryz.prog 103 = some false := by kernel_rfl
theorem B4p : A8b Tryz.prog 103 = some 1 := by kernel_rfl
theorem C9e : zeroAt Tryz.prog 103 = some (.slice none 0 0) := by kernel_rfl
theorem ld_103 {H : AH} {a : Addr} : A2f Tryz.prog 103 H (.pointer (some a)) = H.cell a := A3b agg_103
theorem agg_105 : A5f Tryz.prog 105 = some true := by kernel_rfl
theorem C8b : A8b Tryz.prog 105 = some 6 := by kernel_rfl
theorem B0q : zeroAt Tryz.prog 105 = some (.agg #[.int .i64 0, .slice none 0 0, .slice none 0 0, .slice none 0 0, .int .i64 0, .slice none 0 0]) := by kernel_rfl
theorem ld_105 {H : AH} {a : Addr} : A2f Tryz.prog 105 H (.pointer (some a)) = (H.cells a 6).map fun l => .agg l.toArray := A0q agg_105 C8b
theorem agg_110 : A5f Tryz.prog 110 = some false := by kernel_rfl
theorem C1a : zeroAt Tryz.prog 110 = some (.nilFunc) := by kernel_rfl
theorem ld_110 {H : AH} {a : Addr} : A2f Tryz.prog 110 H (.pointer (some a)) = H.cell a := A3b agg_110
theorem agg_113 : A5f Tryz.prog 113 = some false := by kernel_rfl
theorem size_113 : A8b Tryz.prog 113 = some 1 := by kernel_rfl
theorem C7e : zeroAt Tryz.prog 113 = some (.nilFunc) := by kernel_rfl
theorem ld_113 {H : AH} {a : Addr} : A2f Tryz.prog 113 H (.pointer (some a)) = H.cell a := A3b agg_113
theorem agg_114 : A5f Tryz.prog 114 = some false := by kernel_rfl
theorem B5a : A8b Tryz.prog 114 = some 1 := by kernel_rfl
theorem B6a : zeroAt Tryz.prog 114 = some (.slice none 0 0) := by kernel_rfl
theorem ld_114 {H : AH} {a : Addr} : A2f Tryz.prog 114 H (.pointer (some a)) = H.cell a := A3b agg_114
theorem agg_117 : A5f Tryz.prog 117 = some false := by kernel_rfl
theorem C5h : zeroAt Tryz.prog 117 = some (.slice none 0 0) := by kernel_rfl
theorem ld_117 {H : AH} {a : Addr} : A2f Tryz.prog 117 H (.pointer (some a)) = H.cell a := A3b agg_117
theorem agg_121 : A5f Tryz.prog 121 = some false := by kernel_rfl
theorem C3c : zeroAt Tryz.prog 121 = some (.nilFunc) := by kernel_rfl
theorem ld_121 {H : AH} {a : Addr} : A2f Tryz.prog 121 H (.pointer (some a)) = H.cell a := A3b agg_121
theorem agg_123 : A5f Tryz.prog 123 = some false := by kernel_rfl
theorem C2e : zeroAt Tryz.prog 123 = some (.map none) := by kernel_rfl
theorem ld_123 {H : AH} {a : Addr} : A2f Tryz.prog 123 H (.pointer (some a)) = H.cell a := A3b agg_123
theorem agg_129 : A5f Tryz.prog 129 = some false := by kernel_rfl
theorem C9d : zeroAt Tryz.prog 129 = some (.nilFunc) := by kernel_rfl
theorem ld_129 {H : AH} {a : Addr} : A2f Tryz.prog 129 H (.pointer (some a)) = H.cell a := A3b agg_129
theorem agg_139 : A5f Tryz.prog 139 = some false := by kernel_rfl
theorem C9f : zeroAt Tryz.prog 139 = some (.int .u64 0) := by kernel_rfl
theorem ld_139 {H : AH} {a : Addr} : A2f Tryz.prog 139 H (.pointer (some a)) = H.cell a := A3b agg_139
theorem agg_144 : A5f Tryz.prog 144 = some true := by kernel_rfl
theorem C7f : A8b Tryz.prog 144 = some 2 := by kernel_rfl
theorem B3q : zeroAt Tryz.prog 144 = some (.agg #[.int .i64 0, .int .i64 0]) := by kernel_rfl
theorem ld_144 {H : AH} {a : Addr} : A2f Tryz.prog 144 H (.pointer (some a)) = (H.cells a 2).map fun l => .agg l.toArray := A0q agg_144 C7f
theorem agg_145 : A5f Tryz.prog 145 = some false := by kernel_rfl
theorem C1d : zeroAt Tryz.prog 145 = some (.slice none 0 0) := by kernel_rfl
theorem ld_145 {H : AH} {a : Addr} : A2f Tryz.prog 145 H (.pointer (some a)) = H.cell a := A3b agg_145
theorem agg_146 : A5f Tryz.prog 146 = some false := by kernel_rfl
theorem C4f : zeroAt Tryz.prog 146 = some (.pointer none) := by kernel_rfl
theorem ld_146 {H : AH} {a : Addr} : A2f Tryz.prog 146 H (.pointer (some a)) = H.cell a := A3b agg_146
theorem agg_152 : A5f Tryz.prog 152 = some false := by kernel_rfl
theorem C0d : zeroAt Tryz.prog 152 = some (.int .i64 0) := by kernel_rfl
theorem ld_152 {H : AH} {a : Addr} : A2f Tryz.prog 152 H (.pointer (some a)) = H.cell a := A3b agg_152
theorem agg_160 : A5f Tryz.prog 160 = some false := by kernel_rfl
theorem B99 : zeroAt Tryz.prog 160 = some (.int .u32 0) := by kernel_rfl
theorem ld_160 {H : AH} {a : Addr} : A2f Tryz.prog 160 H (.pointer (some a)) = H.cell a := A3b agg_160
theorem agg_162 : A5f Tryz.prog 162 = some false := by kernel_rfl
theorem C4e : zeroAt Tryz.prog 162 = some (.int .u64 0) := by kernel_rfl
theorem ld_162 {H : AH} {a : Addr} : A2f Tryz.prog 162 H (.pointer (some a)) = H.cell a := A3b agg_162
theorem agg_168 : A5f Tryz.prog 168 = some false := by kernel_rfl
theorem A9z : A8b Tryz.prog 168 = some 1 := by kernel_rfl
theorem C5f : zeroAt Tryz.prog 168 = some (.int .u64 0) := by kernel_rfl
theorem ld_168 {H : AH} {a : Addr} : A2f Tryz.prog 168 H (.pointer (some a)) = H.cell a := A3b agg_168
theorem agg_172 : A5f Tryz.prog 172 = some false := by kernel_rfl
theorem C5e : zeroAt Tryz.prog 172 = some (.pointer none) := by kernel_rfl
theorem ld_172 {H : AH} {a : Addr} : A2f Tryz.prog 172 H (.pointer (some a)) = H.cell a := A3b agg_172
theorem agg_176 : A5f Tryz.prog 176 = some false := by kernel_rfl
theorem C4b : zeroAt Tryz.prog 176 = some (.pointer none) := by kernel_rfl
theorem ld_176 {H : AH} {a : Addr} : A2f Tryz.prog 176 H (.pointer (some a)) = H.cell a := A3b agg_176
theorem len_9 {H : AH} {s : ByteArray} : A4a Tryz.prog .len [9] [.string s] H = some (.int .i64 (s.size : Int), H) := C9i Tryz.underlying9
theorem ia_22 {g o k n c i : Nat} {j : IntKind} (h : i < n) : A4b Tryz.prog 22 (.slice (some ⟨g, o, some k⟩) n c) (.int j (i : Int)) = some (.pointer (some ⟨g, o + i * 1, some k⟩)) := A4t Tryz.underlying22 A1j h
theorem len_22 {H : AH} {n c : Nat} {a : Option Addr} : A4a Tryz.prog .len [22] [.slice a n c] H = some (.int .i64 (n : Int), H) := A3g Tryz.underlying22
theorem B05 : ((Tryz.prog.info? 9).map fun i => Nat.beq i.size 1 && Nat.ble i.bytes 65536) = some true := by kernel_rfl
theorem C6t {H : AH} {t' len cap n : Nat} {base : Option Addr} {x : Value} {new : List Value} (hx : Sh.srcKind Tryz.prog t' x = true) (hn : Sh.newCells 1 H x = some (n, new)) (hb : len + n ≤ 1073741824) : A4a Tryz.prog .append [22, t'] [.slice base len cap, x] H = A1e 1 base len cap n new H := A05 Tryz.underlying22 B05 B5h rfl (Nat.le_of_ble_eq_true rfl) hx hn hb
theorem app1_22 {H : AH} {len cap : Nat} {base : Option Addr} {x : List Value} (hx : x.length = 1) (hb : len ≤ 1073741823) : A4a Tryz.prog .append [22, 22] [.slice base len cap, .slice (some ⟨H.next, 0, some 0⟩) 1 1] (H.new 1 x).2 = A1e 1 base len cap 1 x (H.new 1 x).2 := A3n Tryz.underlying22 B05 B5h rfl (Nat.le_of_ble_eq_true rfl) hx hb
theorem C6h {c : Bool} {a : Option Addr} {n m : Nat} : abin Tryz.prog 22 c .eql (.slice a n m) (.slice none 0 0) = some (.bool a.isNone) := A8g Tryz.underlying22
theorem B6x {c : Bool} {a : Option Addr} {n m : Nat} : abin Tryz.prog 22 c .neq (.slice a n m) (.slice none 0 0) = some (.bool a.isSome) := A6d Tryz.underlying22
theorem mk_22 {H : AH} {l c : Nat} (hlc : l ≤ c) (hc : c ≤ 1073741824) : A6f Tryz.prog 22 (.int .i64 (l : Int)) (.int .i64 (c : Int)) H = some (.slice (some ⟨H.next, 0, some 0⟩) l c, (H.new 1 (List.replicate c (.string ⟨#[]⟩))).2) := by rw [← A5w]; exact A22 Tryz.underlying22 B05 B5h rfl (Nat.le_of_ble_eq_true rfl) hlc hc
theorem B7x {H : AH} : A5a Tryz.prog 22 0 [] H = some (.slice (some ⟨H.next, 0, some 0⟩) 0 0, (H.new 1 []).2) := A7g Tryz.underlying22 A1j B5h rfl (Nat.le_of_ble_eq_true rfl)
theorem B6s {H : AH} {x : Value} (hx : (A6a x).length = 1) (hc : (A6a x).all isCell = true) : A5a Tryz.prog 22 1 [(0, x)] H = some (.slice (some ⟨H.next, 0, some 0⟩) 1 1, (H.new 1 (A6a x)).2) := A7q Tryz.underlying22 A1j B5h rfl (Nat.le_of_ble_eq_true rfl) (Nat.le_of_ble_eq_true rfl) hx hc
theorem len_23 {H : AH} {n c : Nat} {a : Option Addr} : A4a Tryz.prog .len [23] [.slice a n c] H = some (.int .i64 (n : Int), H) := A3g Tryz.underlying23
theorem C5i {c : Bool} {a : Option Addr} {n m : Nat} : abin Tryz.prog 23 c .eql (.slice a n m) (.slice none 0 0) = some (.bool a.isNone) := A8g Tryz.underlying23
theorem B9x {c : Bool} {a : Option Addr} {n m : Nat} : abin Tryz.prog 23 c .neq (.slice a n m) (.slice none 0 0) = some (.bool a.isSome) := A6d Tryz.underlying23
theorem B8x {H : AH} : A5a Tryz.prog 23 0 [] H = some (.slice (some ⟨H.next, 0, some 0⟩) 0 0, (H.new 5 []).2) := A7g Tryz.underlying23 A9o B17 rfl (Nat.le_of_ble_eq_true rfl)
theorem len_24 {H : AH} {n c : Nat} {a : Option Addr} : A4a Tryz.prog .len [24] [.slice a n c] H = some (.int .i64 (n : Int), H) := A3g Tryz.underlying24
theorem C0f {c : Bool} {a : Option Addr} {n m : Nat} : abin Tryz.prog 24 c .eql (.slice a n m) (.slice none 0 0) = some (.bool a.isNone) := A8g Tryz.underlying24
theorem B8t {c : Bool} {a : Option Addr} {n m : Nat} : abin Tryz.prog 24 c .neq (.slice a n m) (.slice none 0 0) = some (.bool a.isSome) := A6d Tryz.underlying24
theorem B7v {H : AH} : A5a Tryz.prog 24 0 [] H = some (.slice (some ⟨H.next, 0, some 0⟩) 0 0, (H.new 2 []).2) := A7g Tryz.underlying24 A9t B47 rfl (Nat.le_of_ble_eq_true rfl)
theorem C3t {g o k : Nat} : A5b Tryz.prog 26 0 (.pointer (some ⟨g, o, some k⟩)) = some (.pointer (some ⟨g, o + 0, some k⟩)) := by have h := A1b (g := g) (o := o) (k := k) (f := 0) Tryz.underlying26 (Eq.refl (some _)) A4w rfl; exact h
theorem C5n {g o k : Nat} : A5b Tryz.prog 26 1 (.pointer (some ⟨g, o, some k⟩)) = some (.pointer (some ⟨g, o + 1, some k⟩)) := by have h := A1b (g := g) (o := o) (k := k) (f := 1) Tryz.underlying26 (Eq.refl (some _)) A7c rfl; exact h
theorem C3x {g o k : Nat} : A5b Tryz.prog 26 2 (.pointer (some ⟨g, o, some k⟩)) = some (.pointer (some ⟨g, o + 2, some k⟩)) := by have h := A1b (g := g) (o := o) (k := k) (f := 2) Tryz.underlying26 (Eq.refl (some _)) size_23 rfl; exact h
theorem C8p {g o k : Nat} : A5b Tryz.prog 26 3 (.pointer (some ⟨g, o, some k⟩)) = some (.pointer (some ⟨g, o + 3, some k⟩)) := by have h := A1b (g := g) (o := o) (k := k) (f := 3) Tryz.underlying26 (Eq.refl (some _)) size_24 rfl; exact h
theorem len_29 {H : AH} {n c : Nat} {a : Option Addr} : A4a Tryz.prog .len [29] [.slice a n c] H = some (.int .i64 (n : Int), H) := A3g Tryz.underlying29
theorem info_29 : ((Tryz.prog.info? 22).map fun i => Nat.beq i.size 1 && Nat.ble i.bytes 65536) = some true := by kernel_rfl
theorem app1_29 {H : AH} {len cap : Nat} {base : Option Addr} {x : List Value} (hx : x.length = 1) (hb : len ≤ 1073741823) : A4a Tryz.prog .append [29, 29] [.slice base len cap, .slice (some ⟨H.next, 0, some 0⟩) 1 1] (H.new 1 x).2 = A1e 1 base len cap 1 x (H.new 1 x).2 := A3n Tryz.underlying29 info_29 B3e rfl (Nat.le_of_ble_eq_true rfl) hx hb
theorem C3a {c : Bool} {a : Option Addr} {n m : Nat} : abin Tryz.prog 29 c .eql (.slice a n m) (.slice none 0 0) = some (.bool a.isNone) := A8g Tryz.underlying29
theorem B21 {c : Bool} {a : Option Addr} {n m : Nat} : abin Tryz.prog 29 c .neq (.slice a n m) (.slice none 0 0) = some (.bool a.isSome) := A6d Tryz.underlying29
theorem B31 {H : AH} : A5a Tryz.prog 29 0 [] H = some (.slice (some ⟨H.next, 0, some 0⟩) 0 0, (H.new 1 []).2) := A7g Tryz.underlying29 A4w B3e rfl (Nat.le_of_ble_eq_true rfl)
theorem C0u {H : AH} {x : Value} (hx : (A6a x).length = 1) (hc : (A6a x).all isCell = true) : A5a Tryz.prog 29 1 [(0, x)] H = some (.slice (some ⟨H.next, 0, some 0⟩) 1 1, (H.new 1 (A6a x)).2) := A7q Tryz.underlying29 A4w B3e rfl (Nat.le_of_ble_eq_true rfl) (Nat.le_of_ble_eq_true rfl) hx hc
theorem C9v {g o k : Nat} : A5b Tryz.prog 49 0 (.pointer (some ⟨g, o, some k⟩)) = some (.pointer (some ⟨g, o + 0, some k⟩)) := by have h := A1b (g := g) (o := o) (k := k) (f := 0) Tryz.underlying49 (Eq.refl (some _)) A7c rfl; exact h
theorem C2v {g o k : Nat} : A5b Tryz.prog 49 1 (.pointer (some ⟨g, o, some k⟩)) = some (.pointer (some ⟨g, o + 1, some k⟩)) := by have h := A1b (g := g) (o := o) (k := k) (f := 1) Tryz.underlying49 (Eq.refl (some _)) A1j rfl; exact h
theorem C9t {g o k : Nat} : A5b Tryz.prog 49 2 (.pointer (some ⟨g, o, some k⟩)) = some (.pointer (some ⟨g, o + 2, some k⟩)) := by have h := A1b (g := g) (o := o) (k := k) (f := 2) Tryz.underlying49 (Eq.refl (some _)) A1j rfl; exact h
theorem C9n {g o k : Nat} : A5b Tryz.prog 49 3 (.pointer (some ⟨g, o, some k⟩)) = some (.pointer (some ⟨g, o + 3, some k⟩)) := by have h := A1b (g := g) (o := o) (k := k) (f := 3) Tryz.underlying49 (Eq.refl (some _)) A7c rfl; exact h
theorem C2s {g o k : Nat} : A5b Tryz.prog 49 4 (.pointer (some ⟨g, o, some k⟩)) = some (.pointer (some ⟨g, o + 4, some k⟩)) := by have h := A1b (g := g) (o := o) (k := k) (f := 4) Tryz.underlying49 (Eq.refl (some _)) A7c rfl; exact h
theorem C0x {g o k : Nat} : A5b Tryz.prog 51 0 (.pointer (some ⟨g, o, some k⟩)) = some (.pointer (some ⟨g, o + 0, some k⟩)) := by have h := A1b (g := g) (o := o) (k := k) (f := 0) Tryz.underlying51 (Eq.refl (some _)) A7c rfl; exact h
theorem C20 {g o k : Nat} : A5b Tryz.prog 51 1 (.pointer (some ⟨g, o, some k⟩)) = some (.pointer (some ⟨g, o + 1, some k⟩)) := by have h := A1b (g := g) (o := o) (k := k) (f := 1) Tryz.underlying51 (Eq.refl (some _)) A7c rfl; exact h
theorem len_57 {H : AH} {n c : Nat} {a : Option Addr} : A4a Tryz.prog .len [57] [.slice a n c] H = some (.int .i64 (n : Int), H) := A3g Tryz.underlying57
theorem info_57 : ((Tryz.prog.info? 97).map fun i => Nat.beq i.size 1 && Nat.ble i.bytes 65536) = some true := by kernel_rfl
theorem C4g {c : Bool} {a : Option Addr} {n m : Nat} : abin Tryz.prog 57 c .eql (.slice a n m) (.slice none 0 0) = some (.bool a.isNone) := A8g Tryz.underlying57
theorem B6z {c : Bool} {a : Option Addr} {n m : Nat} : abin Tryz.prog 57 c .neq (.slice a n m) (.slice none 0 0) = some (.bool a.isSome) := A6d Tryz.underlying57
theorem mk_57 {H : AH} {l c : Nat} (hlc : l ≤ c) (hc : c ≤ 1073741824) : A6f Tryz.prog 57 (.int .i64 (l : Int)) (.int .i64 (c : Int)) H = some (.slice (some ⟨H.next, 0, some 0⟩) l c, (H.new 1 (List.replicate c (.slice none 0 0))).2) := by rw [← A5w]; exact A22 Tryz.underlying57 info_57 B4s rfl (Nat.le_of_ble_eq_true rfl) hlc hc
theorem B0w {H : AH} : A5a Tryz.prog 57 0 [] H = some (.slice (some ⟨H.next, 0, some 0⟩) 0 0, (H.new 1 []).2) := A7g Tryz.underlying57 A6p B4s rfl (Nat.le_of_ble_eq_true rfl)
theorem len_58 {H : AH} {n c : Nat} {a : Option Addr} : A4a Tryz.prog .len [58] [.slice a n c] H = some (.int .i64 (n : Int), H) := A3g Tryz.underlying58
theorem C6s : ((Tryz.prog.info? 4).map fun i => Nat.beq i.size 1 && Nat.ble i.bytes 65536) = some true := by kernel_rfl
theorem app_58 {H : AH} {t' len cap n : Nat} {base : Option Addr} {x : Value} {new : List Value} (hx : Sh.srcKind Tryz.prog t' x = true) (hn : Sh.newCells 1 H x = some (n, new)) (hb : len + n ≤ 1073741824) : A4a Tryz.prog .append [58, t'] [.slice base len cap, x] H = A1e 1 base len cap n new H := A05 Tryz.underlying58 C6s B5m rfl (Nat.le_of_ble_eq_true rfl) hx hn hb
theorem C4c {c : Bool} {a : Option Addr} {n m : Nat} : abin Tryz.prog 58 c .eql (.slice a n m) (.slice none 0 0) = some (.bool a.isNone) := A8g Tryz.underlying58
theorem B5x {c : Bool} {a : Option Addr} {n m : Nat} : abin Tryz.prog 58 c .neq (.slice a n m) (.slice none 0 0) = some (.bool a.isSome) := A6d Tryz.underlying58
theorem C2o {H : AH} {l c : Nat} (hlc : l ≤ c) (hc : c ≤ 1073741824) : A6f Tryz.prog 58 (.int .i64 (l : Int)) (.int .i64 (c : Int)) H = some (.slice (some ⟨H.next, 0, some 0⟩) l c, (H.new 1 (List.replicate c (.bool false))).2) := by rw [← A5w]; exact A22 Tryz.underlying58 C6s B5m rfl (Nat.le_of_ble_eq_true rfl) hlc hc
theorem B9w {H : AH} : A5a Tryz.prog 58 0 [] H = some (.slice (some ⟨H.next, 0, some 0⟩) 0 0, (H.new 1 []).2) := A7g Tryz.underlying58 A2j B5m rfl (Nat.le_of_ble_eq_true rfl)
theorem C6u {g o k : Nat} : A5b Tryz.prog 60 0 (.pointer (some ⟨g, o, some k⟩)) = some (.pointer (some ⟨g, o + 0, some k⟩)) := by have h := A1b (g := g) (o := o) (k := k) (f := 0) Tryz.underlying60 (Eq.refl (some _)) A7c rfl; exact h
theorem C1v {g o k : Nat} : A5b Tryz.prog 60 1 (.pointer (some ⟨g, o, some k⟩)) = some (.pointer (some ⟨g, o + 1, some k⟩)) := by have h := A1b (g := g) (o := o) (k := k) (f := 1) Tryz.underlying60 (Eq.refl (some _)) size_57 rfl; exact h
theorem C8t {g o k : Nat} : A5b Tryz.prog 60 2 (.pointer (some ⟨g, o, some k⟩)) = some (.pointer (some ⟨g, o + 2, some k⟩)) := by have h := A1b (g := g) (o := o) (k := k) (f := 2) Tryz.underlying60 (Eq.refl (some _)) B5i rfl; exact h
theorem len_65 {H : AH} {n c : Nat} {a : Option Addr} : A4a Tryz.prog .len [65] [.slice a n c] H = some (.int .i64 (n : Int), H) := A3g Tryz.underlying65
theorem C8r : ((Tryz.prog.info? 69).map fun i => Nat.beq i.size 1 && Nat.ble i.bytes 65536) = some true := by kernel_rfl
theorem app1_65 {H : AH} {len cap : Nat} {base : Option Addr} {x : List Value} (hx : x.length = 1) (hb : len ≤ 1073741823) : A4a Tryz.prog .append [65, 65] [.slice base len cap, .slice (some ⟨H.next, 0, some 0⟩) 1 1] (H.new 1 x).2 = A1e 1 base len cap 1 x (H.new 1 x).2 := A3n Tryz.underlying65 C8r A96 rfl (Nat.le_of_ble_eq_true rfl) hx hb
theorem C1i {c : Bool} {a : Option Addr} {n m : Nat} : abin Tryz.prog 65 c .eql (.slice a n m) (.slice none 0 0) = some (.bool a.isNone) := A8g Tryz.underlying65
theorem B32 {c : Bool} {a : Option Addr} {n m : Nat} : abin Tryz.prog 65 c .neq (.slice a n m) (.slice none 0 0) = some (.bool a.isSome) := A6d Tryz.underlying65
theorem mk_65 {H : AH} {l c : Nat} (hlc : l ≤ c) (hc : c ≤ 1073741824) : A6f Tryz.prog 65 (.int .i64 (l : Int)) (.int .i64 (c : Int)) H = some (.slice (some ⟨H.next, 0, some 0⟩) l c, (H.new 1 (List.replicate c (.slice none 0 0))).2) := by rw [← A5w]; exact A22 Tryz.underlying65 C8r A96 rfl (Nat.le_of_ble_eq_true rfl) hlc hc
theorem B40 {H : AH} : A5a Tryz.prog 65 0 [] H = some (.slice (some ⟨H.next, 0, some 0⟩) 0 0, (H.new 1 []).2) := A7g Tryz.underlying65 A6w A96 rfl (Nat.le_of_ble_eq_true rfl)
theorem C60 {H : AH} {x : Value} (hx : (A6a x).length = 1) (hc : (A6a x).all isCell = true) : A5a Tryz.prog 65 1 [(0, x)] H = some (.slice (some ⟨H.next, 0, some 0⟩) 1 1, (H.new 1 (A6a x)).2) := A7q Tryz.underlying65 A6w A96 rfl (Nat.le_of_ble_eq_true rfl) (Nat.le_of_ble_eq_true rfl) hx hc
theorem len_68 {H : AH} {n c : Nat} {a : Option Addr} : A4a Tryz.prog .len [68] [.slice a n c] H = some (.int .i64 (n : Int), H) := A3g Tryz.underlying68
theorem info_68 : ((Tryz.prog.info? 92).map fun i => Nat.beq i.size 1 && Nat.ble i.bytes 65536) = some true := by kernel_rfl
theorem B79 {c : Bool} {a : Option Addr} {n m : Nat} : abin Tryz.prog 68 c .eql (.slice a n m) (.slice none 0 0) = some (.bool a.isNone) := A8g Tryz.underlying68
theorem B6v {c : Bool} {a : Option Addr} {n m : Nat} : abin Tryz.prog 68 c .neq (.slice a n m) (.slice none 0 0) = some (.bool a.isSome) := A6d Tryz.underlying68
theorem mk_68 {H : AH} {l c : Nat} (hlc : l ≤ c) (hc : c ≤ 1073741824) : A6f Tryz.prog 68 (.int .i64 (l : Int)) (.int .i64 (c : Int)) H = some (.slice (some ⟨H.next, 0, some 0⟩) l c, (H.new 1 (List.replicate c (.slice none 0 0))).2) := by rw [← A5w]; exact A22 Tryz.underlying68 info_68 B2s rfl (Nat.le_of_ble_eq_true rfl) hlc hc
theorem B2v {H : AH} : A5a Tryz.prog 68 0 [] H = some (.slice (some ⟨H.next, 0, some 0⟩) 0 0, (H.new 1 []).2) := A7g Tryz.underlying68 A85 B2s rfl (Nat.le_of_ble_eq_true rfl)
theorem ia_69 {g o k n c i : Nat} {j : IntKind} (h : i < n) : A4b Tryz.prog 69 (.slice (some ⟨g, o, some k⟩) n c) (.int j (i : Int)) = some (.pointer (some ⟨g, o + i * 1, some k⟩)) := A4t Tryz.underlying69 A7c h
theorem len_69 {H : AH} {n c : Nat} {a : Option Addr} : A4a Tryz.prog .len [69] [.slice a n c] H = some (.int .i64 (n : Int), H) := A3g Tryz.underlying69
theorem B73 : ((Tryz.prog.info? 3).map fun i => Nat.beq i.size 1 && Nat.ble i.bytes 65536) = some true := by kernel_rfl
theorem app_69 {H : AH} {t' len cap n : Nat} {base : Option Addr} {x : Value} {new : List Value} (hx : Sh.srcKind Tryz.prog t' x = true) (hn : Sh.newCells 1 H x = some (n, new)) (hb : len + n ≤ 1073741824) : A4a Tryz.prog .append [69, t'] [.slice base len cap, x] H = A1e 1 base len cap n new H := A05 Tryz.underlying69 B73 A60 rfl (Nat.le_of_ble_eq_true rfl) hx hn hb
theorem B7d {H : AH} {len cap : Nat} {base : Option Addr} {x : List Value} (hx : x.length = 1) (hb : len ≤ 1073741823) : A4a Tryz.prog .append [69, 69] [.slice base len cap, .slice (some ⟨H.next, 0, some 0⟩) 1 1] (H.new 1 x).2 = A1e 1 base len cap 1 x (H.new 1 x).2 := A3n Tryz.underlying69 B73 A60 rfl (Nat.le_of_ble_eq_true rfl) hx hb
theorem C3d {c : Bool} {a : Option Addr} {n m : Nat} : abin Tryz.prog 69 c .eql (.slice a n m) (.slice none 0 0) = some (.bool a.isNone) := A8g Tryz.underlying69
theorem B22 {c : Bool} {a : Option Addr} {n m : Nat} : abin Tryz.prog 69 c .neq (.slice a n m) (.slice none 0 0) = some (.bool a.isSome) := A6d Tryz.underlying69
theorem mk_69 {H : AH} {l c : Nat} (hlc : l ≤ c) (hc : c ≤ 1073741824) : A6f Tryz.prog 69 (.int .i64 (l : Int)) (.int .i64 (c : Int)) H = some (.slice (some ⟨H.next, 0, some 0⟩) l c, (H.new 1 (List.replicate c (.int .i64 0))).2) := by rw [← A5w]; exact A22 Tryz.underlying69 B73 A60 rfl (Nat.le_of_ble_eq_true rfl) hlc hc
theorem B2t {H : AH} : A5a Tryz.prog 69 0 [] H = some (.slice (some ⟨H.next, 0, some 0⟩) 0 0, (H.new 1 []).2) := A7g Tryz.underlying69 A7c A60 rfl (Nat.le_of_ble_eq_true rfl)
theorem A5q {H : AH} {x : Value} (hx : (A6a x).length = 1) (hc : (A6a x).all isCell = true) : A5a Tryz.prog 69 1 [(0, x)] H = some (.slice (some ⟨H.next, 0, some 0⟩) 1 1, (H.new 1 (A6a x)).2) := A7q Tryz.underlying69 A7c A60 rfl (Nat.le_of_ble_eq_true rfl) (Nat.le_of_ble_eq_true rfl) hx hc
theorem C0y {g o k : Nat} : A5b Tryz.prog 71 0 (.pointer (some ⟨g, o, some k⟩)) = some (.pointer (some ⟨g, o + 0, some k⟩)) := by have h := A1b (g := g) (o := o) (k := k) (f := 0) Tryz.underlying71 (Eq.refl (some _)) A4w rfl; exact h
theorem C9o {g o k : Nat} : A5b Tryz.prog 71 1 (.pointer (some ⟨g, o, some k⟩)) = some (.pointer (some ⟨g, o + 1, some k⟩)) := by have h := A1b (g := g) (o := o) (k := k) (f := 1) Tryz.underlying71 (Eq.refl (some _)) size_68 rfl; exact h
theorem C5p {g o k : Nat} : A5b Tryz.prog 71 2 (.pointer (some ⟨g, o, some k⟩)) = some (.pointer (some ⟨g, o + 2, some k⟩)) := by have h := A1b (g := g) (o := o) (k := k) (f := 2) Tryz.underlying71 (Eq.refl (some _)) A6w rfl; exact h
theorem C3n {g o k : Nat} : A5b Tryz.prog 71 3 (.pointer (some ⟨g, o, some k⟩)) = some (.pointer (some ⟨g, o + 3, some k⟩)) := by have h := A1b (g := g) (o := o) (k := k) (f := 3) Tryz.underlying71 (Eq.refl (some _)) A6w rfl; exact h
theorem len_86 {H : AH} {n c : Nat} {a : Option Addr} : A4a Tryz.prog .len [86] [.slice a n c] H = some (.int .i64 (n : Int), H) := A3g Tryz.underlying86
theorem C8e {c : Bool} {a : Option Addr} {n m : Nat} : abin Tryz.prog 86 c .eql (.slice a n m) (.slice none 0 0) = some (.bool a.isNone) := A8g Tryz.underlying86
theorem B6u {c : Bool} {a : Option Addr} {n m : Nat} : abin Tryz.prog 86 c .neq (.slice a n m) (.slice none 0 0) = some (.bool a.isSome) := A6d Tryz.underlying86
theorem B9z {H : AH} : A5a Tryz.prog 86 0 [] H = some (.slice (some ⟨H.next, 0, some 0⟩) 0 0, (H.new 1 []).2) := A7g Tryz.underlying86 size_85 B35 rfl (Nat.le_of_ble_eq_true rfl)
theorem len_92 {H : AH} {n c : Nat} {a : Option Addr} : A4a Tryz.prog .len [92] [.slice a n c] H = some (.int .i64 (n : Int), H) := A3g Tryz.underlying92
theorem info_92 : ((Tryz.prog.info? 95).map fun i => Nat.beq i.size 4 && Nat.ble i.bytes 65536) = some true := by kernel_rfl
theorem C50 {H : AH} {len cap : Nat} {base : Option Addr} {x : List Value} (hx : x.length = 4) (hb : len ≤ 1073741823) : A4a Tryz.prog .append [92, 92] [.slice base len cap, .slice (some ⟨H.next, 0, some 0⟩) 1 1] (H.new 4 x).2 = A1e 4 base len cap 1 x (H.new 4 x).2 := A3n Tryz.underlying92 info_92 A75 rfl (Nat.le_of_ble_eq_true rfl) hx hb
theorem C7h {c : Bool} {a : Option Addr} {n m : Nat} : abin Tryz.prog 92 c .eql (.slice a n m) (.slice none 0 0) = some (.bool a.isNone) := A8g Tryz.underlying92
theorem B4v {c : Bool} {a : Option Addr} {n m : Nat} : abin Tryz.prog 92 c .neq (.slice a n m) (.slice none 0 0) = some (.bool a.isSome) := A6d Tryz.underlying92
theorem B11 {H : AH} : A5a Tryz.prog 92 0 [] H = some (.slice (some ⟨H.next, 0, some 0⟩) 0 0, (H.new 4 []).2) := A7g Tryz.underlying92 A01 A75 rfl (Nat.le_of_ble_eq_true rfl)
theorem B8z {H : AH} {x : Value} (hx : (A6a x).length = 4) (hc : (A6a x).all isCell = true) : A5a Tryz.prog 92 1 [(0, x)] H = some (.slice (some ⟨H.next, 0, some 0⟩) 1 1, (H.new 4 (A6a x)).2) := A7q Tryz.underlying92 A01 A75 rfl (Nat.le_of_ble_eq_true rfl) (Nat.le_of_ble_eq_true rfl) hx hc
theorem C6z {g o k : Nat} : A5b Tryz.prog 95 0 (.pointer (some ⟨g, o, some k⟩)) = some (.pointer (some ⟨g, o + 0, some k⟩)) := by have h := A1b (g := g) (o := o) (k := k) (f := 0) Tryz.underlying95 (Eq.refl (some _)) A7c rfl; exact h
theorem C5t {g o k : Nat} : A5b Tryz.prog 95 1 (.pointer (some ⟨g, o, some k⟩)) = some (.pointer (some ⟨g, o + 1, some k⟩)) := by have h := A1b (g := g) (o := o) (k := k) (f := 1) Tryz.underlying95 (Eq.refl (some _)) A7c rfl; exact h
theorem C2u {g o k : Nat} : A5b Tryz.prog 95 2 (.pointer (some ⟨g, o, some k⟩)) = some (.pointer (some ⟨g, o + 2, some k⟩)) := by have h := A1b (g := g) (o := o) (k := k) (f := 2) Tryz.underlying95 (Eq.refl (some _)) A7c rfl; exact h
theorem C0v {g o k : Nat} : A5b Tryz.prog 95 3 (.pointer (some ⟨g, o, some k⟩)) = some (.pointer (some ⟨g, o + 3, some k⟩)) := by have h := A1b (g := g) (o := o) (k := k) (f := 3) Tryz.underlying95 (Eq.refl (some _)) A7c rfl; exact h
theorem bld_95 {v0 v1 v2 v3 : Value} (h0 : isCell v0 = true) (h1 : isCell v1 = true) (h2 : isCell v2 = true) (h3 : isCell v3 = true) : A6t Tryz.prog 95 [(0, v0), (1, v1), (2, v2), (3, v3)] = some (.agg #[v0, v1, v2, v3]) := by refine A9q (pl := [(0, 1), (1, 1), (2, 1), (3, 1)]) Tryz.underlying95 A75 (by kernel_rfl) ?_; have va : ∀ xs : Array Value, A6a (.agg xs) = xs.toList := fun _ => rfl; simp [A62, A0c h0, A0c h1, A0c h2, A0c h3, va, h0, h1, h2, h3, setCells, A3c]
theorem len_97 {H : AH} {n c : Nat} {a : Option Addr} : A4a Tryz.prog .len [97] [.slice a n c] H = some (.int .i64 (n : Int), H) := A3g Tryz.underlying97
theorem info_97 : ((Tryz.prog.info? 99).map fun i => Nat.beq i.size 2 && Nat.ble i.bytes 65536) = some true := by kernel_rfl
theorem C5v {H : AH} {len cap : Nat} {base : Option Addr} {x : List Value} (hx : x.length = 2) (hb : len ≤ 1073741823) : A4a Tryz.prog .append [97, 97] [.slice base len cap, .slice (some ⟨H.next, 0, some 0⟩) 1 1] (H.new 2 x).2 = A1e 2 base len cap 1 x (H.new 2 x).2 := A3n Tryz.underlying97 info_97 A57 rfl (Nat.le_of_ble_eq_true rfl) hx hb
theorem C6d {c : Bool} {a : Option Addr} {n m : Nat} : abin Tryz.prog 97 c .eql (.slice a n m) (.slice none 0 0) = some (.bool a.isNone) := A8g Tryz.underlying97
theorem B8u {c : Bool} {a : Option Addr} {n m : Nat} : abin Tryz.prog 97 c .neq (.slice a n m) (.slice none 0 0) = some (.bool a.isSome) := A6d Tryz.underlying97
theorem B2x {H : AH} : A5a Tryz.prog 97 0 [] H = some (.slice (some ⟨H.next, 0, some 0⟩) 0 0, (H.new 2 []).2) := A7g Tryz.underlying97 A4s A57 rfl (Nat.le_of_ble_eq_true rfl)
theorem B20 {H : AH} {x : Value} (hx : (A6a x).length = 2) (hc : (A6a x).all isCell = true) : A5a Tryz.prog 97 1 [(0, x)] H = some (.slice (some ⟨H.next, 0, some 0⟩) 1 1, (H.new 2 (A6a x)).2) := A7q Tryz.underlying97 A4s A57 rfl (Nat.le_of_ble_eq_true rfl) (Nat.le_of_ble_eq_true rfl) hx hc
theorem C4q {g o k : Nat} : A5b Tryz.prog 99 0 (.pointer (some ⟨g, o, some k⟩)) = some (.pointer (some ⟨g, o + 0, some k⟩)) := by have h := A1b (g := g) (o := o) (k := k) (f := 0) Tryz.underlying99 (Eq.refl (some _)) A1j rfl; exact h
theorem C0r {g o k : Nat} : A5b Tryz.prog 99 1 (.pointer (some ⟨g, o, some k⟩)) = some (.pointer (some ⟨g, o + 1, some k⟩)) := by have h := A1b (g := g) (o := o) (k := k) (f := 1) Tryz.underlying99 (Eq.refl (some _)) A7c rfl; exact h
theorem bld_99 {v0 v1 : Value} (h0 : isCell v0 = true) (h1 : isCell v1 = true) : A6t Tryz.prog 99 [(0, v0), (1, v1)] = some (.agg #[v0, v1]) := by refine A9q (pl := [(0, 1), (1, 1)]) Tryz.underlying99 A57 (by kernel_rfl) ?_; have va : ∀ xs : Array Value, A6a (.agg xs) = xs.toList := fun _ => rfl; simp [A62, A0c h0, A0c h1, va, h0, h1, setCells, A3c]
theorem C1t {H : AH} {n c : Nat} {a : Option Addr} : A4a Tryz.prog .len [103] [.slice a n c] H = some (.int .i64 (n : Int), H) := A3g Tryz.underlying103
theorem info_103 : ((Tryz.prog.info? 58).map fun i => Nat.beq i.size 1 && Nat.ble i.bytes 65536) = some true := by kernel_rfl
theorem C2c {H : AH} {len cap : Nat} {base : Option Addr} {x : List Value} (hx : x.length = 1) (hb : len ≤ 1073741823) : A4a Tryz.prog .append [103, 103] [.slice base len cap, .slice (some ⟨H.next, 0, some 0⟩) 1 1] (H.new 1 x).2 = A1e 1 base len cap 1 x (H.new 1 x).2 := A3n Tryz.underlying103 info_103 B2h rfl (Nat.le_of_ble_eq_true rfl) hx hb
theorem B3y {c : Bool} {a : Option Addr} {n m : Nat} : abin Tryz.prog 103 c .eql (.slice a n m) (.slice none 0 0) = some (.bool a.isNone) := A8g Tryz.underlying103
theorem B9l {c : Bool} {a : Option Addr} {n m : Nat} : abin Tryz.prog 103 c .neq (.slice a n m) (.slice none 0 0) = some (.bool a.isSome) := A6d Tryz.underlying103
theorem B8m {H : AH} : A5a Tryz.prog 103 0 [] H = some (.slice (some ⟨H.next, 0, some 0⟩) 0 0, (H.new 1 []).2) := A7g Tryz.underlying103 B5i B2h rfl (Nat.le_of_ble_eq_true rfl)
theorem A16 {H : AH} {x : Value} (hx : (A6a x).length = 1) (hc : (A6a x).all isCell = true) : A5a Tryz.prog 103 1 [(0, x)] H = some (.slice (some ⟨H.next, 0, some 0⟩) 1 1, (H.new 1 (A6a x)).2) := A7q Tryz.underlying103 B5i B2h rfl (Nat.le_of_ble_eq_true rfl) (Nat.le_of_ble_eq_true rfl) hx hc
theorem C7b {g o k : Nat} : A5b Tryz.prog 105 0 (.pointer (some ⟨g, o, some k⟩)) = some (.pointer (some ⟨g, o + 0, some k⟩)) := by have h := A1b (g := g) (o := o) (k := k) (f := 0) Tryz.underlying105 (Eq.refl (some _)) B3i rfl; exact h
theorem C0c {g o k : Nat} : A5b Tryz.prog 105 1 (.pointer (some ⟨g, o, some k⟩)) = some (.pointer (some ⟨g, o + 3, some k⟩)) := by have h := A1b (g := g) (o := o) (k := k) (f := 1) Tryz.underlying105 (Eq.refl (some _)) B4p rfl; exact h
theorem C7d {g o k : Nat} : A5b Tryz.prog 105 2 (.pointer (some ⟨g, o, some k⟩)) = some (.pointer (some ⟨g, o + 4, some k⟩)) := by have h := A1b (g := g) (o := o) (k := k) (f := 2) Tryz.underlying105 (Eq.refl (some _)) A7c rfl; exact h
theorem C9c {g o k : Nat} : A5b Tryz.prog 105 3 (.pointer (some ⟨g, o, some k⟩)) = some (.pointer (some ⟨g, o + 5, some k⟩)) := by have h := A1b (g := g) (o := o) (k := k) (f := 3) Tryz.underlying105 (Eq.refl (some _)) C1u rfl; exact h
theorem C4y {H : AH} {n c : Nat} {a : Option Addr} : A4a Tryz.prog .len [114] [.slice a n c] H = some (.int .i64 (n : Int), H) := A3g Tryz.underlying114
theorem info_114 : ((Tryz.prog.info? 3).map fun i => Nat.beq i.size 1 && Nat.ble i.bytes 65536) = some true := by kernel_rfl
theorem app1_114 {H : AH} {len cap : Nat} {base : Option Addr} {x : List Value} (hx : x.length = 1) (hb : len ≤ 1073741823) : A4a Tryz.prog .append [114, 114] [.slice base len cap, .slice (some ⟨H.next, 0, some 0⟩) 1 1] (H.new 1 x).2 = A1e 1 base len cap 1 x (H.new 1 x).2 := A3n Tryz.underlying114 info_114 A60 rfl (Nat.le_of_ble_eq_true rfl) hx hb
theorem B02 {c : Bool} {a : Option Addr} {n m : Nat} : abin Tryz.prog 114 c .eql (.slice a n m) (.slice none 0 0) = some (.bool a.isNone) := A8g Tryz.underlying114
theorem B9n {c : Bool} {a : Option Addr} {n m : Nat} : abin Tryz.prog 114 c .neq (.slice a n m) (.slice none 0 0) = some (.bool a.isSome) := A6d Tryz.underlying114
theorem B3o {H : AH} : A5a Tryz.prog 114 0 [] H = some (.slice (some ⟨H.next, 0, some 0⟩) 0 0, (H.new 1 []).2) := A7g Tryz.underlying114 A7c A60 rfl (Nat.le_of_ble_eq_true rfl)
theorem C2j {H : AH} {x : Value} (hx : (A6a x).length = 1) (hc : (A6a x).all isCell = true) : A5a Tryz.prog 114 1 [(0, x)] H = some (.slice (some ⟨H.next, 0, some 0⟩) 1 1, (H.new 1 (A6a x)).2) := A7q Tryz.underlying114 A7c A60 rfl (Nat.le_of_ble_eq_true rfl) (Nat.le_of_ble_eq_true rfl) hx hc
theorem C3o {H : AH} {n c : Nat} {a : Option Addr} : A4a Tryz.prog .len [117] [.slice a n c] H = some (.int .i64 (n : Int), H) := A3g Tryz.underlying117
theorem info_117 : ((Tryz.prog.info? 114).map fun i => Nat.beq i.size 1 && Nat.ble i.bytes 65536) = some true := by kernel_rfl
theorem B3t {c : Bool} {a : Option Addr} {n m : Nat} : abin Tryz.prog 117 c .eql (.slice a n m) (.slice none 0 0) = some (.bool a.isNone) := A8g Tryz.underlying117
theorem B1n {c : Bool} {a : Option Addr} {n m : Nat} : abin Tryz.prog 117 c .neq (.slice a n m) (.slice none 0 0) = some (.bool a.isSome) := A6d Tryz.underlying117
theorem mk_117 {H : AH} {l c : Nat} (hlc : l ≤ c) (hc : c ≤ 1073741824) : A6f Tryz.prog 117 (.int .i64 (l : Int)) (.int .i64 (c : Int)) H = some (.slice (some ⟨H.next, 0, some 0⟩) l c, (H.new 1 (List.replicate c (.slice none 0 0))).2) := by rw [← A5w]; exact A22 Tryz.underlying117 info_117 B6a rfl (Nat.le_of_ble_eq_true rfl) hlc hc
theorem B4o {H : AH} : A5a Tryz.prog 117 0 [] H = some (.slice (some ⟨H.next, 0, some 0⟩) 0 0, (H.new 1 []).2) := A7g Tryz.underlying117 B5a B6a rfl (Nat.le_of_ble_eq_true rfl)
theorem C0i {g o k : Nat} : A5b Tryz.prog 144 0 (.pointer (some ⟨g, o, some k⟩)) = some (.pointer (some ⟨g, o + 0, some k⟩)) := by have h := A1b (g := g) (o := o) (k := k) (f := 0) Tryz.underlying144 (Eq.refl (some _)) A7c rfl; exact h
theorem C3h {g o k : Nat} : A5b Tryz.prog 144 1 (.pointer (some ⟨g, o, some k⟩)) = some (.pointer (some ⟨g, o + 1, some k⟩)) := by have h := A1b (g := g) (o := o) (k := k) (f := 1) Tryz.underlying144 (Eq.refl (some _)) A7c rfl; exact h
theorem C6y {H : AH} {n c : Nat} {a : Option Addr} : A4a Tryz.prog .len [145] [.slice a n c] H = some (.int .i64 (n : Int), H) := A3g Tryz.underlying145
theorem B1x {c : Bool} {a : Option Addr} {n m : Nat} : abin Tryz.prog 145 c .eql (.slice a n m) (.slice none 0 0) = some (.bool a.isNone) := A8g Tryz.underlying145
theorem B7k {c : Bool} {a : Option Addr} {n m : Nat} : abin Tryz.prog 145 c .neq (.slice a n m) (.slice none 0 0) = some (.bool a.isSome) := A6d Tryz.underlying145
theorem B7m {H : AH} : A5a Tryz.prog 145 0 [] H = some (.slice (some ⟨H.next, 0, some 0⟩) 0 0, (H.new 2 []).2) := A7g Tryz.underlying145 C7f B3q rfl (Nat.le_of_ble_eq_true rfl)
theorem C8g {H : AH} {n : Int} : A8h Tryz.prog 3 139 (.int .i64 n) H = some (.int .u64 (IntKind.wrap .u64 n), H) := A2w Tryz.underlying3 Tryz.underlying139
theorem C0g {H : AH} {n : Int} : A8h Tryz.prog 3 168 (.int .i64 n) H = some (.int .u64 (IntKind.wrap .u64 n), H) := A2w Tryz.underlying3 Tryz.underlying168
theorem cv_5_3 {H : AH} {n : Int} : A8h Tryz.prog 5 3 (.int .u8 n) H = some (.int .i64 (IntKind.wrap .i64 n), H) := A2w Tryz.underlying5 Tryz.underlying3
theorem C9b {H : AH} {n : Int} : A8h Tryz.prog 139 3 (.int .u64 n) H = some (.int .i64 (IntKind.wrap .i64 n), H) := A2w Tryz.underlying139 Tryz.underlying3
theorem B8l {H : AH} {n : Int} : A8h Tryz.prog 139 160 (.int .u64 n) H = some (.int .u32 (IntKind.wrap .u32 n), H) := A2w Tryz.underlying139 Tryz.underlying160
theorem C0a {H : AH} {n : Int} : A8h Tryz.prog 160 5 (.int .u32 n) H = some (.int .u8 (IntKind.wrap .u8 n), H) := A2w Tryz.underlying160 Tryz.underlying5
theorem C7c {H : AH} {n : Int} : A8h Tryz.prog 162 5 (.int .u64 n) H = some (.int .u8 (IntKind.wrap .u8 n), H) := A2w Tryz.underlying162 Tryz.underlying5
theorem B5v : type_of% (And.intro @zero_1 (And.intro @ld_1 (And.intro @zero_2 (And.intro @ld_2 (And.intro @A60 (And.intro @ld_3 (And.intro @B5m (And.intro @ld_4 (And.intro @zero_5 (And.intro @ld_5 (And.intro @B5h (And.intro @ld_9 (And.intro @B3e (And.intro @ld_22 (And.intro @C7r (And.intro @ld_23 (And.intro @C4u (And.intro @ld_24 (And.intro @C3y (And.intro @ld_26 (And.intro @C6v (And.intro @ld_29 (And.intro @C6r (And.intro @ld_30 (And.intro @B17 (And.intro @ld_49 (And.intro @B47 (And.intro @ld_51 (And.intro @C4t (And.intro @ld_52 (And.intro @C4n (And.intro @ld_57 (And.intro @B2h (And.intro @ld_58 (And.intro @B09 (And.intro @ld_60 (And.intro @C3r (And.intro @ld_64 (And.intro @C8z (And.intro @ld_65 (And.intro @C8v (And.intro @ld_68 (And.intro @A96 (And.intro @ld_69 (And.intro @B98 (And.intro @ld_71 (And.intro @C3v (And.intro @ld_75 (And.intro @C8y (And.intro @ld_79 (And.intro @B35 (And.intro @ld_85 (And.intro @C7v (And.intro @ld_86 (And.intro @C6o (And.intro @ld_87 (And.intro @C0z (And.intro @ld_90 (And.intro @B2s (And.intro @ld_92 (And.intro @A75 (And.intro @ld_95 (And.intro @B4s (And.intro @ld_97 (And.intro @A57 (And.intro @ld_99 (And.intro @C2i (And.intro @ld_102 (And.intro @C9e (And.intro @ld_103 (And.intro @B0q (And.intro @ld_105 (And.intro @C1a (And.intro @ld_110 (And.intro @C7e (And.intro @ld_113 (And.intro @B6a (And.intro @ld_114 (And.intro @C5h (And.intro @ld_117 (And.intro @C3c (And.intro @ld_121 (And.intro @C2e (And.intro @ld_123 (And.intro @C9d (And.intro @ld_129 (And.intro @C9f (And.intro @ld_139 (And.intro @B3q (And.intro @ld_144 (And.intro @C1d (And.intro @ld_145 (And.intro @C4f (And.intro @ld_146 (And.intro @C0d (And.intro @ld_152 (And.intro @B99 (And.intro @ld_160 (And.intro @C4e (And.intro @ld_162 (And.intro @C5f (And.intro @ld_168 (And.intro @C5e (And.intro @ld_172 (And.intro @C4b (And.intro @ld_176 (And.intro @len_9 (And.intro @len_22 (And.intro @C6h (And.intro @B6x (And.intro @B7x (And.intro @len_23 (And.intro @C5i (And.intro @B9x (And.intro @B8x (And.intro @len_24 (And.intro @C0f (And.intro @B8t (And.intro @B7v (And.intro @C3t (And.intro @C5n (And.intro @C3x (And.intro @C8p (And.intro @len_29 (And.intro @C3a (And.intro @B21 (And.intro @B31 (And.intro @C9v (And.intro @C2v (And.intro @C9t (And.intro @C9n (And.intro @C2s (And.intro @C0x (And.intro @C20 (And.intro @len_57 (And.intro @C4g (And.intro @B6z (And.intro @B0w (And.intro @len_58 (And.intro @C4c (And.intro @B5x (And.intro @B9w (And.intro @C6u (And.intro @C1v (And.intro @C8t (And.intro @len_65 (And.intro @C1i (And.intro @B32 (And.intro @B40 (And.intro @len_68 (And.intro @B79 (And.intro @B6v (And.intro @B2v (And.intro @len_69 (And.intro @C3d (And.intro @B22 (And.intro @B2t (And.intro @C0y (And.intro @C9o (And.intro @C5p (And.intro @C3n (And.intro @len_86 (And.intro @C8e (And.intro @B6u (And.intro @B9z (And.intro @len_92 (And.intro @C7h (And.intro @B4v (And.intro @B11 (And.intro @C6z (And.intro @C5t (And.intro @C2u (And.intro @C0v (And.intro @len_97 (And.intro @C6d (And.intro @B8u (And.intro @B2x (And.intro @C4q (And.intro @C0r (And.intro @C1t (And.intro @B3y (And.intro @B9l (And.intro @B8m (And.intro @C7b (And.intro @C0c (And.intro @C7d (And.intro @C9c (And.intro @C4y (And.intro @B02 (And.intro @B9n (And.intro @B3o (And.intro @C3o (And.intro @B3t (And.intro @B1n (And.intro @B4o (And.intro @C0i (And.intro @C3h (And.intro @C6y (And.intro @B1x (And.intro @B7k (And.intro @B7m (And.intro @C8g (And.intro @C0g (And.intro @cv_5_3 (And.intro @C9b (And.intro @B8l (And.intro @C0a (@C7c)))))))))))))))))))))))))))))))))))))))))))))))))))))))))))))))))))))))))))))))))))))))))))))))))))))))))))))))))))))))))))))))))))))))))))))))))))))))))))))))))))))))))))))))))))))))))))))))))))))))))))))))) := And.intro @zero_1 (And.intro @ld_1 (And.intro @zero_2 (And.intro @ld_2 (And.intro @A60 (And.intro @ld_3 (And.intro @B5m (And.intro @ld_4 (And.intro @zero_5 (And.intro @ld_5 (And.intro @B5h (And.intro @ld_9 (And.intro @B3e (And.intro @ld_22 (And.intro @C7r (And.intro @ld_23 (And.intro @C4u (And.intro @ld_24 (And.intro @C3y (And.intro @ld_26 (And.intro @C6v (And.intro @ld_29 (And.intro @C6r (And.intro @ld_30 (And.intro @B17 (And.intro @ld_49 (And.intro @B47 (And.intro @ld_51 (And.intro @C4t (And.intro @ld_52 (And.intro @C4n (And.intro @ld_57 (And.intro @B2h (And.intro @ld_58 (And.intro @B09 (And.intro @ld_60 (And.intro @C3r (And.intro @ld_64 (And.intro @C8z (And.intro @ld_65 (And.intro @C8v (And.intro @ld_68 (And.intro @A96 (And.intro @ld_69 (And.intro @B98 (And.intro @ld_71 (And.intro @C3v (And.intro @ld_75 (And.intro @C8y (And.intro @ld_79 (And.intro @B35 (And.intro @ld_85 (And.intro @C7v (And.intro @ld_86 (And.intro @C6o (And.intro @ld_87 (And.intro @C0z (And.intro @ld_90 (And.intro @B2s (And.intro @ld_92 (And.intro @A75 (And.intro @ld_95 (And.intro @B4s (And.intro @ld_97 (And.intro @A57 (And.intro @ld_99 (And.intro @C2i (And.intro @ld_102 (And.intro @C9e (And.intro @ld_103 (And.intro @B0q (And.intro @ld_105 (And.intro @C1a (And.intro @ld_110 (And.intro @C7e (And.intro @ld_113 (And.intro @B6a (And.intro @ld_114 (And.intro @C5h (And.intro @ld_117 (And.intro @C3c (And.intro @ld_121 (And.intro @C2e (And.intro @ld_123 (And.intro @C9d (And.intro @ld_129 (And.intro @C9f (And.intro @ld_139 (And.intro @B3q (And.intro @ld_144 (And.intro @C1d (And.intro @ld_145 (And.intro @C4f (And.intro @ld_146 (And.intro @C0d (And.intro @ld_152 (And.intro @B99 (And.intro @ld_160 (And.intro @C4e (And.intro @ld_162 (And.intro @C5f (And.intro @ld_168 (And.intro @C5e (And.intro @ld_172 (And.intro @C4b (And.intro @ld_176 (And.intro @len_9 (And.intro @len_22 (And.intro @C6h (And.intro @B6x (And.intro @B7x (And.intro @len_23 (And.intro @C5i (And.intro @B9x (And.intro @B8x (And.intro @len_24 (And.intro @C0f (And.intro @B8t (And.intro @B7v (And.intro @C3t (And.intro @C5n (And.intro @C3x (And.intro @C8p (And.intro @len_29 (And.intro @C3a (And.intro @B21 (And.intro @B31 (And.intro @C9v (And.intro @C2v (And.intro @C9t (And.intro @C9n (And.intro @C2s (And.intro @C0x (And.intro @C20 (And.intro @len_57 (And.intro @C4g (And.intro @B6z (And.intro @B0w (And.intro @len_58 (And.intro @C4c (And.intro @B5x (And.intro @B9w (And.intro @C6u (And.intro @C1v (And.intro @C8t (And.intro @len_65 (And.intro @C1i (And.intro @B32 (And.intro @B40 (And.intro @len_68 (And.intro @B79 (And.intro @B6v (And.intro @B2v (And.intro @len_69 (And.intro @C3d (And.intro @B22 (And.intro @B2t (And.intro @C0y (And.intro @C9o (And.intro @C5p (And.intro @C3n (And.intro @len_86 (And.intro @C8e (And.intro @B6u (And.intro @B9z (And.intro @len_92 (And.intro @C7h (And.intro @B4v (And.intro @B11 (And.intro @C6z (And.intro @C5t (And.intro @C2u (And.intro @C0v (And.intro @len_97 (And.intro @C6d (And.intro @B8u (And.intro @B2x (And.intro @C4q (And.intro @C0r (And.intro @C1t (And.intro @B3y (And.intro @B9l (And.intro @B8m (And.intro @C7b (And.intro @C0c (And.intro @C7d (And.intro @C9c (And.intro @C4y (And.intro @B02 (And.intro @B9n (And.intro @B3o (And.intro @C3o (And.intro @B3t (And.intro @B1n (And.intro @B4o (And.intro @C0i (And.intro @C3h (And.intro @C6y (And.intro @B1x (And.intro @B7k (And.intro @B7m (And.intro @C8g (And.intro @C0g (And.intro @cv_5_3 (And.intro @C9b (And.intro @B8l (And.intro @C0a (@C7c)))))))))))))))))))))))))))))))))))))))))))))))))))))))))))))))))))))))))))))))))))))))))))))))))))))))))))))))))))))))))))))))))))))))))))))))))))))))))))))))))))))))))))))))))))))))))))))))))))))))))))))))
theorem sx : type_of% (And.intro @Sh.sy @B5v) := And.intro @Sh.sy @B5v
end Go.Proofs.YtcgbiedfbacgpaaGreat
/- Nets in memory: what is made and written of them. -/
set_option maxHeartbeats 4000000
set_option maxRecDepth 20000
namespace Go.Proofs.YtcgbiedfbacgpaaGreat
open Go Go.Proofs Go.Proofs.Sh
section
variable {H : AH} {g : Nat} {sg ar en v : Value} {N : NetD}
theorem A5x (hsg : isCell sg = true) (har : isCell ar = true) (hen : isCell en = true) {n : Int} : anew Tryz.prog 26 H (.agg #[sg, .int .i64 n, ar, en]) = some (.pointer (some ⟨H.next, 0, some 0⟩), (H.new 4 [sg, .int .i64 n, ar, en]).2) :=
 A0r (vs := [sg, .int .i64 n, ar, en]) B19 rfl (by simp [hsg, har, hen, show isCell (.int .i64 n) = true from rfl])
theorem B5g : anew Tryz.prog 49 H (.agg #[.int .i64 0, .string ⟨#[]⟩, .string ⟨#[]⟩, .int .i64 0, .int .i64 0]) = some (.pointer (some ⟨H.next, 0, some 0⟩), (H.new 5 [.int .i64 0, .string ⟨#[]⟩, .string ⟨#[]⟩, .int .i64 0, .int .i64 0]).2) :=
 A0r (vs := [.int .i64 0, .string ⟨#[]⟩, .string ⟨#[]⟩, .int .i64 0, .int .i64 0]) A9o rfl rfl
theorem B96 : anew Tryz.prog 51 H (.agg #[.int .i64 0, .int .i64 0]) = some (.pointer (some ⟨H.next, 0, some 0⟩), (H.new 2 [.int .i64 0, .int .i64 0]).2) := A0r (vs := [.int .i64 0, .int .i64 0]) A9t rfl rfl
theorem arcNew {a : ArcD} : anew Tryz.prog 49 H (.agg a.cells.toArray) = some (.pointer (some ⟨H.next, 0, some 0⟩), (H.new 5 a.cells).2) := A0r (vs := a.cells) A9o rfl rfl
theorem A73 {a : ArcD} {p : Addr} : A8e Tryz.prog 49 H (.agg a.cells.toArray) (.pointer (some p)) = H.write p a.cells := A6x A9o rfl rfl
theorem B3s {a : EndD} {p : Addr} : A8e Tryz.prog 51 H (.agg a.cells.toArray) (.pointer (some p)) = H.write p a.cells := A6x A9t rfl rfl
theorem B6e {a : ArcD} {x0 x1 x2 x3 x4 : Value} : (H.new 5 [x0, x1, x2, x3, x4]).2.write ⟨H.next, 0, some 0⟩ a.cells = some (H.new 5 a.cells).2 := A4o rfl
theorem B75 {a : EndD} {x0 x1 : Value} : (H.new 2 [x0, x1]).2.write ⟨H.next, 0, some 0⟩ a.cells = some (H.new 2 a.cells).2 := A4o rfl
theorem arc0 {a : ArcD} : (H.new 5 a.cells).2.cell ⟨H.next, 0, some 0⟩ = some (.int .i64 a.fr) := A6l _ _ _
theorem arc1 {a : ArcD} : (H.new 5 a.cells).2.cell ⟨H.next, 1, some 0⟩ = some (.string a.inn) := A6l _ _ _
theorem arc2 {a : ArcD} : (H.new 5 a.cells).2.cell ⟨H.next, 2, some 0⟩ = some (.string a.out) := A6l _ _ _
theorem arc3 {a : ArcD} : (H.new 5 a.cells).2.cell ⟨H.next, 3, some 0⟩ = some (.int .i64 a.to) := A6l _ _ _
theorem arc4 {a : ArcD} : (H.new 5 a.cells).2.cell ⟨H.next, 4, some 0⟩ = some (.int .i64 a.cost) := A6l _ _ _
theorem end0 {a : EndD} : (H.new 2 a.cells).2.cell ⟨H.next, 0, some 0⟩ = some (.int .i64 a.state) := A6l _ _ _
theorem end1 {a : EndD} : (H.new 2 a.cells).2.cell ⟨H.next, 1, some 0⟩ = some (.int .i64 a.cost) := A6l _ _ _
theorem B15 (h : NetBox H g sg ar en N) {H' : AH} : A4a Tryz.prog .len [22] [sg] H' = some (.int .i64 (N.sigma.length : Int), H') := by rw [h.hsg.len Tryz.underlying22 H', List.length_map]
theorem A2m (h : NetBox H g sg ar en N) {H' : AH} : A4a Tryz.prog .len [23] [ar] H' = some (.int .i64 (N.arcs.length : Int), H') := by rw [h.har.len Tryz.underlying23 H', List.length_map]
theorem A1r (h : NetBox H g sg ar en N) {H' : AH} : A4a Tryz.prog .len [24] [en] H' = some (.int .i64 (N.ends.length : Int), H') := by rw [h.hen.len Tryz.underlying24 H', List.length_map]
theorem eqT_int {d : Nat} {a b : Int} : eqT Tryz.prog (d + 1) 3 (.int .i64 a) (.int .i64 b) = some (decide (a = b)) := by
 simp only [eqT, Tryz.underlying3, A1f, cond_true, A1o]; rfl
end
end Go.Proofs.YtcgbiedfbacgpaaGreat
/- Whether a text of a list is too long for a symbol. -/
set_option linter.unusedSimpArgs false
namespace Go.Proofs.YtcgbiedfbacgpaaGreat
open Go Go.Proofs Go.Proofs.Sh
theorem anyLong {H : AH} {v : Value} {l : List ByteArray} (hs : Sl H v 1 (l.map A6b)) (hl : l.length ≤ 1048576) (hw : Wf H) :
  Sh.Call Tryz.prog (knows 7) 82 [v] H (fun r H' => Kept H H' ∧ r = .bool (l.any fun s => decide (16 < s.size))) := by
 refine A2a rfl Tryz.func82 rfl (Nat.le_of_ble_eq_true rfl) ?_
 have hres : Tryz.f82.results.toList = [.tmp 2] := rfl
 have hlen := hs.len Tryz.underlying22 H
 simp only [↓Sh.dn, sx]
 refine A1x l.length (fun i F H' => H' = H ∧ F.get 0 = some v ∧ F.get 3 = some (.int .i64 (i : Int)) ∧ (l.take i).any (fun s => decide (16 < s.size)) = false) (Nat.zero_le _) ⟨rfl, by simp only [sx, reduceCtorEq], by simp only [sx]; rfl, rfl⟩ ?_
 rintro i F H' hi ⟨rfl, f0, f3, hall⟩ k
 by_cases hlt : i < l.length
 ·obtain ⟨g, o, kk, hia, hc, hcc⟩ := hs.at Tryz.underlying22 A1j (i := i) (x := A6b l[i]) (by simp [hlt]) .i64
  have hy := hcc 0 _ rfl
  simp only [Nat.add_zero] at hy
  have hc16 : decide ((16 : Int) < ((l[i].size : Nat) : Int)) = decide (16 < l[i].size) := by
   by_cases h : 16 < l[i].size
   ·simp [h]; omega
   ·simp [h]; omega
  simp only [↓Sh.dn, sx, reduceCtorEq, Nat.reduceEqDiff, ↓Sh.wp_cond, f0, f3, hlen, hia, hy, List.length_map, A1a, hlt, hc16, decide_true, reduceCtorEq, hres]
  refine ⟨fun h => ⟨Kept.refl hw, ?_⟩, fun h => k _ _ hlt ⟨rfl, by simp only [sx, reduceCtorEq, f0], by simp only [sx, wrap_succ hlt hl], ?_⟩⟩
  ·have : (l.any fun s => decide (16 < s.size)) = true := List.any_eq_true.2 ⟨_, List.getElem_mem hlt, h⟩
   rw [this]
  ·rw [List.take_add_one, List.getElem?_eq_getElem hlt]
   simp only [Option.toList, List.any_append, hall, Bool.false_or, List.any_cons, List.any_nil, Bool.or_false]
   exact h
 ·have hin : i = l.length := by omega
  subst hin
  rw [List.take_length] at hall
  simp only [↓Sh.dn, sx, reduceCtorEq, Nat.reduceEqDiff, ↓Sh.wp_cond, f0, f3, hlen, List.length_map, A1a, hlt, decide_false, reduceCtorEq, hres]
  exact ⟨Kept.refl hw, by rw [hall]⟩
end Go.Proofs.YtcgbiedfbacgpaaGreat
/- Whether a text is a symbol. -/
namespace Go.Proofs.YtcgbiedfbacgpaaGreat
open Go Go.Proofs Go.Proofs.Sh
def badByte (u : UInt8) : Bool := decide (u.toNat < 33) || decide (126 < u.toNat) || decide (u.toNat = 60) || decide (u.toNat = 62)
def A6y (s : ByteArray) : Bool := !s.data.toList.any badByte && decide (1 ≤ s.size) && decide (s.size ≤ 16)
theorem isSymbol {H : AH} {x : ByteArray} (hl : x.size ≤ 1048576) (hw : Wf H) :
  Sh.Call Tryz.prog (knows 7) 103 [.string x] H (fun r H' => H' = H ∧ r = .bool (A6y x)) := by
 refine A2a rfl Tryz.func103 rfl (Nat.le_of_ble_eq_true rfl) ?_
 have hres : Tryz.f103.results.toList = [.tmp 2] := rfl
 have hsz : x.data.toList.length = x.size := by rw [Array.length_toList]; rfl
 simp only [↓Sh.dn, sx]
 refine A1x x.size (fun i F H' => H' = H ∧ F.get 0 = some (.string x) ∧ F.get 3 = some (.int .i64 (i : Int)) ∧ (x.data.toList.take i).any badByte = false) (Nat.zero_le _) ⟨rfl, by simp only [sx, reduceCtorEq], by simp only [sx]; rfl, rfl⟩ ?_
 rintro i F H' hi ⟨rfl, f0, f3, hall⟩ k
 by_cases hlt : i < x.size
 ·obtain ⟨u, hu⟩ : ∃ u, x.data.toList[i]? = some u := ⟨x.data.toList[i]'(by omega), List.getElem?_eq_getElem (by omega)⟩
  have hix := B7g (P := Tryz.prog) (j := .i64) Tryz.underlying9 hu
  have e33 : decide ((u.toNat : Int) < 33) = decide (u.toNat < 33) := by by_cases h : u.toNat < 33 <;> simp [h] <;> omega
  have e126 : decide (126 < (u.toNat : Int)) = decide (126 < u.toNat) := by by_cases h : 126 < u.toNat <;> simp [h] <;> omega
  have e60 : decide ((u.toNat : Int) = 60) = decide (u.toNat = 60) := by by_cases h : u.toNat = 60 <;> simp [h]; omega
  have e62 : decide ((u.toNat : Int) = 62) = decide (u.toNat = 62) := by by_cases h : u.toNat = 62 <;> simp [h]; omega
  have hstep : badByte u = false → (x.data.toList.take (i + 1)).any badByte = false := by
   intro h
   rw [List.take_add_one, hu]
   simp only [Option.toList, List.any_append, hall, Bool.false_or, List.any_cons, List.any_nil, Bool.or_false]
   exact h
  have hbad : badByte u = true → A6y x = false := by
   intro h
   have : x.data.toList.any badByte = true := List.any_eq_true.2 ⟨_, List.mem_of_getElem? hu, h⟩
   simp [A6y, this]
  have hgo : badByte u = (decide (u.toNat < 33) || decide (126 < u.toNat) || decide (u.toNat = 60) || decide (u.toNat = 62)) := rfl
  have five : ∀ a b c d : Bool, a = true ∨ (a = false ∧ b = true) ∨ (a = false ∧ b = false ∧ c = true) ∨ (a = false ∧ b = false ∧ c = false ∧ d = true) ∨ (a = false ∧ b = false ∧ c = false ∧ d = false) := by decide
  rcases five (decide (u.toNat < 33)) (decide (126 < u.toNat)) (decide (u.toNat = 60)) (decide (u.toNat = 62)) with h1 | ⟨h1, h2⟩ | ⟨h1, h2, h3⟩ | ⟨h1, h2, h3, h4⟩ | ⟨h1, h2, h3, h4⟩ <;> simp only [*, Bool.or_true, Bool.or_false, Bool.true_or] at hgo
  ·simp only [↓Sh.dn, sx, reduceCtorEq, Nat.reduceEqDiff, f0, f3, hix, A1a, hlt, e33, h1, decide_true, hres, hbad hgo]
  ·simp only [↓Sh.dn, sx, reduceCtorEq, Nat.reduceEqDiff, f0, f3, hix, A1a, hlt, e33, e126, h1, h2, decide_true, hres, hbad hgo]
  ·simp only [↓Sh.dn, sx, reduceCtorEq, Nat.reduceEqDiff, f0, f3, hix, A1a, hlt, e33, e126, e60, h1, h2, h3, decide_true, hres, hbad hgo]
  ·simp only [↓Sh.dn, sx, reduceCtorEq, Nat.reduceEqDiff, f0, f3, hix, A1a, hlt, e33, e126, e60, e62, h1, h2, h3, h4, decide_true, hres, hbad hgo]
  ·simp only [↓Sh.dn, sx, reduceCtorEq, Nat.reduceEqDiff, f0, f3, hix, A1a, hlt, e33, e126, e60, e62, h1, h2, h3, h4, decide_true, hres]
   exact k _ _ hlt ⟨rfl, by simp only [sx, reduceCtorEq, f0], by simp only [sx, wrap_succ hlt hl], hstep hgo⟩
 ·have hin : i = x.size := by omega
  subst hin
  rw [← hsz, List.take_length] at hall
  have e1 : decide ((1 : Int) ≤ ((x.size : Nat) : Int)) = decide (1 ≤ x.size) := by by_cases h : 1 ≤ x.size <;> simp [h] <;> omega
  have e16 : decide (((x.size : Nat) : Int) ≤ 16) = decide (x.size ≤ 16) := by by_cases h : x.size ≤ 16 <;> simp [h] <;> omega
  cases h1 : decide (1 ≤ x.size) <;>
   simp only [↓Sh.dn, sx, reduceCtorEq, Nat.reduceEqDiff, f0, f3, A1a, hlt, e1, e16, h1, decide_false, reduceCtorEq, hres] <;>
   simp [A6y, hall, h1]
end Go.Proofs.YtcgbiedfbacgpaaGreat
/- Whether all texts of a list are symbols. -/
namespace Go.Proofs.YtcgbiedfbacgpaaGreat
open Go Go.Proofs Go.Proofs.Sh
theorem C8i {H : AH} {v : Value} {l : List ByteArray} (hs : Sl H v 1 (l.map A6b)) (hl : l.length ≤ 1048576) (hlx : ∀ x ∈ l, x.size ≤ 1048576) (hw : Wf H) :
  Sh.Call Tryz.prog (knows 7) 83 [v] H (fun r H' => H' = H ∧ r = .bool (l.all A6y)) := by
 refine A2a rfl Tryz.func83 rfl (Nat.le_of_ble_eq_true rfl) ?_
 have hres : Tryz.f83.results.toList = [.tmp 2] := rfl
 have hlen := hs.len Tryz.underlying22 H
 simp only [↓Sh.dn, sx]
 refine A1x l.length (fun i F H' => H' = H ∧ F.get 0 = some v ∧ F.get 3 = some (.int .i64 (i : Int)) ∧ (l.take i).all A6y = true) (Nat.zero_le _) ⟨rfl, by simp only [sx, reduceCtorEq], by simp only [sx]; rfl, rfl⟩ ?_
 rintro i F H' hi ⟨rfl, f0, f3, hall⟩ k
 by_cases hlt : i < l.length
 ·obtain ⟨g, o, kk, hia, hc, hcc⟩ := hs.at Tryz.underlying22 A1j (i := i) (x := A6b l[i]) (by simp [hlt]) .i64
  have hy := hcc 0 _ rfl
  simp only [Nat.add_zero] at hy
  obtain ⟨r, H1, hd, rfl, rfl⟩ := isSymbol (H := H') (x := l[i]) (hlx _ (List.getElem_mem hlt)) hw
  simp only [↓Sh.dn, sx, reduceCtorEq, Nat.reduceEqDiff, f0, f3, hlen, hia, hy, List.length_map, A1a, hlt, decide_true, reduceCtorEq, hres]
  refine ⟨_, _, hd, ?_⟩
  cases hsy : A6y l[i] with
  | false =>
   have : l.all A6y = false := by
    rw [List.all_eq_false]
    exact ⟨_, List.getElem_mem hlt, by simp [hsy]⟩
   simp only [↓Sh.dn, sx, this]
  | true =>
   simp only [↓Sh.dn, sx, Nat.reduceEqDiff, f3]
   refine k _ _ hlt ⟨rfl, by simp only [sx, reduceCtorEq, f0], by simp only [sx, wrap_succ hlt hl], ?_⟩
   rw [List.take_add_one, List.getElem?_eq_getElem hlt]
   simp only [Option.toList, List.all_append, hall, List.all_cons, List.all_nil, Bool.and_true, hsy]
 ·have hin : i = l.length := by omega
  subst hin
  rw [List.take_length] at hall
  simp only [↓Sh.dn, sx, reduceCtorEq, Nat.reduceEqDiff, f0, f3, hlen, List.length_map, A1a, hlt, decide_false, reduceCtorEq, hres]
  rw [hall]
end Go.Proofs.YtcgbiedfbacgpaaGreat
/- Whether texts ascend. -/
namespace Go.Proofs.YtcgbiedfbacgpaaGreat
open Go Go.Proofs Go.Proofs.Sh
def ascB : List ByteArray → Bool
 | x :: y :: l => A0b x y && ascB (y :: l)
 | _ => true
theorem A4z : ∀ {l : List ByteArray}, ascB l = true ↔ ∀ (i : Nat) x y, l[i]? = some x → l[i + 1]? = some y → A0b x y = true
 | [] => by simp [ascB]
 | [a] => by simp [ascB]
 | a :: b :: l => by
  simp only [ascB, Bool.and_eq_true, A4z (l := b :: l)]
  constructor
  ·rintro ⟨h1, h2⟩ i x y hx hy
   cases i with
   | zero => simp only [List.getElem?_cons_zero, List.getElem?_cons_succ, Option.some.injEq] at hx hy; subst hx hy; exact h1
   | succ i => exact h2 i x y (by simpa using hx) (by simpa using hy)
  ·intro h
   exact ⟨h 0 a b rfl rfl, fun i x y hx hy => h (i + 1) x y (by simpa using hx) (by simpa using hy)⟩
theorem asc_of {l : List ByteArray} (h : ascB l = true) : Asc l := by
 rw [A4z] at h
 intro i j x y hij hx hy
 obtain ⟨d, rfl⟩ : ∃ d, j = i + 1 + d := ⟨j - i - 1, by omega⟩
 induction d generalizing y with
 | zero => exact h i x y hx hy
 | succ d ih =>
  have hjl := (List.getElem?_eq_some_iff.1 hy).1
  have hz : l[i + 1 + d]? = some (l[i + 1 + d]'(by omega)) := List.getElem?_eq_getElem (by omega)
  exact A0n (ih _ (by omega) hz) (h _ _ _ hz hy)
theorem isSet {H : AH} {v : Value} {l : List ByteArray} (hs : Sl H v 1 (l.map A6b)) (hl : l.length ≤ 1048576) (hw : Wf H) :
  Sh.Call Tryz.prog (knows 7) 84 [v] H (fun r H' => H' = H ∧ r = .bool (ascB l)) := by
 refine A2a rfl Tryz.func84 rfl (Nat.le_of_ble_eq_true rfl) ?_
 have hres : Tryz.f84.results.toList = [.tmp 2] := rfl
 have hlen := hs.len Tryz.underlying22 H
 simp only [↓Sh.dn, sx]
 refine A2b (fun m F H' => H' = H ∧ ∃ i : Nat, m = l.length - i ∧ 1 ≤ i ∧ F.get 0 = some v ∧ F.get 3 = some (.int .i64 (i : Int)) ∧ (∀ (j : Nat) x y, j + 1 < i → l[j]? = some x → l[j + 1]? = some y → A0b x y = true)) (m := l.length - 1) ⟨rfl, 1, rfl, Nat.le_refl _, by simp only [sx, reduceCtorEq], by simp only [sx]; rfl, fun j x y h => by omega⟩ ?_
 rintro m F H' ⟨rfl, i, rfl, h1, f0, f3, hall⟩ k
 by_cases hlt : i < l.length
 ·obtain ⟨g, o, kk, hia, hc, hcc⟩ := hs.at Tryz.underlying22 A1j (i := i) (x := A6b l[i]) (by simp [hlt]) .i64
  have hy := hcc 0 _ rfl
  obtain ⟨g', o', kk', hia', hc', hcc'⟩ := hs.at Tryz.underlying22 A1j (i := i - 1) (x := A6b (l[i - 1]'(by omega))) (by simp [List.getElem?_eq_getElem (show i - 1 < l.length by omega)]) .i64
  have hy' := hcc' 0 _ rfl
  have hw1 : IntKind.wrap .i64 ((i : Int) - 1) = ((i - 1 : Nat) : Int) := by rw [wrap64 (by omega) (by omega)]; omega
  simp only [Nat.add_zero] at hy hy'
  simp only [↓Sh.dn, sx, reduceCtorEq, Nat.reduceEqDiff, ↓Sh.wp_cond, f0, f3, hlen, hia, hia', hy, hy', hw1, List.length_map, A1a, hlt, decide_true, reduceCtorEq, hres, Bool.not_eq_true', Bool.not_eq_false']
  have hx1 : l[i - 1]? = some (l[i - 1]'(by omega)) := List.getElem?_eq_getElem (by omega)
  have hx2 : l[i - 1 + 1]? = some l[i] := by rw [show i - 1 + 1 = i by omega]; exact List.getElem?_eq_getElem hlt
  refine ⟨fun h => ?_, fun h => k (l.length - (i + 1)) _ _ (by omega) ⟨rfl, i + 1, rfl, by omega, by simp only [sx, reduceCtorEq, f0], by simp only [sx, wrap_succ hlt hl], fun j x y hj hx hy => ?_⟩⟩
  ·have : ascB l = false := by
     cases hb : ascB l with
     | false => rfl
     | true => rw [A4z.1 hb _ _ _ hx1 hx2] at h; cases h
   rw [this]
  ·by_cases hji : j + 1 < i
   ·exact hall j x y hji hx hy
   ·have : j = i - 1 := by omega
    subst this
    rw [hx1] at hx
    rw [hx2] at hy
    rw [← Option.some.inj hx, ← Option.some.inj hy]
    exact h
 ·simp only [↓Sh.dn, sx, reduceCtorEq, Nat.reduceEqDiff, ↓Sh.wp_cond, f0, f3, hlen, List.length_map, A1a, hlt, decide_false, reduceCtorEq, hres]
  have : ascB l = true := A4z.2 fun j x y hx hy => hall j x y (by have := (List.getElem?_eq_some_iff.1 hy).1; omega) hx hy
  rw [this]
end Go.Proofs.YtcgbiedfbacgpaaGreat
/- What is wrong with an alphabet, by the reference. -/
namespace Go.Proofs.YtcgbiedfbacgpaaGreat
open Go Go.Proofs Go.Proofs.Sh
def A8s (l : List ByteArray) : Bool := l.any fun s => decide (16 < s.size)
def A9j (l : List ByteArray) : Int := if (decide (40 < l.length) || A8s l) = true then 3 else if (l.all A6y && ascB l) = true then 0 else 1
theorem refSigma {H : AH} {v : Value} {l : List ByteArray} (hs : Sl H v 1 (l.map A6b)) (hl : l.length ≤ 1048576) (hlx : ∀ x ∈ l, x.size ≤ 1048576) (hw : Wf H) :
  Sh.Call Tryz.prog (knows 7) 45 [v] H (fun r H' => Kept H H' ∧ r = .int .i64 (A9j l)) := by
 refine A2a rfl Tryz.func45 rfl (Nat.le_of_ble_eq_true rfl) ?_
 have hres : Tryz.f45.results.toList = [.tmp 2] := rfl
 have hlen := hs.len Tryz.underlying22 H
 have e40 : decide ((40 : Int) < ((l.length : Nat) : Int)) = decide (40 < l.length) := by by_cases h : 40 < l.length <;> simp [h] <;> omega
 simp only [↓Sh.dn, sx, reduceCtorEq, hlen, List.length_map, e40]
 by_cases h40 : 40 < l.length
 ·simp only [↓Sh.dn, sx, Nat.reduceEqDiff, h40, decide_true, hres, A9j, Kept.refl hw]
 ·simp only [↓Sh.dn, sx, reduceCtorEq, Nat.reduceEqDiff, h40, decide_false]
  obtain ⟨r1, H1, hd1, hk1, rfl⟩ := anyLong hs hl hw
  refine ⟨_, _, hd1, ?_⟩
  cases hL : (l.any fun s => decide (16 < s.size)) with
  | true => simp only [↓Sh.dn, sx, hres, hL, A9j, A8s, h40, decide_false, hk1]
  | false =>
   simp only [↓Sh.dn, sx, reduceCtorEq, reduceCtorEq]
   obtain ⟨r2, H2, hd2, rfl, rfl⟩ := C8i (hs.grow (hk1.grow hw)) hl hlx hk1.wf
   refine ⟨_, _, hd2, ?_⟩
   cases hA : l.all A6y with
   | false => simp only [↓Sh.dn, sx, Nat.reduceEqDiff, hres, hL, hA, A9j, A8s, h40, decide_false, hk1]
   | true =>
    obtain ⟨r3, H3, hd3, rfl, rfl⟩ := isSet (hs.grow (hk1.grow hw)) hl hk1.wf
    simp only [↓Sh.dn, sx, reduceCtorEq, Nat.reduceEqDiff, reduceCtorEq]
    refine ⟨_, _, hd3, ?_⟩
    cases hS : ascB l with
    | true => simp only [↓Sh.dn, sx, hres, hL, hA, hS, A9j, A8s, h40, decide_false, hk1]
    | false => simp only [↓Sh.dn, sx, hres, hL, hA, hS, A9j, A8s, h40, decide_false, hk1]
end Go.Proofs.YtcgbiedfbacgpaaGreat
/- sort.Search: the first place at which a question that stays true is true. -/
namespace Go.Proofs.YtcgbiedfbacgpaaGreat
open Go Go.Proofs Go.Proofs.Sh
theorem half (a b : Nat) (h : a + b < 2097152) : A2l false .u64 (IntKind.wrap .u64 (IntKind.wrap .i64 ((a : Int) + (b : Int)))) 1 = some (.int .u64 (((a + b) / 2 : Nat) : Int)) := by
 rw [wrap64 (by omega) (by omega)]
 have e : IntKind.wrap .u64 ((a : Int) + (b : Int)) = ((a + b : Nat) : Int) := by
  simp only [IntKind.wrap]
  simp [IntKind.bits, IntKind.signed]
  omega
 rw [e]
 simp only [A2l, A6k]
 simp [IntKind.bits, Int.fdiv_eq_ediv]
theorem search {H : AH} {n fid : Nat} {caps : List Value} (p : Nat → Bool) (hn : n ≤ 1048576) (hp : ∀ i, i < n → Sh.Call Tryz.prog (knows 7) fid (.int .i64 (i : Int) :: caps) H (fun r H' => r = .bool (p i) ∧ H' = H)) (hm : ∀ a b, a ≤ b → b < n → p a = true → p b = true) (hw : Wf H) :
  Sh.Call Tryz.prog (knows 7) 104 [.int .i64 (n : Int), .func (.func fid) #[] caps.toArray] H (fun r H' => H' = H ∧ ∃ k : Nat, r = .int .i64 (k : Int) ∧ k ≤ n ∧ (∀ i, i < k → p i = false) ∧ (∀ i, k ≤ i → i < n → p i = true)) := by
 refine A2a rfl Tryz.func104 rfl (Nat.le_of_ble_eq_true rfl) ?_
 have hres : Tryz.f104.results.toList = [.tmp 4] := rfl
 simp only [↓Sh.dn, sx, reduceCtorEq, Nat.reduceEqDiff]
 refine A2b (fun m F H' => H' = H ∧ ∃ a b : Nat, m = b - a ∧ a ≤ b ∧ b ≤ n ∧ F.get 5 = some (.int .i64 (a : Int)) ∧ F.get 6 = some (.int .i64 (b : Int)) ∧ F.get 1 = some (.func (.func fid) #[] caps.toArray) ∧ (∀ i, i < a → p i = false) ∧ (∀ i, b ≤ i → i < n → p i = true)) (m := n) ⟨rfl, 0, n, by omega, by omega, by omega, by simp only [sx, Nat.reduceEqDiff]; rfl, by simp only [sx], by simp only [sx, Nat.reduceEqDiff], fun i h => by omega, fun i h1 h2 => by omega⟩ ?_
 rintro m F H' ⟨rfl, a, b, rfl, hab, hbn, f5, f6, f1, hlo, hhi⟩ k
 by_cases hlt : a < b
 ·obtain ⟨r, H1, hd, rfl, rfl⟩ := hp ((a + b) / 2) (by omega)
  have hw2 : IntKind.wrap .i64 (((a + b) / 2 : Nat) : Int) = (((a + b) / 2 : Nat) : Int) := wrap64 (by omega) (by omega)
  simp only [↓Sh.dn, sx, Nat.reduceEqDiff, f5, f6, f1, A1a, hlt, decide_true, C7k, half a b (by omega), hw2]
  refine ⟨_, _, hd, ?_⟩
  cases hpv : p ((a + b) / 2) with
  | false =>
   have hw3 : IntKind.wrap .i64 ((((a + b) / 2 : Nat) : Int) + 1) = (((a + b) / 2 + 1 : Nat) : Int) := wrap_succ (n := n) (by omega) hn
   simp only [↓Sh.dn, sx, Nat.reduceEqDiff, hw3]
   refine k (b - ((a + b) / 2 + 1)) _ _ (by omega) ⟨rfl, (a + b) / 2 + 1, b, rfl, by omega, hbn, by simp only [sx], by simp only [sx, Nat.reduceEqDiff, f6], by simp only [sx, Nat.reduceEqDiff, f1], fun i hi => ?_, hhi⟩
   cases hpi : p i with
   | false => rfl
   | true => rw [hm i ((a + b) / 2) (by omega) (by omega) hpi] at hpv; cases hpv
  | true =>
   simp only [↓Sh.dn, sx, Nat.reduceEqDiff]
   exact k ((a + b) / 2 - a) _ _ (by omega) ⟨rfl, a, (a + b) / 2, rfl, by omega, by omega, by simp only [sx, Nat.reduceEqDiff, f5], by simp only [sx], by simp only [sx, Nat.reduceEqDiff, f1], hlo, fun i h1 h2 => hm _ i h1 h2 hpv⟩
 ·have hab' : a = b := by omega
  subst hab'
  simp only [↓Sh.dn, sx, Nat.reduceEqDiff, f5, f6, A1a, hlt, decide_false, hres]
  exact ⟨a, rfl, hbn, hlo, hhi⟩
end Go.Proofs.YtcgbiedfbacgpaaGreat
/- What sort.SearchStrings asks of a place. -/
namespace Go.Proofs.YtcgbiedfbacgpaaGreat
open Go Go.Proofs Go.Proofs.Sh
theorem searchAt {H : AH} {g1 o1 k1 g2 o2 k2 i : Nat} {v : Value} {x y : ByteArray} {l : List ByteArray} (h1 : H.cell ⟨g1, o1, some k1⟩ = some v) (h2 : H.cell ⟨g2, o2, some k2⟩ = some (.string x)) (hs : Sl H v 1 (l.map A6b)) (hi : l[i]? = some y) (hw : Wf H) :
  Sh.Call Tryz.prog (knows 7) 105 [.int .i64 (i : Int), .pointer (some ⟨g1, o1, some k1⟩), .pointer (some ⟨g2, o2, some k2⟩)] H (fun r H' => r = .bool (!A0b y x) ∧ H' = H) := by
 refine A2a rfl Tryz.func105 rfl (Nat.le_of_ble_eq_true rfl) ?_
 have hres : Tryz.f105.results.toList = [.tmp 4] := rfl
 obtain ⟨g, o, kk, hia, hc, hcc⟩ := hs.at Tryz.underlying22 A1j (i := i) (x := A6b y) (by simp [hi]) .i64
 have hy := hcc 0 _ rfl
 simp only [Nat.add_zero] at hy
 simp only [↓Sh.dn, sx, reduceCtorEq, Nat.reduceEqDiff, h1, h2, hia, hy, hres]
end Go.Proofs.YtcgbiedfbacgpaaGreat
/- sort.SearchStrings over an ascending list. -/
namespace Go.Proofs.YtcgbiedfbacgpaaGreat
open Go Go.Proofs Go.Proofs.Sh
theorem B8q {H : AH} {v : Value} {x : ByteArray} {l : List ByteArray} (hs : Sl H v 1 (l.map A6b)) (ha : Asc l) (hl : l.length ≤ 1048576) (hw : Wf H) :
  Sh.Call Tryz.prog (knows 7) 85 [v, .string x] H (fun r H' => Kept H H' ∧ ∃ k : Nat, r = .int .i64 (k : Int) ∧ k ≤ l.length ∧ (∀ (i : Nat) y, i < k → l[i]? = some y → A0b y x = true) ∧ (∀ (i : Nat) y, k ≤ i → l[i]? = some y → A0b y x = false)) := by
 refine A2a rfl Tryz.func85 rfl (Nat.le_of_ble_eq_true rfl) ?_
 have hres : Tryz.f85.results.toList = [.tmp 4] := rfl
 have hn1 := A4r (P := Tryz.prog) (H := H) (t := 22) A4w hs.isCell
 have hk1 := Kept.new hw 1 [v]
 have hO1 := Obj.new (H := H) 1 [v]
 have hn2 := A4r (P := Tryz.prog) (H := (H.new 1 [v]).2) (t := 9) (v := .string x) A1j rfl
 have hk2 := hk1.trans (Kept.new hk1.wf 1 [.string x])
 have hO2 := Obj.new (H := (H.new 1 [v]).2) 1 [.string x]
 have hO1' : Sh.Obj ((H.new 1 [v]).2.new 1 [.string x]).2 H.next 1 [v] true := by
  unfold Sh.Obj
  rw [B92 (by rw [new_nx]; omega)]
  exact hO1
 simp only [↓Sh.dn, sx, Nat.reduceEqDiff, hn1, hn2]
 have hx1 : (H.new 1 [v]).2.next = H.next + 1 := rfl
 rw [hx1] at hO2 ⊢
 generalize ((H.new 1 [v]).2.new 1 [.string x]).2 = H2 at hO1' hO2 hk2 ⊢
 have c1 : H2.cell ⟨H.next, 0, some 0⟩ = some v := hO1'.cell
 have c2 : H2.cell ⟨H.next + 1, 0, some 0⟩ = some (.string x) := hO2.cell
 have hs2 := hs.grow (hk2.grow hw)
 have hlen := hs2.len Tryz.underlying22 H2
 simp only [c1, hlen, List.length_map, sx]
 obtain ⟨r, H3, hd, rfl, k, rfl, hk, hlo, hhi⟩ := search (H := H2) (n := l.length) (caps := [.pointer (some ⟨H.next, 0, some 0⟩), .pointer (some ⟨H.next + 1, 0, some 0⟩)]) (fid := 105) (fun i => match l[i]? with | some y => !A0b y x | none => true) hl
  (fun i hi => by
   have hy : l[i]? = some (l[i]'hi) := List.getElem?_eq_getElem hi
   simp only [hy]
   exact searchAt c1 c2 hs2 hy hk2.wf)
  (fun a b hab hb => by
   have hya : l[a]? = some (l[a]'(by omega)) := List.getElem?_eq_getElem (by omega)
   have hyb : l[b]? = some (l[b]'hb) := List.getElem?_eq_getElem hb
   simp only [hya, hyb, Bool.not_eq_true']
   intro h
   rcases Nat.lt_or_ge a b with hlt | hge
   ·cases h2 : A0b l[b] x with
    | false => rfl
    | true => rw [A0n (ha a b _ _ hlt hya hyb) h2] at h; cases h
   ·have : a = b := by omega
    subst this
    exact h) hk2.wf
 refine ⟨_, _, hd, ?_⟩
 simp only [sx, hres]
 refine ⟨hk2, k, rfl, hk, fun i y hi hy => ?_, fun i y hi hy => ?_⟩
 ·have := hlo i hi
  simpa [hy] using this
 ·have hil := (List.getElem?_eq_some_iff.1 hy).1
  have := hhi i hi hil
  simpa [hy] using this
end Go.Proofs.YtcgbiedfbacgpaaGreat
/- Whether a text is in an ascending list. -/
namespace Go.Proofs.YtcgbiedfbacgpaaGreat
open Go Go.Proofs Go.Proofs.Sh
theorem isIn {H : AH} {v : Value} {x : ByteArray} {l : List ByteArray} (hs : Sl H v 1 (l.map A6b)) (ha : Asc l) (hl : l.length ≤ 1048576) (hw : Wf H) :
  Sh.Call Tryz.prog (knows 7) 47 [v, .string x] H (fun r H' => Kept H H' ∧ r = .bool (A7r l x)) := by
 refine A2a rfl Tryz.func47 rfl (Nat.le_of_ble_eq_true rfl) ?_
 have hres : Tryz.f47.results.toList = [.tmp 4] := rfl
 obtain ⟨r, H1, hd, hk1, k, rfl, hk, hlo, hhi⟩ := B8q hs ha hl hw (x := x)
 have hp := B5y ha x hlo hhi
 simp only [↓Sh.dn, sx, reduceCtorEq, Nat.reduceEqDiff]
 refine ⟨_, _, hd, ?_⟩
 have hs1 := hs.grow (hk1.grow hw)
 have hlen := hs1.len Tryz.underlying22 H1
 by_cases hlt : k < l.length
 ·have hy : l[k]? = some (l[k]'hlt) := List.getElem?_eq_getElem hlt
  obtain ⟨g, o, kk, hia, hc, hcc⟩ := hs1.at Tryz.underlying22 A1j (i := k) (x := A6b l[k]) (by simp [hlt]) .i64
  have hyc := hcc 0 _ rfl
  simp only [Nat.add_zero] at hyc
  simp only [↓Sh.dn, sx, reduceCtorEq, Nat.reduceEqDiff, hlen, List.length_map, A1a, hlt, decide_true, hia, hyc, hres]
  refine ⟨hk1, ?_⟩
  have : decide (l[k] = x) = A7r l x := by
   rw [Bool.eq_iff_iff, decide_eq_true_eq, A0j, ← hp, hy, Option.some.injEq]
  rw [this]
 ·simp only [↓Sh.dn, sx, Nat.reduceEqDiff, hlen, List.length_map, A1a, hlt, decide_false, hres]
  refine ⟨hk1, ?_⟩
  have : A7r l x = false := by
   cases h : A7r l x with
   | false => rfl
   | true =>
    have := hp.2 (A0j.1 h)
    rw [List.getElem?_eq_none (by omega)] at this; cases this
  rw [this]
end Go.Proofs.YtcgbiedfbacgpaaGreat
/- What is wrong with a net of any kind, by the reference. -/
namespace Go.Proofs.YtcgbiedfbacgpaaGreat
open Go Go.Proofs Go.Proofs.Sh
def A8i (N : NetD) (s : ByteArray) : Bool := !decide (s = ⟨#[]⟩) && !A7r N.sigma s
def A2h (N : NetD) (a : ArcD) : Bool := decide (a.fr < 0) || decide (N.states ≤ a.fr) || decide (a.to < 0) || decide (N.states ≤ a.to) || A8i N a.inn || A8i N a.out
def A6q (N : NetD) (e : EndD) : Bool := decide (e.state < 0) || decide (N.states ≤ e.state)
def A6m (N : NetD) : Bool := decide (3000 < N.states) || decide (60000 < N.arcs.length) || decide (60000 < N.ends.length)
def A5g (N : NetD) : Int := if A6m N = true then 3 else if A9j N.sigma ≠ 0 then A9j N.sigma else if N.states < 1 then 1 else if N.arcs.any (A2h N) = true then 1 else if N.ends.any (A6q N) = true then 1 else 0
theorem A27 {l : List ByteArray} (h : A9j l = 0) : Asc l := by
 unfold A9j at h
 split at h
 ·cases h
 ·split at h
  ·rename_i h1
   simp only [Bool.and_eq_true] at h1
   exact asc_of h1.2
  ·cases h
theorem B87 {H : AH} {v : Value} {N : NetD} (h : A11 H v N) (hsm : A7l N) (hw : Wf H) :
  Sh.Call Tryz.prog (knows 7) 50 [v] H (fun r H' => Kept H H' ∧ r = .int .i64 (A5g N)) := by
 refine A2a rfl Tryz.func50 rfl (Nat.le_of_ble_eq_true rfl) ?_
 have hres : Tryz.f50.results.toList = [.tmp 2] := rfl
 obtain ⟨sg, ar, en, rfl, hsg, har, hen⟩ := h
 have hb1 := NetBox.of (N := N) hw hsg har hen
 have hk1 : Kept H (H.new 4 [sg, .int .i64 N.states, ar, en]).2 := Kept.new hw 4 _
 have eA : decide ((60000 : Int) < (N.arcs.length : Int)) = decide (60000 < N.arcs.length) := decide_eq_decide.2 (by omega)
 have eE : decide ((60000 : Int) < (N.ends.length : Int)) = decide (60000 < N.ends.length) := decide_eq_decide.2 (by omega)
 simp only [↓Sh.dn, sx, Nat.reduceEqDiff, A5x hsg.isCell har.isCell hen.isCell]
 generalize hg : H.next = gg at hb1 ⊢
 generalize (H.new 4 [sg, .int .i64 N.states, ar, en]).2 = H1 at hb1 hk1 ⊢
 simp only [sx, hb1.c1]
 by_cases hA : 3000 < N.states
 ·simp only [↓Sh.dn, sx, Nat.reduceEqDiff, hA, decide_true, hres, A5g, A6m, hk1]
 by_cases hB : 60000 < N.arcs.length
 ·simp only [↓Sh.dn, sx, Nat.reduceEqDiff, hb1.c2, A2m hb1, hA, eA, hB, decide_true, decide_false, hres, A5g, A6m, hk1]
 by_cases hC : 60000 < N.ends.length
 ·simp only [↓Sh.dn, sx, Nat.reduceEqDiff, hb1.c2, hb1.c3, A2m hb1, A1r hb1, hA, eA, eE, hB, hC, decide_true, decide_false, hres, A5g, A6m, hk1]
 have hT : A6m N = false := by simp [A6m, hA, hB, hC]
 simp only [↓Sh.dn, sx, Nat.reduceEqDiff, hb1.c0, hb1.c2, hb1.c3, A2m hb1, A1r hb1, hA, eA, eE, hB, hC, decide_false, hres]
 obtain ⟨r, H2, hd, hk2, rfl⟩ := refSigma hb1.hsg hsm.sg hsm.sx hk1.wf
 refine ⟨_, _, hd, ?_⟩
 have hb2 := hb1.kept hk1.wf hk2
 have hk12 := hk1.trans hk2
 by_cases hS : A9j N.sigma = 0
 case neg => simp only [↓Sh.dn, sx, Nat.reduceEqDiff, hS, decide_false, A5g, hT, hk12]
 have hasc := A27 hS
 simp only [↓Sh.dn, sx, Nat.reduceEqDiff, hS, decide_true, hb2.c1]
 by_cases hst : N.states < 1
 ·simp only [↓Sh.dn, sx, hst, decide_true, A5g, hT, hS, hk12]
 simp only [↓Sh.dn, sx, hst, decide_false]
 have e1 : N.arcs.any (A2h N) = true → A5g N = 1 := by intro h; simp [A5g, hT, hS, hst, h]
 have e2 : N.ends.any (A6q N) = true → A5g N = 1 := by intro h; simp [A5g, hT, hS, hst, h]
 have e3 : N.arcs.any (A2h N) = false → N.ends.any (A6q N) = false → A5g N = 0 := by intro h h'; simp [A5g, hT, hS, hst, h, h']
 refine A1d N.arcs.length 4 (List.range' 4 87 ++ [2]) (fun i F H' => Kept H2 H' ∧ (N.arcs.take i).any (A2h N) = false) (by simp only [sx]) ⟨Kept.refl hk12.wf, rfl⟩ ?_ ?_
 ·rintro i F H' hlt hF f4 ⟨hk, hall⟩ k
  have f1 := hF 1 rfl
  simp only [sx, Nat.reduceEqDiff] at f1
  have hb' := hb2.kept hk12.wf hk
  have hb3 := hb'.new hk.wf 5 (N.arcs[i].cells)
  have hk3 := hk.news 5 (N.arcs[i].cells)
  obtain ⟨g, o, kk, hia, hc, hcc⟩ := hb'.har.at Tryz.underlying23 A9o (i := i) (x := N.arcs[i].cells) (by simp [hlt]) .i64
  clear hcc
  have hin : N.arcs[i] ∈ N.arcs := List.getElem_mem hlt
  have hnext : A2h N N.arcs[i] = false → (N.arcs.take (i + 1)).any (A2h N) = false := by
   intro h
   rw [List.take_add_one, List.getElem?_eq_getElem hlt]
   simp only [Option.toList, List.any_append, hall, List.any_cons, List.any_nil, h, Bool.or_false]
  have hbad : A2h N N.arcs[i] = true → A5g N = 1 := fun h => e1 (List.any_eq_true.2 ⟨_, hin, h⟩)
  generalize N.arcs[i] = a at hb3 hk3 hc hnext hbad
  have hi2 := isIn (x := a.inn) hb3.hsg hasc hsm.sg hk3.wf
  simp only [↓Sh.dn, sx, Nat.reduceEqDiff, hb'.c2, A2m hb', B5g, A73, B6e, arc0, f1, f4, A1a, hlt, decide_true, hia, hc]
  by_cases h1 : a.fr < 0
  ·simp only [↓Sh.dn, sx, Nat.reduceEqDiff, h1, decide_true, hbad (by simp [A2h, h1]), hk12.trans hk3]
  simp only [↓Sh.dn, sx, Nat.reduceEqDiff, hb3.c1, arc0, f1, h1, decide_false]
  by_cases h2 : N.states ≤ a.fr
  ·simp only [↓Sh.dn, sx, Nat.reduceEqDiff, h2, decide_true, hbad (by simp [A2h, h2]), hk12.trans hk3]
  simp only [↓Sh.dn, sx, Nat.reduceEqDiff, arc3, h2, decide_false]
  by_cases h3 : a.to < 0
  ·simp only [↓Sh.dn, sx, Nat.reduceEqDiff, h3, decide_true, hbad (by simp [A2h, h3]), hk12.trans hk3]
  simp only [↓Sh.dn, sx, Nat.reduceEqDiff, hb3.c1, arc3, f1, h3, decide_false]
  by_cases h4 : N.states ≤ a.to
  ·simp only [↓Sh.dn, sx, Nat.reduceEqDiff, h4, decide_true, hbad (by simp [A2h, h4]), hk12.trans hk3]
  simp only [↓Sh.dn, sx, Nat.reduceEqDiff, arc1, h4, decide_false]
  have hgo : A8i N a.inn = false → A8i N a.out = false → A2h N a = false := by intro h h'; simp [A2h, h1, h2, h3, h4, h, h']
  have hout : ∀ (H4 : AH) (F4 : Fr), Kept (H'.new 5 a.cells).2 H4 → A8i N a.inn = false → True := fun _ _ _ _ => trivial
  by_cases h5 : a.inn = ⟨#[]⟩
  ·have hI : A8i N a.inn = false := by simp [A8i, h5]
   simp only [↓Sh.dn, sx, Nat.reduceEqDiff, arc2, h5, decide_true]
   by_cases h6 : a.out = ⟨#[]⟩
   ·have hO : A8i N a.out = false := by simp [A8i, h6]
    simp only [↓Sh.dn, sx, Nat.reduceEqDiff, f4, h6, decide_true, wrap_succ hlt hsm.ar]
    exact k _ _ (by repeat (first | refine Same.put ?_ rfl | exact Same.rfl' _)) (by simp only [sx]) ⟨hk3, hnext (hgo hI hO)⟩
   ·obtain ⟨r, H4, hd4, hk4, rfl⟩ := isIn (x := a.out) hb3.hsg hasc hsm.sg hk3.wf
    simp only [↓Sh.dn, sx, Nat.reduceEqDiff, hb3.c0, arc2, f1, h6, decide_false]
    refine ⟨_, _, hd4, ?_⟩
    cases h7 : A7r N.sigma a.out with
    | true =>
     have hO : A8i N a.out = false := by simp [A8i, h7]
     simp only [↓Sh.dn, sx, Nat.reduceEqDiff, f4, wrap_succ hlt hsm.ar]
     exact k _ _ (by repeat (first | refine Same.put ?_ rfl | exact Same.rfl' _)) (by simp only [sx]) ⟨hk3.trans hk4, hnext (hgo hI hO)⟩
    | false =>
     simp only [↓Sh.dn, sx, hbad (by simp [A2h, A8i, h6, h7]), (hk12.trans hk3).trans hk4]
  ·obtain ⟨r, H4, hd4, hk4, rfl⟩ := isIn (x := a.inn) hb3.hsg hasc hsm.sg hk3.wf
   simp only [↓Sh.dn, sx, Nat.reduceEqDiff, hb3.c0, arc1, f1, h5, decide_false]
   refine ⟨_, _, hd4, ?_⟩
   have hb4 := hb3.kept hk3.wf hk4
   have q2 := A7b (hk4.grow hk3.wf) (arc2 (H := H') (a := a))
   cases h7 : A7r N.sigma a.inn with
   | false =>
    simp only [↓Sh.dn, sx, Nat.reduceEqDiff, hbad (by simp [A2h, A8i, h5, h7]), (hk12.trans hk3).trans hk4]
   | true =>
    have hI : A8i N a.inn = false := by simp [A8i, h7]
    simp only [↓Sh.dn, sx, Nat.reduceEqDiff, q2]
    by_cases h6 : a.out = ⟨#[]⟩
    ·have hO : A8i N a.out = false := by simp [A8i, h6]
     simp only [↓Sh.dn, sx, Nat.reduceEqDiff, f4, h6, decide_true, wrap_succ hlt hsm.ar]
     exact k _ _ (by repeat (first | refine Same.put ?_ rfl | exact Same.rfl' _)) (by simp only [sx]) ⟨hk3.trans hk4, hnext (hgo hI hO)⟩
    ·obtain ⟨r, H5, hd5, hk5, rfl⟩ := isIn (x := a.out) hb4.hsg hasc hsm.sg hk4.wf
     simp only [↓Sh.dn, sx, Nat.reduceEqDiff, hb4.c0, q2, f1, h6, decide_false]
     refine ⟨_, _, hd5, ?_⟩
     cases h8 : A7r N.sigma a.out with
     | true =>
      have hO : A8i N a.out = false := by simp [A8i, h8]
      simp only [↓Sh.dn, sx, Nat.reduceEqDiff, f4, wrap_succ hlt hsm.ar]
      exact k _ _ (by repeat (first | refine Same.put ?_ rfl | exact Same.rfl' _)) (by simp only [sx]) ⟨(hk3.trans hk4).trans hk5, hnext (hgo hI hO)⟩
     | false =>
      simp only [↓Sh.dn, sx, hbad (by simp [A2h, A8i, h6, h8]), ((hk12.trans hk3).trans hk4).trans hk5]
 ·rintro F H' hF f4 ⟨hk, hall⟩
  have f1 := hF 1 rfl
  simp only [sx, Nat.reduceEqDiff] at f1
  rw [List.take_length] at hall
  have hb' := hb2.kept hk12.wf hk
  have hkk := hk12.trans hk
  simp only [↓Sh.dn, sx, Nat.reduceEqDiff, hb'.c2, A2m hb', f1, f4, A1a, Nat.lt_irrefl, decide_false]
  refine A1d N.ends.length 6 (List.range' 91 26 ++ [2, 6]) (fun i F H'' => H'' = H' ∧ (N.ends.take i).any (A6q N) = false) (by simp only [sx]) ⟨rfl, rfl⟩ ?_ ?_
  ·rintro i F2 H'' hlt hF2 f6 ⟨rfl, hall2⟩ k
   have g1 := hF2 1 rfl
   simp only [sx, Nat.reduceEqDiff, f1] at g1
   obtain ⟨g, o, kk, hia, hc, hcc⟩ := hb'.hen.at Tryz.underlying24 A9t (i := i) (x := N.ends[i].cells) (by simp [hlt]) .i64
   have q0 := hcc 0 _ rfl
   simp only [Nat.add_zero] at q0
   have hbad : A6q N N.ends[i] = true → A5g N = 1 := fun h => e2 (List.any_eq_true.2 ⟨_, List.getElem_mem hlt, h⟩)
   simp only [↓Sh.dn, sx, Nat.reduceEqDiff, hb'.c3, A1r hb', g1, f6, A1a, hlt, decide_true, hia, q0]
   by_cases h1 : N.ends[i].state < 0
   ·simp only [↓Sh.dn, sx, Nat.reduceEqDiff, h1, decide_true, hbad (by simp [A6q, h1]), hkk]
   simp only [↓Sh.dn, sx, Nat.reduceEqDiff, hb'.c1, hb'.c3, g1, f6, hia, q0, h1, decide_false]
   by_cases h2 : N.states ≤ N.ends[i].state
   ·simp only [↓Sh.dn, sx, h2, decide_true, hbad (by simp [A6q, h2]), hkk]
   simp only [↓Sh.dn, sx, Nat.reduceEqDiff, f6, h2, decide_false, wrap_succ hlt hsm.en]
   refine k _ _ (by repeat (first | refine Same.put ?_ rfl | exact Same.rfl' _)) (by simp only [sx]) ⟨rfl, ?_⟩
   rw [List.take_add_one, List.getElem?_eq_getElem hlt]
   simp only [Option.toList, List.any_append, hall2, List.any_cons, List.any_nil, Bool.or_false, A6q, h1, h2, decide_false]
  ·rintro F2 H'' hF2 f6 ⟨rfl, hall2⟩
   have g1 := hF2 1 rfl
   simp only [sx, Nat.reduceEqDiff, f1] at g1
   rw [List.take_length] at hall2
   simp only [↓Sh.dn, sx, Nat.reduceEqDiff, hb'.c3, A1r hb', g1, f6, A1a, Nat.lt_irrefl, decide_false, e3 hall hall2, hkk]
end Go.Proofs.YtcgbiedfbacgpaaGreat
/- Whether nothing of a net costs. -/
namespace Go.Proofs.YtcgbiedfbacgpaaGreat
open Go Go.Proofs Go.Proofs.Sh
def NetD.free (N : NetD) : Bool := N.arcs.all (fun a => decide (a.cost = 0)) && N.ends.all (fun a => decide (a.cost = 0))
theorem isFree {H : AH} {v : Value} {N : NetD} (h : A11 H v N) (hw : Wf H) (hl : N.arcs.length ≤ 1048576) (hl2 : N.ends.length ≤ 1048576) : Sh.Call Tryz.prog (knows 7) 51 [v] H (fun r H' => r = .bool (NetD.free N) ∧ Kept H H') := by
 obtain ⟨sg, ar, en, rfl, hsg, har, hen⟩ := h
 refine A2a rfl Tryz.func51 rfl (Nat.le_of_ble_eq_true rfl) ?_
 have hn := A0r (P := Tryz.prog) (H := H) (t := 26) (vs := [sg, .int .i64 N.states, ar, en]) B19 rfl (by simp [hsg.isCell, har.isCell, hen.isCell, show isCell (.int .i64 N.states) = true from rfl])
 have hO := Obj.new (H := H) 4 [sg, .int .i64 N.states, ar, en]
 have hk : Kept H (H.new 4 [sg, .int .i64 N.states, ar, en]).2 := Kept.new hw 4 _
 simp only [↓Sh.dn, sx, hn]
 generalize (H.new 4 [sg, .int .i64 N.states, ar, en]).2 = H1 at hO hk ⊢
 have c2 : H1.cell ⟨H.next, 2, some 0⟩ = some ar := hO.cell
 have c3 : H1.cell ⟨H.next, 3, some 0⟩ = some en := hO.cell
 have har1 := har.grow (hk.grow hw)
 have hen1 := hen.grow (hk.grow hw)
 have l2 := har1.len Tryz.underlying23 H1
 have l3 := hen1.len Tryz.underlying24 H1
 have hres : Tryz.f51.results.toList = [.tmp 2] := rfl
 refine A1x N.arcs.length (fun i F H' => H' = H1 ∧ F.get 1 = some (.pointer (some ⟨H.next, 0, some 0⟩)) ∧ F.get 3 = some (.int .i64 (i : Int)) ∧ (N.arcs.take i).all (fun a => decide (a.cost = 0)) = true) (Nat.zero_le _) ⟨rfl, by simp only [sx, Nat.reduceEqDiff], by simp only [sx]; rfl, rfl⟩ ?_
 rintro i F H' hi ⟨rfl, f1, f3, hall⟩ k
 by_cases hlt : i < N.arcs.length
 ·have hx : (N.arcs.map ArcD.cells)[i]? = some (N.arcs[i].cells) := by simp [hlt]
  obtain ⟨g, o, kk, hia, hc, hcc⟩ := har1.at Tryz.underlying23 A9o hx .i64
  have hcost := hcc 4 _ rfl
  simp only [↓Sh.dn, sx, reduceCtorEq, Nat.reduceEqDiff, ↓Sh.wp_cond, f1, f3, c2, l2, hia, hcost, List.length_map, A1a, hlt, decide_true, reduceCtorEq, hres, resultsA, one]
  refine ⟨fun hne => ⟨?_, hk⟩, fun he => k _ _ hlt ⟨rfl, by simp only [sx, Nat.reduceEqDiff, f1], by simp only [sx, wrap_succ hlt hl], ?_⟩⟩
  ·have : NetD.free N = false := by
     simp only [NetD.free, Bool.and_eq_false_iff, List.all_eq_false]
     exact .inl ⟨_, List.getElem_mem hlt, by simpa using hne⟩
   rw [this]
  ·rw [List.take_add_one, List.getElem?_eq_getElem hlt]
   simp only [Option.toList, List.all_append, hall, Bool.true_and, List.all_cons, List.all_nil, Bool.and_true]
   simpa using he
 ·have hin : i = N.arcs.length := by omega
  subst hin
  rw [List.take_length] at hall
  simp only [↓Sh.dn, sx, Nat.reduceEqDiff, ↓Sh.wp_cond, f1, f3, c2, l2, List.length_map, A1a, hlt, decide_false]
  refine A1x N.ends.length (fun i F H'' => H'' = H' ∧ F.get 1 = some (.pointer (some ⟨H.next, 0, some 0⟩)) ∧ F.get 4 = some (.int .i64 (i : Int)) ∧ (N.ends.take i).all (fun a => decide (a.cost = 0)) = true) (Nat.zero_le _) ⟨rfl, by simp only [sx, Nat.reduceEqDiff, f1], by simp only [sx]; rfl, rfl⟩ ?_
  clear k
  rintro i F H'' hi ⟨rfl, f1, f4, hall2⟩ k
  by_cases hlt2 : i < N.ends.length
  ·have hx : (N.ends.map EndD.cells)[i]? = some (N.ends[i].cells) := by simp [hlt2]
   obtain ⟨g, o, kk, hia, hc, hcc⟩ := hen1.at Tryz.underlying24 A9t hx .i64
   have hcost := hcc 1 _ rfl
   simp only [↓Sh.dn, sx, reduceCtorEq, Nat.reduceEqDiff, ↓Sh.wp_cond, f1, f4, c3, l3, hia, hcost, List.length_map, A1a, hlt2, decide_true, reduceCtorEq, hres, resultsA, one]
   refine ⟨fun hne => ⟨?_, hk⟩, fun he => k _ _ hlt2 ⟨rfl, by simp only [sx, Nat.reduceEqDiff, f1], by simp only [sx, wrap_succ hlt2 hl2], ?_⟩⟩
   ·have : NetD.free N = false := by
      simp only [NetD.free, Bool.and_eq_false_iff, List.all_eq_false]
      exact .inr ⟨_, List.getElem_mem hlt2, by simpa using hne⟩
    rw [this]
   ·rw [List.take_add_one, List.getElem?_eq_getElem hlt2]
    simp only [Option.toList, List.all_append, hall2, Bool.true_and, List.all_cons, List.all_nil, Bool.and_true]
    simpa using he
  ·have hin : i = N.ends.length := by omega
   subst hin
   rw [List.take_length] at hall2
   simp only [↓Sh.dn, sx, Nat.reduceEqDiff, ↓Sh.wp_cond, f1, f4, c3, l3, List.length_map, A1a, hlt2, decide_false, hres, resultsA, one]
   refine ⟨?_, hk⟩
   rw [NetD.free, hall, hall2]
   rfl
end Go.Proofs.YtcgbiedfbacgpaaGreat
/- What is wrong with an acceptor, by the reference. -/
namespace Go.Proofs.YtcgbiedfbacgpaaGreat
open Go Go.Proofs Go.Proofs.Sh
def B0f (N : NetD) : Bool := N.arcs.any fun a => !decide (a.inn = a.out)
def A6n (N : NetD) : Int := if A5g N ≠ 0 then A5g N else if B0f N = true then 6 else if NetD.free N = true then 0 else 6
theorem B33 {H : AH} {v : Value} {N : NetD} (h : A11 H v N) (hsm : A7l N) (hw : Wf H) :
  Sh.Call Tryz.prog (knows 7) 23 [v] H (fun r H' => Kept H H' ∧ r = .int .i64 (A6n N)) := by
 refine A2a rfl Tryz.func23 rfl (Nat.le_of_ble_eq_true rfl) ?_
 have hres : Tryz.f23.results.toList = [.tmp 2] := rfl
 obtain ⟨sg, ar, en, rfl, hsg, har, hen⟩ := h
 have hb1 := NetBox.of (N := N) hw hsg har hen
 have hk1 : Kept H (H.new 4 [sg, .int .i64 N.states, ar, en]).2 := Kept.new hw 4 _
 simp only [↓Sh.dn, sx, Nat.reduceEqDiff, A5x hsg.isCell har.isCell hen.isCell]
 generalize H.next = gg at hb1 ⊢
 generalize (H.new 4 [sg, .int .i64 N.states, ar, en]).2 = H1 at hb1 hk1 ⊢
 simp only [sx, hb1.ca]
 obtain ⟨r, H2, hd, hk2, rfl⟩ := B87 hb1.netAt hsm hk1.wf
 refine ⟨_, _, hd, ?_⟩
 have hb2 := hb1.kept hk1.wf hk2
 have hk12 := hk1.trans hk2
 by_cases hE : A5g N = 0
 case neg => simp only [↓Sh.dn, sx, Nat.reduceEqDiff, hE, decide_false, hres, A6n, hk12]
 simp only [↓Sh.dn, sx, hE, decide_true]
 have e1 : B0f N = true → A6n N = 6 := by intro h; simp [A6n, hE, h]
 refine A1d N.arcs.length 4 (List.range' 4 26 ++ [2]) (fun i F H' => H' = H2 ∧ (N.arcs.take i).any (fun a => !decide (a.inn = a.out)) = false) (by simp only [sx]) ⟨rfl, rfl⟩ ?_ ?_
 ·rintro i F H' hlt hF f4 ⟨rfl, hall⟩ k
  have f1 := hF 1 rfl
  simp only [sx, Nat.reduceEqDiff] at f1
  obtain ⟨g, o, kk, hia, hc, hcc⟩ := hb2.har.at Tryz.underlying23 A9o (i := i) (x := N.arcs[i].cells) (by simp [hlt]) .i64
  have q1 := hcc 1 _ rfl
  have q2 := hcc 2 _ rfl
  simp only [↓Sh.dn, sx, Nat.reduceEqDiff, hb2.c2, A2m hb2, f1, f4, A1a, hlt, decide_true, hia, q1, q2]
  by_cases hx : N.arcs[i].inn = N.arcs[i].out
  ·simp only [↓Sh.dn, sx, Nat.reduceEqDiff, hx, decide_true, f4, wrap_succ hlt hsm.ar]
   refine k _ _ (by repeat (first | refine Same.put ?_ rfl | exact Same.rfl' _)) (by simp only [sx]) ⟨rfl, ?_⟩
   rw [List.take_add_one, List.getElem?_eq_getElem hlt]
   simp only [Option.toList, List.any_append, hall, List.any_cons, List.any_nil, hx, decide_true, Bool.not_true, Bool.or_false]
  ·simp only [↓Sh.dn, sx, hx, decide_false, hres, e1 (List.any_eq_true.2 ⟨_, List.getElem_mem hlt, by simp [hx]⟩), hk12]
 ·rintro F H' hF f4 ⟨rfl, hall⟩
  have f1 := hF 1 rfl
  simp only [sx, Nat.reduceEqDiff] at f1
  rw [List.take_length] at hall
  simp only [↓Sh.dn, sx, Nat.reduceEqDiff, hb2.c2, hb2.ca, A2m hb2, f1, f4, A1a, Nat.lt_irrefl, decide_false]
  obtain ⟨r, H3, hd3, rfl, hk3⟩ := isFree hb2.netAt hk12.wf hsm.ar hsm.en
  refine ⟨_, _, hd3, ?_⟩
  cases hf : NetD.free N with
  | true => simp only [↓Sh.dn, sx, hres, A6n, hE, B0f, hall, hf, hk12.trans hk3]
  | false => simp only [↓Sh.dn, sx, hres, A6n, hE, B0f, hall, hf, hk12.trans hk3]
end Go.Proofs.YtcgbiedfbacgpaaGreat
/- What a net is with which nothing is wrong. -/
namespace Go.Proofs.YtcgbiedfbacgpaaGreat
open Go Go.Proofs Go.Proofs.Sh
structure A5s (N : NetD) : Prop where
 st1 : 1 ≤ N.states
 st2 : N.states ≤ 3000
 ar : N.arcs.length ≤ 60000
 en : N.ends.length ≤ 60000
 sig : A9j N.sigma = 0
 asc : Asc N.sigma
 sym : ∀ x ∈ N.sigma, A6y x = true
 arc : ∀ a ∈ N.arcs, 0 ≤ a.fr ∧ a.fr < N.states ∧ 0 ≤ a.to ∧ a.to < N.states ∧ (a.inn = ⟨#[]⟩ ∨ a.inn ∈ N.sigma) ∧ (a.out = ⟨#[]⟩ ∨ a.out ∈ N.sigma)
 fin : ∀ e ∈ N.ends, 0 ≤ e.state ∧ e.state < N.states
theorem netOk {N : NetD} (h : A5g N = 0) : A5s N := by
 unfold A5g at h
 split at h
 ·cases h
 rename_i h1
 split at h
 ·rename_i h2; exact absurd h h2
 rename_i h2
 split at h
 ·cases h
 rename_i h3
 split at h
 ·cases h
 rename_i h4
 split at h
 ·cases h
 rename_i h5
 simp only [ne_eq, Decidable.not_not] at h2
 simp only [A6m, Bool.or_eq_true, decide_eq_true_eq, not_or, Int.not_lt, Nat.not_lt] at h1 h3
 have sy : ∀ x, A8i N x = false → x = ⟨#[]⟩ ∨ x ∈ N.sigma := by
  intro x hx
  simp only [A8i, Bool.and_eq_false_iff, Bool.not_eq_false', decide_eq_true_eq] at hx
  rcases hx with h | h
  ·exact .inl h
  ·exact .inr (A0j.1 h)
 have hsym : ∀ x ∈ N.sigma, A6y x = true := by
  have := h2
  unfold A9j at this
  split at this
  ·cases this
  split at this
  ·rename_i h6
   rw [Bool.and_eq_true] at h6
   exact List.all_eq_true.1 h6.1
  ·cases this
 refine ⟨h3, h1.1.1, h1.1.2, h1.2, h2, A27 h2, hsym, fun a ha => ?_, fun e he => ?_⟩
 ·have : ¬(A2h N a = true) := fun hb => h4 (List.any_eq_true.2 ⟨a, ha, hb⟩)
  simp only [A2h, Bool.or_eq_true, decide_eq_true_eq, not_or, Int.not_lt, Int.not_le, Bool.not_eq_true] at this
  obtain ⟨⟨⟨⟨⟨k1, k2⟩, k3⟩, k4⟩, k5⟩, k6⟩ := this
  exact ⟨k1, k2, k3, k4, sy _ k5, sy _ k6⟩
 ·have : ¬(A6q N e = true) := fun hb => h5 (List.any_eq_true.2 ⟨e, he, hb⟩)
  simp only [A6q, Bool.or_eq_true, decide_eq_true_eq, not_or, Int.not_lt, Int.not_le] at this
  exact this
end Go.Proofs.YtcgbiedfbacgpaaGreat
/- slices.Clone. -/
namespace Go.Proofs.YtcgbiedfbacgpaaGreat
open Go Go.Proofs Go.Proofs.Sh
theorem B38 {H : AH} {v : Value} {l : List (List Value)} (hs : Sl H v 1 l) (hl : l.length ≤ 1073741823) (hw : Wf H) :
  Sh.Call Tryz.prog (knows 7) 80 [v] H (fun r H' => Kept H H' ∧ ∃ b, Buf H' 1 r l b ∧ ∀ g, b = some g → H.next ≤ g) := by
 refine A2a rfl Tryz.func80 rfl (Nat.le_of_ble_eq_true rfl) ?_
 have hres : Tryz.f80.results.toList = [.tmp 2] := rfl
 obtain ⟨a, cap, rfl, h2, h3, h4⟩ := id hs
 cases a with
 | none =>
  obtain ⟨rfl, rfl⟩ := h3 rfl
  simp only [↓Sh.dn, sx, reduceCtorEq, List.length_nil, Option.isNone_none, hres]
  exact ⟨Kept.refl hw, none, .void none, fun g h => by cases h⟩
 | some a =>
  have hs1 := hs.grow (HGrow.new hw 1 [])
  have hk1 : Kept H (H.new 1 []).2 := Kept.new hw 1 []
  obtain ⟨v', H', b', e1, e2, e3, e4⟩ := (Buf.void (H := (H.new 1 []).2) (s := 1) (some ⟨H.next, 0, some 0⟩)).append hk1.wf h2
  have happ := C6t (base := some ⟨H.next, 0, some 0⟩) (len := 0) (cap := 0) (hs1.srcKind Tryz.underlying22) hs1.newCells (by omega)
  have hk2 : Kept (H.new 1 []).2 H' := e3.kept fun g hg h => by cases h
  simp only [↓Sh.dn, sx, reduceCtorEq, Nat.reduceEqDiff, Option.isNone_some, happ, e1, hres]
  refine ⟨hk1.trans hk2, b', by simpa using e2, fun g hg => ?_⟩
  rcases e4 with rfl | ⟨rfl, _⟩
  ·cases hg
  ·cases hg; exact Nat.le_succ _
theorem cloneStr {H : AH} {v : Value} {l : List (List Value)} (hs : Sl H v 1 l) (hl : l.length ≤ 1048576) (hw : Wf H) :
  Sh.Call Tryz.prog (knows 7) 80 [v] H (fun r H' => Kept H H' ∧ ∃ b, Buf H' 1 r l b ∧ ∀ g, b = some g → H.next ≤ g) := B38 hs (Nat.le_trans hl (by decide)) hw
end Go.Proofs.YtcgbiedfbacgpaaGreat
/- graph.New. -/
namespace Go.Proofs.YtcgbiedfbacgpaaGreat
open Go Go.Proofs Go.Proofs.Sh
theorem objNew {H : AH} {s : Nat} {vals : List Value} (h : veqs vals vals = true) : ∀ x, (H.new s vals).2.objs.get H.next = some x → B7a x x = true := by
 intro x hx
 have := Obj.new (H := H) s vals
 unfold Obj at this
 rw [this] at hx
 injection hx with hx
 subst hx
 simp [B7a, rowEq, h]
theorem B12 {H : AH} {n : Nat} {z : Value} (hz : veq z z = true) : ∀ x, (H.new 1 (List.replicate n z)).2.objs.get H.next = some x → B7a x x = true :=
 objNew (B4g fun x hx => by rw [(List.mem_replicate.1 hx).2]; exact hz)
theorem B0r {H : AH} {v : Value} {l : List ByteArray} {n : Nat} (hs : Sl H v 1 (l.map A6b)) (hl : l.length ≤ 1048576) (hn : n ≤ 1048576) (hw : Wf H) :
  Sh.Call Tryz.prog (knows 7) 39 [v, .int .i64 (n : Int)] H (fun r H' => Kept H H' ∧ ∃ g, r = .pointer (some ⟨g, 0, some 0⟩) ∧ Gr H' H.next g l (List.replicate n []) (List.replicate n 0) (List.replicate n 0)) := by
 refine A2a rfl Tryz.func39 rfl (Nat.le_of_ble_eq_true rfl) ?_
 have hres : Tryz.f39.results.toList = [.tmp 4] := rfl
 have m1 := mk_68 (H := H) (l := n) (c := n) (Nat.le_refl _) (by omega)
 obtain ⟨K1, hK1⟩ : ∃ K, (H.new 1 (List.replicate n (.slice none 0 0))).2 = K := ⟨_, rfl⟩
 have k1 := Kept.new hw 1 (List.replicate n (.slice none 0 0))
 have jg := Jag.make hw 4 (n := n) (by omega)
 rw [hK1] at m1 k1 jg
 have m2 := mk_69 (H := K1) (l := n) (c := n) (Nat.le_refl _) (by omega)
 have k2 := Kept.new k1.wf 1 (List.replicate n (.int .i64 0))
 have f2 := Buf.fill k1.wf (.int .i64 0) (c := n) (by omega)
 obtain ⟨K2, hK2⟩ : ∃ K, (K1.new 1 (List.replicate n (.int .i64 0))).2 = K := ⟨_, rfl⟩
 rw [hK2] at m2 k2 f2
 have m3 := mk_69 (H := K2) (l := n) (c := n) (Nat.le_refl _) (by omega)
 have k3 := Kept.new k2.wf 1 (List.replicate n (.int .i64 0))
 have f3 := Buf.fill k2.wf (.int .i64 0) (c := n) (by omega)
 obtain ⟨K3, hK3⟩ : ∃ K, (K2.new 1 (List.replicate n (.int .i64 0))).2 = K := ⟨_, rfl⟩
 rw [hK3] at m3 k3 f3
 have x1 : H.next < K1.next := by rw [← hK1]; exact Nat.lt_succ_self _
 have x2 : K1.next < K2.next := by rw [← hK2]; exact Nat.lt_succ_self _
 have x3 : K2.next < K3.next := by rw [← hK3]; exact Nat.lt_succ_self _
 have k123 := (k1.trans k2).trans k3
 obtain ⟨r, H1, hd, hk, b, hb, hf⟩ := cloneStr (hs.grow (k123.grow hw)) (by simpa using hl) k123.wf
 have o1 := B12 (H := H) (n := n) (z := .slice none 0 0) rfl
 have o2 := B12 (H := K1) (n := n) (z := .int .i64 0) A1y
 have o3 := B12 (H := K2) (n := n) (z := .int .i64 0) A1y
 rw [hK1] at o1; rw [hK2] at o2; rw [hK3] at o3
 simp only [↓Sh.wp_seq]
 simp only [↓Sh.dn, sx]
 refine C8h (fl := [(0, true), (2, true), (3, false), (4, true), (5, false), (6, true), (7, false), (1, false), (8, true), (9, false), (10, true)]) (by kernel_rfl) (by kernel_rfl) hw ?_
 simp only [↓Sh.dn, sx, reduceCtorEq, Nat.reduceEqDiff, wpg, Still, isEff, A5e, isRead, forall_eq', m1, m2, m3]
 refine ⟨o1, o2, o3, _, _, hd, hk.wf, hk.grow k123.wf, ?_⟩
 have nw : ∀ (H : AH) (a b c d : Value), isCell a = true → isCell b = true → isCell c = true → isCell d = true → anew Tryz.prog 71 H (.agg #[a, b, c, d]) = some (.pointer (some ⟨H.next, 0, some 0⟩), (H.new 4 [a, b, c, d]).2) :=
  fun H a b c d ha hb hc hd => A0r C8q rfl (by simp [ha, hb, hc, hd])
 have bl : ∀ a b c d : Value, isCell a = true → isCell b = true → isCell c = true → isCell d = true → A6t Tryz.prog 71 [(0, a), (1, b), (2, c), (3, d)] = some (.agg #[a, b, c, d]) := by
  intro a b c d ha hb hc hd
  have va : ∀ xs : Array Value, A6a (.agg xs) = xs.toList := fun _ => rfl
  refine A9q (pl := [(0, 1), (1, 1), (2, 1), (3, 1)]) Tryz.underlying71 B98 (by kernel_rfl) ?_
  simp [A62, A0c ha, A0c hb, A0c hc, A0c hd, va, ha, hb, hc, hd, setCells, A3c]
 have cr := hb.isCell
 have q := nw H1 r (.slice (some ⟨H.next, 0, some 0⟩) n n) (.slice (some ⟨K1.next, 0, some 0⟩) n n) (.slice (some ⟨K2.next, 0, some 0⟩) n n) cr rfl rfl rfl
 have oq := Obj.new (H := H1) 4 [r, .slice (some ⟨H.next, 0, some 0⟩) n n, .slice (some ⟨K1.next, 0, some 0⟩) n n, .slice (some ⟨K2.next, 0, some 0⟩) n n]
 have ee : veqs [r, .slice (some ⟨H.next, 0, some 0⟩) n n, .slice (some ⟨K1.next, 0, some 0⟩) n n, .slice (some ⟨K2.next, 0, some 0⟩) n n] [r, .slice (some ⟨H.next, 0, some 0⟩) n n, .slice (some ⟨K1.next, 0, some 0⟩) n n, .slice (some ⟨K2.next, 0, some 0⟩) n n] = true := by
  refine B4g fun x hx => ?_
  simp only [List.mem_cons, List.not_mem_nil, or_false] at hx
  rcases hx with rfl | rfl | rfl | rfl
  ·exact hb.toSl.veq
  ·exact A3s
  ·exact A3s
  ·exact A3s
 have o4 := objNew (H := H1) (s := 4) ee
 have k4 := Kept.new hk.wf 4 [r, .slice (some ⟨H.next, 0, some 0⟩) n n, .slice (some ⟨K1.next, 0, some 0⟩) n n, .slice (some ⟨K2.next, 0, some 0⟩) n n]
 have bq := bl r (.slice (some ⟨H.next, 0, some 0⟩) n n) (.slice (some ⟨K1.next, 0, some 0⟩) n n) (.slice (some ⟨K2.next, 0, some 0⟩) n n) cr rfl rfl rfl
 simp only [sx, bq, q, hres]
 have hbs : ∀ g, b = some g → K3.next ≤ g := hf
 have if1 : ∀ {m y : Nat}, (if n = 0 then none else some m) = some y → y = m := by
  intro m y h
  by_cases hn0 : n = 0
  ·rw [if_pos hn0] at h; cases h
  ·rw [if_neg hn0] at h; exact (Option.some.inj h).symm
 have jin : ∀ y, JIn (if n = 0 then none else some H.next) (List.replicate n none) y → y = H.next := by
  rintro y (h | ⟨i, h⟩)
  ·exact if1 h
  ·rw [List.getElem?_replicate] at h
   split at h <;> cases h
 have hn := hk.next
 have c1 := (((jg.kept k1.wf k2).kept k2.wf k3).kept k3.wf hk).kept hk.wf k4
 have c2 := ((f2.kept k2.wf k3).kept k3.wf hk).kept hk.wf k4
 have c3 := (f3.kept k3.wf hk).kept hk.wf k4
 have rp : ∀ m : Int, (List.replicate n m).map intC = List.replicate n [.int .i64 m] := fun m => by simp [intC]
 have hlt := fun y (h : b = some y) => hb.lt hk.wf y h
 refine ⟨o4, k123.trans (hk.trans k4), _, rfl, _, _, _, _, b, _, _, _, _, _, ⟨oq.arr, hb.kept hk.wf k4, c1, by rw [rp]; exact c2, by rw [rp]; exact c3, ?_, ?_, ?_, ?_, ?_, ?_, ?_, ?_, ?_, ?_, ?_, ?_, ?_, ?_, ?_⟩⟩
 ·omega
 ·intro y h; have := hbs y h; omega
 ·intro y h; rw [jin y h]; exact Nat.le_refl _
 ·intro y h; rw [if1 h]; omega
 ·intro y h; rw [if1 h]; omega
 ·intro h; have := hlt _ h; omega
 ·intro h; have := jin _ h; omega
 ·intro h; have := if1 h; omega
 ·intro h; have := if1 h; omega
 ·intro y h h2; have := hbs y h; have := jin y h2; omega
 ·intro y h h2; have := hbs y h; have := if1 h2; omega
 ·intro y h h2; have := hbs y h; have := if1 h2; omega
 ·intro y h h2; have := if1 h; have := jin y h2; omega
 ·intro y h h2; have := if1 h; have := jin y h2; omega
 ·intro y h h2; have := if1 h; have := if1 h2; omega
end Go.Proofs.YtcgbiedfbacgpaaGreat
/- The reference's graph: made of a net. -/
namespace Go.Proofs.YtcgbiedfbacgpaaGreat
open Go Go.Proofs Go.Proofs.Sh
theorem rgZero {H : AH} : anew Tryz.prog 60 H (.agg #[.int .i64 0, .slice none 0 0, .slice none 0 0]) = some (.pointer (some ⟨H.next, 0, some 0⟩), (H.new 3 [.int .i64 0, .slice none 0 0, .slice none 0 0]).2) := A0r (vs := [.int .i64 0, .slice none 0 0, .slice none 0 0]) B3i rfl rfl
theorem B2u {H : AH} {ev bv : Value} (he : isCell ev = true) (hb : isCell bv = true) : anew Tryz.prog 60 H (.agg #[.int .i64 0, ev, bv]) = some (.pointer (some ⟨H.next, 0, some 0⟩), (H.new 3 [.int .i64 0, ev, bv]).2) :=
 A0r (vs := [.int .i64 0, ev, bv]) B3i rfl (by simp [he, hb, show isCell (.int .i64 0) = true from rfl])
theorem C1w {H : AH} {ev bv : Value} {p : Addr} (he : isCell ev = true) (hb : isCell bv = true) : A8e Tryz.prog 60 H (.agg #[.int .i64 0, ev, bv]) (.pointer (some p)) = H.write p [.int .i64 0, ev, bv] :=
 A6x (vs := [.int .i64 0, ev, bv]) B3i rfl (by simp [he, hb, show isCell (.int .i64 0) = true from rfl])
theorem rgOver {H : AH} {a b c x y z : Value} : (H.new 3 [a, b, c]).2.write ⟨H.next, 0, some 0⟩ [x, y, z] = some (H.new 3 [x, y, z]).2 := A4o rfl
theorem C5b {H : AH} : anew Tryz.prog 99 H (.agg #[.string ⟨#[]⟩, .int .i64 0]) = some (.pointer (some ⟨H.next, 0, some 0⟩), (H.new 2 [.string ⟨#[]⟩, .int .i64 0]).2) := A0r (vs := [.string ⟨#[]⟩, .int .i64 0]) A4s rfl rfl
theorem B1r {H : AH} {e : ByteArray × Nat} {p : Addr} : A8e Tryz.prog 99 H (.agg (A4h e).toArray) (.pointer (some p)) = H.write p (A4h e) := A6x A4s rfl rfl
theorem C1g {H : AH} {e : ByteArray × Nat} {x0 x1 : Value} : (H.new 2 [x0, x1]).2.write ⟨H.next, 0, some 0⟩ (A4h e) = some (H.new 2 (A4h e)).2 := A4o rfl
theorem re0 {H : AH} {e : ByteArray × Nat} : (H.new 2 (A4h e)).2.cell ⟨H.next, 0, some 0⟩ = some (.string e.1) := A6l _ _ _
theorem re1 {H : AH} {e : ByteArray × Nat} : (H.new 2 (A4h e)).2.cell ⟨H.next, 1, some 0⟩ = some (.int .i64 (e.2 : Int)) := A6l _ _ _
theorem rgOut {H : AH} (hw : Wf H) {ev bv : Value} {g : Nat} (x y z : Value) (h : Sh.Obj H g 3 [x, y, z] true) (he : isCell ev = true) (hb : isCell bv = true) : ∃ H', A8e Tryz.prog 60 H (.agg #[.int .i64 0, ev, bv]) (.pointer (some ⟨g, 0, some 0⟩)) = some H' ∧ Sh.Obj H' g 3 [.int .i64 0, ev, bv] true ∧ Chg (fun y => y = g) H H' := by
 obtain ⟨H', h1, h2, h3, h4⟩ := h.arr.write hw (i := 0) (vs := [.int .i64 0, ev, bv]) (by simp)
 have ho : Sh.Obj H' g 3 [.int .i64 0, ev, bv] true := by
  obtain ⟨H2, k1, k2, _⟩ := Sh.Obj.write h (i := 0) (vs := [.int .i64 0, ev, bv]) (by simp)
  rw [h1] at k1
  injection k1 with k1
  subst k1
  exact k2
 exact ⟨H', by rw [C1w he hb]; exact h1, ho, h4.weak fun _ h => h⟩
theorem newGraph {H : AH} {n : Nat} (hn : n ≤ 1048576) (hw : Wf H) :
  Sh.Call Tryz.prog (knows 7) 59 [.int .i64 (n : Int)] H (fun r H' => Kept H H' ∧ ∃ ev bv, r = .agg #[.int .i64 0, ev, bv] ∧ ∃ g1, H.next ≤ g1 ∧ ∃ g2, g1 < g2 ∧ Jag H' ev (if n = 0 then none else some g1) 2 (List.replicate n (.slice none 0 0)) (List.replicate n []) (List.replicate n none) ∧ Buf H' 1 bv (List.replicate n [.bool false]) (if n = 0 then none else some g2)) := by
 refine A2a rfl Tryz.func59 rfl (Nat.le_of_ble_eq_true rfl) ?_
 have hres : Tryz.f59.results.toList = [.cell 2 60] := rfl
 simp only [↓Sh.dn, sx, rgZero]
 have k0 := Kept.new hw 3 [.int .i64 0, .slice none 0 0, .slice none 0 0]
 have o0 := Sh.Obj.new (H := H) 3 [.int .i64 0, .slice none 0 0, .slice none 0 0]
 have x0 : H.next < (H.new 3 [.int .i64 0, .slice none 0 0, .slice none 0 0]).2.next := Nat.lt_succ_self _
 generalize (H.new 3 [.int .i64 0, .slice none 0 0, .slice none 0 0]).2 = H0 at k0 o0 x0 ⊢
 have m1 := mk_57 (H := H0) (l := n) (c := n) (Nat.le_refl _) (by omega)
 have k1 := Kept.new k0.wf 1 (List.replicate n (.slice none 0 0))
 have jg := Jag.make k0.wf 2 (n := n) (by omega)
 have o1 := B12 (H := H0) (n := n) (z := .slice none 0 0) rfl
 have x1 : H0.next < (H0.new 1 (List.replicate n (.slice none 0 0))).2.next := Nat.lt_succ_self _
 generalize (H0.new 1 (List.replicate n (.slice none 0 0))).2 = K1 at m1 k1 jg o1 x1 ⊢
 have m2 := C2o (H := K1) (l := n) (c := n) (Nat.le_refl _) (by omega)
 have k2 := Kept.new k1.wf 1 (List.replicate n (.bool false))
 have f2 := Buf.fill k1.wf (.bool false) (c := n) (by omega)
 have o2 := B12 (H := K1) (n := n) (z := .bool false) rfl
 generalize (K1.new 1 (List.replicate n (.bool false))).2 = K2 at m2 k2 f2 o2 ⊢
 have bq : A6t Tryz.prog 60 [(1, .slice (some ⟨H0.next, 0, some 0⟩) n n), (2, .slice (some ⟨K1.next, 0, some 0⟩) n n)] = some (.agg #[.int .i64 0, .slice (some ⟨H0.next, 0, some 0⟩) n n, .slice (some ⟨K1.next, 0, some 0⟩) n n]) := by
  have va : ∀ xs : Array Value, A6a (.agg xs) = xs.toList := fun _ => rfl
  refine A9q (pl := [(0, 1), (1, 1), (2, 1)]) Tryz.underlying60 B09 (by kernel_rfl) ?_
  simp [A62, A6a, isCell, setCells, A3c]
 have o0' : Sh.Obj K2 H.next 3 [.int .i64 0, .slice none 0 0, .slice none 0 0] true := by
  unfold Sh.Obj at o0 ⊢
  rw [(k1.trans k2).old H.next x0]; exact o0
 obtain ⟨K3, st, o3, c3⟩ := rgOut (ev := .slice (some ⟨H0.next, 0, some 0⟩) n n) (bv := .slice (some ⟨K1.next, 0, some 0⟩) n n) k2.wf _ _ _ o0' rfl rfl
 have k012 := (k0.trans k1).trans k2
 have c3' := o3.cells (i := 0) (n := 3) (by simp)
 refine C8h (fl := [(0, true), (1, false), (2, true), (3, false), (4, true), (5, true)]) (by kernel_rfl) (by kernel_rfl) k0.wf ?_
 simp only [↓Sh.dn, sx, reduceCtorEq, Nat.reduceEqDiff, wpg, Still, isEff, A5e, isRead, forall_eq', m1, m2, bq, st, hres, c3', List.drop_zero, List.take_succ_cons, List.take_zero]
 have j1 := (jg.kept k1.wf k2).chg k2.wf c3 (fun y hy e => by
  subst e
  have : ∀ y, JIn (if n = 0 then none else some H0.next) (List.replicate n none) y → y = H0.next := by
   rintro y (h | ⟨i, h⟩)
   ·by_cases h0 : n = 0
    ·rw [if_pos h0] at h; cases h
    ·rw [if_neg h0] at h; exact (Option.some.inj h).symm
   ·rw [List.getElem?_replicate] at h
    split at h <;> cases h
  have := this _ hy
  omega)
 have b1 := f2.chg k2.wf c3 (fun y hy e => by
  subst e
  by_cases h0 : n = 0
  ·rw [if_pos h0] at hy; cases hy
  ·rw [if_neg h0] at hy; have := Option.some.inj hy; omega)
 exact ⟨o1, o2, c3.wf, k012.then (Nat.le_refl _) (c3.weak fun y hy => by omega), _, _, rfl, H0.next, Nat.le_of_lt x0, K1.next, x1, j1, b1⟩
def B3m (N : NetD) (l : List ArcD) : List (List (List Value)) := rowsOf ArcD.fr (fun a => A4h (a.inn, a.to.toNat)) N.states.toNat l
theorem C1j {H : AH} {v : Value} {N : NetD} (h : A11 H v N) (hok : A5s N) (hsm : A7l N) (hw : Wf H) :
  Sh.Call Tryz.prog (knows 7) 28 [v] H (fun r H' => Kept H H' ∧ ∃ ev bv vals, RG H' r N.states.toNat (A7j N) (marksOf EndD.state N.states.toNat N.ends) ev bv vals) := by
 refine A2a rfl Tryz.func28 rfl (Nat.le_of_ble_eq_true rfl) ?_
 have hres : Tryz.f28.results.toList = [.cell 2 60] := rfl
 obtain ⟨sg, ar, en, rfl, hsg, har, hen⟩ := h
 have hb1 := NetBox.of (N := N) hw hsg har hen
 have hk1 : Kept H (H.new 4 [sg, .int .i64 N.states, ar, en]).2 := Kept.new hw 4 _
 have h1 := hok.st1
 have h2 := hok.st2
 obtain ⟨n, hn⟩ : ∃ n : Nat, N.states = (n : Int) := ⟨N.states.toNat, by omega⟩
 have hnn : N.states.toNat = n := by omega
 simp only [↓Sh.dn, sx, Nat.reduceEqDiff, A5x hsg.isCell har.isCell hen.isCell, rgZero]
 have hnx : H.next < (H.new 4 [sg, .int .i64 N.states, ar, en]).2.next := Nat.lt_succ_self _
 have e0 : ∀ y, (H.new 4 [sg, .int .i64 N.states, ar, en]).2.next ≤ y → H.next ≤ y := fun y hy => Nat.le_trans (Nat.le_succ _) hy
 generalize H.next = gg at hb1 hnx ⊢
 generalize (H.new 4 [sg, .int .i64 N.states, ar, en]).2 = H1 at hb1 hk1 hnx e0 ⊢
 have hb2 := hb1.new hk1.wf 3 [.int .i64 0, .slice none 0 0, .slice none 0 0]
 have hk2 := hk1.news 3 [.int .i64 0, .slice none 0 0, .slice none 0 0]
 have o0 := Sh.Obj.new (H := H1) 3 [.int .i64 0, .slice none 0 0, .slice none 0 0]
 have x2 : H1.next < (H1.new 3 [.int .i64 0, .slice none 0 0, .slice none 0 0]).2.next := Nat.lt_succ_self _
 generalize H1.next = go at o0 x2 e0 ⊢
 generalize (H1.new 3 [.int .i64 0, .slice none 0 0, .slice none 0 0]).2 = H2 at hb2 hk2 o0 x2 ⊢
 obtain ⟨r, H3, hd3, hk3, ev, bv, rfl, g1, hg1, g2, hg2, hj, hbf⟩ := newGraph (n := n) (by omega) hk2.wf
 simp only [sx, hb2.c1, hn]
 refine ⟨_, _, hd3, ?_⟩
 have hb3 := hb2.kept hk2.wf hk3
 have ic1 := hj.top.isCell
 have ic2 := hbf.isCell
 simp only [sx, C1w ic1 ic2, rgOver]
 have og := (Sh.Obj.new (H := H3) 3 [.int .i64 0, ev, bv]).arr
 have kn := Kept.new hk3.wf 3 [.int .i64 0, ev, bv]
 have xg : H3.next < (H3.new 3 [.int .i64 0, ev, bv]).2.next := Nat.lt_succ_self _
 have hj4 := hj.kept hk3.wf kn
 have hbf4 := hbf.kept hk3.wf kn
 have hk4 := hk3.trans kn
 have hx3 := hk3.next
 obtain ⟨ot, hot⟩ : ∃ ot, (if n = 0 then none else some g1) = ot := ⟨_, rfl⟩
 obtain ⟨ob, hob⟩ : ∃ ob, (if n = 0 then none else some g2) = ob := ⟨_, rfl⟩
 have lob : ∀ y, ob = some y → y = g2 := by
  intro y h
  rw [← hob] at h
  by_cases h0 : n = 0
  ·rw [if_pos h0] at h; cases h
  ·rw [if_neg h0] at h; exact (Option.some.inj h).symm
 have lot : ∀ y, JIn ot (List.replicate n none) y → y = g1 := by
  rintro y (h | ⟨i, h⟩)
  ·rw [← hot] at h
   by_cases h0 : n = 0
   ·rw [if_pos h0] at h; cases h
   ·rw [if_neg h0] at h; exact (Option.some.inj h).symm
  ·rw [List.getElem?_replicate] at h
   split at h <;> cases h
 rw [hot] at hj4
 rw [hob] at hbf4
 have lb := fun y h => hbf.lt hk3.wf y (by rw [hob]; exact h)
 have lj := fun y h => hj.lt hk3.wf y (by rw [hot]; exact h)
 generalize H3.next = gb at og xg hx3 lb lj ⊢
 generalize (H3.new 3 [.int .i64 0, ev, bv]).2 = H4 at og xg hj4 hbf4 hk4 ⊢
 refine A1d N.arcs.length 4 (List.range' 4 36 ++ [4, 5]) (fun i F H' => Kept H2 H' ∧ Arr H' gb 0 3 [.int .i64 0, ev, bv] ∧ Buf H' 1 bv (List.replicate n [.bool false]) ob ∧ ∃ vals obs, Jag H' ev ot 2 vals (B3m N (N.arcs.take i)) obs ∧ ∀ y, JIn ot obs y → H2.next ≤ y ∧ y ≠ gb ∧ ob ≠ some y) (by simp only [sx]) ⟨hk4, og, hbf4, _, _, by
  rw [List.take_zero]; unfold B3m; rw [A02, hnn]; exact hj4, fun y hy => by
   have e1 := lot y hy
   have e2 := lj y hy
   exact ⟨by omega, by omega, fun h => by have := lob y h; omega⟩⟩ ?_ ?_
 ·rintro i F H' hlt hF f4 ⟨hk, hog, hbb, vals, obs, hJ, hin⟩ k
  have f1 := hF 1 rfl
  have f3 := hF 3 rfl
  simp only [sx, Nat.reduceEqDiff] at f1 f3
  have hb' := hb2.kept hk2.wf hk
  obtain ⟨q, o, kk, hia, hc, hcc⟩ := hb'.har.at Tryz.underlying23 A9o (i := i) (x := N.arcs[i].cells) (by simp [hlt]) .i64
  clear hcc
  have htake : N.arcs.take (i + 1) = N.arcs.take i ++ [N.arcs[i]] := by rw [List.take_add_one, List.getElem?_eq_getElem hlt]; rfl
  obtain ⟨k0, k1, k2, k3, k4, k5⟩ := hok.arc _ (List.getElem_mem hlt)
  have kn := Kept.new hk.wf 5 (N.arcs[i].cells)
  have hk3 := hk.news 5 (N.arcs[i].cells)
  generalize N.arcs[i] = a at hk3 kn hc htake k0 k1 k2 k3 k4 k5
  obtain ⟨s, hs⟩ : ∃ s : Nat, a.fr = (s : Int) := ⟨a.fr.toNat, by omega⟩
  have hto : (a.to.toNat : Int) = a.to := by omega
  have hsn : s < N.states.toNat := by omega
  have hrow := A1h (key := ArcD.fr) (f := fun a => A4h (a.inn, a.to.toNat)) (l := N.arcs.take i) hsn
  have hrl := A4y hrow
  have hsmA := hsm.ar
  have htl : (N.arcs.take i).length ≤ 1048576 := by rw [List.length_take]; omega
  have hJ3 := hJ.kept hk.wf kn
  have hog3 := hog.keep (kn.old gb (hog.lt hk.wf))
  have hbb3 := hbb.kept hk.wf kn
  have hnj : ¬JIn ot obs H'.next := fun h => by have := hJ.lt hk.wf _ h; omega
  have hn := hog3.cell 1
  obtain ⟨ba, cap, w', H5, H6, o', p, e1, e2, e3, e4, e5, e6, e7, e8, e9⟩ := hJ3.pushAt Tryz.underlying57 A6p hk3.wf hrow (x := A4h (a.inn, a.to.toNat)) rfl
  rw [← hs] at e2
  have bl : A6t Tryz.prog 99 [(0, .string a.inn), (1, .int .i64 a.to)] = some (.agg (A4h (a.inn, a.to.toNat)).toArray) := by
   have := bld_99 (v0 := .string a.inn) (v1 := .int .i64 a.to) rfl rfl
   rw [this]; simp [A4h, hto]
  have hbs := B20 (H := (H'.new 5 a.cells).2) (x := .agg (A4h (a.inn, a.to.toNat)).toArray) rfl rfl
  have ha := C5v (H := (H'.new 5 a.cells).2) (base := ba) (len := _) (cap := cap) (x := A4h (a.inn, a.to.toNat)) rfl (Nat.le_trans hrl (by omega))
  rw [e1] at ha
  have hgj : ¬JIn ot obs gb := fun h => (hin gb h).2.1 rfl
  have hn5 := (hog3.keep (e7.old gb (hog3.lt hk3.wf) hgj)).cell 1
  have c4 := ((Sh.Obj.new (H := H') 5 a.cells).arr.keep (e7.old H'.next (Nat.lt_succ_self _) hnj)).cell 0
  have c4' : (a.cells)[0]? = some (.int .i64 a.fr) := rfl
  rw [c4'] at c4
  have st : A8e Tryz.prog 97 H5 w' (.pointer (some p)) = some H6 := by rw [A2c A6p e8, e4]
  have va : ∀ xs : Array Value, A6a (.agg xs) = xs.toList := fun _ => rfl
  have hav := hJ3.top.veq
  simp only [va] at hbs
  simp only [↓Sh.dn, sx, Nat.reduceEqDiff, hb'.c2, A2m hb', B5g, A73, B6e, f1, f4, A1a, hlt, decide_true, hia, hc]
  refine A6v (fl := [(0, []), (1, []), (2, []), (3, []), (4, []), (5, []), (6, []), (7, []), (8, []), (9, []), (10, []), (11, []), (12, []), (13, []), (14, []), (15, []), (16, [3, 1]), (17, []), (18, [])]) (by kernel_rfl) (by kernel_rfl) (by kernel_rfl) ?_
  simp only [↓Sh.dn, sx, Nat.reduceEqDiff, wpr, again, A5e, A1y, forall_eq', arc0, arc1, arc3, f3, f4, hn, e2, e3, hav, bl, hbs, ha, hn5, st, c4, wrap_succ hlt hsm.ar]
  refine k _ _ (by repeat (first | refine Same.put ?_ rfl | exact Same.rfl' _)) (by simp only [sx]) ⟨hk3.then (Nat.le_refl _) (e6.weak fun y hy => (hin y hy).1), hog3.keep (e6.old gb (hog3.lt hk3.wf) hgj), hbb3.chg hk3.wf e6 (fun y hy h => (hin y h).2.2 hy), vals.set s w', obs.set s o', ?_, ?_⟩
  ·rw [htake]
   unfold B3m
   rw [A8v hsn hs]
   exact e5
  ·intro y hy
   rcases e9 y hy with h | h
   ·exact hin y h
   ·have := hk3.next
    have := hog3.lt hk3.wf
    exact ⟨by omega, by omega, fun h2 => by have := hbb3.lt hk3.wf y h2; omega⟩
 ·rintro F H' hF f4 ⟨hk, hog, hbb, vals, obs, hJ, hin⟩
  have f1 := hF 1 rfl
  have f2 := hF 2 rfl
  have f3 := hF 3 rfl
  simp only [sx, Nat.reduceEqDiff] at f1 f2 f3
  rw [List.take_length] at hJ
  have hb' := hb2.kept hk2.wf hk
  simp only [↓Sh.dn, sx, Nat.reduceEqDiff, hb'.c2, A2m hb', f1, f4, A1a, Nat.lt_irrefl, decide_false]
  have hmk : ∀ b : Bool, ∀ m : Nat, (List.replicate m b).map A0l = List.replicate m [.bool b] := fun b m => by simp [A0l]
  refine A1d N.ends.length 6 (List.range' 40 16 ++ [6]) (fun i F H' => Kept H2 H' ∧ Arr H' gb 0 3 [.int .i64 0, ev, bv] ∧ Buf H' 1 bv ((marksOf EndD.state N.states.toNat (N.ends.take i)).map A0l) ob ∧ Jag H' ev ot 2 vals (B3m N N.arcs) obs) (by simp only [sx]) ⟨hk, hog, by rw [List.take_zero, B5u, hnn, hmk]; exact hbb, hJ⟩ ?_ ?_
  ·rintro i F' H' hlt hF' f6 ⟨hk, hog, hbb, hJ⟩ k
   have g1 := hF' 1 rfl
   have g3 := hF' 3 rfl
   simp only [sx, Nat.reduceEqDiff, f1, f3] at g1 g3
   have hb' := hb2.kept hk2.wf hk
   obtain ⟨q, o, kk, hia, hc, hcc⟩ := hb'.hen.at Tryz.underlying24 A9t (i := i) (x := N.ends[i].cells) (by simp [hlt]) .i64
   have hcs := hcc 0 _ rfl
   simp only [Nat.add_zero] at hcs
   clear hcc
   have htake : N.ends.take (i + 1) = N.ends.take i ++ [N.ends[i]] := by rw [List.take_add_one, List.getElem?_eq_getElem hlt]; rfl
   obtain ⟨k0, k1⟩ := hok.fin _ (List.getElem_mem hlt)
   generalize N.ends[i] = e at hc hcs htake k0 k1
   obtain ⟨s, hs⟩ : ∃ s : Nat, e.state = (s : Int) := ⟨e.state.toNat, by omega⟩
   have hsn : s < N.states.toNat := by omega
   have hn1 := hog.cell 1
   have hn2 := hog.cell 2
   obtain ⟨p, H6, ia, e1, e2, e3, e4⟩ := Buf.set (P := Tryz.prog) hbb hk.wf (i := s) (x := A0l true) (by simp [A4i, hsn]) rfl
   have ia2 := ia Tryz.underlying58 A2j (j := .i64)
   rw [← hs] at ia2
   have st : A8e Tryz.prog 4 H' (.bool true) (.pointer (some p)) = some H6 := by rw [A2c A2j rfl]; exact e1
   simp only [↓Sh.dn, sx, Nat.reduceEqDiff, hb'.c3, A1r hb', g1, f6, A1a, hlt, decide_true]
   first | refine (A7a (by kernel_rfl)).2 ?_ | skip
   simp only [↓Sh.dn, sx, Nat.reduceEqDiff, hb'.c3, g1, g3, f6, hn2, hia, hcs, ia2, st, wrap_succ hlt hsm.en]
   refine k _ _ (by repeat (first | refine Same.put ?_ rfl | exact Same.rfl' _)) (by simp only [sx]) ⟨hk.then (Nat.le_refl _) (e3.weak fun y hy => by have := lob y hy; omega), hog.keep (e3.old gb (hog.lt hk.wf) (fun hy => by have := lb gb hy; omega)), ?_, hJ.chg hk.wf e3 fun y hy h => (hin y hy).2.2 h⟩
   rw [htake, B0t hsn hs, List.map_set]
   exact e2
  ·rintro F' H' hF' f6 ⟨hk, hog, hbb, hJ⟩
   have g1 := hF' 1 rfl
   have g2' := hF' 2 rfl
   have g3 := hF' 3 rfl
   simp only [sx, Nat.reduceEqDiff, f1, f2, f3] at g1 g2' g3
   rw [List.take_length] at hbb
   have hb' := hb2.kept hk2.wf hk
   have o0' : Sh.Obj H' go 3 [.int .i64 0, .slice none 0 0, .slice none 0 0] true := by
    unfold Sh.Obj at o0 ⊢
    rw [hk.old go x2]; exact o0
   obtain ⟨H6, st, o3, c3⟩ := rgOut (ev := ev) (bv := bv) hk.wf _ _ _ o0' ic1 ic2
   have hca := hog.cells (i := 0) (n := 3) (by simp)
   have hcr := o3.cells (i := 0) (n := 3) (by simp)
   simp only [↓Sh.dn, sx, Nat.reduceEqDiff, hb'.c3, A1r hb', g1, g2', g3, f6, A1a, Nat.lt_irrefl, decide_false, hca, List.drop_zero, List.take_succ_cons, List.take_zero, st, hres, hcr]
   have hJ6 := (hJ.chg hk.wf c3 fun y hy e => by have := (hin y hy).1; omega).read
   have hb6 := (hbb.chg hk.wf c3 fun y hy e => by have := lob y hy; omega).toSl
   have er : A6h (A7j N) = B3m N N.arcs := by unfold A6h A7j B3m rowsOf; simp [Function.comp_def]
   rw [← hn]
   refine ⟨(hk2.trans hk).then (e0 go (Nat.le_refl _)) (c3.weak fun y hy => by omega), ev, bv, vals, rfl, by rw [er]; exact hJ6, hb6, by unfold A7j; rw [A9e], A4i, by omega, by omega, fun s r hr => ⟨Nat.le_trans (A4y hr) hok.ar, fun e he => ?_⟩⟩
   obtain ⟨a, ha, _, rfl⟩ := (A2p hr e).1 he
   have := hok.arc a ha
   show a.to.toNat < _
   omega
end Go.Proofs.YtcgbiedfbacgpaaGreat
