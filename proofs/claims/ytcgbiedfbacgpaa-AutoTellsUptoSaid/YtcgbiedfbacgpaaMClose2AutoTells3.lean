/- A part of the proof: Facts, NetFacts. -/
import Derived.Test.YtcgbiedfbacgpaaProg
import Derived.Test.YtcgbiedfbacgpaaMClose2AutoTells2
import Derived.KernelRfl
set_option linter.unusedVariables false
set_option linter.unusedSimpArgs false
/- What the types of this program are, for walking. Made by program. -/
set_option linter.unusedVariables false
namespace Go.Proofs.Ytcgbiedfbacgpaa
open Go Go.Proofs Go.Proofs.Sh
theorem agg_1 : aggAt Try.prog 1 = some false := by kernel_rfl
theorem zero_1 : zeroAt Try.prog 1 = some (.nilFunc) := by kernel_rfl
theorem ld_1 {H : AH} {a : Addr} : aload Try.prog 1 H (.pointer (some a)) = H.cell a := load_cell agg_1
theorem agg_2 : aggAt Try.prog 2 = some false := by kernel_rfl
theorem zero_2 : zeroAt Try.prog 2 = some (.int .i64 0) := by kernel_rfl
theorem ld_2 {H : AH} {a : Addr} : aload Try.prog 2 H (.pointer (some a)) = H.cell a := load_cell agg_2
theorem agg_3 : aggAt Try.prog 3 = some false := by kernel_rfl
theorem size_3 : sizeAt Try.prog 3 = some 1 := by kernel_rfl
theorem cells_3 : Try.prog.cellsOf 3 = 1 := by kernel_rfl
theorem zero_3 : zeroAt Try.prog 3 = some (.int .i64 0) := by kernel_rfl
theorem ld_3 {H : AH} {a : Addr} : aload Try.prog 3 H (.pointer (some a)) = H.cell a := load_cell agg_3
theorem agg_4 : aggAt Try.prog 4 = some false := by kernel_rfl
theorem size_4 : sizeAt Try.prog 4 = some 1 := by kernel_rfl
theorem zero_4 : zeroAt Try.prog 4 = some (.bool false) := by kernel_rfl
theorem ld_4 {H : AH} {a : Addr} : aload Try.prog 4 H (.pointer (some a)) = H.cell a := load_cell agg_4
theorem agg_5 : aggAt Try.prog 5 = some false := by kernel_rfl
theorem zero_5 : zeroAt Try.prog 5 = some (.int .u8 0) := by kernel_rfl
theorem ld_5 {H : AH} {a : Addr} : aload Try.prog 5 H (.pointer (some a)) = H.cell a := load_cell agg_5
theorem agg_9 : aggAt Try.prog 9 = some false := by kernel_rfl
theorem size_9 : sizeAt Try.prog 9 = some 1 := by kernel_rfl
theorem cells_9 : Try.prog.cellsOf 9 = 1 := by kernel_rfl
theorem zero_9 : zeroAt Try.prog 9 = some (.string ⟨#[]⟩) := by kernel_rfl
theorem ld_9 {H : AH} {a : Addr} : aload Try.prog 9 H (.pointer (some a)) = H.cell a := load_cell agg_9
theorem agg_22 : aggAt Try.prog 22 = some false := by kernel_rfl
theorem size_22 : sizeAt Try.prog 22 = some 1 := by kernel_rfl
theorem cells_22 : Try.prog.cellsOf 22 = 1 := by kernel_rfl
theorem zero_22 : zeroAt Try.prog 22 = some (.slice none 0 0) := by kernel_rfl
theorem ld_22 {H : AH} {a : Addr} : aload Try.prog 22 H (.pointer (some a)) = H.cell a := load_cell agg_22
theorem agg_23 : aggAt Try.prog 23 = some false := by kernel_rfl
theorem size_23 : sizeAt Try.prog 23 = some 1 := by kernel_rfl
theorem cells_23 : Try.prog.cellsOf 23 = 1 := by kernel_rfl
theorem zero_23 : zeroAt Try.prog 23 = some (.slice none 0 0) := by kernel_rfl
theorem ld_23 {H : AH} {a : Addr} : aload Try.prog 23 H (.pointer (some a)) = H.cell a := load_cell agg_23
theorem agg_24 : aggAt Try.prog 24 = some false := by kernel_rfl
theorem size_24 : sizeAt Try.prog 24 = some 1 := by kernel_rfl
theorem cells_24 : Try.prog.cellsOf 24 = 1 := by kernel_rfl
theorem zero_24 : zeroAt Try.prog 24 = some (.slice none 0 0) := by kernel_rfl
theorem ld_24 {H : AH} {a : Addr} : aload Try.prog 24 H (.pointer (some a)) = H.cell a := load_cell agg_24
theorem agg_26 : aggAt Try.prog 26 = some true := by kernel_rfl
theorem size_26 : sizeAt Try.prog 26 = some 4 := by kernel_rfl
theorem cells_26 : Try.prog.cellsOf 26 = 4 := by kernel_rfl
theorem zero_26 : zeroAt Try.prog 26 = some (.agg #[.slice none 0 0, .int .i64 0, .slice none 0 0, .slice none 0 0]) := by kernel_rfl
theorem ld_26 {H : AH} {a : Addr} : aload Try.prog 26 H (.pointer (some a)) = (H.cells a 4).map fun l => .agg l.toArray := load_agg agg_26 size_26
theorem agg_30 : aggAt Try.prog 30 = some false := by kernel_rfl
theorem zero_30 : zeroAt Try.prog 30 = some (.slice none 0 0) := by kernel_rfl
theorem ld_30 {H : AH} {a : Addr} : aload Try.prog 30 H (.pointer (some a)) = H.cell a := load_cell agg_30
theorem agg_31 : aggAt Try.prog 31 = some false := by kernel_rfl
theorem zero_31 : zeroAt Try.prog 31 = some (.int .i64 0) := by kernel_rfl
theorem ld_31 {H : AH} {a : Addr} : aload Try.prog 31 H (.pointer (some a)) = H.cell a := load_cell agg_31
theorem agg_40 : aggAt Try.prog 40 = some true := by kernel_rfl
theorem size_40 : sizeAt Try.prog 40 = some 5 := by kernel_rfl
theorem cells_40 : Try.prog.cellsOf 40 = 5 := by kernel_rfl
theorem zero_40 : zeroAt Try.prog 40 = some (.agg #[.int .i64 0, .string ⟨#[]⟩, .string ⟨#[]⟩, .int .i64 0, .int .i64 0]) := by kernel_rfl
theorem ld_40 {H : AH} {a : Addr} : aload Try.prog 40 H (.pointer (some a)) = (H.cells a 5).map fun l => .agg l.toArray := load_agg agg_40 size_40
theorem agg_42 : aggAt Try.prog 42 = some true := by kernel_rfl
theorem size_42 : sizeAt Try.prog 42 = some 2 := by kernel_rfl
theorem cells_42 : Try.prog.cellsOf 42 = 2 := by kernel_rfl
theorem zero_42 : zeroAt Try.prog 42 = some (.agg #[.int .i64 0, .int .i64 0]) := by kernel_rfl
theorem ld_42 {H : AH} {a : Addr} : aload Try.prog 42 H (.pointer (some a)) = (H.cells a 2).map fun l => .agg l.toArray := load_agg agg_42 size_42
theorem agg_45 : aggAt Try.prog 45 = some false := by kernel_rfl
theorem size_45 : sizeAt Try.prog 45 = some 1 := by kernel_rfl
theorem zero_45 : zeroAt Try.prog 45 = some (.pointer none) := by kernel_rfl
theorem ld_45 {H : AH} {a : Addr} : aload Try.prog 45 H (.pointer (some a)) = H.cell a := load_cell agg_45
theorem agg_49 : aggAt Try.prog 49 = some false := by kernel_rfl
theorem size_49 : sizeAt Try.prog 49 = some 1 := by kernel_rfl
theorem zero_49 : zeroAt Try.prog 49 = some (.slice none 0 0) := by kernel_rfl
theorem ld_49 {H : AH} {a : Addr} : aload Try.prog 49 H (.pointer (some a)) = H.cell a := load_cell agg_49
theorem agg_53 : aggAt Try.prog 53 = some false := by kernel_rfl
theorem size_53 : sizeAt Try.prog 53 = some 1 := by kernel_rfl
theorem zero_53 : zeroAt Try.prog 53 = some (.slice none 0 0) := by kernel_rfl
theorem ld_53 {H : AH} {a : Addr} : aload Try.prog 53 H (.pointer (some a)) = H.cell a := load_cell agg_53
theorem agg_55 : aggAt Try.prog 55 = some false := by kernel_rfl
theorem zero_55 : zeroAt Try.prog 55 = some (.nilFunc) := by kernel_rfl
theorem ld_55 {H : AH} {a : Addr} : aload Try.prog 55 H (.pointer (some a)) = H.cell a := load_cell agg_55
theorem agg_59 : aggAt Try.prog 59 = some false := by kernel_rfl
theorem size_59 : sizeAt Try.prog 59 = some 1 := by kernel_rfl
theorem zero_59 : zeroAt Try.prog 59 = some (.slice none 0 0) := by kernel_rfl
theorem ld_59 {H : AH} {a : Addr} : aload Try.prog 59 H (.pointer (some a)) = H.cell a := load_cell agg_59
theorem agg_60 : aggAt Try.prog 60 = some false := by kernel_rfl
theorem size_60 : sizeAt Try.prog 60 = some 1 := by kernel_rfl
theorem zero_60 : zeroAt Try.prog 60 = some (.slice none 0 0) := by kernel_rfl
theorem ld_60 {H : AH} {a : Addr} : aload Try.prog 60 H (.pointer (some a)) = H.cell a := load_cell agg_60
theorem agg_62 : aggAt Try.prog 62 = some true := by kernel_rfl
theorem size_62 : sizeAt Try.prog 62 = some 4 := by kernel_rfl
theorem zero_62 : zeroAt Try.prog 62 = some (.agg #[.slice none 0 0, .slice none 0 0, .slice none 0 0, .slice none 0 0]) := by kernel_rfl
theorem ld_62 {H : AH} {a : Addr} : aload Try.prog 62 H (.pointer (some a)) = (H.cells a 4).map fun l => .agg l.toArray := load_agg agg_62 size_62
theorem agg_65 : aggAt Try.prog 65 = some true := by kernel_rfl
theorem size_65 : sizeAt Try.prog 65 = some 4 := by kernel_rfl
theorem zero_65 : zeroAt Try.prog 65 = some (.agg #[.int .i64 0, .int .i64 0, .int .i64 0, .int .i64 0]) := by kernel_rfl
theorem ld_65 {H : AH} {a : Addr} : aload Try.prog 65 H (.pointer (some a)) = (H.cells a 4).map fun l => .agg l.toArray := load_agg agg_65 size_65
theorem agg_67 : aggAt Try.prog 67 = some false := by kernel_rfl
theorem size_67 : sizeAt Try.prog 67 = some 1 := by kernel_rfl
theorem zero_67 : zeroAt Try.prog 67 = some (.slice none 0 0) := by kernel_rfl
theorem ld_67 {H : AH} {a : Addr} : aload Try.prog 67 H (.pointer (some a)) = H.cell a := load_cell agg_67
theorem agg_70 : aggAt Try.prog 70 = some false := by kernel_rfl
theorem size_70 : sizeAt Try.prog 70 = some 1 := by kernel_rfl
theorem zero_70 : zeroAt Try.prog 70 = some (.slice none 0 0) := by kernel_rfl
theorem ld_70 {H : AH} {a : Addr} : aload Try.prog 70 H (.pointer (some a)) = H.cell a := load_cell agg_70
theorem agg_72 : aggAt Try.prog 72 = some false := by kernel_rfl
theorem zero_72 : zeroAt Try.prog 72 = some (.nilFunc) := by kernel_rfl
theorem ld_72 {H : AH} {a : Addr} : aload Try.prog 72 H (.pointer (some a)) = H.cell a := load_cell agg_72
theorem agg_81 : aggAt Try.prog 81 = some false := by kernel_rfl
theorem zero_81 : zeroAt Try.prog 81 = some (.nilFunc) := by kernel_rfl
theorem ld_81 {H : AH} {a : Addr} : aload Try.prog 81 H (.pointer (some a)) = H.cell a := load_cell agg_81
theorem agg_84 : aggAt Try.prog 84 = some false := by kernel_rfl
theorem zero_84 : zeroAt Try.prog 84 = some (.nilFunc) := by kernel_rfl
theorem ld_84 {H : AH} {a : Addr} : aload Try.prog 84 H (.pointer (some a)) = H.cell a := load_cell agg_84
theorem agg_88 : aggAt Try.prog 88 = some false := by kernel_rfl
theorem size_88 : sizeAt Try.prog 88 = some 1 := by kernel_rfl
theorem zero_88 : zeroAt Try.prog 88 = some (.slice none 0 0) := by kernel_rfl
theorem ld_88 {H : AH} {a : Addr} : aload Try.prog 88 H (.pointer (some a)) = H.cell a := load_cell agg_88
theorem agg_90 : aggAt Try.prog 90 = some false := by kernel_rfl
theorem size_90 : sizeAt Try.prog 90 = some 1 := by kernel_rfl
theorem zero_90 : zeroAt Try.prog 90 = some (.nilFunc) := by kernel_rfl
theorem ld_90 {H : AH} {a : Addr} : aload Try.prog 90 H (.pointer (some a)) = H.cell a := load_cell agg_90
theorem agg_92 : aggAt Try.prog 92 = some false := by kernel_rfl
theorem zero_92 : zeroAt Try.prog 92 = some (.slice none 0 0) := by kernel_rfl
theorem ld_92 {H : AH} {a : Addr} : aload Try.prog 92 H (.pointer (some a)) = H.cell a := load_cell agg_92
theorem agg_94 : aggAt Try.prog 94 = some false := by kernel_rfl
theorem zero_94 : zeroAt Try.prog 94 = some (.nilFunc) := by kernel_rfl
theorem ld_94 {H : AH} {a : Addr} : aload Try.prog 94 H (.pointer (some a)) = H.cell a := load_cell agg_94
theorem agg_99 : aggAt Try.prog 99 = some false := by kernel_rfl
theorem zero_99 : zeroAt Try.prog 99 = some (.int .u64 0) := by kernel_rfl
theorem ld_99 {H : AH} {a : Addr} : aload Try.prog 99 H (.pointer (some a)) = H.cell a := load_cell agg_99
theorem agg_102 : aggAt Try.prog 102 = some false := by kernel_rfl
theorem zero_102 : zeroAt Try.prog 102 = some (.map none) := by kernel_rfl
theorem ld_102 {H : AH} {a : Addr} : aload Try.prog 102 H (.pointer (some a)) = H.cell a := load_cell agg_102
theorem agg_111 : aggAt Try.prog 111 = some false := by kernel_rfl
theorem zero_111 : zeroAt Try.prog 111 = some (.int .i64 0) := by kernel_rfl
theorem ld_111 {H : AH} {a : Addr} : aload Try.prog 111 H (.pointer (some a)) = H.cell a := load_cell agg_111
theorem agg_119 : aggAt Try.prog 119 = some false := by kernel_rfl
theorem zero_119 : zeroAt Try.prog 119 = some (.int .u32 0) := by kernel_rfl
theorem ld_119 {H : AH} {a : Addr} : aload Try.prog 119 H (.pointer (some a)) = H.cell a := load_cell agg_119
theorem agg_121 : aggAt Try.prog 121 = some false := by kernel_rfl
theorem zero_121 : zeroAt Try.prog 121 = some (.int .u64 0) := by kernel_rfl
theorem ld_121 {H : AH} {a : Addr} : aload Try.prog 121 H (.pointer (some a)) = H.cell a := load_cell agg_121
theorem agg_122 : aggAt Try.prog 122 = some false := by kernel_rfl
theorem size_122 : sizeAt Try.prog 122 = some 1 := by kernel_rfl
theorem zero_122 : zeroAt Try.prog 122 = some (.int .u64 0) := by kernel_rfl
theorem ld_122 {H : AH} {a : Addr} : aload Try.prog 122 H (.pointer (some a)) = H.cell a := load_cell agg_122
theorem agg_126 : aggAt Try.prog 126 = some false := by kernel_rfl
theorem zero_126 : zeroAt Try.prog 126 = some (.pointer none) := by kernel_rfl
theorem ld_126 {H : AH} {a : Addr} : aload Try.prog 126 H (.pointer (some a)) = H.cell a := load_cell agg_126
theorem agg_128 : aggAt Try.prog 128 = some false := by kernel_rfl
theorem zero_128 : zeroAt Try.prog 128 = some (.pointer none) := by kernel_rfl
theorem ld_128 {H : AH} {a : Addr} : aload Try.prog 128 H (.pointer (some a)) = H.cell a := load_cell agg_128
theorem len_9 {H : AH} {s : ByteArray} : abuiltin Try.prog .len [9] [.string s] H = some (.int .i64 (s.size : Int), H) := len_string Try.underlying9
theorem len_22 {H : AH} {n c : Nat} {a : Option Addr} : abuiltin Try.prog .len [22] [.slice a n c] H = some (.int .i64 (n : Int), H) := len_slice Try.underlying22
theorem info_22 : ((Try.prog.info? 9).map fun i => Nat.beq i.size 1 && Nat.ble i.bytes 65536) = some true := by kernel_rfl
theorem app_22 {H : AH} {t' len cap n : Nat} {base : Option Addr} {x : Value} {new : List Value} (hx : Sh.srcKind Try.prog t' x = true) (hn : Sh.newCells 1 H x = some (n, new)) (hb : len + n ≤ 1073741824) : abuiltin Try.prog .append [22, t'] [.slice base len cap, x] H = aappend 1 base len cap n new H := append_at Try.underlying22 info_22 zero_9 rfl (Nat.le_of_ble_eq_true rfl) hx hn hb
theorem app1_22 {H : AH} {len cap : Nat} {base : Option Addr} {x : List Value} (hx : x.length = 1) (hb : len ≤ 1073741823) : abuiltin Try.prog .append [22, 22] [.slice base len cap, .slice (some ⟨H.next, 0, some 0⟩) 1 1] (H.new 1 x).2 = aappend 1 base len cap 1 x (H.new 1 x).2 := append_one Try.underlying22 info_22 zero_9 rfl (Nat.le_of_ble_eq_true rfl) hx hb
theorem isnil_22 {c : Bool} {a : Option Addr} {n m : Nat} : abin Try.prog 22 c .eql (.slice a n m) (.slice none 0 0) = some (.bool a.isNone) := slice_nil Try.underlying22
theorem notnil_22 {c : Bool} {a : Option Addr} {n m : Nat} : abin Try.prog 22 c .neq (.slice a n m) (.slice none 0 0) = some (.bool a.isSome) := slice_not_nil Try.underlying22
theorem mk_22 {H : AH} {l c : Nat} (hlc : l ≤ c) (hc : c ≤ 1073741824) : amakeSlice Try.prog 22 (.int .i64 (l : Int)) (.int .i64 (c : Int)) H = some (.slice (some ⟨H.next, 0, some 0⟩) l c, (H.new 1 (List.replicate c (.string ⟨#[]⟩))).2) := by rw [← repl_one]; exact make_at Try.underlying22 info_22 zero_9 rfl (Nat.le_of_ble_eq_true rfl) hlc hc
theorem build0_22 {H : AH} : abuildSlice Try.prog 22 0 [] H = some (.slice (some ⟨H.next, 0, some 0⟩) 0 0, (H.new 1 []).2) := build_nil Try.underlying22 size_9 zero_9 rfl (Nat.le_of_ble_eq_true rfl)
theorem build1_22 {H : AH} {x : Value} (hx : (vcells x).length = 1) (hc : (vcells x).all isCell = true) : abuildSlice Try.prog 22 1 [(0, x)] H = some (.slice (some ⟨H.next, 0, some 0⟩) 1 1, (H.new 1 (vcells x)).2) := build_one Try.underlying22 size_9 zero_9 rfl (Nat.le_of_ble_eq_true rfl) (Nat.le_of_ble_eq_true rfl) hx hc
theorem len_23 {H : AH} {n c : Nat} {a : Option Addr} : abuiltin Try.prog .len [23] [.slice a n c] H = some (.int .i64 (n : Int), H) := len_slice Try.underlying23
theorem isnil_23 {c : Bool} {a : Option Addr} {n m : Nat} : abin Try.prog 23 c .eql (.slice a n m) (.slice none 0 0) = some (.bool a.isNone) := slice_nil Try.underlying23
theorem notnil_23 {c : Bool} {a : Option Addr} {n m : Nat} : abin Try.prog 23 c .neq (.slice a n m) (.slice none 0 0) = some (.bool a.isSome) := slice_not_nil Try.underlying23
theorem build0_23 {H : AH} : abuildSlice Try.prog 23 0 [] H = some (.slice (some ⟨H.next, 0, some 0⟩) 0 0, (H.new 5 []).2) := build_nil Try.underlying23 size_40 zero_40 rfl (Nat.le_of_ble_eq_true rfl)
theorem len_24 {H : AH} {n c : Nat} {a : Option Addr} : abuiltin Try.prog .len [24] [.slice a n c] H = some (.int .i64 (n : Int), H) := len_slice Try.underlying24
theorem isnil_24 {c : Bool} {a : Option Addr} {n m : Nat} : abin Try.prog 24 c .eql (.slice a n m) (.slice none 0 0) = some (.bool a.isNone) := slice_nil Try.underlying24
theorem notnil_24 {c : Bool} {a : Option Addr} {n m : Nat} : abin Try.prog 24 c .neq (.slice a n m) (.slice none 0 0) = some (.bool a.isSome) := slice_not_nil Try.underlying24
theorem build0_24 {H : AH} : abuildSlice Try.prog 24 0 [] H = some (.slice (some ⟨H.next, 0, some 0⟩) 0 0, (H.new 2 []).2) := build_nil Try.underlying24 size_42 zero_42 rfl (Nat.le_of_ble_eq_true rfl)
theorem fa_26_0 {g o k : Nat} : afieldAddr Try.prog 26 0 (.pointer (some ⟨g, o, some k⟩)) = some (.pointer (some ⟨g, o + 0, some k⟩)) := by have h := fieldAddr_at (g := g) (o := o) (k := k) (f := 0) Try.underlying26 (Eq.refl (some _)) size_22 rfl; exact h
theorem fa_26_1 {g o k : Nat} : afieldAddr Try.prog 26 1 (.pointer (some ⟨g, o, some k⟩)) = some (.pointer (some ⟨g, o + 1, some k⟩)) := by have h := fieldAddr_at (g := g) (o := o) (k := k) (f := 1) Try.underlying26 (Eq.refl (some _)) size_3 rfl; exact h
theorem fa_26_2 {g o k : Nat} : afieldAddr Try.prog 26 2 (.pointer (some ⟨g, o, some k⟩)) = some (.pointer (some ⟨g, o + 2, some k⟩)) := by have h := fieldAddr_at (g := g) (o := o) (k := k) (f := 2) Try.underlying26 (Eq.refl (some _)) size_23 rfl; exact h
theorem fa_26_3 {g o k : Nat} : afieldAddr Try.prog 26 3 (.pointer (some ⟨g, o, some k⟩)) = some (.pointer (some ⟨g, o + 3, some k⟩)) := by have h := fieldAddr_at (g := g) (o := o) (k := k) (f := 3) Try.underlying26 (Eq.refl (some _)) size_24 rfl; exact h
theorem len_30 {H : AH} {n c : Nat} {a : Option Addr} : abuiltin Try.prog .len [30] [.slice a n c] H = some (.int .i64 (n : Int), H) := len_slice Try.underlying30
theorem info_30 : ((Try.prog.info? 22).map fun i => Nat.beq i.size 1 && Nat.ble i.bytes 65536) = some true := by kernel_rfl
theorem app1_30 {H : AH} {len cap : Nat} {base : Option Addr} {x : List Value} (hx : x.length = 1) (hb : len ≤ 1073741823) : abuiltin Try.prog .append [30, 30] [.slice base len cap, .slice (some ⟨H.next, 0, some 0⟩) 1 1] (H.new 1 x).2 = aappend 1 base len cap 1 x (H.new 1 x).2 := append_one Try.underlying30 info_30 zero_22 rfl (Nat.le_of_ble_eq_true rfl) hx hb
theorem isnil_30 {c : Bool} {a : Option Addr} {n m : Nat} : abin Try.prog 30 c .eql (.slice a n m) (.slice none 0 0) = some (.bool a.isNone) := slice_nil Try.underlying30
theorem notnil_30 {c : Bool} {a : Option Addr} {n m : Nat} : abin Try.prog 30 c .neq (.slice a n m) (.slice none 0 0) = some (.bool a.isSome) := slice_not_nil Try.underlying30
theorem build0_30 {H : AH} : abuildSlice Try.prog 30 0 [] H = some (.slice (some ⟨H.next, 0, some 0⟩) 0 0, (H.new 1 []).2) := build_nil Try.underlying30 size_22 zero_22 rfl (Nat.le_of_ble_eq_true rfl)
theorem build1_30 {H : AH} {x : Value} (hx : (vcells x).length = 1) (hc : (vcells x).all isCell = true) : abuildSlice Try.prog 30 1 [(0, x)] H = some (.slice (some ⟨H.next, 0, some 0⟩) 1 1, (H.new 1 (vcells x)).2) := build_one Try.underlying30 size_22 zero_22 rfl (Nat.le_of_ble_eq_true rfl) (Nat.le_of_ble_eq_true rfl) hx hc
theorem fa_40_0 {g o k : Nat} : afieldAddr Try.prog 40 0 (.pointer (some ⟨g, o, some k⟩)) = some (.pointer (some ⟨g, o + 0, some k⟩)) := by have h := fieldAddr_at (g := g) (o := o) (k := k) (f := 0) Try.underlying40 (Eq.refl (some _)) size_3 rfl; exact h
theorem fa_40_1 {g o k : Nat} : afieldAddr Try.prog 40 1 (.pointer (some ⟨g, o, some k⟩)) = some (.pointer (some ⟨g, o + 1, some k⟩)) := by have h := fieldAddr_at (g := g) (o := o) (k := k) (f := 1) Try.underlying40 (Eq.refl (some _)) size_9 rfl; exact h
theorem fa_40_2 {g o k : Nat} : afieldAddr Try.prog 40 2 (.pointer (some ⟨g, o, some k⟩)) = some (.pointer (some ⟨g, o + 2, some k⟩)) := by have h := fieldAddr_at (g := g) (o := o) (k := k) (f := 2) Try.underlying40 (Eq.refl (some _)) size_9 rfl; exact h
theorem fa_40_3 {g o k : Nat} : afieldAddr Try.prog 40 3 (.pointer (some ⟨g, o, some k⟩)) = some (.pointer (some ⟨g, o + 3, some k⟩)) := by have h := fieldAddr_at (g := g) (o := o) (k := k) (f := 3) Try.underlying40 (Eq.refl (some _)) size_3 rfl; exact h
theorem fa_40_4 {g o k : Nat} : afieldAddr Try.prog 40 4 (.pointer (some ⟨g, o, some k⟩)) = some (.pointer (some ⟨g, o + 4, some k⟩)) := by have h := fieldAddr_at (g := g) (o := o) (k := k) (f := 4) Try.underlying40 (Eq.refl (some _)) size_3 rfl; exact h
theorem fa_42_0 {g o k : Nat} : afieldAddr Try.prog 42 0 (.pointer (some ⟨g, o, some k⟩)) = some (.pointer (some ⟨g, o + 0, some k⟩)) := by have h := fieldAddr_at (g := g) (o := o) (k := k) (f := 0) Try.underlying42 (Eq.refl (some _)) size_3 rfl; exact h
theorem fa_42_1 {g o k : Nat} : afieldAddr Try.prog 42 1 (.pointer (some ⟨g, o, some k⟩)) = some (.pointer (some ⟨g, o + 1, some k⟩)) := by have h := fieldAddr_at (g := g) (o := o) (k := k) (f := 1) Try.underlying42 (Eq.refl (some _)) size_3 rfl; exact h
theorem ia_49 {g o k n c i : Nat} {j : IntKind} (h : i < n) : aindexAddr Try.prog 49 (.slice (some ⟨g, o, some k⟩) n c) (.int j (i : Int)) = some (.pointer (some ⟨g, o + i * 1, some k⟩)) := indexAddr_at Try.underlying49 size_3 h
theorem len_49 {H : AH} {n c : Nat} {a : Option Addr} : abuiltin Try.prog .len [49] [.slice a n c] H = some (.int .i64 (n : Int), H) := len_slice Try.underlying49
theorem info_49 : ((Try.prog.info? 3).map fun i => Nat.beq i.size 1 && Nat.ble i.bytes 65536) = some true := by kernel_rfl
theorem app_49 {H : AH} {t' len cap n : Nat} {base : Option Addr} {x : Value} {new : List Value} (hx : Sh.srcKind Try.prog t' x = true) (hn : Sh.newCells 1 H x = some (n, new)) (hb : len + n ≤ 1073741824) : abuiltin Try.prog .append [49, t'] [.slice base len cap, x] H = aappend 1 base len cap n new H := append_at Try.underlying49 info_49 zero_3 rfl (Nat.le_of_ble_eq_true rfl) hx hn hb
theorem app1_49 {H : AH} {len cap : Nat} {base : Option Addr} {x : List Value} (hx : x.length = 1) (hb : len ≤ 1073741823) : abuiltin Try.prog .append [49, 49] [.slice base len cap, .slice (some ⟨H.next, 0, some 0⟩) 1 1] (H.new 1 x).2 = aappend 1 base len cap 1 x (H.new 1 x).2 := append_one Try.underlying49 info_49 zero_3 rfl (Nat.le_of_ble_eq_true rfl) hx hb
theorem isnil_49 {c : Bool} {a : Option Addr} {n m : Nat} : abin Try.prog 49 c .eql (.slice a n m) (.slice none 0 0) = some (.bool a.isNone) := slice_nil Try.underlying49
theorem notnil_49 {c : Bool} {a : Option Addr} {n m : Nat} : abin Try.prog 49 c .neq (.slice a n m) (.slice none 0 0) = some (.bool a.isSome) := slice_not_nil Try.underlying49
theorem mk_49 {H : AH} {l c : Nat} (hlc : l ≤ c) (hc : c ≤ 1073741824) : amakeSlice Try.prog 49 (.int .i64 (l : Int)) (.int .i64 (c : Int)) H = some (.slice (some ⟨H.next, 0, some 0⟩) l c, (H.new 1 (List.replicate c (.int .i64 0))).2) := by rw [← repl_one]; exact make_at Try.underlying49 info_49 zero_3 rfl (Nat.le_of_ble_eq_true rfl) hlc hc
theorem build0_49 {H : AH} : abuildSlice Try.prog 49 0 [] H = some (.slice (some ⟨H.next, 0, some 0⟩) 0 0, (H.new 1 []).2) := build_nil Try.underlying49 size_3 zero_3 rfl (Nat.le_of_ble_eq_true rfl)
theorem build1_49 {H : AH} {x : Value} (hx : (vcells x).length = 1) (hc : (vcells x).all isCell = true) : abuildSlice Try.prog 49 1 [(0, x)] H = some (.slice (some ⟨H.next, 0, some 0⟩) 1 1, (H.new 1 (vcells x)).2) := build_one Try.underlying49 size_3 zero_3 rfl (Nat.le_of_ble_eq_true rfl) (Nat.le_of_ble_eq_true rfl) hx hc
theorem len_53 {H : AH} {n c : Nat} {a : Option Addr} : abuiltin Try.prog .len [53] [.slice a n c] H = some (.int .i64 (n : Int), H) := len_slice Try.underlying53
theorem info_53 : ((Try.prog.info? 3).map fun i => Nat.beq i.size 1 && Nat.ble i.bytes 65536) = some true := by kernel_rfl
theorem app1_53 {H : AH} {len cap : Nat} {base : Option Addr} {x : List Value} (hx : x.length = 1) (hb : len ≤ 1073741823) : abuiltin Try.prog .append [53, 53] [.slice base len cap, .slice (some ⟨H.next, 0, some 0⟩) 1 1] (H.new 1 x).2 = aappend 1 base len cap 1 x (H.new 1 x).2 := append_one Try.underlying53 info_53 zero_3 rfl (Nat.le_of_ble_eq_true rfl) hx hb
theorem isnil_53 {c : Bool} {a : Option Addr} {n m : Nat} : abin Try.prog 53 c .eql (.slice a n m) (.slice none 0 0) = some (.bool a.isNone) := slice_nil Try.underlying53
theorem notnil_53 {c : Bool} {a : Option Addr} {n m : Nat} : abin Try.prog 53 c .neq (.slice a n m) (.slice none 0 0) = some (.bool a.isSome) := slice_not_nil Try.underlying53
theorem build0_53 {H : AH} : abuildSlice Try.prog 53 0 [] H = some (.slice (some ⟨H.next, 0, some 0⟩) 0 0, (H.new 1 []).2) := build_nil Try.underlying53 size_3 zero_3 rfl (Nat.le_of_ble_eq_true rfl)
theorem build1_53 {H : AH} {x : Value} (hx : (vcells x).length = 1) (hc : (vcells x).all isCell = true) : abuildSlice Try.prog 53 1 [(0, x)] H = some (.slice (some ⟨H.next, 0, some 0⟩) 1 1, (H.new 1 (vcells x)).2) := build_one Try.underlying53 size_3 zero_3 rfl (Nat.le_of_ble_eq_true rfl) (Nat.le_of_ble_eq_true rfl) hx hc
theorem len_59 {H : AH} {n c : Nat} {a : Option Addr} : abuiltin Try.prog .len [59] [.slice a n c] H = some (.int .i64 (n : Int), H) := len_slice Try.underlying59
theorem info_59 : ((Try.prog.info? 65).map fun i => Nat.beq i.size 4 && Nat.ble i.bytes 65536) = some true := by kernel_rfl
theorem app1_59 {H : AH} {len cap : Nat} {base : Option Addr} {x : List Value} (hx : x.length = 4) (hb : len ≤ 1073741823) : abuiltin Try.prog .append [59, 59] [.slice base len cap, .slice (some ⟨H.next, 0, some 0⟩) 1 1] (H.new 4 x).2 = aappend 4 base len cap 1 x (H.new 4 x).2 := append_one Try.underlying59 info_59 zero_65 rfl (Nat.le_of_ble_eq_true rfl) hx hb
theorem isnil_59 {c : Bool} {a : Option Addr} {n m : Nat} : abin Try.prog 59 c .eql (.slice a n m) (.slice none 0 0) = some (.bool a.isNone) := slice_nil Try.underlying59
theorem notnil_59 {c : Bool} {a : Option Addr} {n m : Nat} : abin Try.prog 59 c .neq (.slice a n m) (.slice none 0 0) = some (.bool a.isSome) := slice_not_nil Try.underlying59
theorem build0_59 {H : AH} : abuildSlice Try.prog 59 0 [] H = some (.slice (some ⟨H.next, 0, some 0⟩) 0 0, (H.new 4 []).2) := build_nil Try.underlying59 size_65 zero_65 rfl (Nat.le_of_ble_eq_true rfl)
theorem build1_59 {H : AH} {x : Value} (hx : (vcells x).length = 4) (hc : (vcells x).all isCell = true) : abuildSlice Try.prog 59 1 [(0, x)] H = some (.slice (some ⟨H.next, 0, some 0⟩) 1 1, (H.new 4 (vcells x)).2) := build_one Try.underlying59 size_65 zero_65 rfl (Nat.le_of_ble_eq_true rfl) (Nat.le_of_ble_eq_true rfl) hx hc
theorem len_60 {H : AH} {n c : Nat} {a : Option Addr} : abuiltin Try.prog .len [60] [.slice a n c] H = some (.int .i64 (n : Int), H) := len_slice Try.underlying60
theorem info_60 : ((Try.prog.info? 59).map fun i => Nat.beq i.size 1 && Nat.ble i.bytes 65536) = some true := by kernel_rfl
theorem isnil_60 {c : Bool} {a : Option Addr} {n m : Nat} : abin Try.prog 60 c .eql (.slice a n m) (.slice none 0 0) = some (.bool a.isNone) := slice_nil Try.underlying60
theorem notnil_60 {c : Bool} {a : Option Addr} {n m : Nat} : abin Try.prog 60 c .neq (.slice a n m) (.slice none 0 0) = some (.bool a.isSome) := slice_not_nil Try.underlying60
theorem mk_60 {H : AH} {l c : Nat} (hlc : l ≤ c) (hc : c ≤ 1073741824) : amakeSlice Try.prog 60 (.int .i64 (l : Int)) (.int .i64 (c : Int)) H = some (.slice (some ⟨H.next, 0, some 0⟩) l c, (H.new 1 (List.replicate c (.slice none 0 0))).2) := by rw [← repl_one]; exact make_at Try.underlying60 info_60 zero_59 rfl (Nat.le_of_ble_eq_true rfl) hlc hc
theorem build0_60 {H : AH} : abuildSlice Try.prog 60 0 [] H = some (.slice (some ⟨H.next, 0, some 0⟩) 0 0, (H.new 1 []).2) := build_nil Try.underlying60 size_59 zero_59 rfl (Nat.le_of_ble_eq_true rfl)
theorem fa_62_0 {g o k : Nat} : afieldAddr Try.prog 62 0 (.pointer (some ⟨g, o, some k⟩)) = some (.pointer (some ⟨g, o + 0, some k⟩)) := by have h := fieldAddr_at (g := g) (o := o) (k := k) (f := 0) Try.underlying62 (Eq.refl (some _)) size_22 rfl; exact h
theorem fa_62_1 {g o k : Nat} : afieldAddr Try.prog 62 1 (.pointer (some ⟨g, o, some k⟩)) = some (.pointer (some ⟨g, o + 1, some k⟩)) := by have h := fieldAddr_at (g := g) (o := o) (k := k) (f := 1) Try.underlying62 (Eq.refl (some _)) size_60 rfl; exact h
theorem fa_62_2 {g o k : Nat} : afieldAddr Try.prog 62 2 (.pointer (some ⟨g, o, some k⟩)) = some (.pointer (some ⟨g, o + 2, some k⟩)) := by have h := fieldAddr_at (g := g) (o := o) (k := k) (f := 2) Try.underlying62 (Eq.refl (some _)) size_49 rfl; exact h
theorem fa_62_3 {g o k : Nat} : afieldAddr Try.prog 62 3 (.pointer (some ⟨g, o, some k⟩)) = some (.pointer (some ⟨g, o + 3, some k⟩)) := by have h := fieldAddr_at (g := g) (o := o) (k := k) (f := 3) Try.underlying62 (Eq.refl (some _)) size_49 rfl; exact h
theorem fa_65_0 {g o k : Nat} : afieldAddr Try.prog 65 0 (.pointer (some ⟨g, o, some k⟩)) = some (.pointer (some ⟨g, o + 0, some k⟩)) := by have h := fieldAddr_at (g := g) (o := o) (k := k) (f := 0) Try.underlying65 (Eq.refl (some _)) size_3 rfl; exact h
theorem fa_65_1 {g o k : Nat} : afieldAddr Try.prog 65 1 (.pointer (some ⟨g, o, some k⟩)) = some (.pointer (some ⟨g, o + 1, some k⟩)) := by have h := fieldAddr_at (g := g) (o := o) (k := k) (f := 1) Try.underlying65 (Eq.refl (some _)) size_3 rfl; exact h
theorem fa_65_2 {g o k : Nat} : afieldAddr Try.prog 65 2 (.pointer (some ⟨g, o, some k⟩)) = some (.pointer (some ⟨g, o + 2, some k⟩)) := by have h := fieldAddr_at (g := g) (o := o) (k := k) (f := 2) Try.underlying65 (Eq.refl (some _)) size_3 rfl; exact h
theorem fa_65_3 {g o k : Nat} : afieldAddr Try.prog 65 3 (.pointer (some ⟨g, o, some k⟩)) = some (.pointer (some ⟨g, o + 3, some k⟩)) := by have h := fieldAddr_at (g := g) (o := o) (k := k) (f := 3) Try.underlying65 (Eq.refl (some _)) size_3 rfl; exact h
theorem bld_65 {v0 v1 v2 v3 : Value} (h0 : isCell v0 = true) (h1 : isCell v1 = true) (h2 : isCell v2 = true) (h3 : isCell v3 = true) : abuild Try.prog 65 [(0, v0), (1, v1), (2, v2), (3, v3)] = some (.agg #[v0, v1, v2, v3]) := by refine build_struct (pl := [(0, 1), (1, 1), (2, 1), (3, 1)]) Try.underlying65 zero_65 (by kernel_rfl) ?_; have va : ∀ xs : Array Value, vcells (.agg xs) = xs.toList := fun _ => rfl; simp [fillA, cell_vcells h0, cell_vcells h1, cell_vcells h2, cell_vcells h3, va, h0, h1, h2, h3, setCells, beq_dec, ble_dec]
theorem len_67 {H : AH} {n c : Nat} {a : Option Addr} : abuiltin Try.prog .len [67] [.slice a n c] H = some (.int .i64 (n : Int), H) := len_slice Try.underlying67
theorem info_67 : ((Try.prog.info? 4).map fun i => Nat.beq i.size 1 && Nat.ble i.bytes 65536) = some true := by kernel_rfl
theorem isnil_67 {c : Bool} {a : Option Addr} {n m : Nat} : abin Try.prog 67 c .eql (.slice a n m) (.slice none 0 0) = some (.bool a.isNone) := slice_nil Try.underlying67
theorem notnil_67 {c : Bool} {a : Option Addr} {n m : Nat} : abin Try.prog 67 c .neq (.slice a n m) (.slice none 0 0) = some (.bool a.isSome) := slice_not_nil Try.underlying67
theorem mk_67 {H : AH} {l c : Nat} (hlc : l ≤ c) (hc : c ≤ 1073741824) : amakeSlice Try.prog 67 (.int .i64 (l : Int)) (.int .i64 (c : Int)) H = some (.slice (some ⟨H.next, 0, some 0⟩) l c, (H.new 1 (List.replicate c (.bool false))).2) := by rw [← repl_one]; exact make_at Try.underlying67 info_67 zero_4 rfl (Nat.le_of_ble_eq_true rfl) hlc hc
theorem build0_67 {H : AH} : abuildSlice Try.prog 67 0 [] H = some (.slice (some ⟨H.next, 0, some 0⟩) 0 0, (H.new 1 []).2) := build_nil Try.underlying67 size_4 zero_4 rfl (Nat.le_of_ble_eq_true rfl)
theorem len_70 {H : AH} {n c : Nat} {a : Option Addr} : abuiltin Try.prog .len [70] [.slice a n c] H = some (.int .i64 (n : Int), H) := len_slice Try.underlying70
theorem info_70 : ((Try.prog.info? 49).map fun i => Nat.beq i.size 1 && Nat.ble i.bytes 65536) = some true := by kernel_rfl
theorem app1_70 {H : AH} {len cap : Nat} {base : Option Addr} {x : List Value} (hx : x.length = 1) (hb : len ≤ 1073741823) : abuiltin Try.prog .append [70, 70] [.slice base len cap, .slice (some ⟨H.next, 0, some 0⟩) 1 1] (H.new 1 x).2 = aappend 1 base len cap 1 x (H.new 1 x).2 := append_one Try.underlying70 info_70 zero_49 rfl (Nat.le_of_ble_eq_true rfl) hx hb
theorem isnil_70 {c : Bool} {a : Option Addr} {n m : Nat} : abin Try.prog 70 c .eql (.slice a n m) (.slice none 0 0) = some (.bool a.isNone) := slice_nil Try.underlying70
theorem notnil_70 {c : Bool} {a : Option Addr} {n m : Nat} : abin Try.prog 70 c .neq (.slice a n m) (.slice none 0 0) = some (.bool a.isSome) := slice_not_nil Try.underlying70
theorem mk_70 {H : AH} {l c : Nat} (hlc : l ≤ c) (hc : c ≤ 1073741824) : amakeSlice Try.prog 70 (.int .i64 (l : Int)) (.int .i64 (c : Int)) H = some (.slice (some ⟨H.next, 0, some 0⟩) l c, (H.new 1 (List.replicate c (.slice none 0 0))).2) := by rw [← repl_one]; exact make_at Try.underlying70 info_70 zero_49 rfl (Nat.le_of_ble_eq_true rfl) hlc hc
theorem build0_70 {H : AH} : abuildSlice Try.prog 70 0 [] H = some (.slice (some ⟨H.next, 0, some 0⟩) 0 0, (H.new 1 []).2) := build_nil Try.underlying70 size_49 zero_49 rfl (Nat.le_of_ble_eq_true rfl)
theorem build1_70 {H : AH} {x : Value} (hx : (vcells x).length = 1) (hc : (vcells x).all isCell = true) : abuildSlice Try.prog 70 1 [(0, x)] H = some (.slice (some ⟨H.next, 0, some 0⟩) 1 1, (H.new 1 (vcells x)).2) := build_one Try.underlying70 size_49 zero_49 rfl (Nat.le_of_ble_eq_true rfl) (Nat.le_of_ble_eq_true rfl) hx hc
theorem len_88 {H : AH} {n c : Nat} {a : Option Addr} : abuiltin Try.prog .len [88] [.slice a n c] H = some (.int .i64 (n : Int), H) := len_slice Try.underlying88
theorem info_88 : ((Try.prog.info? 67).map fun i => Nat.beq i.size 1 && Nat.ble i.bytes 65536) = some true := by kernel_rfl
theorem app1_88 {H : AH} {len cap : Nat} {base : Option Addr} {x : List Value} (hx : x.length = 1) (hb : len ≤ 1073741823) : abuiltin Try.prog .append [88, 88] [.slice base len cap, .slice (some ⟨H.next, 0, some 0⟩) 1 1] (H.new 1 x).2 = aappend 1 base len cap 1 x (H.new 1 x).2 := append_one Try.underlying88 info_88 zero_67 rfl (Nat.le_of_ble_eq_true rfl) hx hb
theorem isnil_88 {c : Bool} {a : Option Addr} {n m : Nat} : abin Try.prog 88 c .eql (.slice a n m) (.slice none 0 0) = some (.bool a.isNone) := slice_nil Try.underlying88
theorem notnil_88 {c : Bool} {a : Option Addr} {n m : Nat} : abin Try.prog 88 c .neq (.slice a n m) (.slice none 0 0) = some (.bool a.isSome) := slice_not_nil Try.underlying88
theorem build0_88 {H : AH} : abuildSlice Try.prog 88 0 [] H = some (.slice (some ⟨H.next, 0, some 0⟩) 0 0, (H.new 1 []).2) := build_nil Try.underlying88 size_67 zero_67 rfl (Nat.le_of_ble_eq_true rfl)
theorem build1_88 {H : AH} {x : Value} (hx : (vcells x).length = 1) (hc : (vcells x).all isCell = true) : abuildSlice Try.prog 88 1 [(0, x)] H = some (.slice (some ⟨H.next, 0, some 0⟩) 1 1, (H.new 1 (vcells x)).2) := build_one Try.underlying88 size_67 zero_67 rfl (Nat.le_of_ble_eq_true rfl) (Nat.le_of_ble_eq_true rfl) hx hc
theorem len_92 {H : AH} {n c : Nat} {a : Option Addr} : abuiltin Try.prog .len [92] [.slice a n c] H = some (.int .i64 (n : Int), H) := len_slice Try.underlying92
theorem info_92 : ((Try.prog.info? 53).map fun i => Nat.beq i.size 1 && Nat.ble i.bytes 65536) = some true := by kernel_rfl
theorem isnil_92 {c : Bool} {a : Option Addr} {n m : Nat} : abin Try.prog 92 c .eql (.slice a n m) (.slice none 0 0) = some (.bool a.isNone) := slice_nil Try.underlying92
theorem notnil_92 {c : Bool} {a : Option Addr} {n m : Nat} : abin Try.prog 92 c .neq (.slice a n m) (.slice none 0 0) = some (.bool a.isSome) := slice_not_nil Try.underlying92
theorem mk_92 {H : AH} {l c : Nat} (hlc : l ≤ c) (hc : c ≤ 1073741824) : amakeSlice Try.prog 92 (.int .i64 (l : Int)) (.int .i64 (c : Int)) H = some (.slice (some ⟨H.next, 0, some 0⟩) l c, (H.new 1 (List.replicate c (.slice none 0 0))).2) := by rw [← repl_one]; exact make_at Try.underlying92 info_92 zero_53 rfl (Nat.le_of_ble_eq_true rfl) hlc hc
theorem build0_92 {H : AH} : abuildSlice Try.prog 92 0 [] H = some (.slice (some ⟨H.next, 0, some 0⟩) 0 0, (H.new 1 []).2) := build_nil Try.underlying92 size_53 zero_53 rfl (Nat.le_of_ble_eq_true rfl)
theorem cv_3_99 {H : AH} {n : Int} : aconvert Try.prog 3 99 (.int .i64 n) H = some (.int .u64 (IntKind.wrap .u64 n), H) := conv_int Try.underlying3 Try.underlying99
theorem cv_3_122 {H : AH} {n : Int} : aconvert Try.prog 3 122 (.int .i64 n) H = some (.int .u64 (IntKind.wrap .u64 n), H) := conv_int Try.underlying3 Try.underlying122
theorem cv_5_3 {H : AH} {n : Int} : aconvert Try.prog 5 3 (.int .u8 n) H = some (.int .i64 (IntKind.wrap .i64 n), H) := conv_int Try.underlying5 Try.underlying3
theorem cv_99_3 {H : AH} {n : Int} : aconvert Try.prog 99 3 (.int .u64 n) H = some (.int .i64 (IntKind.wrap .i64 n), H) := conv_int Try.underlying99 Try.underlying3
theorem cv_99_119 {H : AH} {n : Int} : aconvert Try.prog 99 119 (.int .u64 n) H = some (.int .u32 (IntKind.wrap .u32 n), H) := conv_int Try.underlying99 Try.underlying119
theorem cv_119_5 {H : AH} {n : Int} : aconvert Try.prog 119 5 (.int .u32 n) H = some (.int .u8 (IntKind.wrap .u8 n), H) := conv_int Try.underlying119 Try.underlying5
theorem cv_121_5 {H : AH} {n : Int} : aconvert Try.prog 121 5 (.int .u64 n) H = some (.int .u8 (IntKind.wrap .u8 n), H) := conv_int Try.underlying121 Try.underlying5
theorem seatFacts : type_of% (And.intro @zero_1 (And.intro @ld_1 (And.intro @zero_2 (And.intro @ld_2 (And.intro @zero_3 (And.intro @ld_3 (And.intro @zero_4 (And.intro @ld_4 (And.intro @zero_5 (And.intro @ld_5 (And.intro @zero_9 (And.intro @ld_9 (And.intro @zero_22 (And.intro @ld_22 (And.intro @zero_23 (And.intro @ld_23 (And.intro @zero_24 (And.intro @ld_24 (And.intro @zero_26 (And.intro @ld_26 (And.intro @zero_30 (And.intro @ld_30 (And.intro @zero_31 (And.intro @ld_31 (And.intro @zero_40 (And.intro @ld_40 (And.intro @zero_42 (And.intro @ld_42 (And.intro @zero_45 (And.intro @ld_45 (And.intro @zero_49 (And.intro @ld_49 (And.intro @zero_53 (And.intro @ld_53 (And.intro @zero_55 (And.intro @ld_55 (And.intro @zero_59 (And.intro @ld_59 (And.intro @zero_60 (And.intro @ld_60 (And.intro @zero_62 (And.intro @ld_62 (And.intro @zero_65 (And.intro @ld_65 (And.intro @zero_67 (And.intro @ld_67 (And.intro @zero_70 (And.intro @ld_70 (And.intro @zero_72 (And.intro @ld_72 (And.intro @zero_81 (And.intro @ld_81 (And.intro @zero_84 (And.intro @ld_84 (And.intro @zero_88 (And.intro @ld_88 (And.intro @zero_90 (And.intro @ld_90 (And.intro @zero_92 (And.intro @ld_92 (And.intro @zero_94 (And.intro @ld_94 (And.intro @zero_99 (And.intro @ld_99 (And.intro @zero_102 (And.intro @ld_102 (And.intro @zero_111 (And.intro @ld_111 (And.intro @zero_119 (And.intro @ld_119 (And.intro @zero_121 (And.intro @ld_121 (And.intro @zero_122 (And.intro @ld_122 (And.intro @zero_126 (And.intro @ld_126 (And.intro @zero_128 (And.intro @ld_128 (And.intro @len_9 (And.intro @len_22 (And.intro @isnil_22 (And.intro @notnil_22 (And.intro @build0_22 (And.intro @len_23 (And.intro @isnil_23 (And.intro @notnil_23 (And.intro @build0_23 (And.intro @len_24 (And.intro @isnil_24 (And.intro @notnil_24 (And.intro @build0_24 (And.intro @fa_26_0 (And.intro @fa_26_1 (And.intro @fa_26_2 (And.intro @fa_26_3 (And.intro @len_30 (And.intro @isnil_30 (And.intro @notnil_30 (And.intro @build0_30 (And.intro @fa_40_0 (And.intro @fa_40_1 (And.intro @fa_40_2 (And.intro @fa_40_3 (And.intro @fa_40_4 (And.intro @fa_42_0 (And.intro @fa_42_1 (And.intro @len_49 (And.intro @isnil_49 (And.intro @notnil_49 (And.intro @build0_49 (And.intro @len_53 (And.intro @isnil_53 (And.intro @notnil_53 (And.intro @build0_53 (And.intro @len_59 (And.intro @isnil_59 (And.intro @notnil_59 (And.intro @build0_59 (And.intro @len_60 (And.intro @isnil_60 (And.intro @notnil_60 (And.intro @build0_60 (And.intro @fa_62_0 (And.intro @fa_62_1 (And.intro @fa_62_2 (And.intro @fa_62_3 (And.intro @fa_65_0 (And.intro @fa_65_1 (And.intro @fa_65_2 (And.intro @fa_65_3 (And.intro @len_67 (And.intro @isnil_67 (And.intro @notnil_67 (And.intro @build0_67 (And.intro @len_70 (And.intro @isnil_70 (And.intro @notnil_70 (And.intro @build0_70 (And.intro @len_88 (And.intro @isnil_88 (And.intro @notnil_88 (And.intro @build0_88 (And.intro @len_92 (And.intro @isnil_92 (And.intro @notnil_92 (And.intro @build0_92 (And.intro @cv_3_99 (And.intro @cv_3_122 (And.intro @cv_5_3 (And.intro @cv_99_3 (And.intro @cv_99_119 (And.intro @cv_119_5 (@cv_121_5))))))))))))))))))))))))))))))))))))))))))))))))))))))))))))))))))))))))))))))))))))))))))))))))))))))))))))))))))))))))))))))))))))))))))))))))))))))))) := And.intro @zero_1 (And.intro @ld_1 (And.intro @zero_2 (And.intro @ld_2 (And.intro @zero_3 (And.intro @ld_3 (And.intro @zero_4 (And.intro @ld_4 (And.intro @zero_5 (And.intro @ld_5 (And.intro @zero_9 (And.intro @ld_9 (And.intro @zero_22 (And.intro @ld_22 (And.intro @zero_23 (And.intro @ld_23 (And.intro @zero_24 (And.intro @ld_24 (And.intro @zero_26 (And.intro @ld_26 (And.intro @zero_30 (And.intro @ld_30 (And.intro @zero_31 (And.intro @ld_31 (And.intro @zero_40 (And.intro @ld_40 (And.intro @zero_42 (And.intro @ld_42 (And.intro @zero_45 (And.intro @ld_45 (And.intro @zero_49 (And.intro @ld_49 (And.intro @zero_53 (And.intro @ld_53 (And.intro @zero_55 (And.intro @ld_55 (And.intro @zero_59 (And.intro @ld_59 (And.intro @zero_60 (And.intro @ld_60 (And.intro @zero_62 (And.intro @ld_62 (And.intro @zero_65 (And.intro @ld_65 (And.intro @zero_67 (And.intro @ld_67 (And.intro @zero_70 (And.intro @ld_70 (And.intro @zero_72 (And.intro @ld_72 (And.intro @zero_81 (And.intro @ld_81 (And.intro @zero_84 (And.intro @ld_84 (And.intro @zero_88 (And.intro @ld_88 (And.intro @zero_90 (And.intro @ld_90 (And.intro @zero_92 (And.intro @ld_92 (And.intro @zero_94 (And.intro @ld_94 (And.intro @zero_99 (And.intro @ld_99 (And.intro @zero_102 (And.intro @ld_102 (And.intro @zero_111 (And.intro @ld_111 (And.intro @zero_119 (And.intro @ld_119 (And.intro @zero_121 (And.intro @ld_121 (And.intro @zero_122 (And.intro @ld_122 (And.intro @zero_126 (And.intro @ld_126 (And.intro @zero_128 (And.intro @ld_128 (And.intro @len_9 (And.intro @len_22 (And.intro @isnil_22 (And.intro @notnil_22 (And.intro @build0_22 (And.intro @len_23 (And.intro @isnil_23 (And.intro @notnil_23 (And.intro @build0_23 (And.intro @len_24 (And.intro @isnil_24 (And.intro @notnil_24 (And.intro @build0_24 (And.intro @fa_26_0 (And.intro @fa_26_1 (And.intro @fa_26_2 (And.intro @fa_26_3 (And.intro @len_30 (And.intro @isnil_30 (And.intro @notnil_30 (And.intro @build0_30 (And.intro @fa_40_0 (And.intro @fa_40_1 (And.intro @fa_40_2 (And.intro @fa_40_3 (And.intro @fa_40_4 (And.intro @fa_42_0 (And.intro @fa_42_1 (And.intro @len_49 (And.intro @isnil_49 (And.intro @notnil_49 (And.intro @build0_49 (And.intro @len_53 (And.intro @isnil_53 (And.intro @notnil_53 (And.intro @build0_53 (And.intro @len_59 (And.intro @isnil_59 (And.intro @notnil_59 (And.intro @build0_59 (And.intro @len_60 (And.intro @isnil_60 (And.intro @notnil_60 (And.intro @build0_60 (And.intro @fa_62_0 (And.intro @fa_62_1 (And.intro @fa_62_2 (And.intro @fa_62_3 (And.intro @fa_65_0 (And.intro @fa_65_1 (And.intro @fa_65_2 (And.intro @fa_65_3 (And.intro @len_67 (And.intro @isnil_67 (And.intro @notnil_67 (And.intro @build0_67 (And.intro @len_70 (And.intro @isnil_70 (And.intro @notnil_70 (And.intro @build0_70 (And.intro @len_88 (And.intro @isnil_88 (And.intro @notnil_88 (And.intro @build0_88 (And.intro @len_92 (And.intro @isnil_92 (And.intro @notnil_92 (And.intro @build0_92 (And.intro @cv_3_99 (And.intro @cv_3_122 (And.intro @cv_5_3 (And.intro @cv_99_3 (And.intro @cv_99_119 (And.intro @cv_119_5 (@cv_121_5))))))))))))))))))))))))))))))))))))))))))))))))))))))))))))))))))))))))))))))))))))))))))))))))))))))))))))))))))))))))))))))))))))))))))))))))))))))))
theorem sx : type_of% (And.intro @Sh.sy @seatFacts) := And.intro @Sh.sy @seatFacts
end Go.Proofs.Ytcgbiedfbacgpaa
-- simp: zero_1, ld_1, zero_2, ld_2, zero_3, ld_3, zero_4, ld_4, zero_5, ld_5, zero_9, ld_9, zero_22, ld_22, zero_23, ld_23, zero_24, ld_24, zero_26, ld_26, zero_30, ld_30, zero_31, ld_31, zero_40, ld_40, zero_42, ld_42, zero_45, ld_45, zero_49, ld_49, zero_53, ld_53, zero_55, ld_55, zero_59, ld_59, zero_60, ld_60, zero_62, ld_62, zero_65, ld_65, zero_67, ld_67, zero_70, ld_70, zero_72, ld_72, zero_81, ld_81, zero_84, ld_84, zero_88, ld_88, zero_90, ld_90, zero_92, ld_92, zero_94, ld_94, zero_99, ld_99, zero_102, ld_102, zero_111, ld_111, zero_119, ld_119, zero_121, ld_121, zero_122, ld_122, zero_126, ld_126, zero_128, ld_128, len_9, len_22, isnil_22, notnil_22, build0_22, len_23, isnil_23, notnil_23, build0_23, len_24, isnil_24, notnil_24, build0_24, fa_26_0, fa_26_1, fa_26_2, fa_26_3, len_30, isnil_30, notnil_30, build0_30, fa_40_0, fa_40_1, fa_40_2, fa_40_3, fa_40_4, fa_42_0, fa_42_1, len_49, isnil_49, notnil_49, build0_49, len_53, isnil_53, notnil_53, build0_53, len_59, isnil_59, notnil_59, build0_59, len_60, isnil_60, notnil_60, build0_60, fa_62_0, fa_62_1, fa_62_2, fa_62_3, fa_65_0, fa_65_1, fa_65_2, fa_65_3, len_67, isnil_67, notnil_67, build0_67, len_70, isnil_70, notnil_70, build0_70, len_88, isnil_88, notnil_88, build0_88, len_92, isnil_92, notnil_92, build0_92, cv_3_99, cv_3_122, cv_5_3, cv_99_3, cv_99_119, cv_119_5, cv_121_5
/- Nets in memory: what is made and written of them. -/
set_option maxHeartbeats 4000000
set_option maxRecDepth 20000
set_option linter.unusedVariables false
namespace Go.Proofs.Ytcgbiedfbacgpaa
open Go Go.Proofs Go.Proofs.Sh
section
variable {H : AH} {g : Nat} {sg ar en v : Value} {N : NetD}
theorem netNew (hsg : isCell sg = true) (har : isCell ar = true) (hen : isCell en = true) {n : Int} : anew Try.prog 26 H (.agg #[sg, .int .i64 n, ar, en]) = some (.pointer (some ⟨H.next, 0, some 0⟩), (H.new 4 [sg, .int .i64 n, ar, en]).2) :=
  new_agg (vs := [sg, .int .i64 n, ar, en]) size_26 rfl (by simp [hsg, har, hen, show isCell (.int .i64 n) = true from rfl])
theorem netZero : anew Try.prog 26 H (.agg #[.slice none 0 0, .int .i64 0, .slice none 0 0, .slice none 0 0]) = some (.pointer (some ⟨H.next, 0, some 0⟩), (H.new 4 [.slice none 0 0, .int .i64 0, .slice none 0 0, .slice none 0 0]).2) := new_agg (vs := [.slice none 0 0, .int .i64 0, .slice none 0 0, .slice none 0 0]) size_26 rfl rfl
theorem arcZero : anew Try.prog 40 H (.agg #[.int .i64 0, .string ⟨#[]⟩, .string ⟨#[]⟩, .int .i64 0, .int .i64 0]) = some (.pointer (some ⟨H.next, 0, some 0⟩), (H.new 5 [.int .i64 0, .string ⟨#[]⟩, .string ⟨#[]⟩, .int .i64 0, .int .i64 0]).2) :=
  new_agg (vs := [.int .i64 0, .string ⟨#[]⟩, .string ⟨#[]⟩, .int .i64 0, .int .i64 0]) size_40 rfl rfl
theorem endZero : anew Try.prog 42 H (.agg #[.int .i64 0, .int .i64 0]) = some (.pointer (some ⟨H.next, 0, some 0⟩), (H.new 2 [.int .i64 0, .int .i64 0]).2) := new_agg (vs := [.int .i64 0, .int .i64 0]) size_42 rfl rfl
theorem arcNew {a : ArcD} : anew Try.prog 40 H (.agg a.cells.toArray) = some (.pointer (some ⟨H.next, 0, some 0⟩), (H.new 5 a.cells).2) := new_agg (vs := a.cells) size_40 rfl rfl
theorem endNew {a : EndD} : anew Try.prog 42 H (.agg a.cells.toArray) = some (.pointer (some ⟨H.next, 0, some 0⟩), (H.new 2 a.cells).2) := new_agg (vs := a.cells) size_42 rfl rfl
theorem arcStore {a : ArcD} {p : Addr} : astore Try.prog 40 H (.agg a.cells.toArray) (.pointer (some p)) = H.write p a.cells := store_agg size_40 rfl rfl
theorem endStore {a : EndD} {p : Addr} : astore Try.prog 42 H (.agg a.cells.toArray) (.pointer (some p)) = H.write p a.cells := store_agg size_42 rfl rfl
theorem arcOver {a : ArcD} {x0 x1 x2 x3 x4 : Value} : (H.new 5 [x0, x1, x2, x3, x4]).2.write ⟨H.next, 0, some 0⟩ a.cells = some (H.new 5 a.cells).2 := write_new rfl
theorem endOver {a : EndD} {x0 x1 : Value} : (H.new 2 [x0, x1]).2.write ⟨H.next, 0, some 0⟩ a.cells = some (H.new 2 a.cells).2 := write_new rfl
theorem netOver {x0 x1 x2 x3 y0 y1 y2 y3 : Value} : (H.new 4 [x0, x1, x2, x3]).2.write ⟨H.next, 0, some 0⟩ [y0, y1, y2, y3] = some (H.new 4 [y0, y1, y2, y3]).2 := write_new rfl
theorem arc0 {a : ArcD} : (H.new 5 a.cells).2.cell ⟨H.next, 0, some 0⟩ = some (.int .i64 a.fr) := cell_new _ _ _
theorem arc1 {a : ArcD} : (H.new 5 a.cells).2.cell ⟨H.next, 1, some 0⟩ = some (.string a.inn) := cell_new _ _ _
theorem arc2 {a : ArcD} : (H.new 5 a.cells).2.cell ⟨H.next, 2, some 0⟩ = some (.string a.out) := cell_new _ _ _
theorem arc3 {a : ArcD} : (H.new 5 a.cells).2.cell ⟨H.next, 3, some 0⟩ = some (.int .i64 a.to) := cell_new _ _ _
theorem arc4 {a : ArcD} : (H.new 5 a.cells).2.cell ⟨H.next, 4, some 0⟩ = some (.int .i64 a.cost) := cell_new _ _ _
theorem end0 {a : EndD} : (H.new 2 a.cells).2.cell ⟨H.next, 0, some 0⟩ = some (.int .i64 a.state) := cell_new _ _ _
theorem end1 {a : EndD} : (H.new 2 a.cells).2.cell ⟨H.next, 1, some 0⟩ = some (.int .i64 a.cost) := cell_new _ _ _
theorem netLenS (h : NetBox H g sg ar en N) {H' : AH} : abuiltin Try.prog .len [22] [sg] H' = some (.int .i64 (N.sigma.length : Int), H') := by rw [h.hsg.len Try.underlying22 H', List.length_map]
theorem netLenA (h : NetBox H g sg ar en N) {H' : AH} : abuiltin Try.prog .len [23] [ar] H' = some (.int .i64 (N.arcs.length : Int), H') := by rw [h.har.len Try.underlying23 H', List.length_map]
theorem netLenE (h : NetBox H g sg ar en N) {H' : AH} : abuiltin Try.prog .len [24] [en] H' = some (.int .i64 (N.ends.length : Int), H') := by rw [h.hen.len Try.underlying24 H', List.length_map]
theorem eqT_int {d : Nat} {a b : Int} : eqT Try.prog (d + 1) 3 (.int .i64 a) (.int .i64 b) = some (decide (a = b)) := by
  simp only [eqT, Try.underlying3, kindEq_self, cond_true, intEq_eq]; rfl
end
end Go.Proofs.Ytcgbiedfbacgpaa
