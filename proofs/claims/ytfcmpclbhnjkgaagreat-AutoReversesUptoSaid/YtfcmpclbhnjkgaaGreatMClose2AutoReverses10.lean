/- A part of the proof: IsLong, DataIn. -/
import Derived.Test.YtfcmpclbhnjkgaaGreatMClose2AutoReverses9
import Derived.Test.YtfcmpclbhnjkgaaGreatMClose2AutoReverses6
import Derived.Test.YtfcmpclbhnjkgaaGreatRows
set_option linter.unusedVariables false
set_option linter.unusedSimpArgs false
/- Whether lists have far too many texts, or bytes. -/
set_option maxHeartbeats 4000000
set_option maxRecDepth 20000
set_option linter.unusedSimpArgs false
set_option linter.unusedVariables false
set_option pp.deepTerms.threshold 8
namespace Go.Proofs.YtfcmpclbhnjkgaaGreat
open Go Go.Proofs Go.Proofs.Sh
def textN (ws : List (List ByteArray)) : Nat := (ws.map fun w => sizes w + w.length).sum
theorem sizes_append (a b : List ByteArray) : sizes (a ++ b) = sizes a + sizes b := by simp [sizes]
theorem textN_append (a b : List (List ByteArray)) : textN (a ++ b) = textN a + textN b := by simp [textN]
theorem textN_split {ws : List (List ByteArray)} {i q : Nat} {w : List ByteArray} (h : ws[i]? = some w) (hq : q ≤ w.length) : textN (ws.take i) + (sizes (w.take q) + q) ≤ textN ws := by
  have hi := (List.getElem?_eq_some_iff.1 h).1
  have e : ws = ws.take i ++ (w :: ws.drop (i + 1)) := by
    conv => lhs; rw [← List.take_append_drop i ws]
    congr 1
    rw [List.drop_eq_getElem_cons hi, (List.getElem?_eq_some_iff.1 h).2]
  have e2 : textN ws = textN (ws.take i) + (sizes w + w.length + textN (ws.drop (i + 1))) := by
    conv => lhs; rw [e]
    rw [textN_append]; rfl
  have e3 : sizes w = sizes (w.take q) + sizes (w.drop q) := by rw [← sizes_append, List.take_append_drop]
  omega
theorem isLong {H : AH} {v : Value} {vals : List Value} {ws : List (List ByteArray)} (h : JagR H v 1 (ws.map fun w => w.map strCell) vals) (hl : ws.length ≤ 1048576) (hw1 : ∀ w ∈ ws, w.length ≤ 1048576 ∧ ∀ x ∈ w, x.size ≤ 1048576) (hw : Wf H) :
    Sh.Call Tryz.prog (knows 10) 21 [v] H (fun r H' => H' = H ∧ r = .bool (decide (16384 < textN ws))) := by
  refine call_of rfl Tryz.func21 rfl (Nat.le_of_ble_eq_true rfl) ?_
  have hres : Tryz.f21.results.toList = [.tmp 2] := rfl
  have hlen : ∀ H', abuiltin Tryz.prog .len [29] [v] H' = some (.int .i64 (ws.length : Int), H') := fun H' => by
    rw [h.sl.len Tryz.underlying29, List.length_map, h.len, List.length_map]
  have e1 : ∀ c : Nat, decide ((c : Int) ≤ 16384) = decide (c ≤ 16384) := fun c => decide_eq_decide.2 (by omega)
  have e2 : ∀ c : Nat, decide ((16384 : Int) < (c : Int)) = decide (16384 < c) := fun c => decide_eq_decide.2 (by omega)
  simp only [↓Sh.dn, sx, Nat.reduceBEq, reduceCtorEq, Nat.reduceEqDiff]
  refine wp_for ws.length 4 (List.range' 3 37) (fun i F H' => H' = H ∧ ∃ c : Nat, F.get 3 = some (.int .i64 (c : Int)) ∧ c ≤ textN ws ∧ (c ≤ 16384 → c = textN (ws.take i)) ∧ c ≤ 2000000) (by simp only [↓Sh.dn, sx, Nat.reduceBEq, reduceCtorEq, Nat.reduceEqDiff]) ⟨rfl, 0, by simp only [↓Sh.dn, sx, Nat.reduceBEq, reduceCtorEq, Nat.reduceEqDiff]; rfl, Nat.zero_le _, fun _ => by simp [textN], by omega⟩ ?_ ?_
  · rintro i F H' hi hF f4 ⟨rfl, c, f3, hct, hce, hcb⟩ k
    have f0 := hF 0 rfl
    simp only [↓Sh.dn, sx, Nat.reduceBEq, reduceCtorEq, Nat.reduceEqDiff] at f0
    have hget : ws[i]? = some ws[i] := List.getElem?_eq_getElem hi
    obtain ⟨hwl, hwx⟩ := hw1 _ (List.getElem_mem hi)
    have htk : ws.take (i + 1) = ws.take i ++ [ws[i]] := by rw [List.take_add_one, List.getElem?_eq_getElem hi]; rfl
    generalize ws[i] = w at hget hwl hwx htk
    obtain ⟨ga, oa, ka, wv, hia, hca, hsl⟩ := h.at Tryz.underlying29 size_22 (i := i) (r := w.map strCell) (by rw [List.getElem?_map, hget]; rfl)
    have hlw : ∀ H', abuiltin Tryz.prog .len [22] [wv] H' = some (.int .i64 (w.length : Int), H') := fun H' => by rw [hsl.len Tryz.underlying22, List.length_map]
    have hfull : textN (ws.take (i + 1)) = textN (ws.take i) + (sizes w + w.length) := by rw [htk, textN_append]; simp [textN]
    simp only [↓Sh.dn, sx, Nat.reduceBEq, reduceCtorEq, Nat.reduceEqDiff, f0, f3, f4, hlen, nat_lt, hi, decide_true, e1]
    by_cases hc : c ≤ 16384
    case neg =>
      have hbig : decide (16384 < textN ws) = true := decide_eq_true (by omega)
      have hc' : decide (16384 < c) = true := decide_eq_true (by omega)
      simp only [↓Sh.dn, sx, Nat.reduceBEq, reduceCtorEq, Nat.reduceEqDiff, hc, decide_false, f3, e2, hres, hc', hbig]
    simp only [↓Sh.dn, sx, Nat.reduceBEq, reduceCtorEq, Nat.reduceEqDiff, hc, decide_true]
    -- behind the list
    have after : ∀ (F2 : Fr) (H2 : AH) (c2 : Nat), F2.get 3 = some (.int .i64 (c2 : Int)) → c2 ≤ textN ws → (c2 ≤ 16384 → c2 = textN (ws.take (i + 1))) → c2 ≤ 2000000 → True := fun _ _ _ _ _ _ _ => trivial
    refine wp_for w.length 5 (List.range' 16 24 ++ [3, 5]) (fun q F'' H'' => H'' = H' ∧ ∃ c : Nat, F''.get 3 = some (.int .i64 (c : Int)) ∧ c ≤ textN ws ∧ (c ≤ 16384 → c = textN (ws.take i) + (sizes (w.take q) + q)) ∧ c ≤ 2000000) (by simp only [↓Sh.dn, sx, Nat.reduceBEq, reduceCtorEq, Nat.reduceEqDiff]) ⟨rfl, c, by simp only [↓Sh.dn, sx, Nat.reduceBEq, reduceCtorEq, Nat.reduceEqDiff, f3], hct, fun h => by rw [← hce h]; simp [sizes], hcb⟩ ?_ ?_
    · rintro q F'' H'' hq hF'' f5 ⟨rfl, c, f3', hct, hce, hcb⟩ k2
      have g0 := hF'' 0 rfl
      have g4 := hF'' 4 rfl
      simp only [↓Sh.dn, sx, Nat.reduceBEq, reduceCtorEq, Nat.reduceEqDiff, f0, f4] at g0 g4
      obtain ⟨p2, hia2, hc2⟩ := Sl.elem (s := 1) Tryz.underlying22 size_9 hsl (i := q) (u := .string w[q]) (by rw [List.getElem?_map, List.getElem?_eq_getElem hq]; rfl)
      have hmem : w[q] ∈ w := List.getElem_mem hq
      have hqtk : sizes (w.take (q + 1)) = sizes (w.take q) + w[q].size := by
        rw [List.take_add_one, List.getElem?_eq_getElem hq, Option.toList_some, sizes_append]; simp [sizes]
      generalize w[q] = x at hc2 hmem hqtk
      have hxs := hwx x hmem
      simp only [↓Sh.dn, sx, Nat.reduceBEq, reduceCtorEq, Nat.reduceEqDiff, f3', f5, g0, g4, hia, hca, hlw, nat_lt, hq, decide_true, e1]
      by_cases hc : c ≤ 16384
      case neg =>
        simp only [↓Sh.dn, sx, Nat.reduceBEq, reduceCtorEq, Nat.reduceEqDiff, hc, decide_false, f3', g4, wrap_succ hi hl]
        refine k _ _ ?_ (by simp only [↓Sh.dn, sx, Nat.reduceBEq, reduceCtorEq, Nat.reduceEqDiff]) ⟨rfl, c, by simp only [↓Sh.dn, sx, Nat.reduceBEq, reduceCtorEq, Nat.reduceEqDiff, f3'], hct, fun h => absurd h hc, hcb⟩
        repeat refine Same.put ?_ rfl
        exact Same.trans (by repeat (first | refine Same.put ?_ rfl | exact Same.rfl' _)) (hF''.sub rfl)
      have hsp := textN_split (q := q + 1) hget hq
      have w1 : IntKind.wrap .i64 (1 + (x.size : Int)) = ((1 + x.size : Nat) : Int) := by rw [wrap64 (by omega) (by omega)]; omega
      have w2 : IntKind.wrap .i64 ((c : Int) + ((1 + x.size : Nat) : Int)) = ((c + (1 + x.size) : Nat) : Int) := by rw [wrap64 (by omega) (by omega)]; omega
      simp only [↓Sh.dn, sx, Nat.reduceBEq, reduceCtorEq, Nat.reduceEqDiff, hc, decide_true, f3', f5, g0, g4, hia, hca, hia2, hc2, w1, w2, wrap_succ hq hwl]
      refine k2 _ _ (by repeat (first | refine Same.put ?_ rfl | exact Same.rfl' _)) (by simp only [↓Sh.dn, sx, Nat.reduceBEq, reduceCtorEq, Nat.reduceEqDiff]) ⟨rfl, c + (1 + x.size), by simp only [↓Sh.dn, sx, Nat.reduceBEq, reduceCtorEq, Nat.reduceEqDiff], ?_, fun _ => ?_, by omega⟩
      · have := hce hc; omega
      · have := hce hc; omega
    · rintro F'' H'' hF'' f5 ⟨rfl, c, f3', hct, hce, hcb⟩
      have g0 := hF'' 0 rfl
      have g4 := hF'' 4 rfl
      simp only [↓Sh.dn, sx, Nat.reduceBEq, reduceCtorEq, Nat.reduceEqDiff, f0, f4] at g0 g4
      rw [List.take_length] at hce
      simp only [↓Sh.dn, sx, Nat.reduceBEq, reduceCtorEq, Nat.reduceEqDiff, f3', f5, g0, g4, hia, hca, hlw, nat_lt, Nat.lt_irrefl, decide_false, wrap_succ hi hl]
      refine k _ _ ?_ (by simp only [↓Sh.dn, sx, Nat.reduceBEq, reduceCtorEq, Nat.reduceEqDiff]) ⟨rfl, c, by simp only [↓Sh.dn, sx, Nat.reduceBEq, reduceCtorEq, Nat.reduceEqDiff, f3'], hct, fun h => by rw [hfull]; exact hce h, hcb⟩
      repeat refine Same.put ?_ rfl
      exact Same.trans (by repeat (first | refine Same.put ?_ rfl | exact Same.rfl' _)) (hF''.sub rfl)
  · rintro F H' hF f4 ⟨rfl, c, f3, hct, hce, hcb⟩
    have f0 := hF 0 rfl
    simp only [↓Sh.dn, sx, Nat.reduceBEq, reduceCtorEq, Nat.reduceEqDiff] at f0
    rw [List.take_length] at hce
    have : decide (16384 < c) = decide (16384 < textN ws) := decide_eq_decide.2 (by
      by_cases h : c ≤ 16384
      · rw [hce h]
      · omega)
    simp only [↓Sh.dn, sx, Nat.reduceBEq, reduceCtorEq, Nat.reduceEqDiff, f0, f3, f4, hlen, nat_lt, Nat.lt_irrefl, decide_false, e2, hres, this]
end Go.Proofs.YtfcmpclbhnjkgaaGreat
/- What comes in: lists of texts, nets. -/
set_option maxHeartbeats 4000000
set_option maxRecDepth 20000
set_option linter.unusedSimpArgs false
set_option linter.unusedVariables false
namespace Go.Proofs.YtfcmpclbhnjkgaaGreat
open Go Go.Proofs Go.Proofs.Sh
section
variable {K : Type}
theorem bulk_pos : ∀ (d : DataW K), 1 ≤ Rows.uptoBulk d
  | .lit l => by cases l <;> simp [Rows.uptoBulk]
  | .nil => by simp [Rows.uptoBulk]
  | .ptr d => by simp [Rows.uptoBulk]
  | .slice a b => by simp [Rows.uptoBulk]
  | .agg a => by simp [Rows.uptoBulk]
  | .iface n d => by simp [Rows.uptoBulk]
  | .map es => by simp [Rows.uptoBulk]
  | .held h => by simp [Rows.uptoBulk]
theorem bulk_len : ∀ (ds : List (DataW K)), ds.length ≤ Rows.uptoBulkAll ds
  | [] => Nat.zero_le _
  | d :: ds => by
    have := bulk_pos d
    have := bulk_len ds
    simp only [Rows.uptoBulkAll, List.length_cons]; omega
theorem bulk_mem : ∀ {ds : List (DataW K)} {d : DataW K}, d ∈ ds → Rows.uptoBulk d ≤ Rows.uptoBulkAll ds
  | d :: ds, x, h => by
    simp only [Rows.uptoBulkAll]
    rcases List.mem_cons.1 h with rfl | h
    · omega
    · have := bulk_mem h; omega
theorem exists_map {α β : Type} {f : α → β} : ∀ {l : List β}, (∀ x ∈ l, ∃ a, x = f a) → ∃ L : List α, l = L.map f
  | [], _ => ⟨[], rfl⟩
  | x :: l, h => by
    obtain ⟨a, rfl⟩ := h x List.mem_cons_self
    obtain ⟨L, rfl⟩ := exists_map (l := l) fun y hy => h y (List.mem_cons_of_mem _ hy)
    exact ⟨a :: L, rfl⟩
/-- A list whose elements read so. -/
theorem list_in {α : Type} {enc : α → List Value} {H : AH} {f t e s : Nat} {cs : List Value} {d : DataW K} (R : α → DataW K → Prop) (hu : Tryz.prog.underlying t = some (.slice e)) (hs : Tryz.prog.cellsOf e = s)
    (hR : ∀ f x y, RD Tryz.prog H f e x y → ∃ a, x = enc a ∧ R a y) (h : RD Tryz.prog H f t cs d) :
    ∃ u, ∃ L : List α, ∃ ds, cs = [u] ∧ Sl H u s (L.map enc) ∧ L.length = ds.length ∧ (∀ (i : Nat) a y, L[i]? = some a → ds[i]? = some y → enc a = enc a → ∃ a', enc a' = enc a ∧ R a' y) ∧ Rows.uptoBulkAll ds < Rows.uptoBulk d := by
  obtain ⟨l, ds, ⟨u, rfl, hsl⟩, hlen, hel, hd⟩ := RD.slice hu hs h
  have hget : ∀ (i : Nat) x, l[i]? = some x → ∃ y a, ds[i]? = some y ∧ x = enc a ∧ R a y := by
    intro i x hx
    have hi := (List.getElem?_eq_some_iff.1 hx).1
    have hy : ds[i]? = some (ds[i]'(by omega)) := List.getElem?_eq_getElem (by omega)
    obtain ⟨f', hf⟩ := hel i x _ hx hy
    obtain ⟨a, h1, h2⟩ := hR f' x _ hf
    exact ⟨_, a, hy, h1, h2⟩
  obtain ⟨L, rfl⟩ := exists_map (f := enc) (l := l) fun x hx => by
    obtain ⟨i, hi⟩ := List.mem_iff_getElem?.1 hx
    obtain ⟨y, a, _, h2, _⟩ := hget i x hi
    exact ⟨a, h2⟩
  refine ⟨u, L, ds, rfl, hsl, by simpa using hlen, fun i a y ha hy _ => ?_, ?_⟩
  · obtain ⟨y', a', h1, h2, h3⟩ := hget i (enc a) (by simp [ha])
    rw [hy] at h1
    injection h1 with h1
    subst h1
    exact ⟨a', h2.symm, h3⟩
  · rcases hd with ⟨rfl, rfl⟩ | ⟨sp, rfl⟩
    · simp [Rows.uptoBulk, Rows.uptoBulkAll]
    · simp only [Rows.uptoBulk]; omega
theorem str_in {H : AH} {f : Nat} {x : List Value} {y : DataW K} (h : RD Tryz.prog H f 9 x y) : ∃ s, x = strCell s ∧ y = .lit (.string s.data.toList) := RD.str Tryz.underlying9 h
theorem int_in {H : AH} {f : Nat} {x : List Value} {y : DataW K} (h : RD Tryz.prog H f 3 x y) : ∃ n, x = [.int .i64 n] ∧ -9223372036854775808 ≤ n ∧ n < 9223372036854775808 := RD.int Tryz.underlying3 h
theorem bulk_strs : ∀ {L : List ByteArray} {ds : List (DataW K)}, L.length = ds.length → (∀ (i : Nat) a y, L[i]? = some a → ds[i]? = some y → y = .lit (.string a.data.toList)) → Rows.uptoBulkAll ds = sizes L + L.length
  | [], [], _, _ => rfl
  | [], _ :: _, h, _ => by simp at h
  | _ :: _, [], h, _ => by simp at h
  | a :: L, d :: ds, h, hr => by
    have h0 := hr 0 a d rfl rfl
    have ih := bulk_strs (L := L) (ds := ds) (by simpa using h) fun i a y h1 h2 => hr (i + 1) a y (by simpa using h1) (by simpa using h2)
    subst h0
    have e : a.data.toList.length = a.size := by rw [Array.length_toList]; rfl
    simp only [Rows.uptoBulkAll, Rows.uptoBulk, ih, sizes, List.map_cons, List.sum_cons, List.length_cons, e]
    omega
theorem strCell_inj {a b : ByteArray} (h : strCell a = strCell b) : a = b := by
  simp only [strCell, List.cons.injEq, Value.string.injEq, and_true] at h; exact h
/-- A list of texts. -/
theorem strs_in {H : AH} {f : Nat} {cs : List Value} {d : DataW K} (h : RD Tryz.prog H f 22 cs d) : ∃ u, ∃ L : List ByteArray, cs = [u] ∧ Sl H u 1 (L.map strCell) ∧ sizes L + L.length < Rows.uptoBulk d := by
  obtain ⟨u, L, ds, h1, h2, h3, h4, h5⟩ := list_in (enc := strCell) (fun s y => y = .lit (.string s.data.toList)) Tryz.underlying22 cells_9 (fun f x y hf => str_in hf) h
  refine ⟨u, L, h1, h2, ?_⟩
  rw [← bulk_strs h3 fun i a y ha hy => by
    obtain ⟨a', e, hr⟩ := h4 i a y ha hy rfl
    rw [← strCell_inj e]; exact hr]
  exact h5
theorem sizes_mem {L : List ByteArray} {x : ByteArray} (h : x ∈ L) : x.size ≤ sizes L := by
  induction L with
  | nil => cases h
  | cons a L ih =>
    simp only [sizes, List.map_cons, List.sum_cons] at ih ⊢
    rcases List.mem_cons.1 h with rfl | h
    · omega
    · have := ih h; omega
theorem four {c : List Value} (h : c.length = 4) : ∃ a b x y, c = [a, b, x, y] := by
  match c, h with
  | [a, b, x, y], _ => exact ⟨a, b, x, y, rfl⟩
theorem five {c : List Value} (h : c.length = 5) : ∃ a b x y z, c = [a, b, x, y, z] := by
  match c, h with
  | [a, b, x, y, z], _ => exact ⟨a, b, x, y, z, rfl⟩
theorem two {c : List Value} (h : c.length = 2) : ∃ a b, c = [a, b] := by
  match c, h with
  | [a, b], _ => exact ⟨a, b, rfl⟩
theorem get_some {ds : List (DataW K)} {n i : Nat} (h : ds.length = n) (hi : i < n) : ∃ x, ds[i]? = some x := ⟨ds[i]'(by omega), List.getElem?_eq_getElem (by omega)⟩
theorem arc_in {H : AH} {f : Nat} {x : List Value} {y : DataW K} (h : RD Tryz.prog H f 54 x y) : ∃ a : ArcD, x = a.cells ∧ True := by
  · obtain ⟨f', ds, rfl, h1, h2, h3⟩ := RD.struct Tryz.underlying54 h
    rw [cells_54] at h1
    obtain ⟨a, b, c, d, e, rfl⟩ := five h1
    have h2' : ds.length = 5 := h2
    obtain ⟨d0, e0⟩ := get_some h2' (i := 0) (by omega)
    obtain ⟨d1, e1⟩ := get_some h2' (i := 1) (by omega)
    obtain ⟨d2, e2⟩ := get_some h2' (i := 2) (by omega)
    obtain ⟨d3, e3⟩ := get_some h2' (i := 3) (by omega)
    obtain ⟨d4, e4⟩ := get_some h2' (i := 4) (by omega)
    have g0 := h3 0 _ _ rfl e0
    have g1 := h3 1 _ _ rfl e1
    have g2 := h3 2 _ _ rfl e2
    have g3 := h3 3 _ _ rfl e3
    have g4 := h3 4 _ _ rfl e4
    simp only [cells_3, cells_9, List.drop_zero, List.drop_succ_cons, List.take_succ_cons, List.take_zero, List.getElem_toArray, List.getElem_cons_zero, List.getElem_cons_succ] at g0 g1 g2 g3 g4
    obtain ⟨n0, q0, _⟩ := int_in g0
    obtain ⟨s1, q1, _⟩ := str_in g1
    obtain ⟨s2, q2, _⟩ := str_in g2
    obtain ⟨n3, q3, _⟩ := int_in g3
    obtain ⟨n4, q4, _⟩ := int_in g4
    simp only [strCell, List.cons.injEq, and_true] at q0 q1 q2 q3 q4
    subst q0 q1 q2 q3 q4
    exact ⟨⟨n0, s1, s2, n3, n4⟩, rfl, trivial⟩
theorem end_in {H : AH} {f : Nat} {x : List Value} {y : DataW K} (h : RD Tryz.prog H f 56 x y) : ∃ a : EndD, x = a.cells ∧ True := by
  · obtain ⟨f', ds, rfl, h1, h2, h3⟩ := RD.struct Tryz.underlying56 h
    rw [cells_56] at h1
    obtain ⟨a, b, rfl⟩ := two h1
    have h2' : ds.length = 2 := h2
    obtain ⟨d0, e0⟩ := get_some h2' (i := 0) (by omega)
    obtain ⟨d1, e1⟩ := get_some h2' (i := 1) (by omega)
    have g0 := h3 0 _ _ rfl e0
    have g1 := h3 1 _ _ rfl e1
    simp only [cells_3, List.drop_zero, List.drop_succ_cons, List.take_succ_cons, List.take_zero, List.getElem_toArray, List.getElem_cons_zero, List.getElem_cons_succ] at g0 g1
    obtain ⟨n0, q0, _⟩ := int_in g0
    obtain ⟨n1, q1, _⟩ := int_in g1
    simp only [List.cons.injEq, and_true] at q0 q1
    subst q0 q1
    exact ⟨⟨n0, n1⟩, rfl, trivial⟩
theorem agg_of {v : Value} {a b : Value} {l : List Value} (h : vcells v = a :: b :: l) : v = .agg (a :: b :: l).toArray := by
  cases v <;> simp only [vcells] at h <;> try (cases h; done)
  rw [← h]
/-- A net. -/
theorem net_in {H : AH} {f : Nat} {v : Value} {d : DataW K} (h : RD Tryz.prog H f 26 (vcells v) d) (hb : Rows.uptoBulk d ≤ 1048576) : ∃ N : NetD, Nonempty (NetAt H v N) ∧ NetSmall N ∧ sizes N.sigma ≤ 1048576 := by
  · obtain ⟨f', ds, rfl, h1, h2, h3⟩ := RD.struct Tryz.underlying26 h
    rw [cells_26] at h1
    obtain ⟨a, b, c, e, hv⟩ := four h1
    rw [hv] at h3
    have h2' : ds.length = 4 := h2
    obtain ⟨d0, e0⟩ := get_some h2' (i := 0) (by omega)
    obtain ⟨d1, e1⟩ := get_some h2' (i := 1) (by omega)
    obtain ⟨d2, e2⟩ := get_some h2' (i := 2) (by omega)
    obtain ⟨d3, e3⟩ := get_some h2' (i := 3) (by omega)
    have g0 := h3 0 _ _ rfl e0
    have g1 := h3 1 _ _ rfl e1
    have g2 := h3 2 _ _ rfl e2
    have g3 := h3 3 _ _ rfl e3
    simp only [cells_3, cells_22, cells_23, cells_24, List.drop_zero, List.drop_succ_cons, List.take_succ_cons, List.take_zero, List.getElem_toArray, List.getElem_cons_zero, List.getElem_cons_succ] at g0 g1 g2 g3
    obtain ⟨u0, L0, q0, s0, b0⟩ := strs_in g0
    obtain ⟨n1, q1, _⟩ := int_in g1
    obtain ⟨u2, L2, ds2, q2, s2, k2, _, b2⟩ := list_in (enc := ArcD.cells) (fun _ _ => True) Tryz.underlying23 cells_54 (fun f x y hf => arc_in hf) g2
    obtain ⟨u3, L3, ds3, q3, s3, k3, _, b3⟩ := list_in (enc := EndD.cells) (fun _ _ => True) Tryz.underlying24 cells_56 (fun f x y hf => end_in hf) g3
    simp only [List.cons.injEq, and_true] at q0 q1 q2 q3
    subst q0 q1 q2 q3
    have m0 := bulk_mem (List.mem_of_getElem? e0)
    have m2 := bulk_mem (List.mem_of_getElem? e2)
    have m3 := bulk_mem (List.mem_of_getElem? e3)
    have l2 := bulk_len ds2
    have l3 := bulk_len ds3
    simp only [Rows.uptoBulk] at hb
    refine ⟨⟨L0, n1, L2, L3⟩, ⟨⟨a, c, e, agg_of hv, s0, s2, s3⟩⟩, ⟨?_, ?_, ?_, fun x hx => ?_⟩, ?_⟩
    · show L0.length ≤ _; omega
    · show L2.length ≤ _; omega
    · show L3.length ≤ _; omega
    · have := sizes_mem hx; show x.size ≤ _; have h' : x.size ≤ sizes L0 := this; omega
    · show sizes L0 ≤ _; omega
end
end Go.Proofs.YtfcmpclbhnjkgaaGreat
