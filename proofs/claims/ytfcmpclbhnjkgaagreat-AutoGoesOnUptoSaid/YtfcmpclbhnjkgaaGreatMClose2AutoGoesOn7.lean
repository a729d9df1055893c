/- A part of the proof: GraphRead, GraphClosed, IndexFuncNat, GraphRun, GraphBack, GraphFrom, RefGraph, SortIntsInt, SortInts, RefClose, RefRun, RefRev, RefSpread, RefAlive, SymsSmall, IndexFuncStr, SymsValidate, WordVal, RefAcc, GraphCheck, IndexFuncArc, Priced, AutoValidate, AutoAcc, InsSortStr. -/
import Derived.Test.YtfcmpclbhnjkgaaGreatMClose2AutoGoesOn3
import Derived.Test.YtfcmpclbhnjkgaaGreatMClose2AutoGoesOn5
import Derived.Test.YtfcmpclbhnjkgaaGreatMClose2AutoGoesOn6
import Derived.Test.YtfcmpclbhnjkgaaGreatMClose2AutoGoesOn4
set_option linter.unusedVariables false
set_option linter.unusedSimpArgs false
/- Reading the graph of the program; maps of marks. -/
set_option maxHeartbeats 4000000
set_option maxRecDepth 20000
set_option linter.unusedSimpArgs false
set_option linter.unusedVariables false
set_option pp.deepTerms.threshold 8
namespace Go.Proofs.YtfcmpclbhnjkgaaGreat
open Go Go.Proofs Go.Proofs.Sh
def natK (n : Nat) : Value := .int .i64 (n : Int)
theorem natK_may (a : Nat) : mayKey Tryz.prog 3 (natK a) = true := by
  unfold mayKey natK
  simp only [plainKey, keyT, eqDepth, Tryz.underlying3, Bool.and_self]; rfl
theorem natK_eq (a b : Nat) : eqT Tryz.prog eqDepth 3 (natK a) (natK b) = some (decide (a = b)) := by
  unfold natK
  show eqT Tryz.prog (19 + 1) _ _ _ = _
  rw [eqT_int]
  congr 1
  exact decide_eq_decide.2 Int.ofNat_inj
/-- A map of bools that has true for some numbers. -/
def BMap (H : AH) (g : Nat) (D : List Nat) : Prop := MapIs H g natK (D.map fun t => (t, .bool true))
theorem mapGet_set (D : List Nat) (t : Nat) : mapGet (D.map fun t => (t, Value.bool true)) t = if t ∈ D then some (.bool true) else none := by
  unfold mapGet
  by_cases h : t ∈ D
  · rw [if_pos h]
    cases hf : (D.map fun t => (t, Value.bool true)).find? fun p => decide (t = p.1) with
    | none =>
      rw [List.find?_eq_none] at hf
      have := hf (t, .bool true) (List.mem_map.2 ⟨t, h, rfl⟩)
      simp at this
    | some p =>
      have := List.mem_of_find?_eq_some hf
      obtain ⟨u, _, rfl⟩ := List.mem_map.1 this
      rfl
  · rw [if_neg h]
    have : (D.map fun t => (t, Value.bool true)).find? (fun p => decide (t = p.1)) = none := by
      rw [List.find?_eq_none]
      rintro p hp
      obtain ⟨u, hu, rfl⟩ := List.mem_map.1 hp
      simp only [decide_eq_true_eq]
      rintro rfl
      exact h hu
    rw [this]; rfl
theorem BMap.look {H : AH} {g : Nat} {D : List Nat} (h : BMap H g D) (t : Nat) : alookup Tryz.prog 93 (.map (some g)) (.int .i64 (t : Int)) false H = some (.bool (decide (t ∈ D))) := by
  have := MapIs.look (P := Tryz.prog) (ok := false) Tryz.underlying93 zero_4 natK_may natK_eq h t
  rw [mapGet_set] at this
  unfold natK at this
  rw [this]
  by_cases hd : t ∈ D <;> simp [hd]
theorem BMap.add {H : AH} {g : Nat} {D : List Nat} (h : BMap H g D) (hw : Wf H) {t : Nat} (ht : t ∉ D) : ∃ H', amapUpdate Tryz.prog 93 (.map (some g)) (.int .i64 (t : Int)) (.bool true) H = some H' ∧ BMap H' g (D ++ [t]) ∧ Chg (fun y => y = g) H H' ∧ H'.next = H.next := by
  obtain ⟨H', h1, h2, h3, h4⟩ := MapIs.add (P := Tryz.prog) Tryz.underlying93 natK_may natK_eq h hw (a := t) (by rw [mapGet_set, if_neg ht]) (.bool true)
  exact ⟨H', h1, by unfold BMap; rw [List.map_append]; exact h2, h3, h4⟩
theorem pushSet {base : Nat} {H' : AH} {z : Value} {os ob : Option Nat} {l : List Nat} (t : Nat) (hb : base ≤ H'.next) (hw : Wf H') (ho : ∀ y, os = some y → y < H'.next) (hl : LB H' base os z l ob) (hn : l.length ≤ 1073741823) :
    ∃ a cap w' H4 ob', z = .slice a l.length cap ∧ abuildSlice Tryz.prog 89 1 [(0, .int .i64 (t : Int))] H' = some (.slice (some ⟨H'.next, 0, some 0⟩) 1 1, (H'.new 1 [.int .i64 (t : Int)]).2) ∧
        abuiltin Tryz.prog .append [89, 89] [.slice a l.length cap, .slice (some ⟨H'.next, 0, some 0⟩) 1 1] (H'.new 1 [.int .i64 (t : Int)]).2 = some (w', H4) ∧
        LB H4 base os w' (l ++ [t]) ob' ∧ Chg (fun y => ob = some y) H' H4 ∧ ∀ y, ob' = some y → ob = some y ∨ H'.next ≤ y := by
  obtain ⟨a, cap, w', H4, ob', e1, e2, e3, e4, e5⟩ := hl.bf.push hw (x := natC t) rfl
  rw [List.length_map] at e1 e2
  have ha := app1_89 (H := H') (base := a) (len := l.length) (cap := cap) (x := natC t) rfl hn
  rw [e2] at ha
  refine ⟨a, cap, w', H4, ob', e1, build1_89 (H := H') (x := .int .i64 (t : Int)) rfl rfl, ha, ⟨by rw [List.map_append]; exact e3, fun y hy => ?_⟩, e4, e5⟩
  rcases e5 y hy with h1 | h1
  · exact hl.fr y h1
  · exact ⟨by omega, fun h2 => by have := ho y h2; omega⟩
theorem pushNat2 {base : Nat} {H' : AH} {z : Value} {os ob : Option Nat} {l : List Nat} (t : Nat) (hb : base ≤ H'.next) (hw : Wf H') (ho : ∀ y, os = some y → y < H'.next) (hl : LB H' base os z l ob) (hn : l.length ≤ 1073741823) :
    ∃ a cap w' H4 ob', z = .slice a l.length cap ∧ abuildSlice Tryz.prog 74 1 [(0, .int .i64 (t : Int))] H' = some (.slice (some ⟨H'.next, 0, some 0⟩) 1 1, (H'.new 1 [.int .i64 (t : Int)]).2) ∧
        abuiltin Tryz.prog .append [74, 74] [.slice a l.length cap, .slice (some ⟨H'.next, 0, some 0⟩) 1 1] (H'.new 1 [.int .i64 (t : Int)]).2 = some (w', H4) ∧
        LB H4 base os w' (l ++ [t]) ob' ∧ Chg (fun y => ob = some y) H' H4 ∧ ∀ y, ob' = some y → ob = some y ∨ H'.next ≤ y := by
  obtain ⟨a, cap, w', H4, ob', e1, e2, e3, e4, e5⟩ := hl.bf.push hw (x := natC t) rfl
  rw [List.length_map] at e1 e2
  have ha := app1_74 (H := H') (base := a) (len := l.length) (cap := cap) (x := natC t) rfl hn
  rw [e2] at ha
  refine ⟨a, cap, w', H4, ob', e1, build1_74 (H := H') (x := .int .i64 (t : Int)) rfl rfl, ha, ⟨by rw [List.map_append]; exact e3, fun y hy => ?_⟩, e4, e5⟩
  rcases e5 y hy with h1 | h1
  · exact hl.fr y h1
  · exact ⟨by omega, fun h2 => by have := ho y h2; omega⟩
theorem geZero {H : AH} : anew Tryz.prog 96 H (.agg #[.int .i64 0, .int .i64 0, .int .i64 0, .int .i64 0]) = some (.pointer (some ⟨H.next, 0, some 0⟩), (H.new 4 [.int .i64 0, .int .i64 0, .int .i64 0, .int .i64 0]).2) := new_agg (vs := [.int .i64 0, .int .i64 0, .int .i64 0, .int .i64 0]) size_96 rfl rfl
theorem geStore {H : AH} {e : Nat × Int × Int × Int} {p : Addr} : astore Tryz.prog 96 H (.agg (gCell e).toArray) (.pointer (some p)) = H.write p (gCell e) := store_agg size_96 rfl rfl
theorem geOver {H : AH} {e : Nat × Int × Int × Int} {x0 x1 x2 x3 : Value} : (H.new 4 [x0, x1, x2, x3]).2.write ⟨H.next, 0, some 0⟩ (gCell e) = some (H.new 4 (gCell e)).2 := write_new rfl
theorem ge0 {H : AH} {e : Nat × Int × Int × Int} : (H.new 4 (gCell e)).2.cell ⟨H.next, 0, some 0⟩ = some (.int .i64 (e.1 : Int)) := cell_new _ _ _
theorem ge1 {H : AH} {e : Nat × Int × Int × Int} : (H.new 4 (gCell e)).2.cell ⟨H.next, 1, some 0⟩ = some (.int .i64 e.2.1) := cell_new _ _ _
theorem ge2 {H : AH} {e : Nat × Int × Int × Int} : (H.new 4 (gCell e)).2.cell ⟨H.next, 2, some 0⟩ = some (.int .i64 e.2.2.1) := cell_new _ _ _
theorem ge3 {H : AH} {e : Nat × Int × Int × Int} : (H.new 4 (gCell e)).2.cell ⟨H.next, 3, some 0⟩ = some (.int .i64 e.2.2.2) := cell_new _ _ _
theorem geAll {H : AH} {e : Nat × Int × Int × Int} : (H.new 4 (gCell e)).2.cells ⟨H.next, 0, some 0⟩ 4 = some (gCell e) := (Sh.Obj.new (H := H) 4 (gCell e)).cells (i := 0) (n := 4) (by simp [gCell])
/-- A row of the graph. -/
theorem PG.row {H : AH} {g n rb : Nat} {E : List (List (Nat × Int × Int × Int))} {ends : List Int} {sv av ev cv : Value} {vals : List Value} {sigma : List ByteArray} {costs : List Int} (h : PG H g n rb E ends sv av ev cv vals sigma costs) {s : Nat} {r : List (Nat × Int × Int × Int)} (hr : E[s]? = some r) :
    ∃ p w, aindexAddr Tryz.prog 73 av (.int .i64 (s : Int)) = some (.pointer (some p)) ∧ H.cell p = some w ∧ Sl H w 4 (r.map gCell) ∧ ∀ H', abuiltin Tryz.prog .len [94] [w] H' = some (.int .i64 (r.length : Int), H') := by
  obtain ⟨ga, oa, ka, w, h1, h2, h3⟩ := h.gr.jag.at Tryz.underlying73 size_94 (i := s) (r := r.map gCell) (by unfold gCells; rw [List.getElem?_map, hr]; rfl)
  exact ⟨_, w, h1, h2, h3, fun H' => by rw [h3.len Tryz.underlying94, List.length_map]⟩
theorem PG.edge {H : AH} {w : Value} {r : List (Nat × Int × Int × Int)} (h : Sl H w 4 (r.map gCell)) {q : Nat} (hq : q < r.length) :
    ∃ p, aindexAddr Tryz.prog 94 w (.int .i64 (q : Int)) = some (.pointer (some p)) ∧ H.cells p 4 = some (gCell r[q]) := by
  obtain ⟨g', o', k', h1, h2, _⟩ := h.at Tryz.underlying94 size_96 (i := q) (x := gCell r[q]) (by simp [hq]) .i64
  exact ⟨_, h1, h2⟩
end Go.Proofs.YtfcmpclbhnjkgaaGreat
/- (*graph.Graph).closed: what is reached from states without reading a symbol. -/
set_option maxHeartbeats 4000000
set_option maxRecDepth 20000
set_option linter.unusedSimpArgs false
set_option linter.unusedVariables false
set_option pp.deepTerms.threshold 8
namespace Go.Proofs.YtfcmpclbhnjkgaaGreat
open Go Go.Proofs Go.Proofs.Sh
theorem graphClosed {H : AH} {g n : Nat} {E : List (List (Nat × Int × Int × Int))} {ends : List Int} {sv av ev cv u : Value} {vals : List Value} {sigma : List ByteArray} {costs : List Int} {L : List Nat} (h : PG H g n 60000 E ends sv av ev cv vals sigma costs) (hL : Sl H u 1 (L.map natC)) (hlt : ∀ t ∈ L, t < n) (hll : L.length ≤ 500000000) (hw : Wf H) :
    Sh.Call Tryz.prog (knows 10) 125 [.pointer (some ⟨g, 0, some 0⟩), u] H (fun r H' => SetOut H H' r n (Clo (goesP E fun k => k < 0) fun s => s ∈ L)) := by
  refine call_of rfl Tryz.func125 rfl (Nat.le_of_ble_eq_true rfl) ?_
  have hres : Tryz.f125.results.toList = [.tmp 4] := rfl
  have k1 := Kept.push hw (.map [])
  have m1 : BMap (H.push (.map [])).2 H.next [] := MapIs.new
  simp only [↓Sh.dn, sx, Nat.reduceBEq, reduceCtorEq, Nat.reduceEqDiff]
  have hn1 := h.n1
  have hn2 := h.n2
  obtain ⟨r1, H2, hd2, hk2, tb0, htb0, hft0⟩ := cloneBigInt (l := L.map natC) (hL.grow (k1.grow hw)) (by rw [List.length_map]; omega) k1.wf
  refine ⟨_, _, hd2, ?_⟩
  obtain ⟨G, hG⟩ : ∃ G, H.next = G := ⟨_, rfl⟩
  have hk02 := k1.trans hk2
  have m2 : BMap H2 H.next [] := m1.keep (hk2.old _ (Nat.lt_succ_self _))
  have hl2 : LB H2 H.next (some H.next) r1 L tb0 := ⟨htb0, fun y hy => by
    have := hft0 y hy
    have : H.next < (H.push (.map [])).2.next := Nat.lt_succ_self _
    exact ⟨by omega, fun e => by have := Option.some.inj e; omega⟩⟩
  refine wp_while (m := n * 60000 + L.length) (fun m F H' => F.get 0 = some (.pointer (some ⟨g, 0, some 0⟩)) ∧ F.get 5 = some (.map (some H.next)) ∧ Kept H H' ∧ ∃ zo, F.get 6 = some zo ∧ ∃ zt, F.get 7 = some zt ∧ ∃ out todo ob tb, m = (n - out.length) * 60000 + todo.length ∧ BMap H' H.next out ∧ LB H' H.next (some H.next) zo out ob ∧ LB H' H.next (some H.next) zt todo tb ∧ (∀ y, ob = some y → tb ≠ some y) ∧
      out.Nodup ∧ (∀ t ∈ out, t < n) ∧ (∀ t ∈ todo, t < n) ∧ todo.length ≤ L.length + out.length * 60000 ∧ (∀ t ∈ L, t ∈ out ∨ t ∈ todo) ∧ (∀ t ∈ out, Clo (goesP E fun k => k < 0) (fun s => s ∈ L) t) ∧ (∀ t ∈ todo, Clo (goesP E fun k => k < 0) (fun s => s ∈ L) t) ∧ ∀ s ∈ out, ∀ t, goesP E (fun k => k < 0) s t → t ∈ out ∨ t ∈ todo)
    ⟨by simp only [↓Sh.dn, sx, Nat.reduceBEq, reduceCtorEq, Nat.reduceEqDiff], by simp only [↓Sh.dn, sx, Nat.reduceBEq, reduceCtorEq, Nat.reduceEqDiff], hk02, _, by simp only [↓Sh.dn, sx, Nat.reduceBEq, reduceCtorEq, Nat.reduceEqDiff], r1, by simp only [↓Sh.dn, sx, Nat.reduceBEq, reduceCtorEq, Nat.reduceEqDiff], [], L, none, tb0, by simp, m2, ⟨.void none, fun y hy => by cases hy⟩, hl2, fun y hy => (by cases hy), List.nodup_nil, fun t ht => (by cases ht), hlt, by omega, fun t ht => .inr ht, fun t ht => (by cases ht), fun t ht => .base ht, fun s hs => by cases hs⟩ ?_
  rintro m F H' ⟨f0, f5, hk, zo, f6, zt, f7, out, todo, ob, tb, rfl, hB, hlo, hlt', hsep, hnd, hon, htn, htl, hLo, hco, hct, hcl⟩ k
  have hout := nodup_le hnd hon
  have hlen := hlt'.bf.toSl.len Tryz.underlying74 H'
  rw [List.length_map] at hlen
  rcases List.eq_nil_or_concat todo with h0 | ⟨td, s, h0⟩
  · subst h0
    have h00 : decide ((0 : Int) < ((([] : List Nat).length : Nat) : Int)) = false := rfl
    obtain ⟨rr, H3, hd3, l', hperm, hsrt, hb3, hc3⟩ := sortSetInt (l := out.map fun (x : Nat) => (x : Int)) (by rw [natC_int]; exact hlo.bf) (by rw [List.length_map]; omega) hk.wf
    simp only [↓Sh.dn, sx, Nat.reduceBEq, reduceCtorEq, Nat.reduceEqDiff, f6, f7, hlen, h00]
    refine ⟨_, _, hd3, ?_⟩
    have hl' : l'.map (fun x => [Value.int .i64 x]) = (l'.map Int.toNat).map natC := by
      rw [List.map_map]
      refine List.map_congr_left fun x hx => ?_
      obtain ⟨y, _, rfl⟩ := List.mem_map.1 (hperm.mem_iff.1 hx)
      rfl
    rw [hl'] at hb3
    have hp2 : (l'.map Int.toNat).Perm out := by
      have := hperm.map Int.toNat
      rw [List.map_map] at this
      have e : out.map (Int.toNat ∘ fun (x : Nat) => (x : Int)) = out := by
        conv => rhs; rw [← List.map_id out]
        exact List.map_congr_left fun x _ => rfl
      rw [e] at this; exact this
    simp only [↓Sh.dn, sx, Nat.reduceBEq, reduceCtorEq, Nat.reduceEqDiff, f6, hres]
    refine ⟨hk.then (Nat.le_refl _) (hc3.weak fun y hy => (hlo.fr y hy).1), l'.map Int.toNat, ob, hb3, fun y hy => (hlo.fr y hy).1, hp2.nodup_iff.2 hnd, fun t ht => hon t (hp2.mem_iff.1 ht), fun t => ?_⟩
    rw [hp2.mem_iff]
    exact Clo.iff (fun t ht => (hLo t ht).resolve_right (by simp)) hco (fun s hs t ht => (hcl s hs t ht).resolve_right (by simp)) t
  · rw [List.concat_eq_append] at h0
    subst h0
    have hpos : decide ((0 : Int) < (((td ++ [s]).length : Nat) : Int)) = true := by simp
    have wl : IntKind.wrap .i64 ((((td ++ [s]).length : Nat) : Int) - 1) = (td.length : Int) := by
      rw [List.length_append, List.length_singleton] at htl ⊢
      rw [wrap64 (by omega) (by omega)]; omega
    obtain ⟨p1, hia1, hc1⟩ := natSl Tryz.underlying74 size_3 hlt'.bf.toSl (i := td.length) (by simp)
    have hgs : (td ++ [s])[td.length]'(by simp) = s := by simp
    rw [hgs] at hc1
    have hbp : Buf H' 1 zt (td.map natC ++ [natC s]) tb := by have := hlt'.bf; rwa [List.map_append] at this
    obtain ⟨zt2, hsl, hb2⟩ := hbp.pop
    have hsl2 := hsl (P := Tryz.prog) (H' := H') Tryz.underlying74 size_3
    rw [List.length_map] at hsl2
    have hlt2 : LB H' H.next (some H.next) zt2 td tb := ⟨hb2, hlt'.fr⟩
    have hlk := hB.look s
    have hsn : s < n := htn s (by simp)
    simp only [↓Sh.dn, sx, Nat.reduceBEq, reduceCtorEq, Nat.reduceEqDiff, f0, f5, f6, f7, hlen, hpos, wl, hia1, hc1, hsl2, hlk]
    have hts := hct s (by simp)
    by_cases hs : s ∈ out
    · simp only [↓Sh.dn, sx, Nat.reduceBEq, reduceCtorEq, Nat.reduceEqDiff, hs, decide_true]
      refine k ((n - out.length) * 60000 + td.length) _ _ (by rw [List.length_append]; simp) ⟨by simp only [↓Sh.dn, sx, Nat.reduceBEq, reduceCtorEq, Nat.reduceEqDiff, f0], by simp only [↓Sh.dn, sx, Nat.reduceBEq, reduceCtorEq, Nat.reduceEqDiff, f5], hk, zo, by simp only [↓Sh.dn, sx, Nat.reduceBEq, reduceCtorEq, Nat.reduceEqDiff, f6], zt2, by simp only [↓Sh.dn, sx, Nat.reduceBEq, reduceCtorEq, Nat.reduceEqDiff], out, td, ob, tb, rfl, hB, hlo, hlt2, hsep, hnd, hon, fun t ht => htn t (List.mem_append_left _ ht), by rw [List.length_append] at htl; omega, fun t ht => ?_, hco, fun t ht => hct t (List.mem_append_left _ ht), fun x hx t ht => ?_⟩
      · rcases hLo t ht with h1 | h1
        · exact .inl h1
        · rcases List.mem_append.1 h1 with h2 | h2
          · exact .inr h2
          · rw [List.mem_singleton.1 h2]; exact .inl hs
      · rcases hcl x hx t ht with h1 | h1
        · exact .inl h1
        · rcases List.mem_append.1 h1 with h2 | h2
          · exact .inr h2
          · rw [List.mem_singleton.1 h2]; exact .inl hs
    · have hol : out.length < n := by
        have := nodup_le (l := s :: out) (List.nodup_cons.2 ⟨hs, hnd⟩) (fun x hx => by
          rcases List.mem_cons.1 hx with rfl | hx
          · exact hsn
          · exact hon x hx)
        rw [List.length_cons] at this; omega
      obtain ⟨H3, e1, hB3, c3, n3⟩ := hB.add hk.wf hs
      have hlo3 := hlo.chg hk.wf c3 fun y hy => by rw [hy]
      have hlt3 := hlt2.chg hk.wf c3 fun y hy => by rw [hy]
      have hk3 : Kept H H3 := hk.then (Nat.le_refl _) (c3.weak fun y hy => by rw [hy]; exact Nat.le_refl _)
      have hGl : H.next < H3.next := by have := hB.lt hk.wf; rw [n3]; exact this
      obtain ⟨a, cap, w', H4, ob2, rfl, e2, e3, hlo4, c4, f4⟩ := pushSet s hk3.next hk3.wf (fun y hy => by rw [← Option.some.inj hy]; exact hGl) hlo3 (by omega)
      have hk4 : Kept H H4 := hk3.then (Nat.le_refl _) (c4.weak fun y hy => (hlo3.fr y hy).1)
      have hB4 : BMap H4 H.next (out ++ [s]) := hB3.keep (c4.old _ hGl fun hy => (hlo3.fr _ hy).2 rfl)
      have hlt4 : LB H4 H.next (some H.next) zt2 td tb := ⟨hlt3.bf.chg hk3.wf c4 fun y hy hy2 => hsep y hy2 hy, hlt3.fr⟩
      have hsep4 : ∀ y, ob2 = some y → tb ≠ some y := fun y hy hy2 => by
        rcases f4 y hy with h1 | h1
        · exact hsep y h1 hy2
        · have := hlt3.bf.lt hk3.wf y hy2; omega
      obtain ⟨r, hr⟩ : ∃ r, E[s]? = some r := ⟨E[s]'(by rw [h.le]; exact hsn), List.getElem?_eq_getElem _⟩
      obtain ⟨hrl, hrt⟩ := h.to s r hr
      obtain ⟨pr, wr, hiar, hcr, hsr, hlr⟩ := PG.row h hr
      have hn := h.gr.arr.cell 1
      have hpg : ∀ {H'}, Kept H H' → H'.cell ⟨g, 1, some 0⟩ = some av ∧ H'.cell pr = some wr ∧ Sl H' wr 4 (r.map gCell) := fun hk => ⟨cell_grow (hk.grow hw) hn, cell_grow (hk.grow hw) hcr, hsr.grow (hk.grow hw)⟩
      obtain ⟨q1, q2, q3⟩ := hpg hk4
      simp only [↓Sh.dn, sx, Nat.reduceBEq, reduceCtorEq, Nat.reduceEqDiff, hs, decide_false, f0, f5, e1, f6, e2, e3, q1, hiar, q2, hlr]
      refine wp_for r.length 45 (List.range' 45 20 ++ [7, 10]) (fun q F'' H'' => Kept H H'' ∧ ∃ zt', F''.get 7 = some zt' ∧ ∃ td' tb', BMap H'' H.next (out ++ [s]) ∧ LB H'' H.next (some H.next) w' (out ++ [s]) ob2 ∧ LB H'' H.next (some H.next) zt' td' tb' ∧ (∀ y, ob2 = some y → tb' ≠ some y) ∧ (∀ t ∈ td', t < n) ∧ td'.length ≤ td.length + q ∧ (∀ t ∈ td, t ∈ td') ∧ (∀ t ∈ td', Clo (goesP E fun k => k < 0) (fun s => s ∈ L) t) ∧ ∀ e ∈ r.take q, e.2.1 < 0 → e.1 ∈ out ++ [s] ∨ e.1 ∈ td') (by simp only [↓Sh.dn, sx, Nat.reduceBEq, reduceCtorEq, Nat.reduceEqDiff])
        ⟨hk4, zt2, by simp only [↓Sh.dn, sx, Nat.reduceBEq, reduceCtorEq, Nat.reduceEqDiff], td, tb, hB4, hlo4, hlt4, hsep4, fun t ht => htn t (List.mem_append_left _ ht), by omega, fun t ht => ht, fun t ht => hct t (List.mem_append_left _ ht), fun e he => by simp at he⟩ ?_ ?_
      · rintro q F'' H'' hq hF'' f45 ⟨hk'', zt', f7', td', tb', hB', hlo', hlt'', hsep', htn', htl', hsub, hct', hed⟩ k2
        have g5 := hF'' 5 rfl
        have g43 := hF'' 43 rfl
        have g44 := hF'' 44 rfl
        simp only [↓Sh.dn, sx, Nat.reduceBEq, reduceCtorEq, Nat.reduceEqDiff, f5] at g5 g43 g44
        obtain ⟨q1, q2, q3⟩ := hpg hk''
        obtain ⟨pe, hiae, hce⟩ := PG.edge q3 hq
        have hrq : r[q] ∈ r := List.getElem_mem hq
        have htake : r.take (q + 1) = r.take q ++ [r[q]] := by rw [List.take_add_one, List.getElem?_eq_getElem hq]; rfl
        generalize r[q] = e at hce hrq htake
        have kn := Kept.new hk''.wf 4 (gCell e)
        have hk3 := hk''.trans kn
        have hB5 : BMap (H''.new 4 (gCell e)).2 H.next (out ++ [s]) := hB'.keep (kn.old _ (hB'.lt hk''.wf))
        have hlo5 := hlo'.kept hk''.wf kn
        have hlt5 := hlt''.kept hk''.wf kn
        have hlk2 := hB5.look e.1
        simp only [↓Sh.dn, sx, Nat.reduceBEq, reduceCtorEq, Nat.reduceEqDiff, f7', f45, g5, g43, g44, hiae, hce, nat_lt, hq, decide_true, Option.map_some, geZero, geStore, geOver, ge0, ge1]
        have hnext : ∀ {td2 : List Nat} {tb2 : Option Nat} {z2 : Value} {F2 : Fr} {H2 : AH}, Same (List.range' 45 20 ++ [7, 10]) F'' F2 → F2.get 7 = some z2 → F2.get 45 = some (.int .i64 ((q + 1 : Nat) : Int)) → Kept H H2 → BMap H2 H.next (out ++ [s]) → LB H2 H.next (some H.next) w' (out ++ [s]) ob2 → LB H2 H.next (some H.next) z2 td2 tb2 → (∀ y, ob2 = some y → tb2 ≠ some y) → (td2 = td' ∨ td2 = td' ++ [e.1] ∧ e.2.1 < 0) → (e.2.1 < 0 → e.1 ∈ out ++ [s] ∨ e.1 ∈ td2) →
            wp Tryz.prog (knows 10) _ _ F2 H2 := fun {td2 tb2 z2 F2 H2} a1 a2 a3 a4 a5 a6 a7 a8 a9 a10 => k2 F2 H2 a1 a3 ⟨a4, z2, a2, td2, tb2, a5, a6, a7, a8, fun t ht => by
              rcases a9 with h1 | ⟨h1, _⟩
              · rw [h1] at ht; exact htn' t ht
              · rw [h1] at ht
                rcases List.mem_append.1 ht with h2 | h2
                · exact htn' t h2
                · rw [List.mem_singleton.1 h2]; exact hrt e hrq, by
              rcases a9 with h1 | ⟨h1, _⟩
              · rw [h1]; omega
              · rw [h1, List.length_append, List.length_singleton]; omega, fun t ht => by
              rcases a9 with h1 | ⟨h1, _⟩
              · rw [h1]; exact hsub t ht
              · rw [h1]; exact List.mem_append_left _ (hsub t ht), fun t ht => by
              rcases a9 with h1 | ⟨h1, hneg⟩
              · rw [h1] at ht; exact hct' t ht
              · rw [h1] at ht
                rcases List.mem_append.1 ht with h2 | h2
                · exact hct' t h2
                · rw [List.mem_singleton.1 h2]; exact .step hts ⟨r, hr, e, hrq, rfl, hneg⟩, fun x hx hxn => by
              rw [htake] at hx
              rcases List.mem_append.1 hx with h2 | h2
              · rcases hed x h2 hxn with h3 | h3
                · exact .inl h3
                · right
                  rcases a9 with h1 | ⟨h1, _⟩
                  · rw [h1]; exact h3
                  · rw [h1]; exact List.mem_append_left _ h3
              · rw [List.mem_singleton.1 h2] at hxn ⊢; exact a10 hxn⟩
        have hrl' : r.length ≤ 4611686018427387904 := Nat.le_trans hrl (by decide)
        by_cases hneg : e.2.1 < 0
        · by_cases hin : e.1 ∈ out ++ [s]
          · simp only [↓Sh.dn, sx, Nat.reduceBEq, reduceCtorEq, Nat.reduceEqDiff, hneg, decide_true, g5, ge0, hlk2, hin, f45, wrap_succ' hq hrl']
            exact hnext (by repeat (first | refine Same.put ?_ rfl | exact Same.rfl' _)) (by simp only [↓Sh.dn, sx, Nat.reduceBEq, reduceCtorEq, Nat.reduceEqDiff, f7']) (by simp only [↓Sh.dn, sx, Nat.reduceBEq, reduceCtorEq, Nat.reduceEqDiff]) hk3 hB5 hlo5 hlt5 hsep' (.inl rfl) fun _ => .inl hin
          · have hG5 : H.next < (H''.new 4 (gCell e)).2.next := hB5.lt hk3.wf
            obtain ⟨a6, cap6, w6, H6, tb6, rfl, e4, e5, hlt6, c6, f6'⟩ := pushNat2 e.1 hk3.next hk3.wf (fun y hy => by rw [← Option.some.inj hy]; exact hG5) hlt5 (by rw [List.length_append] at htl; have := Nat.mul_le_mul_right 60000 (Nat.le_of_lt hol); omega)
            have hk6 : Kept H H6 := hk3.then (Nat.le_refl _) (c6.weak fun y hy => (hlt5.fr y hy).1)
            have hB6 : BMap H6 H.next (out ++ [s]) := hB5.keep (c6.old _ hG5 fun hy => (hlt5.fr _ hy).2 rfl)
            have hlo6 : LB H6 H.next (some H.next) w' (out ++ [s]) ob2 := ⟨hlo5.bf.chg hk3.wf c6 fun y hy hy2 => hsep' y hy hy2, hlo5.fr⟩
            have hsep6 : ∀ y, ob2 = some y → tb6 ≠ some y := fun y hy hy2 => by
              rcases f6' y hy2 with h1 | h1
              · exact hsep' y hy h1
              · have := hlo5.bf.lt hk3.wf y hy; omega
            simp only [↓Sh.dn, sx, Nat.reduceBEq, reduceCtorEq, Nat.reduceEqDiff, hneg, decide_true, g5, ge0, hlk2, hin, decide_false, f7', e4, e5, f45, wrap_succ' hq hrl']
            exact hnext (by repeat (first | refine Same.put ?_ rfl | exact Same.rfl' _)) (by simp only [↓Sh.dn, sx, Nat.reduceBEq, reduceCtorEq, Nat.reduceEqDiff]) (by simp only [↓Sh.dn, sx, Nat.reduceBEq, reduceCtorEq, Nat.reduceEqDiff]) hk6 hB6 hlo6 hlt6 hsep6 (.inr ⟨rfl, hneg⟩) fun _ => .inr (List.mem_append_right _ List.mem_cons_self)
        · simp only [↓Sh.dn, sx, Nat.reduceBEq, reduceCtorEq, Nat.reduceEqDiff, hneg, decide_false, f45, wrap_succ' hq hrl']
          exact hnext (by repeat (first | refine Same.put ?_ rfl | exact Same.rfl' _)) (by simp only [↓Sh.dn, sx, Nat.reduceBEq, reduceCtorEq, Nat.reduceEqDiff, f7']) (by simp only [↓Sh.dn, sx, Nat.reduceBEq, reduceCtorEq, Nat.reduceEqDiff]) hk3 hB5 hlo5 hlt5 hsep' (.inl rfl) fun h => absurd h hneg
      · rintro F'' H'' hF'' f45 ⟨hk'', zt', f7', td', tb', hB', hlo', hlt'', hsep', htn', htl', hsub, hct', hed⟩
        have g0 := hF'' 0 rfl
        have g5 := hF'' 5 rfl
        have g6 := hF'' 6 rfl
        have g43 := hF'' 43 rfl
        have g44 := hF'' 44 rfl
        simp only [↓Sh.dn, sx, Nat.reduceBEq, reduceCtorEq, Nat.reduceEqDiff, f0, f5] at g0 g5 g6 g43 g44
        rw [List.take_length] at hed
        simp only [↓Sh.dn, sx, Nat.reduceBEq, reduceCtorEq, Nat.reduceEqDiff, f45, g44, nat_lt, Nat.lt_irrefl, decide_false]
        have hol2 : (out ++ [s]).length = out.length + 1 := by simp
        refine k ((n - (out ++ [s]).length) * 60000 + td'.length) _ _ (by rw [hol2, List.length_append, List.length_singleton]; have : n - out.length = (n - (out.length + 1)) + 1 := by omega
                                                                          rw [this, Nat.add_mul]; omega) ⟨by simp only [↓Sh.dn, sx, Nat.reduceBEq, reduceCtorEq, Nat.reduceEqDiff, g0], by simp only [↓Sh.dn, sx, Nat.reduceBEq, reduceCtorEq, Nat.reduceEqDiff, g5], hk'', w', by simp only [↓Sh.dn, sx, Nat.reduceBEq, reduceCtorEq, Nat.reduceEqDiff, g6], zt', by simp only [↓Sh.dn, sx, Nat.reduceBEq, reduceCtorEq, Nat.reduceEqDiff, f7'], out ++ [s], td', ob2, tb', rfl, hB', hlo', hlt'', hsep', ?_, fun t ht => ?_, htn', ?_, fun t ht => ?_, fun t ht => ?_, hct', fun x hx t ht => ?_⟩
        · rw [List.nodup_append]
          refine ⟨hnd, by simp, fun a ha b hb => ?_⟩
          rw [List.mem_singleton] at hb
          rintro rfl
          exact hs (hb ▸ ha)
        · rcases List.mem_append.1 ht with h1 | h1
          · exact hon t h1
          · rw [List.mem_singleton.1 h1]; exact hsn
        · rw [hol2, Nat.add_mul]; rw [List.length_append] at htl; omega
        · rcases hLo t ht with h1 | h1
          · exact .inl (List.mem_append_left _ h1)
          · rcases List.mem_append.1 h1 with h2 | h2
            · exact .inr (hsub t h2)
            · exact .inl (List.mem_append_right _ h2)
        · rcases List.mem_append.1 ht with h1 | h1
          · exact hco t h1
          · rw [List.mem_singleton.1 h1]; exact hts
        · rcases List.mem_append.1 hx with h1 | h1
          · rcases hcl x h1 t ht with h2 | h2
            · exact .inl (List.mem_append_left _ h2)
            · rcases List.mem_append.1 h2 with h3 | h3
              · exact .inr (hsub t h3)
              · exact .inl (List.mem_append_right _ h3)
          · rw [List.mem_singleton.1 h1] at ht
            obtain ⟨r', hr2, e, he, he1, he2⟩ := ht
            rw [hr] at hr2
            rw [← Option.some.inj hr2] at he
            rw [← he1]
            exact hed e he he2
end Go.Proofs.YtfcmpclbhnjkgaaGreat
/- slices.IndexFunc and ContainsFunc: whether some element is so. -/
set_option maxHeartbeats 4000000
set_option maxRecDepth 20000
set_option linter.unusedSimpArgs false
set_option linter.unusedVariables false
set_option pp.deepTerms.threshold 8
namespace Go.Proofs.YtfcmpclbhnjkgaaGreat
open Go Go.Proofs Go.Proofs.Sh
theorem indexFuncNat {H : AH} {v : Value} {l : List Nat} {fid : Nat} {caps : List Value} (p : Nat → Bool) (hs : Sl H v 1 (l.map natC)) (hl : l.length ≤ 1048576) (hw : Wf H)
    (hp : ∀ H', Kept H H' → ∀ x ∈ l, Sh.Call Tryz.prog (knows 10) fid ((fun n => Value.int .i64 (n : Int)) x :: caps) H' (fun r H'' => Kept H' H'' ∧ r = .bool (p x))) :
    Sh.Call Tryz.prog (knows 10) 104 [v, .func (.func fid) #[] caps.toArray] H (fun r H' => Kept H H' ∧ ∃ k : Int, r = .int .i64 k ∧ decide (0 ≤ k) = l.any p) := by
  refine call_of rfl Tryz.func104 rfl (Nat.le_of_ble_eq_true rfl) ?_
  have hres : Tryz.f104.results.toList = [.tmp 4] := rfl
  have hlen := hs.len Tryz.underlying89 H
  simp only [↓Sh.dn, sx, Nat.reduceBEq, reduceCtorEq, Nat.reduceEqDiff, hlen, List.length_map]
  refine wp_for l.length 8 [5, 8, 9, 10, 11, 12, 13, 14, 15, 16, 18] (fun i F H' => Kept H H' ∧ (l.take i).any p = false) (by simp only [↓Sh.dn, sx, Nat.reduceBEq, reduceCtorEq, Nat.reduceEqDiff]) ⟨Kept.refl hw, rfl⟩ ?_ ?_
  · rintro i F H' hlt hF f8 ⟨hk, hall⟩ k
    have hs1 := hs.grow (hk.grow hw)
    obtain ⟨g, o, kk, hia, hc, hcc⟩ := hs1.at Tryz.underlying89 size_3 (i := i) (x := natC l[i]) (by simp [hlt]) .i64
    have hld := hcc 0 _ rfl; simp only [Nat.add_zero] at hld
    have f0 := hF 0 rfl
    have f1 := hF 1 rfl
    have f7 := hF 7 rfl
    simp only [↓Sh.dn, sx, Nat.reduceBEq, reduceCtorEq, Nat.reduceEqDiff] at f0 f1 f7
    obtain ⟨r, H2, hd, hk2, rfl⟩ := hp H' hk l[i] (List.getElem_mem hlt)
    simp only [↓Sh.dn, sx, Nat.reduceBEq, reduceCtorEq, Nat.reduceEqDiff, f0, f1, f7, f8, nat_lt, hlt, decide_true, hia, hld, Option.map_some, forall_const, reduceCtorEq, false_implies, and_true, true_and]
    refine ⟨_, _, hd, ?_⟩
    cases hpv : p l[i] with
    | true =>
      simp only [↓Sh.dn, sx, Nat.reduceBEq, reduceCtorEq, Nat.reduceEqDiff, hres, forall_const, reduceCtorEq, false_implies, and_true, true_and]
      refine ⟨hk.trans hk2, _, rfl, ?_⟩
      rw [List.any_eq_true.2 ⟨_, List.getElem_mem hlt, hpv⟩]
      simp
    | false =>
      simp only [↓Sh.dn, sx, Nat.reduceBEq, reduceCtorEq, Nat.reduceEqDiff, hres, f8, wrap_succ hlt hl, forall_const, reduceCtorEq, false_implies, and_true, true_and]
      refine k _ _ (by repeat (first | refine Same.put ?_ rfl | exact Same.rfl' _)) (by simp only [↓Sh.dn, sx, Nat.reduceBEq, reduceCtorEq, Nat.reduceEqDiff]) ⟨hk.trans hk2, ?_⟩
      rw [List.take_add_one, List.getElem?_eq_getElem hlt]
      simp only [Option.toList, List.any_append, hall, List.any_cons, List.any_nil, hpv, Bool.or_false]
  · rintro F H' hF f8 ⟨hk, hall⟩
    have f7 := hF 7 rfl
    simp only [↓Sh.dn, sx, Nat.reduceBEq, reduceCtorEq, Nat.reduceEqDiff] at f7
    rw [List.take_length] at hall
    simp only [↓Sh.dn, sx, Nat.reduceBEq, reduceCtorEq, Nat.reduceEqDiff, f7, f8, nat_lt, Nat.lt_irrefl, decide_false, hres, forall_const, reduceCtorEq, false_implies, and_true, true_and]
    exact ⟨hk, _, rfl, by rw [hall]; rfl⟩
theorem containsFuncNat {H : AH} {v : Value} {l : List Nat} {fid : Nat} {caps : List Value} (p : Nat → Bool) (hs : Sl H v 1 (l.map natC)) (hl : l.length ≤ 1048576) (hw : Wf H)
    (hp : ∀ H', Kept H H' → ∀ x ∈ l, Sh.Call Tryz.prog (knows 10) fid ((fun n => Value.int .i64 (n : Int)) x :: caps) H' (fun r H'' => Kept H' H'' ∧ r = .bool (p x))) :
    Sh.Call Tryz.prog (knows 10) 63 [v, .func (.func fid) #[] caps.toArray] H (fun r H' => Kept H H' ∧ r = .bool (l.any p)) := by
  refine call_of rfl Tryz.func63 rfl (Nat.le_of_ble_eq_true rfl) ?_
  have hres : Tryz.f63.results.toList = [.tmp 4] := rfl
  obtain ⟨r, H2, hd, hk, k, rfl, hk0⟩ := indexFuncNat p hs hl hw hp
  simp only [↓Sh.dn, sx, Nat.reduceBEq, reduceCtorEq, Nat.reduceEqDiff]
  refine ⟨_, _, hd, ?_⟩
  simp only [↓Sh.dn, sx, Nat.reduceBEq, reduceCtorEq, Nat.reduceEqDiff, hres, hk0, and_true]
  exact hk
end Go.Proofs.YtfcmpclbhnjkgaaGreat
/- (*graph.Graph).Begin, Step, Run, HasEnd. -/
set_option maxHeartbeats 4000000
set_option maxRecDepth 20000
set_option linter.unusedSimpArgs false
set_option linter.unusedVariables false
set_option pp.deepTerms.threshold 8
namespace Go.Proofs.YtfcmpclbhnjkgaaGreat
open Go Go.Proofs Go.Proofs.Sh
theorem graphBegin {H : AH} {g n : Nat} {E : List (List (Nat × Int × Int × Int))} {ends : List Int} {sv av ev cv : Value} {vals : List Value} {sigma : List ByteArray} {costs : List Int} (h : PG H g n 60000 E ends sv av ev cv vals sigma costs) (hw : Wf H) :
    Sh.Call Tryz.prog (knows 10) 98 [.pointer (some ⟨g, 0, some 0⟩)] H (fun r H' => SetOut H H' r n (Clo (goesP E fun k => k < 0) fun s => s = 0)) := by
  refine call_of rfl Tryz.func98 rfl (Nat.le_of_ble_eq_true rfl) ?_
  have hres : Tryz.f98.results.toList = [.tmp 2] := rfl
  have hbs := build1_74 (H := H) (x := .int .i64 0) rfl rfl
  have k2 := Kept.new hw 1 [.int .i64 0]
  have hS : Sl (H.new 1 [.int .i64 0]).2 (.slice (some ⟨H.next, 0, some 0⟩) 1 1) 1 (([0] : List Nat).map natC) :=
    (Buf.fresh (H := H) (s := 1) (xs := [natC 0]) hw (by intro x hx; rw [List.mem_singleton.1 hx]; rfl) (by simp) 1 rfl).toSl
  obtain ⟨r, H3, hd3, ho⟩ := graphClosed (h.kept hw k2) hS (fun t ht => by rw [List.mem_singleton.1 ht]; exact h.n1) (by decide) k2.wf
  simp only [↓Sh.dn, sx, Nat.reduceBEq, reduceCtorEq, Nat.reduceEqDiff, hbs, vcells]
  refine ⟨_, _, hd3, ?_⟩
  simp only [↓Sh.dn, sx, Nat.reduceBEq, reduceCtorEq, Nat.reduceEqDiff, hres]
  exact (ho.pre k2).iff fun t => by simp only [List.mem_singleton]
theorem graphStep {H : AH} {g n : Nat} {E : List (List (Nat × Int × Int × Int))} {ends : List Int} {sv av ev cv u : Value} {vals : List Value} {sigma : List ByteArray} {costs : List Int} {L : List Nat} {x : Int} (h : PG H g n 60000 E ends sv av ev cv vals sigma costs) (hL : Sl H u 1 (L.map natC)) (hlt : ∀ t ∈ L, t < n) (hll : L.length ≤ 3000) (hw : Wf H) :
    Sh.Call Tryz.prog (knows 10) 103 [.pointer (some ⟨g, 0, some 0⟩), u, .int .i64 x] H (fun r H' => SetOut H H' r n (Clo (goesP E fun k => k < 0) fun t => ∃ s, s ∈ L ∧ goesP E (fun k => k = x) s t)) := by
  refine call_of rfl Tryz.func103 rfl (Nat.le_of_ble_eq_true rfl) ?_
  have hres : Tryz.f103.results.toList = [.tmp 6] := rfl
  have hn2 := h.n2
  have hlen := hL.len Tryz.underlying89 H
  rw [List.length_map] at hlen
  have hn := h.gr.arr.cell 1
  simp only [↓Sh.dn, sx, Nat.reduceBEq, reduceCtorEq, Nat.reduceEqDiff, hlen]
  refine wp_for L.length 14 (List.range' 14 27 ++ [7, 9, 11]) (fun i F H' => Kept H H' ∧ ∃ z, F.get 7 = some z ∧ ∃ out ob, LB H' H.next none z out ob ∧ out.length ≤ i * 60000 ∧ (∀ t ∈ out, t < n) ∧ ∀ t, t ∈ out ↔ ∃ s ∈ L.take i, goesP E (fun k => k = x) s t) (by simp only [↓Sh.dn, sx, Nat.reduceBEq, reduceCtorEq, Nat.reduceEqDiff]) ⟨Kept.refl hw, _, by simp only [↓Sh.dn, sx, Nat.reduceBEq, reduceCtorEq, Nat.reduceEqDiff], [], none, ⟨.void none, fun y hy => by cases hy⟩, by simp, fun t ht => (by cases ht), fun t => by simp⟩ ?_ ?_
  · rintro i F H' hi hF f14 ⟨hk, z, f7, out, ob, hl, hol, hon, hiff⟩ k
    have f0 := hF 0 rfl
    have f2 := hF 2 rfl
    have f12 := hF 12 rfl
    have f13 := hF 13 rfl
    simp only [↓Sh.dn, sx, Nat.reduceBEq, reduceCtorEq, Nat.reduceEqDiff] at f0 f2 f12 f13
    obtain ⟨p, hia, hc⟩ := natSl Tryz.underlying89 size_3 (hL.grow (hk.grow hw)) hi
    have htn : L[i] < n := hlt _ (List.getElem_mem hi)
    have htake : L.take (i + 1) = L.take i ++ [L[i]] := by rw [List.take_add_one, List.getElem?_eq_getElem hi]; rfl
    generalize L[i] = s at hc htn htake
    obtain ⟨r, hr⟩ : ∃ r, E[s]? = some r := ⟨E[s]'(by rw [h.le]; exact htn), List.getElem?_eq_getElem _⟩
    obtain ⟨hrl, hrt⟩ := h.to s r hr
    obtain ⟨pr, wr, hiar, hcr, hsr, hlr⟩ := PG.row h hr
    have q1 := cell_grow (hk.grow hw) hn
    have q2 := cell_grow (hk.grow hw) hcr
    simp only [↓Sh.dn, sx, Nat.reduceBEq, reduceCtorEq, Nat.reduceEqDiff, f0, f12, f13, f14, nat_lt, hi, decide_true, hia, hc, q1, hiar, q2, hlr]
    refine wp_for r.length 26 (List.range' 26 15 ++ [7, 11]) (fun q F'' H'' => Kept H H'' ∧ ∃ z', F''.get 7 = some z' ∧ ∃ out' ob', LB H'' H.next none z' out' ob' ∧ out'.length ≤ i * 60000 + q ∧ (∀ t ∈ out', t < n) ∧ ∀ t, t ∈ out' ↔ (∃ s ∈ L.take i, goesP E (fun k => k = x) s t) ∨ ∃ e ∈ r.take q, e.1 = t ∧ e.2.1 = x) (by simp only [↓Sh.dn, sx, Nat.reduceBEq, reduceCtorEq, Nat.reduceEqDiff]) ⟨hk, z, by simp only [↓Sh.dn, sx, Nat.reduceBEq, reduceCtorEq, Nat.reduceEqDiff, f7], out, ob, hl, Nat.le_trans hol (Nat.le_add_right _ _), hon, fun t => by rw [hiff t]; simp⟩ ?_ ?_
    · rintro q F'' H'' hq hF'' f26 ⟨hk'', z', f7', out', ob', hl', hol', hon', hiff'⟩ k2
      have g2 := hF'' 2 rfl
      have g24 := hF'' 24 rfl
      have g25 := hF'' 25 rfl
      simp only [↓Sh.dn, sx, Nat.reduceBEq, reduceCtorEq, Nat.reduceEqDiff, f2] at g2 g24 g25
      obtain ⟨pe, hiae, hce⟩ := PG.edge (hsr.grow (hk''.grow hw)) hq
      have hrq : r[q] ∈ r := List.getElem_mem hq
      have htk : r.take (q + 1) = r.take q ++ [r[q]] := by rw [List.take_add_one, List.getElem?_eq_getElem hq]; rfl
      generalize r[q] = e at hce hrq htk
      have kn := Kept.new hk''.wf 4 (gCell e)
      have hk3 := hk''.trans kn
      have hl3 := hl'.kept hk''.wf kn
      simp only [↓Sh.dn, sx, Nat.reduceBEq, reduceCtorEq, Nat.reduceEqDiff, f26, g2, g24, g25, hiae, hce, nat_lt, hq, decide_true, Option.map_some, geZero, geStore, geOver, ge0, ge1]
      have hj : ∀ t, (∃ e' ∈ r.take (q + 1), e'.1 = t ∧ e'.2.1 = x) ↔ (∃ e' ∈ r.take q, e'.1 = t ∧ e'.2.1 = x) ∨ e.1 = t ∧ e.2.1 = x := fun t => by
        rw [htk]
        simp only [List.mem_append, List.mem_singleton]
        constructor
        · rintro ⟨e', h1 | h1, h2⟩
          · exact .inl ⟨e', h1, h2⟩
          · subst h1; exact .inr h2
        · rintro (⟨e', h1, h2⟩ | h2)
          · exact ⟨e', .inl h1, h2⟩
          · exact ⟨e, .inr rfl, h2⟩
      by_cases he : e.2.1 = x
      · obtain ⟨a, cap, w', H4, ob2, rfl, e1, e2, e3, e4, e5⟩ := pushNat e.1 hk3 (fun y hy => by cases hy) hl3 (by omega)
        simp only [↓Sh.dn, sx, Nat.reduceBEq, reduceCtorEq, Nat.reduceEqDiff, he, decide_true, f7', f26, ge0, e1, e2, wrap_succ' hq (Nat.le_trans hrl (by decide))]
        refine k2 _ _ (by repeat (first | refine Same.put ?_ rfl | exact Same.rfl' _)) (by simp only [↓Sh.dn, sx, Nat.reduceBEq, reduceCtorEq, Nat.reduceEqDiff]) ⟨e3, w', by simp only [↓Sh.dn, sx, Nat.reduceBEq, reduceCtorEq, Nat.reduceEqDiff], out' ++ [e.1], ob2, e4, by rw [List.length_append]; simp; omega, fun t ht => ?_, fun t => ?_⟩
        · rcases List.mem_append.1 ht with h2 | h2
          · exact hon' t h2
          · rw [List.mem_singleton.1 h2]; exact hrt e hrq
        · rw [hj, List.mem_append, List.mem_singleton, hiff' t]
          constructor
          · rintro ((h1 | h1) | h1)
            · exact .inl h1
            · exact .inr (.inl h1)
            · exact .inr (.inr ⟨h1.symm, he⟩)
          · rintro (h1 | h1 | ⟨h1, _⟩)
            · exact .inl (.inl h1)
            · exact .inl (.inr h1)
            · exact .inr h1.symm
      · simp only [↓Sh.dn, sx, Nat.reduceBEq, reduceCtorEq, Nat.reduceEqDiff, he, decide_false, f26, wrap_succ' hq (Nat.le_trans hrl (by decide))]
        refine k2 _ _ (by repeat (first | refine Same.put ?_ rfl | exact Same.rfl' _)) (by simp only [↓Sh.dn, sx, Nat.reduceBEq, reduceCtorEq, Nat.reduceEqDiff]) ⟨hk3, z', by simp only [↓Sh.dn, sx, Nat.reduceBEq, reduceCtorEq, Nat.reduceEqDiff, f7'], out', ob', hl3, by omega, hon', fun t => ?_⟩
        rw [hj, hiff' t]
        simp [he]
    · rintro F'' H'' hF'' f26 ⟨hk'', z', f7', out', ob', hl', hol', hon', hiff'⟩
      have g14 := hF'' 14 rfl
      have g25 := hF'' 25 rfl
      simp only [↓Sh.dn, sx, Nat.reduceBEq, reduceCtorEq, Nat.reduceEqDiff, f14] at g14 g25
      simp only [↓Sh.dn, sx, Nat.reduceBEq, reduceCtorEq, Nat.reduceEqDiff, f26, g14, g25, nat_lt, Nat.lt_irrefl, decide_false, wrap_succ' hi (Nat.le_trans hll (by decide))]
      refine k _ _ ?_ (by simp only [↓Sh.dn, sx, Nat.reduceBEq, reduceCtorEq, Nat.reduceEqDiff]) ⟨hk'', z', by simp only [↓Sh.dn, sx, Nat.reduceBEq, reduceCtorEq, Nat.reduceEqDiff, f7'], out', ob', hl', by omega, hon', fun t => ?_⟩
      · repeat refine Same.put ?_ rfl
        exact Same.trans (by repeat (first | refine Same.put ?_ rfl | exact Same.rfl' _)) (hF''.sub rfl)
      · rw [hiff' t, htake, List.take_length]
        simp only [List.mem_append, List.mem_singleton]
        constructor
        · rintro (⟨s', h1, h2⟩ | ⟨e, h1, h2, h3⟩)
          · exact ⟨s', .inl h1, h2⟩
          · exact ⟨s, .inr rfl, r, hr, e, h1, h2, h3⟩
        · rintro ⟨s', h1 | h1, h2⟩
          · exact .inl ⟨s', h1, h2⟩
          · subst h1
            obtain ⟨r', h3, e, h4, h5, h6⟩ := h2
            rw [hr] at h3
            rw [← Option.some.inj h3] at h4
            exact .inr ⟨e, h4, h5, h6⟩
  · rintro F H' hF f14 ⟨hk, z, f7, out, ob, hl, hol, hon, hiff⟩
    have f0 := hF 0 rfl
    have f13 := hF 13 rfl
    simp only [↓Sh.dn, sx, Nat.reduceBEq, reduceCtorEq, Nat.reduceEqDiff] at f0 f13
    rw [List.take_length] at hiff
    obtain ⟨r, H3, hd3, ho⟩ := graphClosed (h.kept hw hk) hl.bf.toSl hon (by omega) hk.wf
    simp only [↓Sh.dn, sx, Nat.reduceBEq, reduceCtorEq, Nat.reduceEqDiff, f0, f7, f13, f14, nat_lt, Nat.lt_irrefl, decide_false]
    refine ⟨_, _, hd3, ?_⟩
    simp only [↓Sh.dn, sx, Nat.reduceBEq, reduceCtorEq, Nat.reduceEqDiff, hres]
    refine (ho.pre hk).iff fun t => ?_
    have : (fun s => s ∈ out) = fun t => ∃ s, s ∈ L ∧ goesP E (fun k => k = x) s t := by
      funext t
      exact propext (hiff t)
    rw [this]
theorem graphRun {H : AH} {g n : Nat} {E : List (List (Nat × Int × Int × Int))} {ends : List Int} {sv av ev cv u : Value} {vals : List Value} {sigma : List ByteArray} {costs : List Int} {w : List Int} (h : PG H g n 60000 E ends sv av ev cv vals sigma costs) (hu : Sl H u 1 (w.map intC)) (hwl : w.length ≤ 1048576) (hw : Wf H) :
    Sh.Call Tryz.prog (knows 10) 62 [.pointer (some ⟨g, 0, some 0⟩), u] H (fun r H' => SetOut H H' r n (RunS (goesP E fun k => k < 0) (fun x => goesP E fun k => k = x) (Clo (goesP E fun k => k < 0) fun s => s = 0) w)) := by
  refine call_of rfl Tryz.func62 rfl (Nat.le_of_ble_eq_true rfl) ?_
  have hres : Tryz.f62.results.toList = [.tmp 4] := rfl
  have hn2 := h.n2
  obtain ⟨r0, H2, hd2, hk2, out0, b0, hb0, hf0, hnd0, hlt0, hi0⟩ := graphBegin h hw
  simp only [↓Sh.dn, sx, Nat.reduceBEq, reduceCtorEq, Nat.reduceEqDiff]
  refine ⟨_, _, hd2, ?_⟩
  have hlen := hu.len Tryz.underlying74 H2
  rw [List.length_map] at hlen
  simp only [↓Sh.dn, sx, Nat.reduceBEq, reduceCtorEq, Nat.reduceEqDiff, hlen]
  refine wp_for w.length 12 (List.range' 12 9 ++ [5, 7]) (fun i F H' => Kept H H' ∧ ∃ z, F.get 5 = some z ∧ ∃ out b, Buf H' 1 z (out.map natC) b ∧ (∀ y, b = some y → H.next ≤ y) ∧ out.Nodup ∧ (∀ t ∈ out, t < n) ∧ ∀ t, t ∈ out ↔ RunS (goesP E fun k => k < 0) (fun x => goesP E fun k => k = x) (Clo (goesP E fun k => k < 0) fun s => s = 0) (w.take i) t) (by simp only [↓Sh.dn, sx, Nat.reduceBEq, reduceCtorEq, Nat.reduceEqDiff]) ⟨hk2, r0, by simp only [↓Sh.dn, sx, Nat.reduceBEq, reduceCtorEq, Nat.reduceEqDiff], out0, b0, hb0, hf0, hnd0, hlt0, fun t => by rw [hi0 t]; rfl⟩ ?_ ?_
  · rintro i F H' hi hF f12 ⟨hk, z, f5, out, b, hb, hfr, hnd, hlt, hiff⟩ k
    have f0 := hF 0 rfl
    have f10 := hF 10 rfl
    have f11 := hF 11 rfl
    simp only [↓Sh.dn, sx, Nat.reduceBEq, reduceCtorEq, Nat.reduceEqDiff] at f0 f10 f11
    obtain ⟨p, hia, hc⟩ := Sl.elem (s := 1) Tryz.underlying74 size_3 (hu.grow (hk.grow hw)) (i := i) (u := .int .i64 w[i]) (by rw [List.getElem?_map, List.getElem?_eq_getElem hi]; rfl)
    have htake : w.take (i + 1) = w.take i ++ [w[i]] := by rw [List.take_add_one, List.getElem?_eq_getElem hi]; rfl
    generalize w[i] = x at hc htake
    have hol := nodup_le hnd hlt
    obtain ⟨r, H3, hd3, hk3, out3, b3, hb3, hf3, hnd3, hlt3, hi3⟩ := graphStep (x := x) (h.kept hw hk) hb.toSl hlt (by omega) hk.wf
    simp only [↓Sh.dn, sx, Nat.reduceBEq, reduceCtorEq, Nat.reduceEqDiff, f0, f5, f10, f11, f12, nat_lt, hi, decide_true, hia, hc]
    refine ⟨_, _, hd3, ?_⟩
    simp only [↓Sh.dn, sx, Nat.reduceBEq, reduceCtorEq, Nat.reduceEqDiff, f12, wrap_succ hi hwl]
    refine k _ _ (by repeat (first | refine Same.put ?_ rfl | exact Same.rfl' _)) (by simp only [↓Sh.dn, sx, Nat.reduceBEq, reduceCtorEq, Nat.reduceEqDiff]) ⟨hk.trans hk3, r, by simp only [↓Sh.dn, sx, Nat.reduceBEq, reduceCtorEq, Nat.reduceEqDiff], out3, b3, hb3, fun y hy => Nat.le_trans hk.next (hf3 y hy), hnd3, hlt3, fun t => ?_⟩
    rw [hi3 t, htake, RunS.append]
    simp only [RunS]
    have : (fun t => ∃ s, s ∈ out ∧ goesP E (fun k => k = x) s t) = fun t => ∃ s, RunS (goesP E fun k => k < 0) (fun x => goesP E fun k => k = x) (Clo (goesP E fun k => k < 0) fun s => s = 0) (w.take i) s ∧ goesP E (fun k => k = x) s t := by
      funext t
      apply propext
      simp only [hiff]
    rw [this]
  · rintro F H' hF f12 ⟨hk, z, f5, out, b, hb, hfr, hnd, hlt, hiff⟩
    have f11 := hF 11 rfl
    simp only [↓Sh.dn, sx, Nat.reduceBEq, reduceCtorEq, Nat.reduceEqDiff] at f11
    rw [List.take_length] at hiff
    simp only [↓Sh.dn, sx, Nat.reduceBEq, reduceCtorEq, Nat.reduceEqDiff, f5, f11, f12, nat_lt, Nat.lt_irrefl, decide_false, hres]
    exact ⟨hk, out, b, hb, hfr, hnd, hlt, hiff⟩
theorem graphHasEnd {H : AH} {g n rb : Nat} {E : List (List (Nat × Int × Int × Int))} {ends : List Int} {sv av ev cv u : Value} {vals : List Value} {sigma : List ByteArray} {costs : List Int} {L : List Nat} (h : PG H g n rb E ends sv av ev cv vals sigma costs) (hL : Sl H u 1 (L.map natC)) (hlt : ∀ t ∈ L, t < n) (hll : L.length ≤ 1048576) (hw : Wf H) :
    Sh.Call Tryz.prog (knows 10) 61 [.pointer (some ⟨g, 0, some 0⟩), u] H (fun r H' => Kept H H' ∧ r = .bool (L.any fun t => decide (0 < ends.getD t 0))) := by
  refine call_of rfl Tryz.func61 rfl (Nat.le_of_ble_eq_true rfl) ?_
  have hres : Tryz.f61.results.toList = [.tmp 4] := rfl
  have hk1 := Kept.new hw 1 [.pointer (some ⟨g, 0, some 0⟩)]
  have o1 := (Sh.Obj.new (H := H) 1 [.pointer (some ⟨g, 0, some 0⟩)]).arr
  have nw : anew Tryz.prog 57 H (.pointer (some ⟨g, 0, some 0⟩)) = some (.pointer (some ⟨H.next, 0, some 0⟩), (H.new 1 [.pointer (some ⟨g, 0, some 0⟩)]).2) := new_cell size_57 rfl
  obtain ⟨r, H3, hd3, hk3, rfl⟩ := containsFuncNat (caps := [.pointer (some ⟨H.next, 0, some 0⟩)]) (fid := 102) (fun t => decide (0 < ends.getD t 0)) (hL.grow (hk1.grow hw)) hll hk1.wf (fun H' hk t ht => by
    refine call_of rfl Tryz.func102 rfl (Nat.le_of_ble_eq_true rfl) ?_
    have hres : Tryz.f102.results.toList = [.tmp 3] := rfl
    have hc := cell_grow (hk.grow hk1.wf) (o1.cell 0)
    have hp := (h.kept hw hk1).kept hk1.wf hk
    have hn := hp.gr.arr.cell 2
    have htl : t < ends.length := by rw [h.ln]; exact hlt t ht
    obtain ⟨p, hia, hcc⟩ := Sl.elem (s := 1) Tryz.underlying74 size_3 hp.gr.en (i := t) (u := .int .i64 ends[t]) (by rw [List.getElem?_map, List.getElem?_eq_getElem htl]; rfl)
    have hg : ends.getD t 0 = ends[t] := by simp [List.getD, List.getElem?_eq_getElem htl]
    simp only [↓Sh.dn, sx, Nat.reduceBEq, reduceCtorEq, Nat.reduceEqDiff, hc, hn, hia, hcc, hres, hg]
    exact Kept.refl hk.wf)
  simp only [↓Sh.dn, sx, Nat.reduceBEq, reduceCtorEq, Nat.reduceEqDiff, nw]
  refine ⟨_, _, hd3, ?_⟩
  simp only [↓Sh.dn, sx, Nat.reduceBEq, reduceCtorEq, Nat.reduceEqDiff, hres, hk1.trans hk3]
end Go.Proofs.YtfcmpclbhnjkgaaGreat
/- (*graph.Graph).Back: the graph with its arcs the other way round. -/
set_option maxHeartbeats 4000000
set_option maxRecDepth 20000
set_option linter.unusedSimpArgs false
set_option linter.unusedVariables false
set_option pp.deepTerms.threshold 8
namespace Go.Proofs.YtfcmpclbhnjkgaaGreat
open Go Go.Proofs Go.Proofs.Sh
theorem graphBack {H : AH} {g n : Nat} {E : List (List (Nat × Int × Int × Int))} {ends : List Int} {sv av ev cv : Value} {vals : List Value} {sigma : List ByteArray} {costs : List Int} (h : PG H g n 60000 E ends sv av ev cv vals sigma costs) (hsg : sigma.length ≤ 1048576) (hw : Wf H) :
    Sh.Call Tryz.prog (knows 10) 51 [.pointer (some ⟨g, 0, some 0⟩)] H (fun r H' => Kept H H' ∧ ∃ g', r = .pointer (some ⟨g', 0, some 0⟩) ∧ ∃ R base, H.next ≤ base ∧ Gr H' base g' sigma (gCells R) (List.replicate n 0) (List.replicate n 0) ∧ R.length = n ∧ (∀ r ∈ R, r.length ≤ 180000000 ∧ ∀ e ∈ r, e.1 < n) ∧ ∀ p t s, goesP R p t s ↔ goesP E p s t) := by
  refine call_of rfl Tryz.func51 rfl (Nat.le_of_ble_eq_true rfl) ?_
  have hres : Tryz.f51.results.toList = [.tmp 2] := rfl
  have hn2 := h.n2
  have hc0 := h.gr.arr.cell 0
  have hc1 := h.gr.arr.cell 1
  have hlenA : ∀ H', abuiltin Tryz.prog .len [73] [av] H' = some (.int .i64 (n : Int), H') := fun H' => by
    rw [h.gr.jag.sl.len Tryz.underlying73, List.length_map, h.gr.jag.len]; unfold gCells; rw [List.length_map, h.le]
  obtain ⟨r1, H1, hd1, hk1, g1, rfl, hG1⟩ := graphNew (n := n) h.gr.sg hsg (by omega) hw
  simp only [↓Sh.dn, sx, Nat.reduceBEq, reduceCtorEq, Nat.reduceEqDiff]
  refine wp_pend (fl := [(0, []), (1, []), (2, []), (3, []), (4, []), (5, []), (6, []), (7, []), (8, []), (9, []), (10, [])]) (by kernel_rfl) (by kernel_rfl) (by kernel_rfl) ?_
  simp only [↓Sh.dn, sx, Nat.reduceBEq, reduceCtorEq, Nat.reduceEqDiff, wpr, again, isMake, veq_ptr, veq_int, veq_str, veq_bool, veq_undef, veq_slice, forall_eq, forall_eq', hc0, hc1, hlenA]
  refine ⟨_, _, hd1, ?_⟩
  have hc1' := cell_grow (hk1.grow hw) hc1
  simp only [↓Sh.dn, sx, Nat.reduceBEq, reduceCtorEq, Nat.reduceEqDiff, wpr, again, isMake, veq_ptr, veq_int, veq_str, veq_bool, veq_undef, veq_slice, forall_eq, forall_eq', hc1', hlenA]
  have hg0 : gCells (List.replicate n ([] : List (Nat × Int × Int × Int))) = List.replicate n [] := by simp [gCells]
  rw [← hg0] at hG1
  refine wp_for n 23 (List.range' 23 24 ++ [4, 5, 7]) (fun i F H' => Kept H H' ∧ ∃ R, Gr H' H.next g1 sigma (gCells R) (List.replicate n 0) (List.replicate n 0) ∧ R.length = n ∧ (∀ r ∈ R, r.length ≤ i * 60000 ∧ ∀ e ∈ r, e.1 < n) ∧ ∀ p t s, goesP R p t s ↔ s < i ∧ goesP E p s t) (by simp only [↓Sh.dn, sx, Nat.reduceBEq, reduceCtorEq, Nat.reduceEqDiff]) ⟨hk1, _, hG1, by simp, fun r hr => by rw [List.eq_of_mem_replicate hr]; simp, fun p t s => by
    constructor
    · rintro ⟨r, h1, e, h2, _⟩
      rw [List.getElem?_replicate] at h1
      split at h1
      · rw [← Option.some.inj h1] at h2; cases h2
      · cases h1
    · rintro ⟨h1, _⟩; exact absurd h1 (Nat.not_lt_zero _)⟩ ?_ ?_
  · rintro i F H' hi hF f23 ⟨hk, R, hG, hRl, hRr, hiff⟩ k
    have f3 := hF 3 rfl
    have f21 := hF 21 rfl
    have f22 := hF 22 rfl
    simp only [↓Sh.dn, sx, Nat.reduceBEq, reduceCtorEq, Nat.reduceEqDiff] at f3 f21 f22
    obtain ⟨r, hr⟩ : ∃ r, E[i]? = some r := ⟨E[i]'(by rw [h.le]; exact hi), List.getElem?_eq_getElem _⟩
    obtain ⟨hrl, hrt⟩ := h.to i r hr
    obtain ⟨pr, wr, hiar, hcr, hsr, hlr⟩ := PG.row h hr
    have q2 := cell_grow (hk.grow hw) hcr
    simp only [↓Sh.dn, sx, Nat.reduceBEq, reduceCtorEq, Nat.reduceEqDiff, f21, f22, f23, nat_lt, hi, decide_true, hiar, q2, hlr]
    refine wp_for r.length 30 (List.range' 30 16 ++ [7]) (fun q F'' H'' => Kept H H'' ∧ ∃ R, Gr H'' H.next g1 sigma (gCells R) (List.replicate n 0) (List.replicate n 0) ∧ R.length = n ∧ (∀ r ∈ R, r.length ≤ i * 60000 + q ∧ ∀ e ∈ r, e.1 < n) ∧ ∀ p t s, goesP R p t s ↔ s < i ∧ goesP E p s t ∨ s = i ∧ ∃ e ∈ r.take q, e.1 = t ∧ p e.2.1) (by simp only [↓Sh.dn, sx, Nat.reduceBEq, reduceCtorEq, Nat.reduceEqDiff]) ⟨hk, R, hG, hRl, fun r hr => ⟨Nat.le_trans (hRr r hr).1 (Nat.le_add_right _ _), (hRr r hr).2⟩, fun p t s => by rw [hiff]; simp⟩ ?_ ?_
    · rintro q F'' H'' hq hF'' f30 ⟨hk'', R, hG, hRl, hRr, hiff⟩ k2
      have g3 := hF'' 3 rfl
      have g4 := hF'' 4 rfl
      have g28 := hF'' 28 rfl
      have g29 := hF'' 29 rfl
      simp only [↓Sh.dn, sx, Nat.reduceBEq, reduceCtorEq, Nat.reduceEqDiff, f3] at g3 g4 g28 g29
      obtain ⟨pe, hiae, hce⟩ := PG.edge (hsr.grow (hk''.grow hw)) hq
      have hrq : r[q] ∈ r := List.getElem_mem hq
      have htk : r.take (q + 1) = r.take q ++ [r[q]] := by rw [List.take_add_one, List.getElem?_eq_getElem hq]; rfl
      generalize r[q] = e at hce hrq htk
      have kn := Kept.new hk''.wf 4 (gCell e)
      have hk3 := hk''.trans kn
      have hG3 := hG.kept hk''.wf kn
      obtain ⟨ro, hro2⟩ : ∃ ro, R[e.1]? = some ro := ⟨R[e.1]'(by rw [hRl]; exact hrt e hrq), List.getElem?_eq_getElem _⟩
      have hrow : (gCells R)[e.1]? = some (ro.map gCell) := by unfold gCells; rw [List.getElem?_map, hro2]; rfl
      obtain ⟨hrol, hrot⟩ := hRr ro (List.mem_of_getElem? hro2)
      obtain ⟨rr, H5, hd5, hc5, hG5⟩ := grArc (x0 := (i : Int)) (x1 := e.2.1) (x2 := e.2.2.1) (x3 := e.2.2.2) hG3 hrow (by rw [List.length_map]; omega) hk3.wf
      simp only [↓Sh.dn, sx, Nat.reduceBEq, reduceCtorEq, Nat.reduceEqDiff, f30, g3, g4, g28, g29, hiae, hce, nat_lt, hq, decide_true, Option.map_some, geZero, geStore, geOver, ge0, ge1, ge2, ge3]
      refine ⟨_, _, hd5, ?_⟩
      simp only [↓Sh.dn, sx, Nat.reduceBEq, reduceCtorEq, Nat.reduceEqDiff, f30, wrap_succ' hq (Nat.le_trans hrl (by decide))]
      have hrs : gCells (R.set e.1 (ro ++ [(i, e.2)])) = (gCells R).set e.1 (ro.map gCell ++ [[.int .i64 (i : Int), .int .i64 e.2.1, .int .i64 e.2.2.1, .int .i64 e.2.2.2]]) := by unfold gCells; rw [List.map_set]; simp [gCell]
      refine k2 _ _ (by repeat (first | refine Same.put ?_ rfl | exact Same.rfl' _)) (by simp only [↓Sh.dn, sx, Nat.reduceBEq, reduceCtorEq, Nat.reduceEqDiff]) ⟨hk3.then (Nat.le_refl _) hc5, R.set e.1 (ro ++ [(i, e.2)]), by rw [hrs]; exact hG5, by rw [List.length_set]; exact hRl, fun r' hr' => ?_, fun p t s => ?_⟩
      · rcases List.mem_or_eq_of_mem_set hr' with h1 | h1
        · have := hRr r' h1; exact ⟨by omega, this.2⟩
        · rw [h1]
          refine ⟨by rw [List.length_append]; simp; omega, fun e' he' => ?_⟩
          rcases List.mem_append.1 he' with h2 | h2
          · exact hrot e' h2
          · rw [List.mem_singleton.1 h2]; exact hi
      · rw [goesP_push hro2, hiff, htk]
        simp only [List.mem_append, List.mem_singleton]
        constructor
        · rintro ((h1 | ⟨h1, e', h2, h3⟩) | ⟨h1, h2, h3⟩)
          · exact .inl h1
          · exact .inr ⟨h1, e', .inl h2, h3⟩
          · exact .inr ⟨h3, e, .inr rfl, h1.symm, h2⟩
        · rintro (h1 | ⟨h1, e', h2 | h2, h3, h4⟩)
          · exact .inl (.inl h1)
          · exact .inl (.inr ⟨h1, e', h2, h3, h4⟩)
          · subst h2; exact .inr ⟨h3.symm, h4, h1⟩
    · rintro F'' H'' hF'' f30 ⟨hk'', R, hG, hRl, hRr, hiff⟩
      have g23 := hF'' 23 rfl
      have g29 := hF'' 29 rfl
      simp only [↓Sh.dn, sx, Nat.reduceBEq, reduceCtorEq, Nat.reduceEqDiff, f23] at g23 g29
      rw [List.take_length] at hiff
      simp only [↓Sh.dn, sx, Nat.reduceBEq, reduceCtorEq, Nat.reduceEqDiff, f30, g23, g29, nat_lt, Nat.lt_irrefl, decide_false, wrap_succ' hi (Nat.le_trans hn2 (by decide))]
      refine k _ _ ?_ (by simp only [↓Sh.dn, sx, Nat.reduceBEq, reduceCtorEq, Nat.reduceEqDiff]) ⟨hk'', R, hG, hRl, fun r' hr' => ?_, fun p t s => ?_⟩
      · repeat refine Same.put ?_ rfl
        exact Same.trans (by repeat (first | refine Same.put ?_ rfl | exact Same.rfl' _)) (hF''.sub rfl)
      · have := hRr r' hr'; exact ⟨by omega, this.2⟩
      · rw [hiff]
        constructor
        · rintro (⟨h1, h2⟩ | ⟨h1, e, h2, h3⟩)
          · exact ⟨by omega, h2⟩
          · exact ⟨by omega, r, by rw [h1]; exact hr, e, h2, h3⟩
        · rintro ⟨h1, h2⟩
          by_cases hs : s = i
          · subst hs
            obtain ⟨r', h3, e, h4, h5⟩ := h2
            rw [hr] at h3
            exact .inr ⟨rfl, e, by rw [Option.some.inj h3]; exact h4, h5⟩
          · exact .inl ⟨by omega, h2⟩
  · rintro F H' hF f23 ⟨hk, R, hG, hRl, hRr, hiff⟩
    have f3 := hF 3 rfl
    have f22 := hF 22 rfl
    simp only [↓Sh.dn, sx, Nat.reduceBEq, reduceCtorEq, Nat.reduceEqDiff] at f3 f22
    simp only [↓Sh.dn, sx, Nat.reduceBEq, reduceCtorEq, Nat.reduceEqDiff, f3, f22, f23, nat_lt, Nat.lt_irrefl, decide_false, hres]
    refine ⟨hk, _, rfl, R, H.next, Nat.le_refl _, hG, hRl, fun r hr => ⟨by have := (hRr r hr).1; omega, (hRr r hr).2⟩, fun p t s => ?_⟩
    rw [hiff]
    constructor
    · exact fun h => h.2
    · rintro ⟨r, h1, h2⟩
      exact ⟨by rw [← h.le]; exact (List.getElem?_eq_some_iff.1 h1).1, r, h1, h2⟩
end Go.Proofs.YtfcmpclbhnjkgaaGreat
/- (*graph.Graph).From, Lasting. -/
set_option maxHeartbeats 4000000
set_option maxRecDepth 20000
set_option linter.unusedSimpArgs false
set_option linter.unusedVariables false
set_option pp.deepTerms.threshold 8
namespace Go.Proofs.YtfcmpclbhnjkgaaGreat
open Go Go.Proofs Go.Proofs.Sh
def fitP (E : List (List (Nat × Int × Int × Int))) (p : Nat × Int × Int × Int → Bool) (s t : Nat) : Prop := ∃ r, E[s]? = some r ∧ ∃ e ∈ r, e.1 = t ∧ p e = true
theorem graphFrom {H : AH} {g n rb : Nat} {E : List (List (Nat × Int × Int × Int))} {ends : List Int} {sv av ev cv u : Value} {vals : List Value} {sigma : List ByteArray} {costs : List Int} {L : List Nat} {fid : Nat} {caps : List Value} (p : Nat × Int × Int × Int → Bool)
    (h : PG H g n rb E ends sv av ev cv vals sigma costs) (hrb : rb ≤ 4611686018427387904) (hL : Sl H u 1 (L.map natC)) (hlt : ∀ t ∈ L, t < n) (hll : L.length ≤ 3000) (hw : Wf H)
    (hp : ∀ H', Kept H H' → ∀ e, Sh.Call Tryz.prog (knows 10) fid (.agg (gCell e).toArray :: caps) H' (fun r H'' => Kept H' H'' ∧ r = .bool (p e))) :
    Sh.Call Tryz.prog (knows 10) 90 [.pointer (some ⟨g, 0, some 0⟩), u, .func (.func fid) #[] caps.toArray] H (fun r H' => Kept H H' ∧ ∃ B : List Bool, Sl H' r 1 (B.map boolC) ∧ B.length = n ∧ ∀ t : Nat, B[t]? = some true ↔ Clo (fitP E p) (fun s => s ∈ L) t) := by
  refine call_of rfl Tryz.func90 rfl (Nat.le_of_ble_eq_true rfl) ?_
  have hres : Tryz.f90.results.toList = [.tmp 6] := rfl
  have hn1 := h.n1
  have hn2 := h.n2
  have hc1 := h.gr.arr.cell 1
  have hlenA : ∀ H', abuiltin Tryz.prog .len [73] [av] H' = some (.int .i64 (n : Int), H') := fun H' => by
    rw [h.gr.jag.sl.len Tryz.underlying73, List.length_map, h.gr.jag.len]; unfold gCells; rw [List.length_map, h.le]
  have hlenL : ∀ H', abuiltin Tryz.prog .len [74] [u] H' = some (.int .i64 (L.length : Int), H') := fun H' => by
    rw [hL.len Tryz.underlying74, List.length_map]
  have hmk := mk_63 (H := H) (l := n) (c := n) (Nat.le_refl _) (by omega)
  have k1 := Kept.new hw 1 (List.replicate n (.bool false))
  have f1 := Buf.fill hw (.bool false) (c := n) (by omega)
  obtain ⟨os, hos⟩ : ∃ os, (if n = 0 then none else some H.next) = os := ⟨_, rfl⟩
  rw [hos] at f1
  have los : ∀ y, os = some y → y = H.next := by
    intro y hy
    rw [← hos, if_neg (by omega)] at hy
    exact (Option.some.inj hy).symm
  have hM1 : MB (H.new 1 (List.replicate n (.bool false))).2 H.next n (.slice (some ⟨H.next, 0, some 0⟩) n n) os (List.replicate n false) [] :=
    ⟨Marks.empty n, by rw [List.map_replicate]; exact f1, fun y hy => by rw [los y hy]; exact Nat.le_refl _⟩
  have hx1 : H.next < (H.new 1 (List.replicate n (.bool false))).2.next := Nat.lt_succ_self _
  simp only [↓Sh.dn, sx, Nat.reduceBEq, reduceCtorEq, Nat.reduceEqDiff, hc1, hlenA, hmk]
  generalize (Value.slice (some ⟨H.next, 0, some 0⟩) n n) = mv at hM1 ⊢
  generalize (H.new 1 (List.replicate n (.bool false))).2 = H1 at k1 hM1 hx1 ⊢
  obtain ⟨r1, H2, hd2, hk2, tb0, htb0, hft0⟩ := cloneInt (l := L.map natC) (hL.grow (k1.grow hw)) (by rw [List.length_map]; omega) k1.wf
  refine ⟨_, _, hd2, ?_⟩
  have hM2 := hM1.kept k1.wf hk2
  have hl2 : LB H2 H.next os r1 L tb0 := ⟨htb0, fun y hy => by
    have := hft0 y hy
    exact ⟨by omega, fun e => by have := los y e; omega⟩⟩
  simp only [↓Sh.dn, sx, Nat.reduceBEq, reduceCtorEq, Nat.reduceEqDiff, hlenL]
  refine wp_for L.length 24 (List.range' 24 8 ++ [10]) (fun i F H' => Kept H H' ∧ ∃ seen out, MB H' H.next n mv os seen out ∧ LB H' H.next os r1 L tb0 ∧ ∀ x, x ∈ out ↔ x ∈ L.take i) (by simp only [↓Sh.dn, sx, Nat.reduceBEq, reduceCtorEq, Nat.reduceEqDiff]) ⟨k1.trans hk2, _, _, hM2, hl2, fun x => by simp⟩ ?_ ?_
  · rintro i F H' hi hF f24 ⟨hk, seen, out, hM, hl, hiff⟩ k
    have f7 := hF 7 rfl
    have f22 := hF 22 rfl
    have f23 := hF 23 rfl
    simp only [↓Sh.dn, sx, Nat.reduceBEq, reduceCtorEq, Nat.reduceEqDiff] at f7 f22 f23
    obtain ⟨pa, hia, hc⟩ := natSl Tryz.underlying74 size_3 (hL.grow (hk.grow hw)) hi
    have htn : L[i] < n := hlt _ (List.getElem_mem hi)
    have htake : L.take (i + 1) = L.take i ++ [L[i]] := by rw [List.take_add_one, List.getElem?_eq_getElem hi]; rfl
    generalize L[i] = t at hc htn htake
    obtain ⟨p2, H3, seen', out', e1, e2, e3, e4, e5⟩ := hM.put Tryz.underlying63 size_4 hk.wf htn
    have st : astore Tryz.prog 4 H' (.bool true) (.pointer (some p2)) = some H3 := by rw [store_cell size_4 rfl]; exact e2
    simp only [↓Sh.dn, sx, Nat.reduceBEq, reduceCtorEq, Nat.reduceEqDiff, f7, f22, f23, f24, nat_lt, hi, decide_true, hia, hc, e1, st, wrap_succ' hi (Nat.le_trans hll (by decide))]
    refine k _ _ (by repeat (first | refine Same.put ?_ rfl | exact Same.rfl' _)) (by simp only [↓Sh.dn, sx, Nat.reduceBEq, reduceCtorEq, Nat.reduceEqDiff]) ⟨hk.then (Nat.le_refl _) (e4.weak fun y hy => hM.fr y hy), seen', out', e3, hl.chg hk.wf e4 fun y hy => hy, fun x => ?_⟩
    rw [e5, hiff, htake, List.mem_append, List.mem_singleton]
  · rintro F H' hF f24 ⟨hk, seen, out, hM, hl, hiff⟩
    have f0 := hF 0 rfl
    have f2 := hF 2 rfl
    have f7 := hF 7 rfl
    have f8 := hF 8 rfl
    have f23 := hF 23 rfl
    simp only [↓Sh.dn, sx, Nat.reduceBEq, reduceCtorEq, Nat.reduceEqDiff] at f0 f2 f7 f8 f23
    rw [List.take_length] at hiff
    simp only [↓Sh.dn, sx, Nat.reduceBEq, reduceCtorEq, Nat.reduceEqDiff, f23, f24, nat_lt, Nat.lt_irrefl, decide_false]
    have hout0 := hM.ms.le
    refine wp_while (m := (n - out.length) * 2 + L.length) (fun m F H' => F.get 0 = some (.pointer (some ⟨g, 0, some 0⟩)) ∧ F.get 2 = some (.func (.func fid) #[] caps.toArray) ∧ F.get 7 = some mv ∧ Kept H H' ∧ ∃ zt, F.get 8 = some zt ∧ ∃ seen out todo tb, m = (n - out.length) * 2 + todo.length ∧ MB H' H.next n mv os seen out ∧ LB H' H.next os zt todo tb ∧ (∀ t ∈ todo, t ∈ out) ∧ todo.length ≤ L.length + out.length ∧ (∀ t ∈ L, t ∈ out) ∧ (∀ t ∈ out, Clo (fitP E p) (fun s => s ∈ L) t) ∧ ∀ s ∈ out, s ∈ todo ∨ ∀ t, fitP E p s t → t ∈ out)
      ⟨by simp only [↓Sh.dn, sx, Nat.reduceBEq, reduceCtorEq, Nat.reduceEqDiff, f0], by simp only [↓Sh.dn, sx, Nat.reduceBEq, reduceCtorEq, Nat.reduceEqDiff, f2], by simp only [↓Sh.dn, sx, Nat.reduceBEq, reduceCtorEq, Nat.reduceEqDiff, f7], hk, r1, by simp only [↓Sh.dn, sx, Nat.reduceBEq, reduceCtorEq, Nat.reduceEqDiff, f8], seen, out, L, tb0, rfl, hM, hl, fun t ht => (hiff t).2 ht, by omega, fun t ht => (hiff t).2 ht, fun t ht => .base ((hiff t).1 ht), fun s hs => .inl ((hiff s).1 hs)⟩ ?_
    clear hk hM hl hiff f0 f2 f7 f8 f23 f24 hF hout0
    clear seen out
    clear F H'
    rintro m F H' ⟨f0, f2, f7, hk, zt, f8, seen, out, todo, tb, rfl, hM, hlt', hsub, htl, hLo, hco, hcl⟩ k
    have hout := hM.ms.le
    have hlen := hlt'.bf.toSl.len Tryz.underlying74 H'
    rw [List.length_map] at hlen
    rcases List.eq_nil_or_concat todo with h0 | ⟨td, s, h0⟩
    · subst h0
      have h00 : decide ((0 : Int) < ((([] : List Nat).length : Nat) : Int)) = false := rfl
      simp only [↓Sh.dn, sx, Nat.reduceBEq, reduceCtorEq, Nat.reduceEqDiff, f7, f8, hlen, h00, hres]
      refine ⟨hk, seen, hM.bf.toSl, hM.ms.len, fun t => ?_⟩
      rw [hM.ms.iff]
      exact Clo.iff hLo hco (fun s hs t ht => ((hcl s hs).resolve_left (by simp)) t ht) t
    · rw [List.concat_eq_append] at h0
      subst h0
      have hpos : decide ((0 : Int) < (((td ++ [s]).length : Nat) : Int)) = true := by simp
      have wl : IntKind.wrap .i64 ((((td ++ [s]).length : Nat) : Int) - 1) = (td.length : Int) := by
        rw [List.length_append, List.length_singleton] at htl ⊢
        rw [wrap64 (by omega) (by omega)]; omega
      obtain ⟨p1, hia1, hc1'⟩ := natSl Tryz.underlying74 size_3 hlt'.bf.toSl (i := td.length) (by simp)
      have hgs : (td ++ [s])[td.length]'(by simp) = s := by simp
      rw [hgs] at hc1'
      have hbp : Buf H' 1 zt (td.map natC ++ [natC s]) tb := by have := hlt'.bf; rwa [List.map_append] at this
      obtain ⟨zt2, hsl, hb2⟩ := hbp.pop
      have hsl2 := hsl (P := Tryz.prog) (H' := H') Tryz.underlying74 size_3
      rw [List.length_map] at hsl2
      have hlt2 : LB H' H.next os zt2 td tb := ⟨hb2, hlt'.fr⟩
      have hso : s ∈ out := hsub s (by simp)
      have hsn : s < n := hM.ms.lt hso
      have hts := hco s hso
      obtain ⟨r, hr⟩ : ∃ r, E[s]? = some r := ⟨E[s]'(by rw [h.le]; exact hsn), List.getElem?_eq_getElem _⟩
      obtain ⟨hrl, hrt⟩ := h.to s r hr
      obtain ⟨pr, wr, hiar, hcr, hsr, hlr⟩ := PG.row h hr
      have hpg : ∀ {H'}, Kept H H' → H'.cell ⟨g, 1, some 0⟩ = some av ∧ H'.cell pr = some wr ∧ Sl H' wr 4 (r.map gCell) := fun hk => ⟨cell_grow (hk.grow hw) hc1, cell_grow (hk.grow hw) hcr, hsr.grow (hk.grow hw)⟩
      obtain ⟨q1, q2, q3⟩ := hpg hk
      rw [List.length_append, List.length_singleton] at htl
      simp only [↓Sh.dn, sx, Nat.reduceBEq, reduceCtorEq, Nat.reduceEqDiff, f0, f7, f8, hlen, hpos, wl, hia1, hc1', hsl2, q1, hiar, q2, hlr]
      refine wp_for r.length 54 (List.range' 54 25 ++ [8, 13]) (fun q F'' H'' => Kept H H'' ∧ ∃ zt', F''.get 8 = some zt' ∧ ∃ seen' out' td' tb', MB H'' H.next n mv os seen' out' ∧ LB H'' H.next os zt' td' tb' ∧ (∀ t ∈ td', t ∈ out') ∧ td'.length + out.length ≤ td.length + out'.length ∧ out.length ≤ out'.length ∧ (∀ t ∈ out, t ∈ out') ∧ (∀ t ∈ td, t ∈ td') ∧ (∀ t ∈ out', Clo (fitP E p) (fun s => s ∈ L) t) ∧ (∀ x ∈ out', x ∈ out ∨ x ∈ td') ∧ ∀ e ∈ r.take q, p e = true → e.1 ∈ out') (by simp only [↓Sh.dn, sx, Nat.reduceBEq, reduceCtorEq, Nat.reduceEqDiff])
        ⟨hk, zt2, by simp only [↓Sh.dn, sx, Nat.reduceBEq, reduceCtorEq, Nat.reduceEqDiff], seen, out, td, tb, hM, hlt2, fun t ht => hsub t (List.mem_append_left _ ht), Nat.le_refl _, Nat.le_refl _, fun t ht => ht, fun t ht => ht, hco, fun x hx => .inl hx, fun e he => by simp at he⟩ ?_ ?_
      · rintro q F'' H'' hq hF'' f54 ⟨hk'', zt', f8', seen', out', td', tb', hM', hl', hsub', hle', hle2, hoo, htt, hco', hnew, hed⟩ k2
        have g2 := hF'' 2 rfl
        have g7 := hF'' 7 rfl
        have g52 := hF'' 52 rfl
        have g53 := hF'' 53 rfl
        simp only [↓Sh.dn, sx, Nat.reduceBEq, reduceCtorEq, Nat.reduceEqDiff, f2, f7] at g2 g7 g52 g53
        obtain ⟨q1, q2, q3⟩ := hpg hk''
        obtain ⟨pe, hiae, hce⟩ := PG.edge q3 hq
        have hrq : r[q] ∈ r := List.getElem_mem hq
        have htake : r.take (q + 1) = r.take q ++ [r[q]] := by rw [List.take_add_one, List.getElem?_eq_getElem hq]; rfl
        generalize r[q] = e at hce hrq htake
        have kn := Kept.new hk''.wf 4 (gCell e)
        have hk3 := hk''.trans kn
        obtain ⟨rp, H4, hd4, hk4, rfl⟩ := hp _ hk3 e
        have hk34 := hk3.trans hk4
        have hM4 := (hM'.kept hk''.wf kn).kept hk3.wf hk4
        have hl4 := (hl'.kept hk''.wf kn).kept hk3.wf hk4
        have ob := (Sh.Obj.new (H := H'') 4 (gCell e)).arr.keep (hk4.old _ (Nat.lt_succ_self _))
        have c0 : H4.cell ⟨H''.next, 0, some 0⟩ = some (.int .i64 (e.1 : Int)) := ob.cell 0
        have hgall : (H''.new 4 (gCell e)).2.cells ⟨H''.next, 0, some 0⟩ 4 = some (gCell e) := geAll
        have hout' := hM4.ms.le
        simp only [↓Sh.dn, sx, Nat.reduceBEq, reduceCtorEq, Nat.reduceEqDiff, f8', f54, g2, g7, g52, g53, hiae, hce, nat_lt, hq, decide_true, Option.map_some, geZero, geStore, geOver, hgall]
        have hd4' : Does Tryz.prog (knows 10) fid ([] ++ [.agg (gCell e).toArray] ++ caps) (H''.new 4 (gCell e)).2 (.bool (p e)) H4 := hd4
        refine ⟨_, _, by first | exact hd4 | exact hd4' | simpa using hd4, ?_⟩
        have hnext : ∀ {seen2 : List Bool} {out2 td2 : List Nat} {tb2 : Option Nat} {z2 : Value} {F2 : Fr} {H2 : AH}, Same (List.range' 54 25 ++ [8, 13]) F'' F2 → F2.get 8 = some z2 → F2.get 54 = some (.int .i64 ((q + 1 : Nat) : Int)) → Kept H H2 → MB H2 H.next n mv os seen2 out2 → LB H2 H.next os z2 td2 tb2 → (out2 = out' ∧ td2 = td' ∨ out2 = out' ++ [e.1] ∧ td2 = td' ++ [e.1] ∧ p e = true) → (p e = true → e.1 ∈ out2) →
            wp Tryz.prog (knows 10) _ _ F2 H2 := fun {seen2 out2 td2 tb2 z2 F2 H2} a1 a2 a3 a4 a5 a6 a7 a8 => k2 F2 H2 a1 a3 ⟨a4, z2, a2, seen2, out2, td2, tb2, a5, a6, fun t ht => by
              rcases a7 with ⟨h1, h2⟩ | ⟨h1, h2, _⟩
              · rw [h1]; rw [h2] at ht; exact hsub' t ht
              · rw [h1]; rw [h2] at ht
                rcases List.mem_append.1 ht with h3 | h3
                · exact List.mem_append_left _ (hsub' t h3)
                · exact List.mem_append_right _ h3, by
              rcases a7 with ⟨h1, h2⟩ | ⟨h1, h2, _⟩
              · rw [h1, h2]; exact hle'
              · rw [h1, h2]; simp only [List.length_append, List.length_singleton]; omega, by
              rcases a7 with ⟨h1, h2⟩ | ⟨h1, h2, _⟩
              · rw [h1]; exact hle2
              · rw [h1]; simp only [List.length_append, List.length_singleton]; omega, fun t ht => by
              rcases a7 with ⟨h1, h2⟩ | ⟨h1, h2, _⟩
              · rw [h1]; exact hoo t ht
              · rw [h1]; exact List.mem_append_left _ (hoo t ht), fun t ht => by
              rcases a7 with ⟨h1, h2⟩ | ⟨h1, h2, _⟩
              · rw [h2]; exact htt t ht
              · rw [h2]; exact List.mem_append_left _ (htt t ht), fun t ht => by
              rcases a7 with ⟨h1, h2⟩ | ⟨h1, h2, h3⟩
              · rw [h1] at ht; exact hco' t ht
              · rw [h1] at ht
                rcases List.mem_append.1 ht with h4 | h4
                · exact hco' t h4
                · rw [List.mem_singleton.1 h4]; exact .step hts ⟨r, hr, e, hrq, rfl, h3⟩, fun x hx => by
              rcases a7 with ⟨h1, h2⟩ | ⟨h1, h2, h3⟩
              · rw [h1] at hx; rw [h2]; exact hnew x hx
              · rw [h1] at hx; rw [h2]
                rcases List.mem_append.1 hx with h4 | h4
                · exact (hnew x h4).imp id fun h5 => List.mem_append_left _ h5
                · exact .inr (List.mem_append_right _ h4), fun x hx hxp => by
              rw [htake] at hx
              rcases List.mem_append.1 hx with h2 | h2
              · have h5 := hed x h2 hxp
                rcases a7 with ⟨h1, _⟩ | ⟨h1, _, _⟩
                · rw [h1]; exact h5
                · rw [h1]; exact List.mem_append_left _ h5
              · rw [List.mem_singleton.1 h2] at hxp ⊢; exact a8 hxp⟩
        have hrl' : r.length ≤ 4611686018427387904 := Nat.le_trans hrl hrb
        cases hpe : p e with
        | false =>
          simp only [↓Sh.dn, sx, Nat.reduceBEq, reduceCtorEq, Nat.reduceEqDiff, f54, wrap_succ' hq hrl']
          exact hnext (by repeat (first | refine Same.put ?_ rfl | exact Same.rfl' _)) (by simp only [↓Sh.dn, sx, Nat.reduceBEq, reduceCtorEq, Nat.reduceEqDiff, f8']) (by simp only [↓Sh.dn, sx, Nat.reduceBEq, reduceCtorEq, Nat.reduceEqDiff]) hk34 hM4 hl4 (.inl ⟨rfl, rfl⟩) fun h => by rw [hpe] at h; cases h
        | true =>
          by_cases hin : e.1 ∈ out'
          · obtain ⟨p5, hia5, hc5⟩ := hM4.see Tryz.underlying63 size_4 (hrt e hrq)
            simp only [↓Sh.dn, sx, Nat.reduceBEq, reduceCtorEq, Nat.reduceEqDiff, c0, g7, hia5, hc5, hin, decide_true, f54, wrap_succ' hq hrl']
            exact hnext (by repeat (first | refine Same.put ?_ rfl | exact Same.rfl' _)) (by simp only [↓Sh.dn, sx, Nat.reduceBEq, reduceCtorEq, Nat.reduceEqDiff, f8']) (by simp only [↓Sh.dn, sx, Nat.reduceBEq, reduceCtorEq, Nat.reduceEqDiff]) hk34 hM4 hl4 (.inl ⟨rfl, rfl⟩) fun _ => hin
          · obtain ⟨p3, H5, a, cap, w', H6, ob', e1, e2, e3, rfl, e5, e6, e7, e8, e9, e10, e11⟩ := markPush hk34 hM4 hl4 (hrt e hrq) hin (by omega)
            have c0' : H5.cell ⟨H''.next, 0, some 0⟩ = some (.int .i64 (e.1 : Int)) := (ob.keep (e11.old _ (Nat.lt_of_lt_of_le (Nat.lt_succ_self _) hk4.next) fun hy => Nat.lt_irrefl _ (hM'.lt hk''.wf _ hy))).cell 0
            simp only [↓Sh.dn, sx, Nat.reduceBEq, reduceCtorEq, Nat.reduceEqDiff, c0, c0', g7, e1, e2, e3, f8', e6, e7, f54, wrap_succ' hq hrl']
            exact hnext (by repeat (first | refine Same.put ?_ rfl | exact Same.rfl' _)) (by simp only [↓Sh.dn, sx, Nat.reduceBEq, reduceCtorEq, Nat.reduceEqDiff]) (by simp only [↓Sh.dn, sx, Nat.reduceBEq, reduceCtorEq, Nat.reduceEqDiff]) e8 e9 e10 (.inr ⟨rfl, rfl, hpe⟩) fun _ => List.mem_append_right _ List.mem_cons_self
      · rintro F'' H'' hF'' f54 ⟨hk'', zt', f8', seen', out', td', tb', hM', hl', hsub', hle', hle2, hoo, htt, hco', hnew, hed⟩
        have g0 := hF'' 0 rfl
        have g2 := hF'' 2 rfl
        have g7 := hF'' 7 rfl
        have g53 := hF'' 53 rfl
        simp only [↓Sh.dn, sx, Nat.reduceBEq, reduceCtorEq, Nat.reduceEqDiff, f0, f2, f7] at g0 g2 g7 g53
        rw [List.take_length] at hed
        have hout' := hM'.ms.le
        simp only [↓Sh.dn, sx, Nat.reduceBEq, reduceCtorEq, Nat.reduceEqDiff, f54, g53, nat_lt, Nat.lt_irrefl, decide_false]
        refine k ((n - out'.length) * 2 + td'.length) _ _ (by rw [List.length_append, List.length_singleton]; omega) ⟨by simp only [↓Sh.dn, sx, Nat.reduceBEq, reduceCtorEq, Nat.reduceEqDiff, g0], by simp only [↓Sh.dn, sx, Nat.reduceBEq, reduceCtorEq, Nat.reduceEqDiff, g2], by simp only [↓Sh.dn, sx, Nat.reduceBEq, reduceCtorEq, Nat.reduceEqDiff, g7], hk'', zt', by simp only [↓Sh.dn, sx, Nat.reduceBEq, reduceCtorEq, Nat.reduceEqDiff, f8'], seen', out', td', tb', rfl, hM', hl', hsub', by omega, fun t ht => hoo t (hLo t ht), hco', fun x hx => ?_⟩
        rcases hnew x hx with h1 | h1
        · rcases hcl x h1 with h2 | h2
          · rcases List.mem_append.1 h2 with h3 | h3
            · exact .inl (htt x h3)
            · right
              rw [List.mem_singleton.1 h3]
              rintro t ⟨r', hr2, e, he, he1, he2⟩
              rw [hr] at hr2
              rw [← Option.some.inj hr2] at he
              rw [← he1]
              exact hed e he he2
          · exact .inr fun t ht => hoo t (h2 t ht)
        · exact .inl h1
theorem geNew {H : AH} {e : Nat × Int × Int × Int} : anew Tryz.prog 96 H (.agg (gCell e).toArray) = some (.pointer (some ⟨H.next, 0, some 0⟩), (H.new 4 (gCell e)).2) := new_agg (vs := gCell e) size_96 rfl rfl
theorem graphEvery {H : AH} {e : Nat × Int × Int × Int} (hw : Wf H) : Sh.Call Tryz.prog (knows 10) 91 [.agg (gCell e).toArray] H (fun r H' => Kept H H' ∧ r = .bool true) := by
  refine call_of rfl Tryz.func91 rfl (Nat.le_of_ble_eq_true rfl) ?_
  have hres : Tryz.f91.results.toList = [.tmp 2] := rfl
  simp only [↓Sh.dn, sx, Nat.reduceBEq, reduceCtorEq, Nat.reduceEqDiff, geNew, hres, Kept.new hw 4 (gCell e)]
theorem graphLasting {H : AH} {g n : Nat} {E : List (List (Nat × Int × Int × Int))} {ends : List Int} {sv av ev cv : Value} {vals : List Value} {sigma : List ByteArray} {costs : List Int} (h : PG H g n 60000 E ends sv av ev cv vals sigma costs) (hsg : sigma.length ≤ 1048576) (hw : Wf H) :
    Sh.Call Tryz.prog (knows 10) 42 [.pointer (some ⟨g, 0, some 0⟩)] H (fun r H' => Kept H H' ∧ ∃ B : List Bool, Sl H' r 1 (B.map boolC) ∧ B.length = n ∧ ∀ t : Nat, B[t]? = some true ↔ Clo (fun s t => goesP E (fun _ => True) t s) (fun s => 0 < ends.getD s 0) t) := by
  refine call_of rfl Tryz.func42 rfl (Nat.le_of_ble_eq_true rfl) ?_
  have hres : Tryz.f42.results.toList = [.tmp 2] := rfl
  have hn2 := h.n2
  have hc2 := h.gr.arr.cell 2
  have hlenE : ∀ H', abuiltin Tryz.prog .len [74] [ev] H' = some (.int .i64 (n : Int), H') := fun H' => by
    rw [h.gr.en.len Tryz.underlying74, List.length_map, h.ln]
  simp only [↓Sh.dn, sx, Nat.reduceBEq, reduceCtorEq, Nat.reduceEqDiff, hc2, hlenE]
  refine wp_for n 11 (List.range' 11 12 ++ [3, 4, 5]) (fun i F H' => Kept H H' ∧ ∃ z, F.get 3 = some z ∧ ∃ l ob, LB H' H.next none z l ob ∧ l.length ≤ i ∧ ∀ t, t ∈ l ↔ t < i ∧ 0 < ends.getD t 0) (by simp only [↓Sh.dn, sx, Nat.reduceBEq, reduceCtorEq, Nat.reduceEqDiff]) ⟨Kept.refl hw, _, by simp only [↓Sh.dn, sx, Nat.reduceBEq, reduceCtorEq, Nat.reduceEqDiff], [], none, ⟨.void none, fun y hy => by cases hy⟩, Nat.le_refl _, fun t => by simp⟩ ?_ ?_
  · rintro i F H' hi hF f11 ⟨hk, z, f3, l, ob, hl, hll, hiff⟩ k
    have f9 := hF 9 rfl
    have f10 := hF 10 rfl
    simp only [↓Sh.dn, sx, Nat.reduceBEq, reduceCtorEq, Nat.reduceEqDiff] at f9 f10
    have hil : i < ends.length := by rw [h.ln]; exact hi
    obtain ⟨p, hia, hc⟩ := Sl.elem (s := 1) Tryz.underlying74 size_3 (h.gr.en.grow (hk.grow hw)) (i := i) (u := .int .i64 ends[i]) (by rw [List.getElem?_map, List.getElem?_eq_getElem hil]; rfl)
    have hg : ends.getD i 0 = ends[i] := by simp [List.getD, List.getElem?_eq_getElem hil]
    simp only [↓Sh.dn, sx, Nat.reduceBEq, reduceCtorEq, Nat.reduceEqDiff, f9, f10, f11, nat_lt, hi, decide_true, hia, hc]
    by_cases hpos : 0 < ends[i]
    · obtain ⟨a, cap, w', H4, ob2, rfl, e1, e2, e3, e4, e5⟩ := pushNat i hk (fun y hy => by cases hy) hl (by omega)
      simp only [↓Sh.dn, sx, Nat.reduceBEq, reduceCtorEq, Nat.reduceEqDiff, hpos, decide_true, f3, f11, e1, e2, wrap_succ' hi (Nat.le_trans hn2 (by decide))]
      refine k _ _ (by repeat (first | refine Same.put ?_ rfl | exact Same.rfl' _)) (by simp only [↓Sh.dn, sx, Nat.reduceBEq, reduceCtorEq, Nat.reduceEqDiff]) ⟨e3, w', by simp only [↓Sh.dn, sx, Nat.reduceBEq, reduceCtorEq, Nat.reduceEqDiff], l ++ [i], ob2, e4, by simp; omega, fun t => ?_⟩
      rw [List.mem_append, List.mem_singleton, hiff]
      constructor
      · rintro (⟨h1, h2⟩ | h1)
        · exact ⟨by omega, h2⟩
        · subst h1; exact ⟨by omega, by rw [hg]; exact hpos⟩
      · rintro ⟨h1, h2⟩
        by_cases ht : t = i
        · exact .inr ht
        · exact .inl ⟨by omega, h2⟩
    · simp only [↓Sh.dn, sx, Nat.reduceBEq, reduceCtorEq, Nat.reduceEqDiff, hpos, decide_false, f11, wrap_succ' hi (Nat.le_trans hn2 (by decide))]
      refine k _ _ (by repeat (first | refine Same.put ?_ rfl | exact Same.rfl' _)) (by simp only [↓Sh.dn, sx, Nat.reduceBEq, reduceCtorEq, Nat.reduceEqDiff]) ⟨hk, z, by simp only [↓Sh.dn, sx, Nat.reduceBEq, reduceCtorEq, Nat.reduceEqDiff, f3], l, ob, hl, by omega, fun t => ?_⟩
      rw [hiff]
      constructor
      · rintro ⟨h1, h2⟩; exact ⟨by omega, h2⟩
      · rintro ⟨h1, h2⟩
        by_cases ht : t = i
        · subst ht; rw [hg] at h2; exact absurd h2 hpos
        · exact ⟨by omega, h2⟩
  · rintro F H' hF f11 ⟨hk, z, f3, l, ob, hl, hll, hiff⟩
    have f0 := hF 0 rfl
    have f10 := hF 10 rfl
    simp only [↓Sh.dn, sx, Nat.reduceBEq, reduceCtorEq, Nat.reduceEqDiff] at f0 f10
    obtain ⟨r4, H4, hd4, hk4, g', rfl, R, base, hbase, hG, hRl, hRr, hRg⟩ := graphBack (h.kept hw hk) hsg hk.wf
    obtain ⟨sv', av', ev', cv', vals', hR⟩ := hG.read
    have hPG : PG H4 g' n 180000000 R (List.replicate n 0) sv' av' ev' cv' vals' sigma (List.replicate n 0) := ⟨hR, hRl, by simp, h.n1, h.n2, fun s r hr => hRr r (List.mem_of_getElem? hr)⟩
    obtain ⟨r5, H5, hd5, hk5, B, hB, hBl, hBi⟩ := graphFrom (caps := []) (fid := 91) (fun _ => true) hPG (by decide) (hl.bf.toSl.grow (hk4.grow hk.wf)) (fun t ht => ((hiff t).1 ht).1) (by omega) hk4.wf (fun H' hk e => graphEvery hk.wf)
    simp only [↓Sh.dn, sx, Nat.reduceBEq, reduceCtorEq, Nat.reduceEqDiff, f0, f3, f10, f11, nat_lt, Nat.lt_irrefl, decide_false]
    refine ⟨_, _, hd4, ?_⟩
    refine ⟨_, _, hd5, ?_⟩
    simp only [↓Sh.dn, sx, Nat.reduceBEq, reduceCtorEq, Nat.reduceEqDiff, hres]
    refine ⟨(hk.trans hk4).trans hk5, B, hB, hBl, fun t => ?_⟩
    rw [hBi]
    have e1 : fitP R (fun _ => true) = fun s t => goesP E (fun _ => True) t s := by
      funext s t
      apply propext
      rw [← hRg]
      unfold fitP goesP
      simp
    have e2 : (fun s => s ∈ l) = fun s => 0 < ends.getD s 0 := by
      funext s
      apply propext
      rw [hiff]
      constructor
      · exact fun h => h.2
      · intro hs
        refine ⟨?_, hs⟩
        by_cases hn : s < n
        · exact hn
        · have : ends.getD s 0 = 0 := by rw [List.getD_eq_getElem?_getD, List.getElem?_eq_none (by rw [h.ln]; omega)]; rfl
          rw [this] at hs; omega
    rw [e1, e2]
end Go.Proofs.YtfcmpclbhnjkgaaGreat
/- The reference's graph: made of a net. -/
set_option maxHeartbeats 4000000
set_option maxRecDepth 20000
set_option linter.unusedSimpArgs false
set_option linter.unusedVariables false
set_option pp.deepTerms.threshold 8
namespace Go.Proofs.YtfcmpclbhnjkgaaGreat
open Go Go.Proofs Go.Proofs.Sh
theorem rgZero {H : AH} : anew Tryz.prog 65 H (.agg #[.int .i64 0, .slice none 0 0, .slice none 0 0]) = some (.pointer (some ⟨H.next, 0, some 0⟩), (H.new 3 [.int .i64 0, .slice none 0 0, .slice none 0 0]).2) := new_agg (vs := [.int .i64 0, .slice none 0 0, .slice none 0 0]) size_65 rfl rfl
theorem rgNew {H : AH} {ev bv : Value} (he : isCell ev = true) (hb : isCell bv = true) : anew Tryz.prog 65 H (.agg #[.int .i64 0, ev, bv]) = some (.pointer (some ⟨H.next, 0, some 0⟩), (H.new 3 [.int .i64 0, ev, bv]).2) :=
  new_agg (vs := [.int .i64 0, ev, bv]) size_65 rfl (by simp [he, hb, show isCell (.int .i64 0) = true from rfl])
theorem rgStore {H : AH} {ev bv : Value} {p : Addr} (he : isCell ev = true) (hb : isCell bv = true) : astore Tryz.prog 65 H (.agg #[.int .i64 0, ev, bv]) (.pointer (some p)) = H.write p [.int .i64 0, ev, bv] :=
  store_agg (vs := [.int .i64 0, ev, bv]) size_65 rfl (by simp [he, hb, show isCell (.int .i64 0) = true from rfl])
theorem rgOver {H : AH} {a b c x y z : Value} : (H.new 3 [a, b, c]).2.write ⟨H.next, 0, some 0⟩ [x, y, z] = some (H.new 3 [x, y, z]).2 := write_new rfl
theorem reZero {H : AH} : anew Tryz.prog 117 H (.agg #[.string ⟨#[]⟩, .int .i64 0]) = some (.pointer (some ⟨H.next, 0, some 0⟩), (H.new 2 [.string ⟨#[]⟩, .int .i64 0]).2) := new_agg (vs := [.string ⟨#[]⟩, .int .i64 0]) size_117 rfl rfl
theorem reStore {H : AH} {e : ByteArray × Nat} {p : Addr} : astore Tryz.prog 117 H (.agg (rEdge e).toArray) (.pointer (some p)) = H.write p (rEdge e) := store_agg size_117 rfl rfl
theorem reOver {H : AH} {e : ByteArray × Nat} {x0 x1 : Value} : (H.new 2 [x0, x1]).2.write ⟨H.next, 0, some 0⟩ (rEdge e) = some (H.new 2 (rEdge e)).2 := write_new rfl
theorem re0 {H : AH} {e : ByteArray × Nat} : (H.new 2 (rEdge e)).2.cell ⟨H.next, 0, some 0⟩ = some (.string e.1) := cell_new _ _ _
theorem re1 {H : AH} {e : ByteArray × Nat} : (H.new 2 (rEdge e)).2.cell ⟨H.next, 1, some 0⟩ = some (.int .i64 (e.2 : Int)) := cell_new _ _ _
theorem rgOut {H : AH} (hw : Wf H) {ev bv : Value} {g : Nat} (x y z : Value) (h : Sh.Obj H g 3 [x, y, z] true) (he : isCell ev = true) (hb : isCell bv = true) : ∃ H', astore Tryz.prog 65 H (.agg #[.int .i64 0, ev, bv]) (.pointer (some ⟨g, 0, some 0⟩)) = some H' ∧ Sh.Obj H' g 3 [.int .i64 0, ev, bv] true ∧ Chg (fun y => y = g) H H' := by
  obtain ⟨H', h1, h2, h3, h4⟩ := h.arr.write hw (i := 0) (vs := [.int .i64 0, ev, bv]) (by simp)
  have ho : Sh.Obj H' g 3 [.int .i64 0, ev, bv] true := by
    obtain ⟨H2, k1, k2, _⟩ := Sh.Obj.write h (i := 0) (vs := [.int .i64 0, ev, bv]) (by simp)
    rw [h1] at k1
    injection k1 with k1
    subst k1
    exact k2
  exact ⟨H', by rw [rgStore he hb]; exact h1, ho, h4.weak fun _ h => h⟩
theorem newGraph {H : AH} {n : Nat} (hn : n ≤ 1048576) (hw : Wf H) :
    Sh.Call Tryz.prog (knows 10) 84 [.int .i64 (n : Int)] H (fun r H' => Kept H H' ∧ ∃ ev bv, r = .agg #[.int .i64 0, ev, bv] ∧ ∃ g1, H.next ≤ g1 ∧ ∃ g2, g1 < g2 ∧ Jag H' ev (if n = 0 then none else some g1) 2 (List.replicate n (.slice none 0 0)) (List.replicate n []) (List.replicate n none) ∧ Buf H' 1 bv (List.replicate n [.bool false]) (if n = 0 then none else some g2)) := by
  refine call_of rfl Tryz.func84 rfl (Nat.le_of_ble_eq_true rfl) ?_
  have hres : Tryz.f84.results.toList = [.cell 2 65] := rfl
  simp only [↓Sh.dn, sx, Nat.reduceBEq, reduceCtorEq, Nat.reduceEqDiff, rgZero]
  have k0 := Kept.new hw 3 [.int .i64 0, .slice none 0 0, .slice none 0 0]
  have o0 := Sh.Obj.new (H := H) 3 [.int .i64 0, .slice none 0 0, .slice none 0 0]
  have x0 : H.next < (H.new 3 [.int .i64 0, .slice none 0 0, .slice none 0 0]).2.next := Nat.lt_succ_self _
  generalize (H.new 3 [.int .i64 0, .slice none 0 0, .slice none 0 0]).2 = H0 at k0 o0 x0 ⊢
  have m1 := mk_62 (H := H0) (l := n) (c := n) (Nat.le_refl _) (by omega)
  have k1 := Kept.new k0.wf 1 (List.replicate n (.slice none 0 0))
  have jg := Jag.make k0.wf 2 (n := n) (by omega)
  have o1 := objRep (H := H0) (n := n) (z := .slice none 0 0) rfl
  have x1 : H0.next < (H0.new 1 (List.replicate n (.slice none 0 0))).2.next := Nat.lt_succ_self _
  generalize (H0.new 1 (List.replicate n (.slice none 0 0))).2 = K1 at m1 k1 jg o1 x1 ⊢
  have m2 := mk_63 (H := K1) (l := n) (c := n) (Nat.le_refl _) (by omega)
  have k2 := Kept.new k1.wf 1 (List.replicate n (.bool false))
  have f2 := Buf.fill k1.wf (.bool false) (c := n) (by omega)
  have o2 := objRep (H := K1) (n := n) (z := .bool false) rfl
  generalize (K1.new 1 (List.replicate n (.bool false))).2 = K2 at m2 k2 f2 o2 ⊢
  have bq : abuild Tryz.prog 65 [(1, .slice (some ⟨H0.next, 0, some 0⟩) n n), (2, .slice (some ⟨K1.next, 0, some 0⟩) n n)] = some (.agg #[.int .i64 0, .slice (some ⟨H0.next, 0, some 0⟩) n n, .slice (some ⟨K1.next, 0, some 0⟩) n n]) := by
    have va : ∀ xs : Array Value, vcells (.agg xs) = xs.toList := fun _ => rfl
    refine build_struct (pl := [(0, 1), (1, 1), (2, 1)]) Tryz.underlying65 zero_65 (by kernel_rfl) ?_
    simp [fillA, va, vcells, isCell, setCells, beq_dec, ble_dec]
  have o0' : Sh.Obj K2 H.next 3 [.int .i64 0, .slice none 0 0, .slice none 0 0] true := by
    unfold Sh.Obj at o0 ⊢
    rw [(k1.trans k2).old H.next x0]; exact o0
  obtain ⟨K3, st, o3, c3⟩ := rgOut (ev := .slice (some ⟨H0.next, 0, some 0⟩) n n) (bv := .slice (some ⟨K1.next, 0, some 0⟩) n n) k2.wf _ _ _ o0' rfl rfl
  have k012 := (k0.trans k1).trans k2
  have c3' := o3.cells (i := 0) (n := 3) (by simp)
  refine wp_early (fl := [(0, true), (1, false), (2, true), (3, false), (4, true), (5, true)]) (by kernel_rfl) (by kernel_rfl) k0.wf ?_
  simp only [↓Sh.dn, sx, Nat.reduceBEq, reduceCtorEq, Nat.reduceEqDiff, wpg, Still, isEff, isMake, isRead, veq_ptr, veq_int, veq_str, veq_bool, veq_undef, forall_eq, forall_eq', m1, m2, bq, st, k1.wf, k2.wf, hres, c3', Option.map_some, List.drop_zero, List.take_succ_cons, List.take_zero]
  have j1 := (jg.kept k1.wf k2).chg k2.wf c3 (fun y hy e => by
    subst e
    have : ∀ y, JIn (if n = 0 then none else some H0.next) (List.replicate n none) y → y = H0.next := by
      rintro y (h | ⟨i, h⟩)
      · by_cases h0 : n = 0
        · rw [if_pos h0] at h; cases h
        · rw [if_neg h0] at h; exact (Option.some.inj h).symm
      · rw [List.getElem?_replicate] at h
        split at h <;> cases h
    have := this _ hy
    omega)
  have b1 := f2.chg k2.wf c3 (fun y hy e => by
    subst e
    by_cases h0 : n = 0
    · rw [if_pos h0] at hy; cases hy
    · rw [if_neg h0] at hy; have := Option.some.inj hy; omega)
  exact ⟨o1, o2, c3.wf, k012.then (Nat.le_refl _) (c3.weak fun y hy => by omega), _, _, rfl, H0.next, Nat.le_of_lt x0, K1.next, x1, j1, b1⟩
def rgRows (N : NetD) (l : List ArcD) : List (List (List Value)) := rowsOf ArcD.fr (fun a => rEdge (a.inn, a.to.toNat)) N.states.toNat l
theorem refGraphOf {H : AH} {v : Value} {N : NetD} (h : NetAt H v N) (hok : NetOk N) (hsm : NetSmall N) (hw : Wf H) :
    Sh.Call Tryz.prog (knows 10) 40 [v] H (fun r H' => Kept H H' ∧ ∃ ev bv vals, RG H' r N.states.toNat (edgesOf N) (marksOf EndD.state N.states.toNat N.ends) ev bv vals) := by
  refine call_of rfl Tryz.func40 rfl (Nat.le_of_ble_eq_true rfl) ?_
  have hres : Tryz.f40.results.toList = [.cell 2 65] := rfl
  obtain ⟨sg, ar, en, rfl, hsg, har, hen⟩ := h
  have hb1 := NetBox.of (N := N) hw hsg har hen
  have hk1 : Kept H (H.new 4 [sg, .int .i64 N.states, ar, en]).2 := Kept.new hw 4 _
  have h1 := hok.st1
  have h2 := hok.st2
  obtain ⟨n, hn⟩ : ∃ n : Nat, N.states = (n : Int) := ⟨N.states.toNat, by omega⟩
  have hnn : N.states.toNat = n := by omega
  simp only [↓Sh.dn, sx, Nat.reduceBEq, reduceCtorEq, Nat.reduceEqDiff, netNew hsg.isCell har.isCell hen.isCell, rgZero]
  have hnx : H.next < (H.new 4 [sg, .int .i64 N.states, ar, en]).2.next := Nat.lt_succ_self _
  have e0 : ∀ y, (H.new 4 [sg, .int .i64 N.states, ar, en]).2.next ≤ y → H.next ≤ y := fun y hy => Nat.le_trans (Nat.le_succ _) hy
  generalize H.next = gg at hb1 hnx ⊢
  generalize (H.new 4 [sg, .int .i64 N.states, ar, en]).2 = H1 at hb1 hk1 hnx e0 ⊢
  have hb2 := hb1.new hk1.wf 3 [.int .i64 0, .slice none 0 0, .slice none 0 0]
  have hk2 := hk1.news 3 [.int .i64 0, .slice none 0 0, .slice none 0 0]
  have o0 := Sh.Obj.new (H := H1) 3 [.int .i64 0, .slice none 0 0, .slice none 0 0]
  have x2 : H1.next < (H1.new 3 [.int .i64 0, .slice none 0 0, .slice none 0 0]).2.next := Nat.lt_succ_self _
  generalize H1.next = go at o0 x2 e0 ⊢
  generalize (H1.new 3 [.int .i64 0, .slice none 0 0, .slice none 0 0]).2 = H2 at hb2 hk2 o0 x2 ⊢
  obtain ⟨r, H3, hd3, hk3, ev, bv, rfl, g1, hg1, g2, hg2, hj, hbf⟩ := newGraph (n := n) (by omega) hk2.wf
  simp only [↓Sh.dn, sx, Nat.reduceBEq, reduceCtorEq, Nat.reduceEqDiff, hb2.c0, hb2.c1, hb2.c2, hb2.c3, hb2.ca, netLenS hb2, netLenA hb2, netLenE hb2, Option.map_some, hn]
  refine ⟨_, _, hd3, ?_⟩
  have hb3 := hb2.kept hk2.wf hk3
  have ic1 := hj.top.isCell
  have ic2 := hbf.isCell
  simp only [↓Sh.dn, sx, Nat.reduceBEq, reduceCtorEq, Nat.reduceEqDiff, hb3.c0, hb3.c1, hb3.c2, hb3.c3, hb3.ca, netLenS hb3, netLenA hb3, netLenE hb3, Option.map_some, rgZero, rgStore ic1 ic2, rgOver]
  have og := (Sh.Obj.new (H := H3) 3 [.int .i64 0, ev, bv]).arr
  have kn := Kept.new hk3.wf 3 [.int .i64 0, ev, bv]
  have xg : H3.next < (H3.new 3 [.int .i64 0, ev, bv]).2.next := Nat.lt_succ_self _
  have hj4 := hj.kept hk3.wf kn
  have hbf4 := hbf.kept hk3.wf kn
  have hk4 := hk3.trans kn
  have hx3 := hk3.next
  obtain ⟨ot, hot⟩ : ∃ ot, (if n = 0 then none else some g1) = ot := ⟨_, rfl⟩
  obtain ⟨ob, hob⟩ : ∃ ob, (if n = 0 then none else some g2) = ob := ⟨_, rfl⟩
  have lob : ∀ y, ob = some y → y = g2 := by
    intro y h
    rw [← hob] at h
    by_cases h0 : n = 0
    · rw [if_pos h0] at h; cases h
    · rw [if_neg h0] at h; exact (Option.some.inj h).symm
  have lot : ∀ y, JIn ot (List.replicate n none) y → y = g1 := by
    rintro y (h | ⟨i, h⟩)
    · rw [← hot] at h
      by_cases h0 : n = 0
      · rw [if_pos h0] at h; cases h
      · rw [if_neg h0] at h; exact (Option.some.inj h).symm
    · rw [List.getElem?_replicate] at h
      split at h <;> cases h
  rw [hot] at hj4
  rw [hob] at hbf4
  have lb := fun y h => hbf.lt hk3.wf y (by rw [hob]; exact h)
  have lj := fun y h => hj.lt hk3.wf y (by rw [hot]; exact h)
  generalize H3.next = gb at og xg hx3 lb lj ⊢
  generalize (H3.new 3 [.int .i64 0, ev, bv]).2 = H4 at og xg hj4 hbf4 hk4 ⊢
  refine wp_for N.arcs.length 4 (List.range' 4 36 ++ [4, 5]) (fun i F H' => Kept H2 H' ∧ Arr H' gb 0 3 [.int .i64 0, ev, bv] ∧ Buf H' 1 bv (List.replicate n [.bool false]) ob ∧ ∃ vals obs, Jag H' ev ot 2 vals (rgRows N (N.arcs.take i)) obs ∧ ∀ y, JIn ot obs y → H2.next ≤ y ∧ y ≠ gb ∧ ob ≠ some y) (by simp only [↓Sh.dn, sx, Nat.reduceBEq, reduceCtorEq, Nat.reduceEqDiff]) ⟨hk4, og, hbf4, _, _, by
    rw [List.take_zero]; unfold rgRows; rw [rowsOf_none, hnn]; exact hj4, fun y hy => by
      have e1 := lot y hy
      have e2 := lj y hy
      exact ⟨by omega, by omega, fun h => by have := lob y h; omega⟩⟩ ?_ ?_
  · rintro i F H' hlt hF f4 ⟨hk, hog, hbb, vals, obs, hJ, hin⟩ k
    have f1 := hF 1 rfl
    have f3 := hF 3 rfl
    simp only [↓Sh.dn, sx, Nat.reduceBEq, reduceCtorEq, Nat.reduceEqDiff] at f1 f3
    have hb' := hb2.kept hk2.wf hk
    obtain ⟨q, o, kk, hia, hc, hcc⟩ := hb'.har.at Tryz.underlying23 size_54 (i := i) (x := N.arcs[i].cells) (by simp [hlt]) .i64
    clear hcc
    have htake : N.arcs.take (i + 1) = N.arcs.take i ++ [N.arcs[i]] := by rw [List.take_add_one, List.getElem?_eq_getElem hlt]; rfl
    obtain ⟨k0, k1, k2, k3, k4, k5⟩ := hok.arc _ (List.getElem_mem hlt)
    have kn := Kept.new hk.wf 5 (N.arcs[i].cells)
    have hk3 := hk.news 5 (N.arcs[i].cells)
    generalize N.arcs[i] = a at hk3 kn hc htake k0 k1 k2 k3 k4 k5
    obtain ⟨s, hs⟩ : ∃ s : Nat, a.fr = (s : Int) := ⟨a.fr.toNat, by omega⟩
    have hto : (a.to.toNat : Int) = a.to := by omega
    have hsn : s < N.states.toNat := by omega
    have hrow := rowsOf_get (key := ArcD.fr) (f := fun a => rEdge (a.inn, a.to.toNat)) (l := N.arcs.take i) hsn
    have hrl := rowsOf_le hrow
    have hsmA := hsm.ar
    have htl : (N.arcs.take i).length ≤ 1048576 := by rw [List.length_take]; omega
    have hJ3 := hJ.kept hk.wf kn
    have hog3 := hog.keep (kn.old gb (hog.lt hk.wf))
    have hbb3 := hbb.kept hk.wf kn
    have hnj : ¬JIn ot obs H'.next := fun h => by have := hJ.lt hk.wf _ h; omega
    have hn := hog3.cell 1
    obtain ⟨ba, cap, w', H5, H6, o', p, e1, e2, e3, e4, e5, e6, e7, e8, e9⟩ := hJ3.pushAt Tryz.underlying62 size_115 hk3.wf hrow (x := rEdge (a.inn, a.to.toNat)) rfl
    rw [← hs] at e2
    have bl : abuild Tryz.prog 117 [(0, .string a.inn), (1, .int .i64 a.to)] = some (.agg (rEdge (a.inn, a.to.toNat)).toArray) := by
      have := bld_117 (v0 := .string a.inn) (v1 := .int .i64 a.to) rfl rfl
      rw [this]; simp [rEdge, hto]
    have hbs := build1_115 (H := (H'.new 5 a.cells).2) (x := .agg (rEdge (a.inn, a.to.toNat)).toArray) rfl rfl
    have ha := app1_115 (H := (H'.new 5 a.cells).2) (base := ba) (len := _) (cap := cap) (x := rEdge (a.inn, a.to.toNat)) rfl (Nat.le_trans hrl (by omega))
    rw [e1] at ha
    have hgj : ¬JIn ot obs gb := fun h => (hin gb h).2.1 rfl
    have hn5 := (hog3.keep (e7.old gb (hog3.lt hk3.wf) hgj)).cell 1
    have c4 := ((Sh.Obj.new (H := H') 5 a.cells).arr.keep (e7.old H'.next (Nat.lt_succ_self _) hnj)).cell 0
    have c4' : (a.cells)[0]? = some (.int .i64 a.fr) := rfl
    rw [c4'] at c4
    have st : astore Tryz.prog 115 H5 w' (.pointer (some p)) = some H6 := by rw [store_cell size_115 e8, e4]
    have va : ∀ xs : Array Value, vcells (.agg xs) = xs.toList := fun _ => rfl
    have hav := hJ3.top.veq
    simp only [va] at hbs
    simp only [↓Sh.dn, sx, Nat.reduceBEq, reduceCtorEq, Nat.reduceEqDiff, hb'.c0, hb'.c1, hb'.c2, hb'.c3, hb'.ca, netLenS hb', netLenA hb', netLenE hb', netZero, arcZero, endZero, arcNew, endNew, arcStore, endStore, arcOver, endOver, netOver, arc0, arc1, arc2, arc3, arc4, end0, end1, f1, f3, f4, Option.map_some, nat_lt, hlt, decide_true, hia, hc]
    refine wp_pend (fl := [(0, []), (1, []), (2, []), (3, []), (4, []), (5, []), (6, []), (7, []), (8, []), (9, []), (10, []), (11, []), (12, []), (13, []), (14, []), (15, []), (16, [3, 1]), (17, []), (18, [])]) (by kernel_rfl) (by kernel_rfl) (by kernel_rfl) ?_
    simp only [↓Sh.dn, sx, Nat.reduceBEq, reduceCtorEq, Nat.reduceEqDiff, wpr, again, isMake, veq_ptr, veq_int, veq_str, veq_bool, veq_undef, veq_slice, forall_eq, forall_eq', netZero, arcZero, endZero, arcNew, endNew, arcStore, endStore, arcOver, endOver, netOver, arc0, arc1, arc2, arc3, arc4, end0, end1, f1, f3, f4, hn, e2, e3, Option.map_some, hav, bl, hbs, ha, hn5, st, c4, wrap_succ hlt hsm.ar]
    refine k _ _ (by repeat (first | refine Same.put ?_ rfl | exact Same.rfl' _)) (by simp only [↓Sh.dn, sx, Nat.reduceBEq, reduceCtorEq, Nat.reduceEqDiff]) ⟨hk3.then (Nat.le_refl _) (e6.weak fun y hy => (hin y hy).1), hog3.keep (e6.old gb (hog3.lt hk3.wf) hgj), hbb3.chg hk3.wf e6 (fun y hy h => (hin y h).2.2 hy), vals.set s w', obs.set s o', ?_, ?_⟩
    · rw [htake]
      unfold rgRows
      rw [rowsOf_snoc hsn hs]
      exact e5
    · intro y hy
      rcases e9 y hy with h | h
      · exact hin y h
      · have := hk3.next
        have := hog3.lt hk3.wf
        exact ⟨by omega, by omega, fun h2 => by have := hbb3.lt hk3.wf y h2; omega⟩
  · rintro F H' hF f4 ⟨hk, hog, hbb, vals, obs, hJ, hin⟩
    have f1 := hF 1 rfl
    have f2 := hF 2 rfl
    have f3 := hF 3 rfl
    simp only [↓Sh.dn, sx, Nat.reduceBEq, reduceCtorEq, Nat.reduceEqDiff] at f1 f2 f3
    rw [List.take_length] at hJ
    have hb' := hb2.kept hk2.wf hk
    simp only [↓Sh.dn, sx, Nat.reduceBEq, reduceCtorEq, Nat.reduceEqDiff, hb'.c0, hb'.c1, hb'.c2, hb'.c3, hb'.ca, netLenS hb', netLenA hb', netLenE hb', f1, f3, f4, nat_lt, Nat.lt_irrefl, decide_false, Option.map_some]
    have hmk : ∀ b : Bool, ∀ m : Nat, (List.replicate m b).map boolC = List.replicate m [.bool b] := fun b m => by simp [boolC]
    refine wp_for N.ends.length 6 (List.range' 40 16 ++ [6]) (fun i F H' => Kept H2 H' ∧ Arr H' gb 0 3 [.int .i64 0, ev, bv] ∧ Buf H' 1 bv ((marksOf EndD.state N.states.toNat (N.ends.take i)).map boolC) ob ∧ Jag H' ev ot 2 vals (rgRows N N.arcs) obs) (by simp only [↓Sh.dn, sx, Nat.reduceBEq, reduceCtorEq, Nat.reduceEqDiff]) ⟨hk, hog, by rw [List.take_zero, marksOf_none, hnn, hmk]; exact hbb, hJ⟩ ?_ ?_
    · rintro i F' H' hlt hF' f6 ⟨hk, hog, hbb, hJ⟩ k
      have g1 := hF' 1 rfl
      have g3 := hF' 3 rfl
      simp only [↓Sh.dn, sx, Nat.reduceBEq, reduceCtorEq, Nat.reduceEqDiff, f1, f3] at g1 g3
      have hb' := hb2.kept hk2.wf hk
      obtain ⟨q, o, kk, hia, hc, hcc⟩ := hb'.hen.at Tryz.underlying24 size_56 (i := i) (x := N.ends[i].cells) (by simp [hlt]) .i64
      have hcs := hcc 0 _ rfl
      simp only [Nat.add_zero, List.getElem_cons_zero] at hcs
      clear hcc
      have htake : N.ends.take (i + 1) = N.ends.take i ++ [N.ends[i]] := by rw [List.take_add_one, List.getElem?_eq_getElem hlt]; rfl
      obtain ⟨k0, k1⟩ := hok.fin _ (List.getElem_mem hlt)
      generalize N.ends[i] = e at hc hcs htake k0 k1
      obtain ⟨s, hs⟩ : ∃ s : Nat, e.state = (s : Int) := ⟨e.state.toNat, by omega⟩
      have hsn : s < N.states.toNat := by omega
      have hn1 := hog.cell 1
      have hn2 := hog.cell 2
      obtain ⟨p, H6, ia, e1, e2, e3, e4⟩ := Buf.set (P := Tryz.prog) hbb hk.wf (i := s) (x := boolC true) (by simp [marksOf_length, hsn]) rfl
      have ia2 := ia Tryz.underlying63 size_4 (j := .i64)
      rw [← hs] at ia2
      have st : astore Tryz.prog 4 H' (.bool true) (.pointer (some p)) = some H6 := by rw [store_cell size_4 rfl]; exact e1
      simp only [↓Sh.dn, sx, Nat.reduceBEq, reduceCtorEq, Nat.reduceEqDiff, hb'.c0, hb'.c1, hb'.c2, hb'.c3, hb'.ca, netLenS hb', netLenA hb', netLenE hb', g1, g3, f6, Option.map_some, nat_lt, hlt, decide_true]
      first | refine (wp_free (by kernel_rfl)).2 ?_ | skip
      simp only [↓Sh.dn, sx, Nat.reduceBEq, reduceCtorEq, Nat.reduceEqDiff, hb'.c0, hb'.c1, hb'.c2, hb'.c3, hb'.ca, netLenS hb', netLenA hb', netLenE hb', g1, g3, f6, hn1, hn2, Option.map_some, hia, hcs, ia2, st, wrap_succ hlt hsm.en]
      refine k _ _ (by repeat (first | refine Same.put ?_ rfl | exact Same.rfl' _)) (by simp only [↓Sh.dn, sx, Nat.reduceBEq, reduceCtorEq, Nat.reduceEqDiff]) ⟨hk.then (Nat.le_refl _) (e3.weak fun y hy => by have := lob y hy; omega), hog.keep (e3.old gb (hog.lt hk.wf) (fun hy => by have := lb gb hy; omega)), ?_, hJ.chg hk.wf e3 fun y hy h => (hin y hy).2.2 h⟩
      rw [htake, marksOf_snoc hsn hs, List.map_set]
      exact e2
    · rintro F' H' hF' f6 ⟨hk, hog, hbb, hJ⟩
      have g1 := hF' 1 rfl
      have g2' := hF' 2 rfl
      have g3 := hF' 3 rfl
      simp only [↓Sh.dn, sx, Nat.reduceBEq, reduceCtorEq, Nat.reduceEqDiff, f1, f2, f3] at g1 g2' g3
      rw [List.take_length] at hbb
      have hb' := hb2.kept hk2.wf hk
      have o0' : Sh.Obj H' go 3 [.int .i64 0, .slice none 0 0, .slice none 0 0] true := by
        unfold Sh.Obj at o0 ⊢
        rw [hk.old go x2]; exact o0
      obtain ⟨H6, st, o3, c3⟩ := rgOut (ev := ev) (bv := bv) hk.wf _ _ _ o0' ic1 ic2
      have hca := hog.cells (i := 0) (n := 3) (by simp)
      have hcr := o3.cells (i := 0) (n := 3) (by simp)
      simp only [↓Sh.dn, sx, Nat.reduceBEq, reduceCtorEq, Nat.reduceEqDiff, hb'.c0, hb'.c1, hb'.c2, hb'.c3, hb'.ca, netLenS hb', netLenA hb', netLenE hb', g1, g2', g3, f6, nat_lt, Nat.lt_irrefl, decide_false, Option.map_some, hca, List.drop_zero, List.take_succ_cons, List.take_zero, st, hres, hcr]
      have hJ6 := (hJ.chg hk.wf c3 fun y hy e => by have := (hin y hy).1; omega).read
      have hb6 := (hbb.chg hk.wf c3 fun y hy e => by have := lob y hy; omega).toSl
      have er : rCells (edgesOf N) = rgRows N N.arcs := by unfold rCells edgesOf rgRows rowsOf; simp [Function.comp_def]
      rw [← hn]
      refine ⟨(hk2.trans hk).then (e0 go (Nat.le_refl _)) (c3.weak fun y hy => by omega), ev, bv, vals, rfl, by rw [er]; exact hJ6, hb6, by unfold edgesOf; rw [rowsOf_length], marksOf_length, by omega, by omega, fun s r hr => ⟨Nat.le_trans (rowsOf_le hr) hok.ar, fun e he => ?_⟩⟩
      obtain ⟨a, ha, _, rfl⟩ := (rowsOf_mem hr e).1 he
      have := hok.arc a ha
      show a.to.toNat < _
      omega
end Go.Proofs.YtfcmpclbhnjkgaaGreat
/- slices.Sort. -/
set_option maxHeartbeats 4000000
set_option maxRecDepth 20000
set_option linter.unusedSimpArgs false
set_option linter.unusedVariables false
set_option pp.deepTerms.threshold 8
namespace Go.Proofs.YtfcmpclbhnjkgaaGreat
open Go Go.Proofs Go.Proofs.Sh
theorem insVoidIntsInt {H : AH} {v : Value} : Sh.Call Tryz.prog (knows 10) 151 [v, .int .i64 0, .int .i64 0] H (fun r H' => H' = H) := by
  refine call_of rfl Tryz.func151 rfl (Nat.le_of_ble_eq_true rfl) ?_
  have hres : Tryz.f151.results.toList = [] := rfl
  have w1 : IntKind.wrap .i64 ((0 : Int) + 1) = 1 := rfl
  simp only [↓Sh.dn, sx, Nat.reduceBEq, reduceCtorEq, Nat.reduceEqDiff, w1]
  refine wp_while (fun m F H' => H' = H ∧ F.get 2 = some (.int .i64 0) ∧ F.get 6 = some (.int .i64 1)) (m := 0) ⟨rfl, by simp only [↓Sh.dn, sx, Nat.reduceBEq, reduceCtorEq, Nat.reduceEqDiff], by simp only [↓Sh.dn, sx, Nat.reduceBEq, reduceCtorEq, Nat.reduceEqDiff]⟩ ?_
  rintro m F H' ⟨rfl, f2, f6⟩ kk
  have d : decide ((1 : Int) < 0) = false := rfl
  simp only [↓Sh.dn, sx, Nat.reduceBEq, reduceCtorEq, Nat.reduceEqDiff, f2, f6, d, hres]
theorem pdqVoidIntsInt {H : AH} {v : Value} {lim : Int} : Sh.Call Tryz.prog (knows 10) 140 [v, .int .i64 0, .int .i64 0, .int .i64 lim] H (fun r H' => H' = H) := by
  refine call_of rfl Tryz.func140 rfl (Nat.le_of_ble_eq_true rfl) ?_
  have hres : Tryz.f140.results.toList = [] := rfl
  obtain ⟨r, H1, hd, rfl⟩ := insVoidIntsInt (H := H) (v := v)
  have w1 : IntKind.wrap .i64 ((0 : Int) - 0) = 0 := rfl
  have d : decide ((0 : Int) ≤ 12) = true := rfl
  simp only [↓Sh.dn, sx, Nat.reduceBEq, reduceCtorEq, Nat.reduceEqDiff]
  refine wp_while (fun m F H' => H' = H1 ∧ F.get 0 = some v ∧ F.get 1 = some (.int .i64 0) ∧ F.get 2 = some (.int .i64 0)) (m := 0) ⟨rfl, by simp only [↓Sh.dn, sx, Nat.reduceBEq, reduceCtorEq, Nat.reduceEqDiff], by simp only [↓Sh.dn, sx, Nat.reduceBEq, reduceCtorEq, Nat.reduceEqDiff], by simp only [↓Sh.dn, sx, Nat.reduceBEq, reduceCtorEq, Nat.reduceEqDiff]⟩ ?_
  rintro m F H' ⟨rfl, f0, f1, f2⟩ kk
  simp only [↓Sh.dn, sx, Nat.reduceBEq, reduceCtorEq, Nat.reduceEqDiff, f0, f1, f2, w1, d]
  refine ⟨_, _, hd, ?_⟩
  simp only [↓Sh.dn, sx, Nat.reduceBEq, reduceCtorEq, Nat.reduceEqDiff, hres]
theorem sortIntsInt {H : AH} {v : Value} {l : List Int} {ob : Option Nat} (hb : Buf H 1 v (l.map fun x => [Value.int .i64 x]) ob) (hl : l.length ≤ 1048576) (hw : Wf H) :
    Sh.Call Tryz.prog (knows 10) 138 [v] H (fun r H' => ∃ l' : List Int, l'.Perm l ∧ Srt intLt 0 l'.length l' ∧ Buf H' 1 v (l'.map fun x => [Value.int .i64 x]) ob ∧ Chg (fun y => ob = some y) H H') := by
  refine call_of rfl Tryz.func138 rfl (Nat.le_of_ble_eq_true rfl) ?_
  have hres : Tryz.f138.results.toList = [] := rfl
  have hlen := hb.toSl.len Tryz.underlying74 H
  rw [List.length_map] at hlen
  have wu : IntKind.wrap .u64 (l.length : Int) = (l.length : Int) := wrapU64 (by omega) (by omega)
  obtain ⟨r, H1, hd, rfl, c, rfl, _⟩ := bitsLen (H := H) (x := l.length) (by omega)
  simp only [↓Sh.dn, sx, Nat.reduceBEq, reduceCtorEq, Nat.reduceEqDiff, hlen, wu]
  refine ⟨_, _, hd, ?_⟩
  cases ob with
  | none =>
    have hl0 : l = [] := by
      generalize hL : (l.map fun x => [Value.int .i64 x]) = L at hb
      cases hb
      simpa using hL
    subst hl0
    obtain ⟨r, H2, hd2, rfl⟩ := pdqVoidIntsInt (H := H1) (v := v) (lim := (c : Int))
    simp only [↓Sh.dn, sx, Nat.reduceBEq, reduceCtorEq, Nat.reduceEqDiff, List.length_nil, Int.ofNat_zero]
    refine ⟨_, _, hd2, ?_⟩
    simp only [↓Sh.dn, sx, Nat.reduceBEq, reduceCtorEq, Nat.reduceEqDiff, hres]
    exact ⟨[], List.Perm.refl _, fun i j x y h1 h2 h3 => by simp at h3, hb, Chg.refl hw⟩
  | some g =>
    obtain ⟨k, cap, n, rfl, hc, hback⟩ := hb.cells
    obtain ⟨r, H2, hd2, l', q1, q2, q3, q4⟩ := pdqInt (cap := cap) l.length (a := 0) (b := l.length) (lim := (c : Int)) (by omega) hc hw hl (Nat.zero_le _) (Nat.le_refl _) (fun q x y h => absurd h (Nat.lt_irrefl 0))
    simp only [↓Sh.dn, sx, Nat.reduceBEq, reduceCtorEq, Nat.reduceEqDiff]
    refine ⟨_, _, hd2, ?_⟩
    simp only [↓Sh.dn, sx, Nat.reduceBEq, reduceCtorEq, Nat.reduceEqDiff, hres]
    exact ⟨l', q1.perm, by rw [q1.length]; exact q2, hback H2 l' q1.length q3, q4.weak fun x hx => by rw [hx]⟩
end Go.Proofs.YtfcmpclbhnjkgaaGreat
/- sort.Ints. -/
set_option maxHeartbeats 4000000
set_option maxRecDepth 20000
set_option linter.unusedSimpArgs false
set_option linter.unusedVariables false
set_option pp.deepTerms.threshold 8
namespace Go.Proofs.YtfcmpclbhnjkgaaGreat
open Go Go.Proofs Go.Proofs.Sh
theorem sortInts {H : AH} {v : Value} {l : List Int} {ob : Option Nat} (hb : Buf H 1 v (l.map fun x => [.int .i64 x]) ob) (hl : l.length ≤ 1048576) (hw : Wf H) :
    Sh.Call Tryz.prog (knows 10) 127 [v] H (fun r H' => ∃ l' : List Int, l'.Perm l ∧ Srt intLt 0 l'.length l' ∧ Buf H' 1 v (l'.map fun x => [.int .i64 x]) ob ∧ Chg (fun y => ob = some y) H H') := by
  refine call_of rfl Tryz.func127 rfl (Nat.le_of_ble_eq_true rfl) ?_
  have hres : Tryz.f127.results.toList = [] := rfl
  obtain ⟨r, H1, hd, hq⟩ := sortIntsInt hb hl hw
  simp only [↓Sh.dn, sx, Nat.reduceBEq, reduceCtorEq, Nat.reduceEqDiff]
  refine ⟨_, _, hd, ?_⟩
  simp only [↓Sh.dn, sx, Nat.reduceBEq, reduceCtorEq, Nat.reduceEqDiff, hres]
  exact hq
end Go.Proofs.YtfcmpclbhnjkgaaGreat
/- The reference's Close: a set of states with all that empty edges lead to. -/
set_option maxHeartbeats 4000000
set_option maxRecDepth 20000
set_option linter.unusedSimpArgs false
set_option linter.unusedVariables false
set_option pp.deepTerms.threshold 8
namespace Go.Proofs.YtfcmpclbhnjkgaaGreat
open Go Go.Proofs Go.Proofs.Sh
theorem refClose {H : AH} {v u ev bv : Value} {vals : List Value} {n : Nat} {E : List (List (ByteArray × Nat))} {ends : List Bool} {L : List Nat} (h : RG H v n E ends ev bv vals) (hL : Sl H u 1 (L.map natC)) (hlt : ∀ t ∈ L, t < n) (hll : L.length ≤ 1073741823) (hw : Wf H) :
    Sh.Call Tryz.prog (knows 10) 106 [v, u] H (fun r H' => SetOut H H' r n (Clo (goesE E noText) fun s => s ∈ L)) := by
  refine call_of rfl Tryz.func106 rfl (Nat.le_of_ble_eq_true rfl) ?_
  have hres : Tryz.f106.results.toList = [.tmp 4] := rfl
  have hrb := RBox.of h hw
  have hk1 : Kept H (H.new 3 [.int .i64 0, ev, bv]).2 := Kept.new hw 3 _
  have hE := h.ed.sl.isCell
  have hB := h.en.isCell
  rw [h.eq]
  simp only [↓Sh.dn, sx, Nat.reduceBEq, reduceCtorEq, Nat.reduceEqDiff, rgNew hE hB]
  have e0 : H.next ≤ (H.new 3 [.int .i64 0, ev, bv]).2.next := Nat.le_succ _
  generalize (H.new 3 [.int .i64 0, ev, bv]).2 = H1 at hrb hk1 e0 ⊢
  generalize H.next = gb at hrb e0 ⊢
  have hn1 := h.n1
  have hn2 := h.n2
  have hlenE : ∀ H', abuiltin Tryz.prog .len [62] [ev] H' = some (.int .i64 (n : Int), H') := fun H' => by
    rw [h.ed.sl.len Tryz.underlying62, List.length_map, h.ed.len]; unfold rCells; rw [List.length_map, h.le]
  have hmk := mk_63 (H := H1) (l := n) (c := n) (Nat.le_refl _) (by omega)
  have k2 := Kept.new hk1.wf 1 (List.replicate n (.bool false))
  have f2 := Buf.fill hk1.wf (.bool false) (c := n) (by omega)
  simp only [↓Sh.dn, sx, Nat.reduceBEq, reduceCtorEq, Nat.reduceEqDiff, hrb.c1, hlenE, hmk]
  obtain ⟨os, hos⟩ : ∃ os, (if n = 0 then none else some H1.next) = os := ⟨_, rfl⟩
  rw [hos] at f2
  have hM0 : MB (H1.new 1 (List.replicate n (.bool false))).2 H1.next n (.slice (some ⟨H1.next, 0, some 0⟩) n n) os (List.replicate n false) [] := by
    refine ⟨Marks.empty n, by rw [List.map_replicate]; exact f2, fun y hy => ?_⟩
    rw [← hos, if_neg (by omega)] at hy
    rw [← Option.some.inj hy]; exact Nat.le_refl _
  generalize (Value.slice (some ⟨H1.next, 0, some 0⟩) n n) = sv at hM0 ⊢
  generalize (H1.new 1 (List.replicate n (.bool false))).2 = H2 at k2 hM0 ⊢
  refine wp_for L.length 7 (List.range' 15 27 ++ [6, 7]) (fun i F H' => Kept H1 H' ∧ ∃ z, F.get 6 = some z ∧ ∃ seen out ob, MB H' H1.next n sv os seen out ∧ LB H' H1.next os z out ob ∧ (∀ t ∈ out, t ∈ L) ∧ ∀ (j t : Nat), j < i → L[j]? = some t → t ∈ out) (by simp only [↓Sh.dn, sx, Nat.reduceBEq, reduceCtorEq, Nat.reduceEqDiff]) ⟨k2, _, by simp only [↓Sh.dn, sx, Nat.reduceBEq, reduceCtorEq, Nat.reduceEqDiff], _, _, none, hM0, ⟨.void none, fun y hy => by cases hy⟩, fun t ht => (by cases ht), fun j t hj => by omega⟩ ?_ ?_
  · rintro i F H' hi hF f7 ⟨hk, z, f6, seen, out, ob, hM, hl, hsub, hdone⟩ k
    have f1 := hF 1 rfl
    have f5 := hF 5 rfl
    simp only [↓Sh.dn, sx, Nat.reduceBEq, reduceCtorEq, Nat.reduceEqDiff] at f1 f5
    have hL' := hL.grow ((hk1.trans hk).grow hw)
    have hlen := hL'.len Tryz.underlying74 H'
    rw [List.length_map] at hlen
    obtain ⟨p, hia, hc⟩ := natSl Tryz.underlying74 size_3 hL' hi
    have htn : L[i] < n := hlt _ (List.getElem_mem hi)
    have hget : L[i]? = some L[i] := List.getElem?_eq_getElem hi
    have hmem : L[i] ∈ L := List.getElem_mem hi
    generalize L[i] = t at hc htn hget hmem
    obtain ⟨p2, hia2, hc2⟩ := hM.see Tryz.underlying63 size_4 htn
    simp only [↓Sh.dn, sx, Nat.reduceBEq, reduceCtorEq, Nat.reduceEqDiff, f1, f5, f6, f7, nat_lt, hi, decide_true, hlen, hia, hc, hia2, hc2]
    by_cases hin : t ∈ out
    · simp only [↓Sh.dn, sx, Nat.reduceBEq, reduceCtorEq, Nat.reduceEqDiff, hin, decide_true, f7, wrap_succ' hi (Nat.le_trans hll (by decide))]
      refine k _ _ (by repeat (first | refine Same.put ?_ rfl | exact Same.rfl' _)) (by simp only [↓Sh.dn, sx, Nat.reduceBEq, reduceCtorEq, Nat.reduceEqDiff]) ⟨hk, z, by simp only [↓Sh.dn, sx, Nat.reduceBEq, reduceCtorEq, Nat.reduceEqDiff, f6], seen, out, ob, hM, hl, hsub, fun j t' hj ht' => ?_⟩
      by_cases hji : j = i
      · subst hji; rw [hget] at ht'; rw [← Option.some.inj ht']; exact hin
      · exact hdone j t' (by omega) ht'
    · obtain ⟨p3, H3, a, cap, w', H4, ob', e1, e2, e3, rfl, e5, e6, e7, e8, e9, e10, e11⟩ := markPush hk hM hl htn hin (by have := hM.ms.le; omega)
      obtain ⟨p4, hia4, hc4⟩ := natSl Tryz.underlying74 size_3 (hL.grow ((hk1.trans e5).grow hw)) hi
      rw [hia] at hia4
      injection hia4 with hq; injection hq with hq; injection hq with hq
      rw [← hq] at hc4
      have : L[i] = t := Option.some.inj ((List.getElem?_eq_getElem hi).symm.trans hget)
      rw [this] at hc4
      simp only [↓Sh.dn, sx, Nat.reduceBEq, reduceCtorEq, Nat.reduceEqDiff, hin, decide_false, f1, f5, f6, f7, hia, hc, e1, e3, hc4, e6, e7, wrap_succ' hi (Nat.le_trans hll (by decide))]
      refine k _ _ (by repeat (first | refine Same.put ?_ rfl | exact Same.rfl' _)) (by simp only [↓Sh.dn, sx, Nat.reduceBEq, reduceCtorEq, Nat.reduceEqDiff]) ⟨e8, _, by simp only [↓Sh.dn, sx, Nat.reduceBEq, reduceCtorEq, Nat.reduceEqDiff], _, _, ob', e9, e10, fun x hx => ?_, fun j t' hj ht' => ?_⟩
      · rcases List.mem_append.1 hx with h | h
        · exact hsub x h
        · rw [List.mem_singleton.1 h]; exact hmem
      · by_cases hji : j = i
        · subst hji; rw [hget] at ht'; rw [← Option.some.inj ht']; exact List.mem_append_right _ List.mem_cons_self
        · exact List.mem_append_left _ (hdone j t' (by omega) ht')
  · rintro F H' hF f7 ⟨hk, z, f6, seen, out, ob, hM, hl, hsub, hdone⟩
    have f2 := hF 2 rfl
    have f5 := hF 5 rfl
    have f1 := hF 1 rfl
    simp only [↓Sh.dn, sx, Nat.reduceBEq, reduceCtorEq, Nat.reduceEqDiff] at f1 f2 f5
    have hL' := hL.grow ((hk1.trans hk).grow hw)
    have hlen := hL'.len Tryz.underlying74 H'
    rw [List.length_map] at hlen
    have hLout : ∀ t ∈ L, t ∈ out := fun t ht => by
      obtain ⟨j, hj⟩ := List.mem_iff_getElem?.1 ht
      exact hdone j t (List.getElem?_eq_some_iff.1 hj).1 hj
    simp only [↓Sh.dn, sx, Nat.reduceBEq, reduceCtorEq, Nat.reduceEqDiff, f1, f2, f5, f6, f7, nat_lt, Nat.lt_irrefl, decide_false, hlen]
    refine wp_while (m := n + 1) (fun m F H' => ∃ i, m + i = n + 1 ∧ F.get 8 = some (.int .i64 (i : Int)) ∧ F.get 2 = some (.pointer (some ⟨gb, 0, some 0⟩)) ∧ F.get 5 = some sv ∧ Kept H1 H' ∧ ∃ z, F.get 6 = some z ∧ ∃ seen out ob, MB H' H1.next n sv os seen out ∧ LB H' H1.next os z out ob ∧ i ≤ out.length ∧ (∀ t ∈ L, t ∈ out) ∧ (∀ t ∈ out, Clo (goesE E noText) (fun s => s ∈ L) t) ∧ ∀ s ∈ out.take i, ∀ t, goesE E noText s t → t ∈ out) ⟨0, by omega, by simp only [↓Sh.dn, sx, Nat.reduceBEq, reduceCtorEq, Nat.reduceEqDiff]; rfl, by simp only [↓Sh.dn, sx, Nat.reduceBEq, reduceCtorEq, Nat.reduceEqDiff, f2], by simp only [↓Sh.dn, sx, Nat.reduceBEq, reduceCtorEq, Nat.reduceEqDiff, f5], hk, z, by simp only [↓Sh.dn, sx, Nat.reduceBEq, reduceCtorEq, Nat.reduceEqDiff, f6], seen, out, ob, hM, hl, Nat.zero_le _, hLout, fun t ht => .base (hsub t ht), fun s hs => by simp at hs⟩ ?_
    clear hk hM hl hsub hdone hLout f1 f2 f5 f6 f7 hL' hlen hF
    clear z seen out ob
    clear F H'
    rintro m F H' ⟨i, hmi, f8, f2, f5, hk, z, f6, seen, out, ob, hM, hl, hio, hLout, hclo, hcl⟩ k
    have hlen := hl.bf.toSl.len Tryz.underlying74 H'
    rw [List.length_map] at hlen
    have hout := hM.ms.le
    by_cases hi : i < out.length
    · simp only [↓Sh.dn, sx, Nat.reduceBEq, reduceCtorEq, Nat.reduceEqDiff, f6, f8, nat_lt, hi, decide_true, hlen]
      have hsn : out[i] < n := hM.ms.lt (List.getElem_mem hi)
      have hget : out[i]? = some out[i] := List.getElem?_eq_getElem hi
      have hcs : Clo (goesE E noText) (fun s => s ∈ L) out[i] := hclo _ (List.getElem_mem hi)
      generalize out[i] = s at hsn hget hcs
      obtain ⟨r, hr⟩ : ∃ r, E[s]? = some r := ⟨E[s]'(by rw [h.le]; exact hsn), List.getElem?_eq_getElem _⟩
      have hr' : (rCells E)[s]? = some (r.map rEdge) := by unfold rCells; rw [List.getElem?_map, hr]; rfl
      obtain ⟨hrl, hrt⟩ := h.to s r hr
      obtain ⟨ga, oa, ka, wr, hia, hca, hsr⟩ := (h.ed.grow (hk1.grow hw)).at Tryz.underlying62 size_115 hr'
      have hro : ∀ {H'}, Kept H1 H' → H'.cell ⟨ga, oa, some ka⟩ = some wr ∧ Sl H' wr 2 (r.map rEdge) ∧ abuiltin Tryz.prog .len [115] [wr] H' = some (.int .i64 (r.length : Int), H') := fun hk => by
        have h2 := hsr.grow (hk.grow hk1.wf)
        refine ⟨cell_grow (hk.grow hk1.wf) hca, h2, ?_⟩
        rw [h2.len Tryz.underlying115, List.length_map]
      refine wp_for r.length 9 (List.range' 48 44 ++ [6, 9, 10]) (fun q F'' H'' => Kept H1 H'' ∧ ∃ z', F''.get 6 = some z' ∧ ∃ seen' out' ob', MB H'' H1.next n sv os seen' out' ∧ LB H'' H1.next os z' out' ob' ∧ out'[i]? = some s ∧ out'.take i = out.take i ∧ (∀ x ∈ out, x ∈ out') ∧ (∀ t ∈ out', Clo (goesE E noText) (fun s => s ∈ L) t) ∧ ∀ e ∈ r.take q, e.1 = noText → e.2 ∈ out') (by simp only [↓Sh.dn, sx, Nat.reduceBEq, reduceCtorEq, Nat.reduceEqDiff]) ⟨hk, z, by simp only [↓Sh.dn, sx, Nat.reduceBEq, reduceCtorEq, Nat.reduceEqDiff, f6], seen, out, ob, hM, hl, hget, rfl, fun x hx => hx, hclo, fun e he => by simp at he⟩ ?_ ?_
      · rintro q F'' H'' hq hF'' f9 ⟨hk'', z', f6', seen', out', ob', hM', hl', hget', htk, hsub, hclo', hed⟩ k2
        have g2 := hF'' 2 rfl
        have g5 := hF'' 5 rfl
        have g8 := hF'' 8 rfl
        simp only [↓Sh.dn, sx, Nat.reduceBEq, reduceCtorEq, Nat.reduceEqDiff, f2, f5, f8] at g2 g5 g8
        obtain ⟨hc1, hs1, hl1⟩ := hro hk''
        have hb1 := hrb.kept hk1.wf hk''
        have hil : i < out'.length := (List.getElem?_eq_some_iff.1 hget').1
        have hgs : out'[i] = s := Option.some.inj ((List.getElem?_eq_getElem hil).symm.trans hget')
        obtain ⟨p1, hia1, hcc1⟩ := natSl Tryz.underlying74 size_3 hl'.bf.toSl hil
        rw [hgs] at hcc1
        obtain ⟨g', o', k', hia2, hcs2, _⟩ := hs1.at Tryz.underlying115 size_117 (i := q) (x := rEdge r[q]) (by simp [hq]) .i64
        have hrq : r[q] ∈ r := List.getElem_mem hq
        have htake : r.take (q + 1) = r.take q ++ [r[q]] := by rw [List.take_add_one, List.getElem?_eq_getElem hq]; rfl
        generalize r[q] = e at hcs2 hrq htake
        have kn := Kept.new hk''.wf 2 (rEdge e)
        have hk3 := hk''.trans kn
        have hM3 := hM'.kept hk''.wf kn
        have hl3 := hl'.kept hk''.wf kn
        simp only [↓Sh.dn, sx, Nat.reduceBEq, reduceCtorEq, Nat.reduceEqDiff, f6', f9, g2, g5, g8, hb1.c1, hia1, hcc1, hia, hc1, hl1, nat_lt, hq, decide_true]
        refine (wp_free (by kernel_rfl)).2 ?_
        simp only [↓Sh.dn, sx, Nat.reduceBEq, reduceCtorEq, Nat.reduceEqDiff, f6', f9, g2, g5, g8, hb1.c1, hia1, hcc1, hia, hc1, hia2, hcs2, Option.map_some, reZero, reStore, reOver, re0, re1]
        have hnext : ∀ {seen2 : List Bool} {out2 : List Nat} {ob2 : Option Nat} {z2 : Value} {F2 : Fr} {H2 : AH}, Same (List.range' 48 44 ++ [6, 9, 10]) F'' F2 → F2.get 6 = some z2 → F2.get 9 = some (.int .i64 ((q + 1 : Nat) : Int)) → Kept H1 H2 → MB H2 H1.next n sv os seen2 out2 → LB H2 H1.next os z2 out2 ob2 → (out2 = out' ∨ out2 = out' ++ [e.2] ∧ e.1 = noText) → (e.1 = noText → e.2 ∈ out2) →
            wp Tryz.prog (knows 10) _ _ F2 H2 := fun {seen2 out2 ob2 z2 F2 H2} a1 a2 a3 a4 a5 a6 a7 a8 => k2 F2 H2 a1 a3 ⟨a4, z2, a2, seen2, out2, ob2, a5, a6, by
              rcases a7 with h | ⟨h, _⟩
              · rw [h]; exact hget'
              · rw [h, List.getElem?_append_left hil]; exact hget', by
              rcases a7 with h | ⟨h, _⟩
              · rw [h]; exact htk
              · rw [h, List.take_append_of_le_length (by omega)]; exact htk, fun x hx => by
              rcases a7 with h | ⟨h, _⟩
              · rw [h]; exact hsub x hx
              · rw [h]; exact List.mem_append_left _ (hsub x hx), fun t ht => by
              rcases a7 with h | ⟨h, he⟩
              · rw [h] at ht; exact hclo' t ht
              · rw [h] at ht
                rcases List.mem_append.1 ht with h2 | h2
                · exact hclo' t h2
                · rw [List.mem_singleton.1 h2]; exact .step hcs ⟨r, hr, by rw [← he]; exact hrq⟩, fun x hx hxe => by
              rw [htake] at hx
              rcases List.mem_append.1 hx with h2 | h2
              · have := hed x h2 hxe
                rcases a7 with h | ⟨h, _⟩
                · rw [h]; exact this
                · rw [h]; exact List.mem_append_left _ this
              · rw [List.mem_singleton.1 h2] at hxe ⊢; exact a8 hxe⟩
        by_cases he : e.1 = ⟨#[]⟩
        · obtain ⟨p5, hia5, hc5⟩ := hM3.see Tryz.underlying63 size_4 (hrt e hrq)
          by_cases hin : e.2 ∈ out'
          · simp only [↓Sh.dn, sx, Nat.reduceBEq, reduceCtorEq, Nat.reduceEqDiff, he, decide_true, re1, g5, hia5, hc5, hin, f9, wrap_succ' hq (Nat.le_trans hrl (by decide))]
            exact hnext (by repeat (first | refine Same.put ?_ rfl | exact Same.rfl' _)) (by simp only [↓Sh.dn, sx, Nat.reduceBEq, reduceCtorEq, Nat.reduceEqDiff, f6']) (by simp only [↓Sh.dn, sx, Nat.reduceBEq, reduceCtorEq, Nat.reduceEqDiff]) hk3 hM3 hl3 (.inl rfl) fun _ => hin
          · obtain ⟨p3, H3, a, cap, w', H4, ob2, e1, e2, e3, rfl, e5, e6, e7, e8, e9, e10, e11⟩ := markPush hk3 hM3 hl3 (hrt e hrq) hin (by have := hM3.ms.le; omega)
            have hre : H3.cell ⟨H''.next, 1, some 0⟩ = some (.int .i64 (e.2 : Int)) := by
              have := ((Sh.Obj.new (H := H'') 2 (rEdge e)).arr.keep (e11.old H''.next (Nat.lt_succ_self _) fun hy => Nat.lt_irrefl _ (hM'.lt hk''.wf _ hy))).cell 1
              exact this
            simp only [↓Sh.dn, sx, Nat.reduceBEq, reduceCtorEq, Nat.reduceEqDiff, he, decide_true, re1, g5, e1, e2, e3, f6', hre, e6, e7, f9, wrap_succ' hq (Nat.le_trans hrl (by decide))]
            exact hnext (by repeat (first | refine Same.put ?_ rfl | exact Same.rfl' _)) (by simp only [↓Sh.dn, sx, Nat.reduceBEq, reduceCtorEq, Nat.reduceEqDiff]) (by simp only [↓Sh.dn, sx, Nat.reduceBEq, reduceCtorEq, Nat.reduceEqDiff]) e8 e9 e10 (.inr ⟨rfl, he⟩) fun _ => List.mem_append_right _ List.mem_cons_self
        · simp only [↓Sh.dn, sx, Nat.reduceBEq, reduceCtorEq, Nat.reduceEqDiff, he, decide_false, f9, wrap_succ' hq (Nat.le_trans hrl (by decide))]
          exact hnext (by repeat (first | refine Same.put ?_ rfl | exact Same.rfl' _)) (by simp only [↓Sh.dn, sx, Nat.reduceBEq, reduceCtorEq, Nat.reduceEqDiff, f6']) (by simp only [↓Sh.dn, sx, Nat.reduceBEq, reduceCtorEq, Nat.reduceEqDiff]) hk3 hM3 hl3 (.inl rfl) fun h => absurd h he
      · rintro F'' H'' hF'' f9 ⟨hk'', z', f6', seen', out', ob', hM', hl', hget', htk, hsub, hclo', hed⟩
        have g2 := hF'' 2 rfl
        have g5 := hF'' 5 rfl
        have g8 := hF'' 8 rfl
        simp only [↓Sh.dn, sx, Nat.reduceBEq, reduceCtorEq, Nat.reduceEqDiff, f2, f5, f8] at g2 g5 g8
        obtain ⟨hc1, hs1, hl1⟩ := hro hk''
        have hb1 := hrb.kept hk1.wf hk''
        have hil : i < out'.length := (List.getElem?_eq_some_iff.1 hget').1
        have hgs : out'[i] = s := Option.some.inj ((List.getElem?_eq_getElem hil).symm.trans hget')
        obtain ⟨p1, hia1, hcc1⟩ := natSl Tryz.underlying74 size_3 hl'.bf.toSl hil
        rw [hgs] at hcc1
        have hout' := hM'.ms.le
        simp only [↓Sh.dn, sx, Nat.reduceBEq, reduceCtorEq, Nat.reduceEqDiff, f6', f9, g2, g5, g8, hb1.c1, hia1, hcc1, hia, hc1, hl1, nat_lt, Nat.lt_irrefl, decide_false, wrap_succ' hil (Nat.le_trans (Nat.le_trans hout' hn2) (by decide))]
        refine k (n + 1 - (i + 1)) _ _ (by omega) ⟨i + 1, by omega, by simp only [↓Sh.dn, sx, Nat.reduceBEq, reduceCtorEq, Nat.reduceEqDiff], by simp only [↓Sh.dn, sx, Nat.reduceBEq, reduceCtorEq, Nat.reduceEqDiff, g2], by simp only [↓Sh.dn, sx, Nat.reduceBEq, reduceCtorEq, Nat.reduceEqDiff, g5], hk'', z', by simp only [↓Sh.dn, sx, Nat.reduceBEq, reduceCtorEq, Nat.reduceEqDiff, f6'], seen', out', ob', hM', hl', hil, fun t ht => hsub t (hLout t ht), hclo', fun x hx t hg => ?_⟩
        rw [List.take_add_one, hget'] at hx
        rcases List.mem_append.1 hx with hx | hx
        · rw [htk] at hx
          exact hsub t (hcl x hx t hg)
        · simp only [Option.toList, List.mem_singleton] at hx
          subst hx
          obtain ⟨r', hr2, hg2⟩ := hg
          rw [hr] at hr2
          rw [← Option.some.inj hr2] at hg2
          exact hed _ (by rw [List.take_length]; exact hg2) rfl
    · simp only [↓Sh.dn, sx, Nat.reduceBEq, reduceCtorEq, Nat.reduceEqDiff, f6, f8, nat_lt, hi, decide_false, hlen]
      obtain ⟨rr, H3, hd3, l', hperm, hsrt, hb3, hc3⟩ := sortInts (l := out.map fun (x : Nat) => (x : Int)) (by rw [natC_int]; exact hl.bf) (by rw [List.length_map]; omega) hk.wf
      refine ⟨_, _, hd3, ?_⟩
      simp only [↓Sh.dn, sx, Nat.reduceBEq, reduceCtorEq, Nat.reduceEqDiff, f6, hres]
      have hl' : l'.map (fun x => [Value.int .i64 x]) = (l'.map Int.toNat).map natC := by
        rw [List.map_map]
        refine List.map_congr_left fun x hx => ?_
        obtain ⟨y, _, rfl⟩ := List.mem_map.1 (hperm.mem_iff.1 hx)
        rfl
      rw [hl'] at hb3
      have hp2 : (l'.map Int.toNat).Perm out := by
        have := hperm.map Int.toNat
        rw [List.map_map] at this
        have e : out.map (Int.toNat ∘ fun (x : Nat) => (x : Int)) = out := by
          conv => rhs; rw [← List.map_id out]
          exact List.map_congr_left fun x _ => rfl
        rw [e] at this; exact this
      refine ⟨hk1.trans (hk.then (Nat.le_refl _) (hc3.weak fun y hy => (hl.fr y hy).1)), l'.map Int.toNat, ob, hb3, fun y hy => Nat.le_trans hk1.next (hl.fr y hy).1, hp2.nodup_iff.2 hM.ms.nod, fun t ht => hM.ms.lt (hp2.mem_iff.1 ht), fun t => ?_⟩
      rw [hp2.mem_iff]
      exact Clo.iff hLout hclo (fun s hs => hcl s (by rw [List.take_of_length_le (by omega)]; exact hs)) t
end Go.Proofs.YtfcmpclbhnjkgaaGreat
/- The reference's Step, Start, Run, IsEnd. -/
set_option maxHeartbeats 4000000
set_option maxRecDepth 20000
set_option linter.unusedSimpArgs false
set_option linter.unusedVariables false
set_option pp.deepTerms.threshold 8
namespace Go.Proofs.YtfcmpclbhnjkgaaGreat
open Go Go.Proofs Go.Proofs.Sh
theorem refIsEnd {H : AH} {v u ev bv : Value} {vals : List Value} {n : Nat} {E : List (List (ByteArray × Nat))} {ends : List Bool} {L : List Nat} (h : RG H v n E ends ev bv vals) (hL : Sl H u 1 (L.map natC)) (hlt : ∀ t ∈ L, t < n) (hll : L.length ≤ 1048576) (hw : Wf H) :
    Sh.Call Tryz.prog (knows 10) 58 [v, u] H (fun r H' => Kept H H' ∧ r = .bool (L.any fun t => decide (ends[t]? = some true))) := by
  refine call_of rfl Tryz.func58 rfl (Nat.le_of_ble_eq_true rfl) ?_
  have hres : Tryz.f58.results.toList = [.tmp 4] := rfl
  have hrb := RBox.of h hw
  have hk1 : Kept H (H.new 3 [.int .i64 0, ev, bv]).2 := Kept.new hw 3 _
  have hE := h.ed.sl.isCell
  have hB := h.en.isCell
  rw [h.eq]
  simp only [↓Sh.dn, sx, Nat.reduceBEq, reduceCtorEq, Nat.reduceEqDiff, rgNew hE hB]
  generalize (H.new 3 [.int .i64 0, ev, bv]).2 = H1 at hrb hk1 ⊢
  generalize H.next = gb at hrb ⊢
  have hL' := hL.grow (hk1.grow hw)
  have hlen := hL'.len Tryz.underlying74 H1
  rw [List.length_map] at hlen
  refine wp_for L.length 5 (List.range' 5 15) (fun i F H' => H' = H1 ∧ (L.take i).any (fun t => decide (ends[t]? = some true)) = false) (by simp only [↓Sh.dn, sx, Nat.reduceBEq, reduceCtorEq, Nat.reduceEqDiff]) ⟨rfl, rfl⟩ ?_ ?_
  · rintro i F H' hi hF f5 ⟨rfl, hall⟩ k
    have f1 := hF 1 rfl
    have f2 := hF 2 rfl
    simp only [↓Sh.dn, sx, Nat.reduceBEq, reduceCtorEq, Nat.reduceEqDiff] at f1 f2
    obtain ⟨p, hia, hc⟩ := natSl Tryz.underlying74 size_3 hL' hi
    have htn : L[i] < n := hlt _ (List.getElem_mem hi)
    have hmem : L[i] ∈ L := List.getElem_mem hi
    have htake : L.take (i + 1) = L.take i ++ [L[i]] := by rw [List.take_add_one, List.getElem?_eq_getElem hi]; rfl
    generalize L[i] = t at hc htn hmem htake
    obtain ⟨b, hb⟩ : ∃ b, ends[t]? = some b := ⟨ends[t]'(by rw [h.ln]; exact htn), List.getElem?_eq_getElem _⟩
    obtain ⟨p2, hia2, hc2⟩ := Sl.elem (s := 1) Tryz.underlying63 size_4 hrb.rg.en (i := t) (u := .bool b) (by rw [List.getElem?_map, hb]; rfl)
    simp only [↓Sh.dn, sx, Nat.reduceBEq, reduceCtorEq, Nat.reduceEqDiff, f1, f2, f5, nat_lt, hi, decide_true, hlen]
    first | refine (wp_free (by kernel_rfl)).2 ?_ | skip
    simp only [↓Sh.dn, sx, Nat.reduceBEq, reduceCtorEq, Nat.reduceEqDiff, f1, f2, f5, hrb.c2, hia, hc, hia2, hc2]
    cases b with
    | true =>
      have : (L.any fun t => decide (ends[t]? = some true)) = true := List.any_eq_true.2 ⟨t, hmem, by rw [hb]; rfl⟩
      simp only [↓Sh.dn, sx, Nat.reduceBEq, reduceCtorEq, Nat.reduceEqDiff, hres, this, hk1]
    | false =>
      simp only [↓Sh.dn, sx, Nat.reduceBEq, reduceCtorEq, Nat.reduceEqDiff, f5, wrap_succ hi hll]
      refine k _ _ (by repeat (first | refine Same.put ?_ rfl | exact Same.rfl' _)) (by simp only [↓Sh.dn, sx, Nat.reduceBEq, reduceCtorEq, Nat.reduceEqDiff]) ⟨rfl, ?_⟩
      rw [htake, List.any_append, hall]
      simp [hb]
  · rintro F H' hF f5 ⟨rfl, hall⟩
    have f1 := hF 1 rfl
    simp only [↓Sh.dn, sx, Nat.reduceBEq, reduceCtorEq, Nat.reduceEqDiff] at f1
    rw [List.take_length] at hall
    simp only [↓Sh.dn, sx, Nat.reduceBEq, reduceCtorEq, Nat.reduceEqDiff, f1, f5, nat_lt, Nat.lt_irrefl, decide_false, hlen, hres, hall, hk1]
theorem refStart {H : AH} {v ev bv : Value} {vals : List Value} {n : Nat} {E : List (List (ByteArray × Nat))} {ends : List Bool} (h : RG H v n E ends ev bv vals) (hw : Wf H) :
    Sh.Call Tryz.prog (knows 10) 87 [v] H (fun r H' => SetOut H H' r n (Clo (goesE E noText) fun s => s = 0)) := by
  refine call_of rfl Tryz.func87 rfl (Nat.le_of_ble_eq_true rfl) ?_
  have hres : Tryz.f87.results.toList = [.tmp 2] := rfl
  have hrb := RBox.of h hw
  have hk1 : Kept H (H.new 3 [.int .i64 0, ev, bv]).2 := Kept.new hw 3 _
  have hE := h.ed.sl.isCell
  have hB := h.en.isCell
  rw [h.eq]
  simp only [↓Sh.dn, sx, Nat.reduceBEq, reduceCtorEq, Nat.reduceEqDiff, rgNew hE hB]
  generalize (H.new 3 [.int .i64 0, ev, bv]).2 = H1 at hrb hk1 ⊢
  generalize H.next = gb at hrb ⊢
  have hbs := build1_74 (H := H1) (x := .int .i64 0) rfl rfl
  have k2 := Kept.new hk1.wf 1 [.int .i64 0]
  have hS : Sl (H1.new 1 [.int .i64 0]).2 (.slice (some ⟨H1.next, 0, some 0⟩) 1 1) 1 (([0] : List Nat).map natC) :=
    (Buf.fresh (H := H1) (s := 1) (xs := [natC 0]) hk1.wf (by intro x hx; rw [List.mem_singleton.1 hx]; rfl) (by simp) 1 rfl).toSl
  have hR := hrb.rg.kept hk1.wf k2
  obtain ⟨r, H3, hd3, ho⟩ := refClose hR hS (fun t ht => by rw [List.mem_singleton.1 ht]; exact h.n1) (by decide) k2.wf
  simp only [↓Sh.dn, sx, Nat.reduceBEq, reduceCtorEq, Nat.reduceEqDiff, hrb.c0, hrb.ca, Option.map_some, hbs, vcells]
  refine ⟨_, _, hd3, ?_⟩
  simp only [↓Sh.dn, sx, Nat.reduceBEq, reduceCtorEq, Nat.reduceEqDiff, hres]
  exact (ho.pre (hk1.trans k2)).iff fun t => by simp only [List.mem_singleton]
theorem refStep {H : AH} {v u ev bv : Value} {vals : List Value} {n : Nat} {E : List (List (ByteArray × Nat))} {ends : List Bool} {L : List Nat} {x : ByteArray} (h : RG H v n E ends ev bv vals) (hL : Sl H u 1 (L.map natC)) (hlt : ∀ t ∈ L, t < n) (hll : L.length ≤ 3000) (hw : Wf H) :
    Sh.Call Tryz.prog (knows 10) 67 [v, u, .string x] H (fun r H' => SetOut H H' r n (Clo (goesE E noText) fun t => ∃ s, s ∈ L ∧ goesE E x s t)) := by
  refine call_of rfl Tryz.func67 rfl (Nat.le_of_ble_eq_true rfl) ?_
  have hres : Tryz.f67.results.toList = [.tmp 6] := rfl
  have hrb := RBox.of h hw
  have hk1 : Kept H (H.new 3 [.int .i64 0, ev, bv]).2 := Kept.new hw 3 _
  have hE := h.ed.sl.isCell
  have hB := h.en.isCell
  rw [h.eq]
  simp only [↓Sh.dn, sx, Nat.reduceBEq, reduceCtorEq, Nat.reduceEqDiff, rgNew hE hB]
  generalize (H.new 3 [.int .i64 0, ev, bv]).2 = H1 at hrb hk1 ⊢
  generalize H.next = gb at hrb ⊢
  have hn2 := h.n2
  refine wp_for L.length 8 (List.range' 7 43) (fun i F H' => Kept H1 H' ∧ ∃ z, F.get 7 = some z ∧ ∃ out ob, LB H' H1.next none z out ob ∧ out.length ≤ i * 60000 ∧ (∀ t ∈ out, t < n) ∧ ∀ t, t ∈ out ↔ ∃ s ∈ L.take i, goesE E x s t) (by simp only [↓Sh.dn, sx, Nat.reduceBEq, reduceCtorEq, Nat.reduceEqDiff]) ⟨Kept.refl hk1.wf, _, by simp only [↓Sh.dn, sx, Nat.reduceBEq, reduceCtorEq, Nat.reduceEqDiff], [], none, ⟨.void none, fun y hy => by cases hy⟩, by simp, fun t ht => (by cases ht), fun t => by simp⟩ ?_ ?_
  · rintro i F H' hi hF f8 ⟨hk, z, f7, out, ob, hl, hol, hon, hiff⟩ k
    have f1 := hF 1 rfl
    have f2 := hF 2 rfl
    have f3 := hF 3 rfl
    simp only [↓Sh.dn, sx, Nat.reduceBEq, reduceCtorEq, Nat.reduceEqDiff] at f1 f2 f3
    have hL' := fun {H'} (hk : Kept H1 H') => hL.grow ((hk1.trans hk).grow hw)
    have hlen := (hL' hk).len Tryz.underlying74 H'
    rw [List.length_map] at hlen
    obtain ⟨p, hia, hc⟩ := natSl Tryz.underlying74 size_3 (hL' (Kept.refl hk1.wf)) hi
    have hc' := fun {H'} (hk : Kept H1 H') => cell_grow (hk.grow hk1.wf) hc
    have htn : L[i] < n := hlt _ (List.getElem_mem hi)
    have htake : L.take (i + 1) = L.take i ++ [L[i]] := by rw [List.take_add_one, List.getElem?_eq_getElem hi]; rfl
    clear hc
    generalize L[i] = s at hc' htn htake
    obtain ⟨r, hr⟩ : ∃ r, E[s]? = some r := ⟨E[s]'(by rw [h.le]; exact htn), List.getElem?_eq_getElem _⟩
    have hr' : (rCells E)[s]? = some (r.map rEdge) := by unfold rCells; rw [List.getElem?_map, hr]; rfl
    obtain ⟨hrl, hrt⟩ := h.to s r hr
    obtain ⟨ga, oa, ka, wr, hia2, hca, hsr⟩ := (h.ed.grow (hk1.grow hw)).at Tryz.underlying62 size_115 hr'
    have hro : ∀ {H'}, Kept H1 H' → H'.cell ⟨ga, oa, some ka⟩ = some wr ∧ Sl H' wr 2 (r.map rEdge) ∧ abuiltin Tryz.prog .len [115] [wr] H' = some (.int .i64 (r.length : Int), H') := fun hk => by
      have h2 := hsr.grow (hk.grow hk1.wf)
      refine ⟨cell_grow (hk.grow hk1.wf) hca, h2, ?_⟩
      rw [h2.len Tryz.underlying115, List.length_map]
    simp only [↓Sh.dn, sx, Nat.reduceBEq, reduceCtorEq, Nat.reduceEqDiff, f1, f8, nat_lt, hi, decide_true, hlen]
    refine wp_for r.length 9 (List.range' 17 33 ++ [7, 9, 10]) (fun q F'' H'' => Kept H1 H'' ∧ ∃ z', F''.get 7 = some z' ∧ ∃ out' ob', LB H'' H1.next none z' out' ob' ∧ out'.length ≤ i * 60000 + q ∧ (∀ t ∈ out', t < n) ∧ ∀ t, t ∈ out' ↔ (∃ s ∈ L.take i, goesE E x s t) ∨ ∃ e ∈ r.take q, e.1 = x ∧ e.2 = t) (by simp only [↓Sh.dn, sx, Nat.reduceBEq, reduceCtorEq, Nat.reduceEqDiff]) ⟨hk, z, by simp only [↓Sh.dn, sx, Nat.reduceBEq, reduceCtorEq, Nat.reduceEqDiff, f7], out, ob, hl, Nat.le_trans hol (Nat.le_add_right _ _), hon, fun t => by rw [hiff t]; simp⟩ ?_ ?_
    · rintro q F'' H'' hq hF'' f9 ⟨hk'', z', f7', out', ob', hl', hol', hon', hiff'⟩ k2
      have g1 := hF'' 1 rfl
      have g2 := hF'' 2 rfl
      have g3 := hF'' 3 rfl
      have g8 := hF'' 8 rfl
      simp only [↓Sh.dn, sx, Nat.reduceBEq, reduceCtorEq, Nat.reduceEqDiff, f1, f2, f3, f8] at g1 g2 g3 g8
      obtain ⟨hc1, hs1, hl1⟩ := hro hk''
      have hcc := hc' hk''
      have hb1 := hrb.kept hk1.wf hk''
      obtain ⟨g', o', k', hia3, hcs2, _⟩ := hs1.at Tryz.underlying115 size_117 (i := q) (x := rEdge r[q]) (by simp [hq]) .i64
      have hrq : r[q] ∈ r := List.getElem_mem hq
      have htk : r.take (q + 1) = r.take q ++ [r[q]] := by rw [List.take_add_one, List.getElem?_eq_getElem hq]; rfl
      generalize r[q] = e at hcs2 hrq htk
      have kn := Kept.new hk''.wf 2 (rEdge e)
      have hk3 := hk''.trans kn
      have hl3 := hl'.kept hk''.wf kn
      simp only [↓Sh.dn, sx, Nat.reduceBEq, reduceCtorEq, Nat.reduceEqDiff, f9, g1, g2, g3, g8, hb1.c1, hia, hcc, hia2, hc1, hl1, nat_lt, hq, decide_true]
      refine (wp_free (by kernel_rfl)).2 ?_
      simp only [↓Sh.dn, sx, Nat.reduceBEq, reduceCtorEq, Nat.reduceEqDiff, f9, g1, g2, g3, g8, hb1.c1, hia, hcc, hia2, hc1, hia3, hcs2, Option.map_some, reZero, reStore, reOver, re0, re1]
      have hj : ∀ t, (∃ e' ∈ r.take (q + 1), e'.1 = x ∧ e'.2 = t) ↔ (∃ e' ∈ r.take q, e'.1 = x ∧ e'.2 = t) ∨ e.1 = x ∧ e.2 = t := fun t => by
        rw [htk]
        simp only [List.mem_append, List.mem_singleton]
        constructor
        · rintro ⟨e', h1 | h1, h2⟩
          · exact .inl ⟨e', h1, h2⟩
          · subst h1; exact .inr h2
        · rintro (⟨e', h1, h2⟩ | h2)
          · exact ⟨e', .inl h1, h2⟩
          · exact ⟨e, .inr rfl, h2⟩
      by_cases he : e.1 = x
      · obtain ⟨a, cap, w', H4, ob2, rfl, e1, e2, e3, e4, e5⟩ := pushNat e.2 hk3 (fun y hy => by cases hy) hl3 (by omega)
        have hre := re1 (H := H'') (e := e)
        simp only [↓Sh.dn, sx, Nat.reduceBEq, reduceCtorEq, Nat.reduceEqDiff, he, decide_true, f7', f9, re1, e1, e2, wrap_succ' hq (Nat.le_trans hrl (by decide))]
        refine k2 _ _ (by repeat (first | refine Same.put ?_ rfl | exact Same.rfl' _)) (by simp only [↓Sh.dn, sx, Nat.reduceBEq, reduceCtorEq, Nat.reduceEqDiff]) ⟨e3, w', by simp only [↓Sh.dn, sx, Nat.reduceBEq, reduceCtorEq, Nat.reduceEqDiff], out' ++ [e.2], ob2, e4, by rw [List.length_append]; simp; omega, fun t ht => ?_, fun t => ?_⟩
        · rcases List.mem_append.1 ht with h2 | h2
          · exact hon' t h2
          · rw [List.mem_singleton.1 h2]; exact hrt e hrq
        · rw [hj, List.mem_append, List.mem_singleton, hiff' t]
          constructor
          · rintro ((h1 | h1) | h1)
            · exact .inl h1
            · exact .inr (.inl h1)
            · exact .inr (.inr ⟨he, h1.symm⟩)
          · rintro (h1 | h1 | ⟨_, h1⟩)
            · exact .inl (.inl h1)
            · exact .inl (.inr h1)
            · exact .inr h1.symm
      · simp only [↓Sh.dn, sx, Nat.reduceBEq, reduceCtorEq, Nat.reduceEqDiff, he, decide_false, f9, wrap_succ' hq (Nat.le_trans hrl (by decide))]
        refine k2 _ _ (by repeat (first | refine Same.put ?_ rfl | exact Same.rfl' _)) (by simp only [↓Sh.dn, sx, Nat.reduceBEq, reduceCtorEq, Nat.reduceEqDiff]) ⟨hk3, z', by simp only [↓Sh.dn, sx, Nat.reduceBEq, reduceCtorEq, Nat.reduceEqDiff, f7'], out', ob', hl3, by omega, hon', fun t => ?_⟩
        rw [hj, hiff' t]
        simp [he]
    · rintro F'' H'' hF'' f9 ⟨hk'', z', f7', out', ob', hl', hol', hon', hiff'⟩
      have g1 := hF'' 1 rfl
      have g2 := hF'' 2 rfl
      have g3 := hF'' 3 rfl
      have g8 := hF'' 8 rfl
      simp only [↓Sh.dn, sx, Nat.reduceBEq, reduceCtorEq, Nat.reduceEqDiff, f1, f2, f3, f8] at g1 g2 g3 g8
      obtain ⟨hc1, hs1, hl1⟩ := hro hk''
      have hcc := hc' hk''
      have hb1 := hrb.kept hk1.wf hk''
      simp only [↓Sh.dn, sx, Nat.reduceBEq, reduceCtorEq, Nat.reduceEqDiff, f9, g1, g2, g3, g8, hb1.c1, hia, hcc, hia2, hc1, hl1, nat_lt, Nat.lt_irrefl, decide_false, wrap_succ' hi (Nat.le_trans hll (by decide))]
      refine k _ _ ?_ (by simp only [↓Sh.dn, sx, Nat.reduceBEq, reduceCtorEq, Nat.reduceEqDiff]) ⟨hk'', z', by simp only [↓Sh.dn, sx, Nat.reduceBEq, reduceCtorEq, Nat.reduceEqDiff, f7'], out', ob', hl', by omega, hon', fun t => ?_⟩
      · repeat refine Same.put ?_ rfl
        exact Same.trans (by repeat (first | refine Same.put ?_ rfl | exact Same.rfl' _)) (hF''.sub rfl)
      · rw [hiff' t, htake, List.take_length]
        simp only [List.mem_append, List.mem_singleton]
        constructor
        · rintro (⟨s', h1, h2⟩ | ⟨e, h1, h2, h3⟩)
          · exact ⟨s', .inl h1, h2⟩
          · exact ⟨s, .inr rfl, r, hr, by rw [← h2, ← h3]; exact h1⟩
        · rintro ⟨s', h1 | h1, h2⟩
          · exact .inl ⟨s', h1, h2⟩
          · subst h1
            obtain ⟨r', h3, h4⟩ := h2
            rw [hr] at h3
            rw [← Option.some.inj h3] at h4
            exact .inr ⟨_, h4, rfl, rfl⟩
  · rintro F H' hF f8 ⟨hk, z, f7, out, ob, hl, hol, hon, hiff⟩
    have f1 := hF 1 rfl
    have f3 := hF 3 rfl
    simp only [↓Sh.dn, sx, Nat.reduceBEq, reduceCtorEq, Nat.reduceEqDiff] at f1 f3
    have hL' := hL.grow ((hk1.trans hk).grow hw)
    have hlen := hL'.len Tryz.underlying74 H'
    rw [List.length_map] at hlen
    rw [List.take_length] at hiff
    have hb1 := hrb.kept hk1.wf hk
    obtain ⟨r, H3, hd3, ho⟩ := refClose hb1.rg hl.bf.toSl hon (by omega) hk.wf
    simp only [↓Sh.dn, sx, Nat.reduceBEq, reduceCtorEq, Nat.reduceEqDiff, f1, f3, f7, f8, nat_lt, Nat.lt_irrefl, decide_false, hlen, hb1.ca, Option.map_some]
    refine ⟨_, _, hd3, ?_⟩
    simp only [↓Sh.dn, sx, Nat.reduceBEq, reduceCtorEq, Nat.reduceEqDiff, hres]
    refine (ho.pre (hk1.trans hk)).iff fun t => ?_
    have : (fun s => s ∈ out) = fun t => ∃ s, s ∈ L ∧ goesE E x s t := by
      funext t
      exact propext (hiff t)
    rw [this]
theorem refRun {H : AH} {v u ev bv : Value} {vals : List Value} {n : Nat} {E : List (List (ByteArray × Nat))} {ends : List Bool} {w : List ByteArray} (h : RG H v n E ends ev bv vals) (hu : Sl H u 1 (w.map strCell)) (hwl : w.length ≤ 1048576) (hw : Wf H) :
    Sh.Call Tryz.prog (knows 10) 59 [v, u] H (fun r H' => SetOut H H' r n fun t => (∀ x ∈ w, x ≠ noText) ∧ RunS (goesE E noText) (goesE E) (Clo (goesE E noText) fun s => s = 0) w t) := by
  refine call_of rfl Tryz.func59 rfl (Nat.le_of_ble_eq_true rfl) ?_
  have hres : Tryz.f59.results.toList = [.tmp 4] := rfl
  have hrb := RBox.of h hw
  have hk1 : Kept H (H.new 3 [.int .i64 0, ev, bv]).2 := Kept.new hw 3 _
  have hE := h.ed.sl.isCell
  have hB := h.en.isCell
  rw [h.eq]
  simp only [↓Sh.dn, sx, Nat.reduceBEq, reduceCtorEq, Nat.reduceEqDiff, rgNew hE hB]
  generalize (H.new 3 [.int .i64 0, ev, bv]).2 = H1 at hrb hk1 ⊢
  generalize H.next = gb at hrb ⊢
  have hn2 := h.n2
  have hu1 := hu.grow (hk1.grow hw)
  obtain ⟨r0, H2, hd2, hk2, out0, b0, hb0, hf0, hnd0, hlt0, hi0⟩ := refStart hrb.rg hk1.wf
  simp only [↓Sh.dn, sx, Nat.reduceBEq, reduceCtorEq, Nat.reduceEqDiff, hrb.ca, Option.map_some]
  refine ⟨_, _, hd2, ?_⟩
  obtain ⟨S0, hS0⟩ : ∃ S0, (Clo (goesE E noText) fun s => s = 0) = S0 := ⟨_, rfl⟩
  rw [hS0] at hi0 ⊢
  -- what is left if nothing is reached, or a text is empty
  have fin : ∀ {H' : AH} {z : Value} {out : List Nat} {b : Option Nat}, Kept H1 H' → Buf H' 1 z (out.map natC) b → (∀ y, b = some y → H1.next ≤ y) → out.Nodup → (∀ t ∈ out, t < n) → (∀ t, t ∈ out ↔ (∀ x ∈ w, x ≠ noText) ∧ RunS (goesE E noText) (goesE E) S0 w t) →
      SetOut H H' z n fun t => (∀ x ∈ w, x ≠ noText) ∧ RunS (goesE E noText) (goesE E) S0 w t :=
    fun {H' z out b} a1 a2 a3 a4 a5 a6 => ⟨hk1.trans a1, out, b, a2, fun y hy => Nat.le_trans hk1.next (a3 y hy), a4, a5, a6⟩
  refine wp_for w.length 6 (List.range' 9 23 ++ [5, 6]) (fun i F H' => Kept H1 H' ∧ ∃ z, F.get 5 = some z ∧ ∃ out b, Buf H' 1 z (out.map natC) b ∧ (∀ y, b = some y → H1.next ≤ y) ∧ out.Nodup ∧ (∀ t ∈ out, t < n) ∧ (∀ x ∈ w.take i, x ≠ noText) ∧ ∀ t, t ∈ out ↔ RunS (goesE E noText) (goesE E) S0 (w.take i) t) (by simp only [↓Sh.dn, sx, Nat.reduceBEq, reduceCtorEq, Nat.reduceEqDiff]) ⟨hk2, r0, by simp only [↓Sh.dn, sx, Nat.reduceBEq, reduceCtorEq, Nat.reduceEqDiff], out0, b0, hb0, hf0, hnd0, hlt0, fun x hx => by simp at hx, fun t => by rw [hi0 t]; rfl⟩ ?_ ?_
  · rintro i F H' hi hF f6 ⟨hk, z, f5, out, b, hb, hfr, hnd, hlt, hno, hiff⟩ k
    have f1 := hF 1 rfl
    have f2 := hF 2 rfl
    simp only [↓Sh.dn, sx, Nat.reduceBEq, reduceCtorEq, Nat.reduceEqDiff] at f1 f2
    have hu' := hu1.grow (hk.grow hk1.wf)
    have hlen := hu'.len Tryz.underlying22 H'
    rw [List.length_map] at hlen
    have hlen2 := hb.toSl.len Tryz.underlying74 H'
    rw [List.length_map] at hlen2
    have hol := nodup_le hnd hlt
    have hb1 := hrb.kept hk1.wf hk
    obtain ⟨p, hia, hc⟩ := Sl.elem (s := 1) Tryz.underlying22 size_9 hu' (i := i) (u := .string w[i]) (by rw [List.getElem?_map, List.getElem?_eq_getElem hi]; rfl)
    have htake : w.take (i + 1) = w.take i ++ [w[i]] := by rw [List.take_add_one, List.getElem?_eq_getElem hi]; rfl
    have hmem : w[i] ∈ w := List.getElem_mem hi
    generalize w[i] = x at hc htake hmem
    have hpos : decide ((0 : Int) < (out.length : Int)) = decide (out ≠ []) := by cases out <;> simp
    simp only [↓Sh.dn, sx, Nat.reduceBEq, reduceCtorEq, Nat.reduceEqDiff, f1, f5, f6, nat_lt, hi, decide_true, hlen, hlen2, hpos]
    by_cases ho : out = []
    · have ha : w = w.take i ++ w.drop i := (List.take_append_drop i w).symm
      simp only [↓Sh.dn, sx, Nat.reduceBEq, reduceCtorEq, Nat.reduceEqDiff, ho, decide_false, decide_true, f5, hres, Bool.not_true]
      refine fin hk hb hfr hnd hlt fun t => ?_
      rw [ho]
      constructor
      · intro h; cases h
      · rintro ⟨_, h2⟩
        rw [ha, RunS.append] at h2
        exact absurd h2 (RunS.none (fun s hs => by have := (hiff s).2 hs; rw [ho] at this; cases this) t)
    · simp only [↓Sh.dn, sx, Nat.reduceBEq, reduceCtorEq, Nat.reduceEqDiff, ho, decide_false, decide_true, f1, f6, hia, hc, Bool.not_false]
      by_cases hx : x = ⟨#[]⟩
      · simp only [↓Sh.dn, sx, Nat.reduceBEq, reduceCtorEq, Nat.reduceEqDiff, hx, decide_true, hres]
        exact fin (out := []) (b := none) hk (.void none) (fun y hy => by cases hy) List.nodup_nil (fun t ht => by cases ht) fun t => ⟨fun h => (by cases h), fun h => absurd hx (h.1 x hmem)⟩
      · obtain ⟨r, H3, hd3, hk3, out3, b3, hb3, hf3, hnd3, hlt3, hi3⟩ := refStep (x := x) hb1.rg hb.toSl hlt (by omega) hk.wf
        simp only [↓Sh.dn, sx, Nat.reduceBEq, reduceCtorEq, Nat.reduceEqDiff, hx, decide_false]
        first | refine (wp_free (by kernel_rfl)).2 ?_ | skip
        simp only [↓Sh.dn, sx, Nat.reduceBEq, reduceCtorEq, Nat.reduceEqDiff, f1, f2, f5, f6, hb1.ca, Option.map_some, hia, hc]
        refine ⟨_, _, hd3, ?_⟩
        simp only [↓Sh.dn, sx, Nat.reduceBEq, reduceCtorEq, Nat.reduceEqDiff, f6, wrap_succ hi hwl]
        refine k _ _ (by repeat (first | refine Same.put ?_ rfl | exact Same.rfl' _)) (by simp only [↓Sh.dn, sx, Nat.reduceBEq, reduceCtorEq, Nat.reduceEqDiff]) ⟨hk.trans hk3, r, by simp only [↓Sh.dn, sx, Nat.reduceBEq, reduceCtorEq, Nat.reduceEqDiff], out3, b3, hb3, fun y hy => Nat.le_trans hk.next (hf3 y hy), hnd3, hlt3, fun y hy => ?_, fun t => ?_⟩
        · rw [htake] at hy
          rcases List.mem_append.1 hy with h1 | h1
          · exact hno y h1
          · rw [List.mem_singleton.1 h1]; exact hx
        · rw [hi3 t, htake, RunS.append]
          simp only [RunS]
          have : (fun t => ∃ s, s ∈ out ∧ goesE E x s t) = fun t => ∃ s, RunS (goesE E noText) (goesE E) S0 (w.take i) s ∧ goesE E x s t := by
            funext t
            apply propext
            simp only [hiff]
          rw [this]
  · rintro F H' hF f6 ⟨hk, z, f5, out, b, hb, hfr, hnd, hlt, hno, hiff⟩
    have f1 := hF 1 rfl
    simp only [↓Sh.dn, sx, Nat.reduceBEq, reduceCtorEq, Nat.reduceEqDiff] at f1
    have hu' := hu1.grow (hk.grow hk1.wf)
    have hlen := hu'.len Tryz.underlying22 H'
    rw [List.length_map] at hlen
    rw [List.take_length] at hno hiff
    simp only [↓Sh.dn, sx, Nat.reduceBEq, reduceCtorEq, Nat.reduceEqDiff, f1, f5, f6, nat_lt, Nat.lt_irrefl, decide_false, hlen, hres]
    exact fin hk hb hfr hnd hlt fun t => by rw [hiff t]; exact ⟨fun h => ⟨hno, h⟩, fun h => h.2⟩
end Go.Proofs.YtfcmpclbhnjkgaaGreat
/- The reference's reversed: the edges turned round. -/
set_option maxHeartbeats 4000000
set_option maxRecDepth 20000
set_option linter.unusedSimpArgs false
set_option linter.unusedVariables false
set_option pp.deepTerms.threshold 8
namespace Go.Proofs.YtfcmpclbhnjkgaaGreat
open Go Go.Proofs Go.Proofs.Sh
theorem refReversed {H : AH} {v ev bv : Value} {vals : List Value} {n : Nat} {E : List (List (ByteArray × Nat))} {ends : List Bool} (h : RG H v n E ends ev bv vals) (hw : Wf H) :
    Sh.Call Tryz.prog (knows 10) 85 [v] H (fun r H' => Kept H H' ∧ ∃ R ot vals obs, Jag H' r ot 2 vals (rCells R) obs ∧ (∀ y, JIn ot obs y → H.next ≤ y) ∧ R.length = n ∧ (∀ r ∈ R, r.length ≤ 180000000 ∧ ∀ e ∈ r, e.2 < n) ∧ ∀ x t s, goesE R x t s ↔ goesE E x s t) := by
  refine call_of rfl Tryz.func85 rfl (Nat.le_of_ble_eq_true rfl) ?_
  have hres : Tryz.f85.results.toList = [.tmp 2] := rfl
  have hrb := RBox.of h hw
  have hk1 : Kept H (H.new 3 [.int .i64 0, ev, bv]).2 := Kept.new hw 3 _
  have hE := h.ed.sl.isCell
  have hB := h.en.isCell
  rw [h.eq]
  simp only [↓Sh.dn, sx, Nat.reduceBEq, reduceCtorEq, Nat.reduceEqDiff, rgNew hE hB]
  have e0 : ∀ y, (H.new 3 [.int .i64 0, ev, bv]).2.next ≤ y → H.next ≤ y := fun y hy => Nat.le_trans (Nat.le_succ _) hy
  obtain ⟨gb, hgb⟩ : ∃ gb, H.next = gb := ⟨_, rfl⟩
  rw [hgb] at hrb
  generalize (H.new 3 [.int .i64 0, ev, bv]).2 = H1 at hrb hk1 e0 ⊢
  have hn1 := h.n1
  have hn2 := h.n2
  have hlenE : ∀ H', abuiltin Tryz.prog .len [62] [ev] H' = some (.int .i64 (n : Int), H') := fun H' => by
    rw [h.ed.sl.len Tryz.underlying62, List.length_map, h.ed.len]; unfold rCells; rw [List.length_map, h.le]
  have hmk := mk_62 (H := H1) (l := n) (c := n) (Nat.le_refl _) (by omega)
  have k2 := Kept.new hk1.wf 1 (List.replicate n (.slice none 0 0))
  have jg := Jag.make hk1.wf 2 (n := n) (by omega)
  simp only [↓Sh.dn, sx, Nat.reduceBEq, reduceCtorEq, Nat.reduceEqDiff, hgb, hrb.c1, hlenE, hmk]
  obtain ⟨ot, hot⟩ : ∃ ot, (if n = 0 then none else some H1.next) = ot := ⟨_, rfl⟩
  rw [hot] at jg
  have lot : ∀ y, JIn ot (List.replicate n none) y → H1.next ≤ y := by
    rintro y (hy | ⟨i, hy⟩)
    · rw [← hot, if_neg (by omega)] at hy
      rw [← Option.some.inj hy]; exact Nat.le_refl _
    · rw [List.getElem?_replicate] at hy
      split at hy <;> cases hy
  generalize (Value.slice (some ⟨H1.next, 0, some 0⟩) n n) = rv at jg ⊢
  generalize (H1.new 1 (List.replicate n (.slice none 0 0))).2 = H2 at k2 jg ⊢
  have hrc0 : rCells (List.replicate n ([] : List (ByteArray × Nat))) = List.replicate n [] := by simp [rCells]
  rw [← hrc0] at jg
  refine wp_for n 4 (List.range' 4 47) (fun i F H' => Kept H1 H' ∧ ∃ R vals obs, Jag H' rv ot 2 vals (rCells R) obs ∧ (∀ y, JIn ot obs y → H1.next ≤ y) ∧ R.length = n ∧ (∀ r ∈ R, r.length ≤ i * 60000 ∧ ∀ e ∈ r, e.2 < n) ∧ ∀ x t s, goesE R x t s ↔ s < i ∧ goesE E x s t) (by simp only [↓Sh.dn, sx, Nat.reduceBEq, reduceCtorEq, Nat.reduceEqDiff]) ⟨k2, _, _, _, jg, lot, by simp, fun r hr => by rw [List.eq_of_mem_replicate hr]; simp, fun x t s => by
    constructor
    · rintro ⟨r, h1, h2⟩
      rw [List.getElem?_replicate] at h1
      split at h1
      · rw [← Option.some.inj h1] at h2; cases h2
      · cases h1
    · rintro ⟨h1, _⟩; exact absurd h1 (Nat.not_lt_zero _)⟩ ?_ ?_
  · rintro i F H' hi hF f4 ⟨hk, R, vs, obs, hJ, hin, hRl, hRr, hiff⟩ k
    have f1 := hF 1 rfl
    have f3 := hF 3 rfl
    simp only [↓Sh.dn, sx, Nat.reduceBEq, reduceCtorEq, Nat.reduceEqDiff, hgb] at f1 f3
    obtain ⟨r, hr⟩ : ∃ r, E[i]? = some r := ⟨E[i]'(by rw [h.le]; exact hi), List.getElem?_eq_getElem _⟩
    have hr' : (rCells E)[i]? = some (r.map rEdge) := by unfold rCells; rw [List.getElem?_map, hr]; rfl
    obtain ⟨hrl, hrt⟩ := h.to i r hr
    obtain ⟨ga, oa, ka, wr, hia2, hca, hsr⟩ := (h.ed.grow (hk1.grow hw)).at Tryz.underlying62 size_115 hr'
    have hro : ∀ {H'}, Kept H1 H' → H'.cell ⟨ga, oa, some ka⟩ = some wr ∧ Sl H' wr 2 (r.map rEdge) ∧ abuiltin Tryz.prog .len [115] [wr] H' = some (.int .i64 (r.length : Int), H') := fun hk => by
      have h2 := hsr.grow (hk.grow hk1.wf)
      refine ⟨cell_grow (hk.grow hk1.wf) hca, h2, ?_⟩
      rw [h2.len Tryz.underlying115, List.length_map]
    have hb1 := hrb.kept hk1.wf hk
    simp only [↓Sh.dn, sx, Nat.reduceBEq, reduceCtorEq, Nat.reduceEqDiff, f1, f4, hb1.c1, nat_lt, hi, decide_true, hlenE]
    refine wp_for r.length 5 (List.range' 18 33 ++ [5, 6]) (fun q F'' H'' => Kept H1 H'' ∧ ∃ R vals obs, Jag H'' rv ot 2 vals (rCells R) obs ∧ (∀ y, JIn ot obs y → H1.next ≤ y) ∧ R.length = n ∧ (∀ r ∈ R, r.length ≤ i * 60000 + q ∧ ∀ e ∈ r, e.2 < n) ∧ ∀ x t s, goesE R x t s ↔ s < i ∧ goesE E x s t ∨ s = i ∧ (x, t) ∈ r.take q) (by simp only [↓Sh.dn, sx, Nat.reduceBEq, reduceCtorEq, Nat.reduceEqDiff]) ⟨hk, R, vs, obs, hJ, hin, hRl, fun r hr => ⟨Nat.le_trans (hRr r hr).1 (Nat.le_add_right _ _), (hRr r hr).2⟩, fun x t s => by rw [hiff]; simp⟩ ?_ ?_
    · rintro q F'' H'' hq hF'' f5 ⟨hk'', R, vs, obs, hJ, hin, hRl, hRr, hiff⟩ k2
      have g1 := hF'' 1 rfl
      have g3 := hF'' 3 rfl
      have g4 := hF'' 4 rfl
      simp only [↓Sh.dn, sx, Nat.reduceBEq, reduceCtorEq, Nat.reduceEqDiff, f1, f3, f4] at g1 g3 g4
      obtain ⟨hc1, hs1, hl1⟩ := hro hk''
      have hb1 := hrb.kept hk1.wf hk''
      obtain ⟨g', o', k', hia3, hcs2, _⟩ := hs1.at Tryz.underlying115 size_117 (i := q) (x := rEdge r[q]) (by simp [hq]) .i64
      have hrq : r[q] ∈ r := List.getElem_mem hq
      have htk : r.take (q + 1) = r.take q ++ [r[q]] := by rw [List.take_add_one, List.getElem?_eq_getElem hq]; rfl
      generalize r[q] = e at hcs2 hrq htk
      have kn := Kept.new hk''.wf 2 (rEdge e)
      have hk3 := hk''.trans kn
      have hJ3 := hJ.kept hk''.wf kn
      have hnj : ¬JIn ot obs H''.next := fun h => by have := hJ.lt hk''.wf _ h; omega
      obtain ⟨ro, hro2⟩ : ∃ ro, R[e.2]? = some ro := ⟨R[e.2]'(by rw [hRl]; exact hrt e hrq), List.getElem?_eq_getElem _⟩
      have hrow : (rCells R)[e.2]? = some (ro.map rEdge) := by unfold rCells; rw [List.getElem?_map, hro2]; rfl
      obtain ⟨hrol, hrot⟩ := hRr ro (List.mem_of_getElem? hro2)
      obtain ⟨ba, cap, w', H5, H6, oo, p, e1, e2, e3, e4, e5, e6, e7, e8, e9⟩ := hJ3.pushAt Tryz.underlying62 size_115 hk3.wf hrow (x := rEdge (e.1, i)) rfl
      rw [List.length_map] at e1 e3
      have bl : abuild Tryz.prog 117 [(0, .string e.1), (1, .int .i64 (i : Int))] = some (.agg (rEdge (e.1, i)).toArray) := bld_117 (v0 := .string e.1) (v1 := .int .i64 (i : Int)) rfl rfl
      have hbs := build1_115 (H := (H''.new 2 (rEdge e)).2) (x := .agg (rEdge (e.1, i)).toArray) rfl rfl
      have ha := app1_115 (H := (H''.new 2 (rEdge e)).2) (base := ba) (len := ro.length) (cap := cap) (x := rEdge (e.1, i)) rfl (by omega)
      rw [e1] at ha
      have c5 := ((Sh.Obj.new (H := H'') 2 (rEdge e)).arr.keep (e7.old H''.next (Nat.lt_succ_self _) hnj)).cell 1
      have c5' : (rEdge e)[1]? = some (.int .i64 (e.2 : Int)) := rfl
      rw [c5'] at c5
      have st : astore Tryz.prog 115 H5 w' (.pointer (some p)) = some H6 := by rw [store_cell size_115 e8, e4]
      have va : ∀ xs : Array Value, vcells (.agg xs) = xs.toList := fun _ => rfl
      have hav := hJ3.top.veq
      simp only [va] at hbs
      simp only [↓Sh.dn, sx, Nat.reduceBEq, reduceCtorEq, Nat.reduceEqDiff, f5, g1, g3, g4, hb1.c1, hia2, hc1, hl1, hia3, hcs2, nat_lt, hq, decide_true, Option.map_some, reZero, reStore, reOver, re0, re1]
      refine wp_pend (fl := [(0, []), (1, []), (2, []), (3, []), (4, []), (5, []), (6, []), (7, []), (8, []), (9, []), (10, []), (11, []), (12, []), (13, [2]), (14, []), (15, [])]) (by kernel_rfl) (by kernel_rfl) (by kernel_rfl) ?_
      simp only [↓Sh.dn, sx, Nat.reduceBEq, reduceCtorEq, Nat.reduceEqDiff, wpr, again, isMake, veq_ptr, veq_int, veq_str, veq_bool, veq_undef, veq_slice, forall_eq, forall_eq', f5, g1, g3, g4, re0, re1, e2, e3, bl, hbs, ha, c5, st, hav, wrap_succ' hq (Nat.le_trans hrl (by decide))]
      have hrs : rCells (R.set e.2 (ro ++ [(e.1, i)])) = (rCells R).set e.2 (ro.map rEdge ++ [rEdge (e.1, i)]) := by unfold rCells; rw [List.map_set]; simp
      refine k2 _ _ (by repeat (first | refine Same.put ?_ rfl | exact Same.rfl' _)) (by simp only [↓Sh.dn, sx, Nat.reduceBEq, reduceCtorEq, Nat.reduceEqDiff]) ⟨hk3.then (Nat.le_refl _) (e6.weak fun y hy => hin y hy), R.set e.2 (ro ++ [(e.1, i)]), _, _, by rw [hrs]; exact e5, fun y hy => ?_, by rw [List.length_set]; exact hRl, fun r' hr' => ?_, fun x t s => ?_⟩
      · rcases e9 y hy with h1 | h1
        · exact hin y h1
        · exact Nat.le_trans hk3.next h1
      · rcases List.mem_or_eq_of_mem_set hr' with h1 | h1
        · have := hRr r' h1; exact ⟨by omega, this.2⟩
        · rw [h1]
          refine ⟨by rw [List.length_append]; simp; omega, fun e' he' => ?_⟩
          rcases List.mem_append.1 he' with h2 | h2
          · exact hrot e' h2
          · rw [List.mem_singleton.1 h2]; exact hi
      · rw [goesE_push hro2, hiff, htk, List.mem_append, List.mem_singleton]
        constructor
        · rintro ((h1 | ⟨h1, h2⟩) | ⟨h1, h2, h3⟩)
          · exact .inl h1
          · exact .inr ⟨h1, .inl h2⟩
          · exact .inr ⟨h3, .inr (by rw [h1, h2])⟩
        · rintro (h1 | ⟨h1, h2 | h2⟩)
          · exact .inl (.inl h1)
          · exact .inl (.inr ⟨h1, h2⟩)
          · exact .inr ⟨by rw [← h2], by rw [← h2], h1⟩
    · rintro F'' H'' hF'' f5 ⟨hk'', R, vs, obs, hJ, hin, hRl, hRr, hiff⟩
      have g1 := hF'' 1 rfl
      have g3 := hF'' 3 rfl
      have g4 := hF'' 4 rfl
      simp only [↓Sh.dn, sx, Nat.reduceBEq, reduceCtorEq, Nat.reduceEqDiff, f1, f3, f4] at g1 g3 g4
      obtain ⟨hc1, hs1, hl1⟩ := hro hk''
      have hb1 := hrb.kept hk1.wf hk''
      rw [List.take_length] at hiff
      simp only [↓Sh.dn, sx, Nat.reduceBEq, reduceCtorEq, Nat.reduceEqDiff, f5, g1, g3, g4, hb1.c1, hia2, hc1, hl1, nat_lt, Nat.lt_irrefl, decide_false, wrap_succ' hi (Nat.le_trans hn2 (by decide))]
      refine k _ _ ?_ (by simp only [↓Sh.dn, sx, Nat.reduceBEq, reduceCtorEq, Nat.reduceEqDiff]) ⟨hk'', R, vs, obs, hJ, hin, hRl, fun r' hr' => ?_, fun x t s => ?_⟩
      · repeat refine Same.put ?_ rfl
        exact Same.trans (by repeat (first | refine Same.put ?_ rfl | exact Same.rfl' _)) (hF''.sub rfl)
      · have := hRr r' hr'; exact ⟨by omega, this.2⟩
      · rw [hiff]
        constructor
        · rintro (⟨h1, h2⟩ | ⟨h1, h2⟩)
          · exact ⟨by omega, h2⟩
          · exact ⟨by omega, r, by rw [h1]; exact hr, h2⟩
        · rintro ⟨h1, h2⟩
          by_cases hs : s = i
          · subst hs
            obtain ⟨r', h3, h4⟩ := h2
            rw [hr] at h3
            exact .inr ⟨rfl, by rw [Option.some.inj h3]; exact h4⟩
          · exact .inl ⟨by omega, h2⟩
  · rintro F H' hF f4 ⟨hk, R, vs, obs, hJ, hin, hRl, hRr, hiff⟩
    have f1 := hF 1 rfl
    have f3 := hF 3 rfl
    simp only [↓Sh.dn, sx, Nat.reduceBEq, reduceCtorEq, Nat.reduceEqDiff, hgb] at f1 f3
    have hb1 := hrb.kept hk1.wf hk
    simp only [↓Sh.dn, sx, Nat.reduceBEq, reduceCtorEq, Nat.reduceEqDiff, f1, f3, f4, hb1.c1, nat_lt, Nat.lt_irrefl, decide_false, hlenE, hres]
    refine ⟨hk1.trans hk, R, ot, vs, obs, hJ, fun y hy => by rw [← hgb]; exact e0 y (hin y hy), hRl, fun r hr => ⟨by have := (hRr r hr).1; omega, (hRr r hr).2⟩, fun x t s => ?_⟩
    rw [hiff]
    constructor
    · exact fun h => h.2
    · rintro ⟨r, h1, h2⟩
      exact ⟨by rw [← h.le]; exact (List.getElem?_eq_some_iff.1 h1).1, r, h1, h2⟩
end Go.Proofs.YtfcmpclbhnjkgaaGreat
/- The reference's spread: what is reached from marked states is marked. -/
set_option maxHeartbeats 4000000
set_option maxRecDepth 20000
set_option linter.unusedSimpArgs false
set_option linter.unusedVariables false
set_option pp.deepTerms.threshold 8
namespace Go.Proofs.YtfcmpclbhnjkgaaGreat
open Go Go.Proofs Go.Proofs.Sh
/-- The steps that count. -/
def spreadR (R : List (List (ByteArray × Nat))) (em : Bool) (s t : Nat) : Prop := ∃ x, goesE R x s t ∧ (em = true → x = noText)
theorem marks_filter {n : Nat} {seen : List Bool} (hl : seen.length = n) : Marks n seen ((List.range n).filter fun t => decide (seen[t]? = some true)) := by
  refine ⟨hl, List.Pairwise.filter _ List.nodup_range, fun t => ?_⟩
  rw [List.mem_filter, List.mem_range, decide_eq_true_eq]
  constructor
  · intro h; exact ⟨by rw [← hl]; exact (List.getElem?_eq_some_iff.1 h).1, h⟩
  · exact fun h => h.2
theorem refSpread {H1 H : AH} {rv mv : Value} {ot os : Option Nat} {vals : List Value} {obs : List (Option Nat)} {n : Nat} {R : List (List (ByteArray × Nat))} {seen : List Bool} {em : Bool}
    (hk : Kept H1 H) (hJ : Jag H rv ot 2 vals (rCells R) obs) (hRl : R.length = n) (hRr : ∀ r ∈ R, r.length ≤ 180000000 ∧ ∀ e ∈ r, e.2 < n) (hb : Buf H 1 mv (seen.map boolC) os) (hfr : ∀ y, os = some y → H1.next ≤ y) (hsep : ∀ y, os = some y → ¬JIn ot obs y) (hsl : seen.length = n) (hn : n ≤ 3000) :
    Sh.Call Tryz.prog (knows 10) 86 [rv, mv, .bool em] H (fun _ H' => Chg (fun y => os = some y) H H' ∧ ∃ seen' : List Bool, Buf H' 1 mv (seen'.map boolC) os ∧ seen'.length = n ∧ ∀ t : Nat, seen'[t]? = some true ↔ Clo (spreadR R em) (fun s => seen[s]? = some true) t) := by
  refine call_of rfl Tryz.func86 rfl (Nat.le_of_ble_eq_true rfl) ?_
  have hres : Tryz.f86.results.toList = [] := rfl
  have hw := hk.wf
  have hM0 : MB H H1.next n mv os seen ((List.range n).filter fun t => decide (seen[t]? = some true)) := ⟨marks_filter hsl, hb, hfr⟩
  have hlenM : ∀ H', abuiltin Tryz.prog .len [63] [mv] H' = some (.int .i64 (n : Int), H') := fun H' => by
    rw [hb.toSl.len Tryz.underlying63, List.length_map, hsl]
  have hlos := hM0.lt hw
  simp only [↓Sh.dn, sx, Nat.reduceBEq, reduceCtorEq, Nat.reduceEqDiff]
  -- those that are marked are put into a list
  refine wp_for n 7 (List.range' 6 19) (fun i F H' => Kept H H' ∧ ∃ z, F.get 6 = some z ∧ ∃ ob, LB H' H.next os z ((List.range i).filter fun t => decide (seen[t]? = some true)) ob) (by simp only [↓Sh.dn, sx, Nat.reduceBEq, reduceCtorEq, Nat.reduceEqDiff]) ⟨Kept.refl hw, _, by simp only [↓Sh.dn, sx, Nat.reduceBEq, reduceCtorEq, Nat.reduceEqDiff], none, ⟨.void none, fun y hy => by cases hy⟩⟩ ?_ ?_
  · rintro i F H' hi hF f7 ⟨hk', z, f6, ob, hl⟩ k
    have f1 := hF 1 rfl
    simp only [↓Sh.dn, sx, Nat.reduceBEq, reduceCtorEq, Nat.reduceEqDiff] at f1
    obtain ⟨b, hb1⟩ : ∃ b, seen[i]? = some b := ⟨seen[i]'(by omega), List.getElem?_eq_getElem _⟩
    obtain ⟨p, hia, hc⟩ := Sl.elem (s := 1) Tryz.underlying63 size_4 (hb.toSl.grow (hk'.grow hw)) (i := i) (u := .bool b) (by rw [List.getElem?_map, hb1]; rfl)
    have hrange : (List.range (i + 1)).filter (fun t => decide (seen[t]? = some true)) = (List.range i).filter (fun t => decide (seen[t]? = some true)) ++ (if b = true then [i] else []) := by
      rw [List.range_succ, List.filter_append]
      congr 1
      cases b <;> simp [hb1]
    have hll : ((List.range i).filter fun t => decide (seen[t]? = some true)).length ≤ 1073741823 := Nat.le_trans (List.length_filter_le _ _) (by rw [List.length_range]; omega)
    simp only [↓Sh.dn, sx, Nat.reduceBEq, reduceCtorEq, Nat.reduceEqDiff, f1, f7, nat_lt, hi, decide_true, hlenM, hia, hc]
    cases b with
    | true =>
      obtain ⟨a, cap, w', H4, ob2, rfl, e1, e2, e3, e4⟩ := pushNat' i hk'.next hk'.wf (fun y hy => Nat.lt_of_lt_of_le (hlos y hy) hk'.next) hl hll
      simp only [↓Sh.dn, sx, Nat.reduceBEq, reduceCtorEq, Nat.reduceEqDiff, f6, f7, e1, e2, wrap_succ' hi (Nat.le_trans hn (by decide))]
      refine k _ _ (by repeat (first | refine Same.put ?_ rfl | exact Same.rfl' _)) (by simp only [↓Sh.dn, sx, Nat.reduceBEq, reduceCtorEq, Nat.reduceEqDiff]) ⟨hk'.then (Nat.le_refl _) (e4.weak fun y hy => (hl.fr y hy).1), w', by simp only [↓Sh.dn, sx, Nat.reduceBEq, reduceCtorEq, Nat.reduceEqDiff], ob2, by rw [hrange]; exact e3⟩
    | false =>
      simp only [↓Sh.dn, sx, Nat.reduceBEq, reduceCtorEq, Nat.reduceEqDiff, f7, wrap_succ' hi (Nat.le_trans hn (by decide))]
      refine k _ _ (by repeat (first | refine Same.put ?_ rfl | exact Same.rfl' _)) (by simp only [↓Sh.dn, sx, Nat.reduceBEq, reduceCtorEq, Nat.reduceEqDiff]) ⟨hk', z, by simp only [↓Sh.dn, sx, Nat.reduceBEq, reduceCtorEq, Nat.reduceEqDiff, f6], ob, by rw [hrange]; simpa using hl⟩
  · rintro F H' hF f7 ⟨hk', z, f6, ob, hl⟩
    have f0 := hF 0 rfl
    have f1 := hF 1 rfl
    have f2 := hF 2 rfl
    simp only [↓Sh.dn, sx, Nat.reduceBEq, reduceCtorEq, Nat.reduceEqDiff] at f0 f1 f2
    simp only [↓Sh.dn, sx, Nat.reduceBEq, reduceCtorEq, Nat.reduceEqDiff, f1, f7, nat_lt, Nat.lt_irrefl, decide_false, hlenM]
    refine wp_while (m := n + 1) (fun m F H' => ∃ i, m + i = n + 1 ∧ F.get 8 = some (.int .i64 (i : Int)) ∧ F.get 0 = some rv ∧ F.get 1 = some mv ∧ F.get 2 = some (.bool em) ∧ Chg (fun y => os = some y) H H' ∧ ∃ z, F.get 6 = some z ∧ ∃ seen' out ob, MB H' H1.next n mv os seen' out ∧ LB H' H.next os z out ob ∧ i ≤ out.length ∧ (∀ t, seen[t]? = some true → t ∈ out) ∧ (∀ t ∈ out, Clo (spreadR R em) (fun s => seen[s]? = some true) t) ∧ ∀ s ∈ out.take i, ∀ t, spreadR R em s t → t ∈ out) ⟨0, by omega, by simp only [↓Sh.dn, sx, Nat.reduceBEq, reduceCtorEq, Nat.reduceEqDiff]; rfl, by simp only [↓Sh.dn, sx, Nat.reduceBEq, reduceCtorEq, Nat.reduceEqDiff, f0], by simp only [↓Sh.dn, sx, Nat.reduceBEq, reduceCtorEq, Nat.reduceEqDiff, f1], by simp only [↓Sh.dn, sx, Nat.reduceBEq, reduceCtorEq, Nat.reduceEqDiff, f2], hk'.chg, z, by simp only [↓Sh.dn, sx, Nat.reduceBEq, reduceCtorEq, Nat.reduceEqDiff, f6], seen, _, ob, hM0.kept hw hk', hl, Nat.zero_le _, fun t ht => (hM0.ms.iff t).1 ht, fun t ht => .base ((hM0.ms.iff t).2 ht), fun s hs => by simp at hs⟩ ?_
    clear hk' hl f0 f1 f2 f6 f7 hF
    clear z ob
    clear F H'
    rintro m F H' ⟨i, hmi, f8, f0, f1, f2, hk', z, f6, seen', out, ob, hM, hl, hio, hLout, hclo, hcl⟩ k
    have hkk : ∀ {H'}, Chg (fun y => os = some y) H H' → Kept H1 H' := fun hc => hk.then (Nat.le_refl _) (hc.weak hfr)
    have hJ' : ∀ {H'}, Chg (fun y => os = some y) H H' → Jag H' rv ot 2 vals (rCells R) obs := fun hc => hJ.chg hw hc fun y hy h => hsep y h hy
    have hlen := hl.bf.toSl.len Tryz.underlying74 H'
    rw [List.length_map] at hlen
    have hout := hM.ms.le
    by_cases hi : i < out.length
    · simp only [↓Sh.dn, sx, Nat.reduceBEq, reduceCtorEq, Nat.reduceEqDiff, f6, f8, nat_lt, hi, decide_true, hlen]
      have hsn : out[i] < n := hM.ms.lt (List.getElem_mem hi)
      have hget : out[i]? = some out[i] := List.getElem?_eq_getElem hi
      have hcs : Clo (spreadR R em) (fun s => seen[s]? = some true) out[i] := hclo _ (List.getElem_mem hi)
      generalize out[i] = s at hsn hget hcs
      obtain ⟨r, hr⟩ : ∃ r, R[s]? = some r := ⟨R[s]'(by rw [hRl]; exact hsn), List.getElem?_eq_getElem _⟩
      have hr' : (rCells R)[s]? = some (r.map rEdge) := by unfold rCells; rw [List.getElem?_map, hr]; rfl
      obtain ⟨hrl, hrt⟩ := hRr r (List.mem_of_getElem? hr)
      refine wp_for r.length 9 (List.range' 31 46 ++ [6, 9, 10]) (fun q F'' H'' => Chg (fun y => os = some y) H H'' ∧ ∃ z', F''.get 6 = some z' ∧ ∃ seen' out' ob', MB H'' H1.next n mv os seen' out' ∧ LB H'' H.next os z' out' ob' ∧ out'[i]? = some s ∧ out'.take i = out.take i ∧ (∀ x ∈ out, x ∈ out') ∧ (∀ t ∈ out', Clo (spreadR R em) (fun s => seen[s]? = some true) t) ∧ ∀ e ∈ r.take q, (em = true → e.1 = noText) → e.2 ∈ out') (by simp only [↓Sh.dn, sx, Nat.reduceBEq, reduceCtorEq, Nat.reduceEqDiff]) ⟨hk', z, by simp only [↓Sh.dn, sx, Nat.reduceBEq, reduceCtorEq, Nat.reduceEqDiff, f6], seen', out, ob, hM, hl, hget, rfl, fun x hx => hx, hclo, fun e he => by simp at he⟩ ?_ ?_
      · rintro q F'' H'' hq hF'' f9 ⟨hk'', z', f6', seen', out', ob', hM', hl', hget', htk, hsub, hclo', hed⟩ k2
        have g0 := hF'' 0 rfl
        have g1 := hF'' 1 rfl
        have g2 := hF'' 2 rfl
        have g8 := hF'' 8 rfl
        simp only [↓Sh.dn, sx, Nat.reduceBEq, reduceCtorEq, Nat.reduceEqDiff, f0, f1, f2, f8] at g0 g1 g2 g8
        obtain ⟨ga, oa, ka, wr, hia, hc1, hs1⟩ := (hJ' hk'').read.at Tryz.underlying62 size_115 hr'
        have hl1 := hs1.len Tryz.underlying115 H''
        rw [List.length_map] at hl1
        have hil : i < out'.length := (List.getElem?_eq_some_iff.1 hget').1
        have hgs : out'[i] = s := Option.some.inj ((List.getElem?_eq_getElem hil).symm.trans hget')
        obtain ⟨p1, hia1, hcc1⟩ := natSl Tryz.underlying74 size_3 hl'.bf.toSl hil
        rw [hgs] at hcc1
        obtain ⟨g', o', k', hia2, hcs2, _⟩ := hs1.at Tryz.underlying115 size_117 (i := q) (x := rEdge r[q]) (by simp [hq]) .i64
        have hrq : r[q] ∈ r := List.getElem_mem hq
        have htake : r.take (q + 1) = r.take q ++ [r[q]] := by rw [List.take_add_one, List.getElem?_eq_getElem hq]; rfl
        generalize r[q] = e at hcs2 hrq htake
        have kn := Kept.new hk''.wf 2 (rEdge e)
        have hk3 := hk''.trans (kn.chg (X := fun y => os = some y))
        have hM3 := hM'.kept hk''.wf kn
        have hl3 := hl'.kept hk''.wf kn
        simp only [↓Sh.dn, sx, Nat.reduceBEq, reduceCtorEq, Nat.reduceEqDiff, f6', f9, g0, g1, g2, g8, hia1, hcc1, hia, hc1, hl1, hia2, hcs2, nat_lt, hq, decide_true, Option.map_some, reZero, reStore, reOver, re0, re1]
        have hnext : ∀ {seen2 : List Bool} {out2 : List Nat} {ob2 : Option Nat} {z2 : Value} {F2 : Fr} {H2 : AH}, Same (List.range' 31 46 ++ [6, 9, 10]) F'' F2 → F2.get 6 = some z2 → F2.get 9 = some (.int .i64 ((q + 1 : Nat) : Int)) → Chg (fun y => os = some y) H H2 → MB H2 H1.next n mv os seen2 out2 → LB H2 H.next os z2 out2 ob2 → (out2 = out' ∨ out2 = out' ++ [e.2] ∧ (em = true → e.1 = noText)) → ((em = true → e.1 = noText) → e.2 ∈ out2) →
            wp Tryz.prog (knows 10) _ _ F2 H2 := fun {seen2 out2 ob2 z2 F2 H2} a1 a2 a3 a4 a5 a6 a7 a8 => k2 F2 H2 a1 a3 ⟨a4, z2, a2, seen2, out2, ob2, a5, a6, by
              rcases a7 with h | ⟨h, _⟩
              · rw [h]; exact hget'
              · rw [h, List.getElem?_append_left hil]; exact hget', by
              rcases a7 with h | ⟨h, _⟩
              · rw [h]; exact htk
              · rw [h, List.take_append_of_le_length (by omega)]; exact htk, fun x hx => by
              rcases a7 with h | ⟨h, _⟩
              · rw [h]; exact hsub x hx
              · rw [h]; exact List.mem_append_left _ (hsub x hx), fun t ht => by
              rcases a7 with h | ⟨h, he⟩
              · rw [h] at ht; exact hclo' t ht
              · rw [h] at ht
                rcases List.mem_append.1 ht with h2 | h2
                · exact hclo' t h2
                · rw [List.mem_singleton.1 h2]; exact .step hcs ⟨e.1, ⟨r, hr, hrq⟩, he⟩, fun x hx hxe => by
              rw [htake] at hx
              rcases List.mem_append.1 hx with h2 | h2
              · have := hed x h2 hxe
                rcases a7 with h | ⟨h, _⟩
                · rw [h]; exact this
                · rw [h]; exact List.mem_append_left _ this
              · rw [List.mem_singleton.1 h2] at hxe ⊢; exact a8 hxe⟩
        have hrl' : r.length ≤ 4611686018427387904 := Nat.le_trans hrl (by decide)
        by_cases hin : e.2 ∈ out'
        · obtain ⟨p5, hia5, hc5⟩ := hM3.see Tryz.underlying63 size_4 (hrt e hrq)
          simp only [↓Sh.dn, sx, Nat.reduceBEq, reduceCtorEq, Nat.reduceEqDiff, re1, g1, hia5, hc5, hin, decide_true, f9, wrap_succ' hq hrl']
          exact hnext (by repeat (first | refine Same.put ?_ rfl | exact Same.rfl' _)) (by simp only [↓Sh.dn, sx, Nat.reduceBEq, reduceCtorEq, Nat.reduceEqDiff, f6']) (by simp only [↓Sh.dn, sx, Nat.reduceBEq, reduceCtorEq, Nat.reduceEqDiff]) hk3 hM3 hl3 (.inl rfl) fun _ => hin
        · have hkk3 := hkk hk3
          obtain ⟨p3, H3, e1, e2, e3, e4, e5, e6⟩ := markNat hkk3 hM3 (hrt e hrq) hin
          have hout' := hM3.ms.le
          obtain ⟨a, cap, w', H4, ob2, rfl, e7, e8, e9, e10⟩ := pushNat' e.2 (Nat.le_trans hk3.next e6.next) e4.wf (e5.lt e4.wf) (hl3.chg hk3.wf e6 fun y h => h) (by omega)
          have hk4 : Chg (fun y => os = some y) H H4 := (hk3.trans e6).then e10 fun y hy hlt => by have := (hl3.fr y hy).1; omega
          have hM4 := e5.chg e4.wf e10 (fun y hy h => (hl3.fr y hy).2 h)
          have hre : H3.cell ⟨H''.next, 1, some 0⟩ = some (.int .i64 (e.2 : Int)) := by
            have := ((Sh.Obj.new (H := H'') 2 (rEdge e)).arr.keep (e6.old H''.next (Nat.lt_succ_self _) fun hy => Nat.lt_irrefl _ (hM'.lt hk''.wf _ hy))).cell 1
            exact this
          cases em with
          | false =>
            simp only [↓Sh.dn, sx, Nat.reduceBEq, reduceCtorEq, Nat.reduceEqDiff, re1, re0, g1, g2, e1, e2, e3, f6', hre, e7, e8, f9, wrap_succ' hq hrl']
            exact hnext (by repeat (first | refine Same.put ?_ rfl | exact Same.rfl' _)) (by simp only [↓Sh.dn, sx, Nat.reduceBEq, reduceCtorEq, Nat.reduceEqDiff]) (by simp only [↓Sh.dn, sx, Nat.reduceBEq, reduceCtorEq, Nat.reduceEqDiff]) hk4 hM4 e9 (.inr ⟨rfl, fun h => by cases h⟩) fun _ => List.mem_append_right _ List.mem_cons_self
          | true =>
            by_cases he : e.1 = ⟨#[]⟩
            · simp only [↓Sh.dn, sx, Nat.reduceBEq, reduceCtorEq, Nat.reduceEqDiff, re1, re0, g1, g2, he, decide_true, e1, e2, e3, f6', hre, e7, e8, f9, wrap_succ' hq hrl']
              exact hnext (by repeat (first | refine Same.put ?_ rfl | exact Same.rfl' _)) (by simp only [↓Sh.dn, sx, Nat.reduceBEq, reduceCtorEq, Nat.reduceEqDiff]) (by simp only [↓Sh.dn, sx, Nat.reduceBEq, reduceCtorEq, Nat.reduceEqDiff]) hk4 hM4 e9 (.inr ⟨rfl, fun _ => he⟩) fun _ => List.mem_append_right _ List.mem_cons_self
            · simp only [↓Sh.dn, sx, Nat.reduceBEq, reduceCtorEq, Nat.reduceEqDiff, re1, re0, g1, g2, he, decide_false, e1, e2, f9, wrap_succ' hq hrl']
              exact hnext (by repeat (first | refine Same.put ?_ rfl | exact Same.rfl' _)) (by simp only [↓Sh.dn, sx, Nat.reduceBEq, reduceCtorEq, Nat.reduceEqDiff, f6']) (by simp only [↓Sh.dn, sx, Nat.reduceBEq, reduceCtorEq, Nat.reduceEqDiff]) hk3 hM3 hl3 (.inl rfl) fun h => absurd (h rfl) he
      · rintro F'' H'' hF'' f9 ⟨hk'', z', f6', seen', out', ob', hM', hl', hget', htk, hsub, hclo', hed⟩
        have g0 := hF'' 0 rfl
        have g1 := hF'' 1 rfl
        have g2 := hF'' 2 rfl
        have g8 := hF'' 8 rfl
        simp only [↓Sh.dn, sx, Nat.reduceBEq, reduceCtorEq, Nat.reduceEqDiff, f0, f1, f2, f8] at g0 g1 g2 g8
        obtain ⟨ga, oa, ka, wr, hia, hc1, hs1⟩ := (hJ' hk'').read.at Tryz.underlying62 size_115 hr'
        have hl1 := hs1.len Tryz.underlying115 H''
        rw [List.length_map] at hl1
        have hil : i < out'.length := (List.getElem?_eq_some_iff.1 hget').1
        have hgs : out'[i] = s := Option.some.inj ((List.getElem?_eq_getElem hil).symm.trans hget')
        obtain ⟨p1, hia1, hcc1⟩ := natSl Tryz.underlying74 size_3 hl'.bf.toSl hil
        rw [hgs] at hcc1
        have hout' := hM'.ms.le
        simp only [↓Sh.dn, sx, Nat.reduceBEq, reduceCtorEq, Nat.reduceEqDiff, f6', f9, g0, g1, g2, g8, hia1, hcc1, hia, hc1, hl1, nat_lt, Nat.lt_irrefl, decide_false, wrap_succ' hil (Nat.le_trans (Nat.le_trans hout' hn) (by decide))]
        refine k (n + 1 - (i + 1)) _ _ (by omega) ⟨i + 1, by omega, by simp only [↓Sh.dn, sx, Nat.reduceBEq, reduceCtorEq, Nat.reduceEqDiff], by simp only [↓Sh.dn, sx, Nat.reduceBEq, reduceCtorEq, Nat.reduceEqDiff, g0], by simp only [↓Sh.dn, sx, Nat.reduceBEq, reduceCtorEq, Nat.reduceEqDiff, g1], by simp only [↓Sh.dn, sx, Nat.reduceBEq, reduceCtorEq, Nat.reduceEqDiff, g2], hk'', z', by simp only [↓Sh.dn, sx, Nat.reduceBEq, reduceCtorEq, Nat.reduceEqDiff, f6'], seen', out', ob', hM', hl', hil, fun t ht => hsub t (hLout t ht), hclo', fun x hx t hg => ?_⟩
        rw [List.take_add_one, hget'] at hx
        rcases List.mem_append.1 hx with hx | hx
        · rw [htk] at hx
          exact hsub t (hcl x hx t hg)
        · simp only [Option.toList, List.mem_singleton] at hx
          subst hx
          obtain ⟨y, ⟨r', hr2, hg2⟩, hye⟩ := hg
          rw [hr] at hr2
          rw [← Option.some.inj hr2] at hg2
          exact hed _ (by rw [List.take_length]; exact hg2) hye
    · simp only [↓Sh.dn, sx, Nat.reduceBEq, reduceCtorEq, Nat.reduceEqDiff, f6, f8, nat_lt, hi, decide_false, hlen, hres]
      refine ⟨hk', seen', hM.bf, hM.ms.len, fun t => ?_⟩
      rw [hM.ms.iff]
      exact Clo.iff hLout hclo (fun s hs => hcl s (by rw [List.take_of_length_le (by omega)]; exact hs)) t
end Go.Proofs.YtfcmpclbhnjkgaaGreat
/- The reference's Alive, kept. -/
set_option maxHeartbeats 4000000
set_option maxRecDepth 20000
set_option linter.unusedSimpArgs false
set_option linter.unusedVariables false
set_option pp.deepTerms.threshold 8
namespace Go.Proofs.YtfcmpclbhnjkgaaGreat
open Go Go.Proofs Go.Proofs.Sh
theorem refAlive {H : AH} {v ev bv : Value} {vals : List Value} {n : Nat} {E : List (List (ByteArray × Nat))} {ends : List Bool} (h : RG H v n E ends ev bv vals) (hw : Wf H) :
    Sh.Call Tryz.prog (knows 10) 43 [v] H (fun r H' => Kept H H' ∧ ∃ B : List Bool, Sl H' r 1 (B.map boolC) ∧ B.length = n ∧ ∀ t : Nat, B[t]? = some true ↔ Clo (fun s t => ∃ x, goesE E x t s) (fun s => ends[s]? = some true) t) := by
  refine call_of rfl Tryz.func43 rfl (Nat.le_of_ble_eq_true rfl) ?_
  have hres : Tryz.f43.results.toList = [.tmp 2] := rfl
  have hrb := RBox.of h hw
  have hk1 : Kept H (H.new 3 [.int .i64 0, ev, bv]).2 := Kept.new hw 3 _
  have hE := h.ed.sl.isCell
  have hB := h.en.isCell
  rw [h.eq]
  simp only [↓Sh.dn, sx, Nat.reduceBEq, reduceCtorEq, Nat.reduceEqDiff, rgNew hE hB]
  generalize (H.new 3 [.int .i64 0, ev, bv]).2 = H1 at hrb hk1 ⊢
  generalize H.next = gb at hrb ⊢
  have hs1 := hrb.rg.en
  obtain ⟨v', H2, b', e1, e2, e3, e4⟩ := (Buf.void (H := H1) (s := 1) none).append hk1.wf (xs := ends.map boolC) (by intro x hx; obtain ⟨b, _, rfl⟩ := List.mem_map.1 hx; rfl)
  have happ := app_63 (base := none) (len := 0) (cap := 0) (hs1.srcKind Tryz.underlying63) hs1.newCells (by rw [List.length_map, h.ln]; have := h.n2; omega)
  rw [e1] at happ
  have hk2 : Kept H1 H2 := e3.kept fun g hg h => by cases h
  rw [List.nil_append] at e2
  have hos : ∀ y, b' = some y → H1.next ≤ y ∧ y < H2.next := by
    intro y hy
    rcases e4 with h4 | ⟨h4, h5⟩
    · rw [h4] at hy; cases hy
    · rw [h4] at hy; rw [← Option.some.inj hy]; exact ⟨Nat.le_refl _, h5⟩
  have hrb2 := hrb.kept hk1.wf hk2
  obtain ⟨rv, H3, hd3, hk3, R, ot, vs, obs, hJ, hin, hRl, hRr, hRg⟩ := refReversed hrb2.rg hk2.wf
  have hk13 := hk2.trans hk3
  have hb3 := e2.kept hk2.wf hk3
  obtain ⟨rr, H4, hd4, hc4, seen, hb4, hsl, hiff⟩ := refSpread (em := false) hk13 hJ hRl hRr hb3 (fun y hy => (hos y hy).1) (fun y hy hj => by have := hin y hj; have := (hos y hy).2; omega) h.ln h.n2
  simp only [↓Sh.dn, sx, Nat.reduceBEq, reduceCtorEq, Nat.reduceEqDiff, hrb.c2, happ]
  simp only [↓Sh.dn, sx, Nat.reduceBEq, reduceCtorEq, Nat.reduceEqDiff, hrb2.ca, Option.map_some]
  refine ⟨_, _, hd3, ?_⟩
  refine ⟨_, _, hd4, ?_⟩
  simp only [↓Sh.dn, sx, Nat.reduceBEq, reduceCtorEq, Nat.reduceEqDiff, hres]
  refine ⟨hk1.trans (hk13.then (Nat.le_refl _) (hc4.weak fun y hy => (hos y hy).1)), seen, hb4.toSl, hsl, fun t => ?_⟩
  rw [hiff]
  have : spreadR R false = fun s t => ∃ x, goesE E x t s := by
    funext s t
    apply propext
    unfold spreadR
    simp [hRg]
  rw [this]
theorem refKept {H : AH} {u bv : Value} {n : Nat} {B : List Bool} {L : List Nat} (hL : Sl H u 1 (L.map natC)) (hB : Sl H bv 1 (B.map boolC)) (hBl : B.length = n) (hlt : ∀ t ∈ L, t < n) (hll : L.length ≤ 1048576) (hw : Wf H) :
    Sh.Call Tryz.prog (knows 10) 65 [u, bv] H (fun r H' => Kept H H' ∧ ∃ b, Buf H' 1 r ((L.filter fun t => decide (B[t]? = some true)).map natC) b) := by
  refine call_of rfl Tryz.func65 rfl (Nat.le_of_ble_eq_true rfl) ?_
  have hres : Tryz.f65.results.toList = [.tmp 4] := rfl
  simp only [↓Sh.dn, sx, Nat.reduceBEq, reduceCtorEq, Nat.reduceEqDiff]
  have hlen := fun H' => hL.len Tryz.underlying74 H'
  simp only [List.length_map] at hlen
  refine wp_for L.length 6 (List.range' 5 22) (fun i F H' => Kept H H' ∧ ∃ z, F.get 5 = some z ∧ ∃ ob, LB H' H.next none z ((L.take i).filter fun t => decide (B[t]? = some true)) ob) (by simp only [↓Sh.dn, sx, Nat.reduceBEq, reduceCtorEq, Nat.reduceEqDiff]) ⟨Kept.refl hw, _, by simp only [↓Sh.dn, sx, Nat.reduceBEq, reduceCtorEq, Nat.reduceEqDiff], none, ⟨.void none, fun y hy => by cases hy⟩⟩ ?_ ?_
  · rintro i F H' hi hF f6 ⟨hk, z, f5, ob, hl⟩ k
    have f0 := hF 0 rfl
    have f1 := hF 1 rfl
    simp only [↓Sh.dn, sx, Nat.reduceBEq, reduceCtorEq, Nat.reduceEqDiff] at f0 f1
    have hL' := hL.grow (hk.grow hw)
    obtain ⟨p, hia, hc⟩ := natSl Tryz.underlying74 size_3 hL' hi
    have htn : L[i] < n := hlt _ (List.getElem_mem hi)
    have htake : L.take (i + 1) = L.take i ++ [L[i]] := by rw [List.take_add_one, List.getElem?_eq_getElem hi]; rfl
    generalize L[i] = t at hc htn htake
    obtain ⟨b, hb⟩ : ∃ b, B[t]? = some b := ⟨B[t]'(by rw [hBl]; exact htn), List.getElem?_eq_getElem _⟩
    obtain ⟨p2, hia2, hc2⟩ := Sl.elem (s := 1) Tryz.underlying63 size_4 (hB.grow (hk.grow hw)) (i := t) (u := .bool b) (by rw [List.getElem?_map, hb]; rfl)
    have hfl : (L.take (i + 1)).filter (fun t => decide (B[t]? = some true)) = (L.take i).filter (fun t => decide (B[t]? = some true)) ++ (if b = true then [t] else []) := by
      rw [htake, List.filter_append]
      congr 1
      cases b <;> simp [hb]
    have hle : ((L.take i).filter fun t => decide (B[t]? = some true)).length ≤ 1073741823 := Nat.le_trans (List.length_filter_le _ _) (by rw [List.length_take]; omega)
    simp only [↓Sh.dn, sx, Nat.reduceBEq, reduceCtorEq, Nat.reduceEqDiff, f0, f1, f6, nat_lt, hi, decide_true, hlen, hia, hc, hia2, hc2]
    cases b with
    | true =>
      obtain ⟨a, cap, w', H4, ob2, rfl, e1, e2, e3, e4, e5⟩ := pushNat t hk (fun y hy => by cases hy) hl hle
      simp only [↓Sh.dn, sx, Nat.reduceBEq, reduceCtorEq, Nat.reduceEqDiff, f0, f5, f6, hia, hc, e1, e2, wrap_succ hi hll]
      exact k _ _ (by repeat (first | refine Same.put ?_ rfl | exact Same.rfl' _)) (by simp only [↓Sh.dn, sx, Nat.reduceBEq, reduceCtorEq, Nat.reduceEqDiff]) ⟨e3, w', by simp only [↓Sh.dn, sx, Nat.reduceBEq, reduceCtorEq, Nat.reduceEqDiff], ob2, by rw [hfl]; exact e4⟩
    | false =>
      simp only [↓Sh.dn, sx, Nat.reduceBEq, reduceCtorEq, Nat.reduceEqDiff, f6, wrap_succ hi hll]
      exact k _ _ (by repeat (first | refine Same.put ?_ rfl | exact Same.rfl' _)) (by simp only [↓Sh.dn, sx, Nat.reduceBEq, reduceCtorEq, Nat.reduceEqDiff]) ⟨hk, z, by simp only [↓Sh.dn, sx, Nat.reduceBEq, reduceCtorEq, Nat.reduceEqDiff, f5], ob, by rw [hfl]; simpa using hl⟩
  · rintro F H' hF f6 ⟨hk, z, f5, ob, hl⟩
    have f0 := hF 0 rfl
    simp only [↓Sh.dn, sx, Nat.reduceBEq, reduceCtorEq, Nat.reduceEqDiff] at f0
    rw [List.take_length] at hl
    simp only [↓Sh.dn, sx, Nat.reduceBEq, reduceCtorEq, Nat.reduceEqDiff, f0, f5, f6, nat_lt, Nat.lt_irrefl, decide_false, hlen, hres]
    exact ⟨hk, ob, hl.bf⟩
end Go.Proofs.YtfcmpclbhnjkgaaGreat
/- syms.isLong and syms.isSymbol. -/
set_option maxHeartbeats 4000000
set_option maxRecDepth 20000
set_option linter.unusedSimpArgs false
set_option linter.unusedVariables false
set_option pp.deepTerms.threshold 8
namespace Go.Proofs.YtfcmpclbhnjkgaaGreat
open Go Go.Proofs Go.Proofs.Sh
theorem symsIsLong {H : AH} {x : ByteArray} : Sh.Call Tryz.prog (knows 10) 108 [.string x] H (fun r H' => H' = H ∧ r = .bool (decide (16 < x.size))) := by
  refine call_of rfl Tryz.func108 rfl (Nat.le_of_ble_eq_true rfl) ?_
  have hres : Tryz.f108.results.toList = [.tmp 2] := rfl
  have e : decide ((16 : Int) < (x.size : Int)) = decide (16 < x.size) := decide_eq_decide.2 (by omega)
  simp only [↓Sh.dn, sx, Nat.reduceBEq, reduceCtorEq, Nat.reduceEqDiff, hres, e]
/-- A symbol, however long. -/
def chOk (s : ByteArray) : Bool := !s.data.toList.any badByte && decide (1 ≤ s.size)
theorem symOk_chOk (s : ByteArray) : symOk s = (chOk s && decide (s.size ≤ 16)) := rfl
theorem size_empty {x : ByteArray} : decide (x = ⟨#[]⟩) = !decide (1 ≤ x.size) := by
  by_cases h : x = ⟨#[]⟩
  · subst h; rfl
  · have : 1 ≤ x.size := by
      refine Nat.one_le_iff_ne_zero.2 fun h0 => h (ByteArray.ext ?_)
      exact Array.eq_empty_of_size_eq_zero h0
    simp [h, this]
theorem symsIsSymbol {H : AH} {x : ByteArray} (hl : x.size ≤ 1048576) :
    Sh.Call Tryz.prog (knows 10) 109 [.string x] H (fun r H' => H' = H ∧ r = .bool (chOk x)) := by
  refine call_of rfl Tryz.func109 rfl (Nat.le_of_ble_eq_true rfl) ?_
  have hres : Tryz.f109.results.toList = [.tmp 2] := rfl
  have hsz : x.data.toList.length = x.size := by rw [Array.length_toList]; rfl
  simp only [↓Sh.dn, sx, Nat.reduceBEq, reduceCtorEq, Nat.reduceEqDiff]
  refine wp_for x.size 6 (List.range' 6 26 ++ [2, 3]) (fun i F H' => H' = H ∧ (x.data.toList.take i).any badByte = false) (by simp only [↓Sh.dn, sx, Nat.reduceBEq, reduceCtorEq, Nat.reduceEqDiff]) ⟨rfl, rfl⟩ ?_ ?_
  · rintro i F H' hlt hF f6 ⟨rfl, hall⟩ k
    have f0 := hF 0 rfl
    have f5 := hF 5 rfl
    simp only [↓Sh.dn, sx, Nat.reduceBEq, reduceCtorEq, Nat.reduceEqDiff] at f0 f5
    obtain ⟨u, hu⟩ : ∃ u, x.data.toList[i]? = some u := ⟨x.data.toList[i]'(by omega), List.getElem?_eq_getElem (by omega)⟩
    have hix := index_str (P := Tryz.prog) (j := .i64) Tryz.underlying9 hu
    have e33 : decide ((u.toNat : Int) < 33) = decide (u.toNat < 33) := decide_eq_decide.2 (by omega)
    have e126 : decide (126 < (u.toNat : Int)) = decide (126 < u.toNat) := decide_eq_decide.2 (by omega)
    have e60 : decide ((u.toNat : Int) = 60) = decide (u.toNat = 60) := decide_eq_decide.2 (by omega)
    have e62 : decide ((u.toNat : Int) = 62) = decide (u.toNat = 62) := decide_eq_decide.2 (by omega)
    have hbad : badByte u = true → chOk x = false := by
      intro h
      have : x.data.toList.any badByte = true := List.any_eq_true.2 ⟨_, List.mem_of_getElem? hu, h⟩
      simp [chOk, this]
    simp only [↓Sh.dn, sx, Nat.reduceBEq, reduceCtorEq, Nat.reduceEqDiff, f0, f5, f6, hix, nat_lt, hlt, e33, decide_true]
    by_cases h1 : u.toNat < 33
    · simp only [↓Sh.dn, sx, Nat.reduceBEq, reduceCtorEq, Nat.reduceEqDiff, h1, decide_true, hres, hbad (by simp [badByte, h1])]
    simp only [↓Sh.dn, sx, Nat.reduceBEq, reduceCtorEq, Nat.reduceEqDiff, f0, hix, h1, e126, decide_false]
    by_cases h2 : 126 < u.toNat
    · simp only [↓Sh.dn, sx, Nat.reduceBEq, reduceCtorEq, Nat.reduceEqDiff, h2, decide_true, hres, hbad (by simp [badByte, h2])]
    simp only [↓Sh.dn, sx, Nat.reduceBEq, reduceCtorEq, Nat.reduceEqDiff, f0, hix, h2, e60, decide_false]
    by_cases h3 : u.toNat = 60
    · simp only [↓Sh.dn, sx, Nat.reduceBEq, reduceCtorEq, Nat.reduceEqDiff, h3, decide_true, hres, hbad (by simp [badByte, h3])]
    simp only [↓Sh.dn, sx, Nat.reduceBEq, reduceCtorEq, Nat.reduceEqDiff, f0, hix, h3, e62, decide_false]
    by_cases h4 : u.toNat = 62
    · simp only [↓Sh.dn, sx, Nat.reduceBEq, reduceCtorEq, Nat.reduceEqDiff, h4, decide_true, hres, hbad (by simp [badByte, h4])]
    simp only [↓Sh.dn, sx, Nat.reduceBEq, reduceCtorEq, Nat.reduceEqDiff, f6, h4, decide_false, wrap_succ hlt hl]
    refine k _ _ (by repeat (first | refine Same.put ?_ rfl | exact Same.rfl' _)) (by simp only [↓Sh.dn, sx, Nat.reduceBEq, reduceCtorEq, Nat.reduceEqDiff]) ⟨rfl, ?_⟩
    rw [List.take_add_one, hu]
    simp only [Option.toList, List.any_append, hall, Bool.false_or, List.any_cons, List.any_nil, Bool.or_false, badByte, h1, h2, h3, h4, decide_false]
  · rintro F H' hF f6 ⟨rfl, hall⟩
    have f0 := hF 0 rfl
    have f5 := hF 5 rfl
    simp only [↓Sh.dn, sx, Nat.reduceBEq, reduceCtorEq, Nat.reduceEqDiff] at f0 f5
    rw [← hsz, List.take_length] at hall
    simp only [↓Sh.dn, sx, Nat.reduceBEq, reduceCtorEq, Nat.reduceEqDiff, f0, f5, f6, nat_lt, Nat.lt_irrefl, decide_false, hres, chOk, hall, size_empty]
end Go.Proofs.YtfcmpclbhnjkgaaGreat
/- slices.IndexFunc and ContainsFunc: whether some element is so. -/
set_option maxHeartbeats 4000000
set_option maxRecDepth 20000
set_option linter.unusedSimpArgs false
set_option linter.unusedVariables false
set_option pp.deepTerms.threshold 8
namespace Go.Proofs.YtfcmpclbhnjkgaaGreat
open Go Go.Proofs Go.Proofs.Sh
theorem indexFuncStr {H : AH} {v : Value} {l : List ByteArray} {fid : Nat} {caps : List Value} (p : ByteArray → Bool) (hs : Sl H v 1 (l.map strCell)) (hl : l.length ≤ 1048576) (hw : Wf H)
    (hp : ∀ H', Kept H H' → ∀ x ∈ l, Sh.Call Tryz.prog (knows 10) fid ((fun s => Value.string s) x :: caps) H' (fun r H'' => Kept H' H'' ∧ r = .bool (p x))) :
    Sh.Call Tryz.prog (knows 10) 128 [v, .func (.func fid) #[] caps.toArray] H (fun r H' => Kept H H' ∧ ∃ k : Int, r = .int .i64 k ∧ decide (0 ≤ k) = l.any p) := by
  refine call_of rfl Tryz.func128 rfl (Nat.le_of_ble_eq_true rfl) ?_
  have hres : Tryz.f128.results.toList = [.tmp 4] := rfl
  have hlen := hs.len Tryz.underlying22 H
  simp only [↓Sh.dn, sx, Nat.reduceBEq, reduceCtorEq, Nat.reduceEqDiff, hlen, List.length_map]
  refine wp_for l.length 8 [5, 8, 9, 10, 11, 12, 13, 14, 15, 16, 18] (fun i F H' => Kept H H' ∧ (l.take i).any p = false) (by simp only [↓Sh.dn, sx, Nat.reduceBEq, reduceCtorEq, Nat.reduceEqDiff]) ⟨Kept.refl hw, rfl⟩ ?_ ?_
  · rintro i F H' hlt hF f8 ⟨hk, hall⟩ k
    have hs1 := hs.grow (hk.grow hw)
    obtain ⟨g, o, kk, hia, hc, hcc⟩ := hs1.at Tryz.underlying22 size_9 (i := i) (x := strCell l[i]) (by simp [hlt]) .i64
    have hld := hcc 0 _ rfl; simp only [Nat.add_zero] at hld
    have f0 := hF 0 rfl
    have f1 := hF 1 rfl
    have f7 := hF 7 rfl
    simp only [↓Sh.dn, sx, Nat.reduceBEq, reduceCtorEq, Nat.reduceEqDiff] at f0 f1 f7
    obtain ⟨r, H2, hd, hk2, rfl⟩ := hp H' hk l[i] (List.getElem_mem hlt)
    simp only [↓Sh.dn, sx, Nat.reduceBEq, reduceCtorEq, Nat.reduceEqDiff, f0, f1, f7, f8, nat_lt, hlt, decide_true, hia, hld, Option.map_some, forall_const, reduceCtorEq, false_implies, and_true, true_and]
    refine ⟨_, _, hd, ?_⟩
    cases hpv : p l[i] with
    | true =>
      simp only [↓Sh.dn, sx, Nat.reduceBEq, reduceCtorEq, Nat.reduceEqDiff, hres, forall_const, reduceCtorEq, false_implies, and_true, true_and]
      refine ⟨hk.trans hk2, _, rfl, ?_⟩
      rw [List.any_eq_true.2 ⟨_, List.getElem_mem hlt, hpv⟩]
      simp
    | false =>
      simp only [↓Sh.dn, sx, Nat.reduceBEq, reduceCtorEq, Nat.reduceEqDiff, hres, f8, wrap_succ hlt hl, forall_const, reduceCtorEq, false_implies, and_true, true_and]
      refine k _ _ (by repeat (first | refine Same.put ?_ rfl | exact Same.rfl' _)) (by simp only [↓Sh.dn, sx, Nat.reduceBEq, reduceCtorEq, Nat.reduceEqDiff]) ⟨hk.trans hk2, ?_⟩
      rw [List.take_add_one, List.getElem?_eq_getElem hlt]
      simp only [Option.toList, List.any_append, hall, List.any_cons, List.any_nil, hpv, Bool.or_false]
  · rintro F H' hF f8 ⟨hk, hall⟩
    have f7 := hF 7 rfl
    simp only [↓Sh.dn, sx, Nat.reduceBEq, reduceCtorEq, Nat.reduceEqDiff] at f7
    rw [List.take_length] at hall
    simp only [↓Sh.dn, sx, Nat.reduceBEq, reduceCtorEq, Nat.reduceEqDiff, f7, f8, nat_lt, Nat.lt_irrefl, decide_false, hres, forall_const, reduceCtorEq, false_implies, and_true, true_and]
    exact ⟨hk, _, rfl, by rw [hall]; rfl⟩
theorem containsFuncStr {H : AH} {v : Value} {l : List ByteArray} {fid : Nat} {caps : List Value} (p : ByteArray → Bool) (hs : Sl H v 1 (l.map strCell)) (hl : l.length ≤ 1048576) (hw : Wf H)
    (hp : ∀ H', Kept H H' → ∀ x ∈ l, Sh.Call Tryz.prog (knows 10) fid ((fun s => Value.string s) x :: caps) H' (fun r H'' => Kept H' H'' ∧ r = .bool (p x))) :
    Sh.Call Tryz.prog (knows 10) 107 [v, .func (.func fid) #[] caps.toArray] H (fun r H' => Kept H H' ∧ r = .bool (l.any p)) := by
  refine call_of rfl Tryz.func107 rfl (Nat.le_of_ble_eq_true rfl) ?_
  have hres : Tryz.f107.results.toList = [.tmp 4] := rfl
  obtain ⟨r, H2, hd, hk, k, rfl, hk0⟩ := indexFuncStr p hs hl hw hp
  simp only [↓Sh.dn, sx, Nat.reduceBEq, reduceCtorEq, Nat.reduceEqDiff]
  refine ⟨_, _, hd, ?_⟩
  simp only [↓Sh.dn, sx, Nat.reduceBEq, reduceCtorEq, Nat.reduceEqDiff, hres, hk0, and_true]
  exact hk
end Go.Proofs.YtfcmpclbhnjkgaaGreat
/- What is wrong with an alphabet, by the program. -/
set_option maxHeartbeats 4000000
set_option maxRecDepth 20000
set_option linter.unusedSimpArgs false
set_option linter.unusedVariables false
set_option pp.deepTerms.threshold 8
namespace Go.Proofs.YtfcmpclbhnjkgaaGreat
open Go Go.Proofs Go.Proofs.Sh
theorem symsValidate {H : AH} {v : Value} {l : List ByteArray} (hs : Sl H v 1 (l.map strCell)) (hl : l.length ≤ 1048576) (hlx : ∀ x ∈ l, x.size ≤ 1048576) (hw : Wf H) :
    Sh.Call Tryz.prog (knows 10) 68 [v] H (fun r H' => Kept H H' ∧ r = .int .i64 (sigErr l)) := by
  refine call_of rfl Tryz.func68 rfl (Nat.le_of_ble_eq_true rfl) ?_
  have hres : Tryz.f68.results.toList = [.tmp 2] := rfl
  have hlen := hs.len Tryz.underlying22 H
  have e40 : decide ((40 : Int) < ((l.length : Nat) : Int)) = decide (40 < l.length) := decide_eq_decide.2 (by omega)
  simp only [↓Sh.dn, sx, Nat.reduceBEq, reduceCtorEq, Nat.reduceEqDiff, hlen, List.length_map, e40]
  by_cases h40 : 40 < l.length
  · simp only [↓Sh.dn, sx, Nat.reduceBEq, reduceCtorEq, Nat.reduceEqDiff, h40, decide_true, hres, sigErr, Bool.true_or, Kept.refl hw]
  simp only [↓Sh.dn, sx, Nat.reduceBEq, reduceCtorEq, Nat.reduceEqDiff, h40, decide_false]
  obtain ⟨r1, H1, hd1, hk1, rfl⟩ := containsFuncStr (caps := []) (fid := 108) (fun s => decide (16 < s.size)) hs hl hw (fun H' hk x hx => (symsIsLong (H := H') (x := x)).mono fun r H'' h => by rcases h with ⟨rfl, h⟩; exact ⟨Kept.refl hk.wf, h⟩)
  refine ⟨_, _, hd1, ?_⟩
  cases hL : (l.any fun s => decide (16 < s.size)) with
  | true => simp only [↓Sh.dn, sx, Nat.reduceBEq, reduceCtorEq, Nat.reduceEqDiff, hres, hL, sigErr, anyLongB, h40, decide_false, Bool.false_or, hk1]
  | false =>
    have hs1 := hs.grow (hk1.grow hw)
    have hlen1 := hs1.len Tryz.underlying22 H1
    simp only [↓Sh.dn, sx, Nat.reduceBEq, reduceCtorEq, Nat.reduceEqDiff, hlen1, List.length_map]
    have h16 : ∀ x ∈ l, decide (x.size ≤ 16) = true := by
      intro x hx
      have := List.any_eq_false.1 hL x hx
      simp only [decide_eq_true_eq, Nat.not_lt] at this
      simpa using this
    have e1 : (l.all symOk && ascB l) = false → sigErr l = 1 := by intro h; simp [sigErr, anyLongB, h40, hL]; simpa using h
    have e0 : (l.all symOk && ascB l) = true → sigErr l = 0 := by intro h; simp [sigErr, anyLongB, h40, hL]; simpa using h
    have hsy : ∀ x ∈ l, symOk x = chOk x := by intro x hx; rw [symOk_chOk, h16 x hx, Bool.and_true]
    refine wp_for l.length 14 (List.range' 14 22 ++ [2, 3, 4]) (fun i F H' => H' = H1 ∧ (∀ (j : Nat) x, j < i → l[j]? = some x → chOk x = true) ∧ (∀ (j : Nat) x y, j + 1 < i → l[j]? = some x → l[j + 1]? = some y → strLt x y = true)) (by simp only [↓Sh.dn, sx, Nat.reduceBEq, reduceCtorEq, Nat.reduceEqDiff]) ⟨rfl, fun j x h => by omega, fun j x y h => by omega⟩ ?_ ?_
    · rintro i F H' hlt hF f14 ⟨rfl, hall, hasc⟩ k
      have f0 := hF 0 rfl
      have f12 := hF 12 rfl
      have f13 := hF 13 rfl
      simp only [↓Sh.dn, sx, Nat.reduceBEq, reduceCtorEq, Nat.reduceEqDiff] at f0 f12 f13
      obtain ⟨g, o, kk, hia, hc, hcc⟩ := hs1.at Tryz.underlying22 size_9 (i := i) (x := strCell l[i]) (by simp [hlt]) .i64
      have hy := hcc 0 _ rfl
      simp only [Nat.add_zero] at hy
      have hget : l[i]? = some l[i] := List.getElem?_eq_getElem hlt
      obtain ⟨r, H2, hd2, rfl, rfl⟩ := symsIsSymbol (H := H') (x := l[i]) (hlx _ (List.getElem_mem hlt))
      simp only [↓Sh.dn, sx, Nat.reduceBEq, reduceCtorEq, Nat.reduceEqDiff, f0, f12, f13, f14, nat_lt, hlt, decide_true, hia, hy]
      refine ⟨_, _, hd2, ?_⟩
      cases hch : chOk l[i] with
      | false =>
        have hbad : sigErr l = 1 := e1 (by
          rw [Bool.and_eq_false_iff]; left
          exact List.all_eq_false.2 ⟨_, List.getElem_mem hlt, by rw [hsy _ (List.getElem_mem hlt), hch]; simp⟩)
        simp only [↓Sh.dn, sx, Nat.reduceBEq, reduceCtorEq, Nat.reduceEqDiff, hres, hbad, hk1]
      | true =>
        have hall' : ∀ (j : Nat) x, j < i + 1 → l[j]? = some x → chOk x = true := by
          intro j x hj hx
          by_cases he : j = i
          · subst he; rw [hget] at hx; rw [← Option.some.inj hx]; exact hch
          · exact hall j x (by omega) hx
        by_cases hi0 : 0 < i
        · have hlt1 : i - 1 < l.length := by omega
          obtain ⟨g', o', kk', hia', hc', hcc'⟩ := hs1.at Tryz.underlying22 size_9 (i := i - 1) (x := strCell l[i - 1]) (by simp [hlt1]) .i64
          have hy' := hcc' 0 _ rfl
          simp only [Nat.add_zero] at hy'
          have hw1 : IntKind.wrap .i64 ((i : Int) - 1) = ((i - 1 : Nat) : Int) := by rw [wrap64 (by omega) (by omega)]; omega
          have ei : decide ((0 : Int) < (i : Int)) = true := by simpa using hi0
          have hget' : l[i - 1]? = some l[i - 1] := List.getElem?_eq_getElem hlt1
          simp only [↓Sh.dn, sx, Nat.reduceBEq, reduceCtorEq, Nat.reduceEqDiff, f0, ei, hw1, hia', hy']
          cases hq : strLt l[i - 1] l[i] with
          | false =>
            have hbad : sigErr l = 1 := e1 (by
              rw [Bool.and_eq_false_iff]; right
              cases hb : ascB l with
              | false => rfl
              | true =>
                have := ascB_iff.1 hb (i - 1) _ _ hget' (by rw [show i - 1 + 1 = i by omega]; exact hget)
                rw [this] at hq; cases hq)
            simp only [↓Sh.dn, sx, Nat.reduceBEq, reduceCtorEq, Nat.reduceEqDiff, hres, hbad, hk1]
          | true =>
            simp only [↓Sh.dn, sx, Nat.reduceBEq, reduceCtorEq, Nat.reduceEqDiff, f14, wrap_succ hlt hl]
            refine k _ _ (by repeat (first | refine Same.put ?_ rfl | exact Same.rfl' _)) (by simp only [↓Sh.dn, sx, Nat.reduceBEq, reduceCtorEq, Nat.reduceEqDiff]) ⟨rfl, hall', fun j x y hj hx hy => ?_⟩
            by_cases he : j + 1 = i
            · have : j = i - 1 := by omega
              subst this
              rw [he, hget] at hy
              rw [hget'] at hx
              rw [← Option.some.inj hx, ← Option.some.inj hy]; exact hq
            · exact hasc j x y (by omega) hx hy
        · have ei : decide ((0 : Int) < (i : Int)) = false := by simpa using hi0
          simp only [↓Sh.dn, sx, Nat.reduceBEq, reduceCtorEq, Nat.reduceEqDiff, f14, ei, wrap_succ hlt hl]
          exact k _ _ (by repeat (first | refine Same.put ?_ rfl | exact Same.rfl' _)) (by simp only [↓Sh.dn, sx, Nat.reduceBEq, reduceCtorEq, Nat.reduceEqDiff]) ⟨rfl, hall', fun j x y hj hx hy => by omega⟩
    · rintro F H' hF f14 ⟨rfl, hall, hasc⟩
      have f13 := hF 13 rfl
      simp only [↓Sh.dn, sx, Nat.reduceBEq, reduceCtorEq, Nat.reduceEqDiff] at f13
      have hgood : sigErr l = 0 := e0 (by
        rw [Bool.and_eq_true]
        refine ⟨List.all_eq_true.2 fun x hx => ?_, ascB_iff.2 fun j x y hx hy => hasc j x y (List.getElem?_eq_some_iff.1 hy).1 hx hy⟩
        obtain ⟨j, hj⟩ := List.mem_iff_getElem?.1 hx
        rw [hsy x hx]
        exact hall j x (List.getElem?_eq_some_iff.1 hj).1 hj)
      simp only [↓Sh.dn, sx, Nat.reduceBEq, reduceCtorEq, Nat.reduceEqDiff, f13, f14, nat_lt, Nat.lt_irrefl, decide_false, hres, hgood, hk1]
end Go.Proofs.YtfcmpclbhnjkgaaGreat
/- What is wrong with a word: by the reference, by the program. -/
set_option maxHeartbeats 4000000
set_option maxRecDepth 20000
set_option linter.unusedSimpArgs false
set_option linter.unusedVariables false
set_option pp.deepTerms.threshold 8
namespace Go.Proofs.YtfcmpclbhnjkgaaGreat
open Go Go.Proofs Go.Proofs.Sh
def wordErr (l : List ByteArray) : Int := if (decide (60 < l.length) || anyLongB l) = true then 3 else if l.all symOk = true then 0 else 1
theorem refWord {H : AH} {v : Value} {l : List ByteArray} (hs : Sl H v 1 (l.map strCell)) (hl : l.length ≤ 1048576) (hlx : ∀ x ∈ l, x.size ≤ 1048576) (hw : Wf H) :
    Sh.Call Tryz.prog (knows 10) 73 [v] H (fun r H' => Kept H H' ∧ r = .int .i64 (wordErr l)) := by
  refine call_of rfl Tryz.func73 rfl (Nat.le_of_ble_eq_true rfl) ?_
  have hres : Tryz.f73.results.toList = [.tmp 2] := rfl
  have hlen := hs.len Tryz.underlying22 H
  have e60 : decide ((60 : Int) < ((l.length : Nat) : Int)) = decide (60 < l.length) := by by_cases h : 60 < l.length <;> simp [h] <;> omega
  simp only [↓Sh.dn, sx, Nat.reduceBEq, reduceCtorEq, Nat.reduceEqDiff, hlen, List.length_map, e60]
  by_cases h60 : 60 < l.length
  · simp only [↓Sh.dn, sx, Nat.reduceBEq, reduceCtorEq, Nat.reduceEqDiff, h60, decide_true, hres, wordErr, Bool.true_or, Kept.refl hw]
  · simp only [↓Sh.dn, sx, Nat.reduceBEq, reduceCtorEq, Nat.reduceEqDiff, h60, decide_false]
    obtain ⟨r1, H1, hd1, hk1, rfl⟩ := anyLong hs hl hw
    refine ⟨_, _, hd1, ?_⟩
    cases hL : (l.any fun s => decide (16 < s.size)) with
    | true => simp only [↓Sh.dn, sx, Nat.reduceBEq, reduceCtorEq, Nat.reduceEqDiff, hres, hL, wordErr, anyLongB, h60, decide_false, Bool.false_or, hk1]
    | false =>
      simp only [↓Sh.dn, sx, Nat.reduceBEq, reduceCtorEq, Nat.reduceEqDiff]
      obtain ⟨r2, H2, hd2, rfl, rfl⟩ := allSymbols (hs.grow (hk1.grow hw)) hl hlx hk1.wf
      refine ⟨_, _, hd2, ?_⟩
      cases hA : l.all symOk with
      | false => simp only [↓Sh.dn, sx, Nat.reduceBEq, reduceCtorEq, Nat.reduceEqDiff, hres, hL, hA, wordErr, anyLongB, h60, decide_false, Bool.false_or, hk1]
      | true => simp only [↓Sh.dn, sx, Nat.reduceBEq, reduceCtorEq, Nat.reduceEqDiff, hres, hL, hA, wordErr, anyLongB, h60, decide_false, Bool.false_or, hk1]
theorem symsWord {H : AH} {v : Value} {l : List ByteArray} (hs : Sl H v 1 (l.map strCell)) (hl : l.length ≤ 1048576) (hlx : ∀ x ∈ l, x.size ≤ 1048576) (hw : Wf H) :
    Sh.Call Tryz.prog (knows 10) 69 [v] H (fun r H' => Kept H H' ∧ r = .int .i64 (wordErr l)) := by
  refine call_of rfl Tryz.func69 rfl (Nat.le_of_ble_eq_true rfl) ?_
  have hres : Tryz.f69.results.toList = [.tmp 2] := rfl
  have hlen := hs.len Tryz.underlying22 H
  have e60 : decide ((60 : Int) < ((l.length : Nat) : Int)) = decide (60 < l.length) := by by_cases h : 60 < l.length <;> simp [h] <;> omega
  simp only [↓Sh.dn, sx, Nat.reduceBEq, reduceCtorEq, Nat.reduceEqDiff, hlen, List.length_map, e60]
  by_cases h60 : 60 < l.length
  · simp only [↓Sh.dn, sx, Nat.reduceBEq, reduceCtorEq, Nat.reduceEqDiff, h60, decide_true, hres, wordErr, Bool.true_or, Kept.refl hw]
  simp only [↓Sh.dn, sx, Nat.reduceBEq, reduceCtorEq, Nat.reduceEqDiff, h60, decide_false]
  obtain ⟨r1, H1, hd1, hk1, rfl⟩ := containsFuncStr (caps := []) (fid := 108) (fun s => decide (16 < s.size)) hs hl hw (fun H' hk x hx => (symsIsLong (H := H') (x := x)).mono fun r H'' h => by rcases h with ⟨rfl, h⟩; exact ⟨Kept.refl hk.wf, h⟩)
  refine ⟨_, _, hd1, ?_⟩
  cases hL : (l.any fun s => decide (16 < s.size)) with
  | true => simp only [↓Sh.dn, sx, Nat.reduceBEq, reduceCtorEq, Nat.reduceEqDiff, hres, hL, wordErr, anyLongB, h60, decide_false, Bool.false_or, hk1]
  | false =>
    have hs1 := hs.grow (hk1.grow hw)
    have h16 : ∀ x ∈ l, decide (x.size ≤ 16) = true := by
      intro x hx
      have := List.any_eq_false.1 hL x hx
      simp only [decide_eq_true_eq, Nat.not_lt] at this
      simpa using this
    have hsy : ∀ x ∈ l, symOk x = chOk x := by intro x hx; rw [symOk_chOk, h16 x hx, Bool.and_true]
    obtain ⟨r2, H2, hd2, hk2, rfl⟩ := containsFuncStr (caps := []) (fid := 110) (fun s => !chOk s) hs1 hl hk1.wf (fun H' hk x hx => by
      refine call_of rfl Tryz.func110 rfl (Nat.le_of_ble_eq_true rfl) ?_
      have hres : Tryz.f110.results.toList = [.tmp 2] := rfl
      obtain ⟨r3, H3, hd3, rfl, rfl⟩ := symsIsSymbol (H := H') (x := x) (hlx x hx)
      simp only [↓Sh.dn, sx, Nat.reduceBEq, reduceCtorEq, Nat.reduceEqDiff]
      refine ⟨_, _, hd3, ?_⟩
      simp only [↓Sh.dn, sx, Nat.reduceBEq, reduceCtorEq, Nat.reduceEqDiff, hres, Kept.refl hk.wf])
    simp only [↓Sh.dn, sx, Nat.reduceBEq, reduceCtorEq, Nat.reduceEqDiff]
    refine ⟨_, _, hd2, ?_⟩
    have hall : (l.any fun s => !chOk s) = !l.all symOk := by
      rw [List.all_eq_not_any_not, Bool.not_not]
      apply Bool.eq_iff_iff.2
      simp only [List.any_eq_true]
      exact ⟨fun ⟨x, h1, h2⟩ => ⟨x, h1, by rw [hsy x h1]; exact h2⟩, fun ⟨x, h1, h2⟩ => ⟨x, h1, by rw [← hsy x h1]; exact h2⟩⟩
    cases hA : l.all symOk with
    | false =>
      rw [hA] at hall
      simp only [↓Sh.dn, sx, Nat.reduceBEq, reduceCtorEq, Nat.reduceEqDiff, hres, hL, hA, hall, Bool.not_false, wordErr, anyLongB, h60, decide_false, Bool.false_or, hk1.trans hk2]
    | true =>
      rw [hA] at hall
      simp only [↓Sh.dn, sx, Nat.reduceBEq, reduceCtorEq, Nat.reduceEqDiff, hres, hL, hA, hall, Bool.not_true, wordErr, anyLongB, h60, decide_false, Bool.false_or, hk1.trans hk2]
end Go.Proofs.YtfcmpclbhnjkgaaGreat
/- The reference's Accepts and Begins. -/
set_option maxHeartbeats 4000000
set_option maxRecDepth 20000
set_option linter.unusedSimpArgs false
set_option linter.unusedVariables false
set_option pp.deepTerms.threshold 8
namespace Go.Proofs.YtfcmpclbhnjkgaaGreat
open Go Go.Proofs Go.Proofs.Sh
def bothErr (N : NetD) (w : List ByteArray) : Int := if accErr N ≠ 0 then accErr N else wordErr w
theorem accErr_ok {N : NetD} (h : accErr N = 0) : NetOk N := by
  refine netOk ?_
  unfold accErr at h
  by_cases hE : netErr N = 0
  · exact hE
  · rw [if_pos hE] at h; exact absurd h hE
theorem refChecked {H : AH} {v u : Value} {N : NetD} {w : List ByteArray} (h : NetAt H v N) (hsm : NetSmall N) (hu : Sl H u 1 (w.map strCell)) (hwl : w.length ≤ 1048576) (hwx : ∀ x ∈ w, x.size ≤ 1048576) (hw : Wf H) :
    Sh.Call Tryz.prog (knows 10) 57 [v, u] H (fun r H' => Kept H H' ∧ r = .int .i64 (bothErr N w)) := by
  refine call_of rfl Tryz.func57 rfl (Nat.le_of_ble_eq_true rfl) ?_
  have hres : Tryz.f57.results.toList = [.tmp 4] := rfl
  obtain ⟨sg, ar, en, rfl, hsg, har, hen⟩ := h
  have hb1 := NetBox.of (N := N) hw hsg har hen
  have hk1 : Kept H (H.new 4 [sg, .int .i64 N.states, ar, en]).2 := Kept.new hw 4 _
  simp only [↓Sh.dn, sx, Nat.reduceBEq, reduceCtorEq, Nat.reduceEqDiff, netNew hsg.isCell har.isCell hen.isCell]
  generalize H.next = gg at hb1 ⊢
  generalize (H.new 4 [sg, .int .i64 N.states, ar, en]).2 = H1 at hb1 hk1 ⊢
  obtain ⟨r, H2, hd2, hk2, rfl⟩ := refValidate hb1.netAt hsm hk1.wf
  simp only [↓Sh.dn, sx, Nat.reduceBEq, reduceCtorEq, Nat.reduceEqDiff, hb1.c0, hb1.c1, hb1.c2, hb1.c3, hb1.ca, netLenS hb1, netLenA hb1, netLenE hb1, Option.map_some]
  refine ⟨_, _, hd2, ?_⟩
  by_cases hE : accErr N = 0
  case neg => simp only [↓Sh.dn, sx, Nat.reduceBEq, reduceCtorEq, Nat.reduceEqDiff, hE, decide_false, hres, bothErr, if_true, hk1.trans hk2]
  obtain ⟨r, H3, hd3, hk3, rfl⟩ := refWord (hu.grow ((hk1.trans hk2).grow hw)) hwl hwx hk2.wf
  simp only [↓Sh.dn, sx, Nat.reduceBEq, reduceCtorEq, Nat.reduceEqDiff, hE, decide_true]
  refine ⟨_, _, hd3, ?_⟩
  simp only [↓Sh.dn, sx, Nat.reduceBEq, reduceCtorEq, Nat.reduceEqDiff, hres, bothErr, hE, if_false, (hk1.trans hk2).trans hk3]
theorem goes_edges {N : NetD} (hok : NetOk N) : goesE (edgesOf N) = N.goes := by
  funext x s t
  apply propext
  unfold goesE edgesOf NetD.goes
  constructor
  · rintro ⟨r, h1, h2⟩
    obtain ⟨a, ha, h3, h4⟩ := (rowsOf_mem h1 _).1 h2
    have := hok.arc a ha
    injection h4 with h4 h5
    exact ⟨a, ha, h3, h4, by omega⟩
  · rintro ⟨a, ha, h1, h2, h3⟩
    have := hok.arc a ha
    have hs : s < N.states.toNat := by omega
    refine ⟨_, rowsOf_get hs, ?_⟩
    rw [rowsOf_mem (rowsOf_get hs)]
    exact ⟨a, ha, h1, by rw [h2, h3]; rfl⟩
theorem ends_marks {N : NetD} (hok : NetOk N) (t : Nat) : (marksOf EndD.state N.states.toNat N.ends)[t]? = some true ↔ N.isEnd t := by
  unfold NetD.isEnd
  constructor
  · intro h
    have ht := (List.getElem?_eq_some_iff.1 h).1
    rw [marksOf_length] at ht
    rw [marksOf_get ht] at h
    obtain ⟨e, h1, h2⟩ := List.any_eq_true.1 (Option.some.inj h)
    exact ⟨e, h1, of_decide_eq_true h2⟩
  · rintro ⟨e, h1, h2⟩
    have := hok.fin e h1
    rw [marksOf_get (by omega)]
    exact congrArg some (List.any_eq_true.2 ⟨e, h1, decide_eq_true h2⟩)
/-- Is a word accepted; does it begin one that is. -/
def accepts (N : NetD) (w : List ByteArray) : Prop := (∀ x ∈ w, x ≠ noText) ∧ ∃ t, N.run w t ∧ N.isEnd t
def begins (N : NetD) (w : List ByteArray) : Prop := (∀ x ∈ w, x ≠ noText) ∧ ∃ t, N.run w t ∧ N.alive t
noncomputable def isB (p : Prop) : Bool := @decide p (Classical.propDecidable p)
theorem isB_iff {p : Prop} : isB p = true ↔ p := @decide_eq_true_iff p (Classical.propDecidable p)
theorem isB_of {p : Prop} {b : Bool} (h : b = true ↔ p) : b = isB p := by
  rw [Bool.eq_iff_iff, isB_iff]; exact h
theorem isB_not {p : Prop} (h : ¬p) : isB p = false := by
  cases hb : isB p with
  | false => rfl
  | true => exact absurd (isB_iff.1 hb) h
noncomputable def accB (N : NetD) (w : List ByteArray) : Bool := isB (bothErr N w = 0 ∧ accepts N w)
theorem veq_rg {ev bv : Value} (h1 : veq ev ev = true) (h2 : veq bv bv = true) : veq (.agg #[.int .i64 0, ev, bv]) (.agg #[.int .i64 0, ev, bv]) = true := veq_agg (by simp only [veqs_cons, veqs_nil, veq_int, h1, h2, Bool.and_self])
theorem bothErr_ok {N : NetD} {w : List ByteArray} (hE : bothErr N w = 0) : NetOk N := accErr_ok (by
    unfold bothErr at hE
    by_cases h : accErr N = 0
    · exact h
    · rw [if_pos h] at hE; exact absurd hE h)
end Go.Proofs.YtfcmpclbhnjkgaaGreat
/- What is wrong with a net of any kind, by the program. -/
set_option maxHeartbeats 4000000
set_option maxRecDepth 20000
set_option linter.unusedSimpArgs false
set_option linter.unusedVariables false
set_option pp.deepTerms.threshold 8
namespace Go.Proofs.YtfcmpclbhnjkgaaGreat
open Go Go.Proofs Go.Proofs.Sh
theorem checkIs {H : AH} {gg : Nat} {sg ar en : Value} {N : NetD} {s : ByteArray} (hb : NetBox H gg sg ar en N) (ha : Asc N.sigma) (hl : N.sigma.length ≤ 1048576) :
    Sh.Call Tryz.prog (knows 10) 116 [.string s, .pointer (some ⟨gg, 0, some 0⟩)] H (fun r H' => H' = H ∧ r = .bool (!badSym N s)) := by
  refine call_of rfl Tryz.func116 rfl (Nat.le_of_ble_eq_true rfl) ?_
  have hres : Tryz.f116.results.toList = [.tmp 3] := rfl
  obtain ⟨r, H1, hd, rfl, k, rfl, _, _⟩ := binarySearch (x := s) hb.hsg ha hl
  simp only [↓Sh.dn, sx, Nat.reduceBEq, reduceCtorEq, Nat.reduceEqDiff, hb.c0, hb.c1, hb.c2, hb.c3, hb.ca, netLenS hb, netLenA hb, netLenE hb]
  refine ⟨_, _, hd, ?_⟩
  simp only [↓Sh.dn, sx, Nat.reduceBEq, reduceCtorEq, Nat.reduceEqDiff, o_extract]
  by_cases h : s = ⟨#[]⟩
  · simp only [↓Sh.dn, sx, Nat.reduceBEq, reduceCtorEq, Nat.reduceEqDiff, h, decide_true, hres, badSym]
  · simp only [↓Sh.dn, sx, Nat.reduceBEq, reduceCtorEq, Nat.reduceEqDiff, h, decide_false, hres, badSym]
theorem graphCheck {H : AH} {v : Value} {N : NetD} (h : NetAt H v N) (hsm : NetSmall N) (hw : Wf H) :
    Sh.Call Tryz.prog (knows 10) 77 [v] H (fun r H' => Kept H H' ∧ r = .int .i64 (netErr N)) := by
  refine call_of rfl Tryz.func77 rfl (Nat.le_of_ble_eq_true rfl) ?_
  have hres : Tryz.f77.results.toList = [.tmp 2] := rfl
  obtain ⟨sg, ar, en, rfl, hsg, har, hen⟩ := h
  have hb1 := NetBox.of (N := N) hw hsg har hen
  have hk1 : Kept H (H.new 4 [sg, .int .i64 N.states, ar, en]).2 := Kept.new hw 4 _
  have eA : decide ((60000 : Int) < (N.arcs.length : Int)) = decide (60000 < N.arcs.length) := decide_eq_decide.2 (by omega)
  have eE : decide ((60000 : Int) < (N.ends.length : Int)) = decide (60000 < N.ends.length) := decide_eq_decide.2 (by omega)
  simp only [↓Sh.dn, sx, Nat.reduceBEq, reduceCtorEq, Nat.reduceEqDiff, netNew hsg.isCell har.isCell hen.isCell]
  generalize H.next = gg at hb1 ⊢
  generalize (H.new 4 [sg, .int .i64 N.states, ar, en]).2 = H1 at hb1 hk1 ⊢
  simp only [↓Sh.dn, sx, Nat.reduceBEq, reduceCtorEq, Nat.reduceEqDiff, hb1.c0, hb1.c1, hb1.c2, hb1.c3, hb1.ca, netLenS hb1, netLenA hb1, netLenE hb1]
  by_cases hA : 3000 < N.states
  · simp only [↓Sh.dn, sx, Nat.reduceBEq, reduceCtorEq, Nat.reduceEqDiff, hA, decide_true, hres, netErr, tooLarge, Bool.true_or, hk1]
  by_cases hB : 60000 < N.arcs.length
  · simp only [↓Sh.dn, sx, Nat.reduceBEq, reduceCtorEq, Nat.reduceEqDiff, hb1.c0, hb1.c1, hb1.c2, hb1.c3, hb1.ca, netLenS hb1, netLenA hb1, netLenE hb1, hA, eA, hB, decide_true, decide_false, hres, netErr, tooLarge, Bool.true_or, Bool.or_true, hk1]
  by_cases hC : 60000 < N.ends.length
  · simp only [↓Sh.dn, sx, Nat.reduceBEq, reduceCtorEq, Nat.reduceEqDiff, hb1.c0, hb1.c1, hb1.c2, hb1.c3, hb1.ca, netLenS hb1, netLenA hb1, netLenE hb1, hA, eA, eE, hB, hC, decide_true, decide_false, hres, netErr, tooLarge, Bool.true_or, Bool.or_true, hk1]
  have hT : tooLarge N = false := by simp [tooLarge, hA, hB, hC]
  simp only [↓Sh.dn, sx, Nat.reduceBEq, reduceCtorEq, Nat.reduceEqDiff, hb1.c0, hb1.c1, hb1.c2, hb1.c3, hb1.ca, netLenS hb1, netLenA hb1, netLenE hb1, hA, eA, eE, hB, hC, decide_true, decide_false, hres]
  obtain ⟨r, H2, hd, hk2, rfl⟩ := symsValidate hb1.hsg hsm.sg hsm.sx hk1.wf
  refine ⟨_, _, hd, ?_⟩
  have hb2 := hb1.kept hk1.wf hk2
  have hk12 := hk1.trans hk2
  by_cases hS : sigErr N.sigma = 0
  case neg => simp only [↓Sh.dn, sx, Nat.reduceBEq, reduceCtorEq, Nat.reduceEqDiff, hS, decide_false, hres, netErr, hT, Bool.false_eq_true, if_false, ne_eq, not_false_eq_true, if_true, hk12]
  have hasc := sigErr_asc hS
  simp only [↓Sh.dn, sx, Nat.reduceBEq, reduceCtorEq, Nat.reduceEqDiff, hS, decide_true, hb2.c0, hb2.c1, hb2.c2, hb2.c3, hb2.ca, netLenS hb2, netLenA hb2, netLenE hb2]
  by_cases hst : N.states < 1
  · simp only [↓Sh.dn, sx, Nat.reduceBEq, reduceCtorEq, Nat.reduceEqDiff, hst, decide_true, hres, netErr, hT, hS, ne_eq, not_true_eq_false, if_false, if_true, hk12, Bool.false_eq_true]
  simp only [↓Sh.dn, sx, Nat.reduceBEq, reduceCtorEq, Nat.reduceEqDiff, hst, decide_false, hb2.c0, hb2.c1, hb2.c2, hb2.c3, hb2.ca, netLenS hb2, netLenA hb2, netLenE hb2]
  have e1 : N.arcs.any (badArc N) = true → netErr N = 1 := by intro h; simp [netErr, hT, hS, hst, h]
  have e2 : N.ends.any (badEnd N) = true → netErr N = 1 := by intro h; simp [netErr, hT, hS, hst, h]
  have e3 : N.arcs.any (badArc N) = false → N.ends.any (badEnd N) = false → netErr N = 0 := by intro h h'; simp [netErr, hT, hS, hst, h, h']
  refine wp_for N.arcs.length 37 (List.range' 37 41 ++ [2, 6]) (fun i F H' => Kept H2 H' ∧ (N.arcs.take i).any (badArc N) = false) (by simp only [↓Sh.dn, sx, Nat.reduceBEq, reduceCtorEq, Nat.reduceEqDiff]) ⟨Kept.refl hk12.wf, rfl⟩ ?_ ?_
  · rintro i F H' hlt hF f37 ⟨hk, hall⟩ k
    have f1 := hF 1 rfl
    have f4 := hF 4 rfl
    have f35 := hF 35 rfl
    have f36 := hF 36 rfl
    simp only [↓Sh.dn, sx, Nat.reduceBEq, reduceCtorEq, Nat.reduceEqDiff] at f1 f4 f35 f36
    have hb' := hb2.kept hk12.wf hk
    have hb3 := hb'.new hk.wf 5 (N.arcs[i].cells)
    have hk3 := hk.news 5 (N.arcs[i].cells)
    obtain ⟨g, o, kk, hia, hc, hcc⟩ := hb'.har.at Tryz.underlying23 size_54 (i := i) (x := N.arcs[i].cells) (by simp [hlt]) .i64
    clear hcc
    have hin : N.arcs[i] ∈ N.arcs := List.getElem_mem hlt
    have hnext : badArc N N.arcs[i] = false → (N.arcs.take (i + 1)).any (badArc N) = false := by
      intro h
      rw [List.take_add_one, List.getElem?_eq_getElem hlt]
      simp only [Option.toList, List.any_append, hall, List.any_cons, List.any_nil, h, Bool.or_false]
    have hbad : badArc N N.arcs[i] = true → netErr N = 1 := fun h => e1 (List.any_eq_true.2 ⟨_, hin, h⟩)
    generalize N.arcs[i] = a at hb3 hk3 hc hnext hbad
    simp only [↓Sh.dn, sx, Nat.reduceBEq, reduceCtorEq, Nat.reduceEqDiff, hb'.c0, hb'.c1, hb'.c2, hb'.c3, hb'.ca, netLenS hb', netLenA hb', netLenE hb', netZero, arcZero, endZero, arcNew, endNew, arcStore, endStore, arcOver, endOver, netOver, arc0, arc1, arc2, arc3, arc4, end0, end1, f1, f35, f36, f37, Option.map_some, nat_lt, hlt, decide_true, hia, hc, hres]
    by_cases h1 : a.fr < 0
    · simp only [↓Sh.dn, sx, Nat.reduceBEq, reduceCtorEq, Nat.reduceEqDiff, hb3.c0, hb3.c1, hb3.c2, hb3.c3, hb3.ca, netLenS hb3, netLenA hb3, netLenE hb3, netZero, arcZero, endZero, arcNew, endNew, arcStore, endStore, arcOver, endOver, netOver, arc0, arc1, arc2, arc3, arc4, end0, end1, h1, decide_true, hres, hbad (by simp [badArc, h1]), hk12.trans hk3]
    simp only [↓Sh.dn, sx, Nat.reduceBEq, reduceCtorEq, Nat.reduceEqDiff, hb3.c0, hb3.c1, hb3.c2, hb3.c3, hb3.ca, netLenS hb3, netLenA hb3, netLenE hb3, netZero, arcZero, endZero, arcNew, endNew, arcStore, endStore, arcOver, endOver, netOver, arc0, arc1, arc2, arc3, arc4, end0, end1, f1, h1, decide_false]
    by_cases h2 : N.states ≤ a.fr
    · simp only [↓Sh.dn, sx, Nat.reduceBEq, reduceCtorEq, Nat.reduceEqDiff, hb3.c0, hb3.c1, hb3.c2, hb3.c3, hb3.ca, netLenS hb3, netLenA hb3, netLenE hb3, netZero, arcZero, endZero, arcNew, endNew, arcStore, endStore, arcOver, endOver, netOver, arc0, arc1, arc2, arc3, arc4, end0, end1, h2, decide_true, hres, hbad (by simp [badArc, h2]), hk12.trans hk3]
    simp only [↓Sh.dn, sx, Nat.reduceBEq, reduceCtorEq, Nat.reduceEqDiff, hb3.c0, hb3.c1, hb3.c2, hb3.c3, hb3.ca, netLenS hb3, netLenA hb3, netLenE hb3, netZero, arcZero, endZero, arcNew, endNew, arcStore, endStore, arcOver, endOver, netOver, arc0, arc1, arc2, arc3, arc4, end0, end1, f1, h2, decide_false]
    by_cases h3 : a.to < 0
    · simp only [↓Sh.dn, sx, Nat.reduceBEq, reduceCtorEq, Nat.reduceEqDiff, hb3.c0, hb3.c1, hb3.c2, hb3.c3, hb3.ca, netLenS hb3, netLenA hb3, netLenE hb3, netZero, arcZero, endZero, arcNew, endNew, arcStore, endStore, arcOver, endOver, netOver, arc0, arc1, arc2, arc3, arc4, end0, end1, h3, decide_true, hres, hbad (by simp [badArc, h3]), hk12.trans hk3]
    simp only [↓Sh.dn, sx, Nat.reduceBEq, reduceCtorEq, Nat.reduceEqDiff, hb3.c0, hb3.c1, hb3.c2, hb3.c3, hb3.ca, netLenS hb3, netLenA hb3, netLenE hb3, netZero, arcZero, endZero, arcNew, endNew, arcStore, endStore, arcOver, endOver, netOver, arc0, arc1, arc2, arc3, arc4, end0, end1, f1, h3, decide_false]
    by_cases h4 : N.states ≤ a.to
    · simp only [↓Sh.dn, sx, Nat.reduceBEq, reduceCtorEq, Nat.reduceEqDiff, hb3.c0, hb3.c1, hb3.c2, hb3.c3, hb3.ca, netLenS hb3, netLenA hb3, netLenE hb3, netZero, arcZero, endZero, arcNew, endNew, arcStore, endStore, arcOver, endOver, netOver, arc0, arc1, arc2, arc3, arc4, end0, end1, h4, decide_true, hres, hbad (by simp [badArc, h4]), hk12.trans hk3]
    obtain ⟨r, H4, hd4, rfl, rfl⟩ := checkIs (s := a.inn) hb3 hasc hsm.sg
    simp only [↓Sh.dn, sx, Nat.reduceBEq, reduceCtorEq, Nat.reduceEqDiff, hb3.c0, hb3.c1, hb3.c2, hb3.c3, hb3.ca, netLenS hb3, netLenA hb3, netLenE hb3, netZero, arcZero, endZero, arcNew, endNew, arcStore, endStore, arcOver, endOver, netOver, arc0, arc1, arc2, arc3, arc4, end0, end1, f1, f4, h4, decide_false]
    refine ⟨_, _, hd4, ?_⟩
    have hb4 := hb3
    cases hI : badSym N a.inn with
    | true => simp only [↓Sh.dn, sx, Nat.reduceBEq, reduceCtorEq, Nat.reduceEqDiff, hres, hbad (by simp [badArc, hI]), hk12.trans hk3]
    | false =>
      obtain ⟨r, H5, hd5, rfl, rfl⟩ := checkIs (s := a.out) hb3 hasc hsm.sg
      simp only [↓Sh.dn, sx, Nat.reduceBEq, reduceCtorEq, Nat.reduceEqDiff, hb3.c0, hb3.c1, hb3.c2, hb3.c3, hb3.ca, netLenS hb3, netLenA hb3, netLenE hb3, netZero, arcZero, endZero, arcNew, endNew, arcStore, endStore, arcOver, endOver, netOver, arc0, arc1, arc2, arc3, arc4, end0, end1, f1, f4]
      refine ⟨_, _, hd5, ?_⟩
      cases hO : badSym N a.out with
      | true => simp only [↓Sh.dn, sx, Nat.reduceBEq, reduceCtorEq, Nat.reduceEqDiff, hres, hbad (by simp [badArc, hO]), hk12.trans hk3]
      | false =>
        simp only [↓Sh.dn, sx, Nat.reduceBEq, reduceCtorEq, Nat.reduceEqDiff, f37, wrap_succ hlt hsm.ar]
        exact k _ _ (by repeat (first | refine Same.put ?_ rfl | exact Same.rfl' _)) (by simp only [↓Sh.dn, sx, Nat.reduceBEq, reduceCtorEq, Nat.reduceEqDiff]) ⟨hk3, hnext (by simp [badArc, h1, h2, h3, h4, hI, hO])⟩
  · rintro F H' hF f37 ⟨hk, hall⟩
    have f1 := hF 1 rfl
    have f36 := hF 36 rfl
    simp only [↓Sh.dn, sx, Nat.reduceBEq, reduceCtorEq, Nat.reduceEqDiff] at f1 f36
    rw [List.take_length] at hall
    have hb' := hb2.kept hk12.wf hk
    simp only [↓Sh.dn, sx, Nat.reduceBEq, reduceCtorEq, Nat.reduceEqDiff, hb'.c0, hb'.c1, hb'.c2, hb'.c3, hb'.ca, netLenS hb', netLenA hb', netLenE hb', f1, f36, f37, nat_lt, Nat.lt_irrefl, decide_false]
    refine wp_for N.ends.length 81 (List.range' 81 15 ++ [2, 8]) (fun i F H'' => Kept H' H'' ∧ (N.ends.take i).any (badEnd N) = false) (by simp only [↓Sh.dn, sx, Nat.reduceBEq, reduceCtorEq, Nat.reduceEqDiff]) ⟨Kept.refl hk.wf, rfl⟩ ?_ ?_
    · rintro i F2 H'' hlt hF2 f81 ⟨hk2', hall2⟩ k
      have g1 := hF2 1 rfl
      have g79 := hF2 79 rfl
      have g80 := hF2 80 rfl
      simp only [↓Sh.dn, sx, Nat.reduceBEq, reduceCtorEq, Nat.reduceEqDiff, f1] at g1 g79 g80
      have hbx := hb'.kept hk.wf hk2'
      have hb3 := hbx.new hk2'.wf 2 (N.ends[i].cells)
      have hk3 := hk2'.news 2 (N.ends[i].cells)
      have hkk := (hk12.trans hk).trans hk3
      obtain ⟨g, o, kk, hia, hc, hcc⟩ := hbx.hen.at Tryz.underlying24 size_56 (i := i) (x := N.ends[i].cells) (by simp [hlt]) .i64
      clear hcc
      have hbad : badEnd N N.ends[i] = true → netErr N = 1 := fun h => e2 (List.any_eq_true.2 ⟨_, List.getElem_mem hlt, h⟩)
      simp only [↓Sh.dn, sx, Nat.reduceBEq, reduceCtorEq, Nat.reduceEqDiff, hbx.c0, hbx.c1, hbx.c2, hbx.c3, hbx.ca, netLenS hbx, netLenA hbx, netLenE hbx, netZero, arcZero, endZero, arcNew, endNew, arcStore, endStore, arcOver, endOver, netOver, arc0, arc1, arc2, arc3, arc4, end0, end1, g1, g79, g80, f81, nat_lt, hlt, decide_true, hia, hc, Option.map_some]
      by_cases h1 : N.ends[i].state < 0
      · simp only [↓Sh.dn, sx, Nat.reduceBEq, reduceCtorEq, Nat.reduceEqDiff, hb3.c0, hb3.c1, hb3.c2, hb3.c3, hb3.ca, netLenS hb3, netLenA hb3, netLenE hb3, netZero, arcZero, endZero, arcNew, endNew, arcStore, endStore, arcOver, endOver, netOver, arc0, arc1, arc2, arc3, arc4, end0, end1, h1, decide_true, hres, hbad (by simp [badEnd, h1]), hkk]
      simp only [↓Sh.dn, sx, Nat.reduceBEq, reduceCtorEq, Nat.reduceEqDiff, hb3.c0, hb3.c1, hb3.c2, hb3.c3, hb3.ca, netLenS hb3, netLenA hb3, netLenE hb3, netZero, arcZero, endZero, arcNew, endNew, arcStore, endStore, arcOver, endOver, netOver, arc0, arc1, arc2, arc3, arc4, end0, end1, g1, f81, h1, decide_false]
      by_cases h2 : N.states ≤ N.ends[i].state
      · simp only [↓Sh.dn, sx, Nat.reduceBEq, reduceCtorEq, Nat.reduceEqDiff, h2, decide_true, hres, hbad (by simp [badEnd, h2]), hkk]
      simp only [↓Sh.dn, sx, Nat.reduceBEq, reduceCtorEq, Nat.reduceEqDiff, f81, h2, decide_false, wrap_succ hlt hsm.en]
      refine k _ _ (by repeat (first | refine Same.put ?_ rfl | exact Same.rfl' _)) (by simp only [↓Sh.dn, sx, Nat.reduceBEq, reduceCtorEq, Nat.reduceEqDiff]) ⟨hk3, ?_⟩
      rw [List.take_add_one, List.getElem?_eq_getElem hlt]
      simp only [Option.toList, List.any_append, hall2, List.any_cons, List.any_nil, Bool.or_false, badEnd, h1, h2, decide_false]
    · rintro F2 H'' hF2 f81 ⟨hk2', hall2⟩
      have g80 := hF2 80 rfl
      simp only [↓Sh.dn, sx, Nat.reduceBEq, reduceCtorEq, Nat.reduceEqDiff] at g80
      rw [List.take_length] at hall2
      simp only [↓Sh.dn, sx, Nat.reduceBEq, reduceCtorEq, Nat.reduceEqDiff, g80, f81, nat_lt, Nat.lt_irrefl, decide_false, hres, e3 hall hall2, (hk12.trans hk).trans hk2']
end Go.Proofs.YtfcmpclbhnjkgaaGreat
/- slices.IndexFunc and ContainsFunc: whether some element is so. -/
set_option maxHeartbeats 4000000
set_option maxRecDepth 20000
set_option linter.unusedSimpArgs false
set_option linter.unusedVariables false
set_option pp.deepTerms.threshold 8
namespace Go.Proofs.YtfcmpclbhnjkgaaGreat
open Go Go.Proofs Go.Proofs.Sh
theorem indexFuncArc {H : AH} {v : Value} {l : List ArcD} {fid : Nat} {caps : List Value} (p : ArcD → Bool) (hs : Sl H v 5 (l.map ArcD.cells)) (hl : l.length ≤ 1048576) (hw : Wf H)
    (hp : ∀ H', Kept H H' → ∀ x ∈ l, Sh.Call Tryz.prog (knows 10) fid ((fun a => Value.agg a.cells.toArray) x :: caps) H' (fun r H'' => Kept H' H'' ∧ r = .bool (p x))) :
    Sh.Call Tryz.prog (knows 10) 118 [v, .func (.func fid) #[] caps.toArray] H (fun r H' => Kept H H' ∧ ∃ k : Int, r = .int .i64 k ∧ decide (0 ≤ k) = l.any p) := by
  refine call_of rfl Tryz.func118 rfl (Nat.le_of_ble_eq_true rfl) ?_
  have hres : Tryz.f118.results.toList = [.tmp 4] := rfl
  have hlen := hs.len Tryz.underlying23 H
  simp only [↓Sh.dn, sx, Nat.reduceBEq, reduceCtorEq, Nat.reduceEqDiff, hlen, List.length_map]
  refine wp_for l.length 8 [5, 8, 9, 10, 11, 12, 13, 14, 15, 16, 18] (fun i F H' => Kept H H' ∧ (l.take i).any p = false) (by simp only [↓Sh.dn, sx, Nat.reduceBEq, reduceCtorEq, Nat.reduceEqDiff]) ⟨Kept.refl hw, rfl⟩ ?_ ?_
  · rintro i F H' hlt hF f8 ⟨hk, hall⟩ k
    have hs1 := hs.grow (hk.grow hw)
    obtain ⟨g, o, kk, hia, hc, hcc⟩ := hs1.at Tryz.underlying23 size_54 (i := i) (x := ArcD.cells l[i]) (by simp [hlt]) .i64
    have hld := hc
    have f0 := hF 0 rfl
    have f1 := hF 1 rfl
    have f7 := hF 7 rfl
    simp only [↓Sh.dn, sx, Nat.reduceBEq, reduceCtorEq, Nat.reduceEqDiff] at f0 f1 f7
    obtain ⟨r, H2, hd, hk2, rfl⟩ := hp H' hk l[i] (List.getElem_mem hlt)
    simp only [↓Sh.dn, sx, Nat.reduceBEq, reduceCtorEq, Nat.reduceEqDiff, f0, f1, f7, f8, nat_lt, hlt, decide_true, hia, hld, Option.map_some, forall_const, reduceCtorEq, false_implies, and_true, true_and]
    refine ⟨_, _, hd, ?_⟩
    cases hpv : p l[i] with
    | true =>
      simp only [↓Sh.dn, sx, Nat.reduceBEq, reduceCtorEq, Nat.reduceEqDiff, hres, forall_const, reduceCtorEq, false_implies, and_true, true_and]
      refine ⟨hk.trans hk2, _, rfl, ?_⟩
      rw [List.any_eq_true.2 ⟨_, List.getElem_mem hlt, hpv⟩]
      simp
    | false =>
      simp only [↓Sh.dn, sx, Nat.reduceBEq, reduceCtorEq, Nat.reduceEqDiff, hres, f8, wrap_succ hlt hl, forall_const, reduceCtorEq, false_implies, and_true, true_and]
      refine k _ _ (by repeat (first | refine Same.put ?_ rfl | exact Same.rfl' _)) (by simp only [↓Sh.dn, sx, Nat.reduceBEq, reduceCtorEq, Nat.reduceEqDiff]) ⟨hk.trans hk2, ?_⟩
      rw [List.take_add_one, List.getElem?_eq_getElem hlt]
      simp only [Option.toList, List.any_append, hall, List.any_cons, List.any_nil, hpv, Bool.or_false]
  · rintro F H' hF f8 ⟨hk, hall⟩
    have f7 := hF 7 rfl
    simp only [↓Sh.dn, sx, Nat.reduceBEq, reduceCtorEq, Nat.reduceEqDiff] at f7
    rw [List.take_length] at hall
    simp only [↓Sh.dn, sx, Nat.reduceBEq, reduceCtorEq, Nat.reduceEqDiff, f7, f8, nat_lt, Nat.lt_irrefl, decide_false, hres, forall_const, reduceCtorEq, false_implies, and_true, true_and]
    exact ⟨hk, _, rfl, by rw [hall]; rfl⟩
theorem containsFuncArc {H : AH} {v : Value} {l : List ArcD} {fid : Nat} {caps : List Value} (p : ArcD → Bool) (hs : Sl H v 5 (l.map ArcD.cells)) (hl : l.length ≤ 1048576) (hw : Wf H)
    (hp : ∀ H', Kept H H' → ∀ x ∈ l, Sh.Call Tryz.prog (knows 10) fid ((fun a => Value.agg a.cells.toArray) x :: caps) H' (fun r H'' => Kept H' H'' ∧ r = .bool (p x))) :
    Sh.Call Tryz.prog (knows 10) 79 [v, .func (.func fid) #[] caps.toArray] H (fun r H' => Kept H H' ∧ r = .bool (l.any p)) := by
  refine call_of rfl Tryz.func79 rfl (Nat.le_of_ble_eq_true rfl) ?_
  have hres : Tryz.f79.results.toList = [.tmp 4] := rfl
  obtain ⟨r, H2, hd, hk, k, rfl, hk0⟩ := indexFuncArc p hs hl hw hp
  simp only [↓Sh.dn, sx, Nat.reduceBEq, reduceCtorEq, Nat.reduceEqDiff]
  refine ⟨_, _, hd, ?_⟩
  simp only [↓Sh.dn, sx, Nat.reduceBEq, reduceCtorEq, Nat.reduceEqDiff, hres, hk0, and_true]
  exact hk
end Go.Proofs.YtfcmpclbhnjkgaaGreat
/- Whether a net has a cost out of bounds. -/
set_option maxHeartbeats 4000000
set_option maxRecDepth 20000
set_option linter.unusedSimpArgs false
set_option linter.unusedVariables false
set_option pp.deepTerms.threshold 8
namespace Go.Proofs.YtfcmpclbhnjkgaaGreat
open Go Go.Proofs Go.Proofs.Sh
def pricedB (N : NetD) (m : Int) : Bool := N.arcs.any (fun a => decide (a.cost < 0) || decide (m < a.cost)) || N.ends.any (fun a => decide (a.cost < 0) || decide (m < a.cost))
theorem priced {H : AH} {v : Value} {N : NetD} {m : Int} (h : NetAt H v N) (hsm : NetSmall N) (hw : Wf H) :
    Sh.Call Tryz.prog (knows 10) 80 [v, .int .i64 m] H (fun r H' => Kept H H' ∧ r = .bool (pricedB N m)) := by
  refine call_of rfl Tryz.func80 rfl (Nat.le_of_ble_eq_true rfl) ?_
  have hres : Tryz.f80.results.toList = [.tmp 4] := rfl
  obtain ⟨sg, ar, en, rfl, hsg, har, hen⟩ := h
  have hb1 := NetBox.of (N := N) hw hsg har hen
  have hk1 : Kept H (H.new 4 [sg, .int .i64 N.states, ar, en]).2 := Kept.new hw 4 _
  simp only [↓Sh.dn, sx, Nat.reduceBEq, reduceCtorEq, Nat.reduceEqDiff, netNew hsg.isCell har.isCell hen.isCell]
  generalize H.next = gg at hb1 ⊢
  generalize (H.new 4 [sg, .int .i64 N.states, ar, en]).2 = H1 at hb1 hk1 ⊢
  simp only [↓Sh.dn, sx, Nat.reduceBEq, reduceCtorEq, Nat.reduceEqDiff, hb1.c0, hb1.c1, hb1.c2, hb1.c3, hb1.ca, netLenS hb1, netLenA hb1, netLenE hb1]
  refine wp_for N.arcs.length 12 (List.range' 12 14 ++ [4, 6]) (fun i F H' => Kept H1 H' ∧ (N.arcs.take i).any (fun a => decide (a.cost < 0) || decide (m < a.cost)) = false) (by simp only [↓Sh.dn, sx, Nat.reduceBEq, reduceCtorEq, Nat.reduceEqDiff]) ⟨Kept.refl hk1.wf, rfl⟩ ?_ ?_
  · rintro i F H' hlt hF f12 ⟨hk, hall⟩ k
    have f1 := hF 1 rfl
    have f10 := hF 10 rfl
    have f11 := hF 11 rfl
    simp only [↓Sh.dn, sx, Nat.reduceBEq, reduceCtorEq, Nat.reduceEqDiff] at f1 f10 f11
    have hb' := hb1.kept hk1.wf hk
    have hb3 := hb'.new hk.wf 5 (N.arcs[i].cells)
    have hk3 := hk.news 5 (N.arcs[i].cells)
    obtain ⟨g, o, kk, hia, hc, hcc⟩ := hb'.har.at Tryz.underlying23 size_54 (i := i) (x := N.arcs[i].cells) (by simp [hlt]) .i64
    clear hcc
    have hbad : (decide (N.arcs[i].cost < 0) || decide (m < N.arcs[i].cost)) = true → pricedB N m = true := fun h => by
      rw [pricedB, List.any_eq_true.2 ⟨_, List.getElem_mem hlt, h⟩]; rfl
    simp only [↓Sh.dn, sx, Nat.reduceBEq, reduceCtorEq, Nat.reduceEqDiff, hb'.c0, hb'.c1, hb'.c2, hb'.c3, hb'.ca, netLenS hb', netLenA hb', netLenE hb', netZero, arcZero, endZero, arcNew, endNew, arcStore, endStore, arcOver, endOver, netOver, arc0, arc1, arc2, arc3, arc4, end0, end1, f1, f10, f11, f12, Option.map_some, nat_lt, hlt, decide_true, hia, hc, hres]
    by_cases h1 : N.arcs[i].cost < 0
    · simp only [↓Sh.dn, sx, Nat.reduceBEq, reduceCtorEq, Nat.reduceEqDiff, h1, decide_true, hres, hbad (by simp [h1]), hk1.trans hk3]
    simp only [↓Sh.dn, sx, Nat.reduceBEq, reduceCtorEq, Nat.reduceEqDiff, netZero, arcZero, endZero, arcNew, endNew, arcStore, endStore, arcOver, endOver, netOver, arc0, arc1, arc2, arc3, arc4, end0, end1, f1, h1, decide_false]
    by_cases h2 : m < N.arcs[i].cost
    · simp only [↓Sh.dn, sx, Nat.reduceBEq, reduceCtorEq, Nat.reduceEqDiff, h2, decide_true, hres, hbad (by simp [h2]), hk1.trans hk3]
    simp only [↓Sh.dn, sx, Nat.reduceBEq, reduceCtorEq, Nat.reduceEqDiff, f12, h2, decide_false, wrap_succ hlt hsm.ar]
    refine k _ _ (by repeat (first | refine Same.put ?_ rfl | exact Same.rfl' _)) (by simp only [↓Sh.dn, sx, Nat.reduceBEq, reduceCtorEq, Nat.reduceEqDiff]) ⟨hk3, ?_⟩
    rw [List.take_add_one, List.getElem?_eq_getElem hlt]
    simp only [Option.toList, List.any_append, hall, List.any_cons, List.any_nil, Bool.or_false, h1, h2, decide_false]
  · rintro F H' hF f12 ⟨hk, hall⟩
    have f2 := hF 2 rfl
    have f11 := hF 11 rfl
    simp only [↓Sh.dn, sx, Nat.reduceBEq, reduceCtorEq, Nat.reduceEqDiff] at f2 f11
    rw [List.take_length] at hall
    have hb' := hb1.kept hk1.wf hk
    simp only [↓Sh.dn, sx, Nat.reduceBEq, reduceCtorEq, Nat.reduceEqDiff, hb'.c0, hb'.c1, hb'.c2, hb'.c3, hb'.ca, netLenS hb', netLenA hb', netLenE hb', f2, f11, f12, nat_lt, Nat.lt_irrefl, decide_false]
    refine wp_for N.ends.length 29 (List.range' 29 14 ++ [4, 8]) (fun i F H'' => Kept H' H'' ∧ (N.ends.take i).any (fun a => decide (a.cost < 0) || decide (m < a.cost)) = false) (by simp only [↓Sh.dn, sx, Nat.reduceBEq, reduceCtorEq, Nat.reduceEqDiff]) ⟨Kept.refl hk.wf, rfl⟩ ?_ ?_
    · rintro i F2 H'' hlt hF2 f29 ⟨hk2', hall2⟩ k
      have g1 := hF2 1 rfl
      have h1' := hF 1 rfl
      have g27 := hF2 27 rfl
      have g28 := hF2 28 rfl
      simp only [↓Sh.dn, sx, Nat.reduceBEq, reduceCtorEq, Nat.reduceEqDiff] at g1 g27 g28 h1'
      have hbx := hb'.kept hk.wf hk2'
      have hb3 := hbx.new hk2'.wf 2 (N.ends[i].cells)
      have hk3 := hk2'.news 2 (N.ends[i].cells)
      have hkk := (hk1.trans hk).trans hk3
      obtain ⟨g, o, kk, hia, hc, hcc⟩ := hbx.hen.at Tryz.underlying24 size_56 (i := i) (x := N.ends[i].cells) (by simp [hlt]) .i64
      clear hcc
      have hbad : (decide (N.ends[i].cost < 0) || decide (m < N.ends[i].cost)) = true → pricedB N m = true := fun h => by
        rw [pricedB, List.any_eq_true.2 ⟨_, List.getElem_mem hlt, h⟩, Bool.or_true]
      simp only [↓Sh.dn, sx, Nat.reduceBEq, reduceCtorEq, Nat.reduceEqDiff, hbx.c0, hbx.c1, hbx.c2, hbx.c3, hbx.ca, netLenS hbx, netLenA hbx, netLenE hbx, netZero, arcZero, endZero, arcNew, endNew, arcStore, endStore, arcOver, endOver, netOver, arc0, arc1, arc2, arc3, arc4, end0, end1, g1, h1', g27, g28, f29, nat_lt, hlt, decide_true, hia, hc, Option.map_some]
      by_cases h1 : N.ends[i].cost < 0
      · simp only [↓Sh.dn, sx, Nat.reduceBEq, reduceCtorEq, Nat.reduceEqDiff, h1, decide_true, hres, hbad (by simp [h1]), hkk]
      simp only [↓Sh.dn, sx, Nat.reduceBEq, reduceCtorEq, Nat.reduceEqDiff, netZero, arcZero, endZero, arcNew, endNew, arcStore, endStore, arcOver, endOver, netOver, arc0, arc1, arc2, arc3, arc4, end0, end1, g1, h1', f29, h1, decide_false]
      by_cases h2 : m < N.ends[i].cost
      · simp only [↓Sh.dn, sx, Nat.reduceBEq, reduceCtorEq, Nat.reduceEqDiff, h2, decide_true, hres, hbad (by simp [h2]), hkk]
      simp only [↓Sh.dn, sx, Nat.reduceBEq, reduceCtorEq, Nat.reduceEqDiff, f29, h2, decide_false, wrap_succ hlt hsm.en]
      refine k _ _ (by repeat (first | refine Same.put ?_ rfl | exact Same.rfl' _)) (by simp only [↓Sh.dn, sx, Nat.reduceBEq, reduceCtorEq, Nat.reduceEqDiff]) ⟨hk3, ?_⟩
      rw [List.take_add_one, List.getElem?_eq_getElem hlt]
      simp only [Option.toList, List.any_append, hall2, List.any_cons, List.any_nil, Bool.or_false, h1, h2, decide_false]
    · rintro F2 H'' hF2 f29 ⟨hk2', hall2⟩
      have g28 := hF2 28 rfl
      simp only [↓Sh.dn, sx, Nat.reduceBEq, reduceCtorEq, Nat.reduceEqDiff] at g28
      rw [List.take_length] at hall2
      simp only [↓Sh.dn, sx, Nat.reduceBEq, reduceCtorEq, Nat.reduceEqDiff, g28, f29, nat_lt, Nat.lt_irrefl, decide_false, hres, pricedB, hall, hall2, (hk1.trans hk).trans hk2']
end Go.Proofs.YtfcmpclbhnjkgaaGreat
/- What is wrong with an acceptor, by the program. -/
set_option maxHeartbeats 4000000
set_option maxRecDepth 20000
set_option linter.unusedSimpArgs false
set_option linter.unusedVariables false
set_option pp.deepTerms.threshold 8
namespace Go.Proofs.YtfcmpclbhnjkgaaGreat
open Go Go.Proofs Go.Proofs.Sh
theorem autoUnlike {H : AH} {a : ArcD} (hw : Wf H) : Sh.Call Tryz.prog (knows 10) 78 [.agg a.cells.toArray] H (fun r H' => Kept H H' ∧ r = .bool (!decide (a.inn = a.out))) := by
  refine call_of rfl Tryz.func78 rfl (Nat.le_of_ble_eq_true rfl) ?_
  have hres : Tryz.f78.results.toList = [.tmp 2] := rfl
  simp only [↓Sh.dn, sx, Nat.reduceBEq, reduceCtorEq, Nat.reduceEqDiff, netZero, arcZero, endZero, arcNew, endNew, arcStore, endStore, arcOver, endOver, netOver, arc0, arc1, arc2, arc3, arc4, end0, end1, hres, Kept.new hw 5 a.cells]
theorem free_priced (N : NetD) : NetD.free N = !pricedB N 0 := by
  have h : ∀ c : Int, decide (c = 0) = !(decide (c < 0) || decide (0 < c)) := by
    intro c
    by_cases h1 : c < 0
    · have : c ≠ 0 := by omega
      simp [h1, this]
    · by_cases h2 : 0 < c
      · have : c ≠ 0 := by omega
        simp [h2, this]
      · have : c = 0 := by omega
        simp [this]
  simp only [NetD.free, pricedB, h, Bool.not_or, List.all_eq_not_any_not, Bool.not_not]
  simp
theorem autoValidate {H : AH} {v : Value} {N : NetD} (h : NetAt H v N) (hsm : NetSmall N) (hw : Wf H) :
    Sh.Call Tryz.prog (knows 10) 36 [v] H (fun r H' => Kept H H' ∧ r = .int .i64 (accErr N)) := by
  refine call_of rfl Tryz.func36 rfl (Nat.le_of_ble_eq_true rfl) ?_
  have hres : Tryz.f36.results.toList = [.tmp 2] := rfl
  obtain ⟨sg, ar, en, rfl, hsg, har, hen⟩ := h
  have hb1 := NetBox.of (N := N) hw hsg har hen
  have hk1 : Kept H (H.new 4 [sg, .int .i64 N.states, ar, en]).2 := Kept.new hw 4 _
  simp only [↓Sh.dn, sx, Nat.reduceBEq, reduceCtorEq, Nat.reduceEqDiff, netNew hsg.isCell har.isCell hen.isCell]
  generalize H.next = gg at hb1 ⊢
  generalize (H.new 4 [sg, .int .i64 N.states, ar, en]).2 = H1 at hb1 hk1 ⊢
  simp only [↓Sh.dn, sx, Nat.reduceBEq, reduceCtorEq, Nat.reduceEqDiff, hb1.c0, hb1.c1, hb1.c2, hb1.c3, hb1.ca, netLenS hb1, netLenA hb1, netLenE hb1, Option.map_some]
  obtain ⟨r, H2, hd, hk2, rfl⟩ := graphCheck hb1.netAt hsm hk1.wf
  refine ⟨_, _, hd, ?_⟩
  have hb2 := hb1.kept hk1.wf hk2
  have hk12 := hk1.trans hk2
  by_cases hE : netErr N = 0
  case neg => simp only [↓Sh.dn, sx, Nat.reduceBEq, reduceCtorEq, Nat.reduceEqDiff, hE, decide_false, hres, accErr, if_true, hk12]
  simp only [↓Sh.dn, sx, Nat.reduceBEq, reduceCtorEq, Nat.reduceEqDiff, hE, decide_true, hb2.c0, hb2.c1, hb2.c2, hb2.c3, hb2.ca, netLenS hb2, netLenA hb2, netLenE hb2]
  obtain ⟨r, H3, hd3, hk3, rfl⟩ := containsFuncArc (caps := []) (fid := 78) (fun a => !decide (a.inn = a.out)) hb2.har hsm.ar hk12.wf (fun H' hk a ha => autoUnlike hk.wf)
  refine ⟨_, _, hd3, ?_⟩
  have hb3 := hb2.kept hk12.wf hk3
  have hk13 := hk12.trans hk3
  cases hu : N.arcs.any (fun a => !decide (a.inn = a.out)) with
  | true => simp only [↓Sh.dn, sx, Nat.reduceBEq, reduceCtorEq, Nat.reduceEqDiff, hres, accErr, hE, unlike, hu, if_true, if_false, hk13]
  | false =>
    simp only [↓Sh.dn, sx, Nat.reduceBEq, reduceCtorEq, Nat.reduceEqDiff, hb3.c0, hb3.c1, hb3.c2, hb3.c3, hb3.ca, netLenS hb3, netLenA hb3, netLenE hb3, Option.map_some]
    obtain ⟨r, H4, hd4, hk4, rfl⟩ := priced (m := 0) hb3.netAt hsm hk13.wf
    refine ⟨_, _, hd4, ?_⟩
    cases hp : pricedB N 0 with
    | true => simp only [↓Sh.dn, sx, Nat.reduceBEq, reduceCtorEq, Nat.reduceEqDiff, hres, accErr, hE, unlike, hu, free_priced, hp, if_true, if_false, hk13.trans hk4]
    | false => simp only [↓Sh.dn, sx, Nat.reduceBEq, reduceCtorEq, Nat.reduceEqDiff, hres, accErr, hE, unlike, hu, free_priced, hp, if_true, if_false, hk13.trans hk4]
end Go.Proofs.YtfcmpclbhnjkgaaGreat
/- auto.given, Accepts, Begins. -/
set_option maxHeartbeats 4000000
set_option maxRecDepth 20000
set_option linter.unusedSimpArgs false
set_option linter.unusedVariables false
set_option pp.deepTerms.threshold 8
namespace Go.Proofs.YtfcmpclbhnjkgaaGreat
open Go Go.Proofs Go.Proofs.Sh
/-- The edges of the program's graph of a net. -/
def gEdges (N : NetD) : List (List (Nat × Int × Int × Int)) := rowsOf ArcD.fr (fun a => (a.to.toNat, symIx N.sigma a.inn, symIx N.sigma a.out, a.cost)) N.states.toNat N.arcs
theorem gEdges_cells {N : NetD} (hok : NetOk N) : gCells (gEdges N) = grRows N N.arcs := by
  unfold gCells gEdges grRows rowsOf
  rw [List.map_map]
  refine List.map_congr_left fun s _ => ?_
  simp only [Function.comp, List.map_map]
  refine List.map_congr_left fun a ha => ?_
  have := hok.arc a (List.mem_filter.1 ha).1
  simp only [Function.comp, gCell, edgeC]
  rw [show ((a.to.toNat : Nat) : Int) = a.to by omega]
theorem goes_gEdges {N : NetD} (hok : NetOk N) (p : Int → Prop) (s t : Nat) : goesP (gEdges N) p s t ↔ ∃ a ∈ N.arcs, a.fr = (s : Int) ∧ p (symIx N.sigma a.inn) ∧ a.to = (t : Int) := by
  unfold goesP gEdges
  constructor
  · rintro ⟨r, h1, e, h2, h3, h4⟩
    obtain ⟨a, ha, h5, rfl⟩ := (rowsOf_mem h1 _).1 h2
    have := hok.arc a ha
    exact ⟨a, ha, h5, h4, by simp only at h3; omega⟩
  · rintro ⟨a, ha, h1, h2, h3⟩
    have := hok.arc a ha
    have hs : s < N.states.toNat := by omega
    exact ⟨_, rowsOf_get hs, (a.to.toNat, symIx N.sigma a.inn, symIx N.sigma a.out, a.cost), (rowsOf_mem (rowsOf_get hs) _).2 ⟨a, ha, h1, rfl⟩, by simp only; omega, h2⟩
theorem symIx_lt {l : List ByteArray} {x : ByteArray} (ha : Asc l) : symIx l x < 0 ↔ x ∉ l := by
  have := symIx_neg (x := x) ha
  rw [← strIn_iff]
  cases h : strIn l x with
  | true => rw [h] at this; simpa using this
  | false => rw [h] at this; simpa using this
theorem symIx_inj {l : List ByteArray} {x y : ByteArray} (ha : Asc l) (hx : x ∈ l) : symIx l y = symIx l x ↔ y = x := by
  constructor
  · intro h
    have hx0 : ¬(symIx l x < 0) := fun h0 => (symIx_lt ha).1 h0 hx
    have hy : y ∈ l := by
      by_cases hy : y ∈ l
      · exact hy
      · have := (symIx_lt ha).2 hy; omega
    obtain ⟨i, hi⟩ := List.mem_iff_getElem?.1 hx
    obtain ⟨j, hj⟩ := List.mem_iff_getElem?.1 hy
    rw [symIx_some ha hi, symIx_some ha hj] at h
    have : j = i := by omega
    subst this
    rw [hi] at hj
    exact (Option.some.inj hj).symm
  · rintro rfl; rfl
theorem noText_out {N : NetD} (hok : NetOk N) : noText ∉ N.sigma := by
  intro h
  have := hok.sym _ h
  have h0 : symOk noText = false := rfl
  rw [h0] at this; cases this
theorem eps_gEdges {N : NetD} (hok : NetOk N) (s t : Nat) : N.goes noText s t ↔ goesP (gEdges N) (fun k => k < 0) s t := by
  rw [goes_gEdges hok]
  unfold NetD.goes
  constructor
  · rintro ⟨a, ha, h1, h2, h3⟩
    exact ⟨a, ha, h1, (symIx_lt hok.asc).2 (by rw [h2]; exact noText_out hok), h3⟩
  · rintro ⟨a, ha, h1, h2, h3⟩
    have h4 := (symIx_lt hok.asc).1 h2
    exact ⟨a, ha, h1, ((hok.arc a ha).2.2.2.2.1).resolve_right h4, h3⟩
theorem sym_gEdges {N : NetD} (hok : NetOk N) {x : ByteArray} (hx : x ∈ N.sigma) (s t : Nat) : N.goes x s t ↔ goesP (gEdges N) (fun k => k = symIx N.sigma x) s t := by
  rw [goes_gEdges hok]
  unfold NetD.goes
  constructor
  · rintro ⟨a, ha, h1, h2, h3⟩; exact ⟨a, ha, h1, by rw [h2], h3⟩
  · rintro ⟨a, ha, h1, h2, h3⟩; exact ⟨a, ha, h1, (symIx_inj hok.asc hx).1 h2, h3⟩
theorem run_gEdges {N : NetD} (hok : NetOk N) {w : List ByteArray} (hw : ∀ x ∈ w, x ∈ N.sigma) (t : Nat) :
    N.run w t ↔ RunS (goesP (gEdges N) fun k => k < 0) (fun x => goesP (gEdges N) fun k => k = x) (Clo (goesP (gEdges N) fun k => k < 0) fun s => s = 0) (w.map (symIx N.sigma)) t := by
  unfold NetD.run NetD.clo
  have e : N.goes noText = goesP (gEdges N) fun k => k < 0 := funext fun s => funext fun t => propext (eps_gEdges hok s t)
  rw [e]
  exact RunS.congr (f := symIx N.sigma) (fun _ _ => Iff.rfl) (fun _ => Iff.rfl) (fun x hx s t => sym_gEdges hok (hw x hx) s t) t
/-- A word with a foreign symbol leads nowhere. -/
theorem run_out {N : NetD} (hok : NetOk N) {w : List ByteArray} {x : ByteArray} (hx : x ∈ w) (h0 : x ≠ noText) (hs : x ∉ N.sigma) (t : Nat) : ¬N.run w t := by
  refine RunS.dead ⟨x, hx, fun s t => ?_⟩ t
  rintro ⟨a, ha, _, h2, _⟩
  rcases (hok.arc a ha).2.2.2.2.1 with h3 | h3
  · exact h0 (by rw [← h2, h3]; rfl)
  · exact hs (by rw [← h2]; exact h3)
theorem word_no {N : NetD} {w : List ByteArray} (hE : bothErr N w = 0) : ∀ x ∈ w, x ≠ noText := by
  intro x hx h0
  have h1 : wordErr w = 0 := by
    unfold bothErr at hE
    by_cases h : accErr N = 0
    · rw [if_neg (by simpa using h)] at hE; exact hE
    · rw [if_pos h] at hE; exact absurd hE h
  unfold wordErr at h1
  split at h1
  · cases h1
  split at h1
  · rename_i h2
    have := List.all_eq_true.1 h2 x hx
    rw [h0] at this; cases this
  · cases h1
theorem ends_gr {N : NetD} (hok : NetOk N) (t : Nat) : 0 < (grEnds N N.ends).getD t 0 ↔ N.isEnd t := by
  unfold NetD.isEnd grEnds
  rw [List.getD_eq_getElem?_getD, List.getElem?_map]
  by_cases ht : t < N.states.toNat
  · rw [rowsOf_get ht]
    simp only [Option.map_some, Option.getD_some, List.length_map]
    rw [show (0 : Int) < ((N.ends.filter fun a => decide (a.state = (t : Int))).length : Int) ↔ 0 < (N.ends.filter fun a => decide (a.state = (t : Int))).length by omega, List.length_pos_iff_exists_mem]
    simp only [List.mem_filter, decide_eq_true_eq]
  · rw [List.getElem?_eq_none (by rw [rowsOf_length]; omega)]
    simp only [Option.map_none, Option.getD_none, Int.lt_irrefl, false_iff, not_exists, not_and]
    intro e he h
    have := hok.fin e he
    omega
theorem alive_gr {N : NetD} (hok : NetOk N) : Clo (fun s t => goesP (gEdges N) (fun _ => True) t s) (fun s => 0 < (grEnds N N.ends).getD s 0) = N.alive := by
  unfold NetD.alive
  congr 1
  · funext s t
    apply propext
    rw [goes_gEdges hok]
    unfold NetD.goes
    constructor
    · rintro ⟨a, ha, h1, _, h3⟩; exact ⟨a.inn, a, ha, h1, rfl, h3⟩
    · rintro ⟨x, a, ha, h1, _, h3⟩; exact ⟨a, ha, h1, trivial, h3⟩
  · funext s
    exact propext (ends_gr hok s)
theorem Gr.pg {H : AH} {base g : Nat} {N : NetD} (hok : NetOk N) (h : Gr H base g N.sigma (grRows N N.arcs) (grEnds N N.ends) (grCosts N N.ends)) :
    ∃ sv av ev cv vals, PG H g N.states.toNat 60000 (gEdges N) (grEnds N N.ends) sv av ev cv vals N.sigma (grCosts N N.ends) := by
  obtain ⟨sv, av, ev, cv, vals, hR⟩ := h.read
  rw [← gEdges_cells hok] at hR
  have h1 := hok.st1
  have h2 := hok.st2
  refine ⟨sv, av, ev, cv, vals, hR, by unfold gEdges; rw [rowsOf_length], by unfold grEnds; rw [List.length_map, rowsOf_length], by omega, by omega, fun s r hr => ⟨Nat.le_trans (rowsOf_le hr) hok.ar, fun e he => ?_⟩⟩
  obtain ⟨a, ha, _, rfl⟩ := (rowsOf_mem hr e).1 he
  have := hok.arc a ha
  show a.to.toNat < _
  omega
theorem autoGiven {H : AH} {v u : Value} {N : NetD} {w : List ByteArray} (h : NetAt H v N) (hsm : NetSmall N) (hu : Sl H u 1 (w.map strCell)) (hwl : w.length ≤ 1048576) (hwx : ∀ x ∈ w, x.size ≤ 1048576) (hw : Wf H) :
    Sh.Call Tryz.prog (knows 10) 60 [v, u] H (fun r H' => Kept H H' ∧ ∃ gp lv, r = .tuple #[gp, lv, .bool (decide (bothErr N w = 0) && w.all (strIn N.sigma)), .int .i64 (bothErr N w)] ∧ (bothErr N w = 0 → ∃ g, gp = .pointer (some ⟨g, 0, some 0⟩) ∧ (∃ sv av ev cv vals, PG H' g N.states.toNat 60000 (gEdges N) (grEnds N N.ends) sv av ev cv vals N.sigma (grCosts N N.ends)) ∧ (w.all (strIn N.sigma) = true → Sl H' lv 1 ((w.map (symIx N.sigma)).map intC)))) := by
  refine call_of rfl Tryz.func60 rfl (Nat.le_of_ble_eq_true rfl) ?_
  have hres : Tryz.f60.results.toList = [.tmp 4, .tmp 5, .tmp 6, .tmp 7] := rfl
  obtain ⟨sg, ar, en, rfl, hsg, har, hen⟩ := h
  have hb1 := NetBox.of (N := N) hw hsg har hen
  have hk1 : Kept H (H.new 4 [sg, .int .i64 N.states, ar, en]).2 := Kept.new hw 4 _
  simp only [↓Sh.dn, sx, Nat.reduceBEq, reduceCtorEq, Nat.reduceEqDiff, netNew hsg.isCell har.isCell hen.isCell]
  generalize H.next = gg at hb1 ⊢
  generalize (H.new 4 [sg, .int .i64 N.states, ar, en]).2 = H1 at hb1 hk1 ⊢
  obtain ⟨r, H2, hd2, hk2, rfl⟩ := autoValidate hb1.netAt hsm hk1.wf
  have hb2 := hb1.kept hk1.wf hk2
  simp only [↓Sh.dn, sx, Nat.reduceBEq, reduceCtorEq, Nat.reduceEqDiff, hb1.c0, hb1.c1, hb1.c2, hb1.c3, hb1.ca, netLenS hb1, netLenA hb1, netLenE hb1, Option.map_some]
  refine ⟨_, _, hd2, ?_⟩
  have hk12 := hk1.trans hk2
  by_cases hA : accErr N = 0
  case neg =>
    have hb : bothErr N w = accErr N := by unfold bothErr; rw [if_pos hA]
    have hb0 : ¬bothErr N w = 0 := by rw [hb]; exact hA
    simp only [↓Sh.dn, sx, Nat.reduceBEq, reduceCtorEq, Nat.reduceEqDiff, hA, decide_false, hres, hb, hk12]
    exact ⟨_, _, rfl⟩
  have hu2 := hu.grow (hk12.grow hw)
  obtain ⟨r, H3, hd3, hk3, rfl⟩ := symsWord hu2 hwl hwx hk2.wf
  have hb : bothErr N w = wordErr w := by unfold bothErr; rw [if_neg (by simpa using hA)]
  have hk13 := hk12.trans hk3
  have hb3 := hb2.kept hk2.wf hk3
  simp only [↓Sh.dn, sx, Nat.reduceBEq, reduceCtorEq, Nat.reduceEqDiff, hA, decide_true]
  refine ⟨_, _, hd3, ?_⟩
  by_cases hW : wordErr w = 0
  case neg =>
    simp only [↓Sh.dn, sx, Nat.reduceBEq, reduceCtorEq, Nat.reduceEqDiff, hW, decide_false, hres, hb, hk13]
    exact ⟨_, _, rfl⟩
  have hok := accErr_ok hA
  have hu3 := hu2.grow (hk3.grow hk2.wf)
  obtain ⟨r, H4, hd4, hk4, z, rfl, hz⟩ := graphWord hb3.hsg hok.asc hsm.sg hu3 hwl hk3.wf
  have hb4 := hb3.kept hk3.wf hk4
  obtain ⟨r, H5, hd5, hk5, g, rfl, base, hbase, hG⟩ := graphOf hb4.netAt hok hsm hk4.wf
  simp only [↓Sh.dn, sx, Nat.reduceBEq, reduceCtorEq, Nat.reduceEqDiff, hW, decide_true, hb3.c0, hb3.c1, hb3.c2, hb3.c3, hb3.ca, netLenS hb3, netLenA hb3, netLenE hb3]
  refine ⟨_, _, hd4, ?_⟩
  simp only [↓Sh.dn, sx, Nat.reduceBEq, reduceCtorEq, Nat.reduceEqDiff, hb4.c0, hb4.c1, hb4.c2, hb4.c3, hb4.ca, netLenS hb4, netLenA hb4, netLenE hb4, Option.map_some]
  refine ⟨_, _, hd5, ?_⟩
  simp only [↓Sh.dn, sx, Nat.reduceBEq, reduceCtorEq, Nat.reduceEqDiff, hres, hb, hW, decide_true]
  refine ⟨(hk13.trans hk4).trans hk5, _, _, rfl, g, rfl, Gr.pg hok hG, fun hall => ?_⟩
  obtain ⟨b, hbz, _⟩ := hz hall
  have := hbz.toSl.grow (hk5.grow hk4.wf)
  rw [List.map_map]
  exact this
end Go.Proofs.YtfcmpclbhnjkgaaGreat
/- insertionSortOrdered. -/
set_option maxHeartbeats 4000000
set_option maxRecDepth 20000
set_option linter.unusedSimpArgs false
set_option linter.unusedVariables false
set_option pp.deepTerms.threshold 8
namespace Go.Proofs.YtfcmpclbhnjkgaaGreat
open Go Go.Proofs Go.Proofs.Sh
theorem insertionSortStr {H : AH} {g k n cap a b : Nat} {l : List ByteArray} (hv : VecStr H g k n l) (hw : Wf H) (hl : l.length ≤ 1048576) (hab : a ≤ b) (hb : b ≤ l.length) :
    Sh.Call Tryz.prog (knows 10) 141 [.slice (some ⟨g, 0, some k⟩) l.length cap, .int .i64 (a : Int), .int .i64 (b : Int)] H
      (fun r H' => ∃ l', Mix a b l l' ∧ Srt strLt a b l' ∧ VecStr H' g k n l' ∧ Chg (fun y => y = g) H H') := by
  refine call_of rfl Tryz.func141 rfl (Nat.le_of_ble_eq_true rfl) ?_
  have hres : Tryz.f141.results.toList = [] := rfl
  have hTO := strTO
  have w1 : IntKind.wrap .i64 ((a : Int) + 1) = ((a + 1 : Nat) : Int) := by rw [wrap64 (by omega) (by omega)]; rfl
  simp only [↓Sh.dn, sx, Nat.reduceBEq, reduceCtorEq, Nat.reduceEqDiff, w1]
  -- adjacent ones are in order, but perhaps at one place
  let Adj (i : Nat) (m : List ByteArray) : Prop := ∀ (p : Nat) x y, a ≤ p → p + 1 < i → m[p]? = some x → m[p + 1]? = some y → strLt y x = false
  refine wp_while (fun m F H' => ∃ (i : Nat) (l1 : List ByteArray), m = b - i ∧ a + 1 ≤ i ∧ (i ≤ b ∨ i = a + 1) ∧ Mix a b l l1 ∧ Adj i l1 ∧ VecStr H' g k n l1 ∧ Chg (fun y => y = g) H H' ∧
      F.get 0 = some (.slice (some ⟨g, 0, some k⟩) l.length cap) ∧ F.get 1 = some (.int .i64 (a : Int)) ∧ F.get 2 = some (.int .i64 (b : Int)) ∧ F.get 6 = some (.int .i64 (i : Int))) (m := b - (a + 1))
    ⟨a + 1, l, rfl, by omega, .inr rfl, .refl l, fun p x y h1 h2 => by omega, hv, Chg.refl hw, by simp only [↓Sh.dn, sx, Nat.reduceBEq, reduceCtorEq, Nat.reduceEqDiff], by simp only [↓Sh.dn, sx, Nat.reduceBEq, reduceCtorEq, Nat.reduceEqDiff], by simp only [↓Sh.dn, sx, Nat.reduceBEq, reduceCtorEq, Nat.reduceEqDiff], by simp only [↓Sh.dn, sx, Nat.reduceBEq, reduceCtorEq, Nat.reduceEqDiff]⟩ ?_
  rintro m F H' ⟨i, l1, rfl, hai, hib, hm, hadj, hv1, hc1, f0, f1, f2, f6⟩ kk
  by_cases hlt : i < b
  · simp only [↓Sh.dn, sx, Nat.reduceBEq, reduceCtorEq, Nat.reduceEqDiff, f2, f6, nat_lt, hlt, decide_true]
    refine wp_while (fun m F' H2 => ∃ (j : Nat) (l2 : List ByteArray), m = j ∧ a ≤ j ∧ j ≤ i ∧ Mix a b l l2 ∧ (∀ (p : Nat) x y, a ≤ p → p + 1 < i + 1 → p + 1 ≠ j → l2[p]? = some x → l2[p + 1]? = some y → strLt y x = false) ∧
        (∀ x y, a < j → j < i → l2[j - 1]? = some x → l2[j + 1]? = some y → strLt y x = false) ∧ VecStr H2 g k n l2 ∧ Chg (fun y => y = g) H H2 ∧
        F'.get 0 = some (.slice (some ⟨g, 0, some k⟩) l.length cap) ∧ F'.get 1 = some (.int .i64 (a : Int)) ∧ F'.get 2 = some (.int .i64 (b : Int)) ∧ F'.get 6 = some (.int .i64 (i : Int)) ∧ F'.get 7 = some (.int .i64 (j : Int))) (m := i)
      ⟨i, l1, rfl, by omega, Nat.le_refl _, hm, fun p x y h1 h2 h3 => hadj p x y h1 (by omega), fun x y h1 h2 => by omega, hv1, hc1, by simp only [↓Sh.dn, sx, Nat.reduceBEq, reduceCtorEq, Nat.reduceEqDiff, f0], by simp only [↓Sh.dn, sx, Nat.reduceBEq, reduceCtorEq, Nat.reduceEqDiff, f1], by simp only [↓Sh.dn, sx, Nat.reduceBEq, reduceCtorEq, Nat.reduceEqDiff, f2], by simp only [↓Sh.dn, sx, Nat.reduceBEq, reduceCtorEq, Nat.reduceEqDiff, f6], by simp only [↓Sh.dn, sx, Nat.reduceBEq, reduceCtorEq, Nat.reduceEqDiff]⟩ ?_
    rintro j F' H2 ⟨_, l2, rfl, haj, hji, hm2, hA, hB, hv2, hc2, g0, g1, g2, g6, g7⟩ k2
    have hlen := hm2.length
    have wi : IntKind.wrap .i64 ((i : Int) + 1) = ((i + 1 : Nat) : Int) := by rw [wrap64 (by omega) (by omega)]; rfl
    simp only [↓Sh.dn, sx, Nat.reduceBEq, reduceCtorEq, Nat.reduceEqDiff]
    refine (wp_free (by kernel_rfl)).2 ?_
    by_cases hgt : a < j
    · have wj : IntKind.wrap .i64 ((j : Int) - 1) = ((j - 1 : Nat) : Int) := by rw [wrap64 (by omega) (by omega)]; omega
      have hj1 : j < l2.length := by omega
      have hj2 : j - 1 < l2.length := by omega
      have i1 := vIdxStr (g := g) (k := k) (cap := cap) (m := l.length) (i := j) (j := .i64) (by omega)
      have i2 := vIdxStr (g := g) (k := k) (cap := cap) (m := l.length) (i := j - 1) (j := .i64) (by omega)
      have r1 := vGetStr hv2 hj1
      have r2 := vGetStr hv2 hj2
      have q1 : l2[j]? = some l2[j] := List.getElem?_eq_getElem hj1
      have q2 : l2[j - 1]? = some l2[j - 1] := List.getElem?_eq_getElem hj2
      simp only [↓Sh.dn, sx, Nat.reduceBEq, reduceCtorEq, Nat.reduceEqDiff, g0, g1, g7, nat_lt, hgt, decide_true, wj, i1, i2, r1, r2]
      refine ⟨_, _, cmpLessDoesStr, ?_⟩
      cases hc : strLt l2[j] l2[j - 1] with
      | true =>
        simp only [↓Sh.dn, sx, Nat.reduceBEq, reduceCtorEq, Nat.reduceEqDiff]
        refine (wp_free (by kernel_rfl)).2 ?_
        obtain ⟨K1, K2, e1, e2, e3, e4, e5⟩ := vSwapStr hv2 hc2.wf hj1 hj2
        simp only [↓Sh.dn, sx, Nat.reduceBEq, reduceCtorEq, Nat.reduceEqDiff, g0, g7, wj, i1, i2, r1, r2, vStoStr, e1, e2]
        refine k2 (j - 1) _ _ (by omega) ⟨j - 1, swp l2 j (j - 1), rfl, by omega, by omega, hm2.swap (by omega) (by omega) (by omega) (by omega), fun p x y h1 h2 h3 hx hy => ?_, fun x y h1 h2 hx hy => ?_, e3, hc2.trans e4, by simp only [↓Sh.dn, sx, Nat.reduceBEq, reduceCtorEq, Nat.reduceEqDiff, g0], by simp only [↓Sh.dn, sx, Nat.reduceBEq, reduceCtorEq, Nat.reduceEqDiff, g1], by simp only [↓Sh.dn, sx, Nat.reduceBEq, reduceCtorEq, Nat.reduceEqDiff, g2], by simp only [↓Sh.dn, sx, Nat.reduceBEq, reduceCtorEq, Nat.reduceEqDiff, g6], by simp only [↓Sh.dn, sx, Nat.reduceBEq, reduceCtorEq, Nat.reduceEqDiff]⟩
        · rw [swp_get hj1 hj2] at hx hy
          by_cases hp1 : p + 1 = j
          · have hp : p = j - 1 := by omega
            rw [if_pos hp, q1] at hx
            rw [if_neg (by omega), if_pos hp1, q2] at hy
            rw [← Option.some.inj hx, ← Option.some.inj hy]
            exact hTO.asymm hc
          · by_cases hp2 : p = j
            · rw [if_neg (by omega), if_pos hp2, q2] at hx
              rw [if_neg (by omega), if_neg (by omega)] at hy
              rw [← Option.some.inj hx]
              exact hB _ _ hgt (by omega) q2 (by rw [← hp2]; exact hy)
            · rw [if_neg (by omega), if_neg hp2] at hx
              rw [if_neg (by omega), if_neg (by omega)] at hy
              exact hA p x y h1 h2 hp1 hx hy
        · rw [swp_get hj1 hj2] at hx hy
          rw [if_neg (by omega), if_neg (by omega)] at hx
          rw [if_neg (by omega), if_pos (by omega), q2] at hy
          rw [← Option.some.inj hy]
          exact hA (j - 2) _ _ (by omega) (by omega) (by omega) (by rw [show j - 2 = j - 1 - 1 by omega]; exact hx) (by rw [show j - 2 + 1 = j - 1 by omega]; exact q2)
      | false =>
        simp only [↓Sh.dn, sx, Nat.reduceBEq, reduceCtorEq, Nat.reduceEqDiff, g6, wi]
        refine kk (b - (i + 1)) _ _ (by omega) ⟨i + 1, l2, rfl, by omega, .inl (by omega), hm2, fun p x y h1 h2 hx hy => ?_, hv2, hc2, by simp only [↓Sh.dn, sx, Nat.reduceBEq, reduceCtorEq, Nat.reduceEqDiff, g0], by simp only [↓Sh.dn, sx, Nat.reduceBEq, reduceCtorEq, Nat.reduceEqDiff, g1], by simp only [↓Sh.dn, sx, Nat.reduceBEq, reduceCtorEq, Nat.reduceEqDiff, g2], by simp only [↓Sh.dn, sx, Nat.reduceBEq, reduceCtorEq, Nat.reduceEqDiff]⟩
        by_cases hp : p + 1 = j
        · have hp' : p = j - 1 := by omega
          rw [hp', q2] at hx
          rw [hp, q1] at hy
          rw [← Option.some.inj hx, ← Option.some.inj hy]; exact hc
        · exact hA p x y h1 h2 hp hx hy
    · simp only [↓Sh.dn, sx, Nat.reduceBEq, reduceCtorEq, Nat.reduceEqDiff, g0, g1, g7, nat_lt, hgt, decide_false, g6, wi]
      exact kk (b - (i + 1)) _ _ (by omega) ⟨i + 1, l2, rfl, by omega, .inl (by omega), hm2, fun p x y h1 h2 hx hy => hA p x y h1 h2 (by omega) hx hy, hv2, hc2, by simp only [↓Sh.dn, sx, Nat.reduceBEq, reduceCtorEq, Nat.reduceEqDiff, g0], by simp only [↓Sh.dn, sx, Nat.reduceBEq, reduceCtorEq, Nat.reduceEqDiff, g1], by simp only [↓Sh.dn, sx, Nat.reduceBEq, reduceCtorEq, Nat.reduceEqDiff, g2], by simp only [↓Sh.dn, sx, Nat.reduceBEq, reduceCtorEq, Nat.reduceEqDiff]⟩
  · simp only [↓Sh.dn, sx, Nat.reduceBEq, reduceCtorEq, Nat.reduceEqDiff, f2, f6, nat_lt, hlt, decide_false, hres]
    exact ⟨l1, hm, srt_step hTO fun p x y h1 h2 hx hy => hadj p x y h1 (by omega) hx hy, hv1, hc1⟩
end Go.Proofs.YtfcmpclbhnjkgaaGreat
