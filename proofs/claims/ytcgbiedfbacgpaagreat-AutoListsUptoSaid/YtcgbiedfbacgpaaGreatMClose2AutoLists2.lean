/- A part of the proof: ShJag, ShPend, ShAuto. -/
import Derived.Test.YtcgbiedfbacgpaaGreatMClose2AutoLists1
set_option linter.unusedVariables false
set_option linter.unusedSimpArgs false
/- Rows of rows: a slice of slices, each of which grows. -/
set_option linter.unusedVariables false
set_option linter.unusedSimpArgs false
namespace Go.Proofs.Sh
open Go
structure JagR (H : AH) (v : Value) (s : Nat) (rows : List (List (List Value))) (vals : List Value) : Prop where
 sl : Sl H v 1 (vals.map fun x => [x])
 len : vals.length = rows.length
 row : ∀ (i : Nat) w r, vals[i]? = some w → rows[i]? = some r → Sl H w s r
theorem JagR.grow {H H' : AH} {v : Value} {s : Nat} {rows : List (List (List Value))} {vals : List Value} (h : JagR H v s rows vals) (hg : HGrow H H') : JagR H' v s rows vals :=
 ⟨h.sl.grow hg, h.len, fun i w r h1 h2 => (h.row i w r h1 h2).grow hg⟩
theorem Buf.shape {H : AH} {s : Nat} {v : Value} {l : List (List Value)} {o : Option Nat} (h : Buf H s v l o) : ∃ a cap, v = .slice a l.length cap := by
 cases h with
 | void a => exact ⟨a, 0, rfl⟩
 | own g k cap l vals => exact ⟨_, _, rfl⟩
section
variable {P : Program} {H : AH}
theorem A5w (n : Nat) (z : Value) : repl n [z] = List.replicate n z := by
 induction n with
 | zero => rfl
 | succ n ih => simp [repl, ih, List.replicate_succ]
theorem A22 {t e s : Nat} {z : Value} (hu : P.underlying t = some (.slice e)) (hi : ((P.info? e).map fun i => Nat.beq i.size s && Nat.ble i.bytes 65536) = some true) (hz : zeroAt P e = some z) (hl : (A6a z).length = s) (h1 : 1 ≤ s) {l c : Nat} (hlc : l ≤ c) (hc : c ≤ 1073741824) :
    A6f P t (.int .i64 (l : Int)) (.int .i64 (c : Int)) H = some (.slice (some ⟨H.next, 0, some 0⟩) l c, (H.new s (repl c (A6a z))).2) := by
  obtain ⟨i, hi1, hi2⟩ := Option.map_eq_some_iff.1 hi
  simp only [Bool.and_eq_true, A8a, A3c, decide_eq_true_eq] at hi2
  obtain ⟨hsz, hby⟩ := hi2
  subst hsz
  show A6f P t (.int .i64 (.ofNat l)) (.int .i64 (.ofNat c)) H = _
  unfold A6f
  have h2 : i.bytes * c ≤ 281474976710656 := by
    calc i.bytes * c ≤ 65536 * 1073741824 := Nat.mul_le_mul hby hc
      _ ≤ 281474976710656 := by decide
  have h3 : c ≤ 281474976710656 := by omega
  simp only [hu, hi1, hz, Option.bind_some, A3c, h1, A8a, hl, hlc, h2, h3, decide_true, Bool.and_self, cond_true]
  rfl
theorem Buf.room (hw : Wf H) (z : Value) {c : Nat} (hc : c ≤ 1073741824) : Buf (H.new 1 (List.replicate c z)).2 1 (.slice (some ⟨H.next, 0, some 0⟩) 0 c) [] (if c = 0 then none else some H.next) := by
 by_cases h : c = 0
 ·subst h; rw [if_pos rfl]; exact .void _
 ·rw [if_neg h]
  have e := B1e (c := c) (by unfold big; omega)
  exact .own H.next 0 c [] _ (Obj.new (H := H) 1 _).arr (by rw [e]; omega) (by rw [e]; simp) (Nat.zero_le _) (by simp [flat]) (fun x hx => by cases hx)
theorem Buf.fill (hw : Wf H) (z : Value) {c : Nat} (hc : c ≤ 1073741824) : Buf (H.new 1 (List.replicate c z)).2 1 (.slice (some ⟨H.next, 0, some 0⟩) c c) (List.replicate c [z]) (if c = 0 then none else some H.next) := by
 by_cases h : c = 0
 ·subst h; rw [if_pos rfl]; exact .void _
 ·rw [if_neg h]
  have e := B1e (c := c) (by unfold big; omega)
  have hf : flat (List.replicate c [z]) = List.replicate c z := by
   clear h hc e
   induction c with
   | zero => rfl
   | succ c ih => simp only [flat, List.replicate_succ, List.flatten_cons] at ih ⊢; rw [ih]; rfl
  have := Buf.own (H := (H.new 1 (List.replicate c z)).2) (s := 1) H.next 0 c (List.replicate c [z]) (List.replicate c z) (Obj.new (H := H) 1 _).arr (by rw [e]; omega) (by rw [e]; simp) (by rw [e]; simp) (by rw [hf]; simp) (fun x hx => by rw [List.eq_of_mem_replicate hx]; rfl)
  simpa using this
end
section
variable {P : Program} {H : AH} {s : Nat}
theorem C9r {x : List Value} (hx : x.length = s) : newCells s (H.new s x).2 (.slice (some ⟨H.next, 0, some 0⟩) 1 1) = some (1, x) := by
 have h : Obj (H.new s x).2 H.next s x true := Obj.new s x
 unfold newCells
 have : Nat.beq 1 0 = false := rfl
 simp only [this, cond_false, Nat.one_mul]
 rw [h.cells (by omega), List.drop_zero, ← hx, List.take_length]
 rfl
theorem A3n {t e : Nat} {z : Value} {base : Option Addr} {len cap : Nat} {x : List Value} (hu : P.underlying t = some (.slice e)) (hi : ((P.info? e).map fun i => Nat.beq i.size s && Nat.ble i.bytes 65536) = some true)
  (hz : zeroAt P e = some z) (hl : (A6a z).length = s) (h1 : 1 ≤ s) (hx : x.length = s) (hb : len ≤ 1073741823) :
  A4a P .append [t, t] [.slice base len cap, .slice (some ⟨H.next, 0, some 0⟩) 1 1] (H.new s x).2 = A1e s base len cap 1 x (H.new s x).2 :=
 A05 hu hi hz hl h1 (by unfold srcKind; rw [hu]) (C9r hx) (by omega)
theorem Buf.push {v : Value} {l : List (List Value)} {b : Option Nat} (h : Buf H s v l b) (hw : Wf H) {x : List Value} (hx : x.length = s) :
  ∃ a cap v' H' b', v = .slice a l.length cap ∧ A1e s a l.length cap 1 x (H.new s x).2 = some (v', H') ∧ Buf H' s v' (l ++ [x]) b' ∧ Chg (fun g => b = some g) H H' ∧ (∀ g, b' = some g → b = some g ∨ H.next ≤ g) := by
 obtain ⟨a, cap, rfl⟩ := h.shape
 have hk := Kept.new hw s x
 obtain ⟨v', H', b', e1, e2, e3, e4⟩ := (h.kept hw hk).append hk.wf (xs := [x]) (by intro y hy; rw [List.mem_singleton.1 hy]; exact hx)
 have hflat : flat [x] = x := by simp [flat]
 rw [hflat] at e1
 refine ⟨a, cap, v', H', b', rfl, e1, e2, hk.chg.trans e3, fun g hg => ?_⟩
 rcases e4 with h4 | ⟨h4, _⟩
 ·exact .inl (by rw [← h4, hg])
 ·rw [h4] at hg; injection hg with hg
  have := hk.next
  exact .inr (by omega)
theorem Buf.set {v : Value} {l : List (List Value)} {b : Option Nat} (h : Buf H s v l b) (hw : Wf H) {i : Nat} {x : List Value} (hi : i < l.length) (hx : x.length = s) :
  ∃ p H', (∀ {t e : Nat} {j : IntKind}, P.underlying t = some (.slice e) → A8b P e = some s → A4b P t v (.int j (i : Int)) = some (.pointer (some p))) ∧ H.write p x = some H' ∧ Buf H' s v (l.set i x) b ∧ Chg (fun g => b = some g) H H' ∧ H'.next = H.next := by
 cases h with
 | void a => simp at hi
 | own g k cap l vals ha h0 h1 h2 h3 h4 =>
  have hll : l.length * s ≤ vals.length := by rw [← h1]; exact Nat.mul_le_mul_right s h2
  have hle : (i + 1) * s ≤ l.length * s := Nat.mul_le_mul_right s hi
  rw [Nat.succ_mul] at hle
  obtain ⟨H', e1, e2, e3, e4⟩ := ha.write hw (i := i * s) (vs := x) (by omega)
  refine ⟨⟨g, 0 + i * s, some k⟩, H', fun hu hs => A4t hu hs hi, by rw [Nat.zero_add]; exact e1, ?_, e4.weak (fun y hy => by rw [hy]), e3⟩
  have hflat : (setCells vals (i * s) x).take (l.length * s) = flat (l.set i x) := by
   have hset : flat (l.set i x) = setCells (flat l) (i * s) x := by
    clear ha h0 h1 h2 h3 e1 e2 hll hle
    refine List.ext_getElem? fun q => ?_
    have hw' : ∀ y ∈ l.set i x, y.length = s := by
     intro y hy
     rcases List.mem_or_eq_of_mem_set hy with h | h
     ·exact h4 y h
     ·rw [h]; exact hx
    have hfl := flat_length h4
    have hfl' := flat_length hw'
    rw [List.length_set] at hfl'
    have hbound : i * s + x.length ≤ (flat l).length := by
     rw [hfl, hx]
     have : (i + 1) * s ≤ l.length * s := Nat.mul_le_mul_right s hi
     rw [Nat.succ_mul] at this; exact this
    rw [A4g x (flat l) (i * s) q hbound]
    by_cases hs0 : s = 0
    ·have hx0 : x.length = 0 := by omega
     rw [if_neg (by omega)]
     have z1 : (flat l).length = 0 := by rw [hfl, hs0, Nat.mul_zero]
     have z2 : (flat (l.set i x)).length = 0 := by rw [hfl', hs0, Nat.mul_zero]
     rw [List.getElem?_eq_none (by omega), List.getElem?_eq_none (by omega)]
    by_cases hq : q < l.length * s
    ·have hqd : q / s < l.length := (Nat.div_lt_iff_lt_mul (by omega)).2 hq
     have hmod : q % s < s := Nat.mod_lt _ (by omega)
     have hqe : q = q / s * s + q % s := by rw [Nat.mul_comm]; exact (Nat.div_add_mod q s).symm
     have part : ∀ (m : List (List Value)) (y : List Value), (∀ z ∈ m, z.length = s) → m[q / s]? = some y → (flat m)[q]? = y[q % s]? := by
      intro m y hm hy
      have := B9f hm hy
      rw [← this, List.getElem?_take, if_pos hmod, List.getElem?_drop, ← hqe]
     by_cases hqi : q / s = i
     ·have h5 : (l.set i x)[q / s]? = some x := by rw [hqi, List.getElem?_set, if_pos rfl, if_pos hi]
      rw [part _ _ hw' h5]
      have h6 : i * s ≤ q ∧ q < i * s + x.length := by rw [hx, ← hqi]; omega
      rw [if_pos h6]
      congr 1
      rw [← hqi]; omega
     ·have h5 : (l.set i x)[q / s]? = some l[q / s] := by rw [List.getElem?_set, if_neg (fun h => hqi h.symm), List.getElem?_eq_getElem hqd]
      have h6 : l[q / s]? = some l[q / s] := List.getElem?_eq_getElem hqd
      rw [part _ _ hw' h5, if_neg, part _ _ h4 h6]
      rintro ⟨h7, h8⟩
      rw [hx] at h8
      apply hqi
      exact Nat.div_eq_of_lt_le (by omega) (by rw [Nat.succ_mul]; omega)
    ·rw [if_neg (by omega), List.getElem?_eq_none (by omega), List.getElem?_eq_none (by omega)]
   rw [hset, ← h3]
   refine List.ext_getElem? fun q => ?_
   rw [List.getElem?_take, A4g x vals (i * s) q (by omega), A4g x (vals.take (l.length * s)) (i * s) q (by rw [List.length_take]; omega), List.getElem?_take]
   by_cases hq : q < l.length * s
   ·rw [if_pos hq, if_pos hq]
   ·rw [if_neg hq, if_neg hq, if_neg (by omega)]
  have := Buf.own (H := H') (s := s) g k cap (l.set i x) _ e2 h0 (by rw [A7f]; exact h1) (by simpa using h2) (by rw [List.length_set]; exact hflat) (fun y hy => by
   rcases List.mem_or_eq_of_mem_set hy with h | h
   ·exact h4 y h
   ·rw [h]; exact hx)
  rw [List.length_set] at this
  exact this
end
structure Jag (H : AH) (v : Value) (ot : Option Nat) (s : Nat) (vals : List Value) (rows : List (List (List Value))) (obs : List (Option Nat)) : Prop where
 top : Buf H 1 v (vals.map fun x => [x]) ot
 len1 : vals.length = rows.length
 len2 : obs.length = rows.length
 row : ∀ (i : Nat) v r o, vals[i]? = some v → rows[i]? = some r → obs[i]? = some o → Buf H s v r o
 far : ∀ (i g : Nat), ot = some g → obs[i]? ≠ some (some g)
 apart : ∀ (i j : Nat) o, i ≠ j → obs[i]? = some (some o) → obs[j]? ≠ some (some o)
def JIn (ot : Option Nat) (obs : List (Option Nat)) (y : Nat) : Prop := ot = some y ∨ ∃ i : Nat, obs[i]? = some (some y)
section
variable {H : AH} {s : Nat} {v : Value} {ot : Option Nat} {vals : List Value} {rows : List (List (List Value))} {obs : List (Option Nat)}
theorem Jag.keep {H' : AH} (h : Jag H v ot s vals rows obs) (hs : ∀ y, JIn ot obs y → H'.objs.get y = H.objs.get y) : Jag H' v ot s vals rows obs :=
 ⟨h.top.keep fun g hg => hs g (.inl hg), h.len1, h.len2, fun i v r o h1 h2 h3 => (h.row i v r o h1 h2 h3).keep fun y hy => hs y (.inr ⟨i, by rw [h3, hy]⟩), h.far, h.apart⟩
theorem Jag.lt (h : Jag H v ot s vals rows obs) (hw : Wf H) : ∀ y, JIn ot obs y → y < H.next := by
 rintro y (hy | ⟨i, hi⟩)
 ·exact h.top.lt hw y hy
 ·have hlt := (List.getElem?_eq_some_iff.1 hi).1
  have hv : vals[i]? = some (vals[i]'(by rw [h.len1, ← h.len2]; exact hlt)) := List.getElem?_eq_getElem _
  have hr : rows[i]? = some (rows[i]'(by rw [← h.len2]; exact hlt)) := List.getElem?_eq_getElem _
  exact (h.row i _ _ _ hv hr hi).lt hw y rfl
theorem Jag.chg {X : Nat → Prop} {H' : AH} (h : Jag H v ot s vals rows obs) (hw : Wf H) (hc : Chg X H H') (hx : ∀ y, JIn ot obs y → ¬X y) : Jag H' v ot s vals rows obs :=
 h.keep fun y hy => hc.old y (h.lt hw y hy) (hx y hy)
theorem Jag.kept {H' : AH} (h : Jag H v ot s vals rows obs) (hw : Wf H) (hk : Kept H H') : Jag H' v ot s vals rows obs := h.keep fun y hy => hk.old y (h.lt hw y hy)
theorem Jag.val (h : Jag H v ot s vals rows obs) {i : Nat} {r : List (List Value)} (hr : rows[i]? = some r) : ∃ w o, vals[i]? = some w ∧ obs[i]? = some o ∧ Buf H s w r o := by
 have hlt := (List.getElem?_eq_some_iff.1 hr).1
 have hv : vals[i]? = some (vals[i]'(by rw [h.len1]; exact hlt)) := List.getElem?_eq_getElem _
 have ho : obs[i]? = some (obs[i]'(by rw [h.len2]; exact hlt)) := List.getElem?_eq_getElem _
 exact ⟨_, _, hv, ho, h.row i _ _ _ hv hr ho⟩
theorem Jag.push {P : Program} (h : Jag H v ot s vals rows obs) (hw : Wf H) {i : Nat} {r : List (List Value)} {x : List Value} (hr : rows[i]? = some r) (hx : x.length = s) :
  ∃ w a cap w' H2 H3 o' p, vals[i]? = some w ∧ w = .slice a r.length cap ∧ A1e s a r.length cap 1 x (H.new s x).2 = some (w', H2) ∧ (∀ {t e : Nat} {j : IntKind}, P.underlying t = some (.slice e) → A8b P e = some 1 → A4b P t v (.int j (i : Int)) = some (.pointer (some p))) ∧
   H2.write p [w'] = some H3 ∧ Jag H3 v ot s (vals.set i w') (rows.set i (r ++ [x])) (obs.set i o') ∧ Chg (JIn ot obs) H H3 ∧ Chg (JIn ot obs) H H2 ∧ isCell w' = true ∧ (∀ y, JIn ot (obs.set i o') y → JIn ot obs y ∨ H.next ≤ y) := by
 obtain ⟨w, o, hv, ho, hb⟩ := h.val hr
 have hil := (List.getElem?_eq_some_iff.1 hr).1
 obtain ⟨a, cap, w', H2, o', rfl, e1, e2, e3, e4⟩ := hb.push hw hx
 have hog : ∀ g, ot = some g → o ≠ some g := fun g hg hh => h.far i g hg (by rw [ho, hh])
 have ht2 : Buf H2 1 v (vals.map fun x => [x]) ot := h.top.chg hw e3 fun g hg hh => hog g hg hh
 obtain ⟨p, H3, f0, f1, f2, f3, f4⟩ := ht2.set (P := P) e3.wf (i := i) (x := [w']) (by simp [h.len1]; exact hil) rfl
 have hc2 : Chg (JIn ot obs) H H2 := e3.weak fun y hy => .inr ⟨i, by rw [ho, hy]⟩
 have hc3 : Chg (JIn ot obs) H H3 := hc2.trans (f3.weak fun y hy => .inl hy)
 have hng : ∀ g, ot = some g → o' ≠ some g := by
  intro g hg hh
  rcases e4 g hh with h4 | h4
  ·exact hog g hg h4
  ·have := h.top.lt hw g hg
   omega
 have hin : ∀ y, JIn ot (obs.set i o') y → JIn ot obs y ∨ H.next ≤ y := by
  rintro y (hy | ⟨j, hj⟩)
  ·exact .inl (.inl hy)
  ·rw [List.getElem?_set] at hj
   split at hj
   ·rename_i hij
    split at hj
    ·injection hj with hj
     rcases e4 y hj with h4 | h4
     ·exact .inl (.inr ⟨i, by rw [ho, h4]⟩)
     ·exact .inr h4
    ·cases hj
   ·exact .inl (.inr ⟨j, hj⟩)
 refine ⟨_, a, cap, w', H2, H3, o', p, hv, rfl, e1, f0, f1, ⟨?_, by simp [h.len1], by simp [h.len2], fun j w q z h1 h2 h3 => ?_, fun j g hg hj => ?_, fun j j' z hjj h1 h2 => ?_⟩, hc3, hc2, e2.isCell, hin⟩
 ·rw [List.map_set]; exact f2
 ·have hil1 : i < vals.length := by rw [h.len1]; exact hil
  have hil2 : i < obs.length := by rw [h.len2]; exact hil
  rw [List.getElem?_set] at h1 h2 h3
  by_cases hij : i = j
  ·subst hij
   rw [if_pos rfl, if_pos hil1] at h1
   rw [if_pos rfl, if_pos hil] at h2
   rw [if_pos rfl, if_pos hil2] at h3
   injection h1 with h1; injection h2 with h2; injection h3 with h3
   subst h1 h2 h3
   exact e2.chg e3.wf f3 fun y hy hyg => hng y hyg hy
  ·rw [if_neg hij] at h1 h2 h3
   have hbj := h.row j w q z h1 h2 h3
   refine (hbj.chg hw e3 fun y hy hyo => ?_).chg e3.wf f3 fun y hy hyg => ?_
   ·exact h.apart i j y hij (by rw [ho, hyo]) (by rw [h3, hy])
   ·exact h.far j y hyg (by rw [h3, hy])
 ·rw [List.getElem?_set] at hj
  split at hj
  ·split at hj
   ·injection hj with hj; exact hng g hg hj
   ·cases hj
  ·exact h.far j g hg hj
 ·have hnew : ∀ (m : Nat) z, m ≠ i → obs[m]? = some (some z) → o' ≠ some z := by
    rintro m z hm hmz hz
    rcases e4 z hz with h4 | h4
    · exact h.apart i m z (fun h => hm h.symm) (by rw [ho, h4]) hmz
    · have := h.lt hw z (.inr ⟨m, hmz⟩)
      omega
  rw [List.getElem?_set] at h1 h2
  by_cases hij : i = j
  · rw [if_pos hij] at h1
    split at h1
    · injection h1 with h1
      rw [if_neg (by omega)] at h2
      exact hnew j' z (by omega) h2 h1
    · cases h1
  · rw [if_neg hij] at h1
    by_cases hij' : i = j'
    · rw [if_pos hij'] at h2
      split at h2
      · injection h2 with h2
        exact hnew j z (by omega) h1 h2
      · cases h2
    · rw [if_neg hij'] at h2
      exact h.apart j j' z hjj h1 h2
theorem Jag.read (h : Jag H v ot s vals rows obs) : JagR H v s rows vals := by
 refine ⟨h.top.toSl, h.len1, fun i w r h1 h2 => ?_⟩
 have hil := (List.getElem?_eq_some_iff.1 h2).1
 have ho : obs[i]? = some (obs[i]'(by rw [h.len2]; exact hil)) := List.getElem?_eq_getElem _
 exact (h.row i w r _ h1 h2 ho).toSl
theorem Jag.make (hw : Wf H) (s : Nat) {n : Nat} (hn : n ≤ 1073741824) : Jag (H.new 1 (List.replicate n (.slice none 0 0))).2 (.slice (some ⟨H.next, 0, some 0⟩) n n) (if n = 0 then none else some H.next) s (List.replicate n (.slice none 0 0)) (List.replicate n []) (List.replicate n none) := by
 refine ⟨by simpa using Buf.fill hw (.slice none 0 0) hn, by simp, by simp, fun i v r o h1 h2 h3 => ?_, fun i g _ h => ?_, fun i j o _ h => ?_⟩
 ·rw [List.getElem?_replicate] at h1 h2 h3
  split at h1
  ·rw [if_pos (by assumption)] at h2 h3
   injection h1 with h1; injection h2 with h2; injection h3 with h3
   subst h1 h2 h3
   exact .void none
  ·cases h1
 ·rw [List.getElem?_replicate] at h
  split at h <;> cases h
 ·rw [List.getElem?_replicate] at h
  split at h <;> cases h
end
def A7o (l : List ByteArray) (x : ByteArray) : Int := match l.findIdx? (fun y => decide (y = x)) with
 | some i => (i : Int)
 | none => -1
theorem A45 {l : List ByteArray} {x : ByteArray} (h : x ∉ l) : A7o l x = -1 := by
 unfold A7o
 have : l.findIdx? (fun y => decide (y = x)) = none := by
  rw [List.findIdx?_eq_none_iff]
  intro y hy
  simp only [decide_eq_false_iff_not]
  rintro rfl
  exact h hy
 rw [this]
theorem A7u {l : List ByteArray} {x : ByteArray} {k : Nat} (ha : Asc l) (h : l[k]? = some x) : A7o l x = (k : Int) := by
 unfold A7o
 have : l.findIdx? (fun y => decide (y = x)) = some k := by
  rw [List.findIdx?_eq_some_iff_getElem]
  obtain ⟨hk, e⟩ := List.getElem?_eq_some_iff.1 h
  refine ⟨hk, by simpa using e, fun j hj => ?_⟩
  simp only [decide_eq_true_eq]
  intro hjx
  have h2 := ha j k _ _ hj (List.getElem?_eq_getElem (by omega)) h
  rw [hjx, A4j] at h2; cases h2
 rw [this]
end Go.Proofs.Sh
/- Open regions with effects in place: what is read ahead of an effect and does not come before it is shown to be the same behind it. -/
namespace Go.Proofs.Sh
open Go
def C0t : Operand → List Nat
 | .tmp t => [t]
 | _ => []
def B3w (ops : List Oper) (j : Nat) : List Nat := match (ops[j]?).bind (·.dst) with
 | some t => [t]
 | none => []
def B8p (ops : List Oper) (o : Oper) : List Nat := o.op.operands.toList.flatMap C0t ++ (match o.dst with | some t => [t] | none => []) ++ (match o.guard with | some (j, _) => B3w ops j | none => [])
def A25 (ops : List Oper) (o : Oper) : List Nat := o.op.operands.toList.flatMap C0t ++ (match o.guard with | some (j, _) => B3w ops j | none => [])
def B0b (ops : List Oper) (ts l : List Nat) : Bool := l.all fun k => (B3w ops k).all fun d => !ts.contains d
def B18 (ops : List Oper) : List Nat → Bool
 | [] => true
 | i :: l => (match ops[i]? with
  | some o => bif isRead o && !isEff o then o.dst.isSome && ((match o.dst with | some t => !(A25 ops o).contains t | none => true) && B0b ops (B8p ops o) l) else true
  | none => false) && B18 ops l
def B3n (ops : List Oper) (bs : List Nat) : List Nat → List Nat → List (Nat × List Nat)
 | [], _ => []
 | i :: l, pb => match ops[i]? with
  | none => []
  | some o => bif isEff o then (i, pb.filter fun k => !((bs[i]?).getD 0).testBit k) :: B3n ops bs l (bif o.guard.isSome then pb else pb.filter fun k => !((bs[i]?).getD 0).testBit k)
      else bif A5e o || isRead o then (i, []) :: B3n ops bs l (i :: pb) else (i, []) :: B3n ops bs l pb
def orderR (ops : List Oper) : List (Nat × List Nat) := B3n ops (A6j ops) (A90 ops (A6j ops)) []
def again (P : Program) (O : A4d) (all : List Oper) : List Nat → Fr → AH → Prop
 | [], _, _ => True
 | i :: is, F, H => (match all[i]? with
     | some o => A5e o = false ∧ wpo P O all [o] (fun F2 _ => match o.dst with
       | some t => F2.get t = F.get t ∧ ∀ v, F.get t = some v → veq v v = true
       | none => False) F H
     | none => False) ∧ again P O all is F H
def wpr (P : Program) (O : A4d) (all : List Oper) : List (Nat × List Nat) → (Fr → AH → Prop) → Fr → AH → Prop
 | [], K, F, H => K F H
 | (i, fl) :: l, K, F, H => match all[i]? with
  | some o => wpo P O all [o] (fun F' H' => again P O all fl F' H' ∧ wpr P O all l K F' H') F H
  | none => False
section
variable {P : Program}
def Val (P : Program) (all : List Oper) (H : AH) : Pend → Prop
 | .read i F v => ∃ o, all[i]? = some o ∧ ∃ v' H', (∀ c, aop P c F H o = some (v', H')) ∧ veq v v' = true
 | .made i g x => ∃ y, H.objs.get g = some y ∧ B7a x y = true
theorem A0w {c : A4d} {all : List Oper} {H : AH} {b : Nat} : ∀ {ps : List Pend}, (∀ p ∈ ps, b.testBit p.at_ = false → Val P all H p) → A5h P c all H b ps = some (ps.filter fun p => !b.testBit p.at_)
 | [], _ => rfl
 | .read i F v :: ps, h => by
  have h1 := A0w (c := c) (b := b) (ps := ps) fun p hp => h p (List.mem_cons_of_mem _ hp)
  cases hb : b.testBit i with
  | true => simp only [A5h, hb, cond_true, h1, List.filter_cons, Pend.at_, Bool.not_true, if_false, Bool.false_eq_true]
  | false =>
   obtain ⟨o, k1, v', H', k4, k5⟩ := h _ List.mem_cons_self hb
   simp only [A5h, hb, k1, k4, k5, cond_true, cond_false, h1, Option.map_some, List.filter_cons, Pend.at_, Bool.not_false, if_true]
 | .made i g x :: ps, h => by
  have h1 := A0w (c := c) (b := b) (ps := ps) fun p hp => h p (List.mem_cons_of_mem _ hp)
  cases hb : b.testBit i with
  | true => simp only [A5h, hb, cond_true, h1, List.filter_cons, Pend.at_, Bool.not_true, if_false, Bool.false_eq_true]
  | false =>
   obtain ⟨y, k1, k2⟩ := h _ List.mem_cons_self hb
   simp only [A5h, hb, k1, k2, cond_true, cond_false, h1, Option.map_some, List.filter_cons, Pend.at_, Bool.not_false, if_true]
def Live (all : List Oper) (G : Fr) (l : List Nat) : Pend → Prop
 | .read i F v => ∃ o t, all[i]? = some o ∧ isEff o = false ∧ o.dst = some t ∧ G.get t = some v ∧ A1m all G o = some true ∧ (∀ x ∈ o.op.operands.toList, ev F x = ev G x) ∧ B0b all (B8p all o) l = true
 | .made i _ _ => ∃ o, all[i]? = some o ∧ A5e o = true
theorem C3p {F : Fr} {d : Option Nat} {v : Value} {x : Operand} (h : ∀ t, d = some t → t ∉ C0t x) : ev (put F d v) x = ev F x := by
 cases d with
 | none => rfl
 | some t =>
  have := h t rfl
  cases x with
  | tmp u =>
   simp only [C0t, List.mem_singleton] at this
   exact A0z F (fun e => this e.symm) v
  | _ => rfl
theorem get_put {F : Fr} {d : Option Nat} {v : Value} {u : Nat} (h : ∀ t, d = some t → u ≠ t) : (put F d v).get u = F.get u := by
 cases d with
 | none => rfl
 | some t => exact A0z F (h t rfl) v
theorem Live.put {all : List Oper} {G : Fr} {l : List Nat} {i : Nat} {o : Oper} {v : Value} (ho : all[i]? = some o) : ∀ {p : Pend}, Live all G (i :: l) p → Live all (put G o.dst v) l p
 | .made _ _ _, h => h
 | .read k F w, ⟨o', t, h1, h2, h3, h4, h5, h6, h7⟩ => by
  unfold B0b at h7
  rw [List.all_cons, Bool.and_eq_true] at h7
  have hd : ∀ d, o.dst = some d → d ∉ B8p all o' := by
   intro d hd
   have := h7.1
   unfold B3w at this
   rw [ho, Option.bind_some, hd] at this
   simpa using this
  have hm : ∀ d, o.dst = some d → d ∉ o'.op.operands.toList.flatMap C0t ∧ d ≠ t ∧ ∀ j w, o'.guard = some (j, w) → d ∉ B3w all j := by
   intro d hdd
   have := hd d hdd
   unfold B8p at this
   rw [List.mem_append, List.mem_append, h3] at this
   refine ⟨fun h => this (.inl (.inl h)), fun h => this (.inl (.inr (by simp [h]))), fun j w hj h => this (.inr (by rw [hj]; exact h))⟩
  refine ⟨o', t, h1, h2, h3, ?_, ?_, fun x hx => ?_, h7.2⟩
  ·rw [get_put fun d hdd => (hm d hdd).2.1.symm]; exact h4
  ·unfold A1m at h5 ⊢
   cases hg : o'.guard with
   | none => rfl
   | some q =>
    obtain ⟨j, w⟩ := q
    rw [hg] at h5
    simp only at h5 ⊢
    cases hj : (all[j]?).bind (·.dst) with
    | none => rw [hj] at h5; cases h5
    | some u =>
     rw [hj] at h5
     simp only [Option.bind_some] at h5 ⊢
     rw [get_put fun d hdd e => (hm d hdd).2.2 j w hg (by unfold B3w; rw [hj]; simp [e])]
     exact h5
  ·rw [h6 x hx]
   exact (C3p fun d hdd hin => (hm d hdd).1 (List.mem_flatMap.2 ⟨x, hx, hin⟩)).symm
theorem B4y {O : A4d} {all : List Oper} {l : List Nat} {F : Fr} {H : AH} {is : List Nat} (h : again P O all is F H) (p : Pend) (hp : Live all F l p) (hin : p.at_ ∈ is) : Val P all H p := by
 induction is with
 | nil => cases hin
 | cons i is ih =>
  obtain ⟨h1, h2⟩ := h
  rcases List.mem_cons.1 hin with e | hin
  ·cases p with
   | made k g x =>
    obtain ⟨o, k1, k2⟩ := hp
    simp only [Pend.at_] at e
    subst e
    rw [k1] at h1
    rw [h1.1] at k2; cases k2
   | read k G w =>
    obtain ⟨o, t, k1, k2, k3, k4, k5, k6, k7⟩ := hp
    simp only [Pend.at_] at e
    subst e
    rw [k1] at h1
    obtain ⟨_, h1⟩ := h1
    rw [A2v] at h1
    obtain ⟨b, m1, m2, _⟩ := h1
    rw [k5] at m1
    injection m1 with m1
    obtain ⟨v', H', ⟨n, hn⟩, m3⟩ := m2 m1.symm
    rw [A9w, k3] at m3
    simp only [A10] at m3
    obtain ⟨m3, m4⟩ := m3
    rw [k4] at m3 m4
    injection m3 with m3
    refine ⟨o, k1, v', H', fun c => ?_, by rw [m3]; exact m4 w rfl⟩
    rw [B30 k6, ← hn]
    exact B7n k2
  ·exact ih h2 hin
theorem A8n {O : A4d} {all : List Oper} {bs : List Nat} {K : Fr → AH → Prop} : ∀ (l pb : List Nat) (ps : List Pend) (F : Fr) (H : AH), (∀ p ∈ ps, p.at_ ∈ pb ∧ Live all F l p) → wpr P O all (B3n all bs l pb) K F H →
  (∀ i ∈ l, i < all.length) → B18 all l = true → wpd P O all bs l ps K F H
 | [], pb, ps, F, H, _, h, _, _ => ⟨0, F, H, rfl, h⟩
 | i :: l, pb, ps, F, H, hc, h, hl, hsep => by
  have hi := hl i List.mem_cons_self
  have hl' : ∀ i ∈ l, i < all.length := fun j hj => hl j (List.mem_cons_of_mem _ hj)
  have ho : all[i]? = some all[i] := List.getElem?_eq_getElem hi
  generalize all[i] = o at ho
  simp only [B3n, ho] at h
  simp only [B18, ho, Bool.and_eq_true] at hsep
  obtain ⟨hsep0, hsep⟩ := hsep
  have go : ∀ (fl : List Nat) (rest : List (Nat × List Nat)), wpr P O all ((i, fl) :: rest) K F H → ∃ b, A1m all F o = some b ∧
      (b = true → ∃ v H1, OpTo P O F H o v H1 ∧ again P O all fl (put F o.dst v) H1 ∧ wpr P O all rest K (put F o.dst v) H1) ∧
      (b = false → wpr P O all rest K (put F o.dst undef) H) := by
    intro fl rest hh
    simp only [wpr, ho] at hh
    rw [A2v] at hh
    obtain ⟨b, h1, h2, h3⟩ := hh
    refine ⟨b, h1, fun hb => ?_, fun hb => ?_⟩
    · obtain ⟨v, H1, h4, h5⟩ := h2 hb
      rw [A9w] at h5
      exact ⟨v, H1, h4, h5⟩
    · have := h3 hb
      rw [A9w] at this
      exact this.2
  have skip : ∀ {F1 : Fr} {H1 : AH}, A1m all F o = some false → F1 = put F o.dst undef → H1 = H → wpd P O all bs l ps K F1 H1 → wpd P O all bs (i :: l) ps K F H := by
   rintro F1 H1 hw rfl rfl ⟨n, F2, H2, h1, h2⟩
   refine ⟨n, F2, H2, ?_, h2⟩
   simp only [A7e, ho, hw]
   exact h1
  have step : ∀ (v : Value) (pb' : List Nat), (∀ k ∈ pb, k ∈ pb') → ∀ p ∈ ps, p.at_ ∈ pb' ∧ Live all (put F o.dst v) l p := fun v pb' hb p hp => ⟨hb _ (hc p hp).1, (hc p hp).2.put ho⟩
  cases hE : isEff o with
  | true =>
   rw [hE] at h
   simp only [cond_true] at h
   obtain ⟨b, hw, ht, hf⟩ := go _ _ h
   cases b with
   | false =>
    have hg : o.guard.isSome = true := by
     unfold A1m at hw
     cases hgd : o.guard with
     | none => rw [hgd] at hw; cases hw
     | some x => rfl
    have hf := hf rfl
    rw [hg] at hf
    exact skip hw rfl rfl (A8n l _ ps _ _ (step _ _ fun k hk => by simpa using hk) hf hl' hsep)
   | true =>
    obtain ⟨v, H1, ⟨n, hn⟩, hh, hrest⟩ := ht rfl
    have hval : ∀ p ∈ ps, ((bs[i]?).getD 0).testBit p.at_ = false → Val P all H1 p := by
     intro p hp hb
     obtain ⟨q1, q2⟩ := step v pb (fun _ h => h) p hp
     exact B4y hh p q2 (List.mem_filter.2 ⟨q1, by rw [hb]; rfl⟩)
    obtain ⟨m, F2, H2, h1, h2⟩ := A8n l _ (ps.filter fun p => !((bs[i]?).getD 0).testBit p.at_) _ _ (fun p hp => by
     obtain ⟨k1, k2⟩ := List.mem_filter.1 hp
     obtain ⟨q1, q2⟩ := step v pb (fun _ h => h) p k1
     refine ⟨?_, q2⟩
     cases o.guard.isSome with
     | true => exact q1
     | false => exact List.mem_filter.2 ⟨q1, k2⟩) hrest hl' hsep
    refine ⟨n + m, F2, H2, ?_, h2⟩
    simp only [A7e, ho, hw, A1i (A6c (Nat.le_add_right n m)) hn, hE, cond_true, A0w hval]
    exact A5d (A6c (Nat.le_add_left m n)) h1
  | false =>
   rw [hE] at h
   simp only [cond_false] at h
   cases hM : A5e o with
   | true =>
    rw [hM] at h
    simp only [Bool.true_or, cond_true] at h
    obtain ⟨b, hw, ht, hf⟩ := go _ _ h
    cases b with
    | false => exact skip hw rfl rfl (A8n l _ ps _ _ (step _ _ fun k hk => List.mem_cons_of_mem _ hk) (hf rfl) hl' hsep)
    | true =>
     obtain ⟨v, H1, ⟨n, hn⟩, _, hrest⟩ := ht rfl
     obtain ⟨x, hx⟩ := A9k hM hn
     have hxg : H1.objs.get H.next = some x := by rw [hx]; exact A2q H x
     obtain ⟨m, F2, H2, h1, h2⟩ := A8n l (i :: pb) (.made i H.next x :: ps) _ _ (fun p hp => by
      rcases List.mem_cons.1 hp with rfl | hp
      ·exact ⟨List.mem_cons_self, o, ho, hM⟩
      ·exact step v _ (fun k hk => List.mem_cons_of_mem _ hk) p hp) hrest hl' hsep
     refine ⟨n + m, F2, H2, ?_, h2⟩
     simp only [A7e, ho, hw, A1i (A6c (Nat.le_add_right n m)) hn, hE, cond_false, hM, cond_true, hxg]
     exact A5d (A6c (Nat.le_add_left m n)) h1
   | false =>
    rw [hM] at h
    simp only [Bool.false_or] at h
    have hsame : ∀ {v : Value} {H1 : AH} {n : Nat}, aop P (call P O n) F H o = some (v, H1) → H1 = H := fun hn => (A2n (HGrow.refl H) hE hM hn).2
    cases hR : isRead o with
    | true =>
     rw [hR] at h hsep0
     simp only [cond_true] at h
     simp only [hE, Bool.not_false, Bool.and_self, cond_true, Bool.and_eq_true] at hsep0
     obtain ⟨b, hw, ht, hf⟩ := go _ _ h
     cases b with
     | false => exact skip hw rfl rfl (A8n l _ ps _ _ (step _ _ fun k hk => List.mem_cons_of_mem _ hk) (hf rfl) hl' hsep)
     | true =>
      obtain ⟨v, H1, ⟨n, hn⟩, _, hrest⟩ := ht rfl
      have := hsame hn
      subst this
      obtain ⟨t, hd⟩ := Option.isSome_iff_exists.1 hsep0.1
      have hw' : A1m all (put F o.dst v) o = some true := by
       unfold A1m at hw ⊢
       cases hg : o.guard with
       | none => rfl
       | some q =>
        obtain ⟨j, w⟩ := q
        rw [hg] at hw
        simp only at hw ⊢
        cases hj : (all[j]?).bind (·.dst) with
        | none => rw [hj] at hw; cases hw
        | some u =>
         rw [hj] at hw
         simp only [Option.bind_some] at hw ⊢
         have hself := hsep0.2.1
         rw [hd] at hself ⊢
         rw [get_put fun d hdd e => by
          injection hdd with hdd
          subst hdd e
          have : u ∈ A25 all o := List.mem_append.2 (.inr (by simp [hg, B3w, hj]))
          simp [this] at hself]
         exact hw
      have hev : ∀ x ∈ o.op.operands.toList, ev F x = ev (put F o.dst v) x := by
       intro x hx
       refine (C3p fun d hdd hin => ?_).symm
       have hself := hsep0.2.1
       rw [hdd] at hself
       have : d ∈ A25 all o := List.mem_append.2 (.inl (List.mem_flatMap.2 ⟨x, hx, hin⟩))
       simp [this] at hself
      obtain ⟨m, F2, H2, h1, h2⟩ := A8n l (i :: pb) (.read i F v :: ps) _ _ (fun p hp => by
       rcases List.mem_cons.1 hp with rfl | hp
       ·exact ⟨List.mem_cons_self, o, t, ho, hE, hd, by rw [hd, A10], hw', hev, hsep0.2.2⟩
       ·exact step v _ (fun k hk => List.mem_cons_of_mem _ hk) p hp) hrest hl' hsep
      refine ⟨n + m, F2, H2, ?_, h2⟩
      simp only [A7e, ho, hw, A1i (A6c (Nat.le_add_right n m)) hn, hE, cond_false, hM, hR, cond_true]
      exact A5d (A6c (Nat.le_add_left m n)) h1
    | false =>
     rw [hR] at h
     simp only [cond_false] at h
     obtain ⟨b, hw, ht, hf⟩ := go _ _ h
     cases b with
     | false => exact skip hw rfl rfl (A8n l _ ps _ _ (step _ _ fun k hk => hk) (hf rfl) hl' hsep)
     | true =>
      obtain ⟨v, H1, ⟨n, hn⟩, _, hrest⟩ := ht rfl
      have := hsame hn
      subst this
      obtain ⟨m, F2, H2, h1, h2⟩ := A8n l pb ps _ _ (step v _ fun k hk => hk) hrest hl' hsep
      refine ⟨n + m, F2, H2, ?_, h2⟩
      simp only [A7e, ho, hw, A1i (A6c (Nat.le_add_right n m)) hn, hE, cond_false, hM, hR]
      exact A5d (A6c (Nat.le_add_left m n)) h1
end
variable {P : Program} {O : A4d} {S : List Item} {Q : Fr → AH → Prop} {F : Fr} {H : AH}
theorem A6v {id : Nat} {ops : Array Oper} {fl : List (Nat × List Nat)} (hf : orderR ops.toList = fl) (hb : ((A90 ops.toList (A6j ops.toList)).all fun i => Nat.blt i ops.toList.length) = true) (hs : B18 ops.toList (A90 ops.toList (A6j ops.toList)) = true) (h : wpr P O ops.toList fl (wp P O S Q) F H) : wp P O (.code (.region id ops true) :: S) Q F H := by
 rw [B44]
 subst hf
 refine A8n _ [] [] F H (fun p hp => by cases hp) h (fun i hi => ?_) hs
 have := List.all_eq_true.1 hb i hi
 rw [A3i] at this
 exact of_decide_eq_true this
end Go.Proofs.Sh
/- Automata without a program: what is reached, what is marked, what a word leads to. -/
namespace Go.Proofs.Sh
open Go
theorem Jag.pushAt {P : Program} {t e : Nat} {H : AH} {s : Nat} {v : Value} {ot : Option Nat} {vals : List Value} {rows : List (List (List Value))} {obs : List (Option Nat)} (hu : P.underlying t = some (.slice e)) (hs : A8b P e = some 1)
  (h : Jag H v ot s vals rows obs) (hw : Wf H) {i : Nat} {r : List (List Value)} {x : List Value} (hr : rows[i]? = some r) (hx : x.length = s) :
  ∃ a cap w' H2 H3 o' p, A1e s a r.length cap 1 x (H.new s x).2 = some (w', H2) ∧ A4b P t v (.int .i64 (i : Int)) = some (.pointer (some p)) ∧ H.cell p = some (.slice a r.length cap) ∧ H2.write p [w'] = some H3 ∧
   Jag H3 v ot s (vals.set i w') (rows.set i (r ++ [x])) (obs.set i o') ∧ Chg (JIn ot obs) H H3 ∧ Chg (JIn ot obs) H H2 ∧ isCell w' = true ∧ (∀ y, JIn ot (obs.set i o') y → JIn ot obs y ∨ H.next ≤ y) := by
 obtain ⟨w, a, cap, w', H2, H3, o', p, h1, h2, h3, h4, h5, h6, h7, h8, h9, h10⟩ := h.push (P := P) hw hr hx
 subst h2
 refine ⟨a, cap, w', H2, H3, o', p, h3, h4 hu hs, ?_, h5, h6, h7, h8, h9, h10⟩
 obtain ⟨q, o, k, hia, hcs, hcc⟩ := h.top.toSl.at hu hs (i := i) (x := [.slice a r.length cap]) (by simp [h1]) .i64
 have hy := hcc 0 _ rfl
 rw [h4 hu hs] at hia
 injection hia with hia; injection hia with hia; injection hia with hia
 subst hia
 simpa using hy
theorem A9q {P : Program} {t : Nat} {fs : Array Field} {z : Value} {pl : List (Nat × Nat)} {ps : List (Nat × Value)} {l : List Value} (hu : P.underlying t = some (.struct fs)) (hz : zeroAt P t = some z) (hp : placesOf P fs.toList = some pl) (hf : A62 (fun i => pl[i]?) (A6a z) ps = some l) :
  A6t P t ps = some (.agg l.toArray) := by
 unfold A6t
 rw [hz, hu]
 simp only [Option.bind_some]
 rw [hp]
 simp only [Option.bind_some, hf, Option.map_some]
inductive Clo (R : Nat → Nat → Prop) (S : Nat → Prop) : Nat → Prop
 | base {s : Nat} : S s → Clo R S s
 | step {s t : Nat} : Clo R S s → R s t → Clo R S t
theorem Clo.of {R : Nat → Nat → Prop} {S Q : Nat → Prop} (h1 : ∀ s, S s → Q s) (h2 : ∀ s t, Q s → R s t → Q t) {t : Nat} (h : Clo R S t) : Q t := by
 induction h with
 | base h => exact h1 _ h
 | step _ hr ih => exact h2 _ _ ih hr
theorem Clo.iff {R : Nat → Nat → Prop} {S : Nat → Prop} {l : List Nat} (h0 : ∀ s, S s → s ∈ l) (h1 : ∀ s ∈ l, Clo R S s) (h2 : ∀ s ∈ l, ∀ t, R s t → t ∈ l) (t : Nat) : t ∈ l ↔ Clo R S t :=
 ⟨h1 t, fun h => h.of h0 fun s t hs hr => h2 s hs t hr⟩
theorem A9s {n : Nat} : ∀ {l : List Nat}, l.Nodup → (∀ x ∈ l, x < n) → l.length ≤ n := by
 induction n with
 | zero =>
  intro l _ h
  cases l with
  | nil => exact Nat.le_refl _
  | cons x l => exact absurd (h x List.mem_cons_self) (Nat.not_lt_zero _)
 | succ n ih =>
  intro l hn h
  by_cases hm : n ∈ l
  ·have h1 : (l.erase n).Nodup := hn.erase n
   have h2 : ∀ x ∈ l.erase n, x < n := by
    intro x hx
    have h3 := (hn.mem_erase_iff).1 hx
    have := h x h3.2
    omega
   have := ih h1 h2
   rw [List.length_erase_of_mem hm] at this
   omega
  ·have h2 : ∀ x ∈ l, x < n := by
     intro x hx
     have := h x hx
     have : x ≠ n := fun e => hm (e ▸ hx)
     omega
   have := ih hn h2
   omega
structure Marks (n : Nat) (seen : List Bool) (out : List Nat) : Prop where
 len : seen.length = n
 nod : out.Nodup
 iff : ∀ t : Nat, seen[t]? = some true ↔ t ∈ out
theorem Marks.lt {n : Nat} {seen : List Bool} {out : List Nat} (h : Marks n seen out) {t : Nat} (ht : t ∈ out) : t < n := by
 have := (h.iff t).2 ht
 have := (List.getElem?_eq_some_iff.1 this).1
 rw [← h.len]; exact this
theorem Marks.le {n : Nat} {seen : List Bool} {out : List Nat} (h : Marks n seen out) : out.length ≤ n := A9s h.nod fun _ hx => h.lt hx
theorem Marks.empty (n : Nat) : Marks n (List.replicate n false) [] := by
 refine ⟨by simp, List.nodup_nil, fun t => ?_⟩
 rw [List.getElem?_replicate]
 split <;> simp
theorem Marks.add {n : Nat} {seen : List Bool} {out : List Nat} (h : Marks n seen out) {t : Nat} (ht : t < n) (hs : t ∉ out) : Marks n (seen.set t true) (out ++ [t]) := by
 refine ⟨by simp [h.len], ?_, fun u => ?_⟩
 ·rw [List.nodup_append]
  refine ⟨h.nod, by simp, fun a ha b hb => ?_⟩
  rw [List.mem_singleton] at hb
  rintro rfl
  exact hs (hb ▸ ha)
 ·rw [List.getElem?_set, List.mem_append, List.mem_singleton, h.len]
  by_cases hu : t = u
  ·subst hu; simp [ht]
  ·rw [if_neg hu, h.iff u]
   constructor
   ·exact fun h => .inl h
   ·rintro (h | h)
    ·exact h
    ·exact absurd h.symm hu
theorem Marks.not {n : Nat} {seen : List Bool} {out : List Nat} (h : Marks n seen out) {t : Nat} (ht : t < n) : ∃ b, seen[t]? = some b ∧ (b = true ↔ t ∈ out) := by
 have hl : t < seen.length := by rw [h.len]; exact ht
 refine ⟨seen[t], List.getElem?_eq_getElem hl, ?_⟩
 rw [← h.iff t, List.getElem?_eq_getElem hl]
 simp
def RunS {L : Type} (E : Nat → Nat → Prop) (A : L → Nat → Nat → Prop) : (Nat → Prop) → List L → Nat → Prop
 | S, [] => S
 | S, x :: w => RunS E A (Clo E fun t => ∃ s, S s ∧ A x s t) w
theorem RunS.congr {L M : Type} {E E' : Nat → Nat → Prop} {A : L → Nat → Nat → Prop} {B : M → Nat → Nat → Prop} {f : L → M} (hE : ∀ s t, E s t ↔ E' s t) : ∀ {w : List L} {S S' : Nat → Prop}, (∀ s, S s ↔ S' s) → (∀ x ∈ w, ∀ s t, A x s t ↔ B (f x) s t) → ∀ t, RunS E A S w t ↔ RunS E' B S' (w.map f) t
 | [], S, S', hS, hA, t => hS t
 | x :: w, S, S', hS, hA, t => by
  have e : E = E' := funext fun s => funext fun t => propext (hE s t)
  subst e
  simp only [RunS, List.map_cons]
  refine RunS.congr (fun _ _ => Iff.rfl) (fun s => ?_) (fun y hy => hA y (List.mem_cons_of_mem _ hy)) t
  have : (fun t => ∃ s, S s ∧ A x s t) = fun t => ∃ s, S' s ∧ B (f x) s t := by
   funext t
   apply propext
   constructor
   ·rintro ⟨s, h1, h2⟩; exact ⟨s, (hS s).1 h1, (hA x List.mem_cons_self s t).1 h2⟩
   ·rintro ⟨s, h1, h2⟩; exact ⟨s, (hS s).2 h1, (hA x List.mem_cons_self s t).2 h2⟩
  rw [this]
theorem RunS.none {L : Type} {E : Nat → Nat → Prop} {A : L → Nat → Nat → Prop} : ∀ {w : List L} {S : Nat → Prop}, (∀ s, ¬S s) → ∀ t, ¬RunS E A S w t
 | [], S, h, t => h t
 | x :: w, S, h, t => by
  simp only [RunS]
  refine RunS.none (fun s hs => ?_) t
  exact hs.of (Q := fun _ => False) (fun t ⟨s, h1, _⟩ => h s h1) fun _ _ h _ => h
def rowsOf {α β : Type} (key : α → Int) (f : α → β) (n : Nat) (l : List α) : List (List β) := (List.range n).map fun (s : Nat) => (l.filter fun a => decide (key a = (s : Int))).map f
theorem A9e {α β : Type} {key : α → Int} {f : α → β} {n : Nat} {l : List α} : (rowsOf key f n l).length = n := by simp [rowsOf]
theorem A1h {α β : Type} {key : α → Int} {f : α → β} {n : Nat} {l : List α} {s : Nat} (h : s < n) : (rowsOf key f n l)[s]? = some ((l.filter fun a => decide (key a = (s : Int))).map f) := by
 simp [rowsOf, h]
theorem A02 {α β : Type} {key : α → Int} {f : α → β} {n : Nat} : rowsOf key f n ([] : List α) = List.replicate n [] := by
 refine List.ext_getElem? fun i => ?_
 by_cases h : i < n
 ·rw [A1h h, List.getElem?_replicate, if_pos h]; rfl
 ·rw [List.getElem?_eq_none (by rw [A9e]; omega), List.getElem?_eq_none (by simp; omega)]
theorem A8v {α β : Type} {key : α → Int} {f : α → β} {n : Nat} {l : List α} {a : α} {s : Nat} (hs : s < n) (ha : key a = (s : Int)) :
  rowsOf key f n (l ++ [a]) = (rowsOf key f n l).set s ((l.filter fun a => decide (key a = (s : Int))).map f ++ [f a]) := by
 refine List.ext_getElem? fun i => ?_
 rw [List.getElem?_set, A9e, if_pos hs]
 by_cases h : i < n
 ·rw [A1h h, A1h h]
  by_cases hi : s = i
  ·subst hi; rw [if_pos rfl]; simp [List.filter_append, ha]
  ·rw [if_neg hi, List.filter_append, List.map_append]
   have : ¬(key a = (i : Int)) := by rw [ha]; omega
   simp [this]
 ·have h1 : s ≠ i := by omega
  rw [if_neg h1, List.getElem?_eq_none (by rw [A9e]; omega), List.getElem?_eq_none (by rw [A9e]; omega)]
theorem A2p {α β : Type} {key : α → Int} {f : α → β} {n : Nat} {l : List α} {s : Nat} {r : List β} (hr : (rowsOf key f n l)[s]? = some r) (y : β) : y ∈ r ↔ ∃ a ∈ l, key a = (s : Int) ∧ f a = y := by
 have hs := (List.getElem?_eq_some_iff.1 hr).1
 rw [A9e] at hs
 rw [A1h hs] at hr
 injection hr with hr
 subst hr
 simp only [List.mem_map, List.mem_filter, decide_eq_true_eq]
 constructor
 ·rintro ⟨a, ⟨h1, h2⟩, h3⟩; exact ⟨a, h1, h2, h3⟩
 ·rintro ⟨a, h1, h2, h3⟩; exact ⟨a, ⟨h1, h2⟩, h3⟩
theorem A4y {α β : Type} {key : α → Int} {f : α → β} {n : Nat} {l : List α} {s : Nat} {r : List β} (hr : (rowsOf key f n l)[s]? = some r) : r.length ≤ l.length := by
 have hs := (List.getElem?_eq_some_iff.1 hr).1
 rw [A9e] at hs
 rw [A1h hs] at hr
 injection hr with hr
 subst hr
 rw [List.length_map]
 exact List.length_filter_le _ _
def marksOf {α : Type} (key : α → Int) (n : Nat) (l : List α) : List Bool := (List.range n).map fun (s : Nat) => l.any fun a => decide (key a = (s : Int))
theorem A4i {α : Type} {key : α → Int} {n : Nat} {l : List α} : (marksOf key n l).length = n := by simp [marksOf]
theorem A8r {α : Type} {key : α → Int} {n : Nat} {l : List α} {s : Nat} (h : s < n) : (marksOf key n l)[s]? = some (l.any fun a => decide (key a = (s : Int))) := by
 simp [marksOf, h]
theorem B5u {α : Type} {key : α → Int} {n : Nat} : marksOf key n ([] : List α) = List.replicate n false := by
 refine List.ext_getElem? fun i => ?_
 by_cases h : i < n
 ·rw [A8r h, List.getElem?_replicate, if_pos h]; rfl
 ·rw [List.getElem?_eq_none (by rw [A4i]; omega), List.getElem?_eq_none (by simp; omega)]
theorem B0t {α : Type} {key : α → Int} {n : Nat} {l : List α} {a : α} {s : Nat} (hs : s < n) (ha : key a = (s : Int)) : marksOf key n (l ++ [a]) = (marksOf key n l).set s true := by
 refine List.ext_getElem? fun i => ?_
 rw [List.getElem?_set, A4i, if_pos hs]
 by_cases h : i < n
 ·rw [A8r h, A8r h]
  by_cases hi : s = i
  ·subst hi; rw [if_pos rfl]; simp [ha]
  ·rw [if_neg hi, List.any_append]
   have : ¬(key a = (i : Int)) := by rw [ha]; omega
   simp [this]
 ·have h1 : s ≠ i := by omega
  rw [if_neg h1, List.getElem?_eq_none (by rw [A4i]; omega), List.getElem?_eq_none (by rw [A4i]; omega)]
def leastOf : List Int → Int
 | [] => 0
 | c :: l => l.foldl (fun c x => if x < c then x else c) c
theorem B70 (l : List Int) (x : Int) : leastOf (l ++ [x]) = if l = [] ∨ x < leastOf l then x else leastOf l := by
 cases l with
 | nil => simp [leastOf]
 | cons c l => simp [leastOf, List.foldl_append]
def NetD.goes (N : NetD) (x : ByteArray) (s t : Nat) : Prop := ∃ a ∈ N.arcs, a.fr = (s : Int) ∧ a.inn = x ∧ a.to = (t : Int)
def NetD.isEnd (N : NetD) (s : Nat) : Prop := ∃ e ∈ N.ends, e.state = (s : Int)
def A9a : ByteArray := ⟨#[]⟩
def NetD.clo (N : NetD) : (Nat → Prop) → Nat → Prop := Clo (N.goes A9a)
def NetD.run (N : NetD) (w : List ByteArray) : Nat → Prop := RunS (N.goes A9a) N.goes (N.clo fun s => s = 0) w
def NetD.alive (N : NetD) : Nat → Prop := Clo (fun s t => ∃ x, N.goes x t s) N.isEnd
def A7j (N : NetD) : List (List (ByteArray × Nat)) := rowsOf ArcD.fr (fun a => (a.inn, a.to.toNat)) N.states.toNat N.arcs
def intC (n : Int) : List Value := [.int .i64 n]
structure GrB (H : AH) (base g : Nat) (sv av ev cv : Value) (os ot oe oc : Option Nat) (vals : List Value) (obs : List (Option Nat)) (sigma : List ByteArray) (rows : List (List (List Value))) (ends costs : List Int) : Prop where
 arr : Arr H g 0 4 [sv, av, ev, cv]
 sg : Buf H 1 sv (sigma.map A6b) os
 jag : Jag H av ot 4 vals rows obs
 en : Buf H 1 ev (ends.map intC) oe
 co : Buf H 1 cv (costs.map intC) oc
 fg : base ≤ g
 fs : ∀ y, os = some y → base ≤ y
 fj : ∀ y, JIn ot obs y → base ≤ y
 fe : ∀ y, oe = some y → base ≤ y
 fc : ∀ y, oc = some y → base ≤ y
 gs : os ≠ some g
 gj : ¬JIn ot obs g
 ge : oe ≠ some g
 gc : oc ≠ some g
 sj : ∀ y, os = some y → ¬JIn ot obs y
 se : ∀ y, os = some y → oe ≠ some y
 sc : ∀ y, os = some y → oc ≠ some y
 je : ∀ y, oe = some y → ¬JIn ot obs y
 jc : ∀ y, oc = some y → ¬JIn ot obs y
 ec : ∀ y, oe = some y → oc ≠ some y
def Gr (H : AH) (base g : Nat) (sigma : List ByteArray) (rows : List (List (List Value))) (ends costs : List Int) : Prop :=
 ∃ sv av ev cv os ot oe oc vals obs, GrB H base g sv av ev cv os ot oe oc vals obs sigma rows ends costs
theorem GrB.chg {H H' : AH} {base g : Nat} {sv av ev cv : Value} {os ot oe oc : Option Nat} {vals : List Value} {obs : List (Option Nat)} {sigma : List ByteArray} {rows : List (List (List Value))} {ends costs : List Int}
  (h : GrB H base g sv av ev cv os ot oe oc vals obs sigma rows ends costs) (hw : Wf H) {X : Nat → Prop} (hc : Chg X H H') (hx : ∀ y, base ≤ y → ¬X y) : GrB H' base g sv av ev cv os ot oe oc vals obs sigma rows ends costs :=
 { h with
  arr := h.arr.keep (hc.old g (h.arr.lt hw) (hx g h.fg))
  sg := h.sg.chg hw hc fun y hy => hx y (h.fs y hy)
  jag := h.jag.chg hw hc fun y hy => hx y (h.fj y hy)
  en := h.en.chg hw hc fun y hy => hx y (h.fe y hy)
  co := h.co.chg hw hc fun y hy => hx y (h.fc y hy) }
theorem Gr.kept {H H' : AH} {base g : Nat} {sigma : List ByteArray} {rows : List (List (List Value))} {ends costs : List Int} (h : Gr H base g sigma rows ends costs) (hw : Wf H) (hk : Kept H H') : Gr H' base g sigma rows ends costs := by
 obtain ⟨sv, av, ev, cv, os, ot, oe, oc, vals, obs, h⟩ := h
 exact ⟨sv, av, ev, cv, os, ot, oe, oc, vals, obs, h.chg hw (hk.chg (X := none')) fun _ _ h => h⟩
structure GrR (H : AH) (g : Nat) (sv av ev cv : Value) (vals : List Value) (sigma : List ByteArray) (rows : List (List (List Value))) (ends costs : List Int) : Prop where
 arr : Arr H g 0 4 [sv, av, ev, cv]
 sg : Sl H sv 1 (sigma.map A6b)
 jag : JagR H av 4 rows vals
 en : Sl H ev 1 (ends.map intC)
 co : Sl H cv 1 (costs.map intC)
theorem GrR.kept {H H' : AH} {g : Nat} {sv av ev cv : Value} {vals : List Value} {sigma : List ByteArray} {rows : List (List (List Value))} {ends costs : List Int} (h : GrR H g sv av ev cv vals sigma rows ends costs) (hw : Wf H) (hk : Kept H H') : GrR H' g sv av ev cv vals sigma rows ends costs :=
 ⟨h.arr.keep (hk.old g (h.arr.lt hw)), h.sg.grow (hk.grow hw), h.jag.grow (hk.grow hw), h.en.grow (hk.grow hw), h.co.grow (hk.grow hw)⟩
theorem Gr.read {H : AH} {base g : Nat} {sigma : List ByteArray} {rows : List (List (List Value))} {ends costs : List Int} (h : Gr H base g sigma rows ends costs) : ∃ sv av ev cv vals, GrR H g sv av ev cv vals sigma rows ends costs := by
 obtain ⟨sv, av, ev, cv, os, ot, oe, oc, vals, obs, h⟩ := h
 exact ⟨sv, av, ev, cv, vals, h.arr, h.sg.toSl, h.jag.read, h.en.toSl, h.co.toSl⟩
theorem Kept.then {H0 H H' : AH} {base : Nat} (h : Kept H0 H) (hb : H0.next ≤ base) (hc : Chg (fun y => base ≤ y) H H') : Kept H0 H' :=
 ⟨fun y hy => by rw [hc.old y (Nat.lt_of_lt_of_le hy h.next) (by omega)]; exact h.old y hy, Nat.le_trans h.next hc.next, hc.wf⟩
def B23 (sigma : List ByteArray) (a : ArcD) : List Value := [.int .i64 a.to, .int .i64 (A7o sigma a.inn), .int .i64 (A7o sigma a.out), .int .i64 a.cost]
def A08 (N : NetD) (l : List ArcD) : List (List (List Value)) := rowsOf ArcD.fr (B23 N.sigma) N.states.toNat l
def A3m (N : NetD) (l : List EndD) : List Int := (rowsOf EndD.state EndD.cost N.states.toNat l).map fun r => (r.length : Int)
def A9n (N : NetD) (l : List EndD) : List Int := (rowsOf EndD.state EndD.cost N.states.toNat l).map leastOf
theorem A3a {i n : Nat} (h : i < n) (hn : n ≤ 4611686018427387904) : IntKind.wrap .i64 ((i : Int) + 1) = ((i + 1 : Nat) : Int) := by
 rw [wrap64 (by omega) (by omega)]; rfl
def natC (n : Nat) : List Value := [.int .i64 (n : Int)]
def A0l (b : Bool) : List Value := [.bool b]
def A4h (e : ByteArray × Nat) : List Value := [.string e.1, .int .i64 (e.2 : Int)]
def A6h (E : List (List (ByteArray × Nat))) : List (List (List Value)) := E.map fun r => r.map A4h
def A0e (E : List (List (ByteArray × Nat))) (x : ByteArray) (s t : Nat) : Prop := ∃ r, E[s]? = some r ∧ (x, t) ∈ r
structure RG (H : AH) (v : Value) (n : Nat) (E : List (List (ByteArray × Nat))) (ends : List Bool) (ev bv : Value) (vals : List Value) : Prop where
 eq : v = .agg #[.int .i64 0, ev, bv]
 ed : JagR H ev 2 (A6h E) vals
 en : Sl H bv 1 (ends.map A0l)
 le : E.length = n
 ln : ends.length = n
 n1 : 1 ≤ n
 n2 : n ≤ 3000
 to : ∀ (s : Nat) r, E[s]? = some r → r.length ≤ 60000 ∧ ∀ e ∈ r, e.2 < n
theorem RG.kept {H H' : AH} {v : Value} {n : Nat} {E : List (List (ByteArray × Nat))} {ends : List Bool} {ev bv : Value} {vals : List Value} (h : RG H v n E ends ev bv vals) (hw : Wf H) (hk : Kept H H') : RG H' v n E ends ev bv vals :=
 { h with ed := h.ed.grow (hk.grow hw), en := h.en.grow (hk.grow hw) }
structure RBox (H : AH) (g n : Nat) (E : List (List (ByteArray × Nat))) (ends : List Bool) (ev bv : Value) (vals : List Value) : Prop where
 c0 : H.cell ⟨g, 0, some 0⟩ = some (.int .i64 0)
 c1 : H.cell ⟨g, 1, some 0⟩ = some ev
 c2 : H.cell ⟨g, 2, some 0⟩ = some bv
 ca : H.cells ⟨g, 0, some 0⟩ 3 = some [.int .i64 0, ev, bv]
 rg : RG H (.agg #[.int .i64 0, ev, bv]) n E ends ev bv vals
theorem RBox.kept {H H' : AH} {g n : Nat} {E : List (List (ByteArray × Nat))} {ends : List Bool} {ev bv : Value} {vals : List Value} (h : RBox H g n E ends ev bv vals) (hw : Wf H) (hk : Kept H H') : RBox H' g n E ends ev bv vals :=
 ⟨A7b (hk.grow hw) h.c0, A7b (hk.grow hw) h.c1, A7b (hk.grow hw) h.c2, A5r (hk.grow hw) h.ca, h.rg.kept hw hk⟩
theorem RBox.of {H : AH} {v : Value} {n : Nat} {E : List (List (ByteArray × Nat))} {ends : List Bool} {ev bv : Value} {vals : List Value} (h : RG H v n E ends ev bv vals) (hw : Wf H) : RBox (H.new 3 [.int .i64 0, ev, bv]).2 H.next n E ends ev bv vals := by
 have ho := (Obj.new (H := H) 3 [.int .i64 0, ev, bv]).arr
 have hk := Kept.new hw 3 [.int .i64 0, ev, bv]
 have h' := h.kept hw hk
 rw [h.eq] at h'
 exact ⟨ho.cell 0, ho.cell 1, ho.cell 2, ho.cells (i := 0) (n := 3) (by simp), h'⟩
theorem JagR.at {P : Program} {t e s i : Nat} {H : AH} {v : Value} {rows : List (List (List Value))} {vals : List Value} {r : List (List Value)} (hu : P.underlying t = some (.slice e)) (hs : A8b P e = some 1) (h : JagR H v s rows vals) (hr : rows[i]? = some r) :
  ∃ g o k w, A4b P t v (.int .i64 (i : Int)) = some (.pointer (some ⟨g, o, some k⟩)) ∧ H.cell ⟨g, o, some k⟩ = some w ∧ Sl H w s r := by
 have hil := (List.getElem?_eq_some_iff.1 hr).1
 have hv : vals[i]? = some (vals[i]'(by rw [h.len]; exact hil)) := List.getElem?_eq_getElem _
 obtain ⟨g, o, k, hia, hcs, hcc⟩ := h.sl.at hu hs (i := i) (x := [vals[i]'(by rw [h.len]; exact hil)]) (by simp [hv]) .i64
 have := hcc 0 _ rfl
 exact ⟨g, o, k, _, hia, by simpa using this, h.row i _ _ hv hr⟩
end Go.Proofs.Sh
