/- Columns stand apart: the plain law. -/
import Derived.Test.YtepacocajnobgaaRowSpec
namespace Go.Proofs.Ytepacocajnobgaa

theorem colsP_getD (gap : Int) (l : List Int) (n k : Nat) (h : k < n) : (colsP gap l n).getD k (0, 0) = (atOf gap l k, l.getD k 0) := by
  induction n with
  | zero => omega
  | succ n ih =>
    have hl := colsP_length gap l n
    simp only [colsP]
    rcases Nat.lt_or_ge k n with h1 | h1
    · rw [List.getD_eq_getElem?_getD, List.getElem?_append_left (by omega), ← List.getD_eq_getElem?_getD]; exact ih h1
    · obtain rfl : k = n := by omega
      rw [List.getD_eq_getElem?_getD, List.getElem?_append_right (by omega), hl]; simp
theorem atOf_sb (gap : Int) (l : List Int) (k : Nat) : atOf gap l k = sb l k + gap * k := by
  induction k with
  | zero => simp [atOf, sb]
  | succ k ih => simp only [atOf, sb, ih]; rw [show ((k + 1 : Nat) : Int) = (k : Int) + 1 by omega, Int.mul_add]; omega
theorem sb_congr {a b : List Int} (k : Nat) (h : ∀ i, i < k → a.getD i 0 = b.getD i 0) : sb a k = sb b k := by
  induction k with
  | zero => rfl
  | succ k ih => simp only [sb]; rw [ih fun i hi => h i (by omega), h k (by omega)]
theorem sb_set (l : List Int) (i : Nat) (x : Int) (k : Nat) (hk : k ≤ l.length) : sb (l.set i x) k = sb l k + (if i < k then x - l.getD i 0 else 0) := by
  induction k with
  | zero => simp [sb]
  | succ k ih =>
    simp only [sb, getD_set, ih (by omega)]
    by_cases h1 : i = k
    · subst h1
      have e1 : (if i = i ∧ i < l.length then x else l.getD i 0) = x := if_pos ⟨rfl, by omega⟩
      have e2 : (if i < i then x - l.getD i 0 else 0) = 0 := if_neg (by omega)
      have e3 : (if i < i + 1 then x - l.getD i 0 else 0) = x - l.getD i 0 := if_pos (by omega)
      rw [e1, e2, e3]; omega
    · have e1 : (if i = k ∧ i < l.length then x else l.getD k 0) = l.getD k 0 := if_neg fun h => h1 h.1
      by_cases h2 : i < k
      · have e2 : (if i < k then x - l.getD i 0 else 0) = x - l.getD i 0 := if_pos h2
        have e3 : (if i < k + 1 then x - l.getD i 0 else 0) = x - l.getD i 0 := if_pos (by omega)
        rw [e1, e2, e3]; omega
      · have e2 : (if i < k then x - l.getD i 0 else 0) = 0 := if_neg h2
        have e3 : (if i < k + 1 then x - l.getD i 0 else 0) = 0 := if_neg (by omega)
        rw [e1, e2, e3]; omega
theorem mostOf_max (l : List Int) (k : Nat) : ∀ i, i < k → l.getD i 0 ≤ l.getD (mostOf l k) 0 := by
  induction k with
  | zero => intro i hi; omega
  | succ k ih =>
    intro i hi
    simp only [mostOf]
    split
    · rename_i h
      rcases Nat.lt_or_ge i k with h1 | h1
      · exact Int.le_trans (ih i h1) h
      · obtain rfl : i = k := by omega
        exact Int.le_refl _
    · rename_i h
      rcases Nat.lt_or_ge i k with h1 | h1
      · exact ih i h1
      · obtain rfl : i = k := by omega
        omega
theorem sb_le_max (l : List Int) (m : Int) (k : Nat) (h : ∀ i, i < k → l.getD i 0 ≤ m) : sb l k ≤ m * k := by
  induction k with
  | zero => simp [sb]
  | succ k ih =>
    have h1 := ih fun i hi => h i (by omega)
    have h2 := h k (by omega)
    simp only [sb]; rw [show ((k + 1 : Nat) : Int) = (k : Int) + 1 by omega, Int.mul_add]; omega
/-- What is taken from the widest: each stays one at least, none grows; the sum is less by as many. -/
theorem itL_law (l : List Int) (hl : ∀ i, i < l.length → 1 ≤ l.getD i 0) (j : Nat) (hj : (l.length : Int) + j ≤ sb l l.length) :
    (∀ i, i < l.length → 1 ≤ (itL j l).getD i 0 ∧ (itL j l).getD i 0 ≤ l.getD i 0) ∧ sb (itL j l) l.length = sb l l.length - j := by
  induction j with
  | zero => exact ⟨fun i hi => ⟨hl i hi, Int.le_refl _⟩, by simp [itL]⟩
  | succ j ih =>
    obtain ⟨h1, h2⟩ := ih (by omega)
    have hlen := itL_length j l
    have hit : itL (j + 1) l = decL (itL j l) := rfl
    rw [hit]
    obtain ⟨m, hm⟩ : ∃ m, m = itL j l := ⟨_, rfl⟩
    rw [← hm] at h1 h2 hlen ⊢
    clear ih hit hm
    have hn : 0 < l.length := by
      rcases Nat.eq_zero_or_pos l.length with h | h
      · rw [h] at hj; simp [sb] at hj; omega
      · exact h
    have hp := mostOf_lt m m.length m.length (by omega) (Nat.le_refl _)
    have hmax := mostOf_max m m.length
    have h3 : 2 ≤ m.getD (mostOf m m.length) 0 := by
      rcases Int.lt_or_le (m.getD (mostOf m m.length) 0) 2 with h | h
      · have := sb_le_max m 1 l.length fun i hi => by have := hmax i (by omega); omega
        omega
      · exact h
    unfold decL
    refine ⟨fun i hi => ?_, ?_⟩
    · have := h1 i hi
      rw [getD_set]
      split
      · rename_i h4; rw [h4.1] at h3 ⊢; omega
      · exact this
    · rw [sb_set _ _ _ _ (by omega), if_pos (by omega)]; omega
theorem evenF_sum (ws : List Int) (rest free : Int) (k n : Nat) (h : k ≤ n) :
    sb (rangeL (evenF ws rest free) n) k = sb ws k + zb ws k * (rest / free) + min (zb ws k : Int) (max 0 (rest % free)) := by
  induction k with
  | zero => simp [sb, zb]; omega
  | succ k ih =>
    rw [sb, ih (by omega), rangeL_getD _ _ _ (by omega)]
    simp only [sb, zb, evenF]
    by_cases h0 : ws.getD k 0 = 0
    · rw [if_pos h0, if_pos h0, h0, show ((zb ws k + 1 : Nat) : Int) = (zb ws k : Int) + 1 by omega, Int.add_mul]
      split <;> omega
    · rw [if_neg h0, if_neg h0]; omega
theorem oneF_sum {ws : List Int} (h : ∀ k, 0 ≤ ws.getD k 0 ∧ ws.getD k 0 ≤ 200) (k n : Nat) (hk : k ≤ n) : sb (rangeL (oneF ws) n) k = sb ws k + zb ws k := by
  induction k with
  | zero => simp [sb, zb]
  | succ k ih =>
    have := sb_one h k
    rw [sb, ih (by omega), rangeL_getD _ _ _ (by omega)]
    omega
/-- What the columns are like: each is one at least, none wider than asked, all within the room. -/
theorem shareOf_law {ws : List Int} {room : Int} (h : ∀ k, 0 ≤ ws.getD k 0 ∧ ws.getD k 0 ≤ 200) (hr : (ws.length : Int) ≤ room) :
    (∀ k, k < ws.length → 1 ≤ (shareOf ws room).getD k 0 ∧ (0 < ws.getD k 0 → (shareOf ws room).getD k 0 ≤ ws.getD k 0)) ∧ sb (shareOf ws room) ws.length ≤ room := by
  unfold shareOf
  split
  · rename_i hn
    unfold needOf at hn
    refine ⟨fun k hk => ?_, ?_⟩
    · rw [rangeL_getD _ _ _ hk]
      unfold evenF
      have := h k
      split
      · rename_i h0
        have hz1 := zb_lt ws k ws.length hk h0
        have hd : 1 ≤ (room - sb ws ws.length) / (zb ws ws.length : Int) := by
          rw [Int.le_ediv_iff_mul_le (by omega)]; omega
        refine ⟨?_, fun h1 => by omega⟩
        split <;> omega
      · omega
    · rw [evenF_sum _ _ _ _ _ (Nat.le_refl _)]
      have h1 := Int.mul_ediv_add_emod (room - sb ws ws.length) (zb ws ws.length : Int)
      rcases Nat.eq_zero_or_pos (zb ws ws.length) with h0 | h0
      · rw [h0]; simp; omega
      · have h2 := Int.emod_nonneg (room - sb ws ws.length) (b := (zb ws ws.length : Int)) (by omega)
        omega
  · rename_i hn
    unfold needOf at hn ⊢
    have hone : ∀ k, k < ws.length → 1 ≤ oneF ws k ∧ (0 < ws.getD k 0 → oneF ws k ≤ ws.getD k 0) := fun k _ => by
      have := h k; simp only [oneF, Int.max_def]; split <;> omega
    have hlen : (rangeL (oneF ws) ws.length).length = ws.length := by simp [rangeL]
    have hsum := oneF_sum h ws.length ws.length (Nat.le_refl _)
    obtain ⟨h1, h2⟩ := itL_law (rangeL (oneF ws) ws.length) (fun i hi => by rw [hlen] at hi; rw [rangeL_getD _ _ _ hi]; exact (hone i hi).1) (sb ws ws.length + zb ws ws.length - room).toNat (by rw [hlen, hsum]; omega)
    rw [hlen] at h1 h2
    refine ⟨fun k hk => ?_, ?_⟩
    · obtain ⟨q1, q2⟩ := h1 k hk
      rw [rangeL_getD _ _ _ hk] at q2
      obtain ⟨q3, q4⟩ := hone k hk
      exact ⟨q1, fun h0 => Int.le_trans q2 (q4 h0)⟩
    · rw [h2, hsum]; omega
/-- COLUMNS STAND APART, all within the width. -/
theorem columnsOf_apart {ws : List Int} {wide : Int} (h0 : (columnsOf ws wide).2 = 0) : (columnsOf ws wide).1.length = ws.length ∧
    (∀ k, k < ws.length → endC (columnsOf ws wide).1 k ≤ ((columnsOf ws wide).1.getD k (0, 0)).1 ∧ 1 ≤ ((columnsOf ws wide).1.getD k (0, 0)).2 ∧ (0 < ws.getD k 0 → ((columnsOf ws wide).1.getD k (0, 0)).2 ≤ ws.getD k 0)) ∧
    endC (columnsOf ws wide).1 ws.length ≤ wide ∧ wide ≤ 200 ∧ ws.length ≤ 8 := by
  unfold columnsOf at h0 ⊢
  split at h0
  · cases h0
  · rename_i h1
    rw [if_neg h1]
    split at h0
    · cases h0
    · rename_i h2
      rw [if_neg h2]
      have hws := badW_get (by simpa using h2)
      have hg : (ws.length : Int) ≤ roomOf ws.length wide ∧ 0 ≤ gapOf ws.length wide := by unfold roomOf gapOf; split <;> omega
      obtain ⟨l1, l2⟩ := shareOf_law hws hg.1
      have hroom : roomOf ws.length wide = wide - gapOf ws.length wide * ((ws.length : Int) - 1) := rfl
      generalize shareOf ws (roomOf ws.length wide) = l at *
      generalize gapOf ws.length wide = gap at *
      have he : ∀ k, k < ws.length → endC (colsP gap l ws.length) (k + 1) = atOf gap l k + l.getD k 0 := fun k hk => by
        show ((colsP gap l ws.length).getD k (0, 0)).1 + _ = _
        rw [colsP_getD _ _ _ _ hk]
      refine ⟨colsP_length _ _ _, fun k hk => ?_, ?_, by omega, by omega⟩
      · show endC (colsP gap l ws.length) k ≤ ((colsP gap l ws.length).getD k (0, 0)).1 ∧ 1 ≤ ((colsP gap l ws.length).getD k (0, 0)).2 ∧ _
        rw [colsP_getD _ _ _ _ hk]
        refine ⟨?_, l1 k hk⟩
        cases k with
        | zero => simp [endC, atOf]
        | succ k => rw [he k (by omega)]; show _ ≤ atOf gap l k + (l.getD k 0 + gap); omega
      · obtain ⟨m, hm⟩ : ∃ m, ws.length = m + 1 := ⟨ws.length - 1, by omega⟩
        have hE : ∀ j, j = m + 1 → endC (colsP gap l ws.length) j = atOf gap l m + l.getD m 0 := by rintro _ rfl; exact he m (by omega)
        have hS : ∀ j, j = m + 1 → sb l j = sb l m + l.getD m 0 := by rintro _ rfl; rfl
        have hm' : (ws.length : Int) - 1 = m := by omega
        show endC (colsP gap l ws.length) ws.length ≤ wide
        rw [hE _ hm, atOf_sb]
        rw [hS _ hm] at l2
        rw [hm'] at hroom
        omega
end Go.Proofs.Ytepacocajnobgaa
