/- How columns get their widths, as plain functions. -/
import Derived.Test.YtepacocajnobgaaTwin
namespace Go.Proofs.Ytepacocajnobgaa
open Go.RowKit

/-- How many of the first k are zero. -/
def zb (ws : List Int) : Nat → Nat
  | 0 => 0
  | k + 1 => if ws.getD k 0 = 0 then zb ws k + 1 else zb ws k
/-- The sum of the first k. -/
def sb (ws : List Int) : Nat → Int
  | 0 => 0
  | k + 1 => sb ws k + ws.getD k 0
theorem zb_le (ws : List Int) (k : Nat) : zb ws k ≤ k := by
  induction k with
  | zero => simp [zb]
  | succ k ih => simp only [zb]; split <;> omega
theorem zb_mono (ws : List Int) (i j : Nat) (h : i ≤ j) : zb ws i ≤ zb ws j := by
  induction j with
  | zero => obtain rfl : i = 0 := by omega
            exact Nat.le_refl _
  | succ j ih =>
    rcases Nat.lt_or_ge j i with h1 | h1
    · obtain rfl : i = j + 1 := by omega
      exact Nat.le_refl _
    · have := ih h1; simp only [zb]; split <;> omega
theorem zb_lt (ws : List Int) (i j : Nat) (h : i < j) (h0 : ws.getD i 0 = 0) : zb ws i < zb ws j := by
  have := zb_mono ws (i + 1) j h
  have h1 : zb ws (i + 1) = zb ws i + 1 := by simp only [zb, h0, if_true]
  omega
/-- Which one is the widest of the first k; the last of several. -/
def mostOf (l : List Int) : Nat → Nat
  | 0 => 0
  | k + 1 => if l.getD (mostOf l k) 0 ≤ l.getD k 0 then k else mostOf l k
theorem mostOf_lt (l : List Int) (k n : Nat) (hn : 0 < n) (h : k ≤ n) : mostOf l k < n := by
  induction k with
  | zero => exact hn
  | succ k ih =>
    simp only [mostOf]
    split
    · omega
    · exact ih (by omega)
def decL (l : List Int) : List Int := l.set (mostOf l l.length) (l.getD (mostOf l l.length) 0 - 1)
def itL : Nat → List Int → List Int
  | 0, l => l
  | j + 1, l => decL (itL j l)
theorem itL_length (j : Nat) (l : List Int) : (itL j l).length = l.length := by
  induction j with
  | zero => rfl
  | succ j ih => simp [itL, decL, ih]
theorem getD_set (l : List Int) (i k : Nat) (x : Int) : (l.set i x).getD k 0 = if i = k ∧ i < l.length then x else l.getD k 0 := by
  simp only [List.getD_eq_getElem?_getD, List.getElem?_set]
  by_cases h1 : i = k
  · subst h1
    by_cases h2 : i < l.length
    · simp [h2]
    · simp [h2]
  · simp [h1]
theorem itL_bd (l : List Int) (h : ∀ k, 0 ≤ l.getD k 0 ∧ l.getD k 0 ≤ 200) (j : Nat) : ∀ k, -(j : Int) ≤ (itL j l).getD k 0 ∧ (itL j l).getD k 0 ≤ 200 := by
  induction j with
  | zero => intro k; have := h k; simp only [itL]; omega
  | succ j ih =>
    intro k
    simp only [itL, decL, getD_set]
    have h1 := ih (mostOf (itL j l) (itL j l).length)
    have h2 := ih k
    split <;> omega

/-- A list whose first i are f's, the others ws'. -/
def partL (f : Nat → Int) (ws : List Int) (i : Nat) : List Int := (List.range i).map f ++ ws.drop i
theorem partL_zero (f : Nat → Int) (ws : List Int) : partL f ws 0 = ws := by simp [partL]
theorem partL_length (f : Nat → Int) (ws : List Int) (i : Nat) (h : i ≤ ws.length) : (partL f ws i).length = ws.length := by simp [partL]; omega
theorem partL_all (f : Nat → Int) (ws : List Int) (i : Nat) (h : ws.length ≤ i) (h2 : i ≤ ws.length) : partL f ws i = (List.range ws.length).map f := by
  obtain rfl : i = ws.length := by omega
  simp [partL]
theorem partL_getD (f : Nat → Int) (ws : List Int) (i k : Nat) (_h : i ≤ ws.length) : (partL f ws i).getD k 0 = if k < i then f k else ws.getD k 0 := by
  unfold partL
  simp only [List.getD_eq_getElem?_getD]
  by_cases h1 : k < i
  · rw [List.getElem?_append_left (by simpa using h1)]; simp [h1]
  · rw [List.getElem?_append_right (by simp; omega)]; simp [h1, List.getElem?_drop]; rw [show i + (k - i) = k by omega]
theorem partL_succ (f : Nat → Int) (ws : List Int) (i : Nat) (h : i < ws.length) : (partL f ws i).set i (f i) = partL f ws (i + 1) := by
  apply List.ext_getElem?
  intro k
  rw [List.getElem?_set]
  have hl : (partL f ws i).length = ws.length := partL_length f ws i (by omega)
  by_cases h1 : i = k
  · subst h1
    rw [if_pos rfl, hl, if_pos h]
    unfold partL
    rw [List.getElem?_append_left (by simp)]; simp
  · rw [if_neg h1]
    unfold partL
    by_cases h2 : k < i
    · rw [List.getElem?_append_left (by simpa using h2), List.getElem?_append_left (by simp; omega)]; simp [h2, show k < i + 1 by omega]
    · rw [List.getElem?_append_right (by simp; omega), List.getElem?_append_right (by simp; omega)]
      simp [List.getElem?_drop]; congr 1; omega
theorem partL_same (f : Nat → Int) (ws : List Int) (i : Nat) (h : i < ws.length) (hf : f i = ws.getD i 0) : partL f ws (i + 1) = partL f ws i := by
  rw [← partL_succ f ws i h, hf]
  apply List.ext_getElem?
  intro k
  rw [List.getElem?_set]
  have hl : (partL f ws i).length = ws.length := partL_length f ws i (by omega)
  by_cases h1 : i = k
  · subst h1
    rw [if_pos rfl, hl, if_pos h]
    unfold partL
    rw [List.getElem?_append_right (by simp)]
    simp [List.getD_eq_getElem?_getD]
    simp [h]
  · rw [if_neg h1]

/-- A column that shares evenly. -/
def evenF (ws : List Int) (rest free : Int) (i : Nat) : Int := if ws.getD i 0 = 0 then rest / free + (if (zb ws i : Int) < rest % free then 1 else 0) else ws.getD i 0
def oneF (ws : List Int) (i : Nat) : Int := max (ws.getD i 0) 1
/-- Round and round: q whole rounds, and r more of the free ones. -/
def lapF (ws : List Int) (q r : Nat) (i : Nat) : Int := if ws.getD i 0 = 0 then 1 + (q : Int) + (if zb ws i < r then 1 else 0) else ws.getD i 0
def rangeL (f : Nat → Int) (n : Nat) : List Int := (List.range n).map f
theorem rangeL_getD (f : Nat → Int) (n k : Nat) (h : k < n) : (rangeL f n).getD k 0 = f k := by simp [rangeL, List.getD_eq_getElem?_getD, h]
theorem rangeL_congr (f g : Nat → Int) (n : Nat) (h : ∀ k, k < n → f k = g k) : rangeL f n = rangeL g n := by
  unfold rangeL; exact List.map_congr_left fun k hk => h k (by simpa using hk)
theorem rangeL_set (f g : Nat → Int) (n i : Nat) (x : Int) (hi : i < n) (h1 : g i = x) (h2 : ∀ k, k < n → k ≠ i → g k = f k) : (rangeL f n).set i x = rangeL g n := by
  apply List.ext_getElem?
  intro k
  rw [List.getElem?_set]
  unfold rangeL
  by_cases hk : i = k
  · subst hk; simp [hi, h1]
  · rw [if_neg hk]
    by_cases h3 : k < n
    · simp [h3, h2 k h3 (fun e => hk e.symm)]
    · simp [h3]
theorem lap_step (ws : List Int) (q i : Nat) (hi : i < ws.length) (h0 : ws.getD i 0 = 0) :
    (rangeL (lapF ws q (zb ws i)) ws.length).set i (lapF ws q (zb ws i) i + 1) = rangeL (lapF ws q (zb ws (i + 1))) ws.length := by
  have hz : zb ws (i + 1) = zb ws i + 1 := by simp only [zb, h0, if_true]
  refine rangeL_set _ _ _ _ _ hi ?_ fun k hk hne => ?_
  · simp only [lapF, h0, if_true, hz]; simp
  · simp only [lapF, hz]
    split
    · rename_i hk0
      congr 1
      have : zb ws k ≠ zb ws i := fun e => by
        rcases Nat.lt_or_ge k i with h | h
        · have := zb_lt ws k i h hk0; omega
        · have := zb_lt ws i k (by omega) h0; omega
      by_cases h1 : zb ws k < zb ws i
      · rw [if_pos (by omega), if_pos h1]
      · rw [if_neg (by omega), if_neg h1]
    · rfl
theorem lap_skip (ws : List Int) (i : Nat) (h0 : ws.getD i 0 ≠ 0) : zb ws (i + 1) = zb ws i := by simp only [zb, h0, if_false]
theorem lap_wrap (ws : List Int) (q : Nat) : rangeL (lapF ws q (zb ws ws.length)) ws.length = rangeL (lapF ws (q + 1) 0) ws.length := by
  refine rangeL_congr _ _ _ fun k hk => ?_
  simp only [lapF]
  split
  · rename_i h0
    rw [if_pos (zb_lt ws k ws.length hk h0)]; simp; omega
  · rfl
theorem lap_even (ws : List Int) (q r : Nat) (hr : r ≤ zb ws ws.length) (hf : 0 < zb ws ws.length) :
    rangeL (lapF ws q r) ws.length = rangeL (evenF ws ((q * zb ws ws.length + r + zb ws ws.length : Nat) : Int) (zb ws ws.length)) ws.length := by
  refine rangeL_congr _ _ _ fun k hk => ?_
  simp only [lapF, evenF]
  split
  · rename_i h0
    have hz := zb_lt ws k ws.length hk h0
    generalize zb ws ws.length = f at *
    generalize zb ws k = z at *
    rcases Nat.lt_or_ge r f with h | h
    · have e : q * f + r + f = r + f * (q + 1) := by rw [Nat.mul_succ, Nat.mul_comm f q]; omega
      have h1 : (q * f + r + f) / f = q + 1 := by rw [e, Nat.add_mul_div_left _ _ hf, Nat.div_eq_of_lt h]; omega
      have h2 : (q * f + r + f) % f = r := by rw [e, Nat.add_mul_mod_self_left, Nat.mod_eq_of_lt h]
      rw [← Int.natCast_ediv, ← Int.natCast_emod, h1, h2]
      by_cases h3 : z < r
      · rw [if_pos h3, if_pos (by omega)]; omega
      · rw [if_neg h3, if_neg (by omega)]; omega
    · obtain rfl : r = f := by omega
      have e : q * r + r + r = 0 + r * (q + 2) := by rw [Nat.mul_add, Nat.mul_comm r q]; omega
      have h1 : (q * r + r + r) / r = q + 2 := by rw [e, Nat.add_mul_div_left _ _ hf]; simp
      have h2 : (q * r + r + r) % r = 0 := by rw [e, Nat.add_mul_mod_self_left]; simp
      rw [← Int.natCast_ediv, ← Int.natCast_emod, h1, h2, if_pos hz, if_neg (by omega)]; omega
  · rfl

/-- What is to be shared out, shared. -/
def needOf (ws : List Int) : Int := sb ws ws.length + zb ws ws.length
def shareOf (ws : List Int) (room : Int) : List Int :=
  if needOf ws ≤ room then rangeL (evenF ws (room - sb ws ws.length) (zb ws ws.length)) ws.length else itL (needOf ws - room).toNat (rangeL (oneF ws) ws.length)
def badW (ws : List Int) : Bool := ws.any fun x => decide (x < 0) || decide (200 < x)
def gapOf (n : Nat) (wide : Int) : Int := if wide - ((n : Int) - 1) < n then 0 else 1
/-- Where column j begins; the first j columns. -/
def atOf (gap : Int) (l : List Int) : Nat → Int
  | 0 => 0
  | j + 1 => atOf gap l j + (l.getD j 0 + gap)
def colsP (gap : Int) (l : List Int) : Nat → List (Int × Int)
  | 0 => []
  | j + 1 => colsP gap l j ++ [(atOf gap l j, l.getD j 0)]
theorem colsP_length (gap : Int) (l : List Int) (j : Nat) : (colsP gap l j).length = j := by
  induction j with
  | zero => rfl
  | succ j ih => simp [colsP, ih]
def roomOf (n : Nat) (wide : Int) : Int := wide - gapOf n wide * ((n : Int) - 1)
def columnsOf (ws : List Int) (wide : Int) : List (Int × Int) × Int :=
  if wide < 10 ∨ 200 < wide ∨ ws.length < 1 ∨ 8 < ws.length then ([], 1)
  else if badW ws then ([], 1)
  else (colsP (gapOf ws.length wide) (shareOf ws (roomOf ws.length wide)) ws.length, 0)
theorem badW_get {ws : List Int} (h : badW ws = false) : ∀ k, 0 ≤ ws.getD k 0 ∧ ws.getD k 0 ≤ 200 := by
  intro k
  by_cases hk : k < ws.length
  · have := List.any_eq_false.1 h ws[k] (List.getElem_mem hk)
    simp [List.getD_eq_getElem?_getD, hk] at this ⊢
    omega
  · simp [List.getD_eq_getElem?_getD, hk]
theorem sb_bd {ws : List Int} (h : ∀ k, 0 ≤ ws.getD k 0 ∧ ws.getD k 0 ≤ 200) (k : Nat) : 0 ≤ sb ws k ∧ sb ws k ≤ 200 * k := by
  induction k with
  | zero => simp [sb]
  | succ k ih => have := h k; simp only [sb]; omega
/-- The sum of the first k, those that are zero taken for 1. -/
theorem sb_one {ws : List Int} (h : ∀ k, 0 ≤ ws.getD k 0 ∧ ws.getD k 0 ≤ 200) (k : Nat) : sb ws k + zb ws k + oneF ws k = sb ws (k + 1) + zb ws (k + 1) := by
  have := h k
  simp only [sb, zb, oneF]
  split <;> (simp only [Int.max_def]; split <;> omega)
theorem roomOf_bd {n : Nat} {wide : Int} (h1 : 1 ≤ n) (h8 : n ≤ 8) (hw : 10 ≤ wide) (hw' : wide ≤ 200) : 1 ≤ roomOf n wide ∧ roomOf n wide ≤ 200 ∧ 0 ≤ gapOf n wide ∧ gapOf n wide ≤ 1 := by
  unfold roomOf gapOf
  split <;> omega
theorem shareOf_length (ws : List Int) (room : Int) : (shareOf ws room).length = ws.length := by
  unfold shareOf; split
  · simp [rangeL]
  · rw [itL_length]; simp [rangeL]
theorem shareOf_bd {ws : List Int} {room : Int} (h : ∀ k, 0 ≤ ws.getD k 0 ∧ ws.getD k 0 ≤ 200) (h8 : ws.length ≤ 8) (h1 : 1 ≤ room) (hr : room ≤ 200) : ∀ k, -2000 ≤ (shareOf ws room).getD k 0 ∧ (shareOf ws room).getD k 0 ≤ 2000 := by
  intro k
  have hsb := sb_bd h ws.length
  have hz := zb_le ws ws.length
  unfold shareOf; split
  · rename_i hn
    by_cases hk : k < ws.length
    · rw [rangeL_getD _ _ _ hk]
      unfold evenF
      have := h k
      split
      · rename_i h0
        have hz1 := zb_lt ws k ws.length hk h0
        have hd : 0 ≤ (room - sb ws ws.length) / (zb ws ws.length : Int) ∧ (room - sb ws ws.length) / (zb ws ws.length : Int) ≤ 200 := by
          have hr0 : 0 ≤ room - sb ws ws.length := by unfold needOf at hn; omega
          exact ⟨Int.ediv_nonneg hr0 (by omega), Int.le_trans (Int.ediv_le_self _ hr0) (by omega)⟩
        split <;> omega
      · omega
    · simp [rangeL, List.getD_eq_getElem?_getD, hk]
  · have hone : ∀ k, 0 ≤ (rangeL (oneF ws) ws.length).getD k 0 ∧ (rangeL (oneF ws) ws.length).getD k 0 ≤ 200 := fun k => by
      by_cases hk : k < ws.length
      · rw [rangeL_getD _ _ _ hk]; have := h k; simp only [oneF, Int.max_def]; split <;> omega
      · simp [rangeL, List.getD_eq_getElem?_getD, hk]
    have := itL_bd _ hone (needOf ws - room).toNat k
    unfold needOf at this ⊢
    omega
theorem atOf_bd {gap : Int} {l : List Int} (hg : 0 ≤ gap ∧ gap ≤ 1) (h : ∀ k, -2000 ≤ l.getD k 0 ∧ l.getD k 0 ≤ 2000) (j : Nat) : -(2001 * (j : Int)) ≤ atOf gap l j ∧ atOf gap l j ≤ 2001 * j := by
  induction j with
  | zero => simp [atOf]
  | succ j ih => have := h j; simp only [atOf]; omega
end Go.Proofs.Ytepacocajnobgaa
