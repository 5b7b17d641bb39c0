/- A row is its cells: the plain law. -/
import Derived.Test.YtepacocajnobgaaRowMem
import Derived.Test.YtepacocajnobgaaApartSpec
namespace Go.Proofs.Ytepacocajnobgaa

/-- How long a line is without the blanks at its end, of its first k. -/
def trimN (l : List Gl) : Nat → Nat
  | 0 => 0
  | k + 1 => if (l.getD k plainG).isBlank then trimN l k else k + 1
def trim (l : List Gl) : List Gl := l.take (trimN l l.length)
theorem trimN_le (l : List Gl) (k : Nat) : trimN l k ≤ k := by
  induction k with
  | zero => exact Nat.le_refl _
  | succ k ih => simp only [trimN]; split <;> omega
theorem trimN_app (l m : List Gl) (k : Nat) (h : k ≤ l.length) : trimN (l ++ m) k = trimN l k := by
  induction k with
  | zero => rfl
  | succ k ih =>
    simp only [trimN]
    rw [ih (by omega), show (l ++ m).getD k plainG = l.getD k plainG by simp only [List.getD_eq_getElem?_getD, List.getElem?_append_left (show k < l.length by omega)]]
theorem trim_blanks (l b : List Gl) (hb : ∀ g ∈ b, g.isBlank = true) : trim (l ++ b) = trim l := by
  have H : ∀ n, n ≤ b.length → trimN (l ++ b) (l.length + n) = trimN l l.length := by
    intro n
    induction n with
    | zero => intro _; rw [Nat.add_zero, trimN_app _ _ _ (Nat.le_refl _)]
    | succ n ih =>
      intro hn
      rw [← Nat.add_assoc]
      simp only [trimN]
      have h1 : (l ++ b).getD (l.length + n) plainG = b[n]'(by omega) := by
        simp only [List.getD_eq_getElem?_getD]
        rw [List.getElem?_append_right (by omega), Nat.add_sub_cancel_left, List.getElem?_eq_getElem (by omega)]
        rfl
      rw [h1, if_pos (hb _ (List.getElem_mem _)), ih (by omega)]
  unfold trim
  rw [List.length_append, H b.length (Nat.le_refl _), List.take_append_of_le_length (trimN_le _ _)]
/-- What stands in a line from a cell on, so wide. -/
def cut (at_ wide : Int) : Int → List Gl → List Gl
  | _, [] => []
  | col, g :: l => (if at_ ≤ col ∧ col < at_ + wide then [g] else []) ++ cut at_ wide (col + g.wide) l
theorem cut_app (at_ wide : Int) (m : List Gl) : ∀ (l : List Gl) (col : Int), cut at_ wide col (l ++ m) = cut at_ wide col l ++ cut at_ wide (col + sumW l) m := by
  intro l
  induction l with
  | nil => intro col; simp [cut, sumW]
  | cons g l ih =>
    intro col
    simp only [List.cons_append, cut, ih, sumW_cons, List.append_assoc]
    rw [Int.add_assoc]
theorem cut_low (at_ wide : Int) : ∀ (l : List Gl) (col : Int), (∀ g ∈ l, 1 ≤ g.wide ∧ g.wide ≤ 2) → col + sumW l ≤ at_ → cut at_ wide col l = [] := by
  intro l
  induction l with
  | nil => intro col _ _; rfl
  | cons g l ih =>
    intro col h hs
    have h1 := h g (by simp)
    have h2 := sumW_bd l fun g hg => h g (by simp [hg])
    rw [sumW_cons] at hs
    simp only [cut]
    rw [if_neg (by omega), ih _ (fun g hg => h g (by simp [hg])) (by omega)]
    rfl
theorem cut_high (at_ wide : Int) : ∀ (l : List Gl) (col : Int), (∀ g ∈ l, 1 ≤ g.wide ∧ g.wide ≤ 2) → at_ + wide ≤ col → cut at_ wide col l = [] := by
  intro l
  induction l with
  | nil => intro col _ _; rfl
  | cons g l ih =>
    intro col h hs
    have h1 := h g (by simp)
    simp only [cut]
    rw [if_neg (by omega), ih _ (fun g hg => h g (by simp [hg])) (by omega)]
    rfl
theorem cut_all (at_ wide : Int) : ∀ (l : List Gl) (col : Int), (∀ g ∈ l, 1 ≤ g.wide ∧ g.wide ≤ 2) → at_ ≤ col → col + sumW l ≤ at_ + wide → cut at_ wide col l = l := by
  intro l
  induction l with
  | nil => intro col _ _ _; rfl
  | cons g l ih =>
    intro col h hc hs
    have h1 := h g (by simp)
    have h2 := sumW_bd l fun g hg => h g (by simp [hg])
    rw [sumW_cons] at hs
    simp only [cut]
    rw [if_pos (by omega), ih _ (fun g hg => h g (by simp [hg])) (by omega) (by omega)]
    rfl
theorem cut_mem (at_ wide : Int) : ∀ (l : List Gl) (col : Int), ∀ g ∈ cut at_ wide col l, g ∈ l := by
  intro l
  induction l with
  | nil => intro col g hg; simp [cut] at hg
  | cons g l ih =>
    intro col x hx
    simp only [cut] at hx
    rcases List.mem_append.1 hx with h1 | h1
    · split at h1
      · simp at h1; rw [h1]; simp
      · simp at h1
    · exact List.mem_cons_of_mem _ (ih _ x h1)
theorem plain_two : ∀ (n : Nat), ∀ g ∈ List.replicate n plainG, 1 ≤ g.wide ∧ g.wide ≤ 2 := fun n g hg => by rw [List.eq_of_mem_replicate hg]; simp [plainG]
theorem endC_mono {cs : List (Int × Int)} {n : Nat} (hg : goodC cs n = true) : ∀ j i, i ≤ j → j ≤ n → endC cs i ≤ endC cs j := by
  intro j
  induction j with
  | zero => intro i hi _; obtain rfl : i = 0 := by omega
            exact Int.le_refl _
  | succ j ih =>
    intro i hi hj
    rcases Nat.lt_or_ge i (j + 1) with h1 | h1
    · have h2 := ih i (by omega) (by omega)
      have h3 := okC_bd (goodC_mono hg j (by omega))
      have h4 : endC cs (j + 1) = (cs.getD j (0, 0)).1 + (cs.getD j (0, 0)).2 := rfl
      omega
    · obtain rfl : i = j + 1 := by omega
      exact Int.le_refl _
/-- What a cell's columns hold of a row. -/
theorem cut_join {cs : List (Int × Int)} {cells : List (List (List Gl))} {n : Nat} (hg : goodC cs n = true) (hc : ∀ i r, i < n → r < (cells.getD i []).length → Lok (cs.getD i (0, 0)).2 ((cells.getD i []).getD r [])) (k i : Nat) (hi : i < n) :
    ∀ j, i + 1 ≤ j → j ≤ n → ∃ b : List Gl, (∀ g ∈ b, g.isBlank = true) ∧ cut (cs.getD i (0, 0)).1 (cs.getD i (0, 0)).2 0 (joinP cs cells k j) = (if k < (cells.getD i []).length then (cells.getD i []).getD k [] else []) ++ b := by
  intro j
  induction j with
  | zero => intro h; omega
  | succ j ih =>
    intro h1 h2
    have hb := okC_bd (goodC_mono hg j (by omega))
    have hL := joinP_ok hg hc k j (by omega)
    have hend : endC cs (i + 1) = (cs.getD i (0, 0)).1 + (cs.getD i (0, 0)).2 := rfl
    simp only [joinP]
    rcases Nat.lt_or_ge i j with hij | hij
    · obtain ⟨b, hb1, hb2⟩ := ih (by omega) (by omega)
      have hm := endC_mono hg j (i + 1) (by omega) (by omega)
      split
      · rename_i hk
        have hR := hc j k (by omega) hk
        unfold padTo
        refine ⟨b ++ cut (cs.getD i (0, 0)).1 (cs.getD i (0, 0)).2 (0 + sumW (joinP cs cells k j)) (List.replicate ((cs.getD j (0, 0)).1 - sumW (joinP cs cells k j)).toNat plainG), fun g hg' => ?_, ?_⟩
        · rcases List.mem_append.1 hg' with h3 | h3
          · exact hb1 g h3
          · have := cut_mem _ _ _ _ g h3
            rw [List.eq_of_mem_replicate this]; simp [plainG, Gl.isBlank]
        · rw [cut_app, cut_app, hb2, cut_high _ _ _ _ hR.1, List.append_nil, List.append_assoc]
          rw [sumW_append, sumW_plain]
          have := hL.2
          omega
      · exact ⟨b, hb1, hb2⟩
    · obtain rfl : i = j := by omega
      have hlow := cut_low (cs.getD i (0, 0)).1 (cs.getD i (0, 0)).2 (joinP cs cells k i) 0 hL.1 (by have := hL.2; omega)
      split
      · rename_i hk
        have hR := hc i k (by omega) hk
        unfold padTo
        refine ⟨[], by simp, ?_⟩
        rw [cut_app, cut_app, hlow, cut_low _ _ _ _ (plain_two _), cut_all _ _ _ _ hR.1]
        · simp
        · rw [sumW_append, sumW_plain]; omega
        · rw [sumW_append, sumW_plain]; have := hR.2; have := hL.2; omega
        · rw [sumW_plain]; have := hL.2; omega
      · exact ⟨[], by simp, by rw [hlow]; rfl⟩
/-- What the law asks of a row that there is. -/
theorem rowOf_zero {cs : List (Int × Int)} {flows : List (List Gl)} (h : (rowOf cs flows).2 = 0) : flows.length = cs.length ∧ 1 ≤ cs.length ∧ cs.length ≤ 8 ∧ goodC cs cs.length = true ∧ errP cs flows cs.length = 0 ∧
    (rowOf cs flows).1 = rowsP cs (cellsP cs flows cs.length) cs.length (highP (cellsP cs flows cs.length) cs.length).toNat := by
  unfold rowOf at h ⊢
  split at h
  · cases h
  · rename_i h1
    rw [if_neg h1]
    split at h
    · rename_i h2; exact absurd h h2
    · rename_i h2
      rw [if_neg h2]
      have hg : goodC cs cs.length = true := by
        cases h3 : goodC cs cs.length with
        | true => rfl
        | false => exact absurd (.inr (.inr (.inr h3))) h1
      exact ⟨by omega, by omega, by omega, hg, by omega, rfl⟩
theorem rowOf_err {cs : List (Int × Int)} {flows : List (List Gl)} (h : (rowOf cs flows).2 ≠ 0) : (rowOf cs flows).1 = [] := by
  unfold rowOf at h ⊢
  split
  · rfl
  · rename_i h1
    rw [if_neg h1] at h
    split
    · rfl
    · rename_i h2
      rw [if_neg h2] at h
      exact absurd rfl h
theorem errP_zero {cs : List (Int × Int)} {flows : List (List Gl)} {n : Nat} (h : errP cs flows n = 0) : ∀ i, i < n → (fillOf (flows.getD i []) (cs.getD i (0, 0)).2).2 = 0 := by
  induction n with
  | zero => intro i hi; omega
  | succ n ih =>
    intro i hi
    simp only [errP] at h
    split at h
    · rename_i h1; exact absurd h h1
    · rename_i h1
      rcases Nat.lt_or_ge i n with h2 | h2
      · exact ih (by omega) i h2
      · obtain rfl : i = n := by omega
        exact h
theorem highP_ge (cells : List (List (List Gl))) (n : Nat) : ∀ i, i < n → ((cells.getD i []).length : Int) ≤ highP cells n := by
  induction n with
  | zero => intro i hi; omega
  | succ n ih =>
    intro i hi
    simp only [highP]
    rcases Nat.lt_or_ge i n with h2 | h2
    · have := ih i h2; omega
    · obtain rfl : i = n := by omega
      omega
theorem rowsP_getD (cs : List (Int × Int)) (cells : List (List (List Gl))) (n m k : Nat) (h : k < m) : (rowsP cs cells n m).getD k [] = joinP cs cells k n := by
  induction m with
  | zero => omega
  | succ m ih =>
    have hl : (rowsP cs cells n m).length = m := by
      clear ih h
      induction m with
      | zero => rfl
      | succ m ih => simp [rowsP, ih]
    simp only [rowsP]
    rcases Nat.lt_or_ge k m with h1 | h1
    · simp only [List.getD_eq_getElem?_getD, List.getElem?_append_left (show k < (rowsP cs cells n m).length by omega)]
      rw [← List.getD_eq_getElem?_getD]; exact ih h1
    · obtain rfl : k = m := by omega
      simp only [List.getD_eq_getElem?_getD, List.getElem?_append_right (show (rowsP cs cells n k).length ≤ k by omega), hl]
      simp
/-- A ROW IS ITS CELLS. -/
theorem row_cells {cs : List (Int × Int)} {flows : List (List Gl)} (h : (rowOf cs flows).2 = 0) (hf : ∀ l ∈ flows, l.length ≤ 2932031007317) (i : Nat) (hi : i < cs.length) :
    (fillOf (flows.getD i []) (cs.getD i (0, 0)).2).2 = 0 ∧ (fillOf (flows.getD i []) (cs.getD i (0, 0)).2).1.length ≤ (rowOf cs flows).1.length ∧
    ∀ k, k < (rowOf cs flows).1.length → trim (cut (cs.getD i (0, 0)).1 (cs.getD i (0, 0)).2 0 ((rowOf cs flows).1.getD k [])) =
      if k < (fillOf (flows.getD i []) (cs.getD i (0, 0)).2).1.length then trim ((fillOf (flows.getD i []) (cs.getD i (0, 0)).2).1.getD k []) else [] := by
  obtain ⟨h1, h2, h3, h4, h5, h6⟩ := rowOf_zero h
  have hlen : ∀ m, (rowsP cs (cellsP cs flows cs.length) cs.length m).length = m := by
    intro m
    induction m with
    | zero => rfl
    | succ m ih => simp [rowsP, ih]
  have hhb := highP_bd (cells := cellsP cs flows cs.length) (cellsP_bd cs flows cs.length hf) cs.length
  have hge := highP_ge (cellsP cs flows cs.length) cs.length i hi
  rw [h6, hlen]
  have hce := cellsP_getD cs flows cs.length i hi
  rw [hce] at hge
  refine ⟨errP_zero h5 i hi, by omega, fun k hk => ?_⟩
  rw [rowsP_getD _ _ _ _ _ hk]
  obtain ⟨b, hb, hcut⟩ := cut_join h4 (fun i r hi hr => cellsP_fit cs flows cs.length hf i r hi hr) k i hi cs.length (by omega) (Nat.le_refl _)
  rw [hcut, trim_blanks _ _ hb, hce]
  split
  · rfl
  · rfl
theorem row_single {cs : List (Int × Int)} {flows : List (List Gl)} (h : (rowOf cs flows).2 = 0) (h1 : cs.length = 1) (h0 : (cs.getD 0 (0, 0)).1 = 0) : (rowOf cs flows).1 = (fillOf (flows.getD 0 []) (cs.getD 0 (0, 0)).2).1 := by
  obtain ⟨q1, q2, q3, q4, q5, q6⟩ := rowOf_zero h
  rw [q6, h1]
  have hce := cellsP_getD cs flows 1 0 (by omega)
  have hhigh : highP (cellsP cs flows 1) 1 = ((fillOf (flows.getD 0 []) (cs.getD 0 (0, 0)).2).1.length : Int) := by
    simp only [highP, hce]; omega
  rw [hhigh, Int.toNat_natCast]
  have hj : ∀ k, k < (fillOf (flows.getD 0 []) (cs.getD 0 (0, 0)).2).1.length → joinP cs (cellsP cs flows 1) k 1 = (fillOf (flows.getD 0 []) (cs.getD 0 (0, 0)).2).1.getD k [] := fun k hk => by
    simp only [joinP]
    rw [hce, if_pos hk, h0]
    simp [padTo, sumW]
  generalize (fillOf (flows.getD 0 []) (cs.getD 0 (0, 0)).2).1 = L at *
  have H : ∀ m, m ≤ L.length → rowsP cs (cellsP cs flows 1) 1 m = L.take m := by
    intro m
    induction m with
    | zero => intro _; simp [rowsP]
    | succ m ih =>
      intro hm
      simp only [rowsP]
      rw [ih (by omega), hj m (by omega), List.take_succ_eq_append_getElem (by omega), List.getD_eq_getElem?_getD, List.getElem?_eq_getElem (by omega)]
      rfl
  rw [H _ (Nat.le_refl _), List.take_length]
theorem columnsOf_at0 {ws : List Int} {wide : Int} (h0 : (columnsOf ws wide).2 = 0) : ((columnsOf ws wide).1.getD 0 (0, 0)).1 = 0 := by
  unfold columnsOf at h0 ⊢
  split at h0
  · cases h0
  · rename_i h1
    rw [if_neg h1]
    split at h0
    · cases h0
    · rename_i h2
      rw [if_neg h2]
      show ((colsP _ _ ws.length).getD 0 (0, 0)).1 = 0
      rw [colsP_getD _ _ _ _ (by omega)]
      rfl
end Go.Proofs.Ytepacocajnobgaa
