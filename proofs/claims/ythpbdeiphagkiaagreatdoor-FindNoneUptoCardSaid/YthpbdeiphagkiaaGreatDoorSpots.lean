/- Plain: the spots, word by word. -/
import Derived.Test.YthpbdeiphagkiaaGreatDoorFinder
namespace Go.Proofs.YthpbdeiphagkiaaGreatDoor
open Find

theorem placesOf_take (x : Wd) (l : List Wd) (j : Nat) (h : j < l.length) : placesOf x (l.take (j + 1)) = placesOf x (l.take j) ++ (if l[j] = x then [j] else []) := by
  unfold placesOf
  have e1 : (l.take (j + 1)).length = j + 1 := by rw [List.length_take]; omega
  have e2 : (l.take j).length = j := by rw [List.length_take]; omega
  rw [e1, e2, List.range_succ, List.filter_append]
  congr 1
  · apply List.filter_congr
    intro i hi
    have hij := List.mem_range.1 hi
    simp only [List.getD_eq_getElem?_getD]
    rw [List.getElem?_take_of_lt (by omega), List.getElem?_take_of_lt hij]
  · have : (l.take (j + 1)).getD j [] = l[j] := by
      rw [List.getD_eq_getElem?_getD, List.getElem?_take_of_lt (by omega), List.getElem?_eq_getElem h]; rfl
    simp only [List.filter_cons, List.filter_nil, this, beq_iff_eq]
def partS (k kk : Nat) (l : List Wd) (j : Nat) (x : Wd) : List Spot := (placesOf x (l.take j)).map fun p => (k, kk, p)
theorem partS_zero (k kk : Nat) (l : List Wd) (x : Wd) : partS k kk l 0 x = [] := rfl
theorem partS_succ (k kk : Nat) (l : List Wd) (j : Nat) (h : j < l.length) (x : Wd) : partS k kk l (j + 1) x = partS k kk l j x ++ (if x = l[j] then [(k, kk, j)] else []) := by
  unfold partS
  rw [placesOf_take x l j h, List.map_append]
  congr 1
  by_cases e : l[j] = x
  · rw [if_pos e, if_pos e.symm]; rfl
  · rw [if_neg e, if_neg (fun q => e q.symm)]; rfl
/-- The spots when so many words of the title (kk = 0) or, behind it, of the text (kk = 1) are in. -/
def spotsUp (LL : Lists) (k : Nat) (T X : List Wd) (kk j : Nat) (x : Wd) : List Spot :=
  spotsOf (LL.take k) x ++ (if kk = 0 then partS k 0 T j x else partS k 0 T T.length x ++ partS k 1 X j x)
theorem spotsUp_start (LL : Lists) (k : Nat) (T X : List Wd) (x : Wd) : spotsUp LL k T X 0 0 x = spotsOf (LL.take k) x := by simp [spotsUp, partS_zero]
theorem spotsUp_mid (LL : Lists) (k : Nat) (T X : List Wd) (x : Wd) : spotsUp LL k T X 1 0 x = spotsUp LL k T X 0 T.length x := by simp [spotsUp, partS_zero]
theorem spotsOf_take_lt (LL : Lists) (k : Nat) (h : k < LL.length) (x : Wd) : spotsOf (LL.take (k + 1)) x = spotsOf (LL.take k) x ++ spotsAt LL x k := by
  unfold spotsOf
  have e1 : (LL.take (k + 1)).length = k + 1 := by rw [List.length_take]; omega
  have e2 : (LL.take k).length = k := by rw [List.length_take]; omega
  rw [e1, e2, List.range_succ, List.flatMap_append]
  congr 1
  · have : ∀ i ∈ List.range k, (LL.take (k + 1)).getD i ([], []) = (LL.take k).getD i ([], []) := fun i hi => by
      have hik := List.mem_range.1 hi
      rw [List.getD_eq_getElem?_getD, List.getD_eq_getElem?_getD, List.getElem?_take_of_lt (by omega), List.getElem?_take_of_lt hik]
    simp only [List.flatMap_def]
    congr 1
    apply List.map_congr_left
    intro i hi
    rw [this i hi]
  · have : (LL.take (k + 1)).getD k ([], []) = LL.getD k ([], []) := by
      rw [List.getD_eq_getElem?_getD, List.getElem?_take_of_lt (by omega), ← List.getD_eq_getElem?_getD]
    simp only [List.flatMap_cons, List.flatMap_nil, List.append_nil, this]
    rfl
theorem spotsUp_end (LL : Lists) (k : Nat) (T X : List Wd) (h : LL[k]? = some (T, X)) (x : Wd) : spotsUp LL k T X 1 X.length x = spotsOf (LL.take (k + 1)) x := by
  obtain ⟨hk, he⟩ := List.getElem?_eq_some_iff.1 h
  rw [spotsOf_take_lt LL k hk]
  unfold spotsUp spotsAt partS
  rw [if_neg (by omega), List.take_length, List.take_length]
  have : LL.getD k ([], []) = (T, X) := by rw [List.getD_eq_getElem?_getD, h]; rfl
  rw [this]
theorem spotsUp_step0 (LL : Lists) (k : Nat) (T X : List Wd) (j : Nat) (h : j < T.length) (x : Wd) : addSpot (spotsUp LL k T X 0 j) T[j] (k, 0, j) x = spotsUp LL k T X 0 (j + 1) x := by
  unfold addSpot spotsUp
  simp only [if_pos]
  rw [partS_succ k 0 T j h x]
  split <;> simp
theorem spotsUp_step1 (LL : Lists) (k : Nat) (T X : List Wd) (j : Nat) (h : j < X.length) (x : Wd) : addSpot (spotsUp LL k T X 1 j) X[j] (k, 1, j) x = spotsUp LL k T X 1 (j + 1) x := by
  unfold addSpot spotsUp
  simp only [if_neg (show ¬ (1 : Nat) = 0 by omega)]
  rw [partS_succ k 1 X j h x]
  split <;> simp
theorem placesOf_len (x : Wd) (l : List Wd) : (placesOf x l).length ≤ l.length := by
  unfold placesOf
  have := List.length_filter_le (fun k => l.getD k [] == x) (List.range l.length)
  rw [List.length_range] at this; exact this
/-- How many spots a word may have. -/
theorem spotsOf_len (LL : Lists) (x : Wd) (N : Nat) (h : ∀ p ∈ LL, p.1.length ≤ N ∧ p.2.length ≤ N) : (spotsOf LL x).length ≤ LL.length * (2 * N) := by
  unfold spotsOf
  have key : ∀ (m : Nat), m ≤ LL.length → ((List.range m).flatMap fun i => ((placesOf x (LL.getD i ([], [])).1).map fun k => (i, 0, k)) ++ ((placesOf x (LL.getD i ([], [])).2).map fun k => ((i, 1, k) : Spot))).length ≤ m * (2 * N) := by
    intro m
    induction m with
    | zero => intro _; simp
    | succ m ih =>
      intro hm
      have h1 := ih (by omega)
      rw [List.range_succ, List.flatMap_append, List.length_append]
      have hmem : LL.getD m ([], []) ∈ LL := by
        rw [List.getD_eq_getElem?_getD, List.getElem?_eq_getElem (by omega)]; exact List.getElem_mem _
      have h2 := h _ hmem
      have p1 := placesOf_len x (LL.getD m ([], [])).1
      have p2 := placesOf_len x (LL.getD m ([], [])).2
      simp only [List.flatMap_cons, List.flatMap_nil, List.append_nil, List.length_append, List.length_map] at *
      have : (m + 1) * (2 * N) = m * (2 * N) + 2 * N := by rw [Nat.succ_mul]
      omega
  exact key _ (Nat.le_refl _)
theorem spotsUp_len (LL : Lists) (k : Nat) (T X : List Wd) (kk j : Nat) (x : Wd) (N : Nat) (h : ∀ p ∈ LL, p.1.length ≤ N ∧ p.2.length ≤ N) (hT : T.length ≤ N) (hX : X.length ≤ N) (hk : k ≤ 1000) : (spotsUp LL k T X kk j x).length ≤ 1000 * (2 * N) + 2 * N := by
  unfold spotsUp
  have h1 := spotsOf_len (LL.take k) x N (fun p hp => h p (List.mem_of_mem_take hp))
  have h2 : (LL.take k).length ≤ 1000 := by rw [List.length_take]; omega
  have h3 : (LL.take k).length * (2 * N) ≤ 1000 * (2 * N) := Nat.mul_le_mul_right _ h2
  have p : ∀ kk l j, (partS k kk l j x).length ≤ l.length := fun kk l j => by
    unfold partS
    rw [List.length_map]
    have := placesOf_len x (l.take j)
    rw [List.length_take] at this
    omega
  have p1 := p 0 T j
  have p2 := p 0 T T.length
  have p3 := p 1 X j
  rw [List.length_append]
  split
  · omega
  · rw [List.length_append]; omega
end Go.Proofs.YthpbdeiphagkiaaGreatDoor
