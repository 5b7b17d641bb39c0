/- Plain law (no program): two rows in order, parted so that the first parts' ends stand ahead of the other row's second part, are put together by putting the first parts and the second parts together. Any order that is transitive. -/
namespace Go.Proofs.YthpbdeiphagkiaaGreatDoor.Find
open Go

variable {α : Type} {T : α → α → Prop}

/-- The last of a row in order stands behind all others of it, the first ahead of all others: so the two ends decide. -/
theorem ends_decide (ht : ∀ {x y z}, T x y → T y z → T x z) {A B : List α} (hA : A.Pairwise T) (hB : B.Pairwise T)
    (h : ∀ x ∈ A.getLast?, ∀ y ∈ B.head?, T x y) : ∀ x ∈ A, ∀ y ∈ B, T x y := by
  intro x hx y hy
  cases hb : B with
  | nil => rw [hb] at hy; cases hy
  | cons b bs =>
    have hxb : T x b := by
      obtain ⟨l, hl⟩ : ∃ l, A.getLast? = some l := by
        cases A with
        | nil => cases hx
        | cons a as => exact ⟨_, List.getLast?_eq_some_getLast (by simp)⟩
      have hlb : T l b := h l hl b (by rw [hb]; rfl)
      obtain ⟨as, has⟩ := List.getLast?_eq_some_iff.1 hl
      rw [has, List.mem_append] at hx
      rcases hx with hx | hx
      · rw [has] at hA
        exact ht ((List.pairwise_append.1 hA).2.2 x hx l (by simp)) hlb
      · rw [List.mem_singleton.1 hx]; exact hlb
    rw [hb] at hy hB
    rcases List.mem_cons.1 hy with rfl | hy
    · exact hxb
    · exact ht hxb ((List.pairwise_cons.1 hB).1 y hy)

/-- The parts are put together. -/
theorem merge_parts (ht : ∀ {x y z}, T x y → T y z → T x z) {A1 A2 B1 B2 X Y : List α} (hA : (A1 ++ A2).Pairwise T) (hB : (B1 ++ B2).Pairwise T)
    (h1 : ∀ x ∈ A1.getLast?, ∀ y ∈ B2.head?, T x y) (h2 : ∀ x ∈ B1.getLast?, ∀ y ∈ A2.head?, T x y)
    (hX : X.Perm (A1 ++ B1)) (hY : Y.Perm (A2 ++ B2)) (sX : X.Pairwise T) (sY : Y.Pairwise T) :
    (X ++ Y).Pairwise T ∧ (X ++ Y).Perm ((A1 ++ A2) ++ (B1 ++ B2)) := by
  obtain ⟨a1, a2, a12⟩ := List.pairwise_append.1 hA
  obtain ⟨b1, b2, b12⟩ := List.pairwise_append.1 hB
  have c1 := ends_decide (T := T) (fun {x y z} => @ht x y z) a1 b2 h1
  have c2 := ends_decide (T := T) (fun {x y z} => @ht x y z) b1 a2 h2
  refine ⟨List.pairwise_append.2 ⟨sX, sY, fun x hx y hy => ?_⟩, ?_⟩
  · have hx' := hX.mem_iff.1 hx
    have hy' := hY.mem_iff.1 hy
    rcases List.mem_append.1 hx' with hx' | hx' <;> rcases List.mem_append.1 hy' with hy' | hy'
    · exact a12 x hx' y hy'
    · exact c1 x hx' y hy'
    · exact c2 x hx' y hy'
    · exact b12 x hx' y hy'
  · refine (hX.append hY).trans ?_
    simp only [List.append_assoc]
    refine List.Perm.append_left A1 ?_
    rw [← List.append_assoc, ← List.append_assoc]
    exact List.Perm.append_right B2 List.perm_append_comm

/-- Two rows in order of the same elements are one, where nothing stands ahead of itself both ways. -/
theorem sorted_unique (hasym : ∀ {x y}, T x y → ¬ T y x) : ∀ {A B : List α}, A.Pairwise T → B.Pairwise T → A.Perm B → A = B
  | [], B, _, _, h => (List.nil_perm.1 h).symm
  | a :: A, [], _, _, h => by simp at h
  | a :: A, b :: B, hA, hB, h => by
    have hab : a = b := by
      rcases List.mem_cons.1 (h.mem_iff.1 (List.mem_cons_self ..) : a ∈ b :: B) with e | ha
      · exact e
      · rcases List.mem_cons.1 (h.mem_iff.2 (List.mem_cons_self ..) : b ∈ a :: A) with e | hb
        · exact e.symm
        · exact absurd ((List.pairwise_cons.1 hA).1 b hb) (hasym ((List.pairwise_cons.1 hB).1 a ha))
    subst hab
    rw [sorted_unique (fun {x y} => @hasym x y) (List.pairwise_cons.1 hA).2 (List.pairwise_cons.1 hB).2 (h.cons_inv)]

end Go.Proofs.YthpbdeiphagkiaaGreatDoor.Find
