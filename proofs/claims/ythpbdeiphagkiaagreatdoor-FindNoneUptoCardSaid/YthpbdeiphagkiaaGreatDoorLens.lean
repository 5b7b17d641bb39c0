/- Plain: how long folds, bases and words may be. -/
import Derived.Test.YthpbdeiphagkiaaGreatDoorWords
namespace Go.Proofs.YthpbdeiphagkiaaGreatDoor.Find
open Go

theorem enc_le (r : Int) : (Lib.encodeRune r).length ≤ 4 := by
  have := Lib.runeCells_le r; rw [Lib.runeCells_length] at this; exact this.2
theorem base_len (r : Int) : 1 ≤ (base r).length ∧ (base r).length ≤ 4 := by
  unfold base baseS
  have h1 := enc_le (small r)
  have h2 := enc_pos (small r)
  show (fun l : List UInt8 => 1 ≤ l.length ∧ l.length ≤ 4) _
  refine ite_ok (P := fun l : List UInt8 => 1 ≤ l.length ∧ l.length ≤ 4) (fun _ => ⟨by decide, by decide⟩) fun _ => ?_
  refine ite_ok (P := fun l : List UInt8 => 1 ≤ l.length ∧ l.length ≤ 4) (fun _ => ⟨by decide, by decide⟩) fun _ => ?_
  refine ite_ok (P := fun l : List UInt8 => 1 ≤ l.length ∧ l.length ≤ 4) (fun _ => ⟨by decide, by decide⟩) fun _ => ?_
  refine ite_ok (P := fun l : List UInt8 => 1 ≤ l.length ∧ l.length ≤ 4) (fun _ => ⟨by decide, by decide⟩) fun _ => ?_
  refine ite_ok (P := fun l : List UInt8 => 1 ≤ l.length ∧ l.length ≤ 4) (fun _ => ⟨by decide, by decide⟩) fun _ => ?_
  refine ite_ok (P := fun l : List UInt8 => 1 ≤ l.length ∧ l.length ≤ 4) (fun _ => ⟨by decide, by decide⟩) fun _ => ?_
  refine ite_ok (P := fun l : List UInt8 => 1 ≤ l.length ∧ l.length ≤ 4) (fun _ => ⟨by decide, by decide⟩) fun _ => ?_
  refine ite_ok (P := fun l : List UInt8 => 1 ≤ l.length ∧ l.length ≤ 4) (fun _ => ⟨by decide, by decide⟩) fun _ => ?_
  refine ite_ok (P := fun l : List UInt8 => 1 ≤ l.length ∧ l.length ≤ 4) (fun _ => ⟨by decide, by decide⟩) fun _ => ?_
  refine ite_ok (P := fun l : List UInt8 => 1 ≤ l.length ∧ l.length ≤ 4) (fun _ => ⟨by decide, by decide⟩) fun _ => ?_
  refine ite_ok (P := fun l : List UInt8 => 1 ≤ l.length ∧ l.length ≤ 4) (fun _ => ⟨by decide, by decide⟩) fun _ => ?_
  refine ite_ok (P := fun l : List UInt8 => 1 ≤ l.length ∧ l.length ≤ 4) (fun _ => ⟨by decide, by decide⟩) fun _ => ?_
  exact ⟨h2, h1⟩
theorem base_ne (r : Int) : base r ≠ [] := by
  intro h; have := (base_len r).1; rw [h] at this; simp at this
theorem charsF_len : ∀ (f : Nat) (l : List UInt8), (charsF f l).length ≤ l.length ∧ ∀ c ∈ charsF f l, c.2.length ≤ 4
  | 0, l => by simp [charsF]
  | f + 1, l => by
    unfold charsF
    split
    · simp
    · rename_i h
      have h1 := decL_pos l
      have h2 := decL_len l h
      have ih := charsF_len f (l.drop (decL l).2)
      rw [List.length_drop] at ih
      refine ⟨by simp only [List.length_cons]; omega, fun c hc => ?_⟩
      rcases List.mem_cons.1 hc with rfl | hc
      · simp only [List.length_take]
        have : (decL l).2 ≤ 4 := by
          unfold decL; simp only
          repeat' split
          all_goals simp
        omega
      · exact ih.2 c hc
theorem foldF_len : ∀ (l : List Ch) (waits : Bool) (acc : List UInt8), (∀ c ∈ l, c.2.length ≤ 4) → (foldF waits acc l).length ≤ acc.length + 5 * l.length
  | [], _, acc, _ => by simp [foldF]
  | c :: l, waits, acc, h => by
    have hc := h c (by simp)
    have hl : ∀ c ∈ l, c.2.length ≤ 4 := fun x hx => h x (by simp [hx])
    have hf : (foldCh c).length ≤ 4 := by
      unfold foldCh; split
      · exact hc
      · exact enc_le _
    unfold foldF
    split
    · have := foldF_len l (!acc.isEmpty) acc hl; simp; omega
    · have := foldF_len l false ((if waits then acc ++ [32] else acc) ++ foldCh c) hl
      have h3 : (if waits then acc ++ [32] else acc).length ≤ acc.length + 1 := by split <;> simp
      simp only [List.length_append, List.length_cons] at this ⊢; omega
theorem fold_len (l : List UInt8) : (fold l).length ≤ 5 * l.length := by
  have h1 := charsF_len l.length l
  have h2 := foldF_len (chars l) false [] h1.2
  have h3 : (chars l).length ≤ l.length := h1.1
  unfold fold
  simp only [List.length_nil] at h2
  omega
/-- All words together are no longer than four times the text's characters. -/
theorem wordsF_len : ∀ (l : List Ch) (acc : Wd), (wordsF acc l).length ≤ l.length + 1 ∧ (wordsF acc l).flatten.length ≤ acc.length + 4 * l.length
  | [], acc => by
    unfold wordsF; split
    · simp
    · simp
  | c :: l, acc => by
    unfold wordsF
    split
    · have := wordsF_len l (acc ++ base c.1)
      have h2 := (base_len c.1).2
      simp only [List.length_append, List.length_cons] at this ⊢; omega
    · have := wordsF_len l []
      split
      · simp only [List.length_cons, List.length_nil] at this ⊢; omega
      · simp only [List.length_cons, List.flatten_cons, List.length_append, List.length_nil] at this ⊢; omega
theorem words_len (s : List UInt8) : (words s).length ≤ 5 * s.length + 1 ∧ (words s).flatten.length ≤ 20 * s.length := by
  have h1 := wordsF_len (chars (fold s)) []
  have h2 : (chars (fold s)).length ≤ (fold s).length := (charsF_len _ _).1
  have h3 := fold_len s
  unfold words
  simp only [List.length_nil] at h1
  omega
end Go.Proofs.YthpbdeiphagkiaaGreatDoor.Find
