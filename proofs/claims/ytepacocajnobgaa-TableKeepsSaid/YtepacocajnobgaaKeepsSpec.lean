/- It fits, and nothing is lost: the plain law. -/
import Derived.Test.YtepacocajnobgaaRowSpec
namespace Go.Proofs.Ytepacocajnobgaa

theorem sign_iff (g : Gl) : g.isSign = true ↔ g.kind = 3 := by
  unfold Gl.isSign Gl.kind
  cases g.text.toList == [32] <;> cases g.text.toList == [9] <;> cases g.text.toList == [10] <;> simp
theorem blankOf_sign (g : Gl) : (blankOf g).isSign = false := by simp [blankOf, Gl.isSign]
/-- The signs among lines and a line. -/
def sgn (s : St) : List Gl := (s.out.flatten ++ s.line).filter Gl.isSign
theorem sgn_put (g : Gl) (s : St) : sgn (putS g s) = sgn s ++ [g].filter Gl.isSign := by
  simp only [sgn, putS, ← List.append_assoc, List.filter_append]
theorem sgn_end (s : St) : sgn (endS s) = sgn s := by simp [sgn, endS]
theorem sgn_drop (s : St) : sgn (dropS s) = sgn s := rfl
theorem sgn_puts (ws : List Gl) : ∀ s : St, sgn (putsS ws s) = sgn s ++ ws.filter Gl.isSign := by
  induction ws with
  | nil => intro s; simp [putsS]
  | cons g ws ih =>
    intro s
    show sgn (putsS ws (putS g s)) = _
    rw [ih, sgn_put, List.append_assoc, ← List.filter_append]; rfl
theorem sgn_steps (wide : Int) (ws : List Gl) : ∀ s : St, sgn (ws.foldl (stepS wide) s) = sgn s ++ ws.filter Gl.isSign := by
  induction ws with
  | nil => intro s; simp
  | cons g ws ih =>
    intro s
    rw [List.foldl_cons, ih]
    unfold stepS
    rw [sgn_put]
    split
    · rw [sgn_end, List.append_assoc, ← List.filter_append]; rfl
    · rw [List.append_assoc, ← List.filter_append]; rfl
theorem sgn_start (s : St) : sgn (startS s) = sgn s := by unfold startS; split <;> simp [sgn_end, sgn_drop]
theorem sgn_word (wide : Int) (ws : List Gl) (s : St) (hw : s.waits.filter Gl.isSign = []) : sgn (wordS wide ws s) = sgn s ++ ws.filter Gl.isSign := by
  unfold wordS; split
  · rw [sgn_drop, sgn_puts, List.filter_append, hw]; simp
  · rw [sgn_steps, sgn_start]
theorem sgn_tab (wide : Int) (g : Gl) (s : St) : sgn (tabS wide g s) = sgn s := by
  unfold tabS; split
  · rw [sgn_end, sgn_drop]
  · unfold padS
    rw [sgn_puts, sgn_drop]
    have : (List.replicate (stopAt s.at_ - s.at_).toNat (blankOf g)).filter Gl.isSign = [] := by
      rw [List.filter_eq_nil_iff]; intro a ha; rw [List.eq_of_mem_replicate ha, blankOf_sign]; simp
    rw [this]; simp
def noSign (s : St) : Prop := s.waits.filter Gl.isSign = []
theorem noSign_puts (ws : List Gl) (s : St) (h : noSign s) : noSign (putsS ws s) := by unfold noSign; rw [putsS_waits]; exact h
theorem noSign_steps (wide : Int) (ws : List Gl) : ∀ s : St, noSign s → noSign (ws.foldl (stepS wide) s) := by
  induction ws with
  | nil => intro s h; exact h
  | cons g ws ih =>
    intro s h
    rw [List.foldl_cons]
    refine ih _ ?_
    unfold stepS; split
    · simp [noSign, putS, endS]
    · exact h
theorem noSign_word (wide : Int) (ws : List Gl) (s : St) : noSign (wordS wide ws s) := by
  unfold wordS; split
  · simp [noSign, dropS]
  · refine noSign_steps wide ws _ ?_
    unfold startS; split <;> simp [noSign, dropS, endS]
theorem noSign_flush (wide : Int) (x : St × List Gl) (h : noSign x.1) : noSign (flushS wide x) := by
  unfold flushS; split
  · exact noSign_word wide _ _
  · exact h
theorem fixG_sign (wide : Int) (g : Gl) (h : g.isSign = true) : (fixG wide g).isSign = true := by
  unfold fixG; split
  · simp [Gl.isSign]
  · exact h
/-- How signs stand behind the first glyphs. -/
structure Sg (wide : Int) (l : List Gl) (x : St × List Gl) : Prop where
  eq : sgn x.1 ++ x.2 = (l.filter Gl.isSign).map (fixG wide)
  ws : ∀ g ∈ x.2, g.isSign = true
  no : noSign x.1
theorem filter_all {l : List Gl} (h : ∀ g ∈ l, g.isSign = true) : l.filter Gl.isSign = l := List.filter_eq_self.2 h
theorem Sg.flush {wide : Int} {l : List Gl} {x : St × List Gl} (h : Sg wide l x) : sgn (flushS wide x) = (l.filter Gl.isSign).map (fixG wide) := by
  rw [← h.eq]
  unfold flushS; split
  · rw [sgn_word wide _ _ h.no, filter_all h.ws]
  · rename_i h0
    have : x.2 = [] := List.eq_nil_of_length_eq_zero (by omega)
    rw [this]; simp
theorem sgn_wait (g : Gl) (s : St) : sgn (waitS g s) = sgn s := by unfold waitS; split <;> rfl
theorem Sg.eat {wide : Int} {l : List Gl} {x : St × List Gl} (h : Sg wide l x) (g : Gl) : Sg wide (l ++ [g]) (eatS wide x g) := by
  unfold eatS; split
  · rename_i h3
    have hs := (sign_iff g).2 h3
    refine ⟨?_, ?_, h.no⟩
    · simp only [← List.append_assoc, h.eq]; simp [List.filter_append, hs]
    · intro g' hg'
      rcases List.mem_append.1 hg' with h4 | h4
      · exact h.ws g' h4
      · simp at h4; subst h4; exact fixG_sign wide g hs
  · rename_i h3
    have hs : g.isSign = false := by
      cases h4 : g.isSign with
      | false => rfl
      | true => exact absurd ((sign_iff g).1 h4) h3
    have hf := h.flush
    have hn := noSign_flush wide x h.no
    split
    · rename_i h0
      refine ⟨?_, by simp, ?_⟩
      · simp [sgn_wait, hf, List.filter_append, hs]
      · unfold waitS; split
        · have : ({ g with wide := 1 } : Gl).isSign = false := hs
          simp [noSign, this]
        · exact hn
    · refine ⟨?_, by simp, ?_⟩
      · unfold leapS; split
        · simp [sgn_tab, hf, List.filter_append, hs]
        · simp [sgn_end, hf, List.filter_append, hs]
      · unfold leapS; split
        · unfold tabS; split
          · simp [noSign, endS]
          · exact noSign_puts _ _ (by simp [noSign, dropS])
        · simp [noSign, endS]
theorem Sg.eats (wide : Int) (l : List Gl) : ∀ (m : List Gl) (x : St × List Gl), Sg wide m x → Sg wide (m ++ l) (l.foldl (eatS wide) x) := by
  induction l with
  | nil => intro m x h; simpa using h
  | cons g l ih =>
    intro m x h
    have := ih (m ++ [g]) (eatS wide x g) (h.eat g)
    simpa using this
/-- NOTHING IS LOST. -/
theorem fillS_keeps (wide : Int) (l : List Gl) : (fillS wide l).flatten.filter Gl.isSign = (l.filter Gl.isSign).map (fixG wide) := by
  have h := Sg.eats wide l [] (initS, []) ⟨by simp [sgn, initS], by simp, by simp [noSign, initS]⟩
  rw [List.nil_append] at h
  have h1 := h.flush
  unfold fillS doneS
  split
  · rw [← h1]; simp [sgn, endS]
  · rename_i h0
    have : (flushS wide (l.foldl (eatS wide) (initS, []))).line = [] := List.eq_nil_of_length_eq_zero (by omega)
    rw [← h1]; simp [sgn, this]

/-- A line ends with no blank. -/
def Tight (l : List Gl) : Prop := ∀ (h : 0 < l.length), (l[l.length - 1]'(by omega)).isSign = true
structure Tg (s : St) : Prop where
  out : ∀ l ∈ s.out, Tight l
  line : Tight s.line
theorem tight_nil : Tight [] := fun h => by simp at h
theorem tight_snoc (l : List Gl) (g : Gl) (h : g.isSign = true) : Tight (l ++ [g]) := fun _ => by simpa using h
theorem Tg.end_ {s : St} (h : Tg s) : Tg (endS s) := ⟨fun l hl => by
  rcases List.mem_append.1 hl with h1 | h1
  · exact h.out l h1
  · simp at h1; subst h1; exact h.line, tight_nil⟩
theorem Tg.drop {s : St} (h : Tg s) : Tg (dropS s) := ⟨h.out, h.line⟩
theorem Tg.put {s : St} (h : ∀ l ∈ s.out, Tight l) {g : Gl} (hg : g.isSign = true) : Tg (putS g s) := ⟨h, tight_snoc _ _ hg⟩
theorem Tg.step {wide : Int} {s : St} (h : Tg s) {g : Gl} (hg : g.isSign = true) : Tg (stepS wide s g) := by
  unfold stepS; split
  · exact Tg.put h.end_.out hg
  · exact Tg.put h.out hg
theorem Tg.steps {wide : Int} : ∀ (ws : List Gl) {s : St}, Tg s → (∀ g ∈ ws, g.isSign = true) → Tg (ws.foldl (stepS wide) s)
  | [], _, h, _ => h
  | g :: ws, _, h, hw => Tg.steps ws (h.step (hw g (by simp))) fun g hg => hw g (by simp [hg])
theorem Tg.word {wide : Int} {s : St} (h : Tg s) {ws : List Gl} (h0 : 0 < ws.length) (hw : ∀ g ∈ ws, g.isSign = true) : Tg (wordS wide ws s) := by
  unfold wordS; split
  · refine Tg.drop ⟨by rw [putsS_out]; exact h.out, ?_⟩
    rw [putsS_line]
    obtain ⟨l, g, rfl⟩ : ∃ l g, ws = l ++ [g] := ⟨ws.dropLast, ws.getLast (by intro e; rw [e] at h0; simp at h0), (List.dropLast_concat_getLast _).symm⟩
    rw [← List.append_assoc, ← List.append_assoc]
    exact tight_snoc _ g (hw g (by simp))
  · refine Tg.steps ws ?_ hw
    unfold startS; split
    · exact h.drop.end_
    · exact h.drop
theorem Tg.flush {wide : Int} {x : St × List Gl} (h : Tg x.1) (hw : ∀ g ∈ x.2, g.isSign = true) : Tg (flushS wide x) := by
  unfold flushS; split
  · exact h.word ‹_› hw
  · exact h
theorem Tg.eat {wide : Int} {x : St × List Gl} (h : Tg x.1) (hw : ∀ g ∈ x.2, g.isSign = true) {g : Gl} (hg : g.isTab = false) : Tg (eatS wide x g).1 ∧ ∀ g' ∈ (eatS wide x g).2, g'.isSign = true := by
  have hf := h.flush (wide := wide) hw
  unfold eatS; split
  · rename_i h3
    refine ⟨h, fun g' hg' => ?_⟩
    rcases List.mem_append.1 hg' with h4 | h4
    · exact hw g' h4
    · simp at h4; subst h4; exact fixG_sign wide g ((sign_iff g).2 h3)
  · split
    · refine ⟨?_, by simp⟩
      unfold waitS; split
      · exact ⟨hf.out, hf.line⟩
      · exact hf
    · refine ⟨?_, by simp⟩
      unfold leapS; split
      · rename_i h1
        exfalso
        unfold Gl.kind at h1
        unfold Gl.isTab at hg
        rw [hg] at h1
        split at h1
        · cases h1
        · simp at h1
          split at h1 <;> cases h1
      · exact hf.end_
theorem Tg.eats {wide : Int} : ∀ (l : List Gl) {x : St × List Gl}, Tg x.1 → (∀ g ∈ x.2, g.isSign = true) → (∀ g ∈ l, g.isTab = false) → Tg (l.foldl (eatS wide) x).1 ∧ ∀ g' ∈ (l.foldl (eatS wide) x).2, g'.isSign = true
  | [], _, h, hw, _ => ⟨h, hw⟩
  | g :: l, x, h, hw, hl => by
    obtain ⟨h1, h2⟩ := h.eat (wide := wide) hw (hl g (by simp))
    exact Tg.eats l h1 h2 fun g hg => hl g (by simp [hg])
theorem fillS_tight (wide : Int) (l : List Gl) (hl : ∀ g ∈ l, g.isTab = false) : ∀ x ∈ fillS wide l, Tight x := by
  obtain ⟨h1, h2⟩ := Tg.eats (wide := wide) l (x := (initS, [])) ⟨by simp [initS], by simp [initS]; exact tight_nil⟩ (by simp) hl
  have h3 := h1.flush (wide := wide) h2
  unfold fillS doneS; split
  · exact h3.end_.out
  · exact h3.out
end Go.Proofs.Ytepacocajnobgaa
