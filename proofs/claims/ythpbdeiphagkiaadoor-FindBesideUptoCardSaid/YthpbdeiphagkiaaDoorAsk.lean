/- Plain: what clauses find. -/
import Derived.Test.YthpbdeiphagkiaaDoorWords
import Derived.Test.YthpbdeiphagkiaaDoorMergeParts
namespace Go.Proofs.YthpbdeiphagkiaaDoor.Find

structure Cl where
  words : List Wd
  no : Bool
  opn : Bool
structure Fnd where
  topic : Int
  score : Int
  place : Int
deriving DecidableEq

def standsB (c : Cl) (l : List Wd) (k : Nat) : Bool :=
  decide (c.words.length ≤ l.length - k) && (List.range c.words.length).all fun i => l.getD (k + i) [] == c.words.getD i [] || (i + 1 == c.words.length && c.opn && (c.words.getD i []).isPrefixOf (l.getD (k + i) []))
def hits (c : Cl) (l : List Wd) : List Nat := (List.range l.length).filter (standsB c l)

def stepF (k : Fnd) (t b : List Nat) : Fnd :=
  { topic := k.topic, score := k.score + (10 * (t.length : Int) + (b.length : Int)), place := if 0 < b.length ∧ (k.place < 0 ∨ ((b.getD 0 0 : Nat) : Int) < k.place) then ((b.getD 0 0 : Nat) : Int) else k.place }
def foundF (has : Cl → Bool) (T B : List Wd) (k : Fnd) : List Cl → Option Fnd
  | [] => some k
  | c :: cs => if c.words.isEmpty || (c.no && !has c) then foundF has T B k cs
    else if decide (0 < (hits c T).length + (hits c B).length) == c.no then none
    else if c.no then foundF has T B k cs else foundF has T B (stepF k (hits c T) (hits c B)) cs
def found0 (i : Nat) : Fnd := { topic := i, score := 0, place := -1 }
def asksN (cs : List Cl) : Nat := (cs.filter fun c => !c.no && !c.words.isEmpty).length

abbrev Lists := List (List Wd × List Wd)
/-- Where a word stands: topic, title or text, place. -/
abbrev Spot := Nat × Nat × Nat
def placesOf (w : Wd) (l : List Wd) : List Nat := (List.range l.length).filter fun k => l.getD k [] == w
def spotsOf (LL : Lists) (w : Wd) : List Spot :=
  (List.range LL.length).flatMap fun i => ((placesOf w (LL.getD i ([], [])).1).map fun k => (i, 0, k)) ++ ((placesOf w (LL.getD i ([], [])).2).map fun k => (i, 1, k))
def hasC (LL : Lists) (c : Cl) : Bool := (c.words.length == 1 && c.opn) || !(spotsOf LL (c.words.getD 0 [])).isEmpty
def foundsF (LL : Lists) (cs : List Cl) (n : Nat) : List Fnd := (List.range n).filterMap fun i => foundF (hasC LL) (LL.getD i ([], [])).1 (LL.getD i ([], [])).2 (found0 i) cs
def founds (LL : Lists) (cs : List Cl) : List Fnd := if 0 < asksN cs then foundsF LL cs LL.length else []

/-- Stands ahead: the better; of equals the one with the lesser topic. -/
def Ahead (x y : Fnd) : Prop := y.score < x.score ∨ (x.score = y.score ∧ x.topic < y.topic)
theorem Ahead.trans {x y z : Fnd} (h : Ahead x y) (h' : Ahead y z) : Ahead x z := by unfold Ahead at *; omega
theorem Ahead.asym {x y : Fnd} (h : Ahead x y) : ¬ Ahead y x := by unfold Ahead at *; omega
/-- What is told. -/
def Told (LL : Lists) (cs : List Cl) (R : List Fnd) : Prop := R.Pairwise Ahead ∧ R.Perm (founds LL cs)
theorem Told.unique {LL cs R S} (h : Told LL cs R) (h' : Told LL cs S) : R = S :=
  sorted_unique (T := Ahead) (fun {_ _} => Ahead.asym) h.1 h'.1 (h.2.trans h'.2.symm)

theorem mem_placesOf {w : Wd} {l : List Wd} {k : Nat} : k ∈ placesOf w l ↔ k < l.length ∧ l.getD k [] = w := by
  simp [placesOf]
theorem mem_spotsOf {LL : Lists} {w : Wd} {s : Spot} : s ∈ spotsOf LL w ↔ s.1 < LL.length ∧ ((s.2.1 = 0 ∧ s.2.2 ∈ placesOf w (LL.getD s.1 ([], [])).1) ∨ (s.2.1 = 1 ∧ s.2.2 ∈ placesOf w (LL.getD s.1 ([], [])).2)) := by
  obtain ⟨i, j, k⟩ := s
  simp only [spotsOf, List.mem_flatMap, List.mem_range, List.mem_append, List.mem_map, Prod.mk.injEq]
  constructor
  · rintro ⟨a, ha, ⟨b, hb, rfl, rfl, rfl⟩ | ⟨b, hb, rfl, rfl, rfl⟩⟩
    · exact ⟨ha, .inl ⟨rfl, hb⟩⟩
    · exact ⟨ha, .inr ⟨rfl, hb⟩⟩
  · rintro ⟨ha, ⟨rfl, hb⟩ | ⟨rfl, hb⟩⟩
    · exact ⟨i, ha, .inl ⟨k, hb, rfl, rfl, rfl⟩⟩
    · exact ⟨i, ha, .inr ⟨k, hb, rfl, rfl, rfl⟩⟩
theorem placesOf_mem {w : Wd} {l : List Wd} : (∃ k, k ∈ placesOf w l) ↔ w ∈ l := by
  constructor
  · rintro ⟨k, hk⟩
    obtain ⟨h1, h2⟩ := mem_placesOf.1 hk
    rw [← h2, List.getD_eq_getElem?_getD, List.getElem?_eq_getElem h1]
    exact List.getElem_mem h1
  · intro h
    obtain ⟨k, hk, he⟩ := List.mem_iff_getElem.1 h
    exact ⟨k, mem_placesOf.2 ⟨hk, by rw [List.getD_eq_getElem?_getD, List.getElem?_eq_getElem hk]; exact he⟩⟩
/-- A word stands somewhere just if some list has it. -/
theorem spotsOf_ne {LL : Lists} {w : Wd} : spotsOf LL w ≠ [] ↔ ∃ i, i < LL.length ∧ (w ∈ (LL.getD i ([], [])).1 ∨ w ∈ (LL.getD i ([], [])).2) := by
  constructor
  · intro h
    obtain ⟨s, hs⟩ := List.exists_mem_of_ne_nil _ h
    obtain ⟨h1, ⟨_, h2⟩ | ⟨_, h2⟩⟩ := mem_spotsOf.1 hs
    · exact ⟨s.1, h1, .inl (placesOf_mem.1 ⟨_, h2⟩)⟩
    · exact ⟨s.1, h1, .inr (placesOf_mem.1 ⟨_, h2⟩)⟩
  · rintro ⟨i, h1, h2 | h2⟩
    · obtain ⟨k, hk⟩ := placesOf_mem.2 h2
      exact List.ne_nil_of_mem (a := (i, 0, k)) (mem_spotsOf.2 ⟨h1, .inl ⟨rfl, hk⟩⟩)
    · obtain ⟨k, hk⟩ := placesOf_mem.2 h2
      exact List.ne_nil_of_mem (a := (i, 1, k)) (mem_spotsOf.2 ⟨h1, .inr ⟨rfl, hk⟩⟩)

/- A clause of one word, as it is. -/
def one (w : Wd) : Cl := ⟨[w], false, false⟩
theorem stands_one {c : Cl} {w : Wd} (hw : c.words = [w]) (ho : c.opn = false) {l : List Wd} {k : Nat} (hk : k < l.length) : standsB c l k = (l.getD k [] == w) := by
  simp [standsB, hw, ho]; intro; omega
theorem hits_one {c : Cl} {w : Wd} (hw : c.words = [w]) (ho : c.opn = false) (l : List Wd) : hits c l = placesOf w l := by
  unfold hits placesOf
  apply List.filter_congr
  intro k hk
  exact stands_one hw ho (List.mem_range.1 hk)
theorem stands_open {c : Cl} {w : Wd} (hw : c.words = [w]) (ho : c.opn = true) {l : List Wd} {k : Nat} (hk : k < l.length) : standsB c l k = (l.getD k [] == w || w.isPrefixOf (l.getD k [])) := by
  simp [standsB, hw, ho]; intro; omega

/-- All topics' lists. -/
def allAt (LL : Lists) (i : Nat) : List Wd := (LL.getD i ([], [])).1 ++ (LL.getD i ([], [])).2
/-- A clause stands in a topic. -/
def hit (c : Cl) (LL : Lists) (i : Nat) : Bool := decide (0 < (hits c (LL.getD i ([], [])).1).length + (hits c (LL.getD i ([], [])).2).length)

theorem hit_has {c : Cl} {LL : Lists} {i : Nat} (hi : i < LL.length) (hw : c.words ≠ []) (h : hit c LL i = true) : hasC LL c = true := by
  unfold hasC
  rw [Bool.or_eq_true]
  by_cases ho : c.words.length = 1 ∧ c.opn = true
  · left; simp [ho]
  · right
    rw [Bool.not_eq_true', List.isEmpty_eq_false_iff, spotsOf_ne]
    simp only [hit, decide_eq_true_eq] at h
    have key : ∀ l, 0 < (hits c l).length → c.words.getD 0 [] ∈ l := fun l hl => by
      obtain ⟨k, hk⟩ := List.exists_mem_of_length_pos hl
      simp only [hits, List.mem_filter, List.mem_range, standsB, Bool.and_eq_true, decide_eq_true_eq, List.all_eq_true] at hk
      obtain ⟨h1, h2, h3⟩ := hk
      have h0 : 0 < c.words.length := List.length_pos_iff.2 hw
      have h4 := h3 0 h0
      rw [Nat.add_zero] at h4
      have : (0 + 1 == c.words.length && c.opn) = false := by
        rw [Bool.and_eq_false_iff]
        by_cases hc : c.opn = true
        · left; simp only [beq_eq_false_iff_ne]; intro e; exact ho ⟨e.symm, hc⟩
        · right; simpa using hc
      rw [this, Bool.false_and, Bool.or_false, beq_iff_eq] at h4
      rw [← h4, List.getD_eq_getElem?_getD, List.getElem?_eq_getElem h1]
      exact List.getElem_mem h1
    rcases (by omega : 0 < (hits c (LL.getD i ([], [])).1).length ∨ 0 < (hits c (LL.getD i ([], [])).2).length) with h | h
    · exact ⟨i, hi, .inl (key _ h)⟩
    · exact ⟨i, hi, .inr (key _ h)⟩

/-- What clauses find in a topic: something just if each that asks hits it, none that must not does. -/
theorem foundF_some (LL : Lists) (i : Nat) (hi : i < LL.length) : ∀ (cs : List Cl) (k : Fnd), (foundF (hasC LL) (LL.getD i ([], [])).1 (LL.getD i ([], [])).2 k cs).isSome = true ↔ ∀ c ∈ cs, c.words ≠ [] → hit c LL i = !c.no
  | [], k => by simp [foundF]
  | c :: cs, k => by
    have ih := foundF_some LL i hi cs
    unfold foundF
    by_cases hw : c.words = []
    · rw [if_pos (by simp [hw]), ih]
      simp [hw]
    · have he : c.words.isEmpty = false := by simpa using hw
      by_cases hn : c.no = true ∧ hasC LL c = false
      · rw [if_pos (by simp [hn]), ih]
        have : hit c LL i = false := by
          cases hh : hit c LL i with
          | false => rfl
          | true => rw [hit_has hi hw hh] at hn; exact absurd hn.2 (by simp)
        simp [this, hn.1]
      · rw [if_neg (by simp [he]; intro h; simpa [h] using hn)]
        by_cases hd : decide (0 < (hits c (LL.getD i ([], [])).1).length + (hits c (LL.getD i ([], [])).2).length) = c.no
        · rw [if_pos (beq_iff_eq.2 hd)]
          simp only [Option.isSome_none, List.mem_cons, forall_eq_or_imp]
          constructor
          · intro h; cases h
          · rintro ⟨h, _⟩
            have := h hw
            unfold hit at this
            rw [hd] at this
            cases hc : c.no <;> simp [hc] at this
        · rw [if_neg (by simpa using hd)]
          have hh : hit c LL i = !c.no := by
            unfold hit
            cases hc : c.no <;> cases hx : decide (0 < (hits c (LL.getD i ([], [])).1).length + (hits c (LL.getD i ([], [])).2).length) <;> simp_all
          split <;> rw [ih] <;> simp [hh]

theorem foundF_topic (has : Cl → Bool) (T B : List Wd) : ∀ (cs : List Cl) (k x : Fnd), foundF has T B k cs = some x → x.topic = k.topic
  | [], k, x, h => by simp [foundF] at h; rw [h]
  | c :: cs, k, x, h => by
    unfold foundF at h
    split at h
    · exact foundF_topic has T B cs k x h
    · split at h
      · cases h
      · split at h
        · exact foundF_topic has T B cs k x h
        · have := foundF_topic has T B cs _ x h; exact this

/-- Whose topics are found. -/
theorem mem_founds_topic {LL : Lists} {cs : List Cl} (ha : 0 < asksN cs) (i : Nat) : (∃ x ∈ founds LL cs, x.topic = (i : Int)) ↔ i < LL.length ∧ ∀ c ∈ cs, c.words ≠ [] → hit c LL i = !c.no := by
  unfold founds
  rw [if_pos ha]
  simp only [foundsF, List.mem_filterMap, List.mem_range]
  constructor
  · rintro ⟨x, ⟨j, hj, hx⟩, ht⟩
    have := foundF_topic _ _ _ _ _ _ hx
    have hji : j = i := by rw [ht] at this; simp [found0] at this; omega
    subst hji
    exact ⟨hj, (foundF_some LL j hj cs (found0 j)).1 (by rw [hx]; rfl)⟩
  · rintro ⟨hi, h⟩
    obtain ⟨x, hx⟩ := Option.isSome_iff_exists.1 ((foundF_some LL i hi cs (found0 i)).2 h)
    exact ⟨x, ⟨i, hi, hx⟩, by rw [foundF_topic _ _ _ _ _ _ hx]; rfl⟩
theorem founds_topic_nat {LL : Lists} {cs : List Cl} {x : Fnd} (h : x ∈ founds LL cs) : ∃ i : Nat, i < LL.length ∧ x.topic = i := by
  unfold founds at h
  split at h
  · simp only [foundsF, List.mem_filterMap, List.mem_range] at h
    obtain ⟨j, hj, hx⟩ := h
    exact ⟨j, hj, by rw [foundF_topic _ _ _ _ _ _ hx]; rfl⟩
  · cases h
end Go.Proofs.YthpbdeiphagkiaaDoor.Find
