/- Plain: what clauses find. -/
import Derived.Test.YthpbdeiphagkiaaGreatDoorWords
import Derived.Test.YthpbdeiphagkiaaGreatDoorMergeParts
namespace Go.Proofs.YthpbdeiphagkiaaGreatDoor.Find

structure Cl where
  words : List Wd
  no : Bool
  opn : Bool
structure Fnd where
  topic : Int
  score : Int
  place : Int
deriving DecidableEq

def standsB (c : Cl) (l : List Wd) (k : Nat) : Bool :=
  decide (c.words.length ≤ l.length - k) && (List.range c.words.length).all fun i => l.getD (k + i) [] == c.words.getD i [] || (i + 1 == c.words.length && c.opn && (c.words.getD i []).isPrefixOf (l.getD (k + i) []))
def hits (c : Cl) (l : List Wd) : List Nat := (List.range l.length).filter (standsB c l)

def stepF (k : Fnd) (t b : List Nat) : Fnd :=
  { topic := k.topic, score := k.score + (10 * (t.length : Int) + (b.length : Int)), place := if 0 < b.length ∧ (k.place < 0 ∨ ((b.getD 0 0 : Nat) : Int) < k.place) then ((b.getD 0 0 : Nat) : Int) else k.place }
def foundF (has : Cl → Bool) (T B : List Wd) (k : Fnd) : List Cl → Option Fnd
  | [] => some k
  | c :: cs => if c.words.isEmpty || (c.no && !has c) then foundF has T B k cs
    else if decide (0 < (hits c T).length + (hits c B).length) == c.no then none
    else if c.no then foundF has T B k cs else foundF has T B (stepF k (hits c T) (hits c B)) cs
def found0 (i : Nat) : Fnd := { topic := i, score := 0, place := -1 }
def asksN (cs : List Cl) : Nat := (cs.filter fun c => !c.no && !c.words.isEmpty).length

abbrev Lists := List (List Wd × List Wd)
/-- Where a word stands: topic, title or text, place. -/
abbrev Spot := Nat × Nat × Nat
def placesOf (w : Wd) (l : List Wd) : List Nat := (List.range l.length).filter fun k => l.getD k [] == w
def spotsOf (LL : Lists) (w : Wd) : List Spot :=
  (List.range LL.length).flatMap fun i => ((placesOf w (LL.getD i ([], [])).1).map fun k => (i, 0, k)) ++ ((placesOf w (LL.getD i ([], [])).2).map fun k => (i, 1, k))
def hasC (LL : Lists) (c : Cl) : Bool := (c.words.length == 1 && c.opn) || !(spotsOf LL (c.words.getD 0 [])).isEmpty
def foundsF (LL : Lists) (cs : List Cl) (n : Nat) : List Fnd := (List.range n).filterMap fun i => foundF (hasC LL) (LL.getD i ([], [])).1 (LL.getD i ([], [])).2 (found0 i) cs
def founds (LL : Lists) (cs : List Cl) : List Fnd := if 0 < asksN cs then foundsF LL cs LL.length else []

/-- Stands ahead: the better; of equals the one with the lesser topic. -/
def Ahead (x y : Fnd) : Prop := y.score < x.score ∨ (x.score = y.score ∧ x.topic < y.topic)
theorem Ahead.trans {x y z : Fnd} (h : Ahead x y) (h' : Ahead y z) : Ahead x z := by unfold Ahead at *; omega
theorem Ahead.asym {x y : Fnd} (h : Ahead x y) : ¬ Ahead y x := by unfold Ahead at *; omega
/-- What is told. -/
def Told (LL : Lists) (cs : List Cl) (R : List Fnd) : Prop := R.Pairwise Ahead ∧ R.Perm (founds LL cs)
theorem Told.unique {LL cs R S} (h : Told LL cs R) (h' : Told LL cs S) : R = S :=
  sorted_unique (T := Ahead) (fun {_ _} => Ahead.asym) h.1 h'.1 (h.2.trans h'.2.symm)

theorem mem_placesOf {w : Wd} {l : List Wd} {k : Nat} : k ∈ placesOf w l ↔ k < l.length ∧ l.getD k [] = w := by
  simp [placesOf]
theorem mem_spotsOf {LL : Lists} {w : Wd} {s : Spot} : s ∈ spotsOf LL w ↔ s.1 < LL.length ∧ ((s.2.1 = 0 ∧ s.2.2 ∈ placesOf w (LL.getD s.1 ([], [])).1) ∨ (s.2.1 = 1 ∧ s.2.2 ∈ placesOf w (LL.getD s.1 ([], [])).2)) := by
  obtain ⟨i, j, k⟩ := s
  simp only [spotsOf, List.mem_flatMap, List.mem_range, List.mem_append, List.mem_map, Prod.mk.injEq]
  constructor
  · rintro ⟨a, ha, ⟨b, hb, rfl, rfl, rfl⟩ | ⟨b, hb, rfl, rfl, rfl⟩⟩
    · exact ⟨ha, .inl ⟨rfl, hb⟩⟩
    · exact ⟨ha, .inr ⟨rfl, hb⟩⟩
  · rintro ⟨ha, ⟨rfl, hb⟩ | ⟨rfl, hb⟩⟩
    · exact ⟨i, ha, .inl ⟨k, hb, rfl, rfl, rfl⟩⟩
    · exact ⟨i, ha, .inr ⟨k, hb, rfl, rfl, rfl⟩⟩
theorem placesOf_mem {w : Wd} {l : List Wd} : (∃ k, k ∈ placesOf w l) ↔ w ∈ l := by
  constructor
  · rintro ⟨k, hk⟩
    obtain ⟨h1, h2⟩ := mem_placesOf.1 hk
    rw [← h2, List.getD_eq_getElem?_getD, List.getElem?_eq_getElem h1]
    exact List.getElem_mem h1
  · intro h
    obtain ⟨k, hk, he⟩ := List.mem_iff_getElem.1 h
    exact ⟨k, mem_placesOf.2 ⟨hk, by rw [List.getD_eq_getElem?_getD, List.getElem?_eq_getElem hk]; exact he⟩⟩
/-- A word stands somewhere just if some list has it. -/
theorem spotsOf_ne {LL : Lists} {w : Wd} : spotsOf LL w ≠ [] ↔ ∃ i, i < LL.length ∧ (w ∈ (LL.getD i ([], [])).1 ∨ w ∈ (LL.getD i ([], [])).2) := by
  constructor
  · intro h
    obtain ⟨s, hs⟩ := List.exists_mem_of_ne_nil _ h
    obtain ⟨h1, ⟨_, h2⟩ | ⟨_, h2⟩⟩ := mem_spotsOf.1 hs
    · exact ⟨s.1, h1, .inl (placesOf_mem.1 ⟨_, h2⟩)⟩
    · exact ⟨s.1, h1, .inr (placesOf_mem.1 ⟨_, h2⟩)⟩
  · rintro ⟨i, h1, h2 | h2⟩
    · obtain ⟨k, hk⟩ := placesOf_mem.2 h2
      exact List.ne_nil_of_mem (a := (i, 0, k)) (mem_spotsOf.2 ⟨h1, .inl ⟨rfl, hk⟩⟩)
    · obtain ⟨k, hk⟩ := placesOf_mem.2 h2
      exact List.ne_nil_of_mem (a := (i, 1, k)) (mem_spotsOf.2 ⟨h1, .inr ⟨rfl, hk⟩⟩)

/- A clause of one word, as it is. -/
def one (w : Wd) : Cl := ⟨[w], false, false⟩
theorem stands_one {c : Cl} {w : Wd} (hw : c.words = [w]) (ho : c.opn = false) {l : List Wd} {k : Nat} (hk : k < l.length) : standsB c l k = (l.getD k [] == w) := by
  simp [standsB, hw, ho]; intro; omega
theorem hits_one {c : Cl} {w : Wd} (hw : c.words = [w]) (ho : c.opn = false) (l : List Wd) : hits c l = placesOf w l := by
  unfold hits placesOf
  apply List.filter_congr
  intro k hk
  exact stands_one hw ho (List.mem_range.1 hk)
theorem stands_open {c : Cl} {w : Wd} (hw : c.words = [w]) (ho : c.opn = true) {l : List Wd} {k : Nat} (hk : k < l.length) : standsB c l k = (l.getD k [] == w || w.isPrefixOf (l.getD k [])) := by
  simp [standsB, hw, ho]; intro; omega

/-- All topics' lists. -/
def allAt (LL : Lists) (i : Nat) : List Wd := (LL.getD i ([], [])).1 ++ (LL.getD i ([], [])).2
/-- A clause stands in a topic. -/
def hit (c : Cl) (LL : Lists) (i : Nat) : Bool := decide (0 < (hits c (LL.getD i ([], [])).1).length + (hits c (LL.getD i ([], [])).2).length)

theorem hit_has {c : Cl} {LL : Lists} {i : Nat} (hi : i < LL.length) (hw : c.words ≠ []) (h : hit c LL i = true) : hasC LL c = true := by
  unfold hasC
  rw [Bool.or_eq_true]
  by_cases ho : c.words.length = 1 ∧ c.opn = true
  · left; simp [ho]
  · right
    rw [Bool.not_eq_true', List.isEmpty_eq_false_iff, spotsOf_ne]
    simp only [hit, decide_eq_true_eq] at h
    have key : ∀ l, 0 < (hits c l).length → c.words.getD 0 [] ∈ l := fun l hl => by
      obtain ⟨k, hk⟩ := List.exists_mem_of_length_pos hl
      simp only [hits, List.mem_filter, List.mem_range, standsB, Bool.and_eq_true, decide_eq_true_eq, List.all_eq_true] at hk
      obtain ⟨h1, h2, h3⟩ := hk
      have h0 : 0 < c.words.length := List.length_pos_iff.2 hw
      have h4 := h3 0 h0
      rw [Nat.add_zero] at h4
      have : (0 + 1 == c.words.length && c.opn) = false := by
        rw [Bool.and_eq_false_iff]
        by_cases hc : c.opn = true
        · left; simp only [beq_eq_false_iff_ne]; intro e; exact ho ⟨e.symm, hc⟩
        · right; simpa using hc
      rw [this, Bool.false_and, Bool.or_false, beq_iff_eq] at h4
      rw [← h4, List.getD_eq_getElem?_getD, List.getElem?_eq_getElem h1]
      exact List.getElem_mem h1
    rcases (by omega : 0 < (hits c (LL.getD i ([], [])).1).length ∨ 0 < (hits c (LL.getD i ([], [])).2).length) with h | h
    · exact ⟨i, hi, .inl (key _ h)⟩
    · exact ⟨i, hi, .inr (key _ h)⟩

/-- What clauses find in a topic: something just if each that asks hits it, none that must not does. -/
theorem foundF_some (LL : Lists) (i : Nat) (hi : i < LL.length) : ∀ (cs : List Cl) (k : Fnd), (foundF (hasC LL) (LL.getD i ([], [])).1 (LL.getD i ([], [])).2 k cs).isSome = true ↔ ∀ c ∈ cs, c.words ≠ [] → hit c LL i = !c.no
  | [], k => by simp [foundF]
  | c :: cs, k => by
    have ih := foundF_some LL i hi cs
    unfold foundF
    by_cases hw : c.words = []
    · rw [if_pos (by simp [hw]), ih]
      simp [hw]
    · have he : c.words.isEmpty = false := by simpa using hw
      by_cases hn : c.no = true ∧ hasC LL c = false
      · rw [if_pos (by simp [hn]), ih]
        have : hit c LL i = false := by
          cases hh : hit c LL i with
          | false => rfl
          | true => rw [hit_has hi hw hh] at hn; exact absurd hn.2 (by simp)
        simp [this, hn.1]
      · rw [if_neg (by simp [he]; intro h; simpa [h] using hn)]
        by_cases hd : decide (0 < (hits c (LL.getD i ([], [])).1).length + (hits c (LL.getD i ([], [])).2).length) = c.no
        · rw [if_pos (beq_iff_eq.2 hd)]
          simp only [Option.isSome_none, List.mem_cons, forall_eq_or_imp]
          constructor
          · intro h; cases h
          · rintro ⟨h, _⟩
            have := h hw
            unfold hit at this
            rw [hd] at this
            cases hc : c.no <;> simp [hc] at this
        · rw [if_neg (by simpa using hd)]
          have hh : hit c LL i = !c.no := by
            unfold hit
            cases hc : c.no <;> cases hx : decide (0 < (hits c (LL.getD i ([], [])).1).length + (hits c (LL.getD i ([], [])).2).length) <;> simp_all
          split <;> rw [ih] <;> simp [hh]

theorem foundF_topic (has : Cl → Bool) (T B : List Wd) : ∀ (cs : List Cl) (k x : Fnd), foundF has T B k cs = some x → x.topic = k.topic
  | [], k, x, h => by simp [foundF] at h; rw [h]
  | c :: cs, k, x, h => by
    unfold foundF at h
    split at h
    · exact foundF_topic has T B cs k x h
    · split at h
      · cases h
      · split at h
        · exact foundF_topic has T B cs k x h
        · have := foundF_topic has T B cs _ x h; exact this

/-- Whose topics are found. -/
theorem mem_founds_topic {LL : Lists} {cs : List Cl} (ha : 0 < asksN cs) (i : Nat) : (∃ x ∈ founds LL cs, x.topic = (i : Int)) ↔ i < LL.length ∧ ∀ c ∈ cs, c.words ≠ [] → hit c LL i = !c.no := by
  unfold founds
  rw [if_pos ha]
  simp only [foundsF, List.mem_filterMap, List.mem_range]
  constructor
  · rintro ⟨x, ⟨j, hj, hx⟩, ht⟩
    have := foundF_topic _ _ _ _ _ _ hx
    have hji : j = i := by rw [ht] at this; simp [found0] at this; omega
    subst hji
    exact ⟨hj, (foundF_some LL j hj cs (found0 j)).1 (by rw [hx]; rfl)⟩
  · rintro ⟨hi, h⟩
    obtain ⟨x, hx⟩ := Option.isSome_iff_exists.1 ((foundF_some LL i hi cs (found0 i)).2 h)
    exact ⟨x, ⟨i, hi, hx⟩, by rw [foundF_topic _ _ _ _ _ _ hx]; rfl⟩
theorem founds_topic_nat {LL : Lists} {cs : List Cl} {x : Fnd} (h : x ∈ founds LL cs) : ∃ i : Nat, i < LL.length ∧ x.topic = i := by
  unfold founds at h
  split at h
  · simp only [foundsF, List.mem_filterMap, List.mem_range] at h
    obtain ⟨j, hj, hx⟩ := h
    exact ⟨j, hj, by rw [foundF_topic _ _ _ _ _ _ hx]; rfl⟩
  · cases h
end Go.Proofs.YthpbdeiphagkiaaGreatDoor.Find
/- Plain: the order of clauses is no matter; what one word counts. -/
namespace Go.Proofs.YthpbdeiphagkiaaGreatDoor.Find

theorem stepF_comm (k : Fnd) (t b t' b' : List Nat) : stepF (stepF k t b) t' b' = stepF (stepF k t' b') t b := by
  unfold stepF
  simp only [Fnd.mk.injEq]
  refine ⟨trivial, by omega, ?_⟩
  repeat' split
  all_goals omega

def asking (cs : List Cl) : List Cl := cs.filter fun c => !c.no && !c.words.isEmpty
theorem foundF_val (has : Cl → Bool) (T B : List Wd) : ∀ (cs : List Cl) (k x : Fnd), foundF has T B k cs = some x → x = (asking cs).foldl (fun k c => stepF k (hits c T) (hits c B)) k
  | [], k, x, h => by simp [foundF] at h; simp [asking, h]
  | c :: cs, k, x, h => by
    have ih := foundF_val has T B cs
    unfold foundF at h
    split at h
    · rename_i hc
      rw [ih k x h]
      have : (!c.no && !c.words.isEmpty) = false := by
        rw [Bool.or_eq_true] at hc
        rcases hc with hc | hc
        · simp [hc]
        · simp only [Bool.and_eq_true] at hc; simp [hc.1]
      simp only [asking, List.filter_cons, this]
      rfl
    · rename_i hc
      split at h
      · cases h
      · split at h
        · rename_i hn
          rw [ih k x h]
          simp only [asking, List.filter_cons, hn]
          rfl
        · rename_i hn
          rw [ih _ x h]
          have he : c.words.isEmpty = false := by
            cases hx : c.words.isEmpty with
            | false => rfl
            | true => simp [hx] at hc
          have hn' : c.no = false := by simpa using hn
          simp only [asking, List.filter_cons, he, hn']
          rfl

theorem foundF_perm (LL : Lists) (i : Nat) (hi : i < LL.length) {cs ds : List Cl} (hp : cs.Perm ds) (k : Fnd) :
    foundF (hasC LL) (LL.getD i ([], [])).1 (LL.getD i ([], [])).2 k cs = foundF (hasC LL) (LL.getD i ([], [])).1 (LL.getD i ([], [])).2 k ds := by
  have h1 := foundF_some LL i hi cs k
  have h2 := foundF_some LL i hi ds k
  have h12 : (foundF (hasC LL) (LL.getD i ([], [])).1 (LL.getD i ([], [])).2 k cs).isSome = true ↔ (foundF (hasC LL) (LL.getD i ([], [])).1 (LL.getD i ([], [])).2 k ds).isSome = true := by
    rw [h1, h2]
    constructor
    · intro h c hc; exact h c (hp.mem_iff.2 hc)
    · intro h c hc; exact h c (hp.mem_iff.1 hc)
  cases ha : foundF (hasC LL) (LL.getD i ([], [])).1 (LL.getD i ([], [])).2 k cs with
  | none =>
    cases hb : foundF (hasC LL) (LL.getD i ([], [])).1 (LL.getD i ([], [])).2 k ds with
    | none => rfl
    | some y => rw [ha, hb] at h12; simp at h12
  | some x =>
    cases hb : foundF (hasC LL) (LL.getD i ([], [])).1 (LL.getD i ([], [])).2 k ds with
    | none => rw [ha, hb] at h12; simp at h12
    | some y =>
      rw [foundF_val _ _ _ _ _ _ ha, foundF_val _ _ _ _ _ _ hb]
      congr 1
      exact List.Perm.foldl_eq' (hp.filter _) (fun _ _ _ _ _ => stepF_comm _ _ _ _ _) k

theorem filterMap_same {α β : Type} {f g : α → Option β} : ∀ {l : List α}, (∀ x ∈ l, f x = g x) → l.filterMap f = l.filterMap g
  | [], _ => rfl
  | a :: l, h => by
    rw [List.filterMap_cons, List.filterMap_cons, h a (by simp), filterMap_same fun x hx => h x (by simp [hx])]
theorem founds_perm (LL : Lists) {cs ds : List Cl} (hp : cs.Perm ds) : founds LL cs = founds LL ds := by
  have : asksN cs = asksN ds := (hp.filter _).length_eq
  unfold founds
  rw [this]
  split
  · unfold foundsF
    apply filterMap_same
    intro i hi
    exact foundF_perm LL i (List.mem_range.1 hi) hp _
  · rfl

/-- What one word counts in a topic. -/
theorem founds_one {LL : Lists} {w : Wd} {x : Fnd} (h : x ∈ founds LL [one w]) : ∃ i : Nat, i < LL.length ∧
    x = ⟨i, 10 * ((placesOf w (LL.getD i ([], [])).1).length : Int) + ((placesOf w (LL.getD i ([], [])).2).length : Int), match placesOf w (LL.getD i ([], [])).2 with | [] => -1 | k :: _ => k⟩ ∧
    0 < (placesOf w (LL.getD i ([], [])).1).length + (placesOf w (LL.getD i ([], [])).2).length := by
  unfold founds at h
  split at h
  · simp only [foundsF, List.mem_filterMap, List.mem_range] at h
    obtain ⟨j, hj, hx⟩ := h
    have hs := (foundF_some LL j hj _ _).1 (by rw [hx]; rfl) (one w) (by simp) (by simp [one])
    have hv := foundF_val _ _ _ _ _ _ hx
    have ha : asking [one w] = [one w] := rfl
    rw [ha] at hv
    simp only [List.foldl_cons, List.foldl_nil, hits_one (w := w) (c := one w) rfl rfl] at hv
    refine ⟨j, hj, ?_, ?_⟩
    · rw [hv]
      unfold stepF found0
      simp only [Fnd.mk.injEq]
      refine ⟨trivial, by omega, ?_⟩
      cases hp : placesOf w (LL.getD j ([], [])).2 with
      | nil => simp
      | cons a l => simp
    · simp only [hit, hits_one (w := w) (c := one w) rfl rfl] at hs
      simpa [one] using hs
  · cases h
end Go.Proofs.YthpbdeiphagkiaaGreatDoor.Find
/- Plain: the topics of what is found; how many topics have a word. -/
namespace Go.Proofs.YthpbdeiphagkiaaGreatDoor.Find

theorem asc_unique {A B : List Int} (hA : A.Pairwise (· < ·)) (hB : B.Pairwise (· < ·)) (h : ∀ t, t ∈ A ↔ t ∈ B) : A = B := by
  have nd : ∀ {C : List Int}, C.Pairwise (· < ·) → C.Nodup := fun hC => hC.imp fun hxy => by omega
  exact sorted_unique (T := fun x y : Int => x < y) (fun {_ _} h => by omega) hA hB ((List.perm_ext_iff_of_nodup (nd hA) (nd hB)).2 h)

def okB (LL : Lists) (cs : List Cl) (i : Nat) : Bool := decide (0 < asksN cs) && cs.all fun c => c.words.isEmpty || hit c LL i == !c.no
def okTopics (LL : Lists) (cs : List Cl) : List Int := ((List.range LL.length).filter (okB LL cs)).map fun (i : Nat) => (i : Int)

theorem filter_range_asc (n : Nat) (p : Nat → Bool) : (((List.range n).filter p).map fun (i : Nat) => (i : Int)).Pairwise (· < ·) := by
  rw [List.pairwise_map]
  exact (List.pairwise_lt_range.filter _).imp fun h => by omega

/-- The numbers of what is told, each once, rising. -/
def Rises (T : List Int) (l : List Int) : Prop := T.Pairwise (· < ·) ∧ ∀ t, t ∈ T ↔ t ∈ l

theorem topics_told {LL : Lists} {cs : List Cl} {R : List Fnd} {T : List Int} (h : Told LL cs R) (hT : Rises T (R.map (·.topic))) : T = okTopics LL cs := by
  refine asc_unique hT.1 (filter_range_asc _ _) fun t => ?_
  rw [hT.2, List.mem_map]
  simp only [okTopics, List.mem_map, List.mem_filter, List.mem_range]
  have hm : ∀ x, x ∈ R ↔ x ∈ founds LL cs := fun x => h.2.mem_iff
  by_cases ha : 0 < asksN cs
  · have key := fun i => mem_founds_topic (LL := LL) ha i
    have ok : ∀ i, okB LL cs i = true ↔ ∀ c ∈ cs, c.words ≠ [] → hit c LL i = !c.no := fun i => by
      simp only [okB, ha, decide_true, Bool.true_and, List.all_eq_true, Bool.or_eq_true, beq_iff_eq, List.isEmpty_iff]
      constructor
      · intro h c hc hw; exact (h c hc).resolve_left hw
      · intro h c hc; exact (Classical.em (c.words = [])).imp id (h c hc)
    constructor
    · rintro ⟨x, hx, rfl⟩
      obtain ⟨i, hi, e⟩ := founds_topic_nat ((hm x).1 hx)
      exact ⟨i, ⟨hi, (ok i).2 ((key i).1 ⟨x, (hm x).1 hx, e⟩).2⟩, e.symm⟩
    · rintro ⟨i, ⟨hi, ho⟩, rfl⟩
      obtain ⟨x, hx, e⟩ := (key i).2 ⟨hi, (ok i).1 ho⟩
      exact ⟨x, (hm x).2 hx, e⟩
  · constructor
    · rintro ⟨x, hx, rfl⟩
      have := (hm x).1 hx
      unfold founds at this
      rw [if_neg ha] at this
      cases this
    · rintro ⟨i, ⟨_, ho⟩, _⟩
      simp [okB, ha] at ho

theorem hit_one {c : Cl} {w : Wd} (hw : c.words = [w]) (ho : c.opn = false) (LL : Lists) (i : Nat) : hit c LL i = decide (w ∈ allAt LL i) := by
  have key : ∀ l, 0 < (placesOf w l).length ↔ w ∈ l := fun l => by
    rw [← placesOf_mem, List.length_pos_iff]
    exact ⟨fun h => List.exists_mem_of_ne_nil _ h, fun ⟨k, hk⟩ => List.ne_nil_of_mem hk⟩
  unfold hit allAt
  rw [hits_one hw ho, hits_one hw ho, decide_eq_decide, List.mem_append, ← key, ← key]
  omega
theorem hit_open {c : Cl} {w : Wd} (hw : c.words = [w]) (ho : c.opn = true) (LL : Lists) (i : Nat) : hit c LL i = true ↔ ∃ x ∈ allAt LL i, w <+: x := by
  have key : ∀ l, 0 < (hits c l).length ↔ ∃ x ∈ l, w <+: x := fun l => by
    rw [List.length_pos_iff]
    constructor
    · intro h
      obtain ⟨k, hk⟩ := List.exists_mem_of_ne_nil _ h
      simp only [hits, List.mem_filter, List.mem_range] at hk
      obtain ⟨h1, h2⟩ := hk
      rw [stands_open hw ho h1, List.getD_eq_getElem?_getD, List.getElem?_eq_getElem h1, Option.getD_some, Bool.or_eq_true, beq_iff_eq, List.isPrefixOf_iff_prefix] at h2
      exact ⟨l[k], List.getElem_mem h1, h2.elim (fun e => by rw [e]; exact List.prefix_rfl) id⟩
    · rintro ⟨x, hx, hp⟩
      obtain ⟨k, hk, rfl⟩ := List.mem_iff_getElem.1 hx
      refine List.ne_nil_of_mem (a := k) ?_
      simp only [hits, List.mem_filter, List.mem_range]
      refine ⟨hk, ?_⟩
      rw [stands_open hw ho hk, List.getD_eq_getElem?_getD, List.getElem?_eq_getElem hk, Option.getD_some, Bool.or_eq_true, beq_iff_eq, List.isPrefixOf_iff_prefix]
      exact .inr hp
  unfold hit allAt
  rw [decide_eq_true_eq]
  have := key (LL.getD i ([], [])).1
  have := key (LL.getD i ([], [])).2
  constructor
  · intro h
    rcases (by omega : 0 < (hits c (LL.getD i ([], [])).1).length ∨ 0 < (hits c (LL.getD i ([], [])).2).length) with h | h
    · obtain ⟨x, hx, hp⟩ := (key _).1 h; exact ⟨x, List.mem_append_left _ hx, hp⟩
    · obtain ⟨x, hx, hp⟩ := (key _).1 h; exact ⟨x, List.mem_append_right _ hx, hp⟩
  · rintro ⟨x, hx, hp⟩
    rcases List.mem_append.1 hx with h | h
    · have := (key _).2 ⟨x, h, hp⟩; omega
    · have := (key _).2 ⟨x, h, hp⟩; omega

/-- How many topics: of spots in order, as often as the topic turns. -/
def countF (n : Int) (last : Int) : List Spot → Int
  | [] => n
  | s :: l => if (s.1 : Int) = last then countF n last l else countF (n + 1) s.1 l
theorem countF_same (i : Nat) (n : Int) : ∀ (l r : List Spot), (∀ s ∈ l, s.1 = i) → countF n i (l ++ r) = countF n i r
  | [], r, _ => rfl
  | s :: l, r, h => by
    rw [List.cons_append, countF, if_pos (by rw [h s (by simp)]), countF_same i n l r fun x hx => h x (by simp [hx])]
theorem countF_some (i : Nat) (n last : Int) (hl : last ≠ i) (l r : List Spot) (h : ∀ s ∈ l, s.1 = i) (hne : l ≠ []) : countF n last (l ++ r) = countF (n + 1) i r := by
  cases l with
  | nil => exact absurd rfl hne
  | cons s l =>
    have := h s (by simp)
    rw [List.cons_append, countF, if_neg (by rw [this]; exact fun e => hl e.symm), this, countF_same i _ l r fun x hx => h x (by simp [hx])]

def spotsAt (LL : Lists) (w : Wd) (i : Nat) : List Spot := ((placesOf w (LL.getD i ([], [])).1).map fun k => (i, 0, k)) ++ ((placesOf w (LL.getD i ([], [])).2).map fun k => (i, 1, k))
theorem spotsAt_topic {LL : Lists} {w : Wd} {i : Nat} : ∀ s ∈ spotsAt LL w i, s.1 = i := by
  intro s hs
  simp only [spotsAt, List.mem_append, List.mem_map] at hs
  rcases hs with ⟨k, _, rfl⟩ | ⟨k, _, rfl⟩ <;> rfl
theorem spotsAt_ne {LL : Lists} {w : Wd} {i : Nat} : spotsAt LL w i ≠ [] ↔ w ∈ allAt LL i := by
  unfold spotsAt allAt
  rw [List.mem_append, ← placesOf_mem, ← placesOf_mem, ne_eq, List.append_eq_nil_iff, List.map_eq_nil_iff, List.map_eq_nil_iff]
  constructor
  · intro h
    by_cases h1 : placesOf w (LL.getD i ([], [])).1 = []
    · right; exact List.exists_mem_of_ne_nil _ fun e => h ⟨h1, e⟩
    · left; exact List.exists_mem_of_ne_nil _ h1
  · rintro (⟨k, hk⟩ | ⟨k, hk⟩) ⟨e1, e2⟩
    · rw [e1] at hk; cases hk
    · rw [e2] at hk; cases hk
theorem countF_range (LL : Lists) (w : Wd) : ∀ (m from_ : Nat) (n last : Int), last < from_ → countF n last ((List.range' from_ m).flatMap (spotsAt LL w)) = n + (((List.range' from_ m).filter fun i => decide (w ∈ allAt LL i)).length : Int)
  | 0, _, n, last, _ => by simp [countF]
  | m + 1, f, n, last, hl => by
    rw [List.range'_succ, List.flatMap_cons, List.filter_cons]
    by_cases hw : w ∈ allAt LL f
    · rw [countF_some f n last (by omega) _ _ spotsAt_topic (spotsAt_ne.2 hw), countF_range LL w m (f + 1) _ _ (by omega), if_pos (by simpa using hw)]
      simp; omega
    · have : spotsAt LL w f = [] := by
        cases h : spotsAt LL w f with
        | nil => rfl
        | cons a l => exact absurd (spotsAt_ne.1 (by rw [h]; simp)) hw
      rw [this, List.nil_append, countF_range LL w m (f + 1) _ _ (by omega), if_neg (by simpa using hw)]
/-- How many topics have a word. -/
theorem countF_spots (LL : Lists) (w : Wd) : countF 0 (-1) (spotsOf LL w) = (((List.range LL.length).filter fun i => decide (w ∈ allAt LL i)).length : Int) := by
  have h := countF_range LL w LL.length 0 0 (-1) (by omega)
  rw [← List.range_eq_range', Int.zero_add] at h
  exact h
end Go.Proofs.YthpbdeiphagkiaaGreatDoor.Find
