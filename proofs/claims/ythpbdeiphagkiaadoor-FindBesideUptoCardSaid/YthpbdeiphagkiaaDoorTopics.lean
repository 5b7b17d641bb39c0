/- Plain: the topics of what is found; how many topics have a word. -/
import Derived.Test.YthpbdeiphagkiaaDoorAsk2
namespace Go.Proofs.YthpbdeiphagkiaaDoor.Find

theorem asc_unique {A B : List Int} (hA : A.Pairwise (· < ·)) (hB : B.Pairwise (· < ·)) (h : ∀ t, t ∈ A ↔ t ∈ B) : A = B := by
  have nd : ∀ {C : List Int}, C.Pairwise (· < ·) → C.Nodup := fun hC => hC.imp fun hxy => by omega
  exact sorted_unique (T := fun x y : Int => x < y) (fun {_ _} h => by omega) hA hB ((List.perm_ext_iff_of_nodup (nd hA) (nd hB)).2 h)

def okB (LL : Lists) (cs : List Cl) (i : Nat) : Bool := decide (0 < asksN cs) && cs.all fun c => c.words.isEmpty || hit c LL i == !c.no
def okTopics (LL : Lists) (cs : List Cl) : List Int := ((List.range LL.length).filter (okB LL cs)).map fun (i : Nat) => (i : Int)

theorem filter_range_asc (n : Nat) (p : Nat → Bool) : (((List.range n).filter p).map fun (i : Nat) => (i : Int)).Pairwise (· < ·) := by
  rw [List.pairwise_map]
  exact (List.pairwise_lt_range.filter _).imp fun h => by omega

/-- The numbers of what is told, each once, rising. -/
def Rises (T : List Int) (l : List Int) : Prop := T.Pairwise (· < ·) ∧ ∀ t, t ∈ T ↔ t ∈ l

theorem topics_told {LL : Lists} {cs : List Cl} {R : List Fnd} {T : List Int} (h : Told LL cs R) (hT : Rises T (R.map (·.topic))) : T = okTopics LL cs := by
  refine asc_unique hT.1 (filter_range_asc _ _) fun t => ?_
  rw [hT.2, List.mem_map]
  simp only [okTopics, List.mem_map, List.mem_filter, List.mem_range]
  have hm : ∀ x, x ∈ R ↔ x ∈ founds LL cs := fun x => h.2.mem_iff
  by_cases ha : 0 < asksN cs
  · have key := fun i => mem_founds_topic (LL := LL) ha i
    have ok : ∀ i, okB LL cs i = true ↔ ∀ c ∈ cs, c.words ≠ [] → hit c LL i = !c.no := fun i => by
      simp only [okB, ha, decide_true, Bool.true_and, List.all_eq_true, Bool.or_eq_true, beq_iff_eq, List.isEmpty_iff]
      constructor
      · intro h c hc hw; exact (h c hc).resolve_left hw
      · intro h c hc; exact (Classical.em (c.words = [])).imp id (h c hc)
    constructor
    · rintro ⟨x, hx, rfl⟩
      obtain ⟨i, hi, e⟩ := founds_topic_nat ((hm x).1 hx)
      exact ⟨i, ⟨hi, (ok i).2 ((key i).1 ⟨x, (hm x).1 hx, e⟩).2⟩, e.symm⟩
    · rintro ⟨i, ⟨hi, ho⟩, rfl⟩
      obtain ⟨x, hx, e⟩ := (key i).2 ⟨hi, (ok i).1 ho⟩
      exact ⟨x, (hm x).2 hx, e⟩
  · constructor
    · rintro ⟨x, hx, rfl⟩
      have := (hm x).1 hx
      unfold founds at this
      rw [if_neg ha] at this
      cases this
    · rintro ⟨i, ⟨_, ho⟩, _⟩
      simp [okB, ha] at ho

theorem hit_one {c : Cl} {w : Wd} (hw : c.words = [w]) (ho : c.opn = false) (LL : Lists) (i : Nat) : hit c LL i = decide (w ∈ allAt LL i) := by
  have key : ∀ l, 0 < (placesOf w l).length ↔ w ∈ l := fun l => by
    rw [← placesOf_mem, List.length_pos_iff]
    exact ⟨fun h => List.exists_mem_of_ne_nil _ h, fun ⟨k, hk⟩ => List.ne_nil_of_mem hk⟩
  unfold hit allAt
  rw [hits_one hw ho, hits_one hw ho, decide_eq_decide, List.mem_append, ← key, ← key]
  omega
theorem hit_open {c : Cl} {w : Wd} (hw : c.words = [w]) (ho : c.opn = true) (LL : Lists) (i : Nat) : hit c LL i = true ↔ ∃ x ∈ allAt LL i, w <+: x := by
  have key : ∀ l, 0 < (hits c l).length ↔ ∃ x ∈ l, w <+: x := fun l => by
    rw [List.length_pos_iff]
    constructor
    · intro h
      obtain ⟨k, hk⟩ := List.exists_mem_of_ne_nil _ h
      simp only [hits, List.mem_filter, List.mem_range] at hk
      obtain ⟨h1, h2⟩ := hk
      rw [stands_open hw ho h1, List.getD_eq_getElem?_getD, List.getElem?_eq_getElem h1, Option.getD_some, Bool.or_eq_true, beq_iff_eq, List.isPrefixOf_iff_prefix] at h2
      exact ⟨l[k], List.getElem_mem h1, h2.elim (fun e => by rw [e]; exact List.prefix_rfl) id⟩
    · rintro ⟨x, hx, hp⟩
      obtain ⟨k, hk, rfl⟩ := List.mem_iff_getElem.1 hx
      refine List.ne_nil_of_mem (a := k) ?_
      simp only [hits, List.mem_filter, List.mem_range]
      refine ⟨hk, ?_⟩
      rw [stands_open hw ho hk, List.getD_eq_getElem?_getD, List.getElem?_eq_getElem hk, Option.getD_some, Bool.or_eq_true, beq_iff_eq, List.isPrefixOf_iff_prefix]
      exact .inr hp
  unfold hit allAt
  rw [decide_eq_true_eq]
  have := key (LL.getD i ([], [])).1
  have := key (LL.getD i ([], [])).2
  constructor
  · intro h
    rcases (by omega : 0 < (hits c (LL.getD i ([], [])).1).length ∨ 0 < (hits c (LL.getD i ([], [])).2).length) with h | h
    · obtain ⟨x, hx, hp⟩ := (key _).1 h; exact ⟨x, List.mem_append_left _ hx, hp⟩
    · obtain ⟨x, hx, hp⟩ := (key _).1 h; exact ⟨x, List.mem_append_right _ hx, hp⟩
  · rintro ⟨x, hx, hp⟩
    rcases List.mem_append.1 hx with h | h
    · have := (key _).2 ⟨x, h, hp⟩; omega
    · have := (key _).2 ⟨x, h, hp⟩; omega

/-- How many topics: of spots in order, as often as the topic turns. -/
def countF (n : Int) (last : Int) : List Spot → Int
  | [] => n
  | s :: l => if (s.1 : Int) = last then countF n last l else countF (n + 1) s.1 l
theorem countF_same (i : Nat) (n : Int) : ∀ (l r : List Spot), (∀ s ∈ l, s.1 = i) → countF n i (l ++ r) = countF n i r
  | [], r, _ => rfl
  | s :: l, r, h => by
    rw [List.cons_append, countF, if_pos (by rw [h s (by simp)]), countF_same i n l r fun x hx => h x (by simp [hx])]
theorem countF_some (i : Nat) (n last : Int) (hl : last ≠ i) (l r : List Spot) (h : ∀ s ∈ l, s.1 = i) (hne : l ≠ []) : countF n last (l ++ r) = countF (n + 1) i r := by
  cases l with
  | nil => exact absurd rfl hne
  | cons s l =>
    have := h s (by simp)
    rw [List.cons_append, countF, if_neg (by rw [this]; exact fun e => hl e.symm), this, countF_same i _ l r fun x hx => h x (by simp [hx])]

def spotsAt (LL : Lists) (w : Wd) (i : Nat) : List Spot := ((placesOf w (LL.getD i ([], [])).1).map fun k => (i, 0, k)) ++ ((placesOf w (LL.getD i ([], [])).2).map fun k => (i, 1, k))
theorem spotsAt_topic {LL : Lists} {w : Wd} {i : Nat} : ∀ s ∈ spotsAt LL w i, s.1 = i := by
  intro s hs
  simp only [spotsAt, List.mem_append, List.mem_map] at hs
  rcases hs with ⟨k, _, rfl⟩ | ⟨k, _, rfl⟩ <;> rfl
theorem spotsAt_ne {LL : Lists} {w : Wd} {i : Nat} : spotsAt LL w i ≠ [] ↔ w ∈ allAt LL i := by
  unfold spotsAt allAt
  rw [List.mem_append, ← placesOf_mem, ← placesOf_mem, ne_eq, List.append_eq_nil_iff, List.map_eq_nil_iff, List.map_eq_nil_iff]
  constructor
  · intro h
    by_cases h1 : placesOf w (LL.getD i ([], [])).1 = []
    · right; exact List.exists_mem_of_ne_nil _ fun e => h ⟨h1, e⟩
    · left; exact List.exists_mem_of_ne_nil _ h1
  · rintro (⟨k, hk⟩ | ⟨k, hk⟩) ⟨e1, e2⟩
    · rw [e1] at hk; cases hk
    · rw [e2] at hk; cases hk
theorem countF_range (LL : Lists) (w : Wd) : ∀ (m from_ : Nat) (n last : Int), last < from_ → countF n last ((List.range' from_ m).flatMap (spotsAt LL w)) = n + (((List.range' from_ m).filter fun i => decide (w ∈ allAt LL i)).length : Int)
  | 0, _, n, last, _ => by simp [countF]
  | m + 1, f, n, last, hl => by
    rw [List.range'_succ, List.flatMap_cons, List.filter_cons]
    by_cases hw : w ∈ allAt LL f
    · rw [countF_some f n last (by omega) _ _ spotsAt_topic (spotsAt_ne.2 hw), countF_range LL w m (f + 1) _ _ (by omega), if_pos (by simpa using hw)]
      simp; omega
    · have : spotsAt LL w f = [] := by
        cases h : spotsAt LL w f with
        | nil => rfl
        | cons a l => exact absurd (spotsAt_ne.1 (by rw [h]; simp)) hw
      rw [this, List.nil_append, countF_range LL w m (f + 1) _ _ (by omega), if_neg (by simpa using hw)]
/-- How many topics have a word. -/
theorem countF_spots (LL : Lists) (w : Wd) : countF 0 (-1) (spotsOf LL w) = (((List.range LL.length).filter fun i => decide (w ∈ allAt LL i)).length : Int) := by
  have h := countF_range LL w LL.length 0 0 (-1) (by omega)
  rw [← List.range_eq_range', Int.zero_add] at h
  exact h
end Go.Proofs.YthpbdeiphagkiaaDoor.Find
