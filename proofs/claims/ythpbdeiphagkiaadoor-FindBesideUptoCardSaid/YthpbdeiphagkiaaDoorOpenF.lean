/- FindOpen, plain: the topics of a word, of a beginning. -/
import Derived.Test.YthpbdeiphagkiaaDoorScoresW
namespace Go.Proofs.YthpbdeiphagkiaaDoor
open Go.RowKit Find

theorem mem_okTopics {LL : Lists} {cs : List Cl} {t : Int} : t ∈ okTopics LL cs ↔ ∃ i : Nat, i < LL.length ∧ okB LL cs i = true ∧ t = i := by
  simp only [okTopics, List.mem_map, List.mem_filter, List.mem_range]
  constructor
  · rintro ⟨i, ⟨h1, h2⟩, rfl⟩; exact ⟨i, h1, h2, rfl⟩
  · rintro ⟨i, h1, h2, rfl⟩; exact ⟨i, ⟨h1, h2⟩, rfl⟩
theorem okB_one {LL : Lists} {c : Cl} {y : Wd} (hw : c.words = [y]) (ho : c.opn = false) (hn : c.no = false) (i : Nat) : okB LL [c] i = decide (y ∈ allAt LL i) := by
  unfold okB
  have : asksN [c] = 1 := by unfold asksN; rw [List.filter_cons, hn, hw]; rfl
  rw [this]
  simp only [List.all_cons, List.all_nil, hw, hit_one hw ho, hn]
  simp
theorem okB_open {LL : Lists} {c : Cl} {y : Wd} (hw : c.words = [y]) (ho : c.opn = true) (hn : c.no = false) (i : Nat) : okB LL [c] i = true ↔ ∃ x ∈ allAt LL i, y <+: x := by
  unfold okB
  have : asksN [c] = 1 := by unfold asksN; rw [List.filter_cons, hn, hw]; rfl
  rw [this, ← hit_open hw ho LL i]
  simp only [List.all_cons, List.all_nil, hw, hn]
  simp
theorem asc_len {T : List Int} {n : Nat} (hs : T.Pairwise (· < ·)) (h : ∀ t ∈ T, ∃ i : Nat, i < n ∧ t = i) : T.length ≤ n := by
  have hnd : T.Nodup := hs.imp fun hxy => by omega
  have := nodup_len T ((List.range n).map fun (i : Nat) => (i : Int)) hnd fun t ht => by
    obtain ⟨i, hi, rfl⟩ := h t ht
    exact List.mem_map.2 ⟨i, List.mem_range.2 hi, rfl⟩
  simpa using this
/-- A word stands in a topic's lists. -/
theorem allAt_spots {LL : Lists} {y : Wd} {i : Nat} (hi : i < LL.length) (h : y ∈ allAt LL i) : spotsOf LL y ≠ [] := spotsOf_ne.2 ⟨i, hi, List.mem_append.1 h⟩
/-- The topics of the words that begin so are those of the beginning. -/
theorem open_topics {LL : Lists} {x : Wd} {R : List Wd} (hR : ∀ k, k ∈ R ↔ spotsOf LL k ≠ [] ∧ x <+: k) {T : List Int} (hs : T.Pairwise (· < ·)) (hT : ∀ t, t ∈ T ↔ ∃ y ∈ R, t ∈ okTopics LL [Find.one y]) {U : List Int} (hU : U = okTopics LL [⟨[x], false, true⟩]) : U = T := by
  subst hU
  refine asc_unique (filter_range_asc _ _) hs fun t => ?_
  rw [hT]
  constructor
  · intro h
    obtain ⟨i, hi, hb, rfl⟩ := mem_okTopics.1 h
    obtain ⟨y, hy, hp⟩ := (okB_open rfl rfl rfl i).1 hb
    exact ⟨y, (hR y).2 ⟨allAt_spots hi hy, hp⟩, mem_okTopics.2 ⟨i, hi, by rw [okB_one rfl rfl rfl]; exact decide_eq_true hy, rfl⟩⟩
  · rintro ⟨y, hy, h⟩
    obtain ⟨i, hi, hb, rfl⟩ := mem_okTopics.1 h
    rw [okB_one rfl rfl rfl, decide_eq_true_eq] at hb
    exact mem_okTopics.2 ⟨i, hi, (okB_open rfl rfl rfl i).2 ⟨y, hb, ((hR y).1 hy).2⟩, rfl⟩
theorem word_le {s k : Wd} (h : k ∈ words s) : k.length ≤ 20 * s.length := by
  have h1 := (words_len s).2
  have h2 : k.length ≤ (words s).flatten.length := (List.sublist_flatten_of_mem h).length_le
  omega
theorem wordsLL_keys {TT XX : List Wd} (hT : ∀ x ∈ TT, x.length ≤ 1048576) (hX : ∀ x ∈ XX, x.length ≤ 1048576) : ∀ k, spotsOf (wordsLL TT XX) k ≠ [] → k.length ≤ 20971520 := by
  intro k hk
  obtain ⟨i, hi, hm⟩ := spotsOf_ne.1 hk
  rw [List.getD_eq_getElem?_getD, List.getElem?_eq_getElem hi, Option.getD_some] at hm
  have hmem : (wordsLL TT XX)[i] ∈ wordsLL TT XX := List.getElem_mem hi
  unfold wordsLL at hmem
  obtain ⟨q, hq, he⟩ := List.mem_map.1 hmem
  have h1 := hT q.1 (List.of_mem_zip hq).1
  have h2 := hX q.2 (List.of_mem_zip hq).2
  have he' : (wordsLL TT XX)[i] = (words q.1, words q.2) := by unfold wordsLL; exact he.symm
  rw [he'] at hm
  rcases hm with hm | hm
  · have := word_le hm; omega
  · have := word_le hm; omega
/-- Ask for one word that stands in a slice of the law's own. -/
theorem ask_built {LL : Lists} {b : Nat} {x : Wd} {no opn : Bool} {W : World} (hf : FinderIs W b LL) (hN : ∀ p ∈ LL, p.1.length ≤ 5242881 ∧ p.2.length ≤ 5242881) (hLn : LL.length ≤ 1000) :
    Calls Tryd.prog 14 #[.pointer (some ⟨b, 0, none⟩), .slice (some ⟨W.heap.size + 1, 0, none⟩) 1 1] ((W.alloc (.cells #[st x] 9)).alloc (.cells #[.slice (some ⟨W.heap.size, 0, none⟩) 1 1, .bool no, .bool opn] 31)) fun e w' => ∃ a c R, e = .returned (.slice a R.length c) ∧ Find.Told LL [⟨[x], no, opn⟩] R ∧ R.length ≤ 1000 ∧ FndSl w' (.slice a R.length c) R ∧ Below W.heap.size W w' := by
  have hb := (Below.refl W.heap.size W).alloc (Nat.le_refl _) (.cells #[st x] 9)
  have hr : StrRow (W.alloc (.cells #[st x] 9)) (.slice (some ⟨W.heap.size, 0, none⟩) 1 1) [x] := ⟨rfl, .inr ⟨W.heap.size, 1, #[st x], rfl, Nat.zero_le _, heap_alloc_new W _, Nat.le_refl _, by unfold maxLen; omega, rfl, rfl⟩⟩
  have h := ask_word (x := x) (no := no) (opn := opn) (hf.new hb) hr hN hLn
  rw [World.size_alloc] at h
  refine h.mono ?_
  rintro e w' ⟨a, c, R, rfl, h1, h2, h3, h4⟩
  exact ⟨a, c, R, rfl, h1, h2, h3, hb.trans (h4.mono (Nat.le_succ _))⟩
end Go.Proofs.YthpbdeiphagkiaaDoor
