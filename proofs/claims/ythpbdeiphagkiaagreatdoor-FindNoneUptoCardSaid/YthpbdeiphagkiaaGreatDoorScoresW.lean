/- FindScores: the walk. -/
import Derived.Test.YthpbdeiphagkiaaGreatDoorAwk
import Derived.Deep.DeepCutAuto
namespace Go.Proofs.YthpbdeiphagkiaaGreatDoor
open Go.RowKit Find

theorem wordsLL_len {TT XX : List Wd} (h : TT.length = XX.length) : (wordsLL TT XX).length = TT.length := by
  unfold wordsLL; rw [List.length_map, List.length_zip, h, Nat.min_self]
theorem wordsLL_get {TT XX : List Wd} (h : TT.length = XX.length) {i : Nat} (hi : i < TT.length) : (wordsLL TT XX).getD i ([], []) = (words TT[i], words (XX[i]'(by omega))) := by
  unfold wordsLL
  rw [List.getD_eq_getElem?_getD, List.getElem?_map, List.getElem?_eq_getElem (by rw [List.length_zip]; omega)]
  simp
theorem wordsLL_small {TT XX : List Wd} (hT : ∀ x ∈ TT, x.length ≤ 1048576) (hX : ∀ x ∈ XX, x.length ≤ 1048576) : ∀ p ∈ wordsLL TT XX, p.1.length ≤ 5242881 ∧ p.2.length ≤ 5242881 := by
  intro p hp
  unfold wordsLL at hp
  obtain ⟨q, hq, rfl⟩ := List.mem_map.1 hp
  have h1 := hT q.1 (List.of_mem_zip hq).1
  have h2 := hX q.2 (List.of_mem_zip hq).2
  have h3 := (words_len q.1).1
  have h4 := (words_len q.2).1
  simp only
  omega
/-- The first place, or none. -/
def firstOf : List Nat → Int
  | [] => -1
  | k :: _ => k
theorem firstOf_snoc (l : List Nat) (k : Nat) : firstOf (l ++ [k]) = if l = [] then (k : Int) else firstOf l := by
  cases l <;> simp [firstOf]
theorem firstOf_neg (l : List Nat) : firstOf l < 0 ↔ l = [] := by
  cases l <;> simp [firstOf]
/-- What one word counts in a topic, by the lists. -/
theorem score_of {TT XX : List Wd} (h : TT.length = XX.length) {x : Wd} {R : List Fnd} (hR : Find.Told (wordsLL TT XX) [Find.one x] R) {f : Fnd} (hf : f ∈ R) : ∃ i : Nat, ∃ hi : i < TT.length,
    f.topic = i ∧ f.score = 10 * ((placesOf x (words TT[i])).length : Int) + ((placesOf x (words (XX[i]'(by omega)))).length : Int) ∧ f.place = firstOf (placesOf x (words (XX[i]'(by omega)))) ∧
    0 < (placesOf x (words TT[i])).length + (placesOf x (words (XX[i]'(by omega)))).length := by
  obtain ⟨i, hi, rfl, hp⟩ := founds_one (hR.2.mem_iff.1 hf)
  rw [wordsLL_len h] at hi
  rw [wordsLL_get h hi] at hp ⊢
  refine ⟨i, hi, rfl, rfl, ?_, hp⟩
  simp only
  cases placesOf x (words (XX[i]'(by omega))) <;> rfl
theorem ahead_of {LL : Lists} {cs : List Cl} {R : List Fnd} (h : Find.Told LL cs R) {k : Nat} (hk : k + 1 < R.length) : Ahead R[k] R[k + 1] := List.pairwise_iff_getElem.1 h.1 k (k + 1) (by omega) hk (by omega)

/-- What a law tells: true; of what was there nothing has turned. -/
def LawPost (w : World) (e : Ending) (w' : World) : Prop := e = .returned (.bool true) ∧ Below w.heap.size w w'
theorem StrSl.some_ {w : World} {v : Value} {l : List Wd} (h : StrSl w v l) {k : Nat} (hk : k < l.length) : ∃ g o c, v = .slice (some ⟨g, o, none⟩) l.length c ∧ w.cell? ⟨g, o + k, none⟩ = some (st l[k]) := by
  obtain ⟨a, c, rfl, hc⟩ := h
  obtain ⟨g, o, rfl, hcell⟩ := hc k hk
  exact ⟨g, o, c, rfl, hcell⟩

/-- The start of each law: awake, the twins, New. -/
theorem words_slice (s : ByteArray) (w : World) (hT : Tabs w) (hs : s.size ≤ 1099511627776) :
    Calls Tryz.prog 14 #[.string s] w fun e w' => ∃ a c, e = .returned (.slice a (words s.data.toList).length c) ∧ StrRow w' (.slice a (words s.data.toList).length c) (words s.data.toList) ∧ Below w.heap.size w w' := by
  refine (words_any s w hT hs).mono ?_
  rintro e w' ⟨v, rfl, ho, hb⟩
  obtain ⟨a, c, rfl⟩ := slice_form ho
  exact ⟨a, c, rfl, owns_zero ho, hb⟩
theorem words_wd (x : Wd) (w : World) (hT : Tabs w) (hs : x.length ≤ 1099511627776) :
    Calls Tryz.prog 14 #[st x] w fun e w' => ∃ a c, e = .returned (.slice a (words x).length c) ∧ StrRow w' (.slice a (words x).length c) (words x) ∧ Below w.heap.size w w' :=
  words_slice ⟨x.toArray⟩ w hT (by show x.toArray.size ≤ _; rw [List.size_toArray]; exact hs)
theorem twin_slice (l : List Wd) (v : Value) (w : World) (h : StrSl w v l) (hnil : ∀ c, v = .slice none 0 c → c = 0) (hn : l.length ≤ 1099511627776) :
    Calls Tryz.prog 26 #[v] w fun e w' => ∃ a c, e = .returned (.slice a l.length c) ∧ StrRow w' (.slice a l.length c) l ∧ Below w.heap.size w w' := by
  refine (twin_any l v w h hnil hn).mono ?_
  rintro e w' ⟨v, rfl, ho, hb⟩
  obtain ⟨a, c, rfl⟩ := slice_form ho
  exact ⟨a, c, rfl, owns_zero ho, hb⟩

/-- A slice of one clause, of two, in a block of the law's own. -/
theorem cls_one {W : World} {g : Nat} {a : Option Addr} {n c k : Nat} {cl : Cl} (hn : n = cl.words.length) (hg : W.heap[g]? = some (.cells #[.slice a n c, .bool cl.no, .bool cl.opn] 62 (0, 0))) (hs : StrSl W (.slice a n c) cl.words) : ClsSl W (.slice (some ⟨g, 0, none⟩) 1 k) [cl] := by
  subst hn
  refine ⟨_, k, rfl, fun j hj => ⟨g, 0, rfl, a, c, ?_, ?_, ?_, ?_⟩⟩
  all_goals obtain rfl : j = 0 := by simpa using hj
  · rw [Lib.cell_of_heap hg]; rfl
  · rw [Lib.cell_of_heap hg]; rfl
  · rw [Lib.cell_of_heap hg]; rfl
  · exact hs
theorem cls_two {W : World} {g : Nat} {a a' : Option Addr} {n n' c c' k : Nat} {cl cl' : Cl} (hn : n = cl.words.length) (hn' : n' = cl'.words.length) (hg : W.heap[g]? = some (.cells #[.slice a n c, .bool cl.no, .bool cl.opn, .slice a' n' c', .bool cl'.no, .bool cl'.opn] 62 (0, 0)))
    (hs : StrSl W (.slice a n c) cl.words) (hs' : StrSl W (.slice a' n' c') cl'.words) : ClsSl W (.slice (some ⟨g, 0, none⟩) 2 k) [cl, cl'] := by
  subst hn hn'
  refine ⟨_, k, rfl, fun j hj => ?_⟩
  rcases (by simp at hj; omega : j = 0 ∨ j = 1) with rfl | rfl
  · exact ⟨g, 0, rfl, a, c, by rw [Lib.cell_of_heap hg]; rfl, by rw [Lib.cell_of_heap hg]; rfl, by rw [Lib.cell_of_heap hg]; rfl, hs⟩
  · exact ⟨g, 0, rfl, a', c', by rw [Lib.cell_of_heap hg]; rfl, by rw [Lib.cell_of_heap hg]; rfl, by rw [Lib.cell_of_heap hg]; rfl, hs'⟩
theorem FndSl.form {w : World} {v : Value} {R : List Fnd} (h : FndSl w v R) : ∃ a c, v = .slice a R.length c := by
  obtain ⟨a, c, rfl, _⟩ := h; exact ⟨a, c, rfl⟩
theorem told_len {LL : Lists} {cs : List Cl} {R : List Fnd} (h : Find.Told LL cs R) : R.length ≤ LL.length := by
  rw [h.2.length_eq]
  unfold founds
  split
  · exact (foundsF_tup LL cs LL.length).2.2
  · simp
/-- Ask, the slice told. -/
theorem ask_slice (LL : Lists) (cs : List Cl) (b : Nat) (al : Option Addr) (cl : Nat) (w : World) (hf : FinderIs w b LL) (hcs : ClsSl w (.slice al cs.length cl) cs) (hmany : cs.length ≤ 1048576)
    (hN : ∀ p ∈ LL, p.1.length ≤ 5242881 ∧ p.2.length ≤ 5242881) (hC : ∀ c ∈ cs, c.words.length ≤ 1099511627776) (hLn : LL.length ≤ 1000) :
    Calls Tryz.prog 8 #[.pointer (some ⟨b, 0, none⟩), .slice al cs.length cl] w fun e w' => ∃ a c R, e = .returned (.slice a R.length c) ∧ Find.Told LL cs R ∧ R.length ≤ 1000 ∧ FndSl w' (.slice a R.length c) R ∧ Below w.heap.size w w' := by
  refine (ask_any LL cs b al cl w hf hcs hmany hN hC hLn).mono ?_
  rintro e w' ⟨v, R, rfl, ht, hf, hb⟩
  obtain ⟨a, c, rfl⟩ := hf.form
  have := told_len ht
  exact ⟨a, c, R, rfl, ht, by omega, hf, hb⟩
/-- Ask for one word. -/
theorem ask_word {LL : Lists} {b : Nat} {x : Wd} {a : Option Addr} {c : Nat} {no opn : Bool} {W : World} (hf : FinderIs W b LL) (hr : StrRow W (.slice a 1 c) [x]) (hN : ∀ p ∈ LL, p.1.length ≤ 5242881 ∧ p.2.length ≤ 5242881) (hLn : LL.length ≤ 1000) :
    Calls Tryz.prog 8 #[.pointer (some ⟨b, 0, none⟩), .slice (some ⟨W.heap.size, 0, none⟩) 1 1] (W.alloc (.cells #[.slice a 1 c, .bool no, .bool opn] 62)) fun e w' => ∃ a c R, e = .returned (.slice a R.length c) ∧ Find.Told LL [⟨[x], no, opn⟩] R ∧ R.length ≤ 1000 ∧ FndSl w' (.slice a R.length c) R ∧ Below W.heap.size W w' := by
  have hb := (Below.refl W.heap.size W).alloc (Nat.le_refl _) (.cells #[.slice a 1 c, .bool no, .bool opn] 62)
  refine (ask_slice LL [⟨[x], no, opn⟩] b _ 1 _ (hf.new hb) (cls_one (cl := ⟨[x], no, opn⟩) rfl (heap_alloc_new W _) (StrRow.sl (l := [x]) (owns_new hr hb))) (by simp) hN (by simp) hLn).mono ?_
  rintro e w' ⟨a', c', R, rfl, h1, h2, h3, h4⟩
  exact ⟨a', c', R, rfl, h1, h2, h3, hb.trans (h4.mono hb.size)⟩
end Go.Proofs.YthpbdeiphagkiaaGreatDoor
