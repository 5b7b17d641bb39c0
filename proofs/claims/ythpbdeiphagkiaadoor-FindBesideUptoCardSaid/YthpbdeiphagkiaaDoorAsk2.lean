/- Plain: the order of clauses is no matter; what one word counts. -/
import Derived.Test.YthpbdeiphagkiaaDoorAsk
namespace Go.Proofs.YthpbdeiphagkiaaDoor.Find

theorem stepF_comm (k : Fnd) (t b t' b' : List Nat) : stepF (stepF k t b) t' b' = stepF (stepF k t' b') t b := by
  unfold stepF
  simp only [Fnd.mk.injEq]
  refine ⟨trivial, by omega, ?_⟩
  repeat' split
  all_goals omega

def asking (cs : List Cl) : List Cl := cs.filter fun c => !c.no && !c.words.isEmpty
theorem foundF_val (has : Cl → Bool) (T B : List Wd) : ∀ (cs : List Cl) (k x : Fnd), foundF has T B k cs = some x → x = (asking cs).foldl (fun k c => stepF k (hits c T) (hits c B)) k
  | [], k, x, h => by simp [foundF] at h; simp [asking, h]
  | c :: cs, k, x, h => by
    have ih := foundF_val has T B cs
    unfold foundF at h
    split at h
    · rename_i hc
      rw [ih k x h]
      have : (!c.no && !c.words.isEmpty) = false := by
        rw [Bool.or_eq_true] at hc
        rcases hc with hc | hc
        · simp [hc]
        · simp only [Bool.and_eq_true] at hc; simp [hc.1]
      simp only [asking, List.filter_cons, this]
      rfl
    · rename_i hc
      split at h
      · cases h
      · split at h
        · rename_i hn
          rw [ih k x h]
          simp only [asking, List.filter_cons, hn]
          rfl
        · rename_i hn
          rw [ih _ x h]
          have he : c.words.isEmpty = false := by
            cases hx : c.words.isEmpty with
            | false => rfl
            | true => simp [hx] at hc
          have hn' : c.no = false := by simpa using hn
          simp only [asking, List.filter_cons, he, hn']
          rfl

theorem foundF_perm (LL : Lists) (i : Nat) (hi : i < LL.length) {cs ds : List Cl} (hp : cs.Perm ds) (k : Fnd) :
    foundF (hasC LL) (LL.getD i ([], [])).1 (LL.getD i ([], [])).2 k cs = foundF (hasC LL) (LL.getD i ([], [])).1 (LL.getD i ([], [])).2 k ds := by
  have h1 := foundF_some LL i hi cs k
  have h2 := foundF_some LL i hi ds k
  have h12 : (foundF (hasC LL) (LL.getD i ([], [])).1 (LL.getD i ([], [])).2 k cs).isSome = true ↔ (foundF (hasC LL) (LL.getD i ([], [])).1 (LL.getD i ([], [])).2 k ds).isSome = true := by
    rw [h1, h2]
    constructor
    · intro h c hc; exact h c (hp.mem_iff.2 hc)
    · intro h c hc; exact h c (hp.mem_iff.1 hc)
  cases ha : foundF (hasC LL) (LL.getD i ([], [])).1 (LL.getD i ([], [])).2 k cs with
  | none =>
    cases hb : foundF (hasC LL) (LL.getD i ([], [])).1 (LL.getD i ([], [])).2 k ds with
    | none => rfl
    | some y => rw [ha, hb] at h12; simp at h12
  | some x =>
    cases hb : foundF (hasC LL) (LL.getD i ([], [])).1 (LL.getD i ([], [])).2 k ds with
    | none => rw [ha, hb] at h12; simp at h12
    | some y =>
      rw [foundF_val _ _ _ _ _ _ ha, foundF_val _ _ _ _ _ _ hb]
      congr 1
      exact List.Perm.foldl_eq' (hp.filter _) (fun _ _ _ _ _ => stepF_comm _ _ _ _ _) k

theorem filterMap_same {α β : Type} {f g : α → Option β} : ∀ {l : List α}, (∀ x ∈ l, f x = g x) → l.filterMap f = l.filterMap g
  | [], _ => rfl
  | a :: l, h => by
    rw [List.filterMap_cons, List.filterMap_cons, h a (by simp), filterMap_same fun x hx => h x (by simp [hx])]
theorem founds_perm (LL : Lists) {cs ds : List Cl} (hp : cs.Perm ds) : founds LL cs = founds LL ds := by
  have : asksN cs = asksN ds := (hp.filter _).length_eq
  unfold founds
  rw [this]
  split
  · unfold foundsF
    apply filterMap_same
    intro i hi
    exact foundF_perm LL i (List.mem_range.1 hi) hp _
  · rfl

/-- What one word counts in a topic. -/
theorem founds_one {LL : Lists} {w : Wd} {x : Fnd} (h : x ∈ founds LL [one w]) : ∃ i : Nat, i < LL.length ∧
    x = ⟨i, 10 * ((placesOf w (LL.getD i ([], [])).1).length : Int) + ((placesOf w (LL.getD i ([], [])).2).length : Int), match placesOf w (LL.getD i ([], [])).2 with | [] => -1 | k :: _ => k⟩ ∧
    0 < (placesOf w (LL.getD i ([], [])).1).length + (placesOf w (LL.getD i ([], [])).2).length := by
  unfold founds at h
  split at h
  · simp only [foundsF, List.mem_filterMap, List.mem_range] at h
    obtain ⟨j, hj, hx⟩ := h
    have hs := (foundF_some LL j hj _ _).1 (by rw [hx]; rfl) (one w) (by simp) (by simp [one])
    have hv := foundF_val _ _ _ _ _ _ hx
    have ha : asking [one w] = [one w] := rfl
    rw [ha] at hv
    simp only [List.foldl_cons, List.foldl_nil, hits_one (w := w) (c := one w) rfl rfl] at hv
    refine ⟨j, hj, ?_, ?_⟩
    · rw [hv]
      unfold stepF found0
      simp only [Fnd.mk.injEq]
      refine ⟨trivial, by omega, ?_⟩
      cases hp : placesOf w (LL.getD j ([], [])).2 with
      | nil => simp
      | cons a l => simp
    · simp only [hit, hits_one (w := w) (c := one w) rfl rfl] at hs
      simpa [one] using hs
  · cases h
end Go.Proofs.YthpbdeiphagkiaaDoor.Find
