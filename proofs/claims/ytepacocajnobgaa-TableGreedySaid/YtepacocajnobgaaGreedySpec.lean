/- No other way to part words into lines has fewer: the plain law. -/
import Derived.Test.YtepacocajnobgaaRowSpec
namespace Go.Proofs.Ytepacocajnobgaa

def aG : Gl := { text := ⟨#[97]⟩, wide := 1, attr := 0, color := 0, link := 0 }
def sG : Gl := { text := ⟨#[32]⟩, wide := 0, attr := 0, color := 0, link := 0 }
def bG : Gl := { text := ⟨#[32]⟩, wide := 1, attr := 0, color := 0, link := 0 }
/-- The flow of the first i words. -/
def flowU (ns : List Nat) : Nat → List Gl
  | 0 => []
  | i + 1 => (if 0 < i then flowU ns i ++ [sG] else flowU ns i) ++ List.replicate (ns.getD i 0) aG
/-- How wide words are side by side. -/
def Wd (g : List Nat) : Nat := g.sum + (g.length - 1)
def place (wide : Nat) (x : List (List Nat) × List Nat) (n : Nat) : List (List Nat) × List Nat :=
  if x.2 = [] then (x.1, [n]) else if Wd x.2 + 1 + n ≤ wide then (x.1, x.2 ++ [n]) else (x.1 ++ [x.2], [n])
def placeU (wide : Nat) (ns : List Nat) : Nat → List (List Nat) × List Nat
  | 0 => ([], [])
  | i + 1 => place wide (placeU wide ns i) (ns.getD i 0)
def addW (l : List Gl) (n : Nat) : List Gl := (if l.isEmpty then l else l ++ [bG]) ++ List.replicate n aG
/-- A line of words. -/
def rl (g : List Nat) : List Gl := g.foldl addW []
theorem rl_snoc (g : List Nat) (n : Nat) : rl (g ++ [n]) = addW (rl g) n := by simp [rl, List.foldl_append]
theorem rl_one (n : Nat) : rl [n] = List.replicate n aG := by simp [rl, addW]
theorem rl_ne {g : List Nat} (hg : g ≠ []) (hp : ∀ n ∈ g, 0 < n) : rl g ≠ [] := by
  obtain ⟨l, n, rfl⟩ : ∃ l n, g = l ++ [n] := ⟨g.dropLast, g.getLast hg, (List.dropLast_concat_getLast _).symm⟩
  rw [rl_snoc]
  have := hp n (by simp)
  intro h
  have h2 := congrArg List.length h
  simp [addW] at h2
  omega
theorem Wd_snoc {g : List Nat} (hg : g ≠ []) (n : Nat) : Wd (g ++ [n]) = Wd g + 1 + n := by
  have := List.length_pos_iff.2 hg
  simp [Wd]; omega
theorem sumW_a (n : Nat) : sumW (List.replicate n aG) = n := by simp [sumW, aG, List.map_replicate]
theorem rl_sum {g : List Nat} (hp : ∀ n ∈ g, 0 < n) : sumW (rl g) = Wd g := by
  induction h : g.length generalizing g with
  | zero => rw [List.eq_nil_of_length_eq_zero h]; simp [rl, sumW, Wd]
  | succ k ih =>
    have hg : g ≠ [] := fun e => by rw [e] at h; simp at h
    obtain ⟨l, n, rfl⟩ : ∃ l n, g = l ++ [n] := ⟨g.dropLast, g.getLast hg, (List.dropLast_concat_getLast _).symm⟩
    have h1 := ih (g := l) (fun m hm => hp m (by simp [hm])) (by simp at h; omega)
    rw [rl_snoc]
    unfold addW
    by_cases hl : l = []
    · subst hl; simp [rl, sumW_a, Wd]
    · have h2 : (rl l).isEmpty = false := by
        cases h3 : (rl l).isEmpty with
        | false => rfl
        | true => exact absurd (List.isEmpty_iff.1 h3) (rl_ne hl fun m hm => hp m (by simp [hm]))
      rw [h2, sumW_append, sumW_a, Wd_snoc hl]
      simp only [Bool.false_eq_true, if_false, sumW_append, h1]
      simp [sumW, bG]
/-- What a line of words begins with. -/
def Heads (n : Nat) (l : List Gl) : Prop := ∃ t, l = List.replicate n aG ++ t ∧ (t = [] ∨ ∃ t', t = bG :: t')
theorem heads_add {n : Nat} {l : List Gl} (hn : 0 < n) (h : Heads n l) (m : Nat) : Heads n (addW l m) := by
  obtain ⟨t, rfl, ht⟩ := h
  have he : (List.replicate n aG ++ t).isEmpty = false := by
    cases h3 : (List.replicate n aG ++ t).isEmpty with
    | false => rfl
    | true => have := congrArg List.length (List.isEmpty_iff.1 h3); simp at this; omega
  unfold addW
  rw [he]
  simp only [Bool.false_eq_true, if_false, List.append_assoc]
  refine ⟨_, rfl, .inr ?_⟩
  rcases ht with rfl | ⟨t', rfl⟩
  · exact ⟨_, rfl⟩
  · exact ⟨_, rfl⟩
theorem rl_heads (n : Nat) (hn : 0 < n) (g : List Nat) : Heads n (rl (n :: g)) := by
  have H : ∀ (g : List Nat) (l : List Gl), Heads n l → Heads n (g.foldl addW l) := by
    intro g
    induction g with
    | nil => intro l h; exact h
    | cons m g ih => intro l h; exact ih _ (heads_add hn h m)
  exact H g _ ⟨[], by simp [addW], .inl rfl⟩

theorem rl_wide (g : List Nat) : ∀ x ∈ rl g, 1 ≤ x.wide ∧ x.wide ≤ 2 := by
  have H : ∀ (g : List Nat) (l : List Gl), (∀ x ∈ l, 1 ≤ x.wide ∧ x.wide ≤ 2) → ∀ x ∈ g.foldl addW l, 1 ≤ x.wide ∧ x.wide ≤ 2 := by
    intro g
    induction g with
    | nil => intro l h; exact h
    | cons m g ih =>
      intro l h
      refine ih _ fun x hx => ?_
      unfold addW at hx
      rcases List.mem_append.1 hx with h1 | h1
      · split at h1
        · exact h x h1
        · rcases List.mem_append.1 h1 with h2 | h2
          · exact h x h2
          · simp at h2; rw [h2]; simp [bG]
      · rw [List.eq_of_mem_replicate h1]; simp [aG]
  exact H g [] (by simp)
theorem wideOf_rl {g : List Nat} (hp : ∀ n ∈ g, 0 < n) (hl : (rl g).length ≤ 200) : wideOf (rl g) = Wd g := by
  rw [wideOf_snoc_of _ (rl_wide g) (by omega), rl_sum hp]
theorem Heads.get {n : Nat} {l : List Gl} (h : Heads n l) : n ≤ l.length ∧ (∀ j (hj : j < l.length), j < n → l[j] = aG) ∧ ∀ (hj : n < l.length), l[n] = bG := by
  obtain ⟨t, rfl, ht⟩ := h
  refine ⟨by simp, fun j hj hjn => ?_, fun hj => ?_⟩
  · rw [List.getElem_append_left (by simpa using hjn), List.getElem_replicate]
  · rw [List.getElem_append_right (by simp)]
    rcases ht with rfl | ⟨t', rfl⟩
    · simp at hj
    · simp
theorem eat_a (wide : Int) (hw : 1 ≤ wide) (n : Nat) : ∀ (x : St × List Gl), (List.replicate n aG).foldl (eatS wide) x = (x.1, x.2 ++ List.replicate n aG) := by
  induction n with
  | zero => intro x; simp
  | succ n ih =>
    intro x
    rw [List.replicate_succ, List.foldl_cons, ih]
    have hk : aG.kind = 3 := by kernel_rfl
    have hf : fixG wide aG = aG := by unfold fixG; rw [if_neg (by simp [aG]; omega)]
    simp [eatS, hk, hf]
theorem eat_s (wide : Int) (x : St × List Gl) : eatS wide x sG = (waitS sG (flushS wide x), []) := by
  have hk : sG.kind = 0 := by kernel_rfl
  simp [eatS, hk]
/-- The filler's state that stands for words that are placed; whether a blank waits. -/
def stOf (x : List (List Nat) × List Nat) (b : Bool) : St := { out := x.1.map rl, line := rl x.2, at_ := Wd x.2, waits := if b then [bG] else [] }
theorem steps_a (wide : Int) (n : Nat) : ∀ (s : St), s.at_ + n ≤ wide → (List.replicate n aG).foldl (stepS wide) s = putsS (List.replicate n aG) s := by
  induction n with
  | zero => intro s _; rfl
  | succ n ih =>
    intro s h
    have h1 : stepS wide s aG = putS aG s := by unfold stepS; rw [if_neg (by simp [aG]; omega)]
    rw [List.replicate_succ, List.foldl_cons, h1, ih _ (by simp [putS, aG]; omega)]
    rfl
theorem wideOf_a (n : Nat) (h : n ≤ 1000) : wideOf (List.replicate n aG) = n := by
  rw [wideOf_snoc_of _ (fun g hg => by rw [List.eq_of_mem_replicate hg]; simp [aG]) (by simp; omega), sumW_a]
theorem St.ext' {s t : St} (h1 : s.out = t.out) (h2 : s.line = t.line) (h3 : s.at_ = t.at_) (h4 : s.waits = t.waits) : s = t := by
  cases s; cases t; simp_all
theorem flush_place {wide : Nat} (hw : wide ≤ 200) (x : List (List Nat) × List Nat) (hx : ∀ n ∈ x.2, 0 < n) (n : Nat) (hn : 0 < n) (hnw : n ≤ wide) (b : Bool) (hb : b = true ↔ x.2 ≠ []) :
    flushS wide (stOf x b, List.replicate n aG) = stOf (place wide x n) false := by
  unfold flushS
  rw [if_pos (by simp; exact hn)]
  unfold wordS place
  simp only [wideOf_a n (by omega)]
  by_cases h0 : x.2 = []
  · have hb0 : b = false := by cases b with
      | false => rfl
      | true => exact absurd h0 (hb.1 rfl)
    subst hb0
    rw [if_pos h0, if_pos (by simp [stOf, h0, Wd]; omega)]
    refine St.ext' ?_ ?_ ?_ ?_
    · simp [dropS, putsS_out, stOf]
    · simp only [dropS, putsS_line, stOf, h0, rl_one]; simp [rl]
    · simp only [dropS, putsS_at, stOf, h0, sumW_append, sumW_a]; simp [Wd, sumW]
    · simp [dropS, stOf]
  · have hb1 : b = true := hb.2 h0
    subst hb1
    rw [if_neg h0]
    by_cases hc : Wd x.2 + 1 + n ≤ wide
    · rw [if_pos hc, if_pos (by simp [stOf]; omega)]
      have he : (rl x.2).isEmpty = false := by
        cases h3 : (rl x.2).isEmpty with
        | false => rfl
        | true => exact absurd (List.isEmpty_iff.1 h3) (rl_ne h0 hx)
      refine St.ext' ?_ ?_ ?_ ?_
      · simp [dropS, putsS_out, stOf]
      · simp only [dropS, putsS_line, stOf, rl_snoc, addW, he]; simp
      · simp only [dropS, putsS_at, stOf, sumW_append, sumW_a, Wd_snoc h0]; simp [sumW, bG]; omega
      · simp [dropS, stOf]
    · rw [if_neg hc, if_neg (by simp [stOf]; omega)]
      have hst : startS (stOf x true) = endS (dropS (stOf x true)) := by
        unfold startS; rw [if_pos]
        simp only [stOf]
        exact List.length_pos_iff.2 (rl_ne h0 hx)
      rw [hst, steps_a _ _ _ (by simp [endS]; omega)]
      refine St.ext' ?_ ?_ ?_ ?_
      · simp [putsS_out, endS, dropS, stOf]
      · simp only [putsS_line, endS, stOf, rl_one]; simp
      · simp only [putsS_at, endS, stOf, sumW_a]; simp [Wd]
      · simp [putsS_waits, endS, stOf]
/-- Placed words: all there, none empty. -/
theorem placeU_pos {wide : Nat} {ns : List Nat} (hp : ∀ i, i < ns.length → 0 < ns.getD i 0) (i : Nat) (hi : i ≤ ns.length) : (∀ n ∈ (placeU wide ns i).2, 0 < n) ∧ (0 < i → (placeU wide ns i).2 ≠ []) ∧ (∀ g ∈ (placeU wide ns i).1, g ≠ [] ∧ ∀ n ∈ g, 0 < n) := by
  induction i with
  | zero => simp [placeU]
  | succ i ih =>
    obtain ⟨h1, h2, h3⟩ := ih (by omega)
    have hn := hp i (by omega)
    simp only [placeU, place]
    split
    · exact ⟨by simpa using hn, by simp, h3⟩
    · rename_i h0
      split
      · refine ⟨fun n h => ?_, by simp, h3⟩
        rcases List.mem_append.1 h with h4 | h4
        · exact h1 n h4
        · simp at h4; rw [h4]; exact hn
      · refine ⟨by simpa using hn, by simp, fun g hg => ?_⟩
        rcases List.mem_append.1 hg with h4 | h4
        · exact h3 g h4
        · simp at h4; rw [h4]; exact ⟨h0, h1⟩
theorem wait_s (x : List (List Nat) × List Nat) (h0 : x.2 ≠ []) (hx : ∀ n ∈ x.2, 0 < n) : waitS sG (stOf x false) = stOf x true := by
  unfold waitS
  rw [if_pos ⟨List.length_pos_iff.2 (rl_ne h0 hx), by simp [stOf]⟩]
  rfl
/-- The state behind i words. -/
theorem eat_words {wide : Nat} (hw : 1 ≤ wide) (hw' : wide ≤ 200) {ns : List Nat} (hp : ∀ i, i < ns.length → 0 < ns.getD i 0 ∧ ns.getD i 0 ≤ wide) (i : Nat) (hi : i < ns.length) :
    (flowU ns (i + 1)).foldl (eatS wide) (initS, []) = (stOf (placeU wide ns i) (decide (0 < i)), List.replicate (ns.getD i 0) aG) := by
  induction i with
  | zero =>
    simp only [flowU]
    rw [show (if 0 < 0 then [] ++ [sG] else ([] : List Gl)) = [] from rfl, List.nil_append, eat_a _ (by omega)]
    simp [stOf, placeU, initS, rl, Wd]
  | succ i ih =>
    have h1 := ih (by omega)
    obtain ⟨p1, p2, p3⟩ := placeU_pos (wide := wide) (fun i hi => (hp i hi).1) i (by omega)
    obtain ⟨q1, q2, q3⟩ := placeU_pos (wide := wide) (fun i hi => (hp i hi).1) (i + 1) (by omega)
    have hn := hp i (by omega)
    rw [flowU, if_pos (by omega), List.foldl_append, List.foldl_append, h1]
    rw [show ([sG] : List Gl).foldl (eatS wide) (stOf (placeU wide ns i) (decide (0 < i)), List.replicate (ns.getD i 0) aG) = eatS wide (stOf (placeU wide ns i) (decide (0 < i)), List.replicate (ns.getD i 0) aG) sG from rfl]
    rw [eat_s, flush_place hw' _ p1 _ hn.1 hn.2 _ (by
      constructor
      · intro h; exact p2 (by simpa using h)
      · intro h; cases i with
        | zero => simp [placeU] at h
        | succ i => simp)]
    rw [show place wide (placeU wide ns i) (ns.getD i 0) = placeU wide ns (i + 1) from rfl, wait_s _ (q2 (by omega)) q1, eat_a _ (by omega)]
    simp
/-- The groups of all words. -/
def groups (wide : Nat) (ns : List Nat) : List (List Nat) := if ns = [] then [] else (placeU wide ns ns.length).1 ++ [(placeU wide ns ns.length).2]
theorem fill_words {wide : Nat} (hw : 1 ≤ wide) (hw' : wide ≤ 200) {ns : List Nat} (hp : ∀ i, i < ns.length → 0 < ns.getD i 0 ∧ ns.getD i 0 ≤ wide) : fillS wide (flowU ns ns.length) = (groups wide ns).map rl := by
  unfold groups
  by_cases h0 : ns = []
  · subst h0; rfl
  · rw [if_neg h0]
    obtain ⟨m, hm⟩ : ∃ m, ns.length = m + 1 := ⟨ns.length - 1, by have := List.length_pos_iff.2 h0; omega⟩
    have h1 := eat_words hw hw' hp m (by omega)
    obtain ⟨p1, p2, p3⟩ := placeU_pos (wide := wide) (fun i hi => (hp i hi).1) m (by omega)
    obtain ⟨q1, q2, q3⟩ := placeU_pos (wide := wide) (fun i hi => (hp i hi).1) (m + 1) (by omega)
    have hn := hp m (by omega)
    have hf := flush_place hw' (placeU wide ns m) p1 (ns.getD m 0) hn.1 hn.2 (decide (0 < m)) (by
      constructor
      · intro h; exact p2 (by simpa using h)
      · intro h; cases m with
        | zero => simp [placeU] at h
        | succ m => simp)
    rw [hm]
    unfold fillS doneS
    rw [h1, hf]
    rw [show place wide (placeU wide ns m) (ns.getD m 0) = placeU wide ns (m + 1) from rfl]
    rw [if_pos (by simp only [stOf]; exact List.length_pos_iff.2 (rl_ne (q2 (by omega)) q1))]
    simp [endS, stOf]
/-- No line could take the first word of the next one. -/
def Adj (wide : Nat) (gs : List (List Nat)) : Prop := ∀ k, k + 1 < gs.length → wide < Wd (gs.getD k []) + 1 + (gs.getD (k + 1) []).headD 0
theorem gD_left {α : Type} (a b : List α) (k : Nat) (d : α) (h : k < a.length) : (a ++ b).getD k d = a.getD k d := by
  simp only [List.getD_eq_getElem?_getD, List.getElem?_append_left h]
theorem gD_right {α : Type} (a b : List α) (k : Nat) (d : α) (h : a.length ≤ k) : (a ++ b).getD k d = b.getD (k - a.length) d := by
  simp only [List.getD_eq_getElem?_getD, List.getElem?_append_right h]
theorem placeU_adj {wide : Nat} {ns : List Nat} (hp : ∀ i, i < ns.length → 0 < ns.getD i 0) (i : Nat) (h0 : 0 < i) (hi : i ≤ ns.length) : Adj wide ((placeU wide ns i).1 ++ [(placeU wide ns i).2]) := by
  induction i with
  | zero => omega
  | succ i ih =>
    rcases Nat.eq_zero_or_pos i with rfl | hi0
    · intro k hk; simp [placeU, place] at hk
    · have ih := ih hi0 (by omega)
      obtain ⟨p1, p2, p3⟩ := placeU_pos (wide := wide) hp i (by omega)
      have hne := p2 hi0
      simp only [placeU]
      generalize placeU wide ns i = x at *
      obtain ⟨out, cur⟩ := x
      simp only at hne ih p1
      unfold place
      simp only
      rw [if_neg hne]
      split
      · intro k hk
        simp at hk
        have h1 := ih k (by simpa using hk)
        have e1 : (out ++ [cur ++ [ns.getD i 0]]).getD k [] = (out ++ [cur]).getD k [] := by
          rw [gD_left _ _ _ _ (by omega), gD_left _ _ _ _ (by omega)]
        have e2 : ((out ++ [cur ++ [ns.getD i 0]]).getD (k + 1) []).headD 0 = ((out ++ [cur]).getD (k + 1) []).headD 0 := by
          by_cases hk1 : k + 1 < out.length
          · rw [gD_left _ _ _ _ hk1, gD_left _ _ _ _ hk1]
          · have hk2 : k + 1 = out.length := by omega
            rw [gD_right _ _ _ _ (by omega), gD_right _ _ _ _ (by omega), hk2, Nat.sub_self]
            cases cur with
            | nil => exact absurd rfl hne
            | cons c cur => rfl
        show wide < Wd ((out ++ [cur ++ [ns.getD i 0]]).getD k []) + 1 + ((out ++ [cur ++ [ns.getD i 0]]).getD (k + 1) []).headD 0
        rw [e1, e2]; exact h1
      · rename_i hc
        intro k hk
        simp at hk
        show wide < Wd ((out ++ [cur] ++ [[ns.getD i 0]]).getD k []) + 1 + ((out ++ [cur] ++ [[ns.getD i 0]]).getD (k + 1) []).headD 0
        by_cases hk1 : k + 1 < (out ++ [cur]).length
        · have h1 := ih k hk1
          rw [gD_left _ _ _ _ (by omega), gD_left _ _ _ _ hk1]
          exact h1
        · have hk2 : k = out.length := by simp at hk1; omega
          subst hk2
          have e1 : (out ++ [cur] ++ [[ns.getD i 0]]).getD out.length [] = cur := by
            rw [gD_left _ _ _ _ (by simp), gD_right _ _ _ _ (Nat.le_refl _), Nat.sub_self]; rfl
          have e2 : (out ++ [cur] ++ [[ns.getD i 0]]).getD (out.length + 1) [] = [ns.getD i 0] := by
            rw [gD_right _ _ _ _ (by simp)]; simp
          rw [e1, e2]
          show wide < Wd cur + 1 + ns.getD i 0
          omega
/-- What parts reckons: how many lines, how long the last one is. -/
def ptG (ns : List Nat) (k : Nat) (g : Int) : Int := if g = 0 then (ns.getD k 0 : Int) else g + 1 + ns.getD k 0
def ptU (wide : Int) (ns : List Nat) (es : List Int) : Nat → Option (Int × Int)
  | 0 => some (0, 0)
  | k + 1 => match ptU wide ns es k with
    | none => none
    | some (L, g) => if wide < ptG ns k g then none else some (if g = 0 then L + 1 else L, if k < es.length ∧ es.getD k 0 ≠ 0 then 0 else ptG ns k g)
theorem ptU_low {wide : Nat} {ns : List Nat} {es : List Int} (hp : ∀ i, i < ns.length → 0 < ns.getD i 0) (k : Nat) (hk : k + 1 ≤ ns.length) : ∀ L g, ptU wide ns es (k + 1) = some (L, g) →
    ∃ p : Int, (g = 0 ∨ g = p) ∧ 1 ≤ p ∧ p ≤ wide ∧ (((placeU wide ns (k + 1)).1.length : Int) + 1 < L ∨ ((placeU wide ns (k + 1)).1.length : Int) + 1 = L ∧ (Wd (placeU wide ns (k + 1)).2 : Int) ≤ p) := by
  induction k with
  | zero =>
    intro L g h
    have hn := hp 0 (by omega)
    simp only [ptU] at h
    split at h
    · cases h
    · rename_i hc
      simp only [Option.some.injEq, Prod.mk.injEq, if_true] at h
      obtain ⟨rfl, rfl⟩ := h
      simp only [ptG, if_true] at hc ⊢
      refine ⟨(ns.getD 0 0 : Int), ?_, by omega, by omega, .inr ⟨by simp [placeU, place], by simp [placeU, place, Wd]⟩⟩
      split
      · exact .inl rfl
      · exact .inr rfl
  | succ k ih =>
    intro L g h
    have hn := hp (k + 1) (by omega)
    obtain ⟨p1, p2, p3⟩ := placeU_pos (wide := wide) hp (k + 1) (by omega)
    have hne := p2 (by omega)
    have hpl : placeU wide ns (k + 1 + 1) = place wide (placeU wide ns (k + 1)) (ns.getD (k + 1) 0) := rfl
    have hpt : ptU wide ns es (k + 1 + 1) = match ptU wide ns es (k + 1) with
      | none => none
      | some (L, g) => if (wide : Int) < ptG ns (k + 1) g then none else some (if g = 0 then L + 1 else L, if (k + 1) < es.length ∧ es.getD (k + 1) 0 ≠ 0 then 0 else ptG ns (k + 1) g) := rfl
    rw [hpt] at h
    cases hprev : ptU wide ns es (k + 1) with
    | none => rw [hprev] at h; cases h
    | some y =>
      obtain ⟨L0, g0⟩ := y
      rw [hprev] at h
      obtain ⟨p, hg, hp1, hp2, hor⟩ := ih (by omega) L0 g0 hprev
      simp only at h
      split at h
      · cases h
      · rename_i hc
        simp only [Option.some.injEq, Prod.mk.injEq] at h
        obtain ⟨rfl, rfl⟩ := h
        rw [hpl]
        have hG : ptG ns (k + 1) g0 = if g0 = 0 then (ns.getD (k + 1) 0 : Int) else g0 + 1 + ns.getD (k + 1) 0 := rfl
        generalize ptG ns (k + 1) g0 = G at *
        generalize placeU wide ns (k + 1) = x at *
        obtain ⟨out, cur⟩ := x
        simp only at hne hor p1
        generalize ns.getD (k + 1) 0 = n at *
        refine ⟨G, ?_, ?_, by omega, ?_⟩
        · split
          · exact .inl rfl
          · exact .inr rfl
        · split at hG <;> omega
        · unfold place
          simp only
          rw [if_neg hne]
          have hWd : Wd [n] = n := by simp [Wd]
          have hWs := Wd_snoc hne n
          by_cases hf : Wd cur + 1 + n ≤ wide
          · rw [if_pos hf]
            simp only
            by_cases h0 : g0 = 0
            · rw [if_pos h0] at hG ⊢; omega
            · rw [if_neg h0] at hG ⊢; omega
          · rw [if_neg hf]
            simp only [List.length_append, List.length_cons, List.length_nil]
            by_cases h0 : g0 = 0
            · rw [if_pos h0] at hG ⊢; omega
            · rw [if_neg h0] at hG ⊢; omega
/-- NO OTHER WAY HAS FEWER LINES. -/
theorem groups_least {wide : Nat} {ns : List Nat} {es : List Int} (hp : ∀ i, i < ns.length → 0 < ns.getD i 0) (L g : Int) (h : ptU wide ns es ns.length = some (L, g)) : ((groups wide ns).length : Int) ≤ L := by
  unfold groups
  by_cases h0 : ns = []
  · subst h0
    rw [if_pos rfl]
    simp [ptU] at h
    simp; omega
  · rw [if_neg h0]
    obtain ⟨m, hm⟩ : ∃ m, ns.length = m + 1 := ⟨ns.length - 1, by have := List.length_pos_iff.2 h0; omega⟩
    rw [hm] at h ⊢
    obtain ⟨p, _, _, _, hor⟩ := ptU_low (wide := wide) (es := es) hp m (by omega) L g h
    simp only [List.length_append, List.length_cons, List.length_nil]
    omega
theorem groups_adj {wide : Nat} {ns : List Nat} (hp : ∀ i, i < ns.length → 0 < ns.getD i 0) : Adj wide (groups wide ns) ∧ ∀ g ∈ groups wide ns, g ≠ [] ∧ ∀ n ∈ g, 0 < n := by
  unfold groups
  by_cases h0 : ns = []
  · subst h0; rw [if_pos rfl]; exact ⟨fun k hk => by simp at hk, by simp⟩
  · rw [if_neg h0]
    have hl := List.length_pos_iff.2 h0
    obtain ⟨p1, p2, p3⟩ := placeU_pos (wide := wide) hp ns.length (Nat.le_refl _)
    refine ⟨placeU_adj hp ns.length hl (Nat.le_refl _), fun g hg => ?_⟩
    rcases List.mem_append.1 hg with h1 | h1
    · exact p3 g h1
    · simp at h1; rw [h1]; exact ⟨p2 hl, p1⟩
theorem ptU_bd {wide : Int} {ns : List Nat} {es : List Int} (hw : 0 ≤ wide) (k : Nat) : ∀ L g, ptU wide ns es k = some (L, g) → 0 ≤ L ∧ L ≤ k ∧ 0 ≤ g ∧ g ≤ wide := by
  induction k with
  | zero => intro L g h; simp [ptU] at h; omega
  | succ k ih =>
    intro L g h
    simp only [ptU] at h
    cases hprev : ptU wide ns es k with
    | none => rw [hprev] at h; cases h
    | some y =>
      obtain ⟨L0, g0⟩ := y
      rw [hprev] at h
      obtain ⟨h1, h2, h3, h4⟩ := ih L0 g0 hprev
      simp only at h
      split at h
      · cases h
      · rename_i hc
        simp only [Option.some.injEq, Prod.mk.injEq] at h
        obtain ⟨rfl, rfl⟩ := h
        have hg : 0 ≤ ptG ns k g0 := by unfold ptG; split <;> omega
        refine ⟨?_, ?_, ?_, ?_⟩
        · split <;> omega
        · split <;> omega
        · split <;> omega
        · split <;> omega
theorem ptU_none {wide : Int} {ns : List Nat} {es : List Int} (k n : Nat) (h : k ≤ n) (h0 : ptU wide ns es k = none) : ptU wide ns es n = none := by
  induction n with
  | zero => obtain rfl : k = 0 := by omega
            exact h0
  | succ n ih =>
    rcases Nat.lt_or_ge k (n + 1) with h1 | h1
    · simp only [ptU, ih (by omega)]
    · obtain rfl : k = n + 1 := by omega
      exact h0
end Go.Proofs.Ytepacocajnobgaa
