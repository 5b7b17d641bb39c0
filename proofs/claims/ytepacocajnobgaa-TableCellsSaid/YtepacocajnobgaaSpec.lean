/- What lines are filled with, as plain functions; bounds. -/
import Derived.Test.YtepacocajnobgaaLeaf
namespace Go.Proofs.Ytepacocajnobgaa
open Go.RowKit

def putS (g : Gl) (s : St) : St := { s with line := s.line ++ [g], at_ := s.at_ + g.wide }
def endS (s : St) : St := { out := s.out ++ [s.line], line := [], at_ := 0, waits := [] }
def putsS (ws : List Gl) (s : St) : St := ws.foldl (fun s g => putS g s) s
def dropS (s : St) : St := { s with waits := [] }
def startS (s : St) : St := if 0 < s.line.length then endS (dropS s) else dropS s
def stepS (wide : Int) (s : St) (g : Gl) : St := putS g (if wide < s.at_ + g.wide then endS s else s)
def wordS (wide : Int) (ws : List Gl) (s : St) : St :=
  if s.at_ + (s.waits.length : Int) + wideOf ws ≤ wide then dropS (putsS (s.waits ++ ws) s) else ws.foldl (stepS wide) (startS s)
def blankOf (g : Gl) : Gl := { g with text := ⟨#[32]⟩, wide := 1 }
def stopAt (a : Int) : Int := (a / 8 + 1) * 8
def padS (n : Nat) (g : Gl) (s : St) : St := putsS (List.replicate n (blankOf g)) s
def tabS (wide : Int) (g : Gl) (s : St) : St :=
  if wide ≤ stopAt s.at_ then endS (dropS s) else padS (stopAt s.at_ - s.at_).toNat g (dropS s)

theorem putsS_snoc (ws : List Gl) (g : Gl) (s : St) : putsS (ws ++ [g]) s = putS g (putsS ws s) := by simp [putsS, List.foldl_append]
theorem putsS_take (ws : List Gl) (s : St) (k : Nat) (h : k < ws.length) : putsS (ws.take (k + 1)) s = putS ws[k] (putsS (ws.take k) s) := by
  rw [List.take_succ_eq_append_getElem h, putsS_snoc]
theorem stepS_take (wide : Int) (ws : List Gl) (s : St) (k : Nat) (h : k < ws.length) :
    (ws.take (k + 1)).foldl (stepS wide) s = stepS wide ((ws.take k).foldl (stepS wide) s) ws[k] := by
  rw [List.take_succ_eq_append_getElem h, List.foldl_append]; rfl
theorem putsS_waits (ws : List Gl) : ∀ s : St, (putsS ws s).waits = s.waits := by
  induction ws with
  | nil => intro s; rfl
  | cons g ws ih => intro s; exact ih (putS g s)
theorem putsS_out (ws : List Gl) : ∀ s : St, (putsS ws s).out = s.out := by
  induction ws with
  | nil => intro s; rfl
  | cons g ws ih => intro s; exact ih (putS g s)
theorem putsS_line (ws : List Gl) : ∀ s : St, (putsS ws s).line = s.line ++ ws := by
  induction ws with
  | nil => intro s; simp [putsS]
  | cons g ws ih => intro s; show (putsS ws (putS g s)).line = _; rw [ih]; simp [putS]
/-- The sum of the widths, unbounded. -/
def sumW (ws : List Gl) : Int := (ws.map (·.wide)).sum
theorem sumW_cons (g : Gl) (ws : List Gl) : sumW (g :: ws) = g.wide + sumW ws := by simp [sumW]
theorem sumW_append (a b : List Gl) : sumW (a ++ b) = sumW a + sumW b := by simp [sumW, List.sum_append]
theorem putsS_at (ws : List Gl) : ∀ s : St, (putsS ws s).at_ = s.at_ + sumW ws := by
  induction ws with
  | nil => intro s; simp [putsS, sumW]
  | cons g ws ih => intro s; show (putsS ws (putS g s)).at_ = _; rw [ih, sumW_cons]; simp [putS]; omega

/-- Signs as they may stand in a line so wide. -/
def Fits (wide : Int) (ws : List Gl) : Prop := ∀ g ∈ ws, 1 ≤ g.wide ∧ g.wide ≤ 2 ∧ g.wide ≤ wide
theorem sumW_bd (ws : List Gl) (h : ∀ g ∈ ws, 1 ≤ g.wide ∧ g.wide ≤ 2) : (ws.length : Int) ≤ sumW ws ∧ sumW ws ≤ 2 * ws.length := by
  induction ws with
  | nil => simp [sumW]
  | cons g ws ih =>
    have h1 := h g (by simp)
    have h2 := ih fun g hg => h g (by simp [hg])
    rw [sumW_cons]; simp only [List.length_cons]; omega
theorem sumW_take (ws : List Gl) (h : ∀ g ∈ ws, 1 ≤ g.wide ∧ g.wide ≤ 2) (k : Nat) : sumW (ws.take k) ≤ sumW ws := by
  have e : sumW ws = sumW (ws.take k) + sumW (ws.drop k) := by rw [← sumW_append, List.take_append_drop]
  have := sumW_bd (ws.drop k) fun g hg => h g (List.mem_of_mem_drop hg)
  omega
theorem wideOf_snoc_of (l : List Gl) (h : ∀ g ∈ l, 1 ≤ g.wide ∧ g.wide ≤ 2) (hl : l.length ≤ 4000000000000) : wideOf l = sumW l := by
  suffices H : ∀ (l : List Gl) (n : Int), (∀ g ∈ l, 1 ≤ g.wide ∧ g.wide ≤ 2) → 0 ≤ n → n + 2 * l.length ≤ 9000000000000000000 → l.foldl (fun n g => wrap64 (n + g.wide)) n = n + sumW l by
    have := H l 0 h (by omega) (by omega)
    simpa [wideOf] using this
  intro l
  induction l with
  | nil => intro n _ _ _; simp [sumW]
  | cons g l ih =>
    intro n h h0 hn
    have h1 := h g (by simp)
    simp only [List.length_cons] at hn
    rw [List.foldl_cons, show wrap64 (n + g.wide) = n + g.wide from IntWalk.wrap64_in _ ⟨by omega, by omega⟩, ih _ (fun g hg => h g (by simp [hg])) (by omega) (by omega), sumW_cons]
    omega

theorem puts_bd (ll : List Gl) (s : St) (k : Nat) (h : ∀ g ∈ ll, 1 ≤ g.wide ∧ g.wide ≤ 2) (_h0 : 0 ≤ s.at_) (h1 : s.at_ + sumW ll ≤ 1000) (h2 : (s.line.length : Int) ≤ s.at_) :
    (putsS (ll.take k) s).line.length ≤ 2000000000000 ∧ 0 ≤ (putsS (ll.take k) s).at_ ∧ (putsS (ll.take k) s).at_ ≤ 1000000 := by
  have b1 := sumW_take ll h k
  have b2 := sumW_bd (ll.take k) fun g hg => h g (List.mem_of_mem_take hg)
  rw [putsS_line, putsS_at, List.length_append]
  omega

/-- A filler's state keeps its bounds; N bounds its lines. -/
structure Ok (N : Nat) (s : St) : Prop where
  len : (s.line.length : Int) ≤ s.at_
  hi : s.at_ ≤ 1000
  one : s.waits.length ≤ 1
  w1 : ∀ g ∈ s.waits, g.wide = 1
  zero : s.line = [] → s.at_ = 0
  out : s.out.length + min 1 s.line.length ≤ N
theorem Ok.mono {N M : Nat} {s : St} (h : Ok N s) (hm : N ≤ M) : Ok M s := ⟨h.len, h.hi, h.one, h.w1, h.zero, Nat.le_trans h.out hm⟩
theorem Ok.put {N : Nat} {s : St} (h : Ok N s) {g : Gl} (h1 : 1 ≤ g.wide) (h2 : s.at_ + g.wide ≤ 1000) : Ok (N + 1) (putS g s) :=
  ⟨by have := h.len; simp [putS]; omega, by simpa [putS] using h2, h.one, h.w1, by simp [putS], by have := h.out; simp [putS]; omega⟩
theorem Ok.put' {N : Nat} {s : St} (h : Ok N s) {g : Gl} (h1 : 1 ≤ g.wide) (h2 : s.at_ + g.wide ≤ 1000) (hl : s.line ≠ []) : Ok N (putS g s) :=
  ⟨by have := h.len; simp [putS]; omega, by simpa [putS] using h2, h.one, h.w1, by simp [putS], by
    have := h.out; have := List.length_pos_iff.2 hl; simp [putS]; omega⟩
theorem Ok.end_ {N : Nat} {s : St} (h : Ok N s) : Ok (N + 1) (endS s) :=
  ⟨by simp [endS], by simp [endS], by simp [endS], by simp [endS], by simp [endS], by have := h.out; simp [endS]; omega⟩
theorem Ok.end' {N : Nat} {s : St} (h : Ok N s) (hl : s.line ≠ []) : Ok N (endS s) :=
  ⟨by simp [endS], by simp [endS], by simp [endS], by simp [endS], by simp [endS], by
    have := h.out; have := List.length_pos_iff.2 hl; simp [endS]; omega⟩
theorem Ok.drop {N : Nat} {s : St} (h : Ok N s) : Ok N (dropS s) := ⟨h.len, h.hi, by simp [dropS], by simp [dropS], h.zero, h.out⟩
theorem Ok.start {N : Nat} {s : St} (h : Ok N s) : Ok N (startS s) := by
  unfold startS
  split
  · rename_i hl; exact h.drop.end' (List.length_pos_iff.1 hl)
  · exact h.drop
theorem Ok.step {N : Nat} {s : St} {wide : Int} (h : Ok N s) (hw : wide ≤ 200) {g : Gl} (h1 : 1 ≤ g.wide) (h2 : g.wide ≤ wide) : Ok (N + 1) (stepS wide s g) := by
  unfold stepS
  split
  · rename_i hc
    have hl : s.line ≠ [] := fun e => by have := h.zero e; omega
    exact (h.end' hl).put h1 (by simp [endS]; omega)
  · exact h.put h1 (by omega)
theorem Ok.steps {wide : Int} (hw : wide ≤ 200) : ∀ (ws : List Gl) {N : Nat} {s : St}, Ok N s → Fits wide ws → Ok (N + ws.length) (ws.foldl (stepS wide) s)
  | [], _, _, h, _ => h
  | g :: ws, N, s, h, hf => by
    have h1 := hf g (by simp)
    have := Ok.steps hw ws (h.step hw h1.1 h1.2.2) (fun g hg => hf g (by simp [hg]))
    exact this.mono (by simp; omega)
theorem Ok.puts : ∀ (ws : List Gl) {N : Nat} {s : St}, Ok N s → (∀ g ∈ ws, 1 ≤ g.wide ∧ g.wide ≤ 2) → s.at_ + sumW ws ≤ 1000 → Ok (N + min 1 ws.length) (putsS ws s)
  | [], _, _, h, _, _ => h
  | g :: ws, N, s, h, hf, ha => by
    have h1 := hf g (by simp)
    have h2 := sumW_bd ws (fun g hg => hf g (by simp [hg]))
    rw [sumW_cons] at ha
    have h3 := h.put (g := g) h1.1 (by omega)
    have h4 : ∀ (ws : List Gl) {s : St}, Ok (N + 1) s → s.line ≠ [] → (∀ g ∈ ws, 1 ≤ g.wide ∧ g.wide ≤ 2) → s.at_ + sumW ws ≤ 1000 → Ok (N + 1) (putsS ws s) := by
      intro ws
      induction ws with
      | nil => intro s h _ _ _; exact h
      | cons g ws ih =>
        intro s h hl hf ha
        have h1 := hf g (by simp)
        have h2 := sumW_bd ws (fun g hg => hf g (by simp [hg]))
        rw [sumW_cons] at ha
        exact ih (h.put' h1.1 (by omega) hl) (by simp [putS]) (fun g hg => hf g (by simp [hg])) (by simp [putS]; omega)
    exact (h4 ws h3 (by simp [putS]) (fun g hg => hf g (by simp [hg])) (by simp [putS]; omega)).mono (by simp)
theorem fits_two {wide : Int} {ws : List Gl} (h : Fits wide ws) : ∀ g ∈ ws, 1 ≤ g.wide ∧ g.wide ≤ 2 := fun g hg => ⟨(h g hg).1, (h g hg).2.1⟩
theorem waits_two {N : Nat} {s : St} (h : Ok N s) : ∀ g ∈ s.waits, 1 ≤ g.wide ∧ g.wide ≤ 2 := fun g hg => by have := h.w1 g hg; omega
theorem both_two {N : Nat} {s : St} {wide : Int} {ws : List Gl} (h : Ok N s) (hf : Fits wide ws) : ∀ g ∈ s.waits ++ ws, 1 ≤ g.wide ∧ g.wide ≤ 2 := fun g hg => by
  rcases List.mem_append.1 hg with h1 | h1
  · exact waits_two h g h1
  · exact fits_two hf g h1
theorem waits_sum {N : Nat} {s : St} (h : Ok N s) : sumW s.waits = s.waits.length := by
  have h1 := h.one
  have h2 := h.w1
  revert h1 h2
  cases s.waits with
  | nil => intro _ _; rfl
  | cons g l =>
    intro h1 h2
    have : l = [] := List.eq_nil_of_length_eq_zero (by simpa using h1)
    subst this
    simp [sumW, h2 g (by simp)]
theorem Ok.word {N : Nat} {s : St} {wide : Int} (h : Ok N s) (hw : wide ≤ 200) {ws : List Gl} (hf : Fits wide ws) (hp : 0 < ws.length) (hl : ws.length ≤ 3000000000000) : Ok (N + ws.length) (wordS wide ws s) := by
  unfold wordS
  split
  · rename_i hc
    rw [wideOf_snoc_of ws (fits_two hf) (by omega)] at hc
    exact ((Ok.puts (s.waits ++ ws) h (both_two h hf) (by rw [sumW_append, waits_sum h]; omega)).drop).mono (by simp; omega)
  · exact Ok.steps hw ws h.start hf
theorem stopAt_bd (a : Int) (_h : 0 ≤ a) : a < stopAt a ∧ stopAt a ≤ a + 8 := by unfold stopAt; omega
theorem sumW_blank (n : Nat) (g : Gl) : sumW (List.replicate n (blankOf g)) = n := by simp [sumW, blankOf, List.map_replicate]
theorem Ok.tab {N : Nat} {s : St} {wide : Int} (h : Ok N s) (hw : wide ≤ 200) (g : Gl) : Ok (N + 1) (tabS wide g s) := by
  unfold tabS
  split
  · exact h.drop.end_
  · rename_i hc
    have h0 := h.len
    have hb := stopAt_bd s.at_ (by omega)
    refine (Ok.puts _ h.drop (fun g' hg' => by rw [List.eq_of_mem_replicate hg']; simp [blankOf]) ?_).mono (by simp; omega)
    rw [sumW_blank]; simp [dropS]; omega

def leapS (wide : Int) (g : Gl) (s : St) : St := if g.kind = 1 then tabS wide g s else endS s
def flushS (wide : Int) (x : St × List Gl) : St := if 0 < x.2.length then wordS wide x.2 x.1 else x.1
def fixG (wide : Int) (g : Gl) : Gl := if wide < g.wide then { g with text := ⟨#[63]⟩, wide := 1 } else g
def waitS (g : Gl) (s : St) : St := if 0 < s.line.length ∧ s.waits.length = 0 then { s with waits := [{ g with wide := 1 }] } else s
/-- One glyph of the flow: the filler's state and the word that is being gathered. -/
def eatS (wide : Int) (x : St × List Gl) (g : Gl) : St × List Gl :=
  if g.kind = 3 then (x.1, x.2 ++ [fixG wide g])
  else if g.kind = 0 then (waitS g (flushS wide x), [])
  else (leapS wide g (flushS wide x), [])
def initS : St := { out := [], line := [], at_ := 0, waits := [] }
def doneS (wide : Int) (x : St × List Gl) : St := if 0 < (flushS wide x).line.length then endS (flushS wide x) else flushS wide x
/-- What Fill tells of a flow that is good. -/
def fillS (wide : Int) (l : List Gl) : List (List Gl) := (doneS wide (l.foldl (eatS wide) (initS, []))).out
/-- What Fill answers. -/
def fillOf (l : List Gl) (wide : Int) : List (List Gl) × Int :=
  if wide < 1 ∨ 200 < wide then ([], 1) else if checkOf l ≠ 0 then ([], checkOf l) else (fillS wide l, 0)

/-- How the state stands behind k glyphs. -/
def Inv (wide : Int) (k : Nat) (x : St × List Gl) : Prop := ∃ N, Ok N x.1 ∧ Fits wide x.2 ∧ N + x.2.length ≤ k
theorem fixG_fits {wide : Int} (hw : 1 ≤ wide) {g : Gl} (h : g.wide = 1 ∨ g.wide = 2) : 1 ≤ (fixG wide g).wide ∧ (fixG wide g).wide ≤ 2 ∧ (fixG wide g).wide ≤ wide := by
  unfold fixG; split
  · simp; omega
  · rename_i h1; omega
theorem Inv.init (wide : Int) : Inv wide 0 (initS, []) := ⟨0, ⟨by simp [initS], by simp [initS], by simp [initS], by simp [initS], by simp [initS], by simp [initS]⟩, fun g hg => by simp at hg, by simp⟩
theorem Inv.flush {wide : Int} (hw' : wide ≤ 200) {k : Nat} (hk : k ≤ 3000000000000) {x : St × List Gl} (h : Inv wide k x) : Ok k (flushS wide x) := by
  obtain ⟨N, h1, h2, h3⟩ := h
  unfold flushS; split
  · rename_i h0; exact (h1.word hw' h2 h0 (by omega)).mono h3
  · exact h1.mono (by omega)
theorem Ok.waitS {N : Nat} {s : St} (h : Ok N s) (g : Gl) : Ok N (waitS g s) := by
  unfold Ytepacocajnobgaa.waitS; split
  · exact ⟨h.len, h.hi, by simp, by simp, h.zero, h.out⟩
  · exact h
theorem Ok.leap {N : Nat} {s : St} {wide : Int} (h : Ok N s) (hw : wide ≤ 200) (g : Gl) : Ok (N + 1) (leapS wide g s) := by
  unfold leapS; split
  · exact h.tab hw g
  · exact h.end_
theorem Inv.eat {wide : Int} (hw : 1 ≤ wide) (hw' : wide ≤ 200) {k : Nat} (hk : k ≤ 3000000000000) {x : St × List Gl} (h : Inv wide k x) {g : Gl} (hg : g.bad = false) : Inv wide (k + 1) (eatS wide x g) := by
  unfold eatS; split
  · rename_i h3
    have h12 : g.wide = 1 ∨ g.wide = 2 := by
      simp [Gl.bad, h3] at hg; omega
    obtain ⟨N, h1, h2, h4⟩ := h
    refine ⟨N, h1, ?_, by simp; omega⟩
    intro g' hg'
    rcases List.mem_append.1 hg' with h5 | h5
    · exact h2 g' h5
    · simp at h5; subst h5; exact fixG_fits hw h12
  · split
    · exact ⟨k, (h.flush hw' hk).waitS g, fun g hg => by simp at hg, by simp⟩
    · exact ⟨k + 1, (h.flush hw' hk).leap hw' g, fun g hg => by simp at hg, by simp⟩
theorem Inv.eats {wide : Int} (hw : 1 ≤ wide) (hw' : wide ≤ 200) (l : List Gl) (hl : l.any Gl.bad = false) (hk : l.length ≤ 3000000000000) : ∀ k, Inv wide ((l.take k).length) ((l.take k).foldl (eatS wide) (initS, [])) := by
  intro k
  induction k with
  | zero => simpa using Inv.init wide
  | succ k ih =>
    by_cases h : k < l.length
    · have h1 : (l.take (k + 1)).length = (l.take k).length + 1 := by simp; omega
      rw [h1, List.take_succ_eq_append_getElem h, List.foldl_append]
      refine Inv.eat hw hw' (by have := List.length_take_le k l; omega) ih ?_
      have := List.any_eq_false.1 hl l[k] (List.getElem_mem h)
      simpa using this
    · rw [List.take_of_length_le (by omega)] at *
      exact ih
theorem eatS_take (wide : Int) (l : List Gl) (x : St × List Gl) (k : Nat) (h : k < l.length) : (l.take (k + 1)).foldl (eatS wide) x = eatS wide ((l.take k).foldl (eatS wide) x) l[k] := by
  rw [List.take_succ_eq_append_getElem h, List.foldl_append]; rfl
end Go.Proofs.Ytepacocajnobgaa
