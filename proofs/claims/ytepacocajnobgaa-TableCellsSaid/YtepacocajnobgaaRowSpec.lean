/- Lines fit; how rows are put together, as plain functions. -/
import Derived.Test.YtepacocajnobgaaFill2
import Derived.Test.YtepacocajnobgaaColSpec
namespace Go.Proofs.Ytepacocajnobgaa
open Go.RowKit

/-- A line that fits. -/
def Lok (wide : Int) (l : List Gl) : Prop := (∀ g ∈ l, 1 ≤ g.wide ∧ g.wide ≤ 2) ∧ sumW l ≤ wide
/-- A filler's lines fit. -/
structure Lk (wide : Int) (s : St) : Prop where
  out : ∀ l ∈ s.out, Lok wide l
  line : Lok wide s.line
  at_ : s.at_ = sumW s.line
theorem Lk.drop {wide : Int} {s : St} (h : Lk wide s) : Lk wide (dropS s) := ⟨h.out, h.line, h.at_⟩
theorem Lk.end_ {wide : Int} {s : St} (h : Lk wide s) (hw : 0 ≤ wide) : Lk wide (endS s) :=
  ⟨fun l hl => by
    rcases List.mem_append.1 hl with h1 | h1
    · exact h.out l h1
    · simp at h1; subst h1; exact h.line, ⟨fun g hg => by simp [endS] at hg, by simp [endS, sumW]; exact hw⟩, by simp [endS, sumW]⟩
theorem sumW_snoc (l : List Gl) (g : Gl) : sumW (l ++ [g]) = sumW l + g.wide := by rw [sumW_append]; simp [sumW]
theorem Lk.put {wide : Int} {s : St} (h : Lk wide s) {g : Gl} (h1 : 1 ≤ g.wide) (h2 : g.wide ≤ 2) (h3 : s.at_ + g.wide ≤ wide) : Lk wide (putS g s) :=
  ⟨h.out, ⟨fun g' hg' => by
    rcases List.mem_append.1 hg' with h4 | h4
    · exact h.line.1 g' h4
    · simp at h4; subst h4; exact ⟨h1, h2⟩, by show sumW (s.line ++ [g]) ≤ wide; rw [sumW_snoc, ← h.at_]; exact h3⟩, by show s.at_ + g.wide = sumW (s.line ++ [g]); rw [sumW_snoc, ← h.at_]⟩
theorem Lk.puts {wide : Int} : ∀ (ws : List Gl) {s : St}, Lk wide s → (∀ g ∈ ws, 1 ≤ g.wide ∧ g.wide ≤ 2) → s.at_ + sumW ws ≤ wide → Lk wide (putsS ws s)
  | [], _, h, _, _ => h
  | g :: ws, s, h, hf, ha => by
    have h1 := hf g (by simp)
    have h2 := sumW_bd ws (fun g hg => hf g (by simp [hg]))
    rw [sumW_cons] at ha
    exact Lk.puts ws (h.put h1.1 h1.2 (by omega)) (fun g hg => hf g (by simp [hg])) (by simp [putS]; omega)
theorem Lk.start {wide : Int} {s : St} (h : Lk wide s) (hw : 0 ≤ wide) : Lk wide (startS s) := by
  unfold startS; split
  · exact h.drop.end_ hw
  · exact h.drop
theorem Lk.step {wide : Int} {s : St} (h : Lk wide s) (hw : 0 ≤ wide) {g : Gl} (h1 : 1 ≤ g.wide) (h2 : g.wide ≤ 2) (h3 : g.wide ≤ wide) : Lk wide (stepS wide s g) := by
  unfold stepS; split
  · exact (h.end_ hw).put h1 h2 (by simp [endS]; exact h3)
  · exact h.put h1 h2 (by omega)
theorem Lk.steps {wide : Int} (hw : 0 ≤ wide) : ∀ (ws : List Gl) {s : St}, Lk wide s → Fits wide ws → Lk wide (ws.foldl (stepS wide) s)
  | [], _, h, _ => h
  | g :: ws, s, h, hf => by
    have h1 := hf g (by simp)
    exact Lk.steps hw ws (h.step hw h1.1 h1.2.1 h1.2.2) (fun g hg => hf g (by simp [hg]))
theorem Lk.word {wide : Int} {s : St} {N : Nat} (h : Lk wide s) (ok : Ok N s) (hw : 0 ≤ wide) {ws : List Gl} (hf : Fits wide ws) (hl : ws.length ≤ 3000000000000) : Lk wide (wordS wide ws s) := by
  unfold wordS; split
  · rename_i hc
    rw [wideOf_snoc_of ws (fits_two hf) (by omega)] at hc
    exact (Lk.puts _ h (both_two ok hf) (by rw [sumW_append, waits_sum ok]; omega)).drop
  · exact Lk.steps hw ws (h.start hw) hf
theorem Lk.tab {wide : Int} {s : St} {N : Nat} (h : Lk wide s) (ok : Ok N s) (hw : 0 ≤ wide) (g : Gl) : Lk wide (tabS wide g s) := by
  unfold tabS; split
  · exact h.drop.end_ hw
  · rename_i hc
    have h0 := ok.len
    have hb := stopAt_bd s.at_ (by omega)
    refine Lk.puts _ h.drop (fun g' hg' => by rw [List.eq_of_mem_replicate hg']; simp [blankOf]) ?_
    rw [sumW_blank]; simp [dropS]; omega
def Inv2 (wide : Int) (k : Nat) (x : St × List Gl) : Prop := Inv wide k x ∧ Lk wide x.1
theorem Inv2.flush {wide : Int} (hw' : wide ≤ 200) (hw : 1 ≤ wide) {k : Nat} (hk : k ≤ 3000000000000) {x : St × List Gl} (h : Inv2 wide k x) : Lk wide (flushS wide x) := by
  obtain ⟨⟨N, h1, h2, h3⟩, h4⟩ := h
  unfold flushS; split
  · exact h4.word h1 (by omega) h2 (by omega)
  · exact h4
theorem Inv2.eat {wide : Int} (hw : 1 ≤ wide) (hw' : wide ≤ 200) {k : Nat} (hk : k ≤ 3000000000000) {x : St × List Gl} (h : Inv2 wide k x) {g : Gl} (hg : g.bad = false) : Inv2 wide (k + 1) (eatS wide x g) := by
  refine ⟨h.1.eat hw hw' hk hg, ?_⟩
  have hf := h.flush hw' hw hk
  have hok := h.1.flush hw' hk
  unfold eatS; split
  · exact h.2
  · split
    · unfold waitS; split
      · exact ⟨hf.out, hf.line, hf.at_⟩
      · exact hf
    · unfold leapS; split
      · exact hf.tab hok (by omega) g
      · exact hf.end_ (by omega)
theorem Inv2.eats {wide : Int} (hw : 1 ≤ wide) (hw' : wide ≤ 200) (l : List Gl) (hl : l.any Gl.bad = false) (hk : l.length ≤ 3000000000000) : ∀ k, Inv2 wide ((l.take k).length) ((l.take k).foldl (eatS wide) (initS, [])) := by
  intro k
  induction k with
  | zero => exact ⟨by simpa using Inv.init wide, ⟨by simp [initS], ⟨by simp [initS], by simp [initS, sumW]; omega⟩, by simp [initS, sumW]⟩⟩
  | succ k ih =>
    by_cases h : k < l.length
    · have h1 : (l.take (k + 1)).length = (l.take k).length + 1 := by simp; omega
      rw [h1, List.take_succ_eq_append_getElem h, List.foldl_append]
      refine Inv2.eat hw hw' (by have := List.length_take_le k l; omega) ih ?_
      have := List.any_eq_false.1 hl l[k] (List.getElem_mem h)
      simpa using this
    · rw [List.take_of_length_le (by omega)] at *
      exact ih
theorem checkOf_any {l : List Gl} (h : checkOf l = 0) : l.any Gl.bad = false := by
  unfold checkOf at h
  split at h
  · cases h
  · rename_i h1; simpa using h1
/-- What Fill tells fits, and is no more lines than glyphs. -/
theorem fillS_fits {wide : Int} (hw : 1 ≤ wide) (hw' : wide ≤ 200) {l : List Gl} (hc : checkOf l = 0) (hl : l.length ≤ 3000000000000) : (∀ x ∈ fillS wide l, Lok wide x) ∧ (fillS wide l).length ≤ l.length := by
  have h := Inv2.eats hw hw' l (checkOf_any hc) hl l.length
  rw [List.take_length] at h
  have h1 := h.flush hw' hw (by omega)
  have h2 := h.1.flush hw' (by omega)
  unfold fillS doneS
  split
  · rename_i hp
    exact ⟨(h1.end_ (by omega)).out, by have := (h2.end' (List.length_pos_iff.1 hp)).out; omega⟩
  · exact ⟨h1.out, by have := h2.out; omega⟩
theorem fillOf_fits (l : List Gl) (wide : Int) (hl : l.length ≤ 3000000000000) : (∀ x ∈ (fillOf l wide).1, Lok wide x) ∧ (fillOf l wide).1.length ≤ l.length := by
  unfold fillOf
  split
  · simp
  · split
    · simp
    · rename_i h1 h2
      exact fillS_fits (by omega) (by omega) (by simpa using h2) hl

/-- Where the column ahead ends. -/
def endC (cs : List (Int × Int)) : Nat → Int
  | 0 => 0
  | k + 1 => (cs.getD k (0, 0)).1 + (cs.getD k (0, 0)).2
def okC (e : Int) (c : Int × Int) : Bool := decide (e ≤ c.1) && decide (c.1 ≤ 200) && decide (1 ≤ c.2) && decide (c.2 ≤ 200) && decide (c.1 + c.2 ≤ 200)
def goodC (cs : List (Int × Int)) : Nat → Bool
  | 0 => true
  | k + 1 => goodC cs k && okC (endC cs k) (cs.getD k (0, 0))
theorem goodC_mono {cs : List (Int × Int)} {k : Nat} (h : goodC cs k = true) : ∀ j, j < k → okC (endC cs j) (cs.getD j (0, 0)) = true := by
  induction k with
  | zero => intro j hj; omega
  | succ k ih =>
    intro j hj
    simp only [goodC, Bool.and_eq_true] at h
    rcases Nat.lt_or_ge j k with h1 | h1
    · exact ih h.1 j h1
    · obtain rfl : j = k := by omega
      exact h.2
theorem okC_bd {e : Int} {c : Int × Int} (h : okC e c = true) : e ≤ c.1 ∧ c.1 ≤ 200 ∧ 1 ≤ c.2 ∧ c.2 ≤ 200 ∧ c.1 + c.2 ≤ 200 := by
  simp only [okC, Bool.and_eq_true, decide_eq_true_eq] at h; omega
theorem endC_bd {cs : List (Int × Int)} {k : Nat} (h : goodC cs k = true) : 0 ≤ endC cs k ∧ endC cs k ≤ 200 := by
  induction k with
  | zero => simp [endC]
  | succ k ih =>
    simp only [goodC, Bool.and_eq_true] at h
    have h1 := ih h.1
    have h2 := okC_bd h.2
    simp only [endC]; omega

/-- The cells of the first i columns; the first error. -/
def cellsP (cs : List (Int × Int)) (flows : List (List Gl)) : Nat → List (List (List Gl))
  | 0 => []
  | i + 1 => cellsP cs flows i ++ [(fillOf (flows.getD i []) (cs.getD i (0, 0)).2).1]
def errP (cs : List (Int × Int)) (flows : List (List Gl)) : Nat → Int
  | 0 => 0
  | i + 1 => if errP cs flows i ≠ 0 then errP cs flows i else (fillOf (flows.getD i []) (cs.getD i (0, 0)).2).2
def highP (cells : List (List (List Gl))) : Nat → Int
  | 0 => 0
  | i + 1 => max (highP cells i) ((cells.getD i []).length : Int)
def plainG : Gl := { text := ⟨#[32]⟩, wide := 1, attr := 0, color := 7, link := 0 }
/-- A line up to a place; one column more. -/
def padTo (at_ : Int) (l : List Gl) : List Gl := l ++ List.replicate (at_ - sumW l).toNat plainG
def joinP (cs : List (Int × Int)) (cells : List (List (List Gl))) (k : Nat) : Nat → List Gl
  | 0 => []
  | i + 1 => if k < (cells.getD i []).length then padTo (cs.getD i (0, 0)).1 (joinP cs cells k i) ++ (cells.getD i []).getD k [] else joinP cs cells k i
def rowsP (cs : List (Int × Int)) (cells : List (List (List Gl))) (n : Nat) : Nat → List (List Gl)
  | 0 => []
  | k + 1 => rowsP cs cells n k ++ [joinP cs cells k n]
def rowOf (cs : List (Int × Int)) (flows : List (List Gl)) : List (List Gl) × Int :=
  if cs.length ≠ flows.length ∨ cs.length < 1 ∨ 8 < cs.length ∨ goodC cs cs.length = false then ([], 1)
  else if errP cs flows cs.length ≠ 0 then ([], errP cs flows cs.length)
  else (rowsP cs (cellsP cs flows cs.length) cs.length (highP (cellsP cs flows cs.length) cs.length).toNat, 0)
end Go.Proofs.Ytepacocajnobgaa
