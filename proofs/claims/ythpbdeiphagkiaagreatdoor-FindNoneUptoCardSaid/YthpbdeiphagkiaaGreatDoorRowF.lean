/- A row of what is found, in memory: as a function. -/
import Derived.Test.YthpbdeiphagkiaaGreatDoorFound
import Derived.Test.YthpbdeiphagkiaaGreatDoorSortPlain
import Derived.BigRegion
namespace Go.Proofs.YthpbdeiphagkiaaGreatDoor
open Go.RowKit Find

/-- So many elements of the block are those of a function. -/
def FR (w : World) (g n : Nat) (f : RowF) : Prop := ∃ c : Array Value, w.heap[g]? = some (.cells c 56 (0, 0)) ∧ ∀ k, k < n → c[k * 3]? = some (.int .i64 (f k).topic) ∧ c[k * 3 + 1]? = some (.int .i64 (f k).score) ∧ c[k * 3 + 2]? = some (.int .i64 (f k).place)
theorem FR.c0 {w : World} {g n : Nat} {f : RowF} (h : FR w g n f) {k : Nat} (hk : k < n) : w.cell? ⟨g, k * 3, none⟩ = some (.int .i64 (f k).topic) := by
  obtain ⟨c, h1, h2⟩ := h; rw [Lib.cell_of_heap h1]; exact (h2 k hk).1
theorem FR.c1 {w : World} {g n : Nat} {f : RowF} (h : FR w g n f) {k : Nat} (hk : k < n) : w.cell? ⟨g, k * 3 + 1, none⟩ = some (.int .i64 (f k).score) := by
  obtain ⟨c, h1, h2⟩ := h; rw [Lib.cell_of_heap h1]; exact (h2 k hk).2.1
theorem FR.c2 {w : World} {g n : Nat} {f : RowF} (h : FR w g n f) {k : Nat} (hk : k < n) : w.cell? ⟨g, k * 3 + 2, none⟩ = some (.int .i64 (f k).place) := by
  obtain ⟨c, h1, h2⟩ := h; rw [Lib.cell_of_heap h1]; exact (h2 k hk).2.2
theorem FR.frozen {w : World} {g n : Nat} {f : RowF} (h : FR w g n f) (i : Nat) : w.frozen? ⟨g, i, none⟩ = false := by
  obtain ⟨c, h1, _⟩ := h; exact Lib.frozen_of_heap h1 i
theorem FR.lt {w : World} {g n : Nat} {f : RowF} (h : FR w g n f) : g < w.heap.size := by
  obtain ⟨c, h1, _⟩ := h; exact lt_of_heap h1
theorem FR.same {w w' : World} {g n : Nat} {f : RowF} (h : FR w g n f) (e : w'.heap[g]? = w.heap[g]?) : FR w' g n f := by
  obtain ⟨c, h1, h2⟩ := h; exact ⟨c, e.trans h1, h2⟩
theorem FR.congr {w : World} {g n : Nat} {f f' : RowF} (h : FR w g n f) (e : ∀ k, k < n → f' k = f k) : FR w g n f' := by
  obtain ⟨c, h1, h2⟩ := h; exact ⟨c, h1, fun k hk => by rw [e k hk]; exact h2 k hk⟩
def put3 (w : World) (g k : Nat) (x : Fnd) : World := ((w.setCell ⟨g, k * 3, none⟩ (.int .i64 x.topic)).setCell ⟨g, k * 3 + 1, none⟩ (.int .i64 x.score)).setCell ⟨g, k * 3 + 2, none⟩ (.int .i64 x.place)
theorem FR.put {w : World} {g n : Nat} {f : RowF} (h : FR w g n f) {k : Nat} (hk : k < n) (x : Fnd) : FR (put3 w g k x) g n (setF f k x) := by
  obtain ⟨c, h1, h2⟩ := h
  have e0 := setCell_heap (i := k * 3) h1 (.int .i64 x.topic)
  have e1 := setCell_heap (i := k * 3 + 1) e0 (.int .i64 x.score)
  have e2 := setCell_heap (i := k * 3 + 2) e1 (.int .i64 x.place)
  refine ⟨_, e2, fun i hi => ?_⟩
  have key : ∀ {c : Array Value} {j : Nat} {v u : Value}, c[j]? = some u → ∀ (m : Nat), (c.setIfInBounds m v)[j]? = some (if m = j then v else u) := fun {c j v u} hc m => by
    have hlt : j < c.size := (Array.getElem?_eq_some_iff.1 hc).1
    rw [Array.getElem?_setIfInBounds]
    by_cases hm : m = j
    · rw [if_pos hm, if_pos hm, if_pos (by omega)]
    · rw [if_neg hm, if_neg hm, hc]
  obtain ⟨q0, q1, q2⟩ := h2 i hi
  refine ⟨(key (key (key q0 _) _) _).trans ?_, (key (key (key q1 _) _) _).trans ?_, (key (key (key q2 _) _) _).trans ?_⟩
  all_goals
    unfold setF
    by_cases hik : i = k
    · subst hik; simp
    · rw [if_neg hik]
      simp only [show ¬ (k * 3 = i * 3) by omega, show ¬ (k * 3 = i * 3 + 1) by omega, show ¬ (k * 3 = i * 3 + 2) by omega, show ¬ (k * 3 + 1 = i * 3) by omega, show ¬ (k * 3 + 1 = i * 3 + 1) by omega, show ¬ (k * 3 + 1 = i * 3 + 2) by omega, show ¬ (k * 3 + 2 = i * 3) by omega, show ¬ (k * 3 + 2 = i * 3 + 1) by omega, show ¬ (k * 3 + 2 = i * 3 + 2) by omega, if_false]
theorem FR.drew {w : World} {g n : Nat} {f : RowF} (h : FR w g n f) : FR w.drew g n f := h
theorem below_put3 {B g k : Nat} {a w : World} (h : Below B a w) (hg : B ≤ g) (x : Fnd) : Below B a (put3 w g k x) := ((h.setCell (p := ⟨g, k * 3, none⟩) hg _).setCell (p := ⟨g, k * 3 + 1, none⟩) hg _).setCell (p := ⟨g, k * 3 + 2, none⟩) hg _
/-- The comparison: of scores. -/
def cmpF (x y : Fnd) : Int := y.score - x.score
def fndV (x : Fnd) : Value := .agg #[.int .i64 x.topic, .int .i64 x.score, .int .i64 x.place]
/-- Scores of a row that are no great numbers. -/
def ScOk (f : RowF) (n : Nat) : Prop := ∀ k, k < n → 0 ≤ (f k).score ∧ (f k).score ≤ 1099511627776000

theorem cmp_any (x y : Fnd) (w : World) (hx : 0 ≤ x.score) (hx2 : x.score ≤ 1099511627776000) (hy : 0 ≤ y.score) (hy2 : y.score ≤ 1099511627776000) :
    Calls Tryz.prog 25 #[fndV x, fndV y] w fun e w' => e = .returned (.int .i64 (cmpF x y)) ∧ Below w.heap.size w w' := by
  have hz4 : Tryz.prog.cellsOf 56 = 3 := by kernel_rfl
  unfold fndV cmpF
  go_enter Tryz.func25, Tryz.ntmps25
  go_wp2
  go_ret
  exact ⟨rfl, ((Below.refl _ _).alloc (Nat.le_refl _) _).alloc (by simp) _⟩

set_option maxHeartbeats 4000000 in
set_option maxRecDepth 100000 in
theorem swap_any (f : RowF) (g n cap a b m : Nat) (cv : Value) (w : World) (h : FR w g n f) (hab : a + m ≤ b) (hb : b + m ≤ n) (hn : n ≤ 1099511627776) :
    Calls Tryz.prog 108 #[.slice (some ⟨g, 0, none⟩) n cap, .int .i64 a, .int .i64 b, .int .i64 m, cv] w fun e w' => e = .returned (.tuple #[]) ∧ FR w' g n (swapF f a b m) ∧ Below g w w' := by
  have hz4 : Tryz.prog.cellsOf 56 = 3 := by kernel_rfl
  have H := Lib.hid h
  clear h
  go_enter Tryz.func108, Tryz.ntmps108
  go_wp2
  go_loopw [10] (fun q wr => ∃ i : Nat, i ≤ m ∧ q = .int .i64 i ∧ FR wr g n (swapF f a b i) ∧ Below g w wr) (fun q _ => m - (intOf q).toNat)
  case atStart => exact ⟨0, Nat.zero_le _, rfl, by rw [swapF_zero]; exact H.out, Below.refl _ _⟩
  case round =>
    obtain ⟨i, hi, rfl, hf, hbw⟩ := hrel
    have HF := Lib.hid hf
    have HB := Lib.hid hbw
    clear hf hbw
    by_cases hlt : i < m
    · have p0 := HF.out.c0 (show a + i < n by omega)
      have p1 := HF.out.c1 (show a + i < n by omega)
      have p2 := HF.out.c2 (show a + i < n by omega)
      have q0 := HF.out.c0 (show b + i < n by omega)
      have q1 := HF.out.c1 (show b + i < n by omega)
      have q2 := HF.out.c2 (show b + i < n by omega)
      have fz := HF.out.frozen
      obtain ⟨x, hx⟩ : ∃ x, x = swapF f a b i (a + i) := ⟨_, rfl⟩
      obtain ⟨y, hy⟩ : ∃ x, x = swapF f a b i (b + i) := ⟨_, rfl⟩
      rw [← hx] at p0 p1 p2
      rw [← hy] at q0 q1 q2
      have HX := Lib.hid (And.intro hx hy)
      clear hx hy
      go_wp2
      go_region
      go_wp2
      go_roundw
      case rel =>
        have h2 := (HF.out.put (show a + i < n by omega) y).put (show b + i < n by omega) x
        rw [HX.out.1, HX.out.2, swapF_succ f (show a + i < b by omega), ← HX.out.1, ← HX.out.2] at h2
        have h3 := h2.drew
        have h4 := (below_put3 (below_put3 HB.out (Nat.le_refl g) y (k := a + i)) (Nat.le_refl g) x (k := b + i)).drew
        unfold put3 at h3 h4
        exact ⟨i + 1, by omega, by go_num, h3, h4⟩
      case measure => simp [intOf] <;> omega
    · have him : i = m := by omega
      subst him
      go_wp2
      go_end0
      exact ⟨rfl, HF.out, HB.out⟩
end Go.Proofs.YthpbdeiphagkiaaGreatDoor
