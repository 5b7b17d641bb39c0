/- (*find.Finder).Ask. -/
import Derived.Test.YthpbdeiphagkiaaGreatDoorStable
namespace Go.Proofs.YthpbdeiphagkiaaGreatDoor
open Go.RowKit Find

def fndsCells (l : List Fnd) : List Value := l.flatMap fun x => [.int .i64 x.topic, .int .i64 x.score, .int .i64 x.place]
theorem fndsCells_length (l : List Fnd) : (fndsCells l).length = l.length * 3 := by
  unfold fndsCells
  induction l with
  | nil => rfl
  | cons s l ih => simp only [List.flatMap_cons, List.length_append, List.length_cons, List.length_nil, ih]; omega
theorem fndsCells_append (a b : List Fnd) : fndsCells (a ++ b) = fndsCells a ++ fndsCells b := by simp [fndsCells]
theorem fndsCells_get (l : List Fnd) : ∀ (k : Nat) (h : k < l.length), (fndsCells l)[k * 3]? = some (.int .i64 l[k].topic) ∧ (fndsCells l)[k * 3 + 1]? = some (.int .i64 l[k].score) ∧ (fndsCells l)[k * 3 + 2]? = some (.int .i64 l[k].place) := by
  induction l with
  | nil => intro k h; simp at h
  | cons p l ih =>
    intro k h
    have hc : fndsCells (p :: l) = [.int .i64 p.topic, .int .i64 p.score, .int .i64 p.place] ++ fndsCells l := rfl
    rw [hc]
    cases k with
    | zero => exact ⟨rfl, rfl, rfl⟩
    | succ k =>
      obtain ⟨h0, h1, h2⟩ := ih k (by simpa using h)
      have key : ∀ j, ([Value.int .i64 p.topic, Value.int .i64 p.score, Value.int .i64 p.place] ++ fndsCells l)[(k + 1) * 3 + j]? = (fndsCells l)[k * 3 + j]? := fun j => by
        rw [show (k + 1) * 3 + j = 3 + (k * 3 + j) by omega, List.getElem?_append_right (by simp only [List.length_cons, List.length_nil]; omega)]
        congr 1
        simp only [List.length_cons, List.length_nil]; omega
      exact ⟨(key 0).trans h0, (key 1).trans h1, (key 2).trans h2⟩
/-- A slice that reads as what is found. -/
def FndSl (w : World) (v : Value) (R : List Fnd) : Prop := ∃ a c, v = .slice a R.length c ∧ ∀ (k : Nat) (h : k < R.length), ∃ g, a = some ⟨g, 0, none⟩ ∧ w.cell? ⟨g, k * 3, none⟩ = some (.int .i64 R[k].topic) ∧ w.cell? ⟨g, k * 3 + 1, none⟩ = some (.int .i64 R[k].score) ∧ w.cell? ⟨g, k * 3 + 2, none⟩ = some (.int .i64 R[k].place)
theorem FndSl.new {w w' : World} {v : Value} {l : List Fnd} (h : FndSl w v l) (hb : Below w.heap.size w w') : FndSl w' v l := by
  obtain ⟨a, c, rfl, hc⟩ := h
  refine ⟨a, c, rfl, fun k hk => ?_⟩
  obtain ⟨g, rfl, h0, h1, h2⟩ := hc k hk
  have lt := World.block_lt_of_cell? w _ h0
  exact ⟨g, rfl, (hb.cell (p := ⟨g, k * 3, none⟩) lt).trans h0, (hb.cell (p := ⟨g, k * 3 + 1, none⟩) lt).trans h1, (hb.cell (p := ⟨g, k * 3 + 2, none⟩) lt).trans h2⟩
def fnd0 : Fnd := ⟨0, 0, 0⟩
theorem row_of_owns {w : World} {B g cap : Nat} {l : List Fnd} (h : w.ownsRow B 56 3 (.slice (some ⟨g, 0, none⟩) l.length cap) l.length (fndsCells l)) : FR w g l.length (fun k => l.getD k fnd0) := by
  obtain ⟨c, hc⟩ := owns_kind h g rfl
  refine ⟨c, hc, fun k hk => ?_⟩
  obtain ⟨h0, h1, h2⟩ := fndsCells_get l k hk
  have key : ∀ j u, (fndsCells l)[j]? = some u → c[j]? = some u := fun j u hj => by
    have := h.cells (g := g) rfl j u hj
    rw [add_none, Nat.zero_add, Lib.cell_of_heap hc] at this
    exact this
  have e : l.getD k fnd0 = l[k] := by rw [List.getD_eq_getElem?_getD, List.getElem?_eq_getElem hk]; rfl
  simp only [e]
  exact ⟨key _ _ h0, key _ _ h1, key _ _ h2⟩
theorem seg_all (l : List Fnd) : seg (fun k => l.getD k fnd0) 0 l.length = l := by
  apply List.ext_getElem
  · rw [seg_len]; omega
  · intro i h1 h2
    rw [seg_getElem]
    simp only [Nat.zero_add]
    rw [List.getD_eq_getElem?_getD, List.getElem?_eq_getElem h2]; rfl
theorem sl_of_row {w : World} {g n cap : Nat} {f : RowF} (h : FR w g n f) : FndSl w (.slice (some ⟨g, 0, none⟩) n cap) (seg f 0 n) := by
  have hl : (seg f 0 n).length = n := by rw [seg_len]; omega
  refine ⟨_, cap, by rw [hl], fun k hk => ⟨g, rfl, ?_⟩⟩
  rw [seg_getElem, Nat.zero_add]
  rw [hl] at hk
  exact ⟨h.c0 hk, h.c1 hk, h.c2 hk⟩

/-- Scores are no great numbers. -/
theorem foundF_score {has : Cl → Bool} {T B : List Wd} (hT : T.length ≤ 5242881) (hB : B.length ≤ 5242881) : ∀ (cs : List Cl) (k x : Fnd), foundF has T B k cs = some x → k.score ≤ x.score ∧ x.score ≤ k.score + 100000000 * (cs.length : Int)
  | [], k, x, h => by simp [foundF] at h; rw [h]; simp
  | c :: cs, k, x, h => by
    unfold foundF at h
    have ht := (hits_le c T).1
    have hb := (hits_le c B).1
    split at h
    · have := foundF_score hT hB cs k x h
      simp only [List.length_cons]; push_cast; omega
    · split at h
      · cases h
      · split at h
        · have := foundF_score hT hB cs k x h
          simp only [List.length_cons]; push_cast; omega
        · have := foundF_score hT hB cs _ x h
          simp only [stepF] at this
          simp only [List.length_cons]; push_cast; omega
theorem foundsF_succ (LL : Lists) (cs : List Cl) (n : Nat) : foundsF LL cs (n + 1) = foundsF LL cs n ++ (foundF (hasC LL) (LL.getD n ([], [])).1 (LL.getD n ([], [])).2 (found0 n) cs).toList := by
  unfold foundsF
  rw [List.range_succ, List.filterMap_append]
  congr 1
theorem foundsF_tup (LL : Lists) (cs : List Cl) : ∀ n, (foundsF LL cs n).Pairwise (fun x y => x.topic < y.topic) ∧ (∀ x ∈ foundsF LL cs n, x.topic < n) ∧ (foundsF LL cs n).length ≤ n
  | 0 => by simp [foundsF]
  | n + 1 => by
    obtain ⟨h1, h2, h3⟩ := foundsF_tup LL cs n
    rw [foundsF_succ]
    cases h : foundF (hasC LL) (LL.getD n ([], [])).1 (LL.getD n ([], [])).2 (found0 n) cs with
    | none => simp only [Option.toList_none, List.append_nil]; exact ⟨h1, fun x hx => by have := h2 x hx; push_cast; omega, by omega⟩
    | some y =>
      have ht := foundF_topic _ _ _ _ _ _ h
      simp only [found0] at ht
      simp only [Option.toList_some]
      refine ⟨List.pairwise_append.2 ⟨h1, List.pairwise_singleton _ _, fun x hx z hz => ?_⟩, fun x hx => ?_, by simp; omega⟩
      · rw [List.mem_singleton.1 hz, ht]; exact h2 x hx
      · rcases List.mem_append.1 hx with hx | hx
        · have := h2 x hx; push_cast; omega
        · rw [List.mem_singleton.1 hx, ht]; push_cast; omega
theorem asksN_take (cs : List Cl) (j : Nat) (h : j < cs.length) : asksN (cs.take (j + 1)) = asksN (cs.take j) + (if (!cs[j].no && !cs[j].words.isEmpty) = true then 1 else 0) := by
  unfold asksN
  rw [List.take_succ_eq_append_getElem h, List.filter_append, List.length_append]
  congr 1
  simp only [List.filter_cons, List.filter_nil]
  split <;> simp
theorem asksN_le (cs : List Cl) : asksN cs ≤ cs.length := List.length_filter_le _ _
theorem insert_nil (w : World) : Calls Tryz.prog 70 #[.slice none 0 0, .int .i64 0, .int .i64 0, .func (.func 25) #[] #[]] w fun e w' => e = .returned (.tuple #[]) ∧ w = w' := by
  go_enter Tryz.func70, Tryz.ntmps70
  go_wp2
  go_loopw [8] (fun q wr => q = .int .i64 1 ∧ w = wr) (fun _ _ => 0)
  case atStart => exact ⟨rfl, rfl⟩
  case round =>
    obtain ⟨rfl, rfl⟩ := hrel
    go_wp2
    go_end0
    exact ⟨rfl, rfl⟩
theorem stable_nil (w : World) : Calls Tryz.prog 44 #[.slice none 0 0, .int .i64 0, .func (.func 25) #[] #[]] w fun e w' => e = .returned (.tuple #[]) ∧ w = w' := by
  have H := Lib.hid (insert_nil w)
  go_enter Tryz.func44, Tryz.ntmps44
  go_wp2
  go_loopw [7, 8] (fun p q wr => p = .int .i64 0 ∧ q = .int .i64 20 ∧ w = wr) (fun _ _ _ => 0)
  case atStart => exact ⟨rfl, rfl, rfl⟩
  case round =>
    obtain ⟨rfl, rfl, rfl⟩ := hrel
    go_wp2_with (go_at_call 70; refine H.out.mono ?_; rintro e w1 ⟨rfl, rfl⟩)
    go_loopw [6] (fun q w2 => q = .int .i64 20 ∧ w = w2) (fun _ _ => 0)
    case atStart => exact ⟨rfl, rfl⟩
    case round =>
      obtain ⟨rfl, rfl⟩ := hrel
      go_wp2
      go_end0
      exact ⟨rfl, rfl⟩
theorem sort_nil (w : World) : Calls Tryz.prog 24 #[.slice none 0 0, .func (.func 25) #[] #[]] w fun e w' => e = .returned (.tuple #[]) ∧ w = w' := by
  have H := Lib.hid (stable_nil w)
  go_enter Tryz.func24, Tryz.ntmps24
  go_wp2_with (go_at_call 44; refine H.out.mono ?_; rintro e w1 ⟨rfl, rfl⟩)
  go_end0
  exact ⟨rfl, rfl⟩
/-- The sort of what is found, whatever it is: nothing or a row. -/
theorem told_any (LL : Lists) (cs : List Cl) (R : List Fnd) (hR : R = founds LL cs) (B : Nat) (v : Value) (w : World) (hv : w.ownsRow B 56 3 v R.length (fndsCells R)) (hnil : R = [] → v = .slice none 0 0)
    (hn : R.length ≤ 1099511627776) (hs : ∀ x ∈ R, 0 ≤ x.score ∧ x.score ≤ 1099511627776000) (ht : R.Pairwise fun x y => x.topic < y.topic) :
    Calls Tryz.prog 24 #[v, .func (.func 25) #[] #[]] w fun e w' => e = .returned (.tuple #[]) ∧ (∃ S, Find.Told LL cs S ∧ FndSl w' v S) ∧ Below B w w' := by
  by_cases h0 : R = []
  · rw [hnil h0]
    refine (sort_nil w).mono ?_
    rintro e w' ⟨rfl, rfl⟩
    exact ⟨rfl, ⟨[], ⟨List.Pairwise.nil, by rw [← hR, h0]⟩, none, 0, rfl, fun k hk => absurd hk (Nat.not_lt_zero _)⟩, Below.refl _ _⟩
  · have hp : 0 < R.length := List.length_pos_iff.2 h0
    obtain ⟨g, cap, rfl, _⟩ := hv.form hp
    have hB := (hv.lt g rfl).1
    have hf := row_of_owns hv
    have hget : ∀ k, k < R.length → ∃ x ∈ R, R.getD k fnd0 = x := fun k hk => ⟨R[k], List.getElem_mem hk, by rw [List.getD_eq_getElem?_getD, List.getElem?_eq_getElem hk]; rfl⟩
    refine (sort_any _ g R.length cap w hf hn (fun k hk => ?_) (fun i j _ hij hj => ?_)).mono ?_
    · obtain ⟨x, hx, e⟩ := hget k hk
      simp only [e]; exact hs x hx
    · have := List.pairwise_iff_getElem.1 ht i j (by omega) hj hij
      simp only [List.getD_eq_getElem?_getD, List.getElem?_eq_getElem hj, List.getElem?_eq_getElem (show i < R.length by omega), Option.getD_some]
      exact this
    · rintro e w' ⟨rfl, f', hf', s1, p1, hb⟩
      refine ⟨rfl, ⟨seg f' 0 R.length, ⟨s1, ?_⟩, sl_of_row hf'⟩, hb.mono hB⟩
      rw [seg_all] at p1
      rw [← hR]; exact p1
end Go.Proofs.YthpbdeiphagkiaaGreatDoor
