/- FindBeside, plain: what several words side by side hit each of them hits; an open clause hits no less; the order of clauses is no matter. -/
import Derived.Test.YthpbdeiphagkiaaDoorOpenF
namespace Go.Proofs.YthpbdeiphagkiaaDoor
open Go.RowKit Find

theorem hits_pos {c : Cl} {l : List Wd} : 0 < (hits c l).length ↔ ∃ k, k < l.length ∧ standsB c l k = true := by
  unfold hits
  rw [List.length_pos_iff_exists_mem]
  simp [List.mem_filter]
theorem hit_iff {c : Cl} {LL : Lists} {i : Nat} : hit c LL i = true ↔ (∃ k, k < (LL.getD i ([], [])).1.length ∧ standsB c (LL.getD i ([], [])).1 k = true) ∨ (∃ k, k < (LL.getD i ([], [])).2.length ∧ standsB c (LL.getD i ([], [])).2 k = true) := by
  unfold hit
  rw [decide_eq_true_eq, ← hits_pos, ← hits_pos]
  omega
theorem stands_wide {ws : List Wd} {l : List Wd} {k : Nat} (h : standsB ⟨ws, false, false⟩ l k = true) : standsB ⟨ws, false, true⟩ l k = true := by
  rw [standsB_eq, Bool.and_eq_true, List.all_eq_true] at h ⊢
  refine ⟨h.1, fun i hi => ?_⟩
  have := h.2 i hi
  unfold okAt at this ⊢
  simp only [Bool.and_false, Bool.false_and, Bool.or_false] at this
  simp only [this, Bool.true_or]
theorem stands_mem {ws : List Wd} {l : List Wd} {k : Nat} (h : standsB ⟨ws, false, false⟩ l k = true) {x : Wd} (hx : x ∈ ws) : x ∈ l := by
  rw [standsB_eq, Bool.and_eq_true, List.all_eq_true, decide_eq_true_eq] at h
  obtain ⟨i, hi, rfl⟩ := List.mem_iff_getElem.1 hx
  have := h.2 i (List.mem_range.2 hi)
  unfold okAt at this
  simp only [Bool.and_false, Bool.false_and, Bool.or_false, beq_iff_eq] at this
  have h1 := h.1
  simp only at h1
  have hlt : k + i < l.length := by omega
  rw [List.getD_eq_getElem?_getD, List.getD_eq_getElem?_getD, List.getElem?_eq_getElem hlt, List.getElem?_eq_getElem hi] at this
  simp only [Option.getD_some] at this
  rw [← this]; exact List.getElem_mem hlt
theorem okB_single {LL : Lists} {ws : List Wd} {o : Bool} {i : Nat} : okB LL [⟨ws, false, o⟩] i = true ↔ ws ≠ [] ∧ hit ⟨ws, false, o⟩ LL i = true := by
  unfold okB asksN
  cases ws with
  | nil => simp
  | cons x r => simp
theorem beside_more {LL : Lists} {ws : List Wd} {t : Int} (h : t ∈ okTopics LL [⟨ws, false, false⟩]) : t ∈ okTopics LL [⟨ws, false, true⟩] := by
  rw [mem_okTopics] at h ⊢
  obtain ⟨i, hi, ho, ht⟩ := h
  refine ⟨i, hi, ?_, ht⟩
  rw [okB_single] at ho ⊢
  refine ⟨ho.1, ?_⟩
  have := ho.2
  rw [hit_iff] at this ⊢
  rcases this with ⟨k, hk, hs⟩ | ⟨k, hk, hs⟩
  · exact .inl ⟨k, hk, stands_wide hs⟩
  · exact .inr ⟨k, hk, stands_wide hs⟩
theorem beside_word {LL : Lists} {ws : List Wd} {t : Int} (h : t ∈ okTopics LL [⟨ws, false, false⟩]) {x : Wd} (hx : x ∈ ws) : t ∈ okTopics LL [Find.one x] := by
  rw [mem_okTopics] at h ⊢
  obtain ⟨i, hi, ho, ht⟩ := h
  refine ⟨i, hi, ?_, ht⟩
  rw [okB_single] at ho
  rw [okB_one (c := Find.one x) rfl rfl rfl, decide_eq_true_eq]
  unfold allAt
  rcases hit_iff.1 ho.2 with ⟨k, hk, hs⟩ | ⟨k, hk, hs⟩
  · exact List.mem_append_left _ (stands_mem hs hx)
  · exact List.mem_append_right _ (stands_mem hs hx)
theorem told_rev {LL : Lists} {cs : List Cl} {R S : List Fnd} (h : Find.Told LL cs R) (h' : Find.Told LL cs.reverse S) : R = S :=
  Find.Told.unique h ⟨h'.1, by rw [founds_perm LL (List.reverse_perm cs).symm]; exact h'.2⟩

/-- Clauses that came in, or lie as they came in: of an empty slice the room is known. -/
def ClAtN (w : World) (g o : Nat) (c : Cl) : Prop := ∃ aw cw, (w.cell? ⟨g, o, none⟩ = some (.slice aw c.words.length cw) ∧ w.cell? ⟨g, o + 1, none⟩ = some (.bool c.no) ∧ w.cell? ⟨g, o + 2, none⟩ = some (.bool c.opn) ∧ StrSl w (.slice aw c.words.length cw) c.words) ∧ (aw = none → cw = 0)
def ClsN (w : World) (v : Value) (l : List Cl) : Prop := ∃ a c, v = .slice a l.length c ∧ ∀ (k : Nat) (h : k < l.length), ∃ g o, a = some ⟨g, o, none⟩ ∧ ClAtN w g (o + k * 3) l[k]
theorem ClAtN.new {w w' : World} {g o : Nat} {c : Cl} (h : ClAtN w g o c) (hb : Below w.heap.size w w') : ClAtN w' g o c := by
  obtain ⟨aw, cw, ⟨h0, h1, h2, h3⟩, hn⟩ := h
  have lt := World.block_lt_of_cell? w _ h0
  exact ⟨aw, cw, ⟨(hb.cell (p := ⟨g, o, none⟩) lt).trans h0, (hb.cell (p := ⟨g, o + 1, none⟩) lt).trans h1, (hb.cell (p := ⟨g, o + 2, none⟩) lt).trans h2, h3.new hb⟩, hn⟩
theorem ClsN.new {w w' : World} {v : Value} {l : List Cl} (h : ClsN w v l) (hb : Below w.heap.size w w') : ClsN w' v l := by
  obtain ⟨a, c, rfl, hc⟩ := h
  refine ⟨a, c, rfl, fun k hk => ?_⟩
  obtain ⟨g, o, rfl, hcell⟩ := hc k hk
  exact ⟨g, o, rfl, hcell.new hb⟩
/-- A clause's words as they came in. -/
def InWd (w : World) (u : Value) (c : Cl) : Prop := ∃ aw cw, u = .slice aw c.words.length cw ∧ StrSl w u c.words ∧ (aw = none → cw = 0)
theorem InWd.new {w w' : World} {u : Value} {c : Cl} (h : InWd w u c) (hb : Below w.heap.size w w') : InWd w' u c := by
  obtain ⟨aw, cw, rfl, h1, h2⟩ := h
  exact ⟨aw, cw, rfl, h1.new hb, h2⟩
/-- A row of clauses of which the words are as they came in. -/
def InRow (B : Nat) (w : World) (v : Value) (us : List Value) (L : List Cl) : Prop := us.length = L.length ∧ w.ownsRow B 31 3 v L.length (clCells us L) ∧ ∀ (i : Nat) (u : Value) (c : Cl), us[i]? = some u → L[i]? = some c → InWd w u c
theorem InRow.new {B : Nat} {w w' : World} {v : Value} {us : List Value} {L : List Cl} (h : InRow B w v us L) (hb : Below w.heap.size w w') : InRow B w' v us L :=
  ⟨h.1, owns_new h.2.1 hb, fun i u c hu hc => (h.2.2 i u c hu hc).new hb⟩
theorem InRow.sl {B : Nat} {w : World} {v : Value} {us : List Value} {L : List Cl} (h : InRow B w v us L) : ClsN w v L := by
  obtain ⟨hl, hown, hs⟩ := h
  obtain ⟨a, c, rfl⟩ := slice_form hown
  refine ⟨a, c, rfl, fun k hk => ?_⟩
  obtain ⟨g, cap, he, _⟩ := hown.form (by omega)
  simp only [Value.slice.injEq] at he
  obtain ⟨rfl, _, rfl⟩ := he
  obtain ⟨h0, h1, h2⟩ := clCells_get us L k (by omega) hk
  have key : ∀ j u, (clCells us L)[j]? = some u → w.cell? ⟨g, 0 + j, none⟩ = some u := fun j u hj => by
    have := hown.cells (g := g) rfl j u hj
    rw [add_none] at this
    exact this
  obtain ⟨a', c', hf, hr, hn⟩ := hs k us[k] L[k] (List.getElem?_eq_getElem _) (List.getElem?_eq_getElem _)
  refine ⟨g, 0, rfl, a', c', ⟨?_, ?_, ?_, ?_⟩, hn⟩
  · rw [← hf]; exact key _ _ h0
  · have := key _ _ h1; rwa [← Nat.add_assoc] at this
  · have := key _ _ h2; rwa [← Nat.add_assoc] at this
  · rw [← hf]; exact hr
theorem clCells_length : ∀ (us : List Value) (L : List Cl), us.length = L.length → (clCells us L).length = L.length * 3
  | [], [], _ => rfl
  | u :: us, c :: L, h => by
    have := clCells_length us L (by simpa using h)
    show ([u, Value.bool c.no, Value.bool c.opn] ++ clCells us L).length = _
    rw [List.length_append, this]; simp only [List.length_cons, List.length_nil]; omega
  | [], _ :: _, h => by simp at h
  | _ :: _, [], h => by simp at h
theorem clCells_one : ∀ (us : List Value) (L : List Cl), (∀ u ∈ us, u.oneCell' = true) → ∀ x ∈ clCells us L, x.oneCell' = true
  | [], _, _, x, hx => by simp [clCells] at hx
  | _ :: _, [], _, x, hx => by simp [clCells] at hx
  | u :: us, c :: L, h, x, hx => by
    have hx : x ∈ [u, Value.bool c.no, Value.bool c.opn] ++ clCells us L := hx
    rcases List.mem_append.1 hx with hx | hx
    · simp only [List.mem_cons, List.not_mem_nil, or_false] at hx
      rcases hx with rfl | rfl | rfl
      · exact h _ (by simp)
      · rfl
      · rfl
    · exact clCells_one us L (fun u hu => h u (by simp [hu])) x hx
theorem InRow.one {B : Nat} {w : World} {v : Value} {us : List Value} {L : List Cl} (h : InRow B w v us L) : ∀ x ∈ clCells us L, x.oneCell' = true :=
  clCells_one us L fun u hu => by
    obtain ⟨i, hi, rfl⟩ := List.mem_iff_getElem.1 hu
    obtain ⟨a, c, e, _⟩ := h.2.2 i us[i] (L[i]'(by have := h.1; omega)) (List.getElem?_eq_getElem _) (List.getElem?_eq_getElem _)
    rw [e]; rfl
/-- A clause laid ahead. -/
theorem InRow.front {B : Nat} {w w' : World} {v v' u : Value} {us : List Value} {L : List Cl} {c : Cl} (h : InRow B w v us L) (hb : Below w.heap.size w w') (hu : InWd w' u c)
    (hown : w'.ownsRow B 31 3 v' (1 + L.length) ([u, .bool c.no, .bool c.opn] ++ clCells us L)) : InRow B w' v' (u :: us) (c :: L) := by
  refine ⟨by simp [h.1], by rw [List.length_cons, Nat.add_comm]; exact hown, fun i x y hx hy => ?_⟩
  cases i with
  | zero =>
    simp only [List.getElem?_cons_zero, Option.some.injEq] at hx hy
    subst hx hy; exact hu
  | succ i => exact (h.2.2 i x y (by simpa using hx) (by simpa using hy)).new hb
end Go.Proofs.YthpbdeiphagkiaaDoor
