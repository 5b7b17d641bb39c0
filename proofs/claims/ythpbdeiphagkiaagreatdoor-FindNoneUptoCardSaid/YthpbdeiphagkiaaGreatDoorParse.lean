/- find.Parse, (*find.Finder).Search. -/
import Derived.Test.YthpbdeiphagkiaaGreatDoorClause
import Derived.Test.YthpbdeiphagkiaaGreatDoorAskW
namespace Go.Proofs.YthpbdeiphagkiaaGreatDoor
open Go.RowKit Find

def Find.parseF : Nat → Wd → List Cl
  | 0, _ => []
  | _ + 1, [] => []
  | f + 1, c :: s => if c = 32 then parseF f s else if (clauseF (c :: s)).1.words.isEmpty then parseF f (clauseF (c :: s)).2 else (clauseF (c :: s)).1 :: parseF f (clauseF (c :: s)).2
def Find.parseP (s : Wd) : List Cl × Int :=
  if 500 < s.length then ([], 2) else if !plainB s || s.count 34 % 2 == 1 then ([], 230)
  else if (parseF s.length s).all (·.no) then ([], 230) else (parseF s.length s, 0)

theorem cutQ_len (t : Wd) : (cutQ t).2.1.length ≤ t.length := by
  unfold cutQ
  split <;> simp
theorem clauseF_len (s : Wd) (h0 : s ≠ []) (h32 : s.head? ≠ some 32) : (clauseF s).2.length < s.length := by
  have hs : 0 < s.length := List.length_pos_iff.2 h0
  have hb : (bodyF s).length ≤ s.length := by unfold bodyF; split <;> simp
  unfold clauseF
  split
  · rename_i hq
    rw [beq_iff_eq] at hq
    have h1 : 0 < (bodyF s).length := by
      cases h : bodyF s with
      | nil => rw [h] at hq; cases hq
      | cons a l => simp
    have hc := cutQ_len (bodyF s).tail
    rw [List.length_tail] at hc
    unfold quoteF
    simp only
    split
    · rw [List.length_tail]; omega
    · omega
  · rename_i hq
    unfold bareF
    simp only [List.length_drop]
    by_cases hn : noF s = true
    · have : (bodyF s).length = s.length - 1 := by unfold bodyF; rw [if_pos hn, List.length_tail]
      omega
    · have hbs : bodyF s = s := by unfold bodyF; rw [if_neg hn]
      rw [hbs] at hq ⊢
      have : 0 < nF s := by
        unfold nF
        split
        · exact hs
        · rename_i hk
          cases s with
          | nil => exact absurd rfl h0
          | cons a l =>
            have ha : a ≠ 32 := fun e => h32 (by rw [e]; rfl)
            have hb : a ≠ 34 := fun e => hq (by rw [e]; rfl)
            have hc : ([32, 34] : List UInt8).contains a = false := by
              simp only [List.contains_cons, List.contains_nil, Bool.or_false, Bool.or_eq_false_iff, beq_eq_false_iff_ne]
              exact ⟨ha, hb⟩
            have hg := Lib.indexAny_ge [32, 34] l
            rw [Lib.indexAny, hc] at hk ⊢
            simp only [Bool.false_eq_true, if_false] at hk ⊢
            split at hk
            · omega
            · rename_i h1
              rw [if_neg h1]
              rw [beq_iff_eq] at h1
              omega
      omega
theorem parseF_more : ∀ (f g : Nat) (s : Wd), s.length ≤ f → f ≤ g → parseF g s = parseF f s
  | 0, g, s, h, _ => by
    have : s = [] := List.eq_nil_of_length_eq_zero (by omega)
    subst this
    cases g <;> rfl
  | f + 1, 0, s, h, h' => by omega
  | f + 1, g + 1, [], h, h' => rfl
  | f + 1, g + 1, c :: s, h, h' => by
    rw [List.length_cons] at h
    unfold parseF
    by_cases hc : c = 32
    · rw [if_pos hc, if_pos hc, parseF_more f g s (by omega) (by omega)]
    · have hl := clauseF_len (c :: s) (by simp) (by simp [hc])
      rw [List.length_cons] at hl
      rw [if_neg hc, if_neg hc, parseF_more f g _ (by omega) (by omega)]
/-- One step. -/
theorem parse_blank (s : Wd) (h : s.head? = some 32) : parseF s.length s = parseF s.tail.length s.tail := by
  cases s with
  | nil => cases h
  | cons a l =>
    obtain rfl : a = 32 := by simpa using h
    rw [List.length_cons, parseF, if_pos rfl]; rfl
theorem parse_step (s : Wd) (h0 : s ≠ []) (h : s.head? ≠ some 32) : parseF s.length s = if (clauseF s).1.words.isEmpty then parseF (clauseF s).2.length (clauseF s).2 else (clauseF s).1 :: parseF (clauseF s).2.length (clauseF s).2 := by
  have hl := clauseF_len s h0 h
  cases s with
  | nil => exact absurd rfl h0
  | cons a l =>
    have ha : a ≠ 32 := fun e => h (by rw [e]; rfl)
    rw [List.length_cons] at hl ⊢
    rw [parseF, if_neg ha, parseF_more _ l.length _ (Nat.le_refl _) (by omega)]

/-- A row of clauses. -/
def clCells (us : List Value) (L : List Cl) : List Value := (us.zip L).flatMap fun p => [p.1, .bool p.2.no, .bool p.2.opn]
def ClRow (B : Nat) (w : World) (v : Value) (L : List Cl) : Prop := ∃ us : List Value, us.length = L.length ∧ w.ownsRow B 62 3 v L.length (clCells us L) ∧ ∀ (i : Nat) (u : Value) (c : Cl), us[i]? = some u → L[i]? = some c → StrRow w u c.words
theorem clCells_append (us : List Value) (L : List Cl) (h : us.length = L.length) (u : Value) (c : Cl) : clCells (us ++ [u]) (L ++ [c]) = clCells us L ++ [u, .bool c.no, .bool c.opn] := by
  unfold clCells
  rw [List.zip_append h]; simp
theorem clCells_get : ∀ (us : List Value) (L : List Cl) (k : Nat) (h1 : k < us.length) (h2 : k < L.length), (clCells us L)[k * 3]? = some us[k] ∧ (clCells us L)[k * 3 + 1]? = some (.bool L[k].no) ∧ (clCells us L)[k * 3 + 2]? = some (.bool L[k].opn)
  | [], _, k, h1, _ => by simp at h1
  | _ :: _, [], k, _, h2 => by simp at h2
  | u :: us, c :: L, k, h1, h2 => by
    have hc : clCells (u :: us) (c :: L) = [u, .bool c.no, .bool c.opn] ++ clCells us L := rfl
    rw [hc]
    cases k with
    | zero => exact ⟨rfl, rfl, rfl⟩
    | succ k =>
      obtain ⟨h0, h1', h2'⟩ := clCells_get us L k (by simpa using h1) (by simpa using h2)
      have key : ∀ j, ([u, Value.bool c.no, Value.bool c.opn] ++ clCells us L)[(k + 1) * 3 + j]? = (clCells us L)[k * 3 + j]? := fun j => by
        rw [show (k + 1) * 3 + j = 3 + (k * 3 + j) by omega, List.getElem?_append_right (by simp only [List.length_cons, List.length_nil]; omega)]
        congr 1
        simp only [List.length_cons, List.length_nil]; omega
      exact ⟨(key 0).trans h0, (key 1).trans h1', (key 2).trans h2'⟩
theorem ClRow.sl {B : Nat} {w : World} {v : Value} {L : List Cl} (h : ClRow B w v L) : ClsSl w v L := by
  obtain ⟨us, hl, hown, hs⟩ := h
  obtain ⟨a, c, rfl⟩ := slice_form hown
  refine ⟨a, c, rfl, fun k hk => ?_⟩
  obtain ⟨g, cap, he, _⟩ := hown.form (by omega)
  simp only [Value.slice.injEq] at he
  obtain ⟨rfl, _, rfl⟩ := he
  obtain ⟨h0, h1, h2⟩ := clCells_get us L k (by omega) hk
  have key : ∀ j u, (clCells us L)[j]? = some u → w.cell? ⟨g, 0 + j, none⟩ = some u := fun j u hj => by
    have := hown.cells (g := g) rfl j u hj
    rw [add_none] at this
    exact this
  have hr := hs k us[k] L[k] (List.getElem?_eq_getElem _) (List.getElem?_eq_getElem _)
  obtain ⟨a', c', hf⟩ := slice_form hr
  refine ⟨g, 0, rfl, a', c', ?_, ?_, ?_, ?_⟩
  · rw [← hf]; exact key _ _ h0
  · have := key _ _ h1; rwa [← Nat.add_assoc] at this
  · have := key _ _ h2; rwa [← Nat.add_assoc] at this
  · rw [← hf]; exact hr.sl
theorem ClRow.nil (B : Nat) (w : World) : ClRow B w (.slice none 0 0) [] := ⟨[], rfl, World.ownsRow_nil _ _ _ _, fun i u c h => by simp at h⟩
theorem ClRow.keep {B : Nat} {w w' : World} {v : Value} {L : List Cl} (h : ClRow B w v L) (hk : ∀ (g : Nat) (c : Array Value) (t : TypeId), (t = 9 ∨ v.ownBlock = some g) → w.heap[g]? = some (.cells c t (0, 0)) → w'.heap[g]? = w.heap[g]?) : ClRow B w' v L := by
  obtain ⟨us, hl, hown, hs⟩ := h
  refine ⟨us, hl, owns_keep hown fun g hg => ?_, fun i u c hu hc => owns_keep (hs i u c hu hc) fun g hg => ?_⟩
  · obtain ⟨c, hc⟩ := owns_kind hown g hg; exact hk g c _ (.inr hg) hc
  · obtain ⟨c', hc'⟩ := owns_kind (hs i u c hu hc) g hg; exact hk g c' _ (.inl rfl) hc'
theorem ClRow.new {B : Nat} {w w' : World} {v : Value} {L : List Cl} (h : ClRow B w v L) (hb : Below w.heap.size w w') : ClRow B w' v L :=
  h.keep fun g c t _ hc => hb.block g (lt_of_heap hc)
end Go.Proofs.YthpbdeiphagkiaaGreatDoor
