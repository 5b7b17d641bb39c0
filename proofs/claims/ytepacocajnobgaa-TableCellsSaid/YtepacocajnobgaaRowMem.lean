/- Cells of a row in memory; what is joined fits. -/
import Derived.Test.YtepacocajnobgaaRowSpec
import Derived.Test.YtepacocajnobgaaTwin
import Derived.Test.YtepacocajnobgaaApart
import Derived.Test.YtepacocajnobgaaLetters
namespace Go.Proofs.Ytepacocajnobgaa
open Go.RowKit

theorem info23 : (Try.prog.info? 23).map (fun i => (i.zero, i.size, i.bytes)) = some (some (.slice none 0 0), 1, 24) := by kernel_rfl
theorem info34 : (Try.prog.info? 34).map (fun i => (i.zero, i.size, i.bytes)) = some (some (.slice none 0 0), 1, 24) := by kernel_rfl

/-- Rows in blocks that N allows. -/
def RowsIn (w : World) (N : Nat → Prop) (v : Value) (ll : List (List Gl)) : Prop :=
  ∃ vs, w.ownsRow 0 22 1 v ll.length vs ∧ (∀ b, v.ownBlock = some b → N b) ∧ Lines w N vs ll
theorem owns_base {w : World} {B B' : Nat} {e : TypeId} {size n : Nat} {v : Value} {xs : List Value} (h : w.ownsRow B e size v n xs) (hb : B' ≤ B) : w.ownsRow B' e size v n xs := by
  refine ⟨h.1, ?_⟩
  rcases h.2 with h1 | ⟨g, cap, cur, h1, h2, h3⟩
  · exact .inl h1
  · exact .inr ⟨g, cap, cur, h1, by omega, h3⟩
theorem RowsIn.of_new {w : World} {B : Nat} {v : Value} {ll : List (List Gl)} {N : Nat → Prop} (h : RowsNew w B v ll) (hN : ∀ b, B ≤ b → b < w.heap.size → N b) : RowsIn w N v ll := by
  obtain ⟨vs, h1, h2⟩ := h
  exact ⟨vs, owns_base h1 (Nat.zero_le _), fun b hb => hN b (h1.lt b hb).1 (h1.lt b hb).2, h2.same (Nat.le_refl _) (fun _ _ _ => rfl) fun b hb hlt => hN b hb hlt⟩
theorem RowsIn.same {w w' : World} {N N' : Nat → Prop} {v : Value} {ll : List (List Gl)} (h : RowsIn w N v ll) (hs : w.heap.size ≤ w'.heap.size) (hb : ∀ b, N b → b < w.heap.size → w'.heap[b]? = w.heap[b]?)
    (hN : ∀ b, N b → b < w.heap.size → N' b) : RowsIn w' N' v ll := by
  obtain ⟨vs, h1, h2, h3⟩ := h
  exact ⟨vs, bget_block h1 fun b hb' => hb b (h2 b hb') (h1.lt b hb').2, fun b hb' => hN b (h2 b hb') (h1.lt b hb').2, h3.same hs hb hN⟩
theorem RowsIn.sl {w : World} {N : Nat → Prop} {v : Value} {ll : List (List Gl)} (h : RowsIn w N v ll) : RowsSl w v ll := by
  obtain ⟨vs, h1, h2, h3⟩ := h
  exact RowsSl.of_new (B := 0) ⟨vs, h1, h3.same (Nat.le_refl _) (fun _ _ _ => rfl) fun _ _ _ => Nat.zero_le _⟩

theorem RowsSl.shape {w : World} {v : Value} {ll : List (List Gl)} (h : RowsSl w v ll) :
    ∃ a c, v = .slice a ll.length c ∧ ∀ k, k < ll.length → ∃ b off u, a = some ⟨b, off, none⟩ ∧ b < w.heap.size ∧ w.cell? ⟨b, off + k, none⟩ = some u ∧ GlSl w u (ll.getD k []) := by
  rcases h with ⟨rfl, rfl⟩ | ⟨b, off, cap, vs, rfl, hl, hat⟩
  · exact ⟨none, 0, rfl, fun k hk => by simp at hk⟩
  · refine ⟨_, cap, rfl, fun k hk => ?_⟩
    obtain ⟨c0, g0⟩ := hat k (by omega) hk
    exact ⟨b, off, vs[k]'(by omega), rfl, World.block_lt_of_cell? w _ c0, c0, by rw [List.getD_eq_getElem?_getD, List.getElem?_eq_getElem hk]; exact g0⟩
theorem RowsSl.new {w w' : World} {v : Value} {ll : List (List Gl)} (h : RowsSl w v ll) (hb : Below w.heap.size w w') : RowsSl w' v ll := by
  rcases h with h | ⟨b, off, cap, vs, rfl, hl, hat⟩
  · exact .inl h
  · refine .inr ⟨b, off, cap, vs, rfl, hl, fun k h1 h2 => ?_⟩
    obtain ⟨c0, g0⟩ := hat k h1 h2
    exact ⟨by rw [hb.cell (p := ⟨b, off + k, none⟩) (World.block_lt_of_cell? w _ c0)]; exact c0, g0.new hb⟩

/-- The cells of columns that are being gathered. -/
def CellB (w : World) (B : Nat) (vout : Value) (vs : List Value) (cells : List (List (List Gl))) : Prop :=
  w.ownsRow B 23 1 vout cells.length vs ∧ ∀ k (h : k < vs.length) (h' : k < cells.length), RowsIn w (fun b => B ≤ b ∧ vout.ownBlock ≠ some b) vs[k] cells[k]
theorem CellB.nil (w : World) (B : Nat) : CellB w B (.slice none 0 0) [] [] := ⟨World.ownsRow_nil _ _ _ _, fun k h => by simp at h⟩
theorem CellB.below {w w' : World} {B : Nat} {vout : Value} {vs : List Value} {cells : List (List (List Gl))} (h : CellB w B vout vs cells) (hb : Below w.heap.size w w') : CellB w' B vout vs cells :=
  ⟨bget_block h.1 fun b hb' => hb.block b (h.1.lt b hb').2, fun k h1 h2 => (h.2 k h1 h2).same hb.size (fun b _ hlt => hb.block b hlt) fun _ hb _ => hb⟩
theorem CellB.app {w w' : World} {B : Nat} {vout : Value} {vs : List Value} {cells : List (List (List Gl))} {v : Value} {l : List (List Gl)} {n gg cap : Nat} (h : CellB w B vout vs cells)
    (hg : w.grownBy w' vout.ownBlock) (hn : n = cells.length + 1) (hown : w'.ownsRow B 23 1 (.slice (some ⟨gg, 0, none⟩) n cap) n (vs ++ [v])) (hat : vout.ownBlock = some gg ∨ w.heap.size ≤ gg)
    (hv : RowsIn w (fun b => B ≤ b ∧ vout.ownBlock ≠ some b) v l) :
    CellB w' B (.slice (some ⟨gg, 0, none⟩) n cap) (vs ++ [v]) (cells ++ [l]) := by
  have hgn : ∀ b, b < w.heap.size → vout.ownBlock ≠ some b → (Value.slice (some ⟨gg, 0, none⟩) n cap).ownBlock ≠ some b := fun b hlt hne e => by
    simp [Value.ownBlock] at e; subst e
    rcases hat with h1 | h1
    · exact hne h1
    · omega
  have hl : vs.length = cells.length := by have := h.1.1; simpa using this
  have up : ∀ {v l}, RowsIn w (fun b => B ≤ b ∧ vout.ownBlock ≠ some b) v l → RowsIn w' (fun b => B ≤ b ∧ (Value.slice (some ⟨gg, 0, none⟩) n cap).ownBlock ≠ some b) v l := fun h =>
    h.same hg.size (fun b hb hlt => hg.block b hlt fun e => hb.2 e.symm) fun b hb hlt => ⟨hb.1, hgn b hlt hb.2⟩
  refine ⟨by rw [show (cells ++ [l]).length = n by simp [hn]]; exact hown, fun k h1 h2 => ?_⟩
  by_cases hk : k < cells.length
  · rw [List.getElem_append_left (by omega), List.getElem_append_left hk]
    exact up (h.2 k (by omega) hk)
  · have : k = cells.length := by simp at h2; omega
    subst this
    rw [List.getElem_append_right (by omega), List.getElem_append_right (by omega)]
    simpa [hl] using up hv
/-- The cells, to be read. -/
def CellRd (w : World) (a : Option Addr) (cells : List (List (List Gl))) : Prop :=
  ∀ k, k < cells.length → ∃ b u, a = some ⟨b, 0, none⟩ ∧ b < w.heap.size ∧ w.cell? ⟨b, k, none⟩ = some u ∧ RowsSl w u (cells.getD k [])
theorem CellB.rd {w : World} {B : Nat} {vout : Value} {vs : List Value} {cells : List (List (List Gl))} (h : CellB w B vout vs cells) : ∃ a c, vout = .slice a cells.length c ∧ CellRd w a cells := by
  have hl : vs.length = cells.length := by have := h.1.1; simpa using this
  rcases h.1.2 with ⟨rfl, h0⟩ | ⟨g, cap, cur, rfl, hb, hgg, rest⟩
  · exact ⟨none, 0, by rw [h0], fun k hk => by omega⟩
  · refine ⟨_, cap, rfl, fun k hk => ?_⟩
    have h1 := h.1.cells (g := g) rfl k (vs[k]'(by omega)) (List.getElem?_eq_getElem (by omega))
    rw [add_none, Nat.zero_add] at h1
    exact ⟨g, vs[k]'(by omega), rfl, heap_lt hgg, h1, by
      rw [List.getD_eq_getElem?_getD, List.getElem?_eq_getElem hk]; exact (h.2 k (by omega) hk).sl⟩
theorem CellRd.new {w w' : World} {a : Option Addr} {cells : List (List (List Gl))} (h : CellRd w a cells) (hb : Below w.heap.size w w') : CellRd w' a cells := fun k hk => by
  obtain ⟨b, u, h1, h2, h3, h4⟩ := h k hk
  exact ⟨b, u, h1, Nat.lt_of_lt_of_le h2 hb.size, by rw [hb.cell (p := ⟨b, k, none⟩) h2]; exact h3, h4.new hb⟩

theorem cellsP_length (cs : List (Int × Int)) (flows : List (List Gl)) (n : Nat) : (cellsP cs flows n).length = n := by
  induction n with
  | zero => rfl
  | succ n ih => simp [cellsP, ih]
theorem cellsP_getD (cs : List (Int × Int)) (flows : List (List Gl)) (n k : Nat) (h : k < n) : (cellsP cs flows n).getD k [] = (fillOf (flows.getD k []) (cs.getD k (0, 0)).2).1 := by
  induction n with
  | zero => omega
  | succ n ih =>
    have hl := cellsP_length cs flows n
    simp only [cellsP]
    rcases Nat.lt_or_ge k n with h1 | h1
    · rw [List.getD_eq_getElem?_getD, List.getElem?_append_left (by omega), ← List.getD_eq_getElem?_getD]; exact ih h1
    · obtain rfl : k = n := by omega
      rw [List.getD_eq_getElem?_getD, List.getElem?_append_right (by omega), hl]; simp
theorem errP_keep {cs : List (Int × Int)} {flows : List (List Gl)} {k n : Nat} (h : k ≤ n) (h0 : errP cs flows k ≠ 0) : errP cs flows n = errP cs flows k := by
  induction n with
  | zero => obtain rfl : k = 0 := by omega
            rfl
  | succ n ih =>
    rcases Nat.lt_or_ge k (n + 1) with h1 | h1
    · simp only [errP]
      rw [ih (by omega), if_pos h0]
    · obtain rfl : k = n + 1 := by omega
      rfl
theorem highP_bd {cells : List (List (List Gl))} (hc : ∀ k, (cells.getD k []).length ≤ 2932031007317) (n : Nat) : 0 ≤ highP cells n ∧ highP cells n ≤ 2932031007317 := by
  induction n with
  | zero => simp [highP]
  | succ n ih => have := hc n; simp only [highP]; omega
theorem highP_congr {a b : List (List (List Gl))} (n : Nat) (h : ∀ k, k < n → a.getD k [] = b.getD k []) : highP a n = highP b n := by
  induction n with
  | zero => rfl
  | succ n ih => simp only [highP]; rw [ih fun k hk => h k (by omega), h n (by omega)]
theorem cellsP_bd (cs : List (Int × Int)) (flows : List (List Gl)) (n : Nat) (hf : ∀ l ∈ flows, l.length ≤ 2932031007317) (k : Nat) : ((cellsP cs flows n).getD k []).length ≤ 2932031007317 := by
  rcases Nat.lt_or_ge k n with h | h
  · rw [cellsP_getD cs flows n k h]
    have h1 : (flows.getD k []).length ≤ 2932031007317 := by
      rw [List.getD_eq_getElem?_getD]
      cases h2 : flows[k]? with
      | none => simp
      | some l => exact hf l (List.mem_of_getElem? h2)
    exact Nat.le_trans (fillOf_fits (flows.getD k []) (cs.getD k (0, 0)).2 (by omega)).2 h1
  · rw [List.getD_eq_getElem?_getD, List.getElem?_eq_none (by rw [cellsP_length]; omega)]; simp
theorem Lok.mono {a b : Int} {l : List Gl} (h : Lok a l) (hab : a ≤ b) : Lok b l := ⟨h.1, by have := h.2; omega⟩
theorem cellsP_fit (cs : List (Int × Int)) (flows : List (List Gl)) (n : Nat) (hf : ∀ l ∈ flows, l.length ≤ 2932031007317) (k r : Nat) (hk : k < n) (hr : r < ((cellsP cs flows n).getD k []).length) :
    Lok (cs.getD k (0, 0)).2 (((cellsP cs flows n).getD k []).getD r []) := by
  rw [cellsP_getD cs flows n k hk] at *
  have h1 : (flows.getD k []).length ≤ 2932031007317 := by
    rw [List.getD_eq_getElem?_getD]
    cases h2 : flows[k]? with
    | none => simp
    | some l => exact hf l (List.mem_of_getElem? h2)
  have h2 := (fillOf_fits (flows.getD k []) (cs.getD k (0, 0)).2 (by omega)).1
  have h3 : (fillOf (flows.getD k []) (cs.getD k (0, 0)).2).1.getD r [] = (fillOf (flows.getD k []) (cs.getD k (0, 0)).2).1[r] := by
    rw [List.getD_eq_getElem?_getD (l := (fillOf (flows.getD k []) (cs.getD k (0, 0)).2).1), List.getElem?_eq_getElem hr]; rfl
  rw [h3]
  exact h2 _ (List.getElem_mem hr)
theorem sumW_plain (n : Nat) : sumW (List.replicate n plainG) = n := by simp [sumW, plainG, List.map_replicate]
theorem pad_ok {e : Int} {l : List Gl} (t : Nat) (h : Lok e l) : Lok (sumW l + t) (l ++ List.replicate t plainG) :=
  ⟨fun g hg => by
    rcases List.mem_append.1 hg with h1 | h1
    · exact h.1 g h1
    · rw [List.eq_of_mem_replicate h1]; simp [plainG], by rw [sumW_append, sumW_plain]; omega⟩
theorem Lok.app {a b : Int} {l m : List Gl} (h : Lok a l) (h' : Lok b m) : Lok (a + b) (l ++ m) :=
  ⟨fun g hg => by
    rcases List.mem_append.1 hg with h1 | h1
    · exact h.1 g h1
    · exact h'.1 g h1, by rw [sumW_append]; have := h.2; have := h'.2; omega⟩
theorem joinP_ok {cs : List (Int × Int)} {cells : List (List (List Gl))} {n : Nat} (hg : goodC cs n = true) (hc : ∀ i r, i < n → r < (cells.getD i []).length → Lok (cs.getD i (0, 0)).2 ((cells.getD i []).getD r [])) (k : Nat) :
    ∀ i, i ≤ n → Lok (endC cs i) (joinP cs cells k i) := by
  intro i
  induction i with
  | zero => intro _; exact ⟨fun g hg => by simp [joinP] at hg, by simp [joinP, endC, sumW]⟩
  | succ i ih =>
    intro hi
    have h1 := okC_bd (goodC_mono hg i (by omega))
    have h2 := ih (by omega)
    have hend : endC cs (i + 1) = (cs.getD i (0, 0)).1 + (cs.getD i (0, 0)).2 := rfl
    simp only [joinP]
    split
    · rename_i h3
      have h4 := hc i k (by omega) h3
      have h5 := (pad_ok ((cs.getD i (0, 0)).1 - sumW (joinP cs cells k i)).toNat h2).app h4
      refine h5.mono ?_
      have := h2.2
      omega
    · refine h2.mono ?_
      omega
theorem Lok.len {e : Int} {l : List Gl} (h : Lok e l) : (l.length : Int) ≤ e ∧ (l.length : Int) ≤ sumW l := by
  have := sumW_bd l h.1
  have := h.2
  omega
end Go.Proofs.Ytepacocajnobgaa
