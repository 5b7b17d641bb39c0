/- strings.Builder.String, at this dump. -/
import Derived.Test.YthpbdeiphagkiaaDoorBld2
import Derived.Shelf.RegionOpen
namespace Go.Proofs.YthpbdeiphagkiaaDoor
open Go.RowKit

theorem freeze_other {w : World} {g k n : Nat} (h : k ≠ g) : (w.freeze ⟨g, 0, none⟩ n).heap[k]? = w.heap[k]? := by
  unfold World.freeze
  split
  · rfl
  · simp only [Array.getElem?_modify, if_neg (Ne.symm h)]
theorem Ev.freeze {F F' : Nat → Prop} {a w : World} (h : Ev F a F' w) {g : Nat} (hg : F' g) (n : Nat) : Ev F a F' (w.freeze ⟨g, 0, none⟩ n) := by
  unfold World.freeze
  split
  · exact h
  · exact h.put (.inl hg) _
theorem cells_u8 : Tryd.prog.cellsOf 5 = 1 := by kernel_rfl
theorem byteCells_length' (l : List UInt8) : (Lib.byteCells l).length = l.length := by simp [Lib.byteCells]

set_option maxHeartbeats 1600000 in
set_option maxRecDepth 100000 in
theorem string_some (b : Nat) (l : List UInt8) (F : Nat → Prop) (w : World) (h : Bld w b l F) (h0 : l ≠ []) :
    Calls Tryd.prog 32 #[.pointer (some ⟨b, 0, none⟩)] w fun e w' => e = .returned (.string ⟨l.toArray⟩) ∧ BldR w' b F ∧ Ev F w F w' := by
  obtain ⟨p, v, hp, hbk, hown, hF, hgF⟩ := h
  have hl0 : l.length ≠ 0 := by simpa using h0
  have hne := Lib.ownBlock_ne hown hbk (by decide)
  obtain ⟨g, cap, cur, rfl, _, hg, hnc, hcm, hcs, htake⟩ : ∃ g cap cur, v = .slice (some ⟨g, 0, none⟩) l.length cap ∧ 0 ≤ g ∧ w.heap[g]? = some (.cells cur 5 (0, 0)) ∧ l.length ≤ cap ∧ cap ≤ maxLen ∧ cur.size = cap * 1 ∧ cur.toList.take (l.length * 1) = Lib.byteCells l := by
    rcases hown.2 with ⟨_, hz⟩ | ⟨g, cap, cur, hv, r⟩
    · exact absurd hz hl0
    · exact ⟨g, cap, cur, hv, r⟩
  have hgb : g ≠ b := fun e => hne (by rw [← e]; rfl)
  have hFg := hgF g rfl
  have c1 : w.drew.cell? ⟨b, 1, none⟩ = some (.slice (some ⟨g, 0, none⟩) l.length cap) := by
    have : w.drew.heap[b]? = some (.cells #[p, .slice (some ⟨g, 0, none⟩) l.length cap] 71 (0, 0)) := hbk
    rw [Lib.cell_of_heap this]; rfl
  have hSD : (Builtin.unsafeSliceData_ #[69] 97 #[.slice (some ⟨g, 0, none⟩) l.length cap]).run Tryd.prog w.drew = .ok (.pointer (some ⟨g, 0, none⟩)) w.drew :=
    Lib.run_unsafeSliceData_row _ _ _ _ _ _ (by omega)
  have hUS : (Builtin.unsafeString_ #[97, 3] 9 #[.pointer (some ⟨g, 0, none⟩), .int .i64 l.length]).run Tryd.prog w.drew = .ok (.string ⟨l.toArray⟩) (w.drew.freeze ⟨g, 0, none⟩ l.length) := by
    refine Lib.run_unsafeString_row w.drew 97 3 9 5 Tryd.underlying97 cells_u8 g cur.size (by have hg' : w.drew.heap[g]? = some (.cells cur 5 (0, 0)) := hg; simp [World.shape?, hg']) l h0 (by omega) (by unfold maxLen at hcm; omega) ?_
    intro j x hx
    have := hown.cells (g := g) rfl j (.int .u8 x.toNat) (by simp [Lib.byteCells, hx])
    exact this
  have hP : BldR (w.drew.freeze ⟨g, 0, none⟩ l.length) b F ∧ Ev F w F (w.drew.freeze ⟨g, 0, none⟩ l.length) :=
    ⟨⟨p, _, by rw [freeze_other (Ne.symm hgb)]; exact hbk, hF⟩, ((Ev.refl F w).drew).freeze hFg _⟩
  have HP := Lib.hid hP
  clear hP hown hbk hg htake hcs hcm hnc hne hgF h0
  go_enter Tryd.func32, Tryd.ntmps32
  go_wp2
  go_region
  all_goals (go_wp2; go_ret; exact ⟨rfl, HP.out⟩)

theorem unsafeString_none (w : World) (p : Option Addr) : (Builtin.unsafeString_ #[97, 3] 9 #[.pointer p, .int .i64 0]).run Tryd.prog w = .ok (.string .empty) w :=
  Lib.run_unsafeString_none (P := Tryd.prog) (w := w) 97 3 9 p

set_option maxHeartbeats 1600000 in
set_option maxRecDepth 100000 in
theorem string_none (b : Nat) (F : Nat → Prop) (w : World) (h : Bld w b [] F) :
    Calls Tryd.prog 32 #[.pointer (some ⟨b, 0, none⟩)] w fun e w' => e = .returned (.string ⟨#[]⟩) ∧ BldR w' b F ∧ Ev F w F w' := by
  have hUS := unsafeString_none
  obtain ⟨p, v, hp, hbk, hown, hF, hgF⟩ := h
  rcases hown.2 with ⟨rfl, _⟩ | ⟨g, cap, cur, rfl, _, hg, _⟩
  · have c1 : w.drew.cell? ⟨b, 1, none⟩ = some (.slice none 0 0) := by
      have : w.drew.heap[b]? = some (.cells #[p, .slice none 0 0] 71 (0, 0)) := hbk
      rw [Lib.cell_of_heap this]; rfl
    have hSD : (Builtin.unsafeSliceData_ #[69] 97 #[.slice none 0 0]).run Tryd.prog w.drew = .ok (.pointer none) w.drew := rfl
    have HP := Lib.hid (show BldR w.drew b F ∧ Ev F w F w.drew from ⟨⟨p, _, hbk, hF⟩, (Ev.refl F w).drew⟩)
    clear hown hbk hgF
    go_enter Tryd.func32, Tryd.ntmps32
    go_wp2
    go_region
    all_goals (go_wp2; go_ret; exact ⟨rfl, HP.out⟩)
  · by_cases hc0 : cap = 0
    · subst hc0
      have hlt : b < w.heap.size := lt_of_heap hbk
      have c1 : w.drew.cell? ⟨b, 1, none⟩ = some (.slice (some ⟨g, 0, none⟩) 0 0) := by
        have : w.drew.heap[b]? = some (.cells #[p, .slice (some ⟨g, 0, none⟩) 0 0] 71 (0, 0)) := hbk
        rw [Lib.cell_of_heap this]; rfl
      have hSD : (Builtin.unsafeSliceData_ #[69] 97 #[.slice (some ⟨g, 0, none⟩) 0 0]).run Tryd.prog w.drew = .ok (.pointer (some ⟨w.drew.heap.size, 0, none⟩)) (w.drew.alloc (.view ⟨g, 0, none⟩ 5)) :=
        Lib.run_unsafeSliceData_zero w.drew _ _ 5 Tryd.underlying97 ⟨g, 0, none⟩ 0 (5, cur.size) (by have hg' : w.drew.heap[g]? = some (.cells cur 5 (0, 0)) := hg; simp [World.shape?, hg'])
      have hb2 : (w.drew.alloc (.view ⟨g, 0, none⟩ 5)).heap[b]? = some (.cells #[p, .slice (some ⟨g, 0, none⟩) 0 0] 71 (0, 0)) := (Lib.alloc_old w.drew _ b hlt).trans hbk
      have c2 : (w.drew.alloc (.view ⟨g, 0, none⟩ 5)).cell? ⟨b, 1, none⟩ = some (.slice (some ⟨g, 0, none⟩) 0 0) := by
        rw [Lib.cell_of_heap hb2]; rfl
      have c3 : (w.alloc (.view ⟨g, 0, none⟩ 5)).drew.cell? ⟨b, 1, none⟩ = some (.slice (some ⟨g, 0, none⟩) 0 0) := c2
      have c0 : w.cell? ⟨b, 1, none⟩ = some (.slice (some ⟨g, 0, none⟩) 0 0) := c1
      have HP := Lib.hid (show BldR (w.drew.alloc (.view ⟨g, 0, none⟩ 5)) b F ∧ Ev F w F (w.drew.alloc (.view ⟨g, 0, none⟩ 5)) from ⟨⟨p, _, hb2, hF⟩, ((Ev.refl F w).drew).alloc _⟩)
      clear hown hbk hgF hb2
      go_enter Tryd.func32, Tryd.ntmps32
      go_wp2
      go_region
      all_goals (go_wp2; go_ret; exact ⟨rfl, HP.out⟩)
    · have c1 : w.drew.cell? ⟨b, 1, none⟩ = some (.slice (some ⟨g, 0, none⟩) 0 cap) := by
        have : w.drew.heap[b]? = some (.cells #[p, .slice (some ⟨g, 0, none⟩) 0 cap] 71 (0, 0)) := hbk
        rw [Lib.cell_of_heap this]; rfl
      have hSD : (Builtin.unsafeSliceData_ #[69] 97 #[.slice (some ⟨g, 0, none⟩) 0 cap]).run Tryd.prog w.drew = .ok (.pointer (some ⟨g, 0, none⟩)) w.drew :=
        Lib.run_unsafeSliceData_row _ _ _ _ _ _ hc0
      have HP := Lib.hid (show BldR w.drew b F ∧ Ev F w F w.drew from ⟨⟨p, _, hbk, hF⟩, (Ev.refl F w).drew⟩)
      clear hown hbk hgF hc0
      go_enter Tryd.func32, Tryd.ntmps32
      go_wp2
      go_region
      all_goals (go_wp2; go_ret; exact ⟨rfl, HP.out⟩)

/-- String: whatever the builder holds. -/
theorem string_any (b : Nat) (l : List UInt8) (F : Nat → Prop) (w : World) (h : Bld w b l F) :
    Calls Tryd.prog 32 #[.pointer (some ⟨b, 0, none⟩)] w fun e w' => e = .returned (.string ⟨l.toArray⟩) ∧ BldR w' b F ∧ Ev F w F w' := by
  cases l with
  | nil => exact string_none b F w h
  | cons x r => exact string_some b (x :: r) F w h (by simp)
end Go.Proofs.YthpbdeiphagkiaaDoor
