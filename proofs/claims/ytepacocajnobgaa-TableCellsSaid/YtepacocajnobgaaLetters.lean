/- letters: a flow of a text's bytes; the plain look, the plain glyph. -/
import Derived.Test.YtepacocajnobgaaTwin
namespace Go.Proofs.Ytepacocajnobgaa
open Go.RowKit
attribute [local go_sem ↓] Go.wp_at_zero Go.wp_at_succ

set_option maxHeartbeats 400000 in
theorem look_any (w : World) : Calls Try.prog 44 #[] w fun e w' => e = .returned (.agg #[.int .i64 0, .int .i64 7]) ∧ Below w.heap.size w w' := by
  go_enter Try.func44, Try.ntmps44
  go_wp2
  exact bodyPost_ret (v := .agg #[.int .i64 0, .int .i64 7]) (by simp [results, Try.results44, go_sem]) rfl ⟨rfl, (Below.refl _ _).alloc (Nat.le_refl _) _⟩
set_option maxHeartbeats 400000 in
theorem plain_any (w : World) : Calls Try.prog 42 #[] w fun e w' => e = .returned (.agg #[.string ⟨#[32]⟩, .int .i64 1, .int .i64 0, .int .i64 7, .int .i64 0]) ∧ Below w.heap.size w w' := by
  go_enter Try.func42, Try.ntmps42
  go_wp2
  exact bodyPost_ret (v := .agg #[.string ⟨#[32]⟩, .int .i64 1, .int .i64 0, .int .i64 7, .int .i64 0]) (by simp [results, Try.results42, go_sem]) rfl ⟨rfl, (Below.refl _ _).alloc (Nat.le_refl _) _⟩

def letterOf (s : ByteArray) (i : Nat) : Gl := { text := s.extract i (i + 1), wide := 1, attr := 0, color := 7, link := 0 }
def lettersOf (s : ByteArray) : List Gl := (List.range s.size).map (letterOf s)
theorem letters_take (s : ByteArray) (k : Nat) : (List.range (k + 1)).map (letterOf s) = (List.range k).map (letterOf s) ++ [letterOf s k] := by
  rw [List.range_succ, List.map_append]; rfl

set_option maxRecDepth 100000 in
set_option maxHeartbeats 1000000 in
theorem letters_any (s : ByteArray) (w : World) (hs : s.size ≤ 1000000) : Calls Try.prog 39 #[.string s] w fun e w' => TwinRes (lettersOf s) w e w' := by
  obtain ⟨i0, hi0, hz0, hz1, hz2⟩ := info_parts info49
  go_enter Try.func39, Try.ntmps39
  go_wp2
  go_loopw [3, 4] (fun v i wr => ∃ k : Nat, k ≤ s.size ∧ i = .int .i64 k ∧ (∃ av cv, v = .slice av k cv ∧ wr.ownsRow w.heap.size 49 5 (.slice av k cv) k (glCells ((List.range k).map (letterOf s)))) ∧ Below w.heap.size w wr) (fun _ i _ => s.size - (intOf i).toNat)
  case atStart => exact ⟨0, Nat.zero_le _, rfl, ⟨none, 0, rfl, World.ownsRow_nil _ _ _ _⟩, Below.refl _ _⟩
  case round =>
    obtain ⟨k, hk, rfl, ⟨av, cv, rfl, hown⟩, hbel⟩ := hrel
    have Hown := Lib.hid hown
    have Hbel := Lib.hid hbel
    have hwr : w.heap.size ≤ wr.heap.size := hbel.size
    clear hown hbel
    by_cases hlt : k < s.size
    · have e1 : IntKind.i64.wrap ((k : Int) + 1) = (k : Int) + 1 := IntWalk.i64_in _ (by omega)
      have i1 : (0 : Int) ≤ (k : Int) := by omega
      have i2 : (k : Int) < (s.size : Int) := by omega
      have i3 : (k : Int) + 1 ≤ (s.size : Int) := by omega
      have i4 : (k : Int) ≤ (k : Int) + 1 := by omega
      have i5 : ((k : Int) + 1).toNat = k + 1 := by omega
      go_wp2_with fail
      go_region_held3 (fun _ => True) (trivial)
        (first
          | (go_at_call 44; refine (look_any _).mono ?_; rintro e w1 ⟨rfl, hb1⟩)
          | ((refine step_append_lies _ (by rfl) _ _ _ (by rfl) w.heap.size 49 i0 _ 5 48 Try.underlying22 hi0 hz0 hz1 hz2 rfl (by omega) (.slice av k cv) k (glCells ((List.range k).map (letterOf s))) (by rfl) ((bget_block Hown.out.drew (fun b hb => hb1.block b (Hown.out.lt b hb).2)).alloc _) ⟨w1.heap.size, 0, none⟩ 1 1 (letterOf s k).cells (by rfl) (by rfl) (World.news_of_block (cs := (letterOf s k).cells.toArray) (t := 49) (fr := (0, 0)) (heap_alloc_new w1 _)) (by simp [Value.oneCell', Gl.cells]) (by omega) (by unfold maxLen; omega) (by omega) (by have := hb1.size; simp at this ⊢; omega) (w1.heap.size + 1) (by simp) ?_; intro gg cap w3 hown hgrow hat hlt3)))
      have Hg3 := Lib.hid hgrow
      have Ho := Lib.hid hown
      clear hgrow hown e1 i5
      go_wp2
      go_roundw
      case rel =>
        refine ⟨k + 1, by omega, by go_num, ⟨some ⟨gg, 0, none⟩, cap, rfl, ?_⟩, ?_⟩
        · rw [letters_take, glCells_append, show glCells [letterOf s k] = (letterOf s k).cells by simp [glCells]]; exact Ho.out
        · exact (((Hbel.out.drew).trans (hb1.mono hwr)).alloc (by have := hb1.size; simp at this ⊢; omega) _).grown Hg3.out (by have := hb1.size; simp at this ⊢; omega) fun m hm => (Hown.out.lt m hm).1
      case measure => simp [intOf]; omega
    · go_wp2
      go_ret
      have hks : k = s.size := by omega
      subst hks
      exact ⟨_, rfl, by rw [show (lettersOf s).length = s.size by simp [lettersOf]]; exact Hown.out, Hbel.out⟩
end Go.Proofs.Ytepacocajnobgaa
