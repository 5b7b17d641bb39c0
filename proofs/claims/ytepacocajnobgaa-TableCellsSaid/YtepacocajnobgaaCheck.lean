/- check of package table. -/
import Derived.Test.YtepacocajnobgaaLeaf
namespace Go.Proofs.Ytepacocajnobgaa
open Go.RowKit

set_option maxHeartbeats 400000 in
theorem check_at (b off cap : Nat) (l : List Gl) (w : World) (hb : l.length ≤ 4611686018427387904) (hat : GlAt w b off l) :
    Calls Try.prog 30 #[.slice (some ⟨b, off, none⟩) l.length cap] w fun e w' => e = .returned (.int .i64 (checkOf l)) ∧ Below w.heap.size w w' := by
  go_enter Try.func30, Try.ntmps30
  go_wp2
  go_loopw [7] (fun i wr => ∃ k : Nat, k ≤ l.length ∧ i = .int .i64 k ∧ (l.take k).any Gl.bad = false ∧ Below w.heap.size w wr) (fun i _ => l.length - (intOf i).toNat)
  case atStart => exact ⟨0, Nat.zero_le _, rfl, by simp, Below.refl _ _⟩
  case round =>
    obtain ⟨k, hk, rfl, hany, hbl⟩ := hrel
    have Hany := Lib.hid hany
    clear hany
    by_cases hlt : k < l.length
    · have hbw := hat.lt (by omega)
      obtain ⟨c0, c1, c2, c3, c4⟩ := (hat.same (hbl.block b hbw)) k hlt
      go_wp2_with (go_at_call 33; refine (kind_any l[k] _).mono ?_; rintro e w1 ⟨rfl, hb1⟩; obtain ⟨hc1, hf1⟩ := bcell hb1)
      all_goals first
        | (go_ret
           exact ⟨ret_int (checkOf_bad l k hlt (by simp_all [Gl.bad])).symm, (hbl.alloc hbl.size _).trans (hb1.mono (by simp; exact Nat.le_succ_of_le hbl.size))⟩)
        | (go_roundw
           case rel => exact ⟨k + 1, by omega, by go_num, by rw [any_take_succ l k hlt, Hany.out]; simp_all [Gl.bad], (hbl.alloc hbl.size _).trans (hb1.mono (by simp; exact Nat.le_succ_of_le hbl.size))⟩
           case measure => simp [intOf]; omega)
    · go_wp2
      go_ret
      exact ⟨ret_int (by rw [List.take_of_length_le (by omega)] at Hany; simp [checkOf, Hany.out]), hbl⟩

set_option maxHeartbeats 400000 in
theorem check_nil (a : Option Addr) (c : Nat) (w : World) : Calls Try.prog 30 #[.slice a 0 c] w fun e w' => e = .returned (.int .i64 (checkOf [])) ∧ Below w.heap.size w w' := by
  go_enter Try.func30, Try.ntmps30
  go_wp2
  refine wp_loop_once ?_
  go_wp2
  go_ret
  exact ⟨rfl, Below.refl _ _⟩

theorem check_any (v : Value) (l : List Gl) (w : World) (hb : l.length ≤ 4611686018427387904) (H : GlSl w v l) :
    Calls Try.prog 30 #[v] w fun e w' => e = .returned (.int .i64 (checkOf l)) ∧ Below w.heap.size w w' := by
  rcases H with ⟨⟨a, c, rfl, _⟩, rfl⟩ | ⟨b, off, cap, rfl, hat⟩
  · exact check_nil a c w
  · exact check_at b off cap l w hb hat
end Go.Proofs.Ytepacocajnobgaa
