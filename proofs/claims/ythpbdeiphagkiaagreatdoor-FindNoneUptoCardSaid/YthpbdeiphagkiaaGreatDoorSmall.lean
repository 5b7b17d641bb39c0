/- text.Small, text.Base, find.counts. -/
import Derived.Test.YthpbdeiphagkiaaGreatDoorBase
namespace Go.Proofs.YthpbdeiphagkiaaGreatDoor
open Go.RowKit Find

set_option maxHeartbeats 400000 in
theorem small_any (r : Int) (w : World) (h0 : -2147483648 ≤ r) (h1 : r ≤ 2147483647) :
    Calls Tryz.prog 48 #[.int .i32 r] w fun e w' => e = .returned (.int .i32 (small r)) ∧ w = w' := by
  go_enter Tryz.func48, Tryz.ntmps48
  go_wp2
  all_goals
    go_ret
    refine ⟨ret_int ?_, rfl⟩
    unfold small
    try simp only [bne_iff_ne, ne_eq, bne_eq_false_iff_eq] at *
    (repeat' split) <;> omega

set_option maxHeartbeats 400000 in
theorem counts_any (r : Int) (w : World) (h0 : -2147483648 ≤ r) (h1 : r ≤ 2147483647) :
    Calls Tryz.prog 61 #[.int .i32 r] w fun e w' => e = .returned (.bool (countsR r)) ∧ w = w' := by
  go_enter Tryz.func61, Tryz.ntmps61
  go_wp2
  all_goals
    go_ret
    refine ⟨ret_bool ?_, rfl⟩
    unfold countsR
    rw [Bool.eq_iff_iff]
    simp
    try omega

set_option maxHeartbeats 1600000 in
theorem base_any (r : Int) (w : World) (h0 : -2147483648 ≤ r) (h1 : r ≤ 2147483647) :
    Calls Tryz.prog 28 #[.int .i32 r] w fun e w' => e = .returned (.string ⟨(base r).toArray⟩) ∧ w = w' := by
  have hs : -2147483648 ≤ small r ∧ small r ≤ 2147483647 := by
    unfold small; (repeat' split) <;> omega
  obtain ⟨hs0, hs1⟩ := hs
  unfold base
  generalize hx : small r = x at *
  have HX := Lib.hid hx
  clear hx
  go_enter Tryz.func28, Tryz.ntmps28
  go_wp2_with (go_at_call 48; refine (small_any _ _ h0 h1).mono ?_; rw [HX.out]; rintro e w' ⟨rfl, rfl⟩)
  all_goals
    go_ret
    refine ⟨?_, rfl⟩
    first | (rw [encode_eq]; refine ret_str ?_) | refine ret_str ?_
    try simp only [bne_iff_ne, ne_eq, bne_eq_false_iff_eq, beq_iff_eq, beq_eq_false_iff_ne] at *
    unfold baseS
    repeat (first | rw [if_pos (by omega)] | rw [if_neg (by omega)])
    first | done | rfl
end Go.Proofs.YthpbdeiphagkiaaGreatDoor
