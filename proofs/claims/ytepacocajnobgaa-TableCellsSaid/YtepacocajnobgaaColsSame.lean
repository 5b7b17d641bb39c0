/- columns of the law: columns that read alike. -/
import Derived.Test.YtepacocajnobgaaApart
import Derived.BigQuiet
import Derived.Deep.QuietTactic
namespace Go.Proofs.Ytepacocajnobgaa
open Go.RowKit

set_option maxRecDepth 100000 in
set_option maxHeartbeats 1000000 in
theorem colsame_any (v v' : Value) (cs : List (Int × Int)) (w : World) (hv : ColSl w v cs) (hv' : ColSl w v' cs) (hl : cs.length ≤ 4611686018427387904) :
    Calls Try.prog 18 #[v, v'] w fun e w' => e = .returned (.bool true) ∧ ∃ n, w' = w.drewN n := by
  obtain ⟨a, c, rfl, hat⟩ := hv
  obtain ⟨a', c', rfl, hat'⟩ := hv'
  have Hat := Lib.hid hat
  have Hat' := Lib.hid hat'
  clear hat hat'
  go_enter Try.func18, Try.ntmps18
  go_wp2
  go_loopw [5] (fun i wr => ∃ k : Nat, k ≤ cs.length ∧ i = .int .i64 k ∧ ∃ n, wr = w.drewN n) (fun i _ => cs.length - (intOf i).toNat)
  case atStart => exact ⟨0, Nat.zero_le _, rfl, 0, rfl⟩
  case round =>
    obtain ⟨k, hk, rfl, nd, hnd⟩ := hrel
    have Hnd := Lib.hid hnd
    by_cases hlt : k < cs.length
    · obtain ⟨b, off, ha, hca⟩ := Hat.out k hlt
      obtain ⟨b', off', ha', hca'⟩ := Hat'.out k hlt
      subst ha ha'
      obtain ⟨c0, c1⟩ := (hca.same (w' := wr) (by rw [hnd]; rfl)) k hlt
      obtain ⟨d0, d1⟩ := (hca'.same (w' := wr) (by rw [hnd]; rfl)) k hlt
      clear hca hca' hnd
      have i1 : (0 : Int) ≤ (k : Int) := by omega
      have i2 : (k : Int) < (cs.length : Int) := by omega
      generalize cs.getD k (0, 0) = q at *
      obtain ⟨q1, q2⟩ := q
      try simp only at c0 c1 d0 d1
      go_wp2
      go_quiet (fail)
      go_wp2
      go_roundw
      case rel => exact ⟨k + 1, by omega, by go_num, nd + nq, by rw [Hnd.out, World.drewN_drewN]⟩
      case measure => simp [intOf]; omega
    · clear hnd
      go_wp2
      go_ret
      exact ⟨rfl, nd, Hnd.out⟩
end Go.Proofs.Ytepacocajnobgaa
