/- Two flows that read alike: Same says true. -/
import Derived.Test.YtepacocajnobgaaLeaf
namespace Go.Proofs.Ytepacocajnobgaa
open Go.RowKit

set_option maxHeartbeats 1000000 in
set_option maxRecDepth 100000 in
theorem same_at (b off cap b' off' cap' : Nat) (l : List Gl) (w : World) (hb : l.length ≤ 4611686018427387904) (hat : GlAt w b off l) (hat' : GlAt w b' off' l) :
    Calls Try.prog 22 #[.slice (some ⟨b, off, none⟩) l.length cap, .slice (some ⟨b', off', none⟩) l.length cap'] w fun e w' => e = .returned (.bool true) ∧ ∃ n, w' = w.drewN n := by
  go_enter Try.func22, Try.ntmps22
  go_wp2
  go_loopw [5] (fun i wr => ∃ k : Nat, k ≤ l.length ∧ i = .int .i64 k ∧ ∃ n, wr = w.drewN n) (fun i _ => l.length - (intOf i).toNat)
  case atStart => exact ⟨0, Nat.zero_le _, rfl, 0, rfl⟩
  case round =>
    obtain ⟨k, hk, rfl, hnd⟩ := hrel
    obtain ⟨nd, rfl⟩ := hnd
    by_cases hlt : k < l.length
    · obtain ⟨c0, c1, c2, c3, c4⟩ := hat k hlt
      obtain ⟨d0, d1, d2, d3, d4⟩ := hat' k hlt
      generalize l[k] = g at *
      go_wp2
      go_quiet (fail)
      go_wp2
      go_roundw
      case rel => exact ⟨k + 1, by omega, by go_num, _, rfl⟩
      case measure => simp [intOf]; omega
    · go_wp2
      go_ret
      exact ⟨rfl, _, rfl⟩



set_option maxHeartbeats 400000 in
set_option maxRecDepth 100000 in
theorem same_empty (a a' : Option Addr) (c c' : Nat) (w : World) :
    Calls Try.prog 22 #[.slice a 0 c, .slice a' 0 c'] w fun e w' => e = .returned (.bool true) ∧ ∃ n, w' = w.drewN n := by
  go_enter Try.func22, Try.ntmps22
  go_wp2
  refine wp_loop_once ?_
  go_wp2
  go_ret
  exact ⟨rfl, 0, rfl⟩

theorem same_any (v v' : Value) (l : List Gl) (w : World) (hb : l.length ≤ 4611686018427387904) (H : GlSl w v l) (H' : GlSl w v' l) :
    Calls Try.prog 22 #[v, v'] w fun e w' => e = .returned (.bool true) ∧ ∃ n, w' = w.drewN n := by
  by_cases h0 : l = []
  · subst h0
    have sh : ∀ v, GlSl w v [] → ∃ a c, v = .slice a 0 c := fun v h => by
      rcases h with ⟨⟨_, _, rfl, _⟩, _⟩ | ⟨b, off, cap, rfl, _⟩
      · exact ⟨_, _, rfl⟩
      · exact ⟨_, _, rfl⟩
    obtain ⟨a, c, rfl⟩ := sh v H
    obtain ⟨a', c', rfl⟩ := sh v' H'
    exact same_empty a a' c c' w
  · rcases H with ⟨_, h⟩ | ⟨b, off, cap, rfl, hat⟩
    · exact absurd h h0
    · rcases H' with ⟨_, h⟩ | ⟨b', off', cap', rfl, hat'⟩
      · exact absurd h h0
      · exact same_at b off cap b' off' cap' l w hb hat hat'
end Go.Proofs.Ytepacocajnobgaa
