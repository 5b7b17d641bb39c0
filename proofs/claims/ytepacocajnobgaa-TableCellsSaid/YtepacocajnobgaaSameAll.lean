/- Rows of lines that read alike: SameAll says true. -/
import Derived.Test.YtepacocajnobgaaSame
import Derived.Test.YtepacocajnobgaaFill2
namespace Go.Proofs.Ytepacocajnobgaa
open Go.RowKit

theorem RowsSl.of_new {w : World} {B : Nat} {v : Value} {ll : List (List Gl)} (h : RowsNew w B v ll) : RowsSl w v ll := by
  obtain ⟨vs, hown, hl⟩ := h
  have hlen := hl.length
  rcases hown.2 with ⟨rfl, h0⟩ | ⟨g, cap, cur, rfl, hb, hgg, rest⟩
  · exact .inl ⟨rfl, List.eq_nil_of_length_eq_zero h0⟩
  · refine .inr ⟨g, 0, cap, vs, rfl, hlen, fun k h h' => ⟨?_, (hl.get k h h').1⟩⟩
    have := hown.cells (g := g) rfl k vs[k] (List.getElem?_eq_getElem h)
    rw [add_none] at this
    exact this
theorem RowsAt.drewN {w : World} {b off : Nat} {vs : List Value} {ll : List (List Gl)} (h : RowsAt w b off vs ll) (n : Nat) : RowsAt (w.drewN n) b off vs ll :=
  ⟨h.1, fun k h1 h2 => ⟨(h.2 k h1 h2).1, (h.2 k h1 h2).2.same fun _ _ _ => rfl⟩⟩

set_option maxHeartbeats 1000000 in
set_option maxRecDepth 100000 in
theorem sameAll_at (b off cap b' off' cap' : Nat) (vs vs' : List Value) (ll : List (List Gl)) (w : World) (hb : ll.length ≤ 4611686018427387904) (hbl : ∀ l ∈ ll, l.length ≤ 4611686018427387904)
    (hat : RowsAt w b off vs ll) (hat' : RowsAt w b' off' vs' ll) :
    Calls Try.prog 14 #[.slice (some ⟨b, off, none⟩) ll.length cap, .slice (some ⟨b', off', none⟩) ll.length cap'] w fun e w' => e = .returned (.bool true) ∧ ∃ n, w' = w.drewN n := by
  go_enter Try.func14, Try.ntmps14
  go_wp2
  go_loopw [5] (fun i wr => ∃ k : Nat, k ≤ ll.length ∧ i = .int .i64 k ∧ ∃ n, wr = w.drewN n) (fun i _ => ll.length - (intOf i).toNat)
  case atStart => exact ⟨0, Nat.zero_le _, rfl, 0, rfl⟩
  case round =>
    obtain ⟨k, hk, rfl, hnd⟩ := hrel
    obtain ⟨nd, hnd⟩ := hnd
    have hat : RowsAt wr b off vs ll := by rw [hnd]; exact hat.drewN nd
    have hat' : RowsAt wr b' off' vs' ll := by rw [hnd]; exact hat'.drewN nd
    have Hnd := Lib.hid hnd
    clear hnd
    by_cases hlt : k < ll.length
    · have h1 := hat.1
      have h2 := hat'.1
      obtain ⟨c0, g0⟩ := hat.2 k (by omega) hlt
      obtain ⟨d0, g1⟩ := hat'.2 k (by omega) hlt
      have hl := hbl _ (List.getElem_mem hlt)
      have i1 : (0 : Int) ≤ (k : Int) := by omega
      have i2 : (k : Int) < (ll.length : Int) := by omega
      generalize vs[k]'(by omega) = v at *
      generalize vs'[k]'(by omega) = v' at *
      clear h1 h2
      have Hs := Lib.hid (fun (m : Nat) => same_any v v' ll[k] (wr.drewN m) hl (g0.same fun _ _ _ => rfl) (g1.same fun _ _ _ => rfl))
      clear g0 g1 hl
      go_wp2
      go_quiet ((go_at_call 22; exact Calls.quiet_of (Hs.out _)))
      go_wp2
      go_roundw
      case rel => exact ⟨k + 1, by omega, by go_num, nd + nq, by rw [Hnd.out, World.drewN_drewN]⟩
      case measure => simp [intOf]; omega
    · go_wp2
      go_ret
      exact ⟨rfl, nd, Hnd.out⟩

set_option maxHeartbeats 400000 in
set_option maxRecDepth 100000 in
theorem sameAll_empty (a a' : Option Addr) (c c' : Nat) (w : World) :
    Calls Try.prog 14 #[.slice a 0 c, .slice a' 0 c'] w fun e w' => e = .returned (.bool true) ∧ ∃ n, w' = w.drewN n := by
  go_enter Try.func14, Try.ntmps14
  go_wp2
  refine wp_loop_once ?_
  go_wp2
  go_ret
  exact ⟨rfl, 0, rfl⟩

theorem sameAll_any (v v' : Value) (ll : List (List Gl)) (w : World) (hb : ll.length ≤ 4611686018427387904) (hbl : ∀ l ∈ ll, l.length ≤ 4611686018427387904) (H : RowsSl w v ll) (H' : RowsSl w v' ll) :
    Calls Try.prog 14 #[v, v'] w fun e w' => e = .returned (.bool true) ∧ ∃ n, w' = w.drewN n := by
  by_cases h0 : ll = []
  · subst h0
    have sh : ∀ v, RowsSl w v [] → ∃ a c, v = .slice a 0 c := fun v h => by
      rcases h with ⟨rfl, _⟩ | ⟨b, off, cap, vs, rfl, _⟩
      · exact ⟨_, _, rfl⟩
      · exact ⟨_, _, rfl⟩
    obtain ⟨a, c, rfl⟩ := sh v H
    obtain ⟨a', c', rfl⟩ := sh v' H'
    exact sameAll_empty a a' c c' w
  · rcases H with ⟨_, h⟩ | ⟨b, off, cap, vs, rfl, hat⟩
    · exact absurd h h0
    · rcases H' with ⟨_, h⟩ | ⟨b', off', cap', vs', rfl, hat'⟩
      · exact absurd h h0
      · exact sameAll_at b off cap b' off' cap' vs vs' ll w hb hbl hat hat'
end Go.Proofs.Ytepacocajnobgaa
