/- Contracts of the small functions: Sign, kind, Wide (both), check. -/
import Derived.Test.YtepacocajnobgaaBase
import Derived.BigQuiet
import Derived.Deep.QuietTactic
namespace Go.Proofs.Ytepacocajnobgaa
open Go.RowKit

def Gl.isBlank (g : Gl) : Bool := g.text.toList == [32]
def Gl.isTab (g : Gl) : Bool := g.text.toList == [9]
def Gl.isStop (g : Gl) : Bool := g.text.toList == [10]
def Gl.isSign (g : Gl) : Bool := !g.text.toList == [32] && !g.text.toList == [9] && !g.text.toList == [10]
def Gl.kind (g : Gl) : Int := if g.text.toList == [32] then 0 else if g.text.toList == [9] then 1 else if g.text.toList == [10] then 2 else 3

theorem ret_int {k : IntKind} {a b : Int} (h : a = b) : Ending.returned (.int k a) = .returned (.int k b) := by rw [h]
theorem ret_bool {a b : Bool} (h : a = b) : Ending.returned (.bool a) = .returned (.bool b) := by rw [h]

set_option maxHeartbeats 400000 in
theorem sign_any (g : Gl) (w : World) : Calls Try.prog 23 #[g.val] w fun e w' => e = .returned (.bool g.isSign) ∧ Below w.heap.size w w' := by
  go_enter Try.func23, Try.ntmps23
  go_wp2
  all_goals
    go_ret
    refine ⟨ret_bool ?_, (Below.refl _ _).alloc (Nat.le_refl _) _⟩
    simp [Gl.isSign, *]

set_option maxHeartbeats 400000 in
theorem kind_any (g : Gl) (w : World) : Calls Try.prog 33 #[g.val] w fun e w' => e = .returned (.int .i64 g.kind) ∧ Below w.heap.size w w' := by
  go_enter Try.func33, Try.ntmps33
  go_wp2
  all_goals
    go_ret
    refine ⟨ret_int ?_, (Below.refl _ _).alloc (Nat.le_refl _) _⟩
    (try simp only [Gl.kind, *]) <;> rfl

def wideOf (l : List Gl) : Int := l.foldl (fun n g => wrap64 (n + g.wide)) 0
theorem wideOf_snoc (l : List Gl) (g : Gl) : wideOf (l ++ [g]) = wrap64 (wideOf l + g.wide) := by simp [wideOf, List.foldl_append]
theorem wideOf_take (l : List Gl) (k : Nat) (h : k < l.length) : wideOf (l.take (k + 1)) = wrap64 (wideOf (l.take k) + l[k].wide) := by
  rw [List.take_succ_eq_append_getElem h, wideOf_snoc]

set_option maxHeartbeats 400000 in
theorem rwide_at (b off cap : Nat) (l : List Gl) (w : World) (hb : l.length ≤ 4611686018427387904) (hat : GlAt w b off l) :
    Calls Try.prog 24 #[.slice (some ⟨b, off, none⟩) l.length cap] w fun e w' => e = .returned (.int .i64 (wideOf l)) ∧ w' = w := by
  go_enter Try.func24, Try.ntmps24
  go_wp2
  go_loop [3, 4] (fun n i => ∃ k : Nat, k ≤ l.length ∧ i = .int .i64 k ∧ n = .int .i64 (wideOf (l.take k))) (fun _ i => l.length - (intOf i).toNat)
  case atStart => exact ⟨0, Nat.zero_le _, rfl, rfl⟩
  case round =>
    obtain ⟨k, hk, rfl, rfl⟩ := hrel
    by_cases hlt : k < l.length
    · obtain ⟨_, c1, _⟩ := hat k hlt
      have hw := Lib.hid (wideOf_take l k hlt)
      go_wp2
      go_round
      case rel => exact ⟨k + 1, by omega, by go_num, by rw [hw.out]⟩
      case measure => simp [intOf]; omega
    · go_wp2
      go_ret
      exact ⟨ret_int (by rw [List.take_of_length_le (by omega)]), rfl⟩

set_option maxHeartbeats 400000 in
theorem rwide_nil (a : Option Addr) (c : Nat) (w : World) : Calls Try.prog 24 #[.slice a 0 c] w fun e w' => e = .returned (.int .i64 (wideOf [])) ∧ w' = w := by
  go_enter Try.func24, Try.ntmps24
  go_wp2
  refine wp_loop_once ?_
  go_wp2
  go_ret
  exact ⟨rfl, rfl⟩

theorem rwide_any (v : Value) (l : List Gl) (w : World) (hb : l.length ≤ 4611686018427387904) (H : GlSl w v l) :
    Calls Try.prog 24 #[v] w fun e w' => e = .returned (.int .i64 (wideOf l)) ∧ w' = w := by
  rcases H with ⟨⟨a, c, rfl, _⟩, rfl⟩ | ⟨b, off, cap, rfl, hat⟩
  · exact rwide_nil a c w
  · exact rwide_at b off cap l w hb hat

set_option maxHeartbeats 400000 in
theorem pwide_at (b off cap : Nat) (l : List Gl) (w : World) (hb : l.length ≤ 4611686018427387904) (hat : GlAt w b off l) :
    Calls Try.prog 25 #[.slice (some ⟨b, off, none⟩) l.length cap] w fun e w' => e = .returned (.int .i64 (wideOf l)) ∧ Below w.heap.size w w' := by
  go_enter Try.func25, Try.ntmps25
  go_wp2
  go_loopw [3, 8] (fun n i wr => ∃ k : Nat, k ≤ l.length ∧ i = .int .i64 k ∧ n = .int .i64 (wideOf (l.take k)) ∧ Below w.heap.size w wr) (fun _ i _ => l.length - (intOf i).toNat)
  case atStart => exact ⟨0, Nat.zero_le _, rfl, rfl, Below.refl _ _⟩
  case round =>
    obtain ⟨k, hk, rfl, rfl, hbl⟩ := hrel
    by_cases hlt : k < l.length
    · have hbw := hat.lt (by omega)
      obtain ⟨c0, c1, c2, c3, c4⟩ := (hat.same (hbl.block b hbw)) k hlt
      have hw := Lib.hid (wideOf_take l k hlt)
      go_wp2
      go_roundw
      case rel => exact ⟨k + 1, by omega, by go_num, by rw [hw.out], (hbl.alloc hbl.size _)⟩
      case measure => simp [intOf]; omega
    · go_wp2
      go_ret
      exact ⟨ret_int (by rw [List.take_of_length_le (by omega)]), hbl⟩

set_option maxHeartbeats 400000 in
theorem pwide_nil (a : Option Addr) (c : Nat) (w : World) : Calls Try.prog 25 #[.slice a 0 c] w fun e w' => e = .returned (.int .i64 (wideOf [])) ∧ Below w.heap.size w w' := by
  go_enter Try.func25, Try.ntmps25
  go_wp2
  refine wp_loop_once ?_
  go_wp2
  go_ret
  exact ⟨rfl, Below.refl _ _⟩

theorem pwide_any (v : Value) (l : List Gl) (w : World) (hb : l.length ≤ 4611686018427387904) (H : GlSl w v l) :
    Calls Try.prog 25 #[v] w fun e w' => e = .returned (.int .i64 (wideOf l)) ∧ Below w.heap.size w w' := by
  rcases H with ⟨⟨a, c, rfl, _⟩, rfl⟩ | ⟨b, off, cap, rfl, hat⟩
  · exact pwide_nil a c w
  · exact pwide_at b off cap l w hb hat

/-- May a flow's sign stand so? -/
def Gl.bad (g : Gl) : Bool := g.kind == 3 && (g.text.toList == [] || (g.wide != 1 && g.wide != 2))
def checkOf (l : List Gl) : Int := if l.any Gl.bad then 120 else 0
theorem kind_cases (g : Gl) : g.kind = 0 ∨ g.kind = 1 ∨ g.kind = 2 ∨ g.kind = 3 := by
  unfold Gl.kind
  cases g.text.toList == [32] <;> cases g.text.toList == [9] <;> cases g.text.toList == [10] <;> decide

/-- Lists of glyphs in a slice of slices. -/
def RowsAt (w : World) (b off : Nat) (vs : List Value) (ll : List (List Gl)) : Prop :=
  vs.length = ll.length ∧ ∀ k (h : k < vs.length) (h' : k < ll.length), w.cell? ⟨b, off + k, none⟩ = some vs[k] ∧ GlSl w vs[k] ll[k]
def RowsSl (w : World) (v : Value) (ll : List (List Gl)) : Prop :=
  (v = .slice none 0 0 ∧ ll = []) ∨ ∃ b off cap vs, v = .slice (some ⟨b, off, none⟩) ll.length cap ∧ RowsAt w b off vs ll

theorem any_take_succ (l : List Gl) (k : Nat) (h : k < l.length) : (l.take (k + 1)).any Gl.bad = ((l.take k).any Gl.bad || l[k].bad) := by
  rw [List.take_succ_eq_append_getElem h, List.any_append]; simp
theorem checkOf_bad (l : List Gl) (k : Nat) (h : k < l.length) (hb : l[k].bad = true) : checkOf l = 120 := by
  unfold checkOf
  rw [if_pos (List.any_eq_true.2 ⟨l[k], List.getElem_mem h, hb⟩)]
theorem checkOf_good (l : List Gl) (h : l.any Gl.bad = false) : checkOf l = 0 := by simp [checkOf, h]

end Go.Proofs.Ytepacocajnobgaa
