/- twin, twins: flows in new memory. -/
import Derived.Test.YtepacocajnobgaaSameAll
import Derived.Laws.AppendOwnNone
namespace Go.Proofs.Ytepacocajnobgaa
open Go.RowKit

/-- A flow in new memory. -/
def TwinRes (l : List Gl) (w : World) (e : Ending) (w' : World) : Prop := ∃ v, e = .returned v ∧ w'.ownsRow w.heap.size 49 5 v l.length (glCells l) ∧ Below w.heap.size w w'

set_option maxHeartbeats 400000 in
theorem twin_at (b off cap : Nat) (l : List Gl) (w : World) (hb : l.length ≤ 2932031007402) (hat : GlAt w b off l) :
    Calls Try.prog 12 #[.slice (some ⟨b, off, none⟩) l.length cap] w fun e w' => TwinRes l w e w' := by
  obtain ⟨i0, hi0, hz0, hz1, hz2⟩ := info_parts info49
  go_enter Try.func12, Try.ntmps12
  have hat' : GlAt (w.alloc (.cells #[] 49)) b off l := by
    by_cases h0 : 0 < l.length
    · exact hat.same (Below.heap_alloc _ _ _ (hat.lt h0))
    · intro k hk; omega
  go_wp2_with (at_builtin; go_loud (refine wpList_append_own _ rfl (.tmp 3) (.tmp 4) 22 rfl w.heap.size 49 i0 _ 5 48 Try.underlying22 hi0 hz0 hz1 hz2 rfl (by omega) (.slice (some ⟨w.heap.size, 0, none⟩) 0 0) 0 [] rfl (World.ownsRow_made w #[] 0 (Nat.le_refl _) (by unfold maxLen; omega) rfl) ⟨b, off, none⟩ l.length cap (glCells l) rfl (glCells_length _) hat'.adds (glCells_one _) (by unfold maxLen; omega) (by omega) (by simp) ?_); intro v' w1 hown hgrow _)
  go_ret
  refine ⟨v', rfl, by simpa using hown, ((Below.refl _ _).alloc (Nat.le_refl _) _).grown hgrow (by simp) fun k hk => ?_⟩
  simp [Value.ownBlock] at hk; omega

set_option maxHeartbeats 400000 in
theorem twin_nil (w : World) : Calls Try.prog 12 #[.slice none 0 0] w fun e w' => TwinRes [] w e w' := by
  obtain ⟨i0, hi0, hz0, hz1, hz2⟩ := info_parts info49
  go_enter Try.func12, Try.ntmps12
  go_wp2_with (at_builtin; go_loud (refine wpList_append_own_none rfl (.tmp 3) (.tmp 4) 22 rfl w.heap.size 49 i0 5 Try.underlying22 hi0 (.slice (some ⟨w.heap.size, 0, none⟩) 0 0) 0 [] rfl (World.ownsRow_made w #[] 0 (Nat.le_refl _) (by unfold maxLen; omega) rfl) rfl ?_))
  go_ret
  exact ⟨_, rfl, World.ownsRow_made w #[] 0 (Nat.le_refl _) (by unfold maxLen; omega) rfl, (Below.refl _ _).alloc (Nat.le_refl _) _⟩

set_option maxHeartbeats 400000 in
theorem twin_empty (ad : Addr) (c : Nat) (w : World) : Calls Try.prog 12 #[.slice (some ad) 0 c] w fun e w' => TwinRes [] w e w' := by
  obtain ⟨i0, hi0, hz0, hz1, hz2⟩ := info_parts info49
  go_enter Try.func12, Try.ntmps12
  go_wp2_with (at_builtin; go_loud (refine wpList_append_own _ rfl (.tmp 3) (.tmp 4) 22 rfl w.heap.size 49 i0 _ 5 48 Try.underlying22 hi0 hz0 hz1 hz2 rfl (by omega) (.slice (some ⟨w.heap.size, 0, none⟩) 0 0) 0 [] rfl (World.ownsRow_made w #[] 0 (Nat.le_refl _) (by unfold maxLen; omega) rfl) ad 0 c [] rfl (by simp) (by simp) (by simp) (by unfold maxLen; omega) (by omega) (by simp) ?_); intro v' w1 hown hgrow _)
  go_ret
  refine ⟨v', rfl, by simpa [glCells_nil] using hown, ((Below.refl _ _).alloc (Nat.le_refl _) _).grown hgrow (by simp) fun k hk => ?_⟩
  simp [Value.ownBlock] at hk; omega

theorem twin_any (v : Value) (l : List Gl) (w : World) (hb : l.length ≤ 2932031007402) (H : GlSl w v l) : Calls Try.prog 12 #[v] w fun e w' => TwinRes l w e w' := by
  rcases H with ⟨⟨a, c, rfl, hac⟩, rfl⟩ | ⟨b, off, cap, rfl, hat⟩
  · cases a with
    | none => rw [hac rfl]; exact twin_nil w
    | some ad => exact twin_empty ad c w
  · exact twin_at b off cap l w hb hat

/-- Rows that are being gathered. -/
def RowB (w : World) (B : Nat) (vout : Value) (vs : List Value) (ll : List (List Gl)) : Prop :=
  w.ownsRow B 22 1 vout ll.length vs ∧ Lines w (fun b => B ≤ b ∧ vout.ownBlock ≠ some b) vs ll
theorem RowB.nil (w : World) (B : Nat) : RowB w B (.slice none 0 0) [] [] := ⟨World.ownsRow_nil _ _ _ _, trivial⟩
theorem RowB.new {w : World} {B : Nat} {vout : Value} {vs : List Value} {ll : List (List Gl)} (h : RowB w B vout vs ll) : RowsNew w B vout ll :=
  ⟨vs, h.1, h.2.same (Nat.le_refl _) (fun _ _ _ => rfl) fun _ hb _ => hb.1⟩
theorem RowB.below {w w' : World} {B : Nat} {vout : Value} {vs : List Value} {ll : List (List Gl)} (h : RowB w B vout vs ll) (hb : Below w.heap.size w w') : RowB w' B vout vs ll :=
  ⟨bget_block h.1 fun b hb' => hb.block b (h.1.lt b hb').2, h.2.same hb.size (fun b _ hlt => hb.block b hlt) fun _ h _ => h⟩
/-- Behind an append of one line. -/
theorem RowB.app {w w' : World} {B : Nat} {vout : Value} {vs : List Value} {ll : List (List Gl)} {v : Value} {l : List Gl} {n gg cap : Nat} (h : RowB w B vout vs ll)
    (hg : w.grownBy w' vout.ownBlock) (hn : n = ll.length + 1) (hown : w'.ownsRow B 22 1 (.slice (some ⟨gg, 0, none⟩) n cap) n (vs ++ [v])) (hat : vout.ownBlock = some gg ∨ w.heap.size ≤ gg)
    (hv : GlSl w v l) (hc : CapOk v) (hvb : ∀ b, v.ownBlock = some b → B ≤ b ∧ b < w.heap.size ∧ vout.ownBlock ≠ some b) :
    RowB w' B (.slice (some ⟨gg, 0, none⟩) n cap) (vs ++ [v]) (ll ++ [l]) := by
  have hgn : ∀ b, b < w.heap.size → vout.ownBlock ≠ some b → (Value.slice (some ⟨gg, 0, none⟩) n cap).ownBlock ≠ some b := fun b hlt hne e => by
    simp [Value.ownBlock] at e; subst e
    rcases hat with h1 | h1
    · exact hne h1
    · omega
  refine ⟨by rw [show (ll ++ [l]).length = n by simp [hn]]; exact hown, Lines.snoc (hv.same fun b hb hlt => hg.block b hlt fun e => (hvb b hb).2.2 e.symm) hc (fun b hb => ?_) ?_⟩
  · obtain ⟨h1, h2, h3⟩ := hvb b hb
    exact ⟨⟨h1, hgn b h2 h3⟩, Nat.lt_of_lt_of_le h2 hg.size⟩
  · exact h.2.same hg.size (fun b hb hlt => hg.block b hlt fun e => hb.2 e.symm) fun b hb hlt => ⟨hb.1, hgn b hlt hb.2⟩
/-- A new line beside the rows: its block is none of theirs. -/
theorem RowB.ne {w : World} {B : Nat} {vout : Value} {vs : List Value} {ll : List (List Gl)} (h : RowB w B vout vs ll) {b : Nat} (hb : w.heap.size ≤ b) : vout.ownBlock ≠ some b := fun e => by
  have := (h.1.lt b e).2; omega

/-- Rows in new memory. -/
def TwinsRes (ll : List (List Gl)) (w : World) (e : Ending) (w' : World) : Prop := ∃ v, e = .returned v ∧ RowsNew w' w.heap.size v ll ∧ Below w.heap.size w w'

set_option maxRecDepth 100000 in
set_option maxHeartbeats 1000000 in
theorem twins_at (a : Option Addr) (cap : Nat) (ll : List (List Gl)) (w : World) (hb : ll.length ≤ 5864062014805) (hbl : ∀ l ∈ ll, l.length ≤ 2932031007402)
    (H : ∀ k, k < ll.length → ∃ b off vs, a = some ⟨b, off, none⟩ ∧ RowsAt w b off vs ll) :
    Calls Try.prog 20 #[.slice a ll.length cap] w fun e w' => TwinsRes ll w e w' := by
  obtain ⟨i0, hi0, hz0, hz1, hz2⟩ := info_parts info22
  have HH := Lib.hid H
  have Hbl := Lib.hid hbl
  clear H hbl
  go_enter Try.func20, Try.ntmps20
  go_wp2
  go_loopw [3, 4] (fun v i wr => ∃ k : Nat, k ≤ ll.length ∧ i = .int .i64 k ∧ (∃ av cv vs, v = .slice av k cv ∧ RowB wr w.heap.size (.slice av k cv) vs (ll.take k)) ∧ Below w.heap.size w wr) (fun _ i _ => ll.length - (intOf i).toNat)
  case atStart => exact ⟨0, Nat.zero_le _, rfl, ⟨none, 0, [], rfl, by simpa using RowB.nil w w.heap.size⟩, Below.refl _ _⟩
  case round =>
    obtain ⟨k, hk, rfl, ⟨av, cv, vs, rfl, hrow⟩, hbel⟩ := hrel
    have hlk : (ll.take k).length = k := by simp; omega
    have Hrow := Lib.hid hrow
    have Hbel := Lib.hid hbel
    have Hlk := Lib.hid hlk
    have hwr : w.heap.size ≤ wr.heap.size := hbel.size
    clear hrow hbel hlk
    by_cases hlt : k < ll.length
    · obtain ⟨b, off, vs0, rfl, hat⟩ := HH.out k hlt
      have hl1 := hat.1
      obtain ⟨c0, g0⟩ := hat.2 k (by omega) hlt
      have hbw : b < w.heap.size := World.block_lt_of_cell? w _ c0
      have hts := List.take_succ_eq_append_getElem hlt
      have hll := Hbl.out _ (List.getElem_mem hlt)
      generalize vs0[k]'(by omega) = u at *
      have c1 : wr.cell? ⟨b, off + k, none⟩ = some u := by rw [Hbel.out.cell (p := ⟨b, off + k, none⟩) hbw]; exact c0
      have G0 := Lib.hid g0
      have Hts := Lib.hid hts
      clear g0 c0 hts hl1 hat
      generalize ll[k] = l at *
      go_wp2_with fail
      refine (twin_any u l _ hll (G0.out.below Hbel.out fun _ _ h => h)).mono ?_
      rintro e w1 ⟨v1, rfl, hown1, hb1⟩
      obtain ⟨a1, n1, c1', rfl⟩ := owns_slice hown1
      have Hrow1 := Lib.hid (Hrow.out.below hb1)
      have Hb1 := Lib.hid (Hbel.out.trans (hb1.mono hwr))
      have Hgl := Lib.hid (glSl_of_owns hown1)
      have Hcap := Lib.hid (capOk_of_owns hown1)
      have Hlt := Lib.hid (fun b => hown1.lt b)
      have hw1 : wr.heap.size ≤ w1.heap.size := hb1.size
      clear hown1 hb1
      have Hown1 := Lib.hid (show w1.ownsRow w.heap.size 22 1 (.slice av k cv) k vs by have := Hrow1.out.1; rw [Hlk.out] at this; exact this)
      go_wp2_with (at_builtin; go_loud (refine wpList_append_lies _ rfl (.tmp 11) (.tmp 17) 23 rfl w.heap.size 22 i0 _ 1 24 Try.underlying23 hi0 hz0 hz1 hz2 rfl (by omega) (.slice av k cv) k vs rfl (Hown1.out.alloc _) ⟨w1.heap.size, 0, none⟩ 1 1 [.slice a1 n1 c1'] rfl rfl (World.news_of_block (cs := #[.slice a1 n1 c1']) (t := 22) (fr := (0, 0)) (heap_alloc_new w1 _)) (by simp [Value.oneCell']) (by omega) (by unfold maxLen; omega) (by omega) (by simp; omega) (w1.heap.size + 1) (by simp) ?_); intro gg cap w3 hown hgrow hat3 hlt3; have Hg3 := Lib.hid hgrow; clear hgrow; have Ho := Lib.hid hown; clear hown)
      go_roundw
      case rel =>
        refine ⟨k + 1, by omega, by go_num, ⟨some ⟨gg, 0, none⟩, cap, vs ++ [.slice a1 n1 c1'], rfl, ?_⟩, (Hb1.out.alloc (by omega) _).grown Hg3.out (by simp; omega) fun m hm => (Hrow.out.1.lt m hm).1⟩
        rw [Hts.out]
        refine (Hrow1.out.below ((Below.refl _ _).alloc (Nat.le_refl _) _)).app Hg3.out (by rw [Hlk.out]) Ho.out ?_ (Hgl.out.same fun b _ hlt => Below.heap_alloc _ _ _ hlt) Hcap.out fun b hb => ?_
        · rcases hat3 with h | h
          · exact .inl h
          · right; rw [h]; simp
        · obtain ⟨q1, q2⟩ := Hlt.out b hb
          exact ⟨by omega, by simp; omega, Hrow.out.ne q1⟩
      case measure => simp [intOf]; omega
    · go_wp2
      go_ret
      refine ⟨_, rfl, ?_, Hbel.out⟩
      rw [List.take_of_length_le (by omega)] at Hrow
      exact Hrow.out.new

theorem twins_any (v : Value) (ll : List (List Gl)) (w : World) (hb : ll.length ≤ 5864062014805) (hbl : ∀ l ∈ ll, l.length ≤ 2932031007402) (H : RowsSl w v ll) :
    Calls Try.prog 20 #[v] w fun e w' => TwinsRes ll w e w' := by
  rcases H with ⟨rfl, rfl⟩ | ⟨b, off, cap, vs, rfl, hat⟩
  · exact twins_at none 0 [] w (by simp) (by simp) (fun k hk => by simp at hk)
  · exact twins_at _ cap ll w hb hbl fun k _ => ⟨b, off, vs, rfl, hat⟩
end Go.Proofs.Ytepacocajnobgaa
