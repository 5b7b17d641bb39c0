/- twins, once more: the lines are owned, so they may be written. -/
import Derived.Test.YtepacocajnobgaaRowMem
namespace Go.Proofs.Ytepacocajnobgaa
open Go.RowKit

/-- Lines that are owned. -/
def LinesO (w : World) (B : Nat) (vs : List Value) (ll : List (List Gl)) : Prop := ∀ k (h : k < vs.length) (h' : k < ll.length), ∃ xs, w.ownsRow B 49 5 vs[k] ll[k].length xs
theorem LinesO.below {w w' : World} {B : Nat} {vs : List Value} {ll : List (List Gl)} (h : LinesO w B vs ll) (hb : Below w.heap.size w w') : LinesO w' B vs ll := fun k h1 h2 => by
  obtain ⟨xs, hx⟩ := h k h1 h2
  exact ⟨xs, bget_block hx fun b hb' => hb.block b (hx.lt b hb').2⟩
def Twins2Res (ll : List (List Gl)) (w : World) (e : Ending) (w' : World) : Prop :=
  ∃ v vs, e = .returned v ∧ w'.ownsRow w.heap.size 22 1 v ll.length vs ∧ Lines w' (fun b => w.heap.size ≤ b) vs ll ∧ LinesO w' w.heap.size vs ll ∧ Below w.heap.size w w'

set_option maxRecDepth 100000 in
set_option maxHeartbeats 1000000 in
theorem twins2_at (a : Option Addr) (cap : Nat) (ll : List (List Gl)) (w : World) (hb : ll.length ≤ 5864062014805) (hbl : ∀ l ∈ ll, l.length ≤ 2932031007402)
    (H : ∀ k, k < ll.length → ∃ b off vs, a = some ⟨b, off, none⟩ ∧ RowsAt w b off vs ll) :
    Calls Try.prog 20 #[.slice a ll.length cap] w fun e w' => Twins2Res ll w e w' := by
  obtain ⟨i0, hi0, hz0, hz1, hz2⟩ := info_parts info22
  have HH := Lib.hid H
  have Hbl := Lib.hid hbl
  clear H hbl
  go_enter Try.func20, Try.ntmps20
  go_wp2
  go_loopw [3, 4] (fun v i wr => ∃ k : Nat, k ≤ ll.length ∧ i = .int .i64 k ∧ (∃ av cv vs, v = .slice av k cv ∧ RowB wr w.heap.size (.slice av k cv) vs (ll.take k) ∧ LinesO wr w.heap.size vs (ll.take k)) ∧ Below w.heap.size w wr) (fun _ i _ => ll.length - (intOf i).toNat)
  case atStart => exact ⟨0, Nat.zero_le _, rfl, ⟨none, 0, [], rfl, by simpa using RowB.nil w w.heap.size, by intro k h; simp at h⟩, Below.refl _ _⟩
  case round =>
    obtain ⟨k, hk, rfl, ⟨av, cv, vs, rfl, hrow, hlo⟩, hbel⟩ := hrel
    have Hlo := Lib.hid hlo
    clear hlo
    have hlk : (ll.take k).length = k := by simp; omega
    have Hrow := Lib.hid hrow
    have Hbel := Lib.hid hbel
    have Hlk := Lib.hid hlk
    have hwr : w.heap.size ≤ wr.heap.size := hbel.size
    clear hrow hbel hlk
    by_cases hlt : k < ll.length
    · obtain ⟨b, off, vs0, rfl, hat⟩ := HH.out k hlt
      have hl1 := hat.1
      obtain ⟨c0, g0⟩ := hat.2 k (by omega) hlt
      have hbw : b < w.heap.size := World.block_lt_of_cell? w _ c0
      have hts := List.take_succ_eq_append_getElem hlt
      have hll := Hbl.out _ (List.getElem_mem hlt)
      generalize vs0[k]'(by omega) = u at *
      have c1 : wr.cell? ⟨b, off + k, none⟩ = some u := by rw [Hbel.out.cell (p := ⟨b, off + k, none⟩) hbw]; exact c0
      have G0 := Lib.hid g0
      have Hts := Lib.hid hts
      clear g0 c0 hts hl1 hat
      generalize ll[k] = l at *
      go_wp2_with fail
      refine (twin_any u l _ hll (G0.out.below Hbel.out fun _ _ h => h)).mono ?_
      rintro e w1 ⟨v1, rfl, hown1, hb1⟩
      obtain ⟨a1, n1, c1', rfl⟩ := owns_slice hown1
      have Hrow1 := Lib.hid (Hrow.out.below hb1)
      have Hb1 := Lib.hid (Hbel.out.trans (hb1.mono hwr))
      have Hgl := Lib.hid (glSl_of_owns hown1)
      have Hlt := Lib.hid (fun b => hown1.lt b)
      have hw1 : wr.heap.size ≤ w1.heap.size := hb1.size
      have Hlo1 := Lib.hid (Hlo.out.below hb1)
      have Hownl := Lib.hid hown1
      clear hown1 hb1
      have Hown1 := Lib.hid (show w1.ownsRow w.heap.size 22 1 (.slice av k cv) k vs by have := Hrow1.out.1; rw [Hlk.out] at this; exact this)
      go_wp2_with (at_builtin; go_loud (refine wpList_append_lies _ rfl (.tmp 11) (.tmp 17) 23 rfl w.heap.size 22 i0 _ 1 24 Try.underlying23 hi0 hz0 hz1 hz2 rfl (by omega) (.slice av k cv) k vs rfl (Hown1.out.alloc _) ⟨w1.heap.size, 0, none⟩ 1 1 [.slice a1 n1 c1'] rfl rfl (World.news_of_block (cs := #[.slice a1 n1 c1']) (t := 22) (fr := (0, 0)) (heap_alloc_new w1 _)) (by simp [Value.oneCell']) (by omega) (by unfold maxLen; omega) (by omega) (by simp; omega) (w1.heap.size + 1) (by simp) ?_); intro gg cap w3 hown hgrow hat3 hlt3; have Hg3 := Lib.hid hgrow; clear hgrow; have Ho := Lib.hid hown; clear hown)
      go_roundw
      case rel =>
        refine ⟨k + 1, by omega, by go_num, ⟨some ⟨gg, 0, none⟩, cap, vs ++ [.slice a1 n1 c1'], rfl, ?_⟩, (Hb1.out.alloc (by omega) _).grown Hg3.out (by simp; omega) fun m hm => (Hrow.out.1.lt m hm).1⟩
        rw [Hts.out]
        refine ⟨?_, ?_⟩
        · refine (Hrow1.out.below ((Below.refl _ _).alloc (Nat.le_refl _) _)).app Hg3.out (by rw [Hlk.out]) Ho.out ?_ (Hgl.out.same fun b _ hlt => Below.heap_alloc _ _ _ hlt) fun b hb => ?_
          · rcases hat3 with h | h
            · exact .inl h
            · right; rw [h]; simp
          · obtain ⟨q1, q2⟩ := Hlt.out b hb
            exact ⟨by omega, by simp; omega, Hrow.out.ne q1⟩
        · have hne : ∀ b, (Value.slice av k cv).ownBlock = some b → b < wr.heap.size := fun b hb => (Hrow.out.1.lt b hb).2
          have hl1 := Lines.length Hrow1.out.2
          intro j h1 h2
          by_cases hj : j < vs.length
          · rw [List.getElem_append_left hj, List.getElem_append_left (by omega)]
            obtain ⟨xs, hx⟩ := Hlo1.out j hj (by omega)
            have hb := (Lines.get Hrow1.out.2 j hj (by omega)).2
            exact ⟨xs, bget_block (w := w1) hx fun b hb' => (Hg3.out.block b (by have := (hx.lt b hb').2; simp; omega) (fun e => (hb b hb').1.2 e.symm)).trans (Below.heap_alloc _ _ _ (hx.lt b hb').2)⟩
          · have hj2 : j = vs.length := by simp at h1; omega
            subst hj2
            rw [List.getElem_append_right (by omega), List.getElem_append_right (by omega)]
            simp only [hl1, Nat.sub_self, List.getElem_cons_zero]
            refine ⟨glCells l, owns_base (bget_block (w := w1) Hownl.out fun b hb' => (Hg3.out.block b (by have := (Hownl.out.lt b hb').2; simp; omega) (fun e => ?_)).trans (Below.heap_alloc _ _ _ (Hownl.out.lt b hb').2)) hwr⟩
            have := (Hownl.out.lt b hb').1
            have := hne b e.symm
            omega
      case measure => simp [intOf]; omega
    · go_wp2
      go_ret
      have hrl : RowB wr w.heap.size (.slice av k cv) vs ll := by have h := Hrow.out; rw [List.take_of_length_le (by omega)] at h; exact h
      have hol : LinesO wr w.heap.size vs ll := by have h := Hlo.out; rw [List.take_of_length_le (by omega)] at h; exact h
      exact ⟨_, vs, rfl, hrl.1, hrl.2.same (Nat.le_refl _) (fun _ _ _ => rfl) (fun _ hb _ => hb.1), hol, Hbel.out⟩


theorem twins2_any (v : Value) (ll : List (List Gl)) (w : World) (hb : ll.length ≤ 5864062014805) (hbl : ∀ l ∈ ll, l.length ≤ 2932031007402) (H : RowsSl w v ll) :
    Calls Try.prog 20 #[v] w fun e w' => Twins2Res ll w e w' := by
  rcases H with ⟨rfl, rfl⟩ | ⟨b, off, cap, vs, rfl, hat⟩
  · exact twins2_at none 0 [] w (by simp) (by simp) (fun k hk => by simp at hk)
  · exact twins2_at _ cap ll w hb hbl fun k _ => ⟨b, off, vs, rfl, hat⟩
end Go.Proofs.Ytepacocajnobgaa
