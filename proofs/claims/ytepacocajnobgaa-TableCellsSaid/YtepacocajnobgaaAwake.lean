/- awake: the chapter's first examples. -/
import Derived.Test.YtepacocajnobgaaRow
import Derived.Test.YtepacocajnobgaaColsSame
namespace Go.Proofs.Ytepacocajnobgaa
open Go.RowKit

def tA : List Gl := lettersOf ⟨#[97, 98, 32, 99, 100, 32, 101]⟩
theorem awake_fill : fillOf (lettersOf ⟨#[97, 98, 32, 99, 100, 32, 101]⟩) 5 = ([lettersOf ⟨#[97, 98, 32, 99, 100]⟩, lettersOf ⟨#[101]⟩], 0) := by kernel_rfl
theorem awake_cols : columnsOf [3, 0, 4] 20 = ([(0, 3), (4, 11), (16, 4)], 0) := by kernel_rfl
theorem awake_row : rowOf [(0, 2), (3, 2)] [lettersOf ⟨#[97, 32, 98]⟩, lettersOf ⟨#[99]⟩] = ([lettersOf ⟨#[97, 32, 32, 99]⟩, lettersOf ⟨#[98]⟩], 0) := by kernel_rfl
theorem awake_wide : wideOf (lettersOf ⟨#[97, 98, 99]⟩) = 3 := by kernel_rfl

theorem rowsSl_two {w : World} {b : Nat} {v1 v2 : Value} {fr : Nat × Nat} {l1 l2 : List Gl} (h : w.heap[b]? = some (.cells #[v1, v2] 22 fr)) (h1 : GlSl w v1 l1) (h2 : GlSl w v2 l2) :
    RowsSl w (.slice (some ⟨b, 0, none⟩) 2 2) [l1, l2] := by
  refine .inr ⟨b, 0, 2, [v1, v2], rfl, rfl, fun k hk hk' => ?_⟩
  rcases (by simp at hk; omega : k = 0 ∨ k = 1) with rfl | rfl
  · exact ⟨by simp [World.cell?, h], h1⟩
  · exact ⟨by simp [World.cell?, h], h2⟩

theorem intSl_three (w : World) (x y z : Int) : IntSl (w.alloc (.cells #[.int .i64 x, .int .i64 y, .int .i64 z] 3)) (.slice (some ⟨w.heap.size, 0, none⟩) 3 3) [x, y, z] := by
  refine ⟨_, 3, rfl, fun k hk => ⟨_, 0, rfl, fun k hk => ?_⟩⟩
  have hh := heap_alloc_new w (.cells #[.int .i64 x, .int .i64 y, .int .i64 z] 3)
  rcases (by simp at hk; omega : k = 0 ∨ k = 1 ∨ k = 2) with rfl | rfl | rfl <;> (simp only [World.cell?]; rw [hh]; rfl)
theorem colCells_get (l : List (Int × Int)) : ∀ k, k < l.length → (colCells l)[k * 2]? = some (.int .i64 (l.getD k (0, 0)).1) ∧ (colCells l)[k * 2 + 1]? = some (.int .i64 (l.getD k (0, 0)).2) := by
  induction l with
  | nil => intro k h; simp at h
  | cons c l ih =>
    intro k h
    have hc : colCells (c :: l) = [.int .i64 c.1, .int .i64 c.2] ++ colCells l := rfl
    rw [hc]
    cases k with
    | zero => exact ⟨rfl, rfl⟩
    | succ k =>
      obtain ⟨h0, h1⟩ := ih k (by simpa using h)
      rw [show (k + 1) * 2 = 2 + k * 2 by omega]
      refine ⟨?_, ?_⟩ <;> (rw [List.getElem?_append_right (by simp only [List.length_cons, List.length_nil]; omega)])
      · rw [show 2 + k * 2 - [Value.int .i64 c.1, .int .i64 c.2].length = k * 2 by show 2 + k * 2 - 2 = _; omega]; exact h0
      · rw [show 2 + k * 2 + 1 - [Value.int .i64 c.1, .int .i64 c.2].length = k * 2 + 1 by show 2 + k * 2 + 1 - 2 = _; omega]; exact h1
theorem colSl_lit {w : World} {b : Nat} {cs : List (Int × Int)} {t : TypeId} {fr : Nat × Nat} {c : Nat} (h : w.heap[b]? = some (.cells (colCells cs).toArray t fr)) : ColSl w (.slice (some ⟨b, 0, none⟩) cs.length c) cs := by
  refine ⟨_, c, rfl, fun k hk => ⟨_, 0, rfl, fun k hk => ?_⟩⟩
  obtain ⟨h1, h2⟩ := colCells_get cs k hk
  simp only [World.cell?]
  rw [h]
  refine ⟨?_, ?_⟩
  · simpa using h1
  · simpa using h2
theorem colSl_of_owns {w : World} {B : Nat} {v : Value} {l : List (Int × Int)} (h : w.ownsRow B 59 2 v l.length (colCells l)) : ColSl w v l := by
  rcases h.2 with ⟨rfl, h0⟩ | ⟨g, cap, cur, rfl, hb, hgg, rest⟩
  · exact ⟨none, 0, by rw [h0], fun k hk => by omega⟩
  · refine ⟨_, cap, rfl, fun k hk => ⟨g, 0, rfl, fun k hk => ?_⟩⟩
    obtain ⟨h1, h2⟩ := colCells_get l k hk
    have q1 := h.cells (g := g) rfl _ _ h1
    have q2 := h.cells (g := g) rfl _ _ h2
    rw [add_none] at q1 q2
    exact ⟨q1, q2⟩
theorem below_drewN {B : Nat} {a w : World} (h : Below B a w) (n : Nat) : Below B a (w.drewN n) := ⟨h.os, h.tape, h.output, h.size, h.block⟩
theorem GlSl.shape {w : World} {v : Value} {l : List Gl} (h : GlSl w v l) : ∃ a c, v = .slice a l.length c := by
  rcases h with ⟨⟨a, c, rfl, _⟩, rfl⟩ | ⟨b, off, cap, rfl, _⟩
  · exact ⟨a, c, rfl⟩
  · exact ⟨_, _, rfl⟩
set_option maxRecDepth 100000 in
set_option maxHeartbeats 4000000 in
theorem awake_any (w : World) : Calls Try.prog 15 #[] w fun e w' => e = .returned (.bool true) ∧ Below w.heap.size w w' := by
  go_enter Try.func15, Try.ntmps15
  go_wp2_with fail
  refine (letters_any _ _ (by decide)).mono ?_
  rintro e w1 ⟨v1, rfl, hown1, hb1⟩
  have Hgl1 := Lib.hid (glSl_of_owns hown1)
  have Hb1 := Lib.hid hb1
  clear hown1 hb1
  go_wp2_with fail
  refine (fill_any _ _ _ _ Hgl1.out (by decide)).mono ?_
  rw [awake_fill]
  rintro e w2 ⟨v2, rfl, hnew2, hb2⟩
  have Hr2 := Lib.hid hnew2
  have Hb2 := Lib.hid (Hb1.out.trans (hb2.mono Hb1.out.size))
  clear hnew2 hb2 Hgl1 Hb1
  go_wp2_with fail
  have hi3 : IntSl (w2.alloc (.cells #[.int .i64 3, .int .i64 0, .int .i64 4] 3)) (.slice (some ⟨w2.heap.size, 0, none⟩) 3 3) [3, 0, 4] := intSl_three _ _ _ _
  refine (cols_any _ _ _ _ hi3 (by decide)).mono ?_
  rw [awake_cols]
  rintro e w3 ⟨v3, rfl, hown3, hb3⟩
  have Hc3 := Lib.hid (colSl_of_owns (l := [(0, 3), (4, 11), (16, 4)]) hown3)
  have Hb3a := Lib.hid (((Below.refl w2.heap.size w2).alloc (Nat.le_refl _) _).trans (hb3.mono (by simp)))
  have Hb3 := Lib.hid (Hb2.out.trans (Hb3a.out.mono Hb2.out.size))
  clear hown3 hb3 hi3
  go_wp2_with fail
  have hcol : ColSl (w3.alloc (.cells #[.int .i64 0, .int .i64 2, .int .i64 3, .int .i64 2] 59)) (.slice (some ⟨w3.heap.size, 0, none⟩) 2 2) [(0, 2), (3, 2)] := colSl_lit (cs := [(0, 2), (3, 2)]) (heap_alloc_new _ _)
  have Hcol := Lib.hid hcol
  have Hb4 := Lib.hid (Hb3.out.alloc Hb3.out.size (.cells #[.int .i64 0, .int .i64 2, .int .i64 3, .int .i64 2] 59))
  clear hcol
  generalize hw4 : w3.alloc (.cells #[.int .i64 0, .int .i64 2, .int .i64 3, .int .i64 2] 59) = w4 at *
  have Hkeep4 := Lib.hid (show Below w3.heap.size w3 w4 by rw [← hw4]; exact (Below.refl _ _).alloc (Nat.le_refl _) _)
  clear hw4
  refine (letters_any _ _ (by decide)).mono ?_
  rintro e w5 ⟨v5, rfl, hown5, hb5⟩
  have Hgl5 := Lib.hid (glSl_of_owns hown5)
  have Hb5 := Lib.hid hb5
  clear hown5 hb5
  go_wp2_with fail
  refine (letters_any _ _ (by decide)).mono ?_
  rintro e w6 ⟨v6, rfl, hown6, hb6⟩
  have Hgl6 := Lib.hid (glSl_of_owns hown6)
  have Hb6 := Lib.hid hb6
  obtain ⟨a5, c5, hs5⟩ := (Hgl5.out).shape
  obtain ⟨a6, c6, hs6⟩ := (Hgl6.out).shape
  clear hown6 hb6
  subst hs5 hs6
  go_wp2_with fail
  have hrow := rowsSl_two (heap_alloc_new w6 (.cells #[.slice a5 (lettersOf ⟨#[97, 32, 98]⟩).length c5, .slice a6 (lettersOf ⟨#[99]⟩).length c6] 22)) (((Hgl5.out).new Hb6.out).new ((Below.refl _ _).alloc (Nat.le_refl _) _)) ((Hgl6.out).new ((Below.refl _ _).alloc (Nat.le_refl _) _))
  have Hrow := Lib.hid hrow
  have hw56 := Hb6.out.size
  have hw45 := Hb5.out.size
  have hb46 := (Hb5.out.trans (Hb6.out.mono hw45)).alloc (show w4.heap.size ≤ w6.heap.size by omega) (.cells #[.slice a5 (lettersOf ⟨#[97, 32, 98]⟩).length c5, .slice a6 (lettersOf ⟨#[99]⟩).length c6] 22)
  have Hb46 := Lib.hid hb46
  have Hcol6 := Lib.hid (Hcol.out.new hb46)
  clear hrow hb46
  refine (row_any _ _ _ _ _ Hcol6.out Hrow.out (by decide) (by decide) (by decide)).mono ?_
  rw [awake_row]
  rintro e w7 ⟨v7, rfl, hnew7, hb7⟩
  have Hr7 := Lib.hid (RowsSl.of_new hnew7)
  have Hb47 := Lib.hid (Hb46.out.trans (hb7.mono Hb46.out.size))
  have Hb7 := Lib.hid (Hb4.out.trans (Hb47.out.mono Hb4.out.size))
  have hw4 := Hb4.out.size
  have hw34 := Hkeep4.out.size
  have Hb37 := Lib.hid (Hkeep4.out.trans (Hb47.out.mono hw34))
  have Hb27 := Lib.hid (Hb3a.out.trans (Hb37.out.mono Hb3a.out.size))
  have Hr2a := Lib.hid ((RowsSl.of_new Hr2.out).new Hb27.out)
  have Hc3a := Lib.hid (Hc3.out.new Hb37.out)
  clear hnew7 hb7 Hgl5 Hgl6 Hb5 Hb6 Hcol Hrow Hcol6 Hb46 Hb47 Hb37 Hb27 Hr2 Hc3 hw4 hw34 hw45 hw56 Hkeep4 Hb3a Hb3 Hb4 Hb2
  go_wp2_with fail
  refine (letters_any _ _ (by decide)).mono ?_
  rintro e w8 ⟨v8, rfl, hown8, hb8⟩
  have Hgl8 := Lib.hid (glSl_of_owns hown8)
  have Hb8 := Lib.hid hb8
  clear hown8 hb8
  go_wp2_with fail
  refine (letters_any _ _ (by decide)).mono ?_
  rintro e w9 ⟨v9, rfl, hown9, hb9⟩
  have Hgl9 := Lib.hid (glSl_of_owns hown9)
  have Hb9 := Lib.hid hb9
  obtain ⟨a8, c8, hs8⟩ := (Hgl8.out).shape
  obtain ⟨a9, c9, hs9⟩ := (Hgl9.out).shape
  clear hown9 hb9
  subst hs8 hs9
  go_wp2_with fail
  have Hrow9 := Lib.hid (rowsSl_two (heap_alloc_new w9 (.cells #[.slice a8 (lettersOf ⟨#[97, 98, 32, 99, 100]⟩).length c8, .slice a9 (lettersOf ⟨#[101]⟩).length c9] 22)) (((Hgl8.out).new Hb9.out).new ((Below.refl _ _).alloc (Nat.le_refl _) _)) ((Hgl9.out).new ((Below.refl _ _).alloc (Nat.le_refl _) _)))
  have Hb79 := Lib.hid ((Hb8.out.trans (Hb9.out.mono Hb8.out.size)).alloc (Nat.le_trans Hb8.out.size Hb9.out.size) (.cells #[.slice a8 (lettersOf ⟨#[97, 98, 32, 99, 100]⟩).length c8, .slice a9 (lettersOf ⟨#[101]⟩).length c9] 22))
  refine (sameAll_any _ _ _ _ (by decide) (by decide) (Hr2a.out.new Hb79.out) Hrow9.out).mono ?_
  rintro e w10 ⟨rfl, n10, hw10⟩
  have Hb710 := Lib.hid (show Below w7.heap.size w7 w10 by rw [hw10]; exact below_drewN Hb79.out _)
  clear hw10 Hb79 Hrow9 Hgl8 Hgl9 Hb8 Hb9
  go_wp2_with fail
  have Hc3l := Lib.hid (show ColSl (w10.alloc (.cells #[.int .i64 0, .int .i64 3, .int .i64 4, .int .i64 11, .int .i64 16, .int .i64 4] 59)) (.slice (some ⟨w10.heap.size, 0, none⟩) 3 3) [(0, 3), (4, 11), (16, 4)] from colSl_lit (cs := [(0, 3), (4, 11), (16, 4)]) (heap_alloc_new _ _))
  have Hb711 := Lib.hid (Hb710.out.alloc Hb710.out.size (.cells #[.int .i64 0, .int .i64 3, .int .i64 4, .int .i64 11, .int .i64 16, .int .i64 4] 59))
  refine (colsame_any _ _ _ _ (Hc3a.out.new Hb711.out) Hc3l.out (by decide)).mono ?_
  rintro e w12 ⟨rfl, n12, hw12⟩
  have Hb712 := Lib.hid (show Below w7.heap.size w7 w12 by rw [hw12]; exact below_drewN Hb711.out _)
  clear hw12 Hb711 Hc3l Hb710
  go_wp2_with fail
  refine (letters_any _ _ (by decide)).mono ?_
  rintro e w13 ⟨v13, rfl, hown13, hb13⟩
  have Hgl13 := Lib.hid (glSl_of_owns hown13)
  have Hb13 := Lib.hid hb13
  clear hown13 hb13
  go_wp2_with fail
  refine (letters_any _ _ (by decide)).mono ?_
  rintro e w14 ⟨v14, rfl, hown14, hb14⟩
  have Hgl14 := Lib.hid (glSl_of_owns hown14)
  have Hb14 := Lib.hid hb14
  obtain ⟨a13, c13, hs13⟩ := (Hgl13.out).shape
  obtain ⟨a14, c14, hs14⟩ := (Hgl14.out).shape
  clear hown14 hb14
  subst hs13 hs14
  go_wp2_with fail
  have Hrow14 := Lib.hid (rowsSl_two (heap_alloc_new w14 (.cells #[.slice a13 (lettersOf ⟨#[97, 32, 32, 99]⟩).length c13, .slice a14 (lettersOf ⟨#[98]⟩).length c14] 22)) (((Hgl13.out).new Hb14.out).new ((Below.refl _ _).alloc (Nat.le_refl _) _)) ((Hgl14.out).new ((Below.refl _ _).alloc (Nat.le_refl _) _)))
  have Hb714 := Lib.hid ((Hb712.out.trans ((Hb13.out.trans (Hb14.out.mono Hb13.out.size)).mono Hb712.out.size)).alloc (Nat.le_trans Hb712.out.size (Nat.le_trans Hb13.out.size Hb14.out.size)) (.cells #[.slice a13 (lettersOf ⟨#[97, 32, 32, 99]⟩).length c13, .slice a14 (lettersOf ⟨#[98]⟩).length c14] 22))
  refine (sameAll_any _ _ _ _ (by decide) (by decide) (Hr7.out.new Hb714.out) Hrow14.out).mono ?_
  rintro e w15 ⟨rfl, n15, hw15⟩
  have Hb715 := Lib.hid (show Below w7.heap.size w7 w15 by rw [hw15]; exact below_drewN Hb714.out _)
  clear hw15 Hb714 Hrow14 Hgl13 Hgl14 Hb13 Hb14 Hb712
  go_wp2_with fail
  refine (letters_any _ _ (by decide)).mono ?_
  rintro e w16 ⟨v16, rfl, hown16, hb16⟩
  have Hgl16 := Lib.hid (glSl_of_owns hown16)
  have Hb16 := Lib.hid hb16
  clear hown16 hb16
  go_wp2_with fail
  refine (pwide_any _ _ _ (by decide) Hgl16.out).mono ?_
  rw [awake_wide]
  rintro e w17 ⟨rfl, hb17⟩
  have Hb717 := Lib.hid (Hb715.out.trans ((Hb16.out.trans (hb17.mono Hb16.out.size)).mono Hb715.out.size))
  clear hb17
  go_wp2
  go_ret
  exact ⟨rfl, Hb7.out.trans (Hb717.out.mono Hb7.out.size)⟩
end Go.Proofs.Ytepacocajnobgaa
