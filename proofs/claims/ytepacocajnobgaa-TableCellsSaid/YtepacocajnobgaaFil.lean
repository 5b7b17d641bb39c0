/- The filler of package table: what put, end, word, tabbed and leap do. -/
import Derived.Test.YtepacocajnobgaaSpec
import Derived.Deep.DrawnRows
import Derived.Deep.RegionLaw
namespace Go.Proofs.Ytepacocajnobgaa
open Go.RowKit
attribute [local go_sem ↓] Go.wp_at_zero Go.wp_at_succ

theorem info49 : (Try.prog.info? 49).map (fun i => (i.zero, i.size, i.bytes)) = some (some (.agg #[.string ⟨#[]⟩, .int .i64 0, .int .i64 0, .int .i64 0, .int .i64 0]), 5, 48) := by kernel_rfl
theorem info22 : (Try.prog.info? 22).map (fun i => (i.zero, i.size, i.bytes)) = some (some (.slice none 0 0), 1, 24) := by kernel_rfl

/-- The filler of package table in memory. -/
def FilP (w : World) (B p : Nat) (wide : Int) (s : St) (F : Nat → Prop) : Prop :=
  ∃ vout vline vwaits vs, w.heap[p]? = some (.cells #[.int .i64 wide, vout, vline, .int .i64 s.at_, vwaits] 65 (0, 0)) ∧ Fil w B p vout vline vwaits vs s.out s.line s.waits F
/-- What a call on it leaves. -/
def FilPost (B p : Nat) (wide : Int) (s' : St) (F : Nat → Prop) (w w' : World) : Prop := ∃ F', FilP w' B p wide s' F' ∧ Ev F w F' w'

theorem put_close {B p n cap gg : Nat} {vout vline vwaits : Value} {vs : List Value} {s : St} {F : Nat → Prop} {w w1 : World} {o1 o2 : Obj} {g : Gl} {wide x : Int}
    (hp : w.heap[p]? = some (.cells #[.int .i64 wide, vout, vline, .int .i64 s.at_, vwaits] 65 (0, 0))) (H : Fil w B p vout vline vwaits vs s.out s.line s.waits F)
    (hn : n = s.line.length + 1) (hown : w1.ownsRow B 49 5 (.slice (some ⟨gg, 0, none⟩) n cap) n (glCells s.line ++ g.cells))
    (hg : ((w.alloc o1).alloc o2).drew.grownBy w1 vline.ownBlock) (hat : vline.ownBlock = some gg ∨ gg = w.heap.size + 2) (hx : x = s.at_ + g.wide) :
    FilPost B p wide (putS g s) F w (((w1.setCell ⟨p, 2, none⟩ (.slice (some ⟨gg, 0, none⟩) n cap)).setCell ⟨p, 3, none⟩ (.int .i64 x)).drew) := by
  subst hx hn
  have hc : glCells s.line ++ g.cells = glCells (s.line ++ [g]) := by simp [glCells]
  have hl : s.line.length + 1 = (s.line ++ [g]).length := by simp
  rw [hc, hl] at hown
  rw [hl]
  have H1 := (((H.alloc o1).alloc o2).drew).lined hown hg (by
    rcases hat with h | h
    · exact .inl h
    · right; rw [h]; show ((w.alloc o1).alloc o2).heap.size ≤ _; simp)
  have hp1 : w1.heap[p]? = some (.cells #[.int .i64 wide, vout, vline, .int .i64 s.at_, vwaits] 65 (0, 0)) := by
    have hlt := H.base.2.2
    rw [hg.block p (by show p < ((w.alloc o1).alloc o2).heap.size; simp; omega) (fun e => (H.lineF p e.symm).2 rfl)]
    show ((w.alloc o1).alloc o2).heap[p]? = _
    rw [Below.heap_alloc _ _ _ (by simp; omega), Below.heap_alloc _ _ _ hlt]; exact hp
  refine ⟨_, ⟨vout, .slice (some ⟨gg, 0, none⟩) (s.line ++ [g]).length cap, vwaits, vs, ?_, ((H1.setp _ _).setp _ _).drew⟩, ?_⟩
  · show ((w1.setCell _ _).setCell _ _).heap[p]? = _
    rw [setCell_heap (setCell_heap hp1 _) _]; rfl
  · refine Ev.drew (Ev.setCell (Ev.setCell (Ev.widen (Ev.grown (((Ev.refl F w).alloc o1).alloc o2).drew hg fun k hk => .inl ?_) fun k hk => ?_) (.inl ?_) _) (.inl ?_) _)
    · exact (H.lineF k hk).1
    · rcases hk with hk | rfl
      · exact .inl hk
      · rcases hat with h | h
        · exact .inl (H.lineF _ h).1
        · right; omega
    · exact .inl H.base.2.1
    · exact .inl H.base.2.1

set_option maxRecDepth 100000 in
set_option maxHeartbeats 3200000 in
theorem put_any (B p : Nat) (wide : Int) (s : St) (F : Nat → Prop) (g : Gl) (w : World) (H : FilP w B p wide s F) (hB : B ≤ w.heap.size)
    (hn : s.line.length ≤ 2000000000000) (ha : 0 ≤ s.at_) (ha' : s.at_ ≤ 1000000) (hg : 0 ≤ g.wide) (hg' : g.wide ≤ 1000000) :
    Calls Try.prog 45 #[.pointer (some ⟨p, 0, none⟩), g.val] w fun e w' => e = .returned (.tuple #[]) ∧ FilPost B p wide (putS g s) F w w' := by
  obtain ⟨i0, hi0, hz0, hz1, hz2⟩ := info_parts info49
  obtain ⟨vout, vline, vwaits, vs, hp, hF⟩ := H
  have hcl := @put_close B p (s.line.length + 1)
  have hp2 : w.cell? ⟨p, 2, none⟩ = some vline := by simp [World.cell?, hp]
  have hp3 : w.cell? ⟨p, 3, none⟩ = some (.int .i64 s.at_) := by simp [World.cell?, hp]
  have hfz : w.frozen? ⟨p, 2, none⟩ = false := by simp [World.frozen?, hp]
  have hfz3 : w.frozen? ⟨p, 3, none⟩ = false := by simp [World.frozen?, hp]
  have hown := hF.lineO
  have hlt0 : ∀ k, vline.ownBlock = some k → k < w.heap.size := fun k hk => (hown.lt k hk).2
  have ag : some p ≠ vline.ownBlock := fun h => (hF.lineF p h.symm).2 rfl
  have lp := hF.base.2.2
  have hnl : some w.heap.size ≠ vline.ownBlock := fun h => by have := hlt0 _ h.symm; omega
  have Hcl := Lib.hid (fun (cap gg : Nat) (o1 o2 : Obj) (w1 : World) (x : Int) => hcl (cap := cap) (gg := gg) (o1 := o1) (o2 := o2) (w1 := w1) (x := x) (g := g) hp hF rfl)
  clear hcl hlt0
  have HF := Lib.hid hF
  clear hF
  have Hp := Lib.hid hp
  clear hp
  generalize hs : s.at_ = at_ at *
  have Hs := Lib.hid hs
  clear hs
  go_enter Try.func45, Try.ntmps45
  go_wp2_with fail
  go_region_law
    ((refine step_append_lies _ (by rfl) _ _ _ (by rfl) B 49 i0 _ 5 48 Try.underlying22 hi0 hz0 hz1 hz2 rfl (by omega) vline s.line.length (glCells s.line) (by rfl) (((hown.alloc _).drew).alloc _)
        ⟨w.heap.size + 1, 0, none⟩ 1 1 g.cells (by rfl) (by rfl) (World.news_of_block (cs := g.cells.toArray) (t := 49) (fr := (0, 0)) (two_new w _ _)) (by simp [Value.oneCell', Gl.cells])
        (by omega) (by unfold maxLen; omega) (by omega) (by simp; omega) (w.heap.size + 2) (by simp) ?_; intro gg cap w1 hown1 hgrow hat hlt; have q2 := hgrow.cell_far ⟨p, 2, none⟩ (by simp; omega) ag; have q2f := hgrow.frozen_far ⟨p, 2, none⟩ (by simp; omega) ag; simp at q2 q2f))
  all_goals
    have q3 := hgrow.cell_far ⟨p, 3, none⟩ (by simp; omega) ag
    have q3f := hgrow.frozen_far ⟨p, 3, none⟩ (by simp; omega) ag
    have q4 := hgrow.cell_far ⟨w.heap.size, 1, none⟩ (by simp; omega) hnl
    simp at q3 q3f q4
    have Hg := Lib.hid hgrow
    clear hgrow
    have Ho := Lib.hid hown1
    clear hown1
    go_wp2
    go_region
    go_end0
    exact ⟨rfl, Hcl.out cap gg _ _ w1 _ Ho.out Hg.out hat rfl⟩

theorem end_close {B p n cap gg : Nat} {vout vline vwaits : Value} {vs : List Value} {s : St} {F : Nat → Prop} {w w1 : World} {o1 : Obj} {wide : Int}
    (hp : w.heap[p]? = some (.cells #[.int .i64 wide, vout, vline, .int .i64 s.at_, vwaits] 65 (0, 0))) (H : Fil w B p vout vline vwaits vs s.out s.line s.waits F)
    (hn : n = s.out.length + 1) (hown : w1.ownsRow B 22 1 (.slice (some ⟨gg, 0, none⟩) n cap) n (vs ++ [vline]))
    (hg : (w.alloc o1).drew.grownBy w1 vout.ownBlock) (hat : vout.ownBlock = some gg ∨ gg = w.heap.size + 1) :
    FilPost B p wide (endS s) F w ((((w1.setCell ⟨p, 1, none⟩ (.slice (some ⟨gg, 0, none⟩) n cap)).setCell ⟨p, 2, none⟩ (.slice none 0 0)).setCell ⟨p, 3, none⟩ (.int .i64 0)).setCell ⟨p, 4, none⟩ (.slice none 0 0)) := by
  have H1 := ((H.alloc o1).drew).told hown hn hg (by
    rcases hat with h | h
    · exact .inl h
    · right; rw [h]; show (w.alloc o1).heap.size ≤ _; simp)
  have hp1 : w1.heap[p]? = some (.cells #[.int .i64 wide, vout, vline, .int .i64 s.at_, vwaits] 65 (0, 0)) := by
    have hlt := H.base.2.2
    rw [hg.block p (by show p < (w.alloc o1).heap.size; simp; omega) (fun e => (H.outF p e.symm).2 rfl)]
    show (w.alloc o1).heap[p]? = _
    rw [Below.heap_alloc _ _ _ hlt]; exact hp
  refine ⟨_, ⟨.slice (some ⟨gg, 0, none⟩) n cap, .slice none 0 0, .slice none 0 0, vs ++ [vline], ?_, (((H1.setp _ _).setp _ _).setp _ _).setp _ _⟩, ?_⟩
  · rw [setCell_heap (setCell_heap (setCell_heap (setCell_heap hp1 _) _) _) _]; rfl
  · have fp : ∀ {P : Prop}, (F p ∨ p = gg) ∨ P := .inl (.inl H.base.2.1)
    refine Ev.setCell (Ev.setCell (Ev.setCell (Ev.setCell (Ev.widen (Ev.grown (((Ev.refl F w).alloc o1)).drew hg fun k hk => .inl ?_) fun k hk => ?_) fp _) fp _) fp _) fp _
    · exact (H.outF k hk).1
    · rcases hk with hk | rfl
      · exact .inl hk
      · rcases hat with h | h
        · exact .inl (H.outF _ h).1
        · right; omega

set_option maxRecDepth 100000 in
set_option maxHeartbeats 3200000 in
theorem end_any (B p : Nat) (wide : Int) (s : St) (F : Nat → Prop) (w : World) (H : FilP w B p wide s F) (hB : B ≤ w.heap.size)
    (hn : s.out.length ≤ 4000000000000) :
    Calls Try.prog 35 #[.pointer (some ⟨p, 0, none⟩)] w fun e w' => e = .returned (.tuple #[]) ∧ FilPost B p wide (endS s) F w w' := by
  obtain ⟨i0, hi0, hz0, hz1, hz2⟩ := info_parts info22
  obtain ⟨vout, vline, vwaits, vs, hp, hF⟩ := H
  have hcl := @end_close B p (s.out.length + 1)
  have hp1 : w.cell? ⟨p, 1, none⟩ = some vout := by simp [World.cell?, hp]
  have hp2 : w.cell? ⟨p, 2, none⟩ = some vline := by simp [World.cell?, hp]
  have hp3 : w.cell? ⟨p, 3, none⟩ = some (.int .i64 s.at_) := by simp [World.cell?, hp]
  have hp4 : w.cell? ⟨p, 4, none⟩ = some vwaits := by simp [World.cell?, hp]
  have hfz : ∀ i, w.frozen? ⟨p, i, none⟩ = false := by intro i; simp [World.frozen?, hp]
  have hown := hF.outO
  have ag : some p ≠ vout.ownBlock := fun h => (hF.outF p h.symm).2 rfl
  have lp := hF.base.2.2
  obtain ⟨al, nl, cl, rfl⟩ := owns_slice hF.lineO
  have Hcl := Lib.hid (fun (cap gg : Nat) (o1 : Obj) (w1 : World) => hcl (cap := cap) (gg := gg) (o1 := o1) (w1 := w1) hp hF rfl)
  clear hcl
  have HF := Lib.hid hF
  clear hF
  have Hp := Lib.hid hp
  clear hp
  go_enter Try.func35, Try.ntmps35
  go_wp2_with fail
  go_region_law
    ((refine step_append_lies _ (by rfl) _ _ _ (by rfl) B 22 i0 _ 1 24 Try.underlying23 hi0 hz0 hz1 hz2 rfl (by omega) vout s.out.length vs (by rfl) (((hown).drew).alloc _)
        ⟨w.heap.size, 0, none⟩ 1 1 [.slice al nl cl] (by rfl) (by rfl) (World.news_of_block (cs := #[.slice al nl cl]) (t := 22) (fr := (0, 0)) (heap_alloc_new w _)) (by simp [Value.oneCell'])
        (by omega) (by unfold maxLen; omega) (by omega) (by simp; omega) (w.heap.size + 1) (by simp) ?_; intro gg cap w1 hown1 hgrow hat hlt; have q1 := hgrow.cell_far ⟨p, 1, none⟩ (by simp; omega) ag; have q1f := hgrow.frozen_far ⟨p, 1, none⟩ (by simp; omega) ag; simp at q1 q1f))
  all_goals
    have q2 := hgrow.cell_far ⟨p, 2, none⟩ (by simp; omega) ag
    have q2f := hgrow.frozen_far ⟨p, 2, none⟩ (by simp; omega) ag
    have q3 := hgrow.cell_far ⟨p, 3, none⟩ (by simp; omega) ag
    have q3f := hgrow.frozen_far ⟨p, 3, none⟩ (by simp; omega) ag
    have q4 := hgrow.cell_far ⟨p, 4, none⟩ (by simp; omega) ag
    have q4f := hgrow.frozen_far ⟨p, 4, none⟩ (by simp; omega) ag
    simp at q2 q2f q3 q3f q4 q4f
    have Hg := Lib.hid hgrow
    clear hgrow
    have Ho := Lib.hid hown1
    clear hown1
    go_wp2
    go_end0
    exact ⟨rfl, Hcl.out cap gg _ w1 Ho.out Hg.out hat⟩
end Go.Proofs.Ytepacocajnobgaa
