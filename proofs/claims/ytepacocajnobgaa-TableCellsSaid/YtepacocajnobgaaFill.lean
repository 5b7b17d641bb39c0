/- Fill of package table. -/
import Derived.Test.YtepacocajnobgaaTab
import Derived.Test.YtepacocajnobgaaCheck
namespace Go.Proofs.Ytepacocajnobgaa
open Go.RowKit
attribute [local go_sem ↓] Go.wp_at_zero Go.wp_at_succ

/-- What Fill has in memory: the variable f (block bf), the variable w (block bw), the filler p. -/
structure Fst (w : World) (B bf bw p : Nat) (wide : Int) (x : St × List Gl) (vw : Value) (F : Nat → Prop) : Prop where
  fv : w.heap[bf]? = some (.cells #[.pointer (some ⟨p, 0, none⟩)] 63 (0, 0))
  wv : w.heap[bw]? = some (.cells #[vw] 22 (0, 0))
  fil : FilP w B p wide x.1 F
  own : w.ownsRow B 49 5 vw x.2.length (glCells x.2)
  bfF : ¬ F bf ∧ B ≤ bf
  bwF : ¬ F bw ∧ B ≤ bw
  vwF : ∀ b, vw.ownBlock = some b → ¬ F b ∧ b ≠ bf ∧ b ≠ bw
  base : ∀ b, F b → B ≤ b
  ne : bf ≠ bw
section
variable {w w' : World} {B bf bw p : Nat} {wide : Int} {x : St × List Gl} {vw : Value} {F : Nat → Prop}
theorem heap_lt {w : World} {b : Nat} {o : Obj} (h : w.heap[b]? = some o) : b < w.heap.size := (Array.getElem?_eq_some_iff.1 h).1
theorem Fst.below (H : Fst w B bf bw p wide x vw F) (hb : Below w.heap.size w w') : Fst w' B bf bw p wide x vw F :=
  ⟨(hb.block _ (heap_lt H.fv)).trans H.fv, (hb.block _ (heap_lt H.wv)).trans H.wv, H.fil.below hb, bget_block H.own fun b h => hb.block b (H.own.lt b h).2, H.bfF, H.bwF, H.vwF, H.base, H.ne⟩
theorem Fst.alloc (H : Fst w B bf bw p wide x vw F) (o : Obj) : Fst (w.alloc o) B bf bw p wide x vw F := H.below ((Below.refl _ _).alloc (Nat.le_refl _) _)
/-- Behind a call on the filler. -/
theorem Fst.post {s' : St} (H : Fst w B bf bw p wide x vw F) (hB : B ≤ w.heap.size) (h : FilPost B p wide s' F w w') : ∃ F', Fst w' B bf bw p wide (s', x.2) vw F' ∧ Ev F w F' w' ∧ Below B w w' := by
  obtain ⟨F', h1, h2⟩ := h
  have keep : ∀ b, ¬ F b → b < w.heap.size → w'.heap[b]? = w.heap[b]? := fun b h3 h4 => h2.block b h4 h3
  have nf : ∀ b, ¬ F b → b < w.heap.size → ¬ F' b := fun b h3 h4 h5 => by
    rcases h2.foot b h5 with h6 | h6
    · exact h3 h6
    · omega
  exact ⟨F', ⟨(keep _ H.bfF.1 (heap_lt H.fv)).trans H.fv, (keep _ H.bwF.1 (heap_lt H.wv)).trans H.wv, h1, bget_block H.own fun b hb => keep b (H.vwF b hb).1 (H.own.lt b hb).2,
    ⟨nf _ H.bfF.1 (heap_lt H.fv), H.bfF.2⟩, ⟨nf _ H.bwF.1 (heap_lt H.wv), H.bwF.2⟩, fun b hb => ⟨nf _ (H.vwF b hb).1 (H.own.lt b hb).2, (H.vwF b hb).2⟩,
    fun b hb => by rcases h2.foot b hb with h6 | h6; exact H.base b h6; omega, H.ne⟩, h2, h2.toBelow hB H.base⟩
/-- The variable w is written. -/
theorem Fst.setw {l : List Gl} {v : Value} (H : Fst w B bf bw p wide x vw F) (hown : w.ownsRow B 49 5 v l.length (glCells l)) (hv : ∀ b, v.ownBlock = some b → ¬ F b ∧ b ≠ bf ∧ b ≠ bw) :
    Fst (w.setCell ⟨bw, 0, none⟩ v) B bf bw p wide (x.1, l) v F := by
  have keep : ∀ b, b ≠ bw → (w.setCell ⟨bw, 0, none⟩ v).heap[b]? = w.heap[b]? := fun b h => Below.heap_setCell _ _ _ _ h
  refine ⟨(keep _ H.ne).trans H.fv, by rw [setCell_heap H.wv]; rfl, ?_, bget_block hown fun b hb => keep b (hv b hb).2.2, H.bfF, H.bwF, hv, H.base, H.ne⟩
  obtain ⟨vout, vline, vwaits, vs, hp, hF⟩ := H.fil
  exact ⟨vout, vline, vwaits, vs, (keep _ (fun e => H.bwF.1 (e ▸ hF.base.2.1))).trans hp, hF.same (by simp [World.setCell]) fun b hb _ _ => keep b fun e => H.bwF.1 (e ▸ hb)⟩
theorem Fst.cells (H : Fst w B bf bw p wide x vw F) : w.cell? ⟨bf, 0, none⟩ = some (.pointer (some ⟨p, 0, none⟩)) ∧ w.cell? ⟨bw, 0, none⟩ = some vw ∧ w.frozen? ⟨bw, 0, none⟩ = false ∧ bf < w.heap.size ∧ bw < w.heap.size ∧
    ∃ a c, vw = .slice a x.2.length c := by
  refine ⟨by simp [World.cell?, H.fv], by simp [World.cell?, H.wv], by simp [World.frozen?, H.wv], heap_lt H.fv, heap_lt H.wv, ?_⟩
  rcases H.own.2 with ⟨rfl, h0⟩ | ⟨g, cap, cur, rfl, _⟩
  · exact ⟨none, 0, by rw [h0]⟩
  · exact ⟨_, _, rfl⟩
end

/-- What flush leaves. -/
def FlushPost (B bf bw p : Nat) (wide : Int) (x : St × List Gl) (vw : Value) (F : Nat → Prop) (w w' : World) : Prop :=
  ∃ vw' F', Fst w' B bf bw p wide (flushS wide x, []) vw' F' ∧ (∀ b, vw'.ownBlock = some b → vw.ownBlock = some b) ∧ Ev (fun b => F b ∨ b = bw) w (fun b => F' b ∨ b = bw) w' ∧ Below B w w'

set_option maxRecDepth 100000 in
set_option maxHeartbeats 3200000 in
theorem flush_any (B bf bw p : Nat) (wide : Int) (x : St × List Gl) (vw : Value) (F : Nat → Prop) (w : World) (H : Fst w B bf bw p wide x vw F) (hB : B ≤ w.heap.size) (k : Nat) (hk : k ≤ 3000000000000) (inv : Inv wide k x)
    (hw : 1 ≤ wide) (hw' : wide ≤ 200) :
    Calls Try.prog 31 #[.pointer (some ⟨bw, 0, none⟩), .pointer (some ⟨bf, 0, none⟩)] w fun e w' => e = .returned (.tuple #[]) ∧ FlushPost B bf bw p wide x vw F w w' := by
  obtain ⟨c0, c1, c2, l1, l2, a, c, rfl⟩ := H.cells
  have HH := Lib.hid H
  clear H
  by_cases h0 : 0 < x.2.length
  · obtain ⟨N, h1, h2, h3⟩ := inv
    go_enter Try.func31, Try.ntmps31
    go_wp2_with fail
    refine (word_any B p wide x.1 F _ HH.out.fil hB N h1 _ x.2 (glSl_of_owns HH.out.own) (fun j b hj hb e => (HH.out.vwF b hb).1 (e ▸ hj)) h2 h0 (by omega) (by omega) hw hw').mono ?_
    rintro e w1 ⟨rfl, hpost⟩
    obtain ⟨F1, hf1, he1, hb1⟩ := HH.out.post hB hpost
    have He1 := Lib.hid ((he1.or (fun b => b = bw)).setCell (p := ⟨bw, 0, none⟩) (.inl (.inr rfl)) (.slice none 0 0))
    clear he1
    obtain ⟨d0, d1, d2, m1, m2, _⟩ := hf1.cells
    have Hf1 := Lib.hid (hf1.setw (l := []) (v := .slice none 0 0) (World.ownsRow_nil _ _ _ _) (fun b hb => by simp [Value.ownBlock] at hb))
    have Hb1 := Lib.hid (hb1.setCell (p := ⟨bw, 0, none⟩) hf1.bwF.2 (.slice none 0 0))
    clear hpost hf1 hb1
    go_wp2
    go_end0
    exact ⟨rfl, _, F1, by unfold flushS; rw [if_pos h0]; exact Hf1.out, fun b hb => by simp [Value.ownBlock] at hb, He1.out, Hb1.out⟩
  · go_enter Try.func31, Try.ntmps31
    go_wp2
    go_end0
    refine ⟨rfl, .slice a x.2.length c, F, ?_, fun _ h => h, Ev.refl _ _, Below.refl _ _⟩
    unfold flushS; rw [if_neg h0]
    have hx : x.2 = [] := List.eq_nil_of_length_eq_zero (by omega)
    rw [← hx]
    exact HH.out
end Go.Proofs.Ytepacocajnobgaa
