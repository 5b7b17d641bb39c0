/- The frame that the walks use: what a call has changed of what was there lies in F; what it has now lies in F or is new. -/
import Derived.Test.YthpbdeiphagkiaaGreatDoorBase
namespace Go.Proofs.YthpbdeiphagkiaaGreatDoor
open Go.RowKit

structure Ev (F : Nat → Prop) (w : World) (F' : Nat → Prop) (w' : World) : Prop where
  os : w'.os = w.os
  tape : w'.tape = w.tape
  output : w'.output = w.output
  size : w.heap.size ≤ w'.heap.size
  block : ∀ k, k < w.heap.size → ¬ F k → w'.heap[k]? = w.heap[k]?
  foot : ∀ k, F' k → F k ∨ w.heap.size ≤ k

theorem Ev.trans {F F' F'' : Nat → Prop} {a b c : World} (h : Ev F a F' b) (k : Ev F' b F'' c) : Ev F a F'' c :=
  ⟨k.os.trans h.os, k.tape.trans h.tape, k.output.trans h.output, Nat.le_trans h.size k.size,
   fun i hi hF => (k.block i (Nat.lt_of_lt_of_le hi h.size) (fun hF' => by rcases h.foot i hF' with h1 | h1; exact hF h1; omega)).trans (h.block i hi hF),
   fun i hi => by
    rcases k.foot i hi with h1 | h1
    · exact h.foot i h1
    · exact .inr (Nat.le_trans h.size h1)⟩
theorem Ev.refl (F : Nat → Prop) (w : World) : Ev F w F w := ⟨rfl, rfl, rfl, Nat.le_refl _, fun _ _ _ => rfl, fun _ h => .inl h⟩
theorem Ev.alloc {F F' : Nat → Prop} {a w : World} (h : Ev F a F' w) (o : Obj) : Ev F a F' (w.alloc o) :=
  ⟨h.os, h.tape, h.output, Nat.le_trans h.size (by simp), fun k hk hF => (Below.heap_alloc _ _ _ (Nat.lt_of_lt_of_le hk h.size)).trans (h.block k hk hF), h.foot⟩
theorem Ev.drew {F F' : Nat → Prop} {a w : World} (h : Ev F a F' w) : Ev F a F' w.drew := ⟨h.os, h.tape, h.output, h.size, h.block, h.foot⟩
theorem Ev.drewN {F F' : Nat → Prop} {a w : World} (h : Ev F a F' w) (n : Nat) : Ev F a F' (w.drewN n) := ⟨h.os, h.tape, h.output, h.size, h.block, h.foot⟩
theorem Ev.put {F F' : Nat → Prop} {a w : World} (h : Ev F a F' w) {b : Nat} (hp : F' b ∨ a.heap.size ≤ b) (f : Obj → Obj) : Ev F a F' { w with heap := w.heap.modify b f } :=
  ⟨h.os, h.tape, h.output, by simp only [Array.size_modify]; exact h.size, fun k hk hF => (by
    have : b ≠ k := fun e => by
      subst e
      rcases hp with hp | hp
      · rcases h.foot _ hp with h1 | h1
        · exact hF h1
        · omega
      · omega
    simp only [Array.getElem?_modify, if_neg this]
    exact h.block k hk hF), h.foot⟩
theorem Ev.setCell {F F' : Nat → Prop} {a w : World} (h : Ev F a F' w) {p : Addr} (hp : F' p.block ∨ a.heap.size ≤ p.block) (u : Value) : Ev F a F' (w.setCell p u) :=
  ⟨h.os, h.tape, h.output, by simp only [World.setCell, Array.size_modify]; exact h.size, fun k hk hF => (Below.heap_setCell _ _ _ _ (fun e => by
    subst e; rcases hp with hp | hp
    · rcases h.foot _ hp with h1 | h1
      · exact hF h1
      · omega
    · omega)).trans (h.block k hk hF), h.foot⟩
theorem Ev.grown {F F' : Nat → Prop} {a w w' : World} {row : Option Nat} (h : Ev F a F' w) (hg : w.grownBy w' row) (hr : ∀ k, row = some k → F' k ∨ a.heap.size ≤ k) : Ev F a F' w' :=
  ⟨hg.os.trans h.os, hg.tape.trans h.tape, hg.output.trans h.output, Nat.le_trans h.size hg.size, fun k hk hF => (hg.block k (Nat.lt_of_lt_of_le hk h.size) (fun e => by
    rcases hr k e.symm with hp | hp
    · rcases h.foot _ hp with h1 | h1
      · exact hF h1
      · omega
    · omega)).trans (h.block k hk hF), h.foot⟩
theorem Ev.below {F F' : Nat → Prop} {a w w' : World} (h : Ev F a F' w) (hb : Below w.heap.size w w') : Ev F a F' w' :=
  ⟨hb.os.trans h.os, hb.tape.trans h.tape, hb.output.trans h.output, Nat.le_trans h.size hb.size, fun k hk hF => (hb.block k (Nat.lt_of_lt_of_le hk h.size)).trans (h.block k hk hF), h.foot⟩
/-- The footprint that is left: any that lies in what was there or is new. -/
theorem Ev.now {F F' F'' : Nat → Prop} {a w : World} (h : Ev F a F' w) (hw : ∀ k, F'' k → F' k ∨ a.heap.size ≤ k) : Ev F a F'' w :=
  ⟨h.os, h.tape, h.output, h.size, h.block, fun k hk => by
    rcases hw k hk with h1 | h1
    · exact h.foot k h1
    · exact .inr h1⟩
/-- A wider footprint from the first. -/
theorem Ev.wide {F F' G : Nat → Prop} {a w : World} (h : Ev F a F' w) (hw : ∀ k, F k → G k) : Ev G a F' w :=
  ⟨h.os, h.tape, h.output, h.size, fun k hk hG => h.block k hk fun hF => hG (hw k hF), fun k hk => (h.foot k hk).imp_left (hw k)⟩
/-- Below a bound that no block of F lies under nothing has turned. -/
theorem Ev.toBelow {F F' : Nat → Prop} {a w : World} (h : Ev F a F' w) {B : Nat} (hB : B ≤ a.heap.size) (hF : ∀ k, F k → B ≤ k) : Below B a w :=
  ⟨h.os, h.tape, h.output, h.size, fun k hk => h.block k (by omega) (fun hk' => by have := hF k hk'; omega)⟩
/-- Of nothing that was there. -/
theorem Ev.of_below {w w' : World} (h : Below w.heap.size w w') (F : Nat → Prop) : Ev F w F w' := ((Ev.refl F w).below h)
theorem Ev.cell {F F' : Nat → Prop} {a w : World} (h : Ev F a F' w) {b o : Nat} (hb : b < a.heap.size) (hF : ¬ F b) : w.cell? ⟨b, o, none⟩ = a.cell? ⟨b, o, none⟩ :=
  World.cell?_of_block (a := ⟨b, o, none⟩) (h.block b hb hF)
theorem Ev.frozen {F F' : Nat → Prop} {a w : World} (h : Ev F a F' w) {b o : Nat} (hb : b < a.heap.size) (hF : ¬ F b) : w.frozen? ⟨b, o, none⟩ = a.frozen? ⟨b, o, none⟩ :=
  World.frozen?_of_block (a := ⟨b, o, none⟩) (h.block b hb hF)

theorem setCell_heap {w : World} {b i : Nat} {c : Array Value} {t : TypeId} {fr : Nat × Nat} (h : w.heap[b]? = some (.cells c t fr)) (v : Value) :
    (w.setCell ⟨b, i, none⟩ v).heap[b]? = some (.cells (c.setIfInBounds i v) t fr) := by
  simp only [World.setCell, Array.getElem?_modify, if_pos, h]; rfl
theorem setCell_heap_ne {w : World} {b k i : Nat} (h : b ≠ k) (v : Value) : (w.setCell ⟨b, i, none⟩ v).heap[k]? = w.heap[k]? := by
  simp only [World.setCell, Array.getElem?_modify, if_neg h]
theorem cell_al {w : World} {p : Addr} {v : Value} (h : w.cell? p = some v) (o : Obj) : (w.alloc o).cell? p = some v := by
  rw [World.cell?_of_block (w := w) (Below.heap_alloc _ _ _ (World.block_lt_of_cell? w _ h))]; exact h
theorem cell_set {w : World} {g o b i : Nat} {v : Value} (h : w.cell? ⟨g, o, none⟩ = some v) (hne : b ≠ g) (u : Value) : (w.setCell ⟨b, i, none⟩ u).cell? ⟨g, o, none⟩ = some v := by
  rw [World.cell?_of_block (w := w) (a := ⟨g, o, none⟩) (setCell_heap_ne hne u)]; exact h
theorem lt_of_heap {w : World} {b : Nat} {o : Obj} (h : w.heap[b]? = some o) : b < w.heap.size := (Array.getElem?_eq_some_iff.1 h).1
end Go.Proofs.YthpbdeiphagkiaaGreatDoor
