/- Glyphs, lines and rows in memory: the words that the walks over package table and its reference use. -/
import Derived.Test.YtepacocajnobgaaRows
import Derived.WalkKit
import Derived.WalkSpells
import Derived.WalkLawsBesides
import Derived.Deep.AppendLies
import Derived.Deep.RegionHeld3
import Derived.Lib.Hide
namespace Go.Proofs.Ytepacocajnobgaa
open Go.RowKit

/-- A glyph as data. -/
structure Gl where
  text : ByteArray
  wide : Int
  attr : Int
  color : Int
  link : Int

def Gl.cells (g : Gl) : List Value := [.string g.text, .int .i64 g.wide, .int .i64 g.attr, .int .i64 g.color, .int .i64 g.link]
@[reducible] def Gl.val (g : Gl) : Value := .agg #[.string g.text, .int .i64 g.wide, .int .i64 g.attr, .int .i64 g.color, .int .i64 g.link]
def glCells (l : List Gl) : List Value := l.flatMap Gl.cells

theorem glCells_nil : glCells [] = [] := rfl
theorem glCells_append (a b : List Gl) : glCells (a ++ b) = glCells a ++ glCells b := by simp [glCells]
theorem glCells_length (l : List Gl) : (glCells l).length = l.length * 5 := by
  induction l with
  | nil => rfl
  | cons g l ih =>
    show (g.cells ++ glCells l).length = _
    rw [List.length_append, ih]; simp [Gl.cells]; omega

theorem glCells_one (l : List Gl) : ∀ u ∈ glCells l, u.oneCell' = true := by
  intro u hu
  obtain ⟨g, _, hg⟩ := List.mem_flatMap.1 hu
  simp [Gl.cells] at hg
  rcases hg with rfl | rfl | rfl | rfl | rfl <;> rfl

/-- The cells of a row, one glyph behind the other, from a place on. -/
def GlAt (w : World) (b off : Nat) (l : List Gl) : Prop := ∀ k (h : k < l.length),
  w.cell? ⟨b, off + k * 5, none⟩ = some (.string l[k].text) ∧ w.cell? ⟨b, off + k * 5 + 1, none⟩ = some (.int .i64 l[k].wide) ∧
  w.cell? ⟨b, off + k * 5 + 2, none⟩ = some (.int .i64 l[k].attr) ∧ w.cell? ⟨b, off + k * 5 + 3, none⟩ = some (.int .i64 l[k].color) ∧
  w.cell? ⟨b, off + k * 5 + 4, none⟩ = some (.int .i64 l[k].link)

/-- A slice value that reads as a list of glyphs. -/
def GlSl (w : World) (v : Value) (l : List Gl) : Prop :=
  ((∃ a c, v = .slice a 0 c ∧ (a = none → c = 0)) ∧ l = []) ∨ ∃ b off cap, v = .slice (some ⟨b, off, none⟩) l.length cap ∧ GlAt w b off l

theorem glCells_get (l : List Gl) : ∀ k (h : k < l.length),
    (glCells l)[k * 5]? = some (.string l[k].text) ∧ (glCells l)[k * 5 + 1]? = some (.int .i64 l[k].wide) ∧ (glCells l)[k * 5 + 2]? = some (.int .i64 l[k].attr) ∧
    (glCells l)[k * 5 + 3]? = some (.int .i64 l[k].color) ∧ (glCells l)[k * 5 + 4]? = some (.int .i64 l[k].link) := by
  induction l with
  | nil => intro k h; simp at h
  | cons g l ih =>
    intro k h
    have hc : glCells (g :: l) = g.cells ++ glCells l := rfl
    rw [hc]
    cases k with
    | zero => simp [Gl.cells]
    | succ k =>
      have e : (k + 1) * 5 = 5 + k * 5 := by omega
      have hl : g.cells.length = 5 := rfl
      obtain ⟨h0, h1, h2, h3, h4⟩ := ih k (by simpa using h)
      rw [e]
      refine ⟨?_, ?_, ?_, ?_, ?_⟩ <;> (rw [List.getElem?_append_right (by rw [hl]; omega), hl]; simp only [List.getElem_cons_succ])
      · rw [show 5 + k * 5 - 5 = k * 5 by omega]; exact h0
      · rw [show 5 + k * 5 + 1 - 5 = k * 5 + 1 by omega]; exact h1
      · rw [show 5 + k * 5 + 2 - 5 = k * 5 + 2 by omega]; exact h2
      · rw [show 5 + k * 5 + 3 - 5 = k * 5 + 3 by omega]; exact h3
      · rw [show 5 + k * 5 + 4 - 5 = k * 5 + 4 by omega]; exact h4

/-- Cells as a list, read back as glyphs. -/
theorem glAt_of_cells {w : World} {b off : Nat} {l : List Gl} (h : ∀ j u, (glCells l)[j]? = some u → w.cell? ⟨b, off + j, none⟩ = some u) : GlAt w b off l := by
  intro k hk
  obtain ⟨h0, h1, h2, h3, h4⟩ := glCells_get l k hk
  exact ⟨h _ _ h0, h _ _ h1, h _ _ h2, h _ _ h3, h _ _ h4⟩

theorem glAt_cells {w : World} {b off : Nat} {l : List Gl} (H : GlAt w b off l) : ∀ j u, (glCells l)[j]? = some u → w.cell? ⟨b, off + j, none⟩ = some u := by
  intro j u hu
  have hj : j < l.length * 5 := by
    rw [← glCells_length]; exact (List.getElem?_eq_some_iff.1 hu).1
  have hk : j / 5 < l.length := by omega
  obtain ⟨h0, h1, h2, h3, h4⟩ := glCells_get l (j / 5) hk
  obtain ⟨c0, c1, c2, c3, c4⟩ := H (j / 5) hk
  have hm : j % 5 < 5 := Nat.mod_lt _ (by omega)
  have e := Nat.div_add_mod j 5
  rcases (by omega : j % 5 = 0 ∨ j % 5 = 1 ∨ j % 5 = 2 ∨ j % 5 = 3 ∨ j % 5 = 4) with h | h | h | h | h
  · have ej : j = j / 5 * 5 := by omega
    rw [ej] at hu ⊢; rw [h0] at hu; cases hu; exact c0
  · have ej : j = j / 5 * 5 + 1 := by omega
    rw [ej] at hu ⊢; rw [h1] at hu; cases hu; exact c1
  · have ej : j = j / 5 * 5 + 2 := by omega
    rw [ej] at hu ⊢; rw [h2] at hu; cases hu; exact c2
  · have ej : j = j / 5 * 5 + 3 := by omega
    rw [ej] at hu ⊢; rw [h3] at hu; cases hu; exact c3
  · have ej : j = j / 5 * 5 + 4 := by omega
    rw [ej] at hu ⊢; rw [h4] at hu; cases hu; exact c4

theorem add_none (b o j : Nat) : (⟨b, o, none⟩ : Addr).add j = ⟨b, o + j, none⟩ := by unfold Addr.add; split <;> simp_all
theorem GlAt.adds {w : World} {b off : Nat} {l : List Gl} (H : GlAt w b off l) : ∀ j u, (glCells l)[j]? = some u → w.cell? ((⟨b, off, none⟩ : Addr).add j) = some u := fun j u hu => by
  rw [add_none]; exact glAt_cells H j u hu

theorem GlAt.lt {w : World} {b off : Nat} {l : List Gl} (H : GlAt w b off l) (h : 0 < l.length) : b < w.heap.size :=
  World.block_lt_of_cell? w _ (H 0 h).1

theorem GlAt.same {w w' : World} {b off : Nat} {l : List Gl} (H : GlAt w b off l) (h : w'.heap[b]? = w.heap[b]?) : GlAt w' b off l := by
  intro k hk
  obtain ⟨c0, c1, c2, c3, c4⟩ := H k hk
  have e : ∀ o, w'.cell? ⟨b, o, none⟩ = w.cell? ⟨b, o, none⟩ := fun o => World.cell?_of_block (a := ⟨b, o, none⟩) h
  simp only [e]
  exact ⟨c0, c1, c2, c3, c4⟩

theorem GlSl.same {w w' : World} {v : Value} {l : List Gl} (H : GlSl w v l) (h : ∀ b, v.ownBlock = some b → b < w.heap.size → w'.heap[b]? = w.heap[b]?) : GlSl w' v l := by
  rcases H with H | ⟨b, off, cap, rfl, hat⟩
  · exact .inl H
  · refine .inr ⟨b, off, cap, rfl, ?_⟩
    by_cases h0 : 0 < l.length
    · exact hat.same (h b rfl (hat.lt h0))
    · intro k hk; omega

theorem GlSl.below {w w' : World} {B : Nat} {v : Value} {l : List Gl} (H : GlSl w v l) (hb : Below B w w') (h : ∀ b, v.ownBlock = some b → b < w.heap.size → b < B) : GlSl w' v l :=
  H.same fun b hb1 hb2 => hb.block b (h b hb1 hb2)

theorem GlSl.new {w w' : World} {v : Value} {l : List Gl} (H : GlSl w v l) (hb : Below w.heap.size w w') : GlSl w' v l := H.below hb fun _ _ h => h

theorem bcell {W w1 : World} (hb : Below W.heap.size W w1) : (∀ b o, b < W.heap.size → w1.cell? ⟨b, o, none⟩ = W.cell? ⟨b, o, none⟩) ∧ (∀ b o, b < W.heap.size → w1.frozen? ⟨b, o, none⟩ = W.frozen? ⟨b, o, none⟩) :=
  ⟨fun b o h => hb.cell (p := ⟨b, o, none⟩) h, fun b o h => hb.frozen (p := ⟨b, o, none⟩) h⟩

theorem two_new (w : World) (o1 o2 : Obj) : ((w.alloc o1).alloc o2).heap[w.heap.size + 1]? = some o2 := by
  have := heap_alloc_new (w.alloc o1) o2
  simpa using this

theorem setCell_heap {w : World} {b i : Nat} {c : Array Value} {t : TypeId} {fr : Nat × Nat} (h : w.heap[b]? = some (.cells c t fr)) (v : Value) :
    (w.setCell ⟨b, i, none⟩ v).heap[b]? = some (.cells (c.setIfInBounds i v) t fr) := by
  simp only [World.setCell, Array.getElem?_modify, if_pos, h]; rfl

theorem owns_slice {w : World} {base : Nat} {e : TypeId} {size : Nat} {v : Value} {n : Nat} {xs : List Value} (h : w.ownsRow base e size v n xs) : ∃ a m c, v = .slice a m c := by
  rcases h.2 with ⟨rfl, _⟩ | ⟨g, cap, cur, rfl, _⟩
  · exact ⟨_, _, _, rfl⟩
  · exact ⟨_, _, _, rfl⟩

/-- What the call has changed of what was there: only blocks of F; F' is what it has now: blocks of F or new ones. -/
structure Ev (F : Nat → Prop) (w : World) (F' : Nat → Prop) (w' : World) : Prop where
  os : w'.os = w.os
  tape : w'.tape = w.tape
  output : w'.output = w.output
  size : w.heap.size ≤ w'.heap.size
  block : ∀ k, k < w.heap.size → ¬ F k → w'.heap[k]? = w.heap[k]?
  foot : ∀ k, F' k → F k ∨ w.heap.size ≤ k

theorem Ev.trans {F F' F'' : Nat → Prop} {a b c : World} (h : Ev F a F' b) (k : Ev F' b F'' c) : Ev F a F'' c :=
  ⟨k.os.trans h.os, k.tape.trans h.tape, k.output.trans h.output, Nat.le_trans h.size k.size,
   fun i hi hF => (k.block i (Nat.lt_of_lt_of_le hi h.size) (fun hF' => by rcases h.foot i hF' with h1 | h1; exact hF h1; omega)).trans (h.block i hi hF),
   fun i hi => by
    rcases k.foot i hi with h1 | h1
    · exact h.foot i h1
    · exact .inr (Nat.le_trans h.size h1)⟩

theorem Ev.refl (F : Nat → Prop) (w : World) : Ev F w F w := ⟨rfl, rfl, rfl, Nat.le_refl _, fun _ _ _ => rfl, fun _ h => .inl h⟩
theorem Ev.alloc {F F' : Nat → Prop} {a w : World} (h : Ev F a F' w) (o : Obj) : Ev F a F' (w.alloc o) :=
  ⟨h.os, h.tape, h.output, Nat.le_trans h.size (by simp), fun k hk hF => (Below.heap_alloc _ _ _ (Nat.lt_of_lt_of_le hk h.size)).trans (h.block k hk hF), h.foot⟩
theorem Ev.drew {F F' : Nat → Prop} {a w : World} (h : Ev F a F' w) : Ev F a F' w.drew := ⟨h.os, h.tape, h.output, h.size, h.block, h.foot⟩
theorem Ev.setCell {F F' : Nat → Prop} {a w : World} (h : Ev F a F' w) {p : Addr} (hp : F' p.block ∨ a.heap.size ≤ p.block) (u : Value) : Ev F a F' (w.setCell p u) :=
  ⟨h.os, h.tape, h.output, by simp only [World.setCell, Array.size_modify]; exact h.size, fun k hk hF => (Below.heap_setCell _ _ _ _ (fun e => by
    subst e; rcases hp with hp | hp
    · rcases h.foot _ hp with h1 | h1
      · exact hF h1
      · omega
    · omega)).trans (h.block k hk hF), h.foot⟩
theorem Ev.grown {F F' : Nat → Prop} {a w w' : World} {row : Option Nat} (h : Ev F a F' w) (hg : w.grownBy w' row) (hr : ∀ k, row = some k → F' k ∨ a.heap.size ≤ k) : Ev F a F' w' :=
  ⟨hg.os.trans h.os, hg.tape.trans h.tape, hg.output.trans h.output, Nat.le_trans h.size hg.size, fun k hk hF => (hg.block k (Nat.lt_of_lt_of_le hk h.size) (fun e => by
    rcases hr k e.symm with hp | hp
    · rcases h.foot _ hp with h1 | h1
      · exact hF h1
      · omega
    · omega)).trans (h.block k hk hF), h.foot⟩
theorem Ev.below {F F' : Nat → Prop} {a w w' : World} (h : Ev F a F' w) (hb : Below w.heap.size w w') : Ev F a F' w' :=
  ⟨hb.os.trans h.os, hb.tape.trans h.tape, hb.output.trans h.output, Nat.le_trans h.size hb.size, fun k hk hF => (hb.block k (Nat.lt_of_lt_of_le hk h.size)).trans (h.block k hk hF), h.foot⟩
theorem Ev.widen {F F' F'' : Nat → Prop} {a w : World} (h : Ev F a F' w) (hw : ∀ k, F'' k → F' k ∨ a.heap.size ≤ k) : Ev F a F'' w :=
  ⟨h.os, h.tape, h.output, h.size, h.block, fun k hk => by
    rcases hw k hk with h1 | h1
    · exact h.foot k h1
    · exact .inr h1⟩
theorem Ev.or {F F' : Nat → Prop} {a w : World} (h : Ev F a F' w) (P : Nat → Prop) : Ev (fun b => F b ∨ P b) a (fun b => F' b ∨ P b) w :=
  ⟨h.os, h.tape, h.output, h.size, fun k hk hF => h.block k hk fun h1 => hF (.inl h1), fun k hk => by
    rcases hk with h1 | h1
    · rcases h.foot k h1 with h2 | h2
      · exact .inl (.inl h2)
      · exact .inr h2
    · exact .inl (.inr h1)⟩
/-- Below a bound that no block of F lies under nothing has turned. -/
theorem Ev.toBelow {F F' : Nat → Prop} {a w : World} (h : Ev F a F' w) {B : Nat} (hB : B ≤ a.heap.size) (hF : ∀ k, F k → B ≤ k) : Below B a w :=
  ⟨h.os, h.tape, h.output, h.size, fun k hk => h.block k (by omega) (fun hk' => by have := hF k hk'; omega)⟩

theorem bget_block {w w' : World} {e : TypeId} {B size n : Nat} {v : Value} {xs : List Value} (h : w.ownsRow B e size v n xs)
    (hs : ∀ b, v.ownBlock = some b → w'.heap[b]? = w.heap[b]?) : w'.ownsRow B e size v n xs := by
  refine ⟨h.1, ?_⟩
  rcases h.2 with hn | ⟨g, cap, cur, rfl, hb, hgg, rest⟩
  · exact .inl hn
  · exact .inr ⟨g, cap, cur, rfl, hb, by rw [hs g rfl]; exact hgg, rest⟩

/-- A row of glyphs that is owned reads as a slice of glyphs. -/
theorem glSl_of_owns {w : World} {B : Nat} {v : Value} {l : List Gl} (h : w.ownsRow B 49 5 v l.length (glCells l)) : GlSl w v l := by
  rcases h.2 with ⟨rfl, h0⟩ | ⟨g, cap, cur, rfl, hb, hgg, rest⟩
  · exact .inl ⟨⟨none, 0, rfl, fun _ => rfl⟩, List.eq_nil_of_length_eq_zero h0⟩
  · refine .inr ⟨g, 0, cap, rfl, glAt_of_cells fun j u hu => ?_⟩
    have := h.cells (g := g) rfl j u hu
    have hadd : (⟨g, 0, none⟩ : Addr).add j = ⟨g, j, none⟩ := by unfold Addr.add; split <;> simp_all
    rw [hadd] at this
    rw [Nat.zero_add]; exact this

/-- A slice that has its room. -/
def CapOk (v : Value) : Prop := ∀ a n c, v = .slice a n c → n ≤ c ∧ c ≤ 9223372036854775807
theorem capOk_of_owns {w : World} {B : Nat} {e : TypeId} {size n : Nat} {v : Value} {xs : List Value} (h : w.ownsRow B e size v n xs) : CapOk v := by
  intro a n' c he
  rcases h.2 with ⟨rfl, _⟩ | ⟨g, cap, cur, rfl, _, _, h2, h3, _⟩
  · injection he with e1 e2 e3; subst e2 e3; exact ⟨Nat.le_refl _, by omega⟩
  · injection he with e1 e2 e3; subst e2 e3; unfold maxLen at h3; exact ⟨h2, h3⟩
/-- Finished lines: each reads as its glyphs, in a block that N allows. -/
def Lines (w : World) (N : Nat → Prop) : List Value → List (List Gl) → Prop
  | [], [] => True
  | v :: vs, l :: ll => ((GlSl w v l ∧ CapOk v) ∧ ∀ b, v.ownBlock = some b → N b ∧ b < w.heap.size) ∧ Lines w N vs ll
  | _, _ => False

theorem Lines.same {w w' : World} {N N' : Nat → Prop} (hs : w.heap.size ≤ w'.heap.size) (h : ∀ b, N b → b < w.heap.size → w'.heap[b]? = w.heap[b]?) (hN : ∀ b, N b → b < w.heap.size → N' b) :
    ∀ {vs : List Value} {ll : List (List Gl)}, Lines w N vs ll → Lines w' N' vs ll
  | [], [], _ => trivial
  | _ :: _, _ :: _, ⟨⟨⟨h1, hc⟩, h2⟩, h3⟩ => ⟨⟨⟨h1.same fun b hb hlt => h b (h2 b hb).1 hlt, hc⟩, fun b hb => ⟨hN b (h2 b hb).1 (h2 b hb).2, Nat.lt_of_lt_of_le (h2 b hb).2 hs⟩⟩, Lines.same hs h hN h3⟩
  | [], _ :: _, h => h.elim
  | _ :: _, [], h => h.elim
theorem Lines.length {w : World} {N : Nat → Prop} : ∀ {vs : List Value} {ll : List (List Gl)}, Lines w N vs ll → vs.length = ll.length
  | [], [], _ => rfl
  | _ :: _, _ :: _, ⟨_, h3⟩ => by simp [Lines.length h3]
  | [], _ :: _, h => h.elim
  | _ :: _, [], h => h.elim
theorem Lines.snoc {w : World} {N : Nat → Prop} {v : Value} {l : List Gl} (hv : GlSl w v l) (hc : CapOk v) (hb : ∀ b, v.ownBlock = some b → N b ∧ b < w.heap.size) : ∀ {vs : List Value} {ll : List (List Gl)}, Lines w N vs ll → Lines w N (vs ++ [v]) (ll ++ [l])
  | [], [], _ => ⟨⟨⟨hv, hc⟩, hb⟩, trivial⟩
  | _ :: _, _ :: _, ⟨h1, h3⟩ => ⟨h1, Lines.snoc hv hc hb h3⟩
  | [], _ :: _, h => h.elim
  | _ :: _, [], h => h.elim
theorem Lines.get {w : World} {N : Nat → Prop} : ∀ {vs : List Value} {ll : List (List Gl)}, Lines w N vs ll → ∀ k (h : k < vs.length) (h' : k < ll.length), GlSl w vs[k] ll[k] ∧ ∀ b, vs[k].ownBlock = some b → N b ∧ b < w.heap.size
  | [], [], _, k, h, _ => by simp at h
  | _ :: _, _ :: _, ⟨h1, h3⟩, k, h, h' => by
    cases k with
    | zero => exact ⟨h1.1.1, h1.2⟩
    | succ k => exact Lines.get h3 k (by simpa using h) (by simpa using h')
  | [], _ :: _, h, _, _, _ => h.elim
  | _ :: _, [], h, _, _, _ => h.elim

theorem Lines.cap {w : World} {N : Nat → Prop} : ∀ {vs : List Value} {ll : List (List Gl)}, Lines w N vs ll → ∀ k (h : k < vs.length), CapOk vs[k]
  | [], [], _, k, h => by simp at h
  | _ :: _, _ :: _, ⟨h1, h3⟩, k, h => by
    cases k with
    | zero => exact h1.1.2
    | succ k => exact Lines.cap h3 k (by simpa using h)
  | [], _ :: _, h, _, _ => h.elim
  | _ :: _, [], h, _, _ => h.elim

/-- The state of a filler: the lines that were told, the line, its width, what waits. -/
structure St where
  out : List (List Gl)
  line : List Gl
  at_ : Int
  waits : List Gl

/-- What waits: a slice that is full. -/
def Wait (w : World) (v : Value) (l : List Gl) : Prop :=
  ∃ ao : Option Addr, v = .slice ao l.length l.length ∧ (ao = none → l = []) ∧ ∀ b, ao = some b → (b.block < w.heap.size ∧ ∀ j u, (glCells l)[j]? = some u → w.cell? (b.add j) = some u) ∧ b.off = 0 ∧ b.spot = none
theorem Wait.same {w w' : World} {v : Value} {l : List Gl} (h : Wait w v l) (hs : w.heap.size ≤ w'.heap.size) (hb : ∀ b, v.ownBlock = some b → b < w.heap.size → w'.heap[b]? = w.heap[b]?) : Wait w' v l := by
  obtain ⟨ao, rfl, h1, h2⟩ := h
  refine ⟨ao, rfl, h1, fun b e => ?_⟩
  subst e
  obtain ⟨⟨h3, h4⟩, h5⟩ := h2 b rfl
  refine ⟨⟨Nat.lt_of_lt_of_le h3 hs, fun j u hu => ?_⟩, h5⟩
  have hblk : (b.add j).block = b.block := by unfold Addr.add; split <;> rfl
  rw [World.cell?_of_block (w := w) (by rw [hblk]; exact hb b.block rfl h3)]
  exact h4 j u hu
theorem Wait.nil (w : World) : Wait w (.slice none 0 0) [] := ⟨none, rfl, fun _ => rfl, fun _ h => by cases h⟩
theorem Wait.lt {w : World} {v : Value} {l : List Gl} (h : Wait w v l) (b : Nat) (hb : v.ownBlock = some b) : b < w.heap.size := by
  obtain ⟨ao, rfl, h1, h2⟩ := h
  cases ao with
  | none => simp [Value.ownBlock] at hb
  | some a => simp [Value.ownBlock] at hb; subst hb; exact (h2 a rfl).1.1

/-- A filler's rows in memory: p its struct's block; F: the blocks that it may write or relies on. -/
structure Fil (w : World) (B p : Nat) (vout vline vwaits : Value) (vs : List Value) (out : List (List Gl)) (line waits : List Gl) (F : Nat → Prop) : Prop where
  base : B ≤ p ∧ F p ∧ p < w.heap.size
  lineO : w.ownsRow B 49 5 vline line.length (glCells line)
  lineF : ∀ b, vline.ownBlock = some b → F b ∧ b ≠ p
  outO : w.ownsRow B 22 1 vout out.length vs
  outF : ∀ b, vout.ownBlock = some b → F b ∧ b ≠ p
  fin : Lines w (fun b => F b ∧ B ≤ b ∧ b ≠ p ∧ vline.ownBlock ≠ some b ∧ vout.ownBlock ≠ some b) vs out
  waitsO : Wait w vwaits waits
  waitsF : ∀ b, vwaits.ownBlock = some b → F b ∧ b ≠ p ∧ vline.ownBlock ≠ some b ∧ vout.ownBlock ≠ some b
  apart : ∀ b, vline.ownBlock = some b → vout.ownBlock ≠ some b
  dom : ∀ b, F b → b < w.heap.size

section
variable {w w' : World} {B p : Nat} {vout vline vwaits : Value} {vs : List Value} {out : List (List Gl)} {line waits : List Gl} {F : Nat → Prop}
/-- All that the rows rely on, but the struct itself, is as it was. -/
theorem Fil.same (H : Fil w B p vout vline vwaits vs out line waits F) (hs : w.heap.size ≤ w'.heap.size) (h : ∀ b, F b → b ≠ p → b < w.heap.size → w'.heap[b]? = w.heap[b]?) : Fil w' B p vout vline vwaits vs out line waits F := by
  have ow : ∀ {e size v n xs}, w.ownsRow B e size v n xs → (∀ b, v.ownBlock = some b → F b ∧ b ≠ p) → w'.ownsRow B e size v n xs := fun h1 h2 =>
    bget_block h1 fun b hb => h b (h2 b hb).1 (h2 b hb).2 (h1.lt b hb).2
  exact ⟨⟨H.base.1, H.base.2.1, Nat.lt_of_lt_of_le H.base.2.2 hs⟩, ow H.lineO H.lineF, H.lineF, ow H.outO H.outF, H.outF,
    H.fin.same hs (fun b hb hlt => h b hb.1 hb.2.2.1 hlt) (fun _ hb _ => hb), H.waitsO.same hs (fun b hb hlt => h b (H.waitsF b hb).1 (H.waitsF b hb).2.1 hlt), H.waitsF, H.apart, fun b hb => Nat.lt_of_lt_of_le (H.dom b hb) hs⟩
theorem Fil.alloc (H : Fil w B p vout vline vwaits vs out line waits F) (o : Obj) : Fil (w.alloc o) B p vout vline vwaits vs out line waits F :=
  H.same (by simp) fun b _ _ hlt => Below.heap_alloc _ _ _ hlt
theorem Fil.drew (H : Fil w B p vout vline vwaits vs out line waits F) : Fil w.drew B p vout vline vwaits vs out line waits F := H.same (Nat.le_refl _) fun _ _ _ _ => rfl
theorem Fil.below (H : Fil w B p vout vline vwaits vs out line waits F) (hb : Below w.heap.size w w') : Fil w' B p vout vline vwaits vs out line waits F :=
  H.same hb.size fun b _ _ hlt => hb.block b hlt
theorem Fil.setp (H : Fil w B p vout vline vwaits vs out line waits F) (off : Nat) (u : Value) : Fil (w.setCell ⟨p, off, none⟩ u) B p vout vline vwaits vs out line waits F :=
  H.same (by simp [World.setCell]) fun b _ hne _ => Below.heap_setCell _ _ _ _ hne
/-- What waits is dropped, or set. -/
theorem Fil.wait (H : Fil w B p vout vline vwaits vs out line waits F) {v : Value} {l : List Gl} (h : Wait w v l) (hb : ∀ b, v.ownBlock = some b → F b ∧ b ≠ p ∧ vline.ownBlock ≠ some b ∧ vout.ownBlock ≠ some b) :
    Fil w B p vout vline v vs out line l F := ⟨H.base, H.lineO, H.lineF, H.outO, H.outF, H.fin, h, hb, H.apart, H.dom⟩
theorem Fil.noWait (H : Fil w B p vout vline vwaits vs out line waits F) : Fil w B p vout vline (.slice none 0 0) vs out line [] F :=
  H.wait (Wait.nil w) fun b hb => by simp [Value.ownBlock] at hb
/-- Behind an append to the line. -/
theorem Fil.lined (H : Fil w B p vout vline vwaits vs out line waits F) {line' : List Gl} {gg cap : Nat} (hown : w'.ownsRow B 49 5 (.slice (some ⟨gg, 0, none⟩) line'.length cap) line'.length (glCells line'))
    (hg : w.grownBy w' vline.ownBlock) (hat : vline.ownBlock = some gg ∨ w.heap.size ≤ gg) :
    Fil w' B p vout (.slice (some ⟨gg, 0, none⟩) line'.length cap) vwaits vs out line' waits (fun b => F b ∨ b = gg) := by
  have hp : gg ≠ p := by
    rcases hat with h | h
    · exact (H.lineF _ h).2
    · have := H.base.2.2; omega
  have old : ∀ b, b < w.heap.size → vline.ownBlock ≠ some b → b ≠ gg := fun b hb hne e => by
    subst e; rcases hat with h | h
    · exact hne h
    · omega
  have ho : ∀ b, vout.ownBlock = some b → b ≠ gg := fun b hb => old b (H.outO.lt b hb).2 fun e => H.apart b e hb
  refine ⟨⟨H.base.1, .inl H.base.2.1, Nat.lt_of_lt_of_le H.base.2.2 hg.size⟩, hown, ?_, ?_, fun b hb => ⟨.inl (H.outF b hb).1, (H.outF b hb).2⟩, ?_, ?_, ?_, ?_, ?_⟩
  · intro b hb; simp [Value.ownBlock] at hb; subst hb; exact ⟨.inr rfl, hp⟩
  · exact bget_block H.outO fun b hb => hg.block b (H.outO.lt b hb).2 fun e => H.apart b e.symm hb
  · refine H.fin.same hg.size (fun b hb hlt => hg.block b hlt fun e => hb.2.2.2.1 e.symm) fun b hb hlt => ⟨.inl hb.1, hb.2.1, hb.2.2.1, ?_, hb.2.2.2.2⟩
    simp [Value.ownBlock]; exact fun e => old b hlt hb.2.2.2.1 e.symm
  · exact H.waitsO.same hg.size fun b hb hlt => hg.block b hlt fun e => (H.waitsF b hb).2.2.1 e.symm
  · intro b hb
    refine ⟨.inl (H.waitsF b hb).1, (H.waitsF b hb).2.1, ?_, (H.waitsF b hb).2.2.2⟩
    simp [Value.ownBlock]; exact fun e => old b (H.waitsO.lt b hb) (H.waitsF b hb).2.2.1 e.symm
  · intro b hb e; simp [Value.ownBlock] at hb; subst hb; exact ho _ e rfl
  · rintro b (hb | rfl)
    · exact Nat.lt_of_lt_of_le (H.dom b hb) hg.size
    · exact (hown.lt _ rfl).2
/-- Behind an append of the line to the lines. -/
theorem Fil.told (H : Fil w B p vout vline vwaits vs out line waits F) {n gg cap : Nat} (hown : w'.ownsRow B 22 1 (.slice (some ⟨gg, 0, none⟩) n cap) n (vs ++ [vline])) (hn : n = out.length + 1)
    (hg : w.grownBy w' vout.ownBlock) (hat : vout.ownBlock = some gg ∨ w.heap.size ≤ gg) :
    Fil w' B p (.slice (some ⟨gg, 0, none⟩) n cap) (.slice none 0 0) (.slice none 0 0) (vs ++ [vline]) (out ++ [line]) [] [] (fun b => F b ∨ b = gg) := by
  have hp : gg ≠ p := by
    rcases hat with h | h
    · exact (H.outF _ h).2
    · have := H.base.2.2; omega
  have old : ∀ b, b < w.heap.size → vout.ownBlock ≠ some b → b ≠ gg := fun b hb hne e => by
    subst e; rcases hat with h | h
    · exact hne h
    · omega
  subst hn
  have hl : (out ++ [line]).length = out.length + 1 := by simp
  have hline : GlSl w' vline line := (glSl_of_owns H.lineO).same fun b hb hlt => hg.block b hlt fun e => H.apart b hb e.symm
  refine ⟨⟨H.base.1, .inl H.base.2.1, Nat.lt_of_lt_of_le H.base.2.2 hg.size⟩, World.ownsRow_nil _ _ _ _, fun b hb => by simp [Value.ownBlock] at hb, by rw [hl]; exact hown,
    ?_, ?_, Wait.nil _, fun b hb => by simp [Value.ownBlock] at hb, fun b hb => by simp [Value.ownBlock] at hb, ?_⟩
  · intro b hb; simp [Value.ownBlock] at hb; subst hb; exact ⟨.inr rfl, hp⟩
  · refine Lines.snoc hline (capOk_of_owns H.lineO) ?_ (H.fin.same hg.size (fun b hb hlt => hg.block b hlt fun e => hb.2.2.2.2 e.symm) fun b hb hlt => ⟨.inl hb.1, hb.2.1, hb.2.2.1, by simp [Value.ownBlock], ?_⟩)
    · intro b hb
      have h1 := H.lineF b hb
      have h2 := H.lineO.lt b hb
      refine ⟨⟨.inl h1.1, h2.1, h1.2, by simp [Value.ownBlock], ?_⟩, Nat.lt_of_lt_of_le h2.2 hg.size⟩
      simp [Value.ownBlock]; exact fun e => old b h2.2 (H.apart b hb) e.symm
    · simp [Value.ownBlock]; exact fun e => old b hlt hb.2.2.2.2 e.symm
  · rintro b (hb | rfl)
    · exact Nat.lt_of_lt_of_le (H.dom b hb) hg.size
    · exact (hown.lt _ rfl).2
end

end Go.Proofs.Ytepacocajnobgaa
