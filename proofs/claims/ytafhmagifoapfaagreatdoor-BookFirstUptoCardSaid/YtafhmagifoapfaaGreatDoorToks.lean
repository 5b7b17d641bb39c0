/- src's parser in memory: its rows; what changes of one type of block leave. -/
import Derived.Test.YtafhmagifoapfaaGreatDoorMem
import Derived.WalkSmall
import Derived.Test.YtafhmagifoapfaaGreatDoorPlain
namespace Go.Proofs.YtafhmagifoapfaaGreatDoor
open Go.RowKit Find Bk
/-- Blocks of one type alone have changed. -/
structure Chg (τ : TypeId) (w w' : World) : Prop where
  keep : ∀ (k : Nat) (o : Obj), w.heap[k]? = some o → (∀ c f, o ≠ .cells c τ f) → w'.heap[k]? = some o
theorem Chg.refl (τ : TypeId) (w : World) : Chg τ w w := ⟨fun _ _ h _ => h⟩
theorem Chg.trans {τ : TypeId} {a b c : World} (h : Chg τ a b) (k : Chg τ b c) : Chg τ a c := ⟨fun j o hj ho => k.keep j o (h.keep j o hj ho) ho⟩
theorem Chg.alloc {τ : TypeId} {a w : World} (h : Chg τ a w) (o : Obj) : Chg τ a (w.alloc o) := ⟨fun k o' hk ho => by
  have h2 := h.keep k o' hk ho
  rw [((Below.refl w.heap.size w).alloc (Nat.le_refl _) o).block k (lt_of_heap h2)]; exact h2⟩
theorem Chg.drew {τ : TypeId} {a w : World} (h : Chg τ a w) : Chg τ a w.drew := ⟨h.keep⟩
theorem Chg.drewN {τ : TypeId} {a w : World} (h : Chg τ a w) (n : Nat) : Chg τ a (w.drewN n) := ⟨h.keep⟩
theorem Chg.of_below (τ : TypeId) {w w' : World} (h : Below w.heap.size w w') : Chg τ w w' := ⟨fun k o hk _ => by rw [h.block k (lt_of_heap hk)]; exact hk⟩
theorem Chg.setCell {τ : TypeId} {w : World} {b i : Nat} {c : Array Value} {fr : Nat × Nat} (h : w.heap[b]? = some (.cells c τ fr)) (v : Value) : Chg τ w (w.setCell ⟨b, i, none⟩ v) := ⟨fun k o hk ho => by
  rw [setCell_heap_ne' (fun e => by subst e; rw [h] at hk; exact ho c fr (Option.some.inj hk).symm)]; exact hk⟩
theorem Chg.grown {w w' : World} {B : Nat} {e : TypeId} {size n : Nat} {v : Value} {xs : List Value} (h : w.ownsRow B e size v n xs) (hg : w.grownBy w' v.ownBlock) : Chg e w w' := ⟨fun k o hk ho => by
  rw [hg.block k (lt_of_heap hk) (fun heq => by
    obtain ⟨c, hc⟩ := owns_kind h k heq.symm
    rw [hk] at hc
    exact ho _ _ (Option.some.inj hc))]
  exact hk⟩
theorem Chg.cellsOf {w w' : World} {τ t : TypeId} {b : Nat} {c : Array Value} {fr : Nat × Nat} (hc : Chg τ w w') (h : w.heap[b]? = some (.cells c t fr)) (hne : t ≠ τ) : w'.heap[b]? = some (.cells c t fr) :=
  hc.keep b _ h (fun c' f he => hne (by simp only [Obj.cells.injEq] at he; exact he.2.1))
theorem owns_chg {w w' : World} {τ : TypeId} {B : Nat} {e : TypeId} {size n : Nat} {v : Value} {xs : List Value} (h : w.ownsRow B e size v n xs) (hc : Chg τ w w') (hne : e ≠ τ) : w'.ownsRow B e size v n xs :=
  owns_keep h fun g hg => by
    obtain ⟨c, hcc⟩ := owns_kind h g hg
    rw [hc.cellsOf hcc hne, hcc]
theorem owns_max {w : World} {B : Nat} {e : TypeId} {size n : Nat} {v : Value} {xs : List Value} (h : w.ownsRow B e size v n xs) : n ≤ 9223372036854775807 := by
  rcases h.2 with ⟨_, rfl⟩ | ⟨g, cap, cur, _, _, _, h1, h2, _⟩
  · omega
  · unfold maxLen at h2; omega
/-! ### The pieces of a source -/
def lvlC (l : Lvl) : List Value := [.int .i64 l.table, .int .i64 l.items, .int .i64 l.rows, .int .i64 l.cells, .int .i64 l.widths] ++ tokC l.tok
def lvlsC (l : List Lvl) : List Value := l.flatMap lvlC
theorem lvlsC_snoc (l : List Lvl) (t : Lvl) : lvlsC (l ++ [t]) = lvlsC l ++ lvlC t := by simp [lvlsC]
theorem lvlC_len (t : Lvl) : (lvlC t).length = 10 := rfl
theorem lvlsC_len : ∀ l : List Lvl, (lvlsC l).length = l.length * 10
  | [] => rfl
  | t :: l => by have := lvlsC_len l; simp only [lvlsC, List.flatMap_cons, List.length_append, List.length_cons] at *; rw [this, lvlC_len]; omega
/-- An inline. -/
structure Inl where
  kind : Nat
  text : Wd
  name : Wd
  line : Nat
  col : Nat
def Inl.pc (x : Inl) : Pc := (x.kind, if x.kind = 1 then x.text.length else 0)
def inlC (x : Inl) : List Value := [.int .i64 x.kind, .string ⟨x.text.toArray⟩, .string ⟨x.name.toArray⟩, .int .i64 x.line, .int .i64 x.col]
def inlsC (l : List Inl) : List Value := l.flatMap inlC
theorem inlsC_snoc (l : List Inl) (t : Inl) : inlsC (l ++ [t]) = inlsC l ++ inlC t := by simp [inlsC]
/-- A block. -/
structure Blk where
  kind : Nat
  n : Nat
  style : Value
  widths : Value
  text : Value
  line : Nat
def blkC (x : Blk) : List Value := [.int .i64 x.kind, .int .i64 x.n, x.style, x.widths, x.text, .int .i64 x.line]
def blksC (l : List Blk) : List Value := l.flatMap blkC
theorem blksC_snoc (l : List Blk) (t : Blk) : blksC (l ++ [t]) = blksC l ++ blkC t := by simp [blksC]
/-! ### The parser in memory -/
/-- Where its parts lie. -/
structure PV where
  b : Nat
  g : Nat
  o : Nat
  q : Nat
  r : Nat
  vm : Value
  vS : Value
  vT : Value
  vO : Value
  vP : Value
  vK : Value
  vE : Value
  vB : Value
def PV.cells (p : PV) : Array Value := #[p.vm, p.vS, p.vT, p.vO, p.vP, .int .i64 0]
/-- A paragraph's text. -/
def TextR (B : Nat) (w : World) (v : Value) (l : List Pc) : Prop := ∃ il : List Inl, il.map Inl.pc = l ∧ w.ownsRow B 191 5 v il.length (inlsC il)
theorem TextR.chg {B : Nat} {w w' : World} {v : Value} {l : List Pc} {τ : TypeId} (h : TextR B w v l) (hc : Chg τ w w') (hne : 191 ≠ τ) : TextR B w' v l := by
  obtain ⟨il, h1, h2⟩ := h
  exact ⟨il, h1, owns_chg h2 hc hne⟩
theorem TextR.new {B : Nat} {w w' : World} {v : Value} {l : List Pc} (h : TextR B w v l) (hb : Below w.heap.size w w') : TextR B w' v l := h.chg (Chg.of_below 0 hb) (by decide)
theorem TextR.alloc {B : Nat} {w : World} {v : Value} {l : List Pc} (h : TextR B w v l) (o : Obj) : TextR B (w.alloc o) v l := h.new ((Below.refl _ _).alloc (Nat.le_refl _) _)
theorem TextR.drew {B : Nat} {w : World} {v : Value} {l : List Pc} (h : TextR B w v l) : TextR B w.drew v l := h.new ((Below.refl _ _).drew)
theorem TextR.nil (B : Nat) (w : World) : TextR B w (.slice none 0 0) [] := ⟨[], rfl, World.ownsRow_nil _ _ _ _⟩
/-- A topic's blocks. -/
def Blk.Ok (x : Blk) : Prop := (∃ b, x.style = .string b) ∧ ∃ a n c, x.widths = .slice a n c
def BlksR (B : Nat) (w : World) (v : Value) (l : List (List Pc)) : Prop := ∃ xs : List Blk, w.ownsRow B 114 6 v l.length (blksC xs) ∧ xs.length = l.length ∧ ∀ (i : Nat) (x : Blk) (y : List Pc), xs[i]? = some x → l[i]? = some y → TextR B w x.text y ∧ x.Ok
theorem BlksR.chg {B : Nat} {w w' : World} {v : Value} {l : List (List Pc)} {τ : TypeId} (h : BlksR B w v l) (hc : Chg τ w w') (hne : 191 ≠ τ) (hne2 : 114 ≠ τ) : BlksR B w' v l := by
  obtain ⟨xs, h1, h2, h3⟩ := h
  exact ⟨xs, owns_chg h1 hc hne2, h2, fun i x y hx hy => ⟨(h3 i x y hx hy).1.chg hc hne, (h3 i x y hx hy).2⟩⟩
theorem BlksR.nil (B : Nat) (w : World) : BlksR B w (.slice none 0 0) [] := ⟨[], World.ownsRow_nil _ _ _ _, rfl, fun i x y hx _ => by simp at hx⟩
theorem BlksR.snoc {B : Nat} {w w' : World} {v' : Value} {l : List (List Pc)} {x : Blk} {y : List Pc} {n : Nat} {xs : List Blk} (hn : n = l.length + 1) (hl : xs.length = l.length) (h3 : ∀ (i : Nat) (x : Blk) (y : List Pc), xs[i]? = some x → l[i]? = some y → TextR B w x.text y ∧ x.Ok)
    (ho : w'.ownsRow B 114 6 v' n (blksC xs ++ blkC x)) (hc : Chg 114 w w') (ht : TextR B w x.text y) (hok : x.Ok) : BlksR B w' v' (l ++ [y]) := by
  subst hn
  refine ⟨xs ++ [x], by rw [blksC_snoc, List.length_append]; exact ho, by simp [hl], fun i a c ha hb => ?_⟩
  rcases Nat.lt_or_ge i xs.length with hi | hi
  · rw [List.getElem?_append_left hi] at ha
    rw [List.getElem?_append_left (by omega)] at hb
    exact ⟨(h3 i a c ha hb).1.chg hc (by decide), (h3 i a c ha hb).2⟩
  · rw [List.getElem?_append_right hi] at ha
    rw [List.getElem?_append_right (by omega)] at hb
    have hz : i - xs.length = 0 := by
      rcases Nat.eq_zero_or_pos (i - xs.length) with h | h
      · exact h
      · rw [List.getElem?_eq_none (by simp; omega)] at ha; cases ha
    rw [hz] at ha
    rw [show i - l.length = 0 by omega] at hb
    cases ha
    cases hb
    exact ⟨ht.chg hc (by decide), hok⟩
/-- The cells of a topic. -/
def topC (t : Top) (sn st vK vE vB : Value) : List Value := [.int .i64 t.kind, sn, st, .int .i64 t.level, vK, vE, vB, .int .i64 t.line]
/-- The last topic's own cells. -/
def TopR (B : Nat) (w : World) (vT : Value) (g o : Nat) (vK vE vB : Value) (n : Nat) (t : Top) : Prop :=
  ∃ cap pre sn st, vT = .slice (some ⟨g, 0, none⟩) n cap ∧ o = pre.length ∧ w.ownsRow B 101 8 vT n (pre ++ topC t sn st vK vE vB)
theorem TopR.chg {B : Nat} {w w' : World} {vT : Value} {g o : Nat} {vK vE vB : Value} {n : Nat} {t : Top} {τ : TypeId} (h : TopR B w vT g o vK vE vB n t) (hc : Chg τ w w') (hne : 101 ≠ τ) : TopR B w' vT g o vK vE vB n t := by
  obtain ⟨cap, pre, sn, st, h1, h2, h3⟩ := h
  exact ⟨cap, pre, sn, st, h1, h2, owns_chg h3 hc hne⟩
structure ParR (B : Nat) (w : World) (s : PS) (p : PV) : Prop where
  blk : w.heap[p.b]? = some (.cells p.cells 57 (0, 0))
  map : ∃ r, p.vm = .map (some r) ∧ w.heap[r]? = some ordO
  base : B ≤ p.b
  sty : ∃ xs, w.ownsRow B 173 2 p.vS s.nst xs
  non : s.cur = none → s.ntop = 0 ∧ p.vT = .slice none 0 0
  top : ∀ t, s.cur = some t → TopR B w p.vT p.g p.o p.vK p.vE p.vB s.ntop t ∧ (∃ xs, w.ownsRow B 178 3 p.vK t.nk xs) ∧ (∃ xs, w.ownsRow B 180 3 p.vE t.ns xs) ∧ BlksR B w p.vB t.blks
  opn : w.ownsRow B 105 10 p.vO s.opn.length (lvlsC s.opn)
  opq : s.opn ≠ [] → ∃ cap, p.vO = .slice (some ⟨p.q, 0, none⟩) s.opn.length cap ∧ p.r + 10 = s.opn.length * 10
  para : w.ownsRow B 59 5 p.vP s.para.toList.length (toksC s.para.toList)
/-- A change of a block of any other type. -/
theorem ParR.chg {B : Nat} {w w' : World} {s : PS} {p : PV} {τ : TypeId} (h : ParR B w s p) (hc : Chg τ w w') (h1 : 57 ≠ τ) (h2 : 173 ≠ τ) (h3 : 101 ≠ τ) (h4 : 178 ≠ τ) (h5 : 180 ≠ τ) (h6 : 114 ≠ τ) (h7 : 191 ≠ τ) (h8 : 105 ≠ τ) (h9 : 59 ≠ τ) : ParR B w' s p :=
  ⟨hc.cellsOf h.blk h1, by obtain ⟨r, hr, ho⟩ := h.map; exact ⟨r, hr, hc.keep r _ ho (fun c f e => by cases e)⟩, h.base, by obtain ⟨xs, hx⟩ := h.sty; exact ⟨xs, owns_chg hx hc h2⟩, h.non, fun t ht => by
    obtain ⟨a1, ⟨x2, a2⟩, ⟨x3, a3⟩, a4⟩ := h.top t ht
    exact ⟨a1.chg hc h3, ⟨x2, owns_chg a2 hc h4⟩, ⟨x3, owns_chg a3 hc h5⟩, a4.chg hc h7 h6⟩, owns_chg h.opn hc h8, h.opq, owns_chg h.para hc h9⟩
/-- New memory alone. -/
theorem ParR.new {B : Nat} {w w' : World} {s : PS} {p : PV} (h : ParR B w s p) (hb : Below w.heap.size w w') : ParR B w' s p := h.chg (Chg.of_below 0 hb) (by decide) (by decide) (by decide) (by decide) (by decide) (by decide) (by decide) (by decide) (by decide)
theorem ParR.alloc {B : Nat} {w : World} {s : PS} {p : PV} (h : ParR B w s p) (o : Obj) : ParR B (w.alloc o) s p := h.new ((Below.refl _ _).alloc (Nat.le_refl _) _)
theorem below_drewM {B : Nat} {a w : World} (h : Below B a w) (n : Nat) : Below B a (w.drewN n) := ⟨h.os, h.tape, h.output, h.size, h.block⟩
theorem ParR.drewN {B : Nat} {w : World} {s : PS} {p : PV} (h : ParR B w s p) (n : Nat) : ParR B (w.drewN n) s p := h.new (below_drewM (Below.refl _ _) n)
theorem ParR.drew {B : Nat} {w : World} {s : PS} {p : PV} (h : ParR B w s p) : ParR B w.drew s p := h.new ((Below.refl _ _).drew)
theorem ParR.lt {B : Nat} {w : World} {s : PS} {p : PV} (h : ParR B w s p) : p.b < w.heap.size := lt_of_heap h.blk
theorem par_cells {B : Nat} {w : World} {s : PS} {p : PV} (h : ParR B w s p) :
    w.cell? ⟨p.b, 0, none⟩ = some p.vm ∧ w.cell? ⟨p.b, 1, none⟩ = some p.vS ∧ w.cell? ⟨p.b, 2, none⟩ = some p.vT ∧ w.cell? ⟨p.b, 3, none⟩ = some p.vO ∧ w.cell? ⟨p.b, 4, none⟩ = some p.vP ∧ w.cell? ⟨p.b, 5, none⟩ = some (.int .i64 0) ∧ ∀ i, w.frozen? ⟨p.b, i, none⟩ = false :=
  ⟨by rw [cell_of_heap h.blk]; rfl, by rw [cell_of_heap h.blk]; rfl, by rw [cell_of_heap h.blk]; rfl, by rw [cell_of_heap h.blk]; rfl, by rw [cell_of_heap h.blk]; rfl, by rw [cell_of_heap h.blk]; rfl, fun i => free_of_heap h.blk⟩
theorem app_get {α : Type} (pre : List α) (l : List α) (i : Nat) : (pre ++ l)[pre.length + i]? = l[i]? := by rw [List.getElem?_append_right (by omega)]; congr 1; omega
/-- The cells of the last topic. -/
theorem top_cells {B : Nat} {w : World} {p : PV} {n : Nat} {t : Top} (h : TopR B w p.vT p.g p.o p.vK p.vE p.vB n t) :
    ∃ cap sn st, p.vT = .slice (some ⟨p.g, 0, none⟩) n cap ∧ (p.o + 8 = n * 8 ∧ n ≤ 9223372036854775807) ∧ w.cell? ⟨p.g, p.o, none⟩ = some (.int .i64 t.kind) ∧ w.cell? ⟨p.g, p.o + 1, none⟩ = some sn ∧ w.cell? ⟨p.g, p.o + 2, none⟩ = some st ∧ w.cell? ⟨p.g, p.o + 3, none⟩ = some (.int .i64 t.level) ∧ w.cell? ⟨p.g, p.o + 4, none⟩ = some p.vK ∧ w.cell? ⟨p.g, p.o + 5, none⟩ = some p.vE ∧ w.cell? ⟨p.g, p.o + 6, none⟩ = some p.vB ∧ w.cell? ⟨p.g, p.o + 7, none⟩ = some (.int .i64 t.line) ∧ (∀ i, w.frozen? ⟨p.g, i, none⟩ = false) ∧ p.g < w.heap.size ∧ B ≤ p.g := by
  obtain ⟨cap, pre, sn, st, h1, h2, h3⟩ := h
  have hl := h3.1
  simp only [List.length_append, topC, List.length_cons, List.length_nil] at hl
  have hlt := h3.lt p.g (by rw [h1]; rfl)
  have hmx := owns_max h3
  rw [h1] at h3
  have hc : ∀ k, k < 8 → w.cell? ⟨p.g, p.o + k, none⟩ = (topC t sn st p.vK p.vE p.vB)[k]? := fun k hk => by rw [h3.cellAt (p.o + k) (by omega), h2, app_get]
  exact ⟨cap, sn, st, h1, ⟨by omega, hmx⟩, hc 0 (by omega), hc 1 (by omega), hc 2 (by omega), hc 3 (by omega), hc 4 (by omega), hc 5 (by omega), hc 6 (by omega), hc 7 (by omega), fun i => h3.frozenAt i, hlt.2, hlt.1⟩
theorem lvlsC_at (l : List Lvl) (x : Lvl) (k : Nat) : (lvlsC (l ++ [x]))[l.length * 10 + k]? = (lvlC x)[k]? := by rw [lvlsC_snoc, ← lvlsC_len, app_get]
theorem last_eq {l : List Lvl} {x : Lvl} (h : l.getLast? = some x) : l = l.dropLast ++ [x] := by
  obtain ⟨ys, hy⟩ := List.getLast?_eq_some_iff.1 h
  rw [hy]; simp
/-- The cells of the innermost that is open. -/
theorem lvl_cells {B : Nat} {w : World} {s : PS} {p : PV} (h : ParR B w s p) {l : Lvl} (hl : s.last = some l) :
    ∃ cap, p.vO = .slice (some ⟨p.q, 0, none⟩) s.opn.length cap ∧ (p.r + 10 = s.opn.length * 10 ∧ s.opn.length ≤ 9223372036854775807) ∧ w.cell? ⟨p.q, p.r, none⟩ = some (.int .i64 l.table) ∧ w.cell? ⟨p.q, p.r + 1, none⟩ = some (.int .i64 l.items) ∧ w.cell? ⟨p.q, p.r + 2, none⟩ = some (.int .i64 l.rows) ∧ w.cell? ⟨p.q, p.r + 3, none⟩ = some (.int .i64 l.cells) ∧ w.cell? ⟨p.q, p.r + 4, none⟩ = some (.int .i64 l.widths) ∧
      w.cell? ⟨p.q, p.r + 5, none⟩ = some (.int .i64 l.tok.kind) ∧ w.cell? ⟨p.q, p.r + 6, none⟩ = some (.string ⟨l.tok.name.toArray⟩) ∧ w.cell? ⟨p.q, p.r + 7, none⟩ = some (.string ⟨l.tok.text.toArray⟩) ∧ w.cell? ⟨p.q, p.r + 8, none⟩ = some (.int .i64 l.tok.line) ∧ w.cell? ⟨p.q, p.r + 9, none⟩ = some (.int .i64 l.tok.col) ∧ (∀ i, w.frozen? ⟨p.q, i, none⟩ = false) ∧ p.q < w.heap.size ∧ B ≤ p.q := by
  have he := last_eq hl
  have hne : s.opn ≠ [] := by intro e; rw [e] at he; simp at he
  obtain ⟨cap, h1, h2⟩ := h.opq hne
  have h3 := h.opn
  have hlen : s.opn.length = s.opn.dropLast.length + 1 := by
    have := congrArg List.length he
    rw [List.length_append] at this
    exact this
  have hlt := h3.lt p.q (by rw [h1]; rfl)
  have hmx := owns_max h3
  rw [h1] at h3
  have hc : ∀ k, k < 10 → w.cell? ⟨p.q, p.r + k, none⟩ = (lvlC l)[k]? := fun k hk => by
    rw [h3.cellAt (p.r + k) (by omega)]
    have hr : p.r = s.opn.dropLast.length * 10 := by omega
    rw [hr, he]
    simp only [List.dropLast_concat]
    rw [← he]
    have h4 := lvlsC_at s.opn.dropLast l k
    rw [← he] at h4
    exact h4
  exact ⟨cap, h1, ⟨h2, hmx⟩, hc 0 (by omega), hc 1 (by omega), hc 2 (by omega), hc 3 (by omega), hc 4 (by omega), hc 5 (by omega), hc 6 (by omega), hc 7 (by omega), hc 8 (by omega), hc 9 (by omega), fun i => h3.frozenAt i, hlt.2, hlt.1⟩
/-! ### What becomes of the parser -/
theorem Chg.set {τ : TypeId} {w w1 : World} {B : Nat} {size n : Nat} {v : Value} {xs : List Value} (h : w.ownsRow B τ size v n xs) (hg : w.grownBy w1 v.ownBlock) : Chg τ w w1 := Chg.grown h hg
/-- A cell of the parser's own block. -/
theorem ParR.cell {B : Nat} {w : World} {s : PS} {p : PV} (h : ParR B w s p) (i : Nat) (v : Value) : (w.setCell ⟨p.b, i, none⟩ v).heap[p.b]? = some (.cells (p.cells.setIfInBounds i v) 57 (0, 0)) ∧ Chg 57 w (w.setCell ⟨p.b, i, none⟩ v) := ⟨setCell_heap' h.blk v, Chg.setCell h.blk v⟩
theorem map_chg {w w' : World} {vm : Value} {τ : TypeId} (h : ∃ r, vm = .map (some r) ∧ w.heap[r]? = some ordO) (hc : Chg τ w w') : ∃ r, vm = .map (some r) ∧ w'.heap[r]? = some ordO := by
  obtain ⟨r, hr, ho⟩ := h
  exact ⟨r, hr, hc.keep r _ ho (fun c f e => by cases e)⟩
/-- All but the rows of one type, and the parser's own cells. -/
theorem top_chg {B : Nat} {w w' : World} {s : PS} {p : PV} {τ : TypeId} (h : ∀ t, s.cur = some t → TopR B w p.vT p.g p.o p.vK p.vE p.vB s.ntop t ∧ (∃ xs, w.ownsRow B 178 3 p.vK t.nk xs) ∧ (∃ xs, w.ownsRow B 180 3 p.vE t.ns xs) ∧ BlksR B w p.vB t.blks) (hc : Chg τ w w') (h3 : 101 ≠ τ) (h4 : 178 ≠ τ) (h5 : 180 ≠ τ) (h6 : 114 ≠ τ) (h7 : 191 ≠ τ) :
    ∀ t, s.cur = some t → TopR B w' p.vT p.g p.o p.vK p.vE p.vB s.ntop t ∧ (∃ xs, w'.ownsRow B 178 3 p.vK t.nk xs) ∧ (∃ xs, w'.ownsRow B 180 3 p.vE t.ns xs) ∧ BlksR B w' p.vB t.blks := fun t ht => by
  obtain ⟨a1, ⟨x2, a2⟩, ⟨x3, a3⟩, a4⟩ := h t ht
  exact ⟨a1.chg hc h3, ⟨x2, owns_chg a2 hc h4⟩, ⟨x3, owns_chg a3 hc h5⟩, a4.chg hc h7 h6⟩
theorem sty_chg {B : Nat} {w w' : World} {v : Value} {n : Nat} {τ e : TypeId} {z : Nat} (h : ∃ xs, w.ownsRow B e z v n xs) (hc : Chg τ w w') (hne : e ≠ τ) : ∃ xs, w'.ownsRow B e z v n xs := by
  obtain ⟨xs, hx⟩ := h
  exact ⟨xs, owns_chg hx hc hne⟩
/-- A style more. -/
theorem ParR.styled {B : Nat} {w w1 : World} {s : PS} {p : PV} (h : ParR B w s p) {v : Value} {n : Nat} {xs ys : List Value} (hn : n = s.nst + 1) (hx : w.ownsRow B 173 2 p.vS s.nst xs) (hg : w.grownBy w1 p.vS.ownBlock) (ho : w1.ownsRow B 173 2 v n ys) :
    ParR B (w1.setCell ⟨p.b, 1, none⟩ v) { s with nst := s.nst + 1 } { p with vS := v } := by
  subst hn
  have c1 := Chg.grown hx hg
  have hb := c1.cellsOf h.blk (by decide)
  have c2 : Chg 57 w1 (w1.setCell ⟨p.b, 1, none⟩ v) := Chg.setCell hb v
  exact ⟨setCell_heap' hb v, map_chg (map_chg h.map c1) c2, h.base, ⟨ys, owns_chg ho c2 (by decide)⟩, h.non,
    top_chg (s := s) (p := p) (top_chg (s := s) (p := p) h.top c1 (by decide) (by decide) (by decide) (by decide) (by decide)) c2 (by decide) (by decide) (by decide) (by decide) (by decide),
    owns_chg (owns_chg h.opn c1 (by decide)) c2 (by decide), h.opq, owns_chg (owns_chg h.para c1 (by decide)) c2 (by decide)⟩
/-- A topic more. -/
theorem ParR.topped {B : Nat} {w w1 : World} {s : PS} {p : PV} (h : ParR B w s p) {g cap n : Nat} {xs : List Value} {sn st : Value} {k l : Nat} (hn : n = s.ntop + 1) (hx : w.ownsRow B 101 8 p.vT s.ntop xs) (hg : w.grownBy w1 p.vT.ownBlock)
    (ho : w1.ownsRow B 101 8 (.slice (some ⟨g, 0, none⟩) n cap) n (xs ++ topC ⟨k, 0, 0, 0, l, []⟩ sn st (.slice none 0 0) (.slice none 0 0) (.slice none 0 0))) :
    ParR B (w1.setCell ⟨p.b, 2, none⟩ (.slice (some ⟨g, 0, none⟩) n cap)) { s with ntop := s.ntop + 1, cur := some ⟨k, 0, 0, 0, l, []⟩ } { p with vT := .slice (some ⟨g, 0, none⟩) n cap, g := g, o := xs.length, vK := .slice none 0 0, vE := .slice none 0 0, vB := .slice none 0 0 } := by
  subst hn
  have c1 := Chg.grown hx hg
  have hb := c1.cellsOf h.blk (by decide)
  have c2 : Chg 57 w1 (w1.setCell ⟨p.b, 2, none⟩ (.slice (some ⟨g, 0, none⟩) (s.ntop + 1) cap)) := Chg.setCell hb _
  refine ⟨setCell_heap' hb _, map_chg (map_chg h.map c1) c2, h.base, sty_chg (sty_chg h.sty c1 (by decide)) c2 (by decide), (fun e => by cases e), fun t ht => ?_,
    owns_chg (owns_chg h.opn c1 (by decide)) c2 (by decide), h.opq, owns_chg (owns_chg h.para c1 (by decide)) c2 (by decide)⟩
  cases ht
  exact ⟨⟨cap, xs, sn, st, rfl, rfl, owns_chg ho c2 (by decide)⟩, ⟨[], World.ownsRow_nil _ _ _ _⟩, ⟨[], World.ownsRow_nil _ _ _ _⟩, BlksR.nil _ _⟩
/-- A cell of the last topic is set. -/
theorem TopR.set {B : Nat} {w : World} {p p' : PV} {n : Nat} {t t' : Top} (h : TopR B w p.vT p.g p.o p.vK p.vE p.vB n t) (k : Nat) (u : Value) (hb : p'.vT = p.vT ∧ p'.g = p.g ∧ p'.o = p.o)
    (hk : ∀ sn st, (topC t sn st p.vK p.vE p.vB).set k u = topC t' sn st p'.vK p'.vE p'.vB) : TopR B (w.setCell ⟨p.g, p.o + k, none⟩ u) p'.vT p'.g p'.o p'.vK p'.vE p'.vB n t' ∧ Chg 101 w (w.setCell ⟨p.g, p.o + k, none⟩ u) := by
  obtain ⟨cap, pre, sn, st, h1, h2, h3⟩ := h
  obtain ⟨c, hc⟩ := owns_kind h3 p.g (by rw [h1]; rfl)
  refine ⟨⟨cap, pre, sn, st, by rw [hb.1, hb.2.1]; exact h1, by rw [hb.2.2]; exact h2, ?_⟩, Chg.setCell hc _⟩
  rw [hb.1]
  rw [h1] at h3 ⊢
  have := (h3.stored (p.o + k) u).1
  rw [List.set_append_right _ _ (by omega), h2, Nat.add_sub_cancel_left, hk, ← h2] at this
  exact this
/-- The level of the last topic. -/
theorem ParR.levelled {B : Nat} {w : World} {s : PS} {p : PV} {t : Top} (h : ParR B w s p) (ht : s.cur = some t) (n : Nat) : ParR B (w.setCell ⟨p.g, p.o + 3, none⟩ (.int .i64 n)) { s with cur := some { t with level := n } } p := by
  obtain ⟨a1, a2, a3, a4⟩ := h.top t ht
  obtain ⟨b1, c1⟩ := a1.set (t' := { t with level := n }) (p' := p) 3 (.int .i64 n) ⟨rfl, rfl, rfl⟩ (fun _ _ => rfl)
  refine ⟨c1.cellsOf h.blk (by decide), map_chg h.map c1, h.base, sty_chg h.sty c1 (by decide), (fun e => by cases e), fun t' h' => ?_, owns_chg h.opn c1 (by decide), h.opq, owns_chg h.para c1 (by decide)⟩
  cases h'
  exact ⟨b1, sty_chg a2 c1 (by decide), sty_chg a3 c1 (by decide), a4.chg c1 (by decide) (by decide)⟩
/-- A key more. -/
theorem ParR.keyed {B : Nat} {w w1 : World} {s : PS} {p : PV} {t : Top} (h : ParR B w s p) (ht : s.cur = some t) {v : Value} {n : Nat} {xs ys : List Value} (hn : n = t.nk + 1) (hx : w.ownsRow B 178 3 p.vK t.nk xs) (hg : w.grownBy w1 p.vK.ownBlock) (ho : w1.ownsRow B 178 3 v n ys) :
    ParR B (w1.setCell ⟨p.g, p.o + 4, none⟩ v) { s with cur := some { t with nk := t.nk + 1 } } { p with vK := v } := by
  subst hn
  have c0 := Chg.grown hx hg
  obtain ⟨a1, a2, a3, a4⟩ := h.top t ht
  obtain ⟨b1, c1⟩ := (a1.chg c0 (by decide)).set (t' := { t with nk := t.nk + 1 }) (p' := { p with vK := v }) 4 v ⟨rfl, rfl, rfl⟩ (fun _ _ => rfl)
  refine ⟨c1.cellsOf (c0.cellsOf h.blk (by decide)) (by decide), map_chg (map_chg h.map c0) c1, h.base, sty_chg (sty_chg h.sty c0 (by decide)) c1 (by decide), (fun e => by cases e), fun t' h' => ?_, owns_chg (owns_chg h.opn c0 (by decide)) c1 (by decide), h.opq, owns_chg (owns_chg h.para c0 (by decide)) c1 (by decide)⟩
  cases h'
  exact ⟨b1, ⟨ys, owns_chg ho c1 (by decide)⟩, sty_chg (sty_chg a3 c0 (by decide)) c1 (by decide), (a4.chg c0 (by decide) (by decide)).chg c1 (by decide) (by decide)⟩
/-- A line 'see' more. -/
theorem ParR.seen {B : Nat} {w w1 : World} {s : PS} {p : PV} {t : Top} (h : ParR B w s p) (ht : s.cur = some t) {v : Value} {n : Nat} {xs ys : List Value} (hn : n = t.ns + 1) (hx : w.ownsRow B 180 3 p.vE t.ns xs) (hg : w.grownBy w1 p.vE.ownBlock) (ho : w1.ownsRow B 180 3 v n ys) :
    ParR B (w1.setCell ⟨p.g, p.o + 5, none⟩ v) { s with cur := some { t with ns := t.ns + 1 } } { p with vE := v } := by
  subst hn
  have c0 := Chg.grown hx hg
  obtain ⟨a1, a2, a3, a4⟩ := h.top t ht
  obtain ⟨b1, c1⟩ := (a1.chg c0 (by decide)).set (t' := { t with ns := t.ns + 1 }) (p' := { p with vE := v }) 5 v ⟨rfl, rfl, rfl⟩ (fun _ _ => rfl)
  refine ⟨c1.cellsOf (c0.cellsOf h.blk (by decide)) (by decide), map_chg (map_chg h.map c0) c1, h.base, sty_chg (sty_chg h.sty c0 (by decide)) c1 (by decide), (fun e => by cases e), fun t' h' => ?_, owns_chg (owns_chg h.opn c0 (by decide)) c1 (by decide), h.opq, owns_chg (owns_chg h.para c0 (by decide)) c1 (by decide)⟩
  cases h'
  exact ⟨b1, sty_chg (sty_chg a2 c0 (by decide)) c1 (by decide), ⟨ys, owns_chg ho c1 (by decide)⟩, (a4.chg c0 (by decide) (by decide)).chg c1 (by decide) (by decide)⟩
/-- A block more. -/
theorem ParR.added {B : Nat} {w w1 : World} {s : PS} {p : PV} {t : Top} (h : ParR B w s p) (ht : s.cur = some t) {v : Value} {n : Nat} {xs : List Blk} {x : Blk} {y : List Pc} (hn : n = t.blks.length + 1) (hx : w.ownsRow B 114 6 p.vB t.blks.length (blksC xs)) (hl : xs.length = t.blks.length)
    (h3 : ∀ (i : Nat) (x : Blk) (y : List Pc), xs[i]? = some x → t.blks[i]? = some y → TextR B w x.text y ∧ x.Ok) (hy : TextR B w x.text y) (hok : x.Ok) (hg : w.grownBy w1 p.vB.ownBlock) (ho : w1.ownsRow B 114 6 v n (blksC xs ++ blkC x)) :
    ParR B (w1.setCell ⟨p.g, p.o + 6, none⟩ v) (s.add y) { p with vB := v } := by
  have c0 := Chg.grown hx hg
  obtain ⟨a1, a2, a3, a4⟩ := h.top t ht
  obtain ⟨b1, c1⟩ := (a1.chg c0 (by decide)).set (t' := { t with blks := t.blks ++ [y] }) (p' := { p with vB := v }) 6 v ⟨rfl, rfl, rfl⟩ (fun _ _ => rfl)
  have hs : s.add y = { s with cur := some { t with blks := t.blks ++ [y] } } := by unfold PS.add; rw [ht]; rfl
  rw [hs]
  refine ⟨c1.cellsOf (c0.cellsOf h.blk (by decide)) (by decide), map_chg (map_chg h.map c0) c1, h.base, sty_chg (sty_chg h.sty c0 (by decide)) c1 (by decide), (fun e => by cases e), fun t' h' => ?_, owns_chg (owns_chg h.opn c0 (by decide)) c1 (by decide), h.opq, owns_chg (owns_chg h.para c0 (by decide)) c1 (by decide)⟩
  cases h'
  exact ⟨b1, sty_chg (sty_chg a2 c0 (by decide)) c1 (by decide), sty_chg (sty_chg a3 c0 (by decide)) c1 (by decide), (BlksR.snoc hn hl h3 ho c0 hy hok).chg c1 (by decide) (by decide)⟩
/-- A list or a table is opened. -/
theorem ParR.opened {B : Nat} {w w1 : World} {s : PS} {p : PV} (h : ParR B w s p) {g cap n : Nat} {l : Lvl} (hn : n = s.opn.length + 1) (hg : w.grownBy w1 p.vO.ownBlock) (ho : w1.ownsRow B 105 10 (.slice (some ⟨g, 0, none⟩) n cap) n (lvlsC s.opn ++ lvlC l)) :
    ParR B (w1.setCell ⟨p.b, 3, none⟩ (.slice (some ⟨g, 0, none⟩) n cap)) { s with opn := s.opn ++ [l] } { p with vO := .slice (some ⟨g, 0, none⟩) n cap, q := g, r := s.opn.length * 10 } := by
  subst hn
  have c1 := Chg.grown h.opn hg
  have hb := c1.cellsOf h.blk (by decide)
  have c2 : Chg 57 w1 (w1.setCell ⟨p.b, 3, none⟩ (.slice (some ⟨g, 0, none⟩) (s.opn.length + 1) cap)) := Chg.setCell hb _
  refine ⟨setCell_heap' hb _, map_chg (map_chg h.map c1) c2, h.base, sty_chg (sty_chg h.sty c1 (by decide)) c2 (by decide), h.non,
    top_chg (s := s) (p := p) (top_chg (s := s) (p := p) h.top c1 (by decide) (by decide) (by decide) (by decide) (by decide)) c2 (by decide) (by decide) (by decide) (by decide) (by decide), ?_, fun _ => ⟨cap, by simp, by simp; omega⟩, owns_chg (owns_chg h.para c1 (by decide)) c2 (by decide)⟩
  have := owns_chg ho c2 (by decide)
  rw [← lvlsC_snoc] at this
  simpa using this
/-- The innermost is closed. -/
theorem ParR.popped {B : Nat} {w : World} {s : PS} {p : PV} (h : ParR B w s p) {cap n : Nat} {l : Lvl} (hl : s.last = some l) (hv : p.vO = .slice (some ⟨p.q, 0, none⟩) s.opn.length cap) (hn : s.opn.length = n + 1) :
    ParR B (w.setCell ⟨p.b, 3, none⟩ (.slice (some ⟨p.q, 0, none⟩) n cap)) { s with opn := s.opn.dropLast } { p with vO := .slice (some ⟨p.q, 0, none⟩) n cap, r := p.r - 10 } := by
  have he := last_eq hl
  have hdl : s.opn.dropLast.length = n := by rw [List.length_dropLast]; omega
  have c2 : Chg 57 w (w.setCell ⟨p.b, 3, none⟩ (.slice (some ⟨p.q, 0, none⟩) n cap)) := Chg.setCell h.blk _
  have ho := h.opn
  rw [hv] at ho
  rw [hn] at ho
  have hx : lvlsC s.opn = lvlsC s.opn.dropLast ++ lvlC l := by rw [← lvlsC_snoc, ← he]
  rw [hx] at ho
  have hp := ownsRow_pop (by rw [lvlsC_len, hdl]) ho
  obtain ⟨cap', h1, h2⟩ := h.opq (by intro e; rw [e] at hn; simp at hn)
  refine ⟨setCell_heap' h.blk _, map_chg h.map c2, h.base, sty_chg h.sty c2 (by decide), h.non,
    top_chg (s := s) (p := p) h.top c2 (by decide) (by decide) (by decide) (by decide) (by decide), ?_, fun hne => ⟨cap, by simp [hdl], ?_⟩, owns_chg h.para c2 (by decide)⟩
  · show (w.setCell ⟨p.b, 3, none⟩ _).ownsRow B 105 10 _ s.opn.dropLast.length _
    rw [hdl]
    exact owns_chg hp c2 (by decide)
  · have : 0 < s.opn.dropLast.length := List.length_pos_iff.2 hne
    show p.r - 10 + 10 = s.opn.dropLast.length * 10
    omega
/-- A cell of the innermost is set. -/
theorem ParR.lvlSet {B : Nat} {w : World} {s : PS} {p : PV} (h : ParR B w s p) {l l' : Lvl} (hl : s.last = some l) (k : Nat) (u : Value) (hk : (lvlC l).set k u = lvlC l') : ParR B (w.setCell ⟨p.q, p.r + k, none⟩ u) (s.setLast fun _ => l') p := by
  have he := last_eq hl
  have hne : s.opn ≠ [] := by intro e; rw [e] at he; simp at he
  obtain ⟨cap, h1, h2⟩ := h.opq hne
  obtain ⟨c, hc⟩ := owns_kind h.opn p.q (by rw [h1]; rfl)
  have c1 : Chg 105 w (w.setCell ⟨p.q, p.r + k, none⟩ u) := Chg.setCell hc _
  have ho := h.opn
  have hlen : s.opn.length = s.opn.dropLast.length + 1 := by
    have := congrArg List.length he
    rw [List.length_append] at this
    exact this
  have hx : lvlsC s.opn = lvlsC s.opn.dropLast ++ lvlC l := by rw [← lvlsC_snoc, ← he]
  have hs : s.setLast (fun _ => l') = { s with opn := s.opn.dropLast ++ [l'] } := by unfold PS.setLast; rw [hl]
  rw [hs]
  refine ⟨c1.cellsOf h.blk (by decide), map_chg h.map c1, h.base, sty_chg h.sty c1 (by decide), h.non,
    top_chg (s := s) (p := p) h.top c1 (by decide) (by decide) (by decide) (by decide) (by decide), ?_, fun _ => ⟨cap, ?_, ?_⟩, owns_chg h.para c1 (by decide)⟩
  · rw [h1] at ho ⊢
    have := (ho.stored (p.r + k) u).1
    rw [hx, List.set_append_right _ _ (by rw [lvlsC_len]; omega), lvlsC_len, show p.r + k - s.opn.dropLast.length * 10 = k by omega, hk, ← lvlsC_snoc] at this
    show (w.setCell ⟨p.q, p.r + k, none⟩ u).ownsRow B 105 10 _ (s.opn.dropLast ++ [l']).length _
    rw [List.length_append, List.length_singleton, ← hlen]
    exact this
  · show p.vO = .slice (some ⟨p.q, 0, none⟩) (s.opn.dropLast ++ [l']).length cap
    rw [List.length_append, List.length_singleton, ← hlen]; exact h1
  · show p.r + 10 = (s.opn.dropLast ++ [l']).length * 10
    rw [List.length_append, List.length_singleton, ← hlen]; exact h2
/-- What waits for its paragraph. -/
theorem ParR.waits {B : Nat} {w : World} {s : PS} {p : PV} (h : ParR B w s p) {v : Value} {x : Option Tok} (ho : w.ownsRow B 59 5 v x.toList.length (toksC x.toList)) : ParR B (w.setCell ⟨p.b, 4, none⟩ v) { s with para := x } { p with vP := v } := by
  have c2 : Chg 57 w (w.setCell ⟨p.b, 4, none⟩ v) := Chg.setCell h.blk v
  exact ⟨setCell_heap' h.blk v, map_chg h.map c2, h.base, sty_chg h.sty c2 (by decide), h.non,
    top_chg (s := s) (p := p) h.top c2 (by decide) (by decide) (by decide) (by decide) (by decide), owns_chg h.opn c2 (by decide), h.opq, owns_chg ho c2 (by decide)⟩
end Go.Proofs.YtafhmagifoapfaaGreatDoor
namespace Go.Proofs.YtafhmagifoapfaaGreatDoor
open Go.RowKit Find Bk
attribute [local go_sem ↓] Go.wp_at_zero Go.wp_at_succ
/-- The pointer to the last topic; to the innermost that is open. -/
def topP (s : PS) (p : PV) : Value := .pointer (s.cur.map fun _ => ⟨p.g, p.o, none⟩)
def lastP (s : PS) (p : PV) : Value := .pointer (s.last.map fun _ => ⟨p.q, p.r, none⟩)
abbrev parP (p : PV) : Value := .pointer (some ⟨p.b, 0, none⟩)
set_option maxHeartbeats 1600000 in
set_option maxRecDepth 100000 in
theorem topic_any (B : Nat) (s : PS) (p : PV) (w : World) (h : ParR B w s p) :
    Calls Tryz.prog 28 #[parP p] w fun e w' => e = .returned (topP s p) ∧ w = w' := by
  obtain ⟨c0, c1, c2, c3, c4, c5, cf⟩ := par_cells h
  cases hc : s.cur with
  | none =>
    obtain ⟨-, hv⟩ := h.non hc
    rw [hv] at c2
    have HT := Lib.hid (show topP s p = .pointer none from by unfold topP; rw [hc]; rfl)
    clear h hc hv c0 c1 c3 c4 c5
    go_enter Tryz.func28, Tryz.ntmps28
    go_wp2
    go_ret
    rw [HT.out]
    exact ⟨rfl, rfl⟩
  | some t =>
    obtain ⟨cap, sn, st, hv, ⟨ho, hmx⟩, -⟩ := top_cells (h.top t hc).1
    rw [hv] at c2
    have HT := Lib.hid (show topP s p = .pointer (some ⟨p.g, p.o, none⟩) from by unfold topP; rw [hc]; rfl)
    obtain ⟨k, hk⟩ : ∃ k, s.ntop = k + 1 := ⟨s.ntop - 1, by omega⟩
    rw [hk] at c2
    have HO := Lib.hid (show p.o = k * 8 by omega)
    have hw := IntWalk.wrap64_in (k : Int) ⟨by omega, by omega⟩
    clear h hc hv c0 c1 c3 c4 c5 ho hk hmx
    go_enter Tryz.func28, Tryz.ntmps28
    go_wp2
    go_ret
    rw [HT.out, HO.out]
    exact ⟨rfl, rfl⟩
set_option maxHeartbeats 1600000 in
set_option maxRecDepth 100000 in
theorem last_any (B : Nat) (s : PS) (p : PV) (w : World) (h : ParR B w s p) :
    Calls Tryz.prog 44 #[parP p] w fun e w' => e = .returned (lastP s p) ∧ w = w' := by
  obtain ⟨c0, c1, c2, c3, c4, c5, cf⟩ := par_cells h
  cases hc : s.last with
  | none =>
    have ho : s.opn = [] := by unfold PS.last at hc; simpa using hc
    have hv : p.vO = .slice none 0 0 ∨ ∃ a c, p.vO = .slice a 0 c := by
      right
      have := h.opn
      rw [ho] at this
      exact owns_slice this
    have HT := Lib.hid (show lastP s p = .pointer none from by unfold lastP; rw [hc]; rfl)
    obtain ⟨a, c, hv⟩ : ∃ a c, p.vO = .slice a 0 c := by
      have := h.opn
      rw [ho] at this
      exact owns_slice this
    rw [hv] at c3
    clear h hc hv c0 c1 c2 c4 c5
    go_enter Tryz.func44, Tryz.ntmps44
    go_wp2
    go_ret
    rw [HT.out]
    exact ⟨rfl, rfl⟩
  | some l =>
    obtain ⟨cap, hv, ⟨hr, hmx⟩, -⟩ := lvl_cells h hc
    rw [hv] at c3
    have HT := Lib.hid (show lastP s p = .pointer (some ⟨p.q, p.r, none⟩) from by unfold lastP; rw [hc]; rfl)
    obtain ⟨k, hk⟩ : ∃ k, s.opn.length = k + 1 := ⟨s.opn.length - 1, by omega⟩
    rw [hk] at c3
    have HO := Lib.hid (show p.r = k * 10 by omega)
    have hw := IntWalk.wrap64_in (k : Int) ⟨by omega, by omega⟩
    clear h hc hv c0 c1 c2 c4 c5 hr hk hmx
    go_enter Tryz.func44, Tryz.ntmps44
    go_wp2
    go_ret
    rw [HT.out, HO.out]
    exact ⟨rfl, rfl⟩
theorem topP_none {s : PS} {p : PV} (h : s.cur = none) : topP s p = .pointer none := by unfold topP; rw [h]; rfl
theorem topP_some {s : PS} {p : PV} {t : Top} (h : s.cur = some t) : topP s p = .pointer (some ⟨p.g, p.o, none⟩) := by unfold topP; rw [h]; rfl
theorem lastP_none {s : PS} {p : PV} (h : s.last = none) : lastP s p = .pointer none := by unfold lastP; rw [h]; rfl
theorem lastP_some {s : PS} {p : PV} {l : Lvl} (h : s.last = some l) : lastP s p = .pointer (some ⟨p.q, p.r, none⟩) := by unfold lastP; rw [h]; rfl
def Bk.PS.lastIs (s : PS) (v : Nat) : Bool := match s.last with
  | some l => l.table == v
  | none => false
def Bk.PS.mayToc (s : PS) : Bool := s.fresh && match s.cur with
  | some t => t.level == 0
  | none => false
/-- What a question of the parser answers. -/
def MayPost (x : Bool) (w : World) (e : Ending) (w' : World) : Prop := e = .returned (.bool x) ∧ w = w'
/-- .. where the order is drawn. -/
def MayPostD (x : Bool) (w : World) (e : Ending) (w' : World) : Prop := e = .returned (.bool x) ∧ ∃ n, w' = w.drewN n
theorem MayPost.d {x : Bool} {w : World} {e : Ending} {w' : World} (h : MayPost x w e w') : MayPostD x w e w' := ⟨h.1, 0, h.2.symm⟩
set_option maxHeartbeats 1600000 in
set_option maxRecDepth 100000 in
theorem always_any (p : PV) (w : World) : Calls Tryz.prog 30 #[parP p] w (MayPost true w) := by
  go_enter Tryz.func30, Tryz.ntmps30
  go_wp2
  go_ret
  exact ⟨rfl, rfl⟩
set_option maxHeartbeats 1600000 in
set_option maxRecDepth 100000 in
theorem inItem_any (B : Nat) (s : PS) (p : PV) (w : World) (h : ParR B w s p) : Calls Tryz.prog 88 #[parP p] w (MayPost s.inItem w) := by
  have hL := last_any B s p w h
  cases hc : s.last with
  | none =>
    rw [lastP_none hc] at hL
    have HL := Lib.hid hL
    have HR := Lib.hid (show s.inItem = false from by unfold PS.inItem; rw [hc])
    clear hL hc h
    go_enter Tryz.func88, Tryz.ntmps88
    go_wp2_with (go_at_call 44; refine HL.out.mono ?_; rintro e w1 ⟨rfl, rfl⟩)
    go_ret
    rw [HR.out]
    exact ⟨rfl, rfl⟩
  | some l =>
    obtain ⟨cap, -, -, d0, d1, -⟩ := lvl_cells h hc
    rw [lastP_some hc] at hL
    have HL := Lib.hid hL
    have HR := Lib.hid (show s.inItem = (l.table == 0 && decide (0 < l.items)) from by unfold PS.inItem; rw [hc])
    have e0 : ((l.table : Int) == 0) = (l.table == 0) := by rw [Bool.eq_iff_iff]; simp
    have e1 : decide ((0 : Int) < (l.items : Int)) = decide (0 < l.items) := by congr 1; simp
    obtain ⟨x0, hx0⟩ : ∃ x, (l.table == 0) = x := ⟨_, rfl⟩
    obtain ⟨x1, hx1⟩ : ∃ x, decide (0 < l.items) = x := ⟨_, rfl⟩
    rw [hx0] at e0 HR
    rw [hx1] at e1 HR
    clear hL hc h hx0
    cases x0 <;> cases x1
    all_goals
      go_enter Tryz.func88, Tryz.ntmps88
      go_wp2_with (go_at_call 44; refine HL.out.mono ?_; rintro e w1 ⟨rfl, rfl⟩)
      go_ret
      rw [HR.out]
      exact ⟨rfl, rfl⟩
set_option maxHeartbeats 3200000 in
set_option maxRecDepth 100000 in
theorem inRow_any (B : Nat) (s : PS) (p : PV) (w : World) (h : ParR B w s p) : Calls Tryz.prog 55 #[parP p] w (MayPost s.inRow w) := by
  have hL := last_any B s p w h
  cases hc : s.last with
  | none =>
    rw [lastP_none hc] at hL
    have HL := Lib.hid hL
    have HR := Lib.hid (show s.inRow = false from by unfold PS.inRow; rw [hc])
    clear hL hc h
    go_enter Tryz.func55, Tryz.ntmps55
    go_wp2_with (first
      | (go_at_call 44; refine HL.out.mono ?_; rintro e w1 ⟨rfl, rfl⟩)
      | fail)
    go_ret
    rw [HR.out]
    exact ⟨rfl, rfl⟩
  | some l =>
    obtain ⟨cap, -, -, d0, d1, d2, -⟩ := lvl_cells h hc
    rw [lastP_some hc] at hL
    have HL := Lib.hid hL
    have HR := Lib.hid (show s.inRow = (l.table == 1 && decide (0 < l.rows)) from by unfold PS.inRow; rw [hc])
    have e0 : ((l.table : Int) == 1) = (l.table == 1) := by rw [Bool.eq_iff_iff]; simp; omega
    have e1 : decide ((0 : Int) < (l.rows : Int)) = decide (0 < l.rows) := by congr 1; simp
    obtain ⟨x0, hx0⟩ : ∃ x, (l.table == 1) = x := ⟨_, rfl⟩
    obtain ⟨x1, hx1⟩ : ∃ x, decide (0 < l.rows) = x := ⟨_, rfl⟩
    rw [hx0] at e0 HR
    rw [hx1] at e1 HR
    clear hL hc h hx0
    cases x0 <;> cases x1
    all_goals
      go_enter Tryz.func55, Tryz.ntmps55
      go_wp2_with (first
        | (go_at_call 44; refine HL.out.mono ?_; rintro e w1 ⟨rfl, rfl⟩)
        | fail)
      go_ret
      rw [HR.out]
      exact ⟨rfl, rfl⟩
set_option maxHeartbeats 3200000 in
set_option maxRecDepth 100000 in
theorem lastIs0_any (B : Nat) (s : PS) (p : PV) (w : World) (h : ParR B w s p) : Calls Tryz.prog 43 #[parP p] w (MayPost (s.lastIs 0) w) := by
  have hL := last_any B s p w h
  cases hc : s.last with
  | none =>
    rw [lastP_none hc] at hL
    have HR := Lib.hid (show s.lastIs 0 = false from by unfold PS.lastIs; rw [hc])
    have HL := Lib.hid hL
    clear hL hc h
    go_enter Tryz.func43, Tryz.ntmps43
    go_wp2_with (first
      | (go_at_call 44; refine HL.out.mono ?_; rintro e w1 ⟨rfl, rfl⟩)
      | fail)
    go_ret
    rw [HR.out]
    exact ⟨rfl, rfl⟩
  | some l =>
    obtain ⟨cap, -, -, d0, -⟩ := lvl_cells h hc
    rw [lastP_some hc] at hL
    have hR : s.lastIs 0 = (l.table == 0) := by unfold PS.lastIs; rw [hc]
    have HL := Lib.hid hL
    have e0 : ((l.table : Int) == 0) = (l.table == 0) := by rw [Bool.eq_iff_iff]; simp
    obtain ⟨x0, hx0⟩ : ∃ x, (l.table == 0) = x := ⟨_, rfl⟩
    rw [hx0] at e0 hR
    have HR := Lib.hid hR
    clear hL hc h hR
    cases x0
    all_goals
      go_enter Tryz.func43, Tryz.ntmps43
      go_wp2_with (first
        | (go_at_call 44; refine HL.out.mono ?_; rintro e w1 ⟨rfl, rfl⟩)
        | fail)
      go_ret
      rw [HR.out]
      first | exact ⟨rfl, rfl⟩ | exact ⟨congrArg (fun x => Ending.returned (Value.bool x)) hx0, rfl⟩
set_option maxHeartbeats 3200000 in
set_option maxRecDepth 100000 in
theorem lastIs1_any (B : Nat) (s : PS) (p : PV) (w : World) (h : ParR B w s p) : Calls Tryz.prog 48 #[parP p] w (MayPost (s.lastIs 1) w) := by
  have hL := last_any B s p w h
  cases hc : s.last with
  | none =>
    rw [lastP_none hc] at hL
    have HR := Lib.hid (show s.lastIs 1 = false from by unfold PS.lastIs; rw [hc])
    have HL := Lib.hid hL
    clear hL hc h
    go_enter Tryz.func48, Tryz.ntmps48
    go_wp2_with (first
      | (go_at_call 44; refine HL.out.mono ?_; rintro e w1 ⟨rfl, rfl⟩)
      | fail)
    go_ret
    rw [HR.out]
    exact ⟨rfl, rfl⟩
  | some l =>
    obtain ⟨cap, -, -, d0, -⟩ := lvl_cells h hc
    rw [lastP_some hc] at hL
    have hR : s.lastIs 1 = (l.table == 1) := by unfold PS.lastIs; rw [hc]
    have HL := Lib.hid hL
    have e0 : ((l.table : Int) == 1) = (l.table == 1) := by rw [Bool.eq_iff_iff]; simp; omega
    obtain ⟨x0, hx0⟩ : ∃ x, (l.table == 1) = x := ⟨_, rfl⟩
    rw [hx0] at e0 hR
    have HR := Lib.hid hR
    clear hL hc h hR
    cases x0
    all_goals
      go_enter Tryz.func48, Tryz.ntmps48
      go_wp2_with (first
        | (go_at_call 44; refine HL.out.mono ?_; rintro e w1 ⟨rfl, rfl⟩)
        | fail)
      go_ret
      rw [HR.out]
      first | exact ⟨rfl, rfl⟩ | exact ⟨congrArg (fun x => Ending.returned (Value.bool x)) hx0, rfl⟩
set_option maxHeartbeats 3200000 in
set_option maxRecDepth 100000 in
theorem lastSome_any (B : Nat) (s : PS) (p : PV) (w : World) (h : ParR B w s p) : Calls Tryz.prog 50 #[parP p] w (MayPost s.last.isSome w) := by
  have hL := last_any B s p w h
  cases hc : s.last with
  | none =>
    rw [lastP_none hc] at hL
    have HL := Lib.hid hL
    clear hL hc h
    go_enter Tryz.func50, Tryz.ntmps50
    go_wp2_with (first
      | (go_at_call 44; refine HL.out.mono ?_; rintro e w1 ⟨rfl, rfl⟩)
      | fail)
    go_ret
    exact ⟨rfl, rfl⟩
  | some l =>
    rw [lastP_some hc] at hL
    have HL := Lib.hid hL
    clear hL hc h
    go_enter Tryz.func50, Tryz.ntmps50
    go_wp2_with (first
      | (go_at_call 44; refine HL.out.mono ?_; rintro e w1 ⟨rfl, rfl⟩)
      | fail)
    go_ret
    exact ⟨rfl, rfl⟩
set_option maxHeartbeats 3200000 in
set_option maxRecDepth 100000 in
theorem topNone_any (B : Nat) (s : PS) (p : PV) (w : World) (h : ParR B w s p) : Calls Tryz.prog 27 #[parP p] w (MayPost s.cur.isNone w) := by
  have hL := topic_any B s p w h
  cases hc : s.cur with
  | none =>
    rw [topP_none hc] at hL
    have HT := Lib.hid hL
    clear hL hc h
    go_enter Tryz.func27, Tryz.ntmps27
    go_wp2_with (first
      | (go_at_call 28; refine HT.out.mono ?_; rintro e w1 ⟨rfl, rfl⟩)
      | fail)
    go_ret
    exact ⟨rfl, rfl⟩
  | some l =>
    rw [topP_some hc] at hL
    have HT := Lib.hid hL
    clear hL hc h
    go_enter Tryz.func27, Tryz.ntmps27
    go_wp2_with (first
      | (go_at_call 28; refine HT.out.mono ?_; rintro e w1 ⟨rfl, rfl⟩)
      | fail)
    go_ret
    exact ⟨rfl, rfl⟩
set_option maxHeartbeats 3200000 in
set_option maxRecDepth 100000 in
theorem mayTable_any (B : Nat) (s : PS) (p : PV) (w : World) (h : ParR B w s p) : Calls Tryz.prog 46 #[parP p] w (MayPost (s.cur.isSome && s.last.isNone) w) := by
  have hT := topic_any B s p w h
  have hL := last_any B s p w h
  cases hc : s.cur with
  | none =>
    rw [topP_none hc] at hT
    have HT := Lib.hid hT
    clear hL hT hc h
    go_enter Tryz.func46, Tryz.ntmps46
    go_wp2_with (first
      | (go_at_call 28; refine HT.out.mono ?_; rintro e w1 ⟨rfl, rfl⟩)
      | fail)
    go_ret
    exact ⟨rfl, rfl⟩
  | some t =>
    rw [topP_some hc] at hT
    have HT := Lib.hid hT
    cases hl : s.last with
    | none =>
      rw [lastP_none hl] at hL
      have HL := Lib.hid hL
      clear hL hT hc hl h
      go_enter Tryz.func46, Tryz.ntmps46
      go_wp2_with (first
        | (go_at_call 28; refine HT.out.mono ?_; rintro e w1 ⟨rfl, rfl⟩)
        | (go_at_call 44; refine HL.out.mono ?_; rintro e w1 ⟨rfl, rfl⟩)
        | fail)
      go_ret
      exact ⟨rfl, rfl⟩
    | some l =>
      rw [lastP_some hl] at hL
      have HL := Lib.hid hL
      clear hL hT hc hl h
      go_enter Tryz.func46, Tryz.ntmps46
      go_wp2_with (first
        | (go_at_call 28; refine HT.out.mono ?_; rintro e w1 ⟨rfl, rfl⟩)
        | (go_at_call 44; refine HL.out.mono ?_; rintro e w1 ⟨rfl, rfl⟩)
        | fail)
      go_ret
      exact ⟨rfl, rfl⟩
set_option maxHeartbeats 3200000 in
set_option maxRecDepth 100000 in
theorem fresh_any (B : Nat) (s : PS) (p : PV) (w : World) (h : ParR B w s p) : Calls Tryz.prog 35 #[parP p] w (MayPost s.fresh w) := by
  have hT := topic_any B s p w h
  cases hc : s.cur with
  | none =>
    rw [topP_none hc] at hT
    have HT := Lib.hid hT
    have HR := Lib.hid (show s.fresh = false from by unfold PS.fresh; rw [hc])
    clear hT hc h
    go_enter Tryz.func35, Tryz.ntmps35
    go_wp2_with (first
      | (go_at_call 28; refine HT.out.mono ?_; rintro e w1 ⟨rfl, rfl⟩)
      | fail)
    go_ret
    rw [HR.out]
    exact ⟨rfl, rfl⟩
  | some t =>
    rw [topP_some hc] at hT
    have HT := Lib.hid hT
    obtain ⟨cap, sn, st, -, -, d0, d1, d2, d3, d4, d5, d6, -⟩ := top_cells (h.top t hc).1
    obtain ⟨xs, hbo, -⟩ := (h.top t hc).2.2.2
    obtain ⟨ba, bc, hbv⟩ := owns_slice hbo
    rw [hbv] at d6
    have HR := Lib.hid (show s.fresh = (t.kind == 0 && t.blks.isEmpty) from by unfold PS.fresh; rw [hc])
    have e0 : ((t.kind : Int) == 0) = (t.kind == 0) := by rw [Bool.eq_iff_iff]; simp
    have e1 : ((t.blks.length : Int) == 0) = t.blks.isEmpty := by rw [Bool.eq_iff_iff]; simp
    have e2 : (t.blks.length == 0) = t.blks.isEmpty := by rw [Bool.eq_iff_iff]; simp
    obtain ⟨x0, hx0⟩ : ∃ x, (t.kind == 0) = x := ⟨_, rfl⟩
    obtain ⟨x1, hx1⟩ : ∃ x, t.blks.isEmpty = x := ⟨_, rfl⟩
    rw [hx0] at e0 HR
    rw [hx1] at e1 e2 HR
    obtain ⟨N, hN⟩ : ∃ N, t.blks.length = N := ⟨_, rfl⟩
    rw [hN] at e1 e2 d6
    clear hT hc h hx0 hx1 hbo hbv hN
    cases x0 <;> cases x1
    all_goals
      go_enter Tryz.func35, Tryz.ntmps35
      go_wp2_with (first
        | (go_at_call 28; refine HT.out.mono ?_; rintro e w1 ⟨rfl, rfl⟩)
        | fail)
      go_ret
      rw [HR.out]
      exact ⟨rfl, rfl⟩
set_option maxHeartbeats 3200000 in
set_option maxRecDepth 100000 in
theorem mayToc_any (B : Nat) (s : PS) (p : PV) (w : World) (h : ParR B w s p) : Calls Tryz.prog 34 #[parP p] w (MayPost s.mayToc w) := by
  have hT := topic_any B s p w h
  have HF := Lib.hid (fresh_any B s p w h)
  obtain ⟨f, hf⟩ : ∃ f, s.fresh = f := ⟨_, rfl⟩
  rw [hf] at HF
  have hR : s.mayToc = (f && match s.cur with | some t => t.level == 0 | none => false) := by unfold PS.mayToc; rw [hf]
  cases f with
  | false =>
    have HR := Lib.hid (show s.mayToc = false from by rw [hR]; rfl)
    clear hT h hf hR
    go_enter Tryz.func34, Tryz.ntmps34
    go_wp2_with (first
      | (go_at_call 35; refine HF.out.mono ?_; rintro e w1 ⟨rfl, rfl⟩)
      | fail)
    go_ret
    rw [HR.out]
    exact ⟨rfl, rfl⟩
  | true =>
    cases hc : s.cur with
    | none => unfold PS.fresh at hf; rw [hc] at hf; cases hf
    | some t =>
      rw [topP_some hc] at hT
      have hR2 : s.mayToc = (t.level == 0) := by rw [hR, hc]; rfl
      have HT := Lib.hid hT
      obtain ⟨cap, sn, st, -, -, d0, d1, d2, d3, -⟩ := top_cells (h.top t hc).1
      have e0 : ((t.level : Int) == 0) = (t.level == 0) := by rw [Bool.eq_iff_iff]; simp
      obtain ⟨x0, hx0⟩ : ∃ x, (t.level == 0) = x := ⟨_, rfl⟩
      rw [hx0] at e0 hR2
      have HR := Lib.hid hR2
      clear hT hc h hf hR hR2
      cases x0
      all_goals
        go_enter Tryz.func34, Tryz.ntmps34
        go_wp2_with (first
          | (go_at_call 35; refine HF.out.mono ?_; rintro e w1 ⟨rfl, rfl⟩)
          | (go_at_call 28; refine HT.out.mono ?_; rintro e w1 ⟨rfl, rfl⟩)
          | fail)
        go_ret
        rw [HR.out]
        first | exact ⟨rfl, rfl⟩ | exact ⟨congrArg (fun x => Ending.returned (Value.bool x)) hx0, rfl⟩
set_option maxHeartbeats 3200000 in
set_option maxRecDepth 100000 in
theorem mayList_any (B : Nat) (s : PS) (p : PV) (w : World) (h : ParR B w s p) : Calls Tryz.prog 41 #[parP p] w (MayPost s.mayList w) := by
  have hT := topic_any B s p w h
  have hL := last_any B s p w h
  have HI := Lib.hid (inItem_any B s p w h)
  have hR : s.mayList = (s.cur.isSome && (s.last.isNone || s.inItem)) := rfl
  obtain ⟨f, hf⟩ : ∃ f, s.inItem = f := ⟨_, rfl⟩
  rw [hf] at HI hR
  cases hc : s.cur with
  | none =>
    rw [topP_none hc] at hT
    have HT := Lib.hid hT
    rw [hc] at hR
    have HR := Lib.hid hR
    clear hL hT hc h hR hf
    go_enter Tryz.func41, Tryz.ntmps41
    go_wp2_with (first
      | (go_at_call 28; refine HT.out.mono ?_; rintro e w1 ⟨rfl, rfl⟩)
      | fail)
    go_ret
    rw [HR.out]
    exact ⟨rfl, rfl⟩
  | some t =>
    rw [topP_some hc] at hT
    have HT := Lib.hid hT
    cases hl : s.last with
    | none =>
      rw [lastP_none hl] at hL
      have HL := Lib.hid hL
      rw [hc, hl] at hR
      have HR := Lib.hid hR
      clear hL hT hc hl h hR hf
      go_enter Tryz.func41, Tryz.ntmps41
      go_wp2_with (first
        | (go_at_call 28; refine HT.out.mono ?_; rintro e w1 ⟨rfl, rfl⟩)
        | (go_at_call 44; refine HL.out.mono ?_; rintro e w1 ⟨rfl, rfl⟩)
        | fail)
      go_ret
      rw [HR.out]
      exact ⟨rfl, rfl⟩
    | some l =>
      rw [lastP_some hl] at hL
      have HL := Lib.hid hL
      rw [hc, hl] at hR
      have HR := Lib.hid hR
      clear hL hT hc hl h hR hf
      cases f
      all_goals
        go_enter Tryz.func41, Tryz.ntmps41
        go_wp2_with (first
          | (go_at_call 28; refine HT.out.mono ?_; rintro e w1 ⟨rfl, rfl⟩)
          | (go_at_call 44; refine HL.out.mono ?_; rintro e w1 ⟨rfl, rfl⟩)
          | (go_at_call 88; refine HI.out.mono ?_; rintro e w1 ⟨rfl, rfl⟩)
          | fail)
        go_ret
        rw [HR.out]
        exact ⟨rfl, rfl⟩
set_option maxHeartbeats 3200000 in
set_option maxRecDepth 100000 in
theorem mayPara_any (B : Nat) (s : PS) (p : PV) (w : World) (h : ParR B w s p) : Calls Tryz.prog 39 #[parP p] w (MayPostD s.mayPara w) := by
  have hT := topic_any B s p w h
  have hL := fun n => last_any B s p (w.drewN n) (h.drewN n)
  have HI := Lib.hid (fun n => inItem_any B s p (w.drewN n) (h.drewN n))
  have HW := Lib.hid (fun n => inRow_any B s p (w.drewN n) (h.drewN n))
  have hR : s.mayPara = (s.cur.isSome && (s.last.isNone || s.inItem || (s.inRow && match s.last with | some l => decide (l.cells < l.widths) | none => false))) := rfl
  obtain ⟨f, hf⟩ : ∃ f, s.inItem = f := ⟨_, rfl⟩
  rw [hf] at HI hR
  obtain ⟨f2, hf2⟩ : ∃ f, s.inRow = f := ⟨_, rfl⟩
  rw [hf2] at HW hR
  cases hc : s.cur with
  | none =>
    rw [topP_none hc] at hT
    have HT := Lib.hid hT
    rw [hc] at hR
    have HR := Lib.hid hR
    clear hL hT hc h hR hf hf2
    go_enter Tryz.func39, Tryz.ntmps39
    go_wp2_with (first
      | (go_at_call 28; refine HT.out.mono ?_; rintro e w1 ⟨rfl, rfl⟩)
      | fail)
    go_ret
    rw [HR.out]
    exact ⟨rfl, 0, rfl⟩
  | some t =>
    rw [topP_some hc] at hT
    have HT := Lib.hid hT
    cases hl : s.last with
    | none =>
      rw [lastP_none hl] at hL
      have HLn := Lib.hid hL
      rw [hc, hl] at hR
      have HR := Lib.hid hR
      clear hL hT hc hl h hR hf hf2
      go_enter Tryz.func39, Tryz.ntmps39
      go_wp2_with (first
        | (go_at_call 28; refine HT.out.mono ?_; rintro e w1 ⟨rfl, rfl⟩)
        | fail)
      go_quiet ((first | (go_at_call 44; exact (HLn.out _).mono fun _ _ h => ⟨h.1, _, h.2.symm⟩) | (go_at_call 88; exact (HI.out _).mono fun _ _ h => ⟨h.1, _, h.2.symm⟩) | (go_at_call 55; exact (HW.out _).mono fun _ _ h => ⟨h.1, _, h.2.symm⟩) | fail))
      go_wp2
      go_ret
      rw [HR.out]
      exact ⟨rfl, _, rfl⟩
    | some l =>
      obtain ⟨cap, -, -, d0, d1, d2, d3, d4, -⟩ := lvl_cells h hl
      rw [lastP_some hl] at hL
      have HLn := Lib.hid hL
      rw [hc, hl] at hR
      simp only at hR
      have e1 : decide ((l.cells : Int) < (l.widths : Int)) = decide (l.cells < l.widths) := by congr 1; simp
      obtain ⟨x1, hx1⟩ : ∃ x, decide (l.cells < l.widths) = x := ⟨_, rfl⟩
      rw [hx1] at e1 hR
      have HR := Lib.hid hR
      clear hL hT hc hl h hR hf hf2
      cases f <;> cases f2 <;> cases x1
      all_goals
        go_enter Tryz.func39, Tryz.ntmps39
        go_wp2_with (first
          | (go_at_call 28; refine HT.out.mono ?_; rintro e w1 ⟨rfl, rfl⟩)
          | fail)
        go_quiet ((first | (go_at_call 44; exact (HLn.out _).mono fun _ _ h => ⟨h.1, _, h.2.symm⟩) | (go_at_call 88; exact (HI.out _).mono fun _ _ h => ⟨h.1, _, h.2.symm⟩) | (go_at_call 55; exact (HW.out _).mono fun _ _ h => ⟨h.1, _, h.2.symm⟩) | fail))
        go_wp2
        go_ret
        rw [HR.out]
        exact ⟨rfl, _, rfl⟩
theorem info_blk : (Tryz.prog.info? 114).map (fun i => (i.zero, i.size, i.bytes)) = some (some (.agg #[.int .i64 0, .int .i64 0, .string ⟨#[]⟩, .slice none 0 0, .slice none 0 0, .int .i64 0]), 6, 88) := by kernel_rfl
theorem two_newM (w : World) (o1 o2 : Obj) : ((w.alloc o1).alloc o2).heap[w.heap.size + 1]? = some o2 := by
  have := heap_alloc_new (w.alloc o1) o2
  simpa using this
/-- What a call leaves that goes on. -/
def ParOn (B : Nat) (b : Nat) (vm : Value) (s : PS) (w : World) (e : Ending) (w' : World) : Prop := e = .returned (.tuple #[]) ∧ Below B w w' ∧ ∃ p, ParR B w' s p ∧ p.b = b ∧ p.vm = vm
abbrev blkV (k n : Nat) (st wi tx : Value) (ln : Nat) : Value := .agg #[.int .i64 k, .int .i64 n, st, wi, tx, .int .i64 ln]
set_option maxHeartbeats 3200000 in
set_option maxRecDepth 100000 in
theorem add_any (B : Nat) (s : PS) (p : PV) (t : Top) (k n : Nat) (st wi tx : Value) (ln : Nat) (y : List Pc) (w : World) (h : ParR B w s p) (ht : s.cur = some t) (hB : B ≤ w.heap.size) (hy : TextR B w tx y) (hn : t.blks.length ≤ 4000000)
    (hok : (⟨k, n, st, wi, tx, ln⟩ : Blk).Ok) :
    Calls Tryz.prog 58 #[parP p, blkV k n st wi tx ln] w (ParOn B p.b p.vm (s.add y) w) := by
  obtain ⟨i0, hi0, hz0, hz1, hz2⟩ := info_parts info_blk
  have o1 : st.oneCell' = true := by obtain ⟨⟨b, hb⟩, -⟩ := hok; simp only at hb; rw [hb]; rfl
  have o2 : wi.oneCell' = true := by obtain ⟨-, a, m, c, hb⟩ := hok; simp only at hb; rw [hb]; rfl
  have o3 : tx.oneCell' = true := by obtain ⟨il, -, hb⟩ := hy; obtain ⟨a, c, rfl⟩ := owns_slice hb; rfl
  have HOK := Lib.hid hok
  clear hok
  obtain ⟨a1, a2, a3, xs, b1, b2, b3⟩ := h.top t ht
  obtain ⟨cap, sn, sti, -, -, d0, d1, d2, d3, d4, d5, d6, d7, df, dl, dB⟩ := top_cells a1
  have hT := topic_any B s p (w.alloc (.cells #[.int .i64 k, .int .i64 n, st, wi, tx, .int .i64 ln] 114)) (h.alloc _)
  rw [topP_some ht] at hT
  have HT := Lib.hid hT
  have HX := Lib.hid h
  have H3 := Lib.hid b3
  have HY := Lib.hid hy
  have o0 : ∀ u ∈ blkC ⟨k, n, st, wi, tx, ln⟩, u.oneCell' = true := by
    intro u hu
    simp only [blkC, List.mem_cons, List.not_mem_nil, or_false] at hu
    rcases hu with rfl | rfl | rfl | rfl | rfl | rfl <;> first | rfl | assumption
  clear o1 o2 o3
  have ag : some p.g ≠ p.vB.ownBlock := fun e => by
    obtain ⟨cc, hcc⟩ := owns_kind b1 p.g e.symm
    obtain ⟨cap', pre, sn', st', q1, q2, q3⟩ := a1
    obtain ⟨c', hc'⟩ := owns_kind q3 p.g (by rw [q1]; rfl)
    rw [hcc] at hc'
    cases hc'
  clear h hT a1 a2 a3 d0 d1 d2 d3 d4 d5 d7 b3 hy
  go_enter Tryz.func58, Tryz.ntmps58
  go_wp2_with (go_at_call 28; refine HT.out.mono ?_; rintro e w1 ⟨rfl, rfl⟩)
  go_region_law
    ((refine step_append_lies _ (by rfl) _ _ _ (by rfl) B 114 i0 _ 6 88 Tryz.underlying99 hi0 hz0 hz1 hz2 rfl (by omega) p.vB t.blks.length (blksC xs) (by rfl) (((b1.alloc _).drew).alloc _)
        ⟨w.heap.size + 1, 0, none⟩ 1 1 (blkC ⟨k, n, st, wi, tx, ln⟩) (by rfl) (by rfl) (World.news_of_block (cs := (blkC ⟨k, n, st, wi, tx, ln⟩).toArray) (t := 114) (fr := (0, 0)) (two_newM w _ _)) o0
        (by omega) (by unfold maxLen; omega) (by omega) (by simp; omega) (w.heap.size + 2) (by simp) ?_; intro gg cap w1 hown1 hgrow hat hlt1; have q2 := hgrow.cell_far ⟨p.g, p.o + 6, none⟩ (by simp; omega) ag; have q2f := hgrow.frozen_far ⟨p.g, p.o + 6, none⟩ (by simp; omega) ag; simp at q2 q2f))
  all_goals
    have HB : Hid (Below B w w1) := Lib.hid (((((Below.refl B w).alloc hB _).alloc (by simp; omega) _).drew).grown hgrow (by simp; omega) fun k hk => (b1.lt k hk).1)
    have Hg := Lib.hid hgrow
    have Ho := Lib.hid hown1
    clear hgrow hown1
    go_wp2
    go_end0
    have hq := (((HX.out.alloc _).alloc _).drew).added ht rfl ((((b1.alloc _).alloc _).drew)) b2 (fun i x y' hx hy' => ⟨((H3.out i x y' hx hy').1.alloc _ |>.alloc _).drew, (H3.out i x y' hx hy').2⟩) ((HY.out.alloc _ |>.alloc _).drew) HOK.out Hg.out Ho.out
    exact ⟨rfl, HB.out.setCell dB _, _, hq, rfl, rfl⟩
end Go.Proofs.YtafhmagifoapfaaGreatDoor
