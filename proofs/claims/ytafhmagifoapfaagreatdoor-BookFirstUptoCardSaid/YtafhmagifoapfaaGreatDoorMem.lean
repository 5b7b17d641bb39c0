/- What all walks over mark and src use: rows of the call's own; the lexer in memory. -/
import Derived.Test.YtafhmagifoapfaaGreatDoorProg
import Derived.WalkKit
import Derived.WalkSpells
import Derived.WalkLawsBesides
import Derived.BigCall
import Derived.Lib.Hide
import Derived.IntWalk
import Derived.OwnWalk
import Derived.RowKitTokens
import Derived.Outline
import Derived.Deep.DrawnRows
import Derived.Deep.RegionLaw
import Derived.Deep.AppendLies
import Derived.Deep.RegionHeld3
import Derived.Deep.QuietTactic
import Derived.BigQuiet
import Derived.StillTailTactics
import Derived.RegionTactic
import Derived.Test.YtafhmagifoapfaaGreatDoorPlain
import Derived.OrdersHeld
import Derived.MapKept
import Derived.Carry
namespace Go.Proofs.YtafhmagifoapfaaGreatDoor
open Go.RowKit Find Bk
theorem ret_int {k : IntKind} {a b : Int} (h : a = b) : Ending.returned (.int k a) = .returned (.int k b) := by rw [h]
theorem ret_bool {a b : Bool} (h : a = b) : Ending.returned (.bool a) = .returned (.bool b) := by rw [h]
theorem lt_of_heap {w : World} {b : Nat} {o : Obj} (h : w.heap[b]? = some o) : b < w.heap.size := (Array.getElem?_eq_some_iff.1 h).1
theorem setCell_heap' {w : World} {b i : Nat} {c : Array Value} {t : TypeId} {fr : Nat × Nat} (h : w.heap[b]? = some (.cells c t fr)) (v : Value) :
    (w.setCell ⟨b, i, none⟩ v).heap[b]? = some (.cells (c.setIfInBounds i v) t fr) := by
  simp only [World.setCell, Array.getElem?_modify, if_pos, h]; rfl
theorem setCell_heap_ne' {w : World} {b k i : Nat} (h : b ≠ k) (v : Value) : (w.setCell ⟨b, i, none⟩ v).heap[k]? = w.heap[k]? := by
  simp only [World.setCell, Array.getElem?_modify, if_neg h]
theorem cell_of_heap {w : World} {b i : Nat} {c : Array Value} {t : TypeId} {fr : Nat × Nat} (h : w.heap[b]? = some (.cells c t fr)) : w.cell? ⟨b, i, none⟩ = c[i]? := by simp [World.cell?, h]
theorem free_of_heap {w : World} {b i : Nat} {c : Array Value} {t : TypeId} (h : w.heap[b]? = some (.cells c t (0, 0))) : w.frozen? ⟨b, i, none⟩ = false := by simp [World.frozen?, h]
theorem owns_keep {w w' : World} {B : Nat} {e : TypeId} {size n : Nat} {v : Value} {xs : List Value} (h : w.ownsRow B e size v n xs) (hk : ∀ g, v.ownBlock = some g → w'.heap[g]? = w.heap[g]?) : w'.ownsRow B e size v n xs := by
  refine ⟨h.1, ?_⟩
  rcases h.2 with h0 | ⟨g, cap, cur, rfl, h1, h2, h3⟩
  · exact .inl h0
  · exact .inr ⟨g, cap, cur, rfl, h1, by rw [hk g rfl]; exact h2, h3⟩
theorem owns_kind {w : World} {B : Nat} {e : TypeId} {size n : Nat} {v : Value} {xs : List Value} (h : w.ownsRow B e size v n xs) : ∀ g, v.ownBlock = some g → ∃ c, w.heap[g]? = some (.cells c e (0, 0)) := by
  intro g hg
  rcases h.2 with ⟨rfl, _⟩ | ⟨g', cap, cur, rfl, h1, h2, h3⟩
  · cases hg
  · simp [Value.ownBlock] at hg; subst hg; exact ⟨_, h2⟩
theorem owns_new {w w' : World} {B : Nat} {e : TypeId} {size n : Nat} {v : Value} {xs : List Value} (h : w.ownsRow B e size v n xs) (hb : Below w.heap.size w w') : w'.ownsRow B e size v n xs :=
  owns_keep h fun g hg => hb.block g (h.lt g hg).2
/-- Rows of two types lie in two blocks. -/
theorem owns_apart {w : World} {B : Nat} {e : TypeId} {size n : Nat} {v : Value} {xs : List Value} (h : w.ownsRow B e size v n xs) {b : Nat} {c : Array Value} {t : TypeId} {fr : Nat × Nat} (hb : w.heap[b]? = some (.cells c t fr)) (hne : t ≠ e) : v.ownBlock ≠ some b := fun hg => by
  obtain ⟨c', hc'⟩ := owns_kind h b hg
  rw [hb] at hc'
  simp only [Option.some.injEq, Obj.cells.injEq] at hc'
  exact hne hc'.2.1
theorem owns_slice {w : World} {B : Nat} {e : TypeId} {size n : Nat} {v : Value} {xs : List Value} (h : w.ownsRow B e size v n xs) : ∃ a c, v = .slice a n c := by
  rcases h.2 with ⟨rfl, h0⟩ | ⟨g, cap, cur, rfl, _⟩
  · exact ⟨none, 0, by rw [h0]⟩
  · exact ⟨_, _, rfl⟩
/-! ### The lexer in memory -/
def tokC (t : Tok) : List Value := [.int .i64 t.kind, .string ⟨t.name.toArray⟩, .string ⟨t.text.toArray⟩, .int .i64 t.line, .int .i64 t.col]
def toksC (l : List Tok) : List Value := l.flatMap tokC
def brcC (b : Brc) : List Value := [.string ⟨b.name.toArray⟩, .int .i64 b.line, .int .i64 b.col]
def brcsC (l : List Brc) : List Value := l.flatMap brcC
theorem toksC_snoc (l : List Tok) (t : Tok) : toksC (l ++ [t]) = toksC l ++ tokC t := by simp [toksC]
theorem brcsC_snoc (l : List Brc) (t : Brc) : brcsC (l ++ [t]) = brcsC l ++ brcC t := by simp [brcsC]
theorem brcsC_len : ∀ l : List Brc, (brcsC l).length = l.length * 3
  | [] => rfl
  | t :: l => by have := brcsC_len l; simp only [brcsC, List.flatMap_cons, List.length_append, List.length_cons] at *; rw [this]; simp [brcC]; omega
/-- The lexer's block: its cells, the rows of its two slices. -/
structure LexR (B : Nat) (w : World) (b : Nat) (C : Array Value) (vo vp : Value) (out : List Tok) (opn : List Brc) : Prop where
  blk : w.heap[b]? = some (.cells C 81 (0, 0))
  c0 : C[0]? = some vo
  c1 : C[1]? = some vp
  size : C.size = 12
  toks : w.ownsRow B 59 5 vo out.length (toksC out)
  brcs : w.ownsRow B 171 3 vp opn.length (brcsC opn)
  base : B ≤ b
section
variable {B b : Nat} {w : World} {C : Array Value} {vo vp : Value} {out : List Tok} {opn : List Brc}
theorem LexR.lt (h : LexR B w b C vo vp out opn) : b < w.heap.size := lt_of_heap h.blk
theorem LexR.keep (h : LexR B w b C vo vp out opn) {w' : World} (hk : ∀ k, B ≤ k → k < w.heap.size → w'.heap[k]? = w.heap[k]?) : LexR B w' b C vo vp out opn :=
  ⟨by rw [hk b h.base h.lt]; exact h.blk, h.c0, h.c1, h.size, owns_keep h.toks fun g hg => hk g (h.toks.lt g hg).1 (h.toks.lt g hg).2, owns_keep h.brcs fun g hg => hk g (h.brcs.lt g hg).1 (h.brcs.lt g hg).2, h.base⟩
theorem LexR.new (h : LexR B w b C vo vp out opn) {w' : World} (hb : Below w.heap.size w w') : LexR B w' b C vo vp out opn := h.keep fun k _ hk => hb.block k hk
theorem LexR.alloc (h : LexR B w b C vo vp out opn) (o : Obj) : LexR B (w.alloc o) b C vo vp out opn := h.new ((Below.refl _ _).alloc (Nat.le_refl _) _)
theorem LexR.drew (h : LexR B w b C vo vp out opn) : LexR B w.drew b C vo vp out opn := ⟨h.blk, h.c0, h.c1, h.size, h.toks, h.brcs, h.base⟩
theorem LexR.drewN (h : LexR B w b C vo vp out opn) (n : Nat) : LexR B (w.drewN n) b C vo vp out opn := ⟨h.blk, h.c0, h.c1, h.size, h.toks, h.brcs, h.base⟩
theorem LexR.set (h : LexR B w b C vo vp out opn) (i : Nat) (hi : 2 ≤ i) (v : Value) : LexR B (w.setCell ⟨b, i, none⟩ v) b (C.setIfInBounds i v) vo vp out opn :=
  ⟨setCell_heap' h.blk v, by rw [Array.getElem?_setIfInBounds_ne (by omega)]; exact h.c0, by rw [Array.getElem?_setIfInBounds_ne (by omega)]; exact h.c1, by simpa using h.size,
   owns_keep h.toks fun g hg => setCell_heap_ne' (fun e => owns_apart h.toks h.blk (by decide) (by rw [hg, e])) _,
   owns_keep h.brcs fun g hg => setCell_heap_ne' (fun e => owns_apart h.brcs h.blk (by decide) (by rw [hg, e])) _, h.base⟩
theorem LexR.far (h : LexR B w b C vo vp out opn) : some b ≠ vo.ownBlock ∧ some b ≠ vp.ownBlock ∧ ∀ g, vo.ownBlock = some g → vp.ownBlock ≠ some g :=
  ⟨fun e => owns_apart h.toks h.blk (by decide) e.symm, fun e => owns_apart h.brcs h.blk (by decide) e.symm, fun g hg => by
    obtain ⟨c, hc⟩ := owns_kind h.toks g hg
    exact owns_apart h.brcs hc (by decide)⟩
/-- A token more. -/
theorem LexR.told (h : LexR B w b C vo vp out opn) {w1 : World} {v : Value} {t : Tok} {n : Nat} (hn : n = out.length + 1) (hg : w.grownBy w1 vo.ownBlock) (ho : w1.ownsRow B 59 5 v n (toksC out ++ tokC t)) :
    LexR B (w1.setCell ⟨b, 0, none⟩ v) b (C.setIfInBounds 0 v) v vp (out ++ [t]) opn := by
  subst hn
  have h0 : w1.heap[b]? = some (.cells C 81 (0, 0)) := by rw [hg.block b h.lt h.far.1]; exact h.blk
  refine ⟨setCell_heap' h0 v, by rw [Array.getElem?_setIfInBounds_self_of_lt (by rw [h.size]; omega)], by rw [Array.getElem?_setIfInBounds_ne (by omega)]; exact h.c1, by simpa using h.size, ?_, ?_, h.base⟩
  · rw [toksC_snoc, List.length_append]
    exact owns_keep ho fun g hg => setCell_heap_ne' (fun e => owns_apart ho h0 (by decide) (by rw [hg, e])) _
  · refine owns_keep h.brcs fun g hgg => ?_
    rw [setCell_heap_ne' (fun e => owns_apart h.brcs h.blk (by decide) (by rw [hgg, e])) _, hg.block g (h.brcs.lt g hgg).2 (fun e => h.far.2.2 g e.symm hgg)]
/-- A brace more. -/
theorem LexR.opened (h : LexR B w b C vo vp out opn) {w1 : World} {v : Value} {t : Brc} {n : Nat} (hn : n = opn.length + 1) (hg : w.grownBy w1 vp.ownBlock) (ho : w1.ownsRow B 171 3 v n (brcsC opn ++ brcC t)) :
    LexR B (w1.setCell ⟨b, 1, none⟩ v) b (C.setIfInBounds 1 v) vo v out (opn ++ [t]) := by
  subst hn
  have h0 : w1.heap[b]? = some (.cells C 81 (0, 0)) := by rw [hg.block b h.lt h.far.2.1]; exact h.blk
  refine ⟨setCell_heap' h0 v, by rw [Array.getElem?_setIfInBounds_ne (by omega)]; exact h.c0, by rw [Array.getElem?_setIfInBounds_self_of_lt (by rw [h.size]; omega)], by simpa using h.size, ?_, ?_, h.base⟩
  · refine owns_keep h.toks fun g hgg => ?_
    rw [setCell_heap_ne' (fun e => owns_apart h.toks h.blk (by decide) (by rw [hgg, e])) _, hg.block g (h.toks.lt g hgg).2 (fun e => h.far.2.2 g hgg e.symm)]
  · rw [brcsC_snoc, List.length_append]
    exact owns_keep ho fun g hg => setCell_heap_ne' (fun e => owns_apart ho h0 (by decide) (by rw [hg, e])) _
end
def lexC (vo vp : Value) (s : LS) : Array Value := #[vo, vp, .int .i64 s.ins, .int .i64 s.run.kind, .string ⟨s.run.name.toArray⟩, .string ⟨s.run.text.toArray⟩, .int .i64 s.run.line, .int .i64 s.run.col, .int .i64 s.b0, .int .i64 s.b1, .int .i64 s.fresh, .int .i64 s.line]
/-- The lexer lies in block b. -/
def LexAt (B : Nat) (w : World) (b : Nat) (s : LS) : Prop := ∃ vo vp, LexR B w b (lexC vo vp s) vo vp s.out s.opn
theorem lex_cells {B b : Nat} {w : World} {vo vp : Value} {s : LS} {out : List Tok} {opn : List Brc} (h : LexR B w b (lexC vo vp s) vo vp out opn) :
    w.cell? ⟨b, 0, none⟩ = some vo ∧ w.cell? ⟨b, 1, none⟩ = some vp ∧ w.cell? ⟨b, 2, none⟩ = some (.int .i64 s.ins) ∧ w.cell? ⟨b, 3, none⟩ = some (.int .i64 s.run.kind) ∧ w.cell? ⟨b, 4, none⟩ = some (.string ⟨s.run.name.toArray⟩) ∧ w.cell? ⟨b, 5, none⟩ = some (.string ⟨s.run.text.toArray⟩) ∧
    w.cell? ⟨b, 6, none⟩ = some (.int .i64 s.run.line) ∧ w.cell? ⟨b, 7, none⟩ = some (.int .i64 s.run.col) ∧ w.cell? ⟨b, 8, none⟩ = some (.int .i64 s.b0) ∧ w.cell? ⟨b, 9, none⟩ = some (.int .i64 s.b1) ∧ w.cell? ⟨b, 10, none⟩ = some (.int .i64 s.fresh) ∧ w.cell? ⟨b, 11, none⟩ = some (.int .i64 s.line) ∧ ∀ i, w.frozen? ⟨b, i, none⟩ = false :=
  ⟨by rw [cell_of_heap h.blk]; rfl, by rw [cell_of_heap h.blk]; rfl, by rw [cell_of_heap h.blk]; rfl, by rw [cell_of_heap h.blk]; rfl, by rw [cell_of_heap h.blk]; rfl, by rw [cell_of_heap h.blk]; rfl, by rw [cell_of_heap h.blk]; rfl, by rw [cell_of_heap h.blk]; rfl, by rw [cell_of_heap h.blk]; rfl, by rw [cell_of_heap h.blk]; rfl, by rw [cell_of_heap h.blk]; rfl, by rw [cell_of_heap h.blk]; rfl, fun i => free_of_heap h.blk⟩
/-- Bounds that hold throughout. -/
structure LS.Ok (s : LS) : Prop where
  line : s.line ≤ 70000
  out : s.out.length ≤ 400000
  opn : s.opn.length ≤ 16
  b0 : s.b0 ≤ 70000
  b1 : s.b1 ≤ 70000
theorem info_tok : (Tryz.prog.info? 59).map (fun i => (i.zero, i.size, i.bytes)) = some (some (.agg #[.int .i64 0, .string ⟨#[]⟩, .string ⟨#[]⟩, .int .i64 0, .int .i64 0]), 5, 56) := by kernel_rfl
theorem info_brc : (Tryz.prog.info? 171).map (fun i => (i.zero, i.size, i.bytes)) = some (some (.agg #[.string ⟨#[]⟩, .int .i64 0, .int .i64 0]), 3, 32) := by kernel_rfl
end Go.Proofs.YtafhmagifoapfaaGreatDoor
namespace Go.Proofs.YtafhmagifoapfaaGreatDoor
open Go.RowKit
section
variable {P : Program} {ops : Array Oper} {Q : Exit → Act → World → Prop} {md : Region.Mode} {S : World → Prop} {z : Nat}
/-- In any order; behind all but number z the world meets S. -/
def AnyT (P : Program) (md : Region.Mode) (ops : Array Oper) (Q : Exit → Act → World → Prop) (S : World → Prop) (z : Nat) : Nat → Array Bool → Act → World → Prop
  | 0, l, a, w => Region.ready md ops l = [] ∧ Q .normal a w
  | n + 1, l, a, w => (Region.ready md ops l = [] → Q .normal a w) ∧ ∀ k ∈ Region.ready md ops l, wpOp P ops Q k (fun a' w' => (k ≠ z → S w') ∧ AnyT P md ops Q S z n (l.setIfInBounds k true) a' w') a w
theorem anyT_any : ∀ (n : Nat) (l : Array Bool) (a : Act) (w : World), AnyT P md ops Q S z n l a w → wpAny P md ops Q n l a w
  | 0, _, _, _, h => h
  | n + 1, _, _, _, h => ⟨h.1, fun k hk => wpOp_mono (fun a' w' h' => anyT_any n _ a' w' h'.2) (h.2 k hk)⟩
/-- What is still to come up is not there where something waits for it. -/
theorem not_listed {i j : Nat} {l : Array Bool} {oj : Oper} (hr : i ∈ Region.ready md ops l) (hoj : ops[j]? = some oj) (hj : j ∈ Region.ready md ops l) : ∀ e ∈ oj.after, Region.binds md e = true → e.on ≠ i := fun e he hb heq => by
  obtain ⟨_, o2, ho2, hall⟩ := mem_ready.1 hj
  rw [hoj] at ho2
  cases ho2
  have h1 := hall e he hb
  have h0 := (mem_ready.1 hr).1
  rw [heq] at h1
  rcases Nat.lt_or_ge i l.size with h' | h'
  · simp [h'] at h0 h1; rw [h0] at h1; cases h1
  · simp [Array.getElem?_eq_none h'] at h1
theorem anyT_first {i : Nat} {oi : Oper} {v : Value} (hi : ops[i]? = some oi) (hsel : ∀ (j : Nat) (o : Oper) cs b, ops[j]? = some o → o.op ≠ .select cs b) (hQ : ∀ c a w, Q (.panic c) (a.put oi.dst v) w → Q (.panic c) a w)
    (hw : ∀ oz, ops[z]? = some oz → ∃ e ∈ oz.after, Region.binds md e = true ∧ e.on = i) :
    ∀ (n : Nat) (l : Array Bool) (a : Act) (w : World), (∀ j oj, ops[j]? = some oj → j ≠ i → l.getD j true = false → (∀ e ∈ oj.after, Region.binds md e = true → e.on ≠ i) → oi.apart ops oj = true) →
      i ∈ Region.ready md ops l → YieldsIf P ops S oi v a → S w → AnyT P md ops Q S z n (l.setIfInBounds i true) (a.put oi.dst v) w → AnyT P md ops Q S z (n + 1) l a w := by
  intro n
  induction n with
  | zero =>
    intro l a w _ hr hy hS H
    refine ⟨fun h => (by rw [h] at hr; cases hr), fun j hj => ?_⟩
    by_cases hji : j = i
    · subst hji; exact hy.wpOp hi hS ⟨fun _ => hS, H⟩
    · have h0 := ready_mono hj hji
      rw [H.1] at h0
      cases h0
  | succ n ih =>
    intro l a w hfree hr hy hS H
    refine ⟨fun h => (by rw [h] at hr; cases hr), fun j hj => ?_⟩
    by_cases hji : j = i
    · subst hji; exact hy.wpOp hi hS ⟨fun _ => hS, H⟩
    obtain ⟨hun, oj, hoj, _⟩ := mem_ready.1 hj
    have hno := not_listed hr hoj hj
    have hjz : j ≠ z := fun e => by
      subst e
      obtain ⟨e, he, hb, heq⟩ := hw oj hoj
      exact hno e he hb heq
    have h2 := wpOp_putIf hoj (hfree j oj hoj hji hun hno) (fun cs b => hsel i oi cs b hi) (fun cs b => hsel j oj cs b hoj) hQ hy (H.2 j (ready_mono hj hji))
    refine wpOp_mono (fun a' w' h3 => ⟨h3.2.1, ih _ a' w' (fun k ok hk hki hku hkn => hfree k ok hk hki ?_ hkn) (ready_mono hr (Ne.symm hji)) h3.1 (h3.2.1 hjz) ?_⟩) h2
    · by_cases hjk : j = k
      · subst hjk; exact hun
      · rw [getD_set_ne true hjk] at hku; exact hku
    · rw [Array.setIfInBounds_comm _ _ hji]
      exact h3.2.2
/-- Number i is taken first. -/
theorem anyT_take {i : Nat} {oi oz : Oper} {v : Value} {n : Nat} {l : Array Bool} {a : Act} {w : World} (hi : ops[i]? = some oi) (hz : ops[z]? = some oz) (hs : Region.noSelect ops = true) (hf : Region.free md ops l i = true) (hr : (Region.ready md ops l).contains i = true)
    (hwt : (oz.after.toList.any fun e => Region.binds md e && e.on == i) = true) (hQ : ∀ c a w, Q (.panic c) (a.put oi.dst v) w → Q (.panic c) a w) (hy : YieldsIf P ops S oi v a) (hS : S w)
    (h : AnyT P md ops Q S z n (l.setIfInBounds i true) (a.put oi.dst v) w) : AnyT P md ops Q S z (n + 1) l a w := by
  refine anyT_first hi (Region.noSelect_spec hs) hQ ?_ n l a w (Region.free_spec hi hf) (by simpa using hr) hy hS h
  intro o ho
  rw [hz] at ho
  cases ho
  obtain ⟨e, he, hb⟩ := List.any_eq_true.1 hwt
  simp only [Bool.and_eq_true, beq_iff_eq] at hb
  exact ⟨e, Array.mem_toList_iff.1 he, hb.1, hb.2⟩
/-- Number j alone may come up. -/
theorem anyT_one {j : Nat} {o : Oper} {n : Nat} {l : Array Bool} {a : Act} {w : World} (hr : Region.ready md ops l = [j]) (ho : ops[j]? = some o)
    (h : ∀ K : Act → World → Prop, (∀ a' w', ((j ≠ z → S w') ∧ AnyT P md ops Q S z n (l.setIfInBounds j true) a' w') → K a' w') → if Region.wanted o (yielded ops a.tmps) = true then Oper.wp P o a w K Q else K (a.put o.dst undef) w) : AnyT P md ops Q S z (n + 1) l a w :=
  by
  refine ⟨fun h0 => (by rw [hr] at h0; cases h0), fun k hk => ?_⟩
  rw [hr] at hk
  simp only [List.mem_singleton] at hk
  subst hk
  exact wpOp_step ho h
theorem anyT_done {l : Array Bool} {a : Act} {w : World} (hr : Region.ready md ops l = []) (h : Q .normal a w) : ∀ n, AnyT P md ops Q S z n l a w
  | 0 => ⟨hr, h⟩
  | _ + 1 => ⟨fun _ => h, by rw [hr]; simp⟩
theorem region_anyT {id : Nat} {a : Act} {w : World} (S : World → Prop) (z : Nat) (hm : P.follows .mixedOrders = true) (h : AnyT P .any ops Q S z ops.size (Array.replicate ops.size false) a w.drew) : (Code.region id ops true).wp P Q a w :=
  wp_region_any hm (anyT_any _ _ _ _ h)
end
end Go.Proofs.YtafhmagifoapfaaGreatDoor
namespace Go.Proofs.YtafhmagifoapfaaGreatDoor
open Go.RowKit Find Bk
attribute [local go_sem ↓] Go.wp_at_zero Go.wp_at_succ
def fnV (f : Nat) : Value := .func (.func f) #[] #[]
/-- The functions of each directive: whether it may stand, what it does. -/
def ordF : List (Nat × Nat) := [(27, 29), (30, 31), (30, 33), (34, 36), (35, 37), (35, 38), (39, 40), (41, 42), (43, 45), (46, 47), (48, 49), (50, 51)]
def ordE (l : List Wd) (m : List (Nat × Nat)) (k : Nat) : List MapEntry := match l, m with
  | x :: l, f :: m => ⟨.string ⟨x.toArray⟩, .agg #[fnV f.1, fnV f.2], k⟩ :: ordE l m (k + 1)
  | _, _ => []
/-- The map when i have been laid. -/
def ordP (i : Nat) : Obj := .map (ordE (PS.names.take i) ordF 0).toArray i
def ordO : Obj := ordP 12
theorem put_alloc (w : World) (o o' : Obj) : ({ w.alloc o with heap := (w.alloc o).heap.setIfInBounds w.heap.size o' } : World) = w.alloc o' := by
  have : (w.heap.push o).setIfInBounds w.heap.size o' = w.heap.push o' := by
    apply Array.ext'
    simp
  show ({ w with heap := (w.heap.push o).setIfInBounds w.heap.size o' } : World) = { w with heap := w.heap.push o' }
  rw [this]
theorem get_map {P : Program} {w : World} {r : Nat} {es : Array MapEntry} {c : Nat} (h : w.heap[r]? = some (.map es c)) : (getObj r).run P w = .ok (.map es c) w := by simp [getObj, Sem.run, h]
theorem set_map {P : Program} {w : World} {r : Nat} {es : Array MapEntry} {c : Nat} (o' : Obj) (h : w.heap[r]? = some (.map es c)) : (setObj r o').run P w = .ok () { w with heap := w.heap.setIfInBounds r o' } := by simp [setObj, Sem.run, h]
theorem run_checkKeyS {P : Program} {t : TypeId} (hd : P.underlying t = some .string) (b : Bool) (v : Value) (w : World) : (Instr.checkKey b 10000 t v).run P w = .ok () w := by
  show (Instr.checkKey b (9999 + 1) t v).run P w = .ok () w
  unfold Instr.checkKey
  simp only [Sem.run_bind, run_underlying hd, Result.andThen_ok]
  rfl
theorem run_findKeyS {P : Program} {t : TypeId} {k : Value} {es : List MapEntry} {r : Option (Nat × Value)} (hd : P.underlying t = some .string) (hf : Instr.findNow .string k es 0 = some r) (w : World) : (Instr.findKey t k es).run P w = .ok r w := by
  unfold Instr.findKey
  simp only [Sem.run_bind, run_underlying hd, Result.andThen_ok, hf]
  rfl
theorem run_insert_new {P : Program} {t kt e : TypeId} (hu : P.underlying t = some (.map kt e)) (hd : P.underlying kt = some .string) (w : World) (es : Array MapEntry) (c : Nat) (k v : Value) (hf : Instr.findNow .string k es.toList 0 = some none) :
    (Instr.mapUpdate t (.map (some w.heap.size)) k v).run P (w.alloc (.map es c)) = .ok () (w.alloc (.map (es.push ⟨k, v, c⟩) (c + 1))) := by
  have hg := get_map (P := P) (heap_alloc_new w (.map es c))
  have hs := set_map (P := P) (.map (es.push ⟨k, v, c⟩) (c + 1)) (heap_alloc_new w (.map es c))
  have hf2 := run_findKeyS (P := P) hd hf (w.alloc (.map es c))
  unfold Instr.mapUpdate
  simp only [Sem.run_bind, run_underlying hu, Result.andThen_ok, hg, run_checkKeyS hd, hf2]
  refine hs.trans ?_
  exact congrArg (Result.ok ()) (put_alloc w _ _)
theorem ord_step (i f g : Nat) (k : Wd) (hf : Instr.findNow .string (.string ⟨k.toArray⟩) (ordE (PS.names.take i) ordF 0) 0 = some none) (he : (ordE (PS.names.take i) ordF 0) ++ [⟨.string ⟨k.toArray⟩, .agg #[fnV f, fnV g], i⟩] = ordE (PS.names.take (i + 1)) ordF 0) (w : World) :
    (Instr.mapUpdate 53 (.map (some w.heap.size)) (.string ⟨k.toArray⟩) (.agg #[.func (.func f) #[] #[], .func (.func g) #[] #[]])).run Tryz.prog (w.alloc (ordP i)) = .ok () (w.alloc (ordP (i + 1))) := by
  refine (run_insert_new (kt := 9) (e := 95) (by kernel_rfl) (by kernel_rfl) w _ i _ _ hf).trans ?_
  unfold ordP
  rw [← he]
  simp [fnV]
set_option maxHeartbeats 3200000 in
set_option maxRecDepth 100000 in
theorem orders_any (w : World) : Calls Tryz.prog 13 #[] w fun e w' => e = .returned (.map (some w.heap.size)) ∧ w' = w.alloc ordO := by
  have hm : (Instr.makeMap 53 none).run Tryz.prog w = .ok (.map (some w.heap.size)) (w.alloc (ordP 0)) := rfl
  have h0 := ord_step 0 27 29 [115, 116, 121, 108, 101] (by kernel_rfl) rfl w
  have h1 := ord_step 1 30 31 [116, 111, 112, 105, 99] (by kernel_rfl) rfl w
  have h2 := ord_step 2 30 33 [110, 111, 116, 101] (by kernel_rfl) rfl w
  have h3 := ord_step 3 34 36 [116, 111, 99] (by kernel_rfl) rfl w
  have h4 := ord_step 4 35 37 [107, 101, 121] (by kernel_rfl) rfl w
  have h5 := ord_step 5 35 38 [115, 101, 101] (by kernel_rfl) rfl w
  have h6 := ord_step 6 39 40 [112, 97, 114, 97] (by kernel_rfl) rfl w
  have h7 := ord_step 7 41 42 [108, 105, 115, 116] (by kernel_rfl) rfl w
  have h8 := ord_step 8 43 45 [105, 116, 101, 109] (by kernel_rfl) rfl w
  have h9 := ord_step 9 46 47 [116, 97, 98, 108, 101] (by kernel_rfl) rfl w
  have h10 := ord_step 10 48 49 [114, 111, 119] (by kernel_rfl) rfl w
  have h11 := ord_step 11 50 51 [101, 110, 100] (by kernel_rfl) rfl w
  go_enter Tryz.func13, Tryz.ntmps13
  go_wp2
  go_ret
  exact ⟨rfl, rfl⟩
theorem look_hit (x : Wd) (i : Nat) (v : Value) (hf : Instr.findNow .string (.string ⟨x.toArray⟩) (ordE PS.names ordF 0) 0 = some (some (i, v))) (w : World) (r : Nat) (h : w.heap[r]? = some ordO) : (Instr.lookup 53 (.map (some r)) (.string ⟨x.toArray⟩) true).run Tryz.prog w = .ok (.tuple #[v, .bool true]) w := by
  have hu : Tryz.prog.underlying 53 = some (.map 9 95) := by kernel_rfl
  have hd : Tryz.prog.underlying 9 = some .string := by kernel_rfl
  have hg := get_map (P := Tryz.prog) h
  have hf2 := run_findKeyS (P := Tryz.prog) hd hf w
  unfold Instr.lookup
  simp only [Sem.run_bind, run_underlying hu, Result.andThen_ok, hg, Sem.run_pure, run_checkKeyS hd]
  rw [show List.take 12 PS.names = PS.names from rfl, hf2]
  rfl
theorem look_miss (x : Wd) (hf : Instr.findNow .string (.string ⟨x.toArray⟩) (ordE PS.names ordF 0) 0 = some none) (w : World) (r : Nat) (h : w.heap[r]? = some ordO) : (Instr.lookup 53 (.map (some r)) (.string ⟨x.toArray⟩) true).run Tryz.prog w = .ok (.tuple #[.agg #[.nilFunc, .nilFunc], .bool false]) w := by
  have hu : Tryz.prog.underlying 53 = some (.map 9 95) := by kernel_rfl
  have hd : Tryz.prog.underlying 9 = some .string := by kernel_rfl
  have hg := get_map (P := Tryz.prog) h
  have hz : (zeroValue 95).run Tryz.prog w = .ok (.agg #[.nilFunc, .nilFunc]) w := by kernel_rfl
  have hf2 := run_findKeyS (P := Tryz.prog) hd hf w
  unfold Instr.lookup
  simp only [Sem.run_bind, run_underlying hu, Result.andThen_ok, hg, Sem.run_pure, run_checkKeyS hd]
  rw [show List.take 12 PS.names = PS.names from rfl, hf2]
  simp only [Sem.run_bind, Result.andThen_ok, hz]
  rfl
theorem bytes_ne {a b : Wd} (h : a ≠ b) : ((⟨a.toArray⟩ : ByteArray) == ⟨b.toArray⟩) = false := by
  show (a.toArray == b.toArray) = false
  rw [beq_eq_false_iff_ne]
  intro e
  exact h (by have := congrArg Array.toList e; simpa using this)
theorem find_miss (x : Wd) : ∀ (l : List Wd) (m : List (Nat × Nat)) (k i : Nat), (∀ y ∈ l, y ≠ x) → Instr.findNow .string (.string ⟨x.toArray⟩) (ordE l m k) i = some none
  | [], m, k, i, h => by unfold ordE; rfl
  | y :: l, [], k, i, h => by unfold ordE; rfl
  | y :: l, f :: m, k, i, h => by
    unfold ordE Instr.findNow Instr.sameNow
    simp only [bytes_ne (h y (by simp)).symm]
    exact find_miss x l m (k + 1) (i + 1) (fun z hz => h z (by simp [hz]))
end Go.Proofs.YtafhmagifoapfaaGreatDoor
