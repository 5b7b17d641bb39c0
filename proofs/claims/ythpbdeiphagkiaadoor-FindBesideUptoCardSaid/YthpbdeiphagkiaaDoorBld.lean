/- strings.Builder, at this dump: every write, String, Reset, Len; the frame exact. -/
import Derived.Test.YthpbdeiphagkiaaDoorEv
import Derived.Lib.Builder
import Derived.Lib.UnsafeStr
import Derived.Lib.RuneBytes
import Derived.Lib.FrozenHead
import Derived.OwnWalk
import Derived.RegionTactic
import Derived.Lib.AppendStr
import Derived.Test.YthpbdeiphagkiaaDoorShelf
namespace Go.Proofs.YthpbdeiphagkiaaDoor
open Go.RowKit

/-- A builder in block b whose bytes are bs; F holds its blocks. -/
def Bld (w : World) (b : Nat) (bs : List UInt8) (F : Nat → Prop) : Prop :=
  ∃ p v, (p = .pointer none ∨ p = .pointer (some ⟨b, 0, none⟩)) ∧ w.heap[b]? = some (.cells #[p, v] 71 (0, 0)) ∧ w.ownsRow 0 5 1 v bs.length (Lib.byteCells bs) ∧ F b ∧ ∀ g, v.ownBlock = some g → F g
/-- A builder that has been read: some of its row is frozen; it is only reset or left behind. -/
def BldR (w : World) (b : Nat) (F : Nat → Prop) : Prop := ∃ p v, w.heap[b]? = some (.cells #[p, v] 71 (0, 0)) ∧ F b

theorem Bld.lt {w : World} {b : Nat} {bs : List UInt8} {F : Nat → Prop} (h : Bld w b bs F) : b < w.heap.size := by
  obtain ⟨p, v, _, hb, _⟩ := h
  exact lt_of_heap hb
theorem Bld.fresh (w : World) (F : Nat → Prop) (hF : F w.heap.size) : Bld (w.alloc (.cells #[.pointer none, .slice none 0 0] 71)) w.heap.size [] F :=
  ⟨_, _, .inl rfl, heap_alloc_new _ _, World.ownsRow_nil _ _ _ _, hF, fun g hg => by cases hg⟩
theorem Bld.keep {w w' : World} {b : Nat} {bs : List UInt8} {F : Nat → Prop} (h : Bld w b bs F) (hk : ∀ k, F k → k < w.heap.size → w'.heap[k]? = w.heap[k]?) : Bld w' b bs F := by
  obtain ⟨p, v, hp, hb, hown, hF, hg⟩ := h
  refine ⟨p, v, hp, by rw [hk b hF (lt_of_heap hb)]; exact hb, ⟨hown.1, ?_⟩, hF, hg⟩
  rcases hown.2 with h0 | ⟨g, cap, cur, rfl, h1, h2, h3⟩
  · exact .inl h0
  · exact .inr ⟨g, cap, cur, rfl, h1, by rw [hk g (hg g rfl) (lt_of_heap h2)]; exact h2, h3⟩
theorem Bld.alloc {w : World} {b : Nat} {bs : List UInt8} {F : Nat → Prop} (h : Bld w b bs F) (o : Obj) : Bld (w.alloc o) b bs F :=
  h.keep fun k _ hk => Below.heap_alloc _ _ _ hk
theorem Bld.wide {w : World} {b : Nat} {bs : List UInt8} {F G : Nat → Prop} (h : Bld w b bs F) (hw : ∀ k, F k → G k) : Bld w b bs G := by
  obtain ⟨p, v, hp, hb, hown, hF, hg⟩ := h
  exact ⟨p, v, hp, hb, hown, hw _ hF, fun g e => hw _ (hg g e)⟩
theorem Bld.cells {w : World} {b : Nat} {bs : List UInt8} {F : Nat → Prop} (h : Bld w b bs F) :
    ∃ p a c, (p = .pointer none ∨ p = .pointer (some ⟨b, 0, none⟩)) ∧ w.cell? ⟨b, 0, none⟩ = some p ∧ w.cell? ⟨b, 1, none⟩ = some (.slice a bs.length c) ∧ (∀ i, w.frozen? ⟨b, i, none⟩ = false) ∧ w.shape? b = some (71, 2) := by
  obtain ⟨p, v, hp, hb, hown, hF, hg⟩ := h
  obtain ⟨a, c, rfl⟩ : ∃ a c, v = .slice a bs.length c := by
    rcases hown.2 with ⟨rfl, h0⟩ | ⟨g, cap, cur, rfl, _⟩
    · exact ⟨none, 0, by rw [h0]⟩
    · exact ⟨_, _, rfl⟩
  exact ⟨p, a, c, hp, by simp [World.cell?, hb], by simp [World.cell?, hb], fun i => by simp [World.frozen?, hb], by simp [World.shape?, hb]⟩

theorem info_byte : (Tryd.prog.info? 5).map (fun i => (i.zero, i.size, i.bytes)) = some (some (.int .u8 0), 1, 1) := by kernel_rfl
theorem info_bld : (Tryd.prog.info? 71).map (·.size) = some 2 := by kernel_rfl
theorem lies_bld : liesAt Tryd.prog Tryd.prog.depth 71 (2 / Tryd.prog.cellsOf 71) 0 71 1 = true := by kernel_rfl

set_option maxHeartbeats 800000 in
theorem len_any (b : Nat) (bs : List UInt8) (F : Nat → Prop) (w : World) (h : Bld w b bs F) :
    Calls Tryd.prog 40 #[.pointer (some ⟨b, 0, none⟩)] w fun e w' => e = .returned (.int .i64 bs.length) ∧ w = w' := by
  obtain ⟨p, a, c, hp, c0, c1, cf, hsh⟩ := h.cells
  clear h hp
  go_enter Tryd.func40, Tryd.ntmps40
  go_wp2
  go_ret
  exact ⟨rfl, rfl⟩

set_option maxHeartbeats 800000 in
theorem reset_any (b : Nat) (F : Nat → Prop) (w : World) (h : BldR w b F) :
    Calls Tryd.prog 41 #[.pointer (some ⟨b, 0, none⟩)] w fun e w' => e = .returned (.tuple #[]) ∧ Bld w' b [] F ∧ Ev F w F w' := by
  obtain ⟨p, v, hb, hF⟩ := h
  have c0 : w.cell? ⟨b, 0, none⟩ = some p := by simp [World.cell?, hb]
  have c1 : w.cell? ⟨b, 1, none⟩ = some v := by simp [World.cell?, hb]
  have cf : ∀ i, w.frozen? ⟨b, i, none⟩ = false := fun i => by simp [World.frozen?, hb]
  have HB := Lib.hid hb
  clear hb
  go_enter Tryd.func41, Tryd.ntmps41
  go_wp2
  go_end0
  refine ⟨rfl, ⟨.pointer none, .slice none 0 0, .inl rfl, ?_, World.ownsRow_nil _ _ _ _, hF, fun g hg => by cases hg⟩, ((Ev.refl F w).setCell (.inl hF) _).setCell (.inl hF) _⟩
  have h1 := setCell_heap (i := 0) HB.out (.pointer none)
  have h2 := setCell_heap (i := 1) h1 (.slice none 0 0)
  rw [h2]; rfl

set_option maxHeartbeats 800000 in
set_option maxRecDepth 100000 in
theorem check_fresh (b : Nat) (w : World) (h0 : w.cell? ⟨b, 0, none⟩ = some (.pointer none)) (hsh : w.shape? b = some (71, 2)) (hfz : w.frozen? ⟨b, 0, none⟩ = false) :
    Calls Tryd.prog 48 #[.pointer (some ⟨b, 0, none⟩)] w fun e w' => e = .returned (.tuple #[]) ∧ w' = w.setCell ⟨b, 0, none⟩ (.pointer (some ⟨b, 0, none⟩)) := by
  obtain ⟨j, hj, hjs⟩ := Option.map_eq_some_iff.1 info_bld
  go_enter Tryd.func48, Tryd.ntmps48
  go_wp2
  rw [Lib.run_to_unsafe w ⟨b, 0, none⟩ Tryd.underlying68 Tryd.underlying109 hj (by rw [hjs]; decide) hsh (Nat.zero_lt_succ 1)]
  simp only [Result.andThen]
  rw [Oper.upon_value]
  go_wp2
  rw [run_callFunc_extern Tryd.func65 (by kernel_rfl) (by kernel_rfl) (by kernel_rfl) (e := Extern.AbiNoEscape.same) (by kernel_rfl)]
  rw [Lib.run_noEscape]
  simp only [Result.andThen]
  rw [Oper.upon_value]
  go_wp2
  rw [Lib.run_from_unsafe w ⟨b, 0, none⟩ Tryd.underlying109 Tryd.underlying68 hj hsh lies_bld]
  simp only [Result.andThen]
  rw [Oper.upon_value]
  go_wp2
  go_end0
  exact ⟨rfl, rfl⟩

set_option maxHeartbeats 800000 in
set_option maxRecDepth 100000 in
theorem check_used (b : Nat) (w : World) (h0 : w.cell? ⟨b, 0, none⟩ = some (.pointer (some ⟨b, 0, none⟩))) :
    Calls Tryd.prog 48 #[.pointer (some ⟨b, 0, none⟩)] w fun e w' => e = .returned (.tuple #[]) ∧ w' = w := by
  obtain ⟨j, hj, hjs⟩ := Option.map_eq_some_iff.1 info_bld
  have hne := Lib.run_neq_ptr_same (P := Tryd.prog) (w := w) ⟨b, 0, none⟩ Tryd.underlying68 hj
  go_enter Tryd.func48, Tryd.ntmps48
  go_wp2
  go_end0
  exact ⟨rfl, rfl⟩

/-- Behind the check a builder knows its own address. -/
theorem check_any (b : Nat) (bs : List UInt8) (F : Nat → Prop) (w : World) (h : Bld w b bs F) :
    Calls Tryd.prog 48 #[.pointer (some ⟨b, 0, none⟩)] w fun e w' => e = .returned (.tuple #[]) ∧ ∃ v, w'.heap[b]? = some (.cells #[.pointer (some ⟨b, 0, none⟩), v] 71 (0, 0)) ∧ w'.ownsRow 0 5 1 v bs.length (Lib.byteCells bs) ∧ (∀ g, v.ownBlock = some g → F g) ∧ Ev F w F w' := by
  obtain ⟨p, v, hp, hb, hown, hF, hg⟩ := h
  rcases hp with rfl | rfl
  · refine (check_fresh b w (by simp [World.cell?, hb]) (by simp [World.shape?, hb]) (by simp [World.frozen?, hb])).mono ?_
    rintro e w' ⟨rfl, rfl⟩
    refine ⟨rfl, v, by rw [setCell_heap hb]; rfl, ⟨hown.1, ?_⟩, hg, (Ev.refl F w).setCell (.inl hF) _⟩
    have hne := Lib.ownBlock_ne hown hb (by decide)
    rcases hown.2 with h0 | ⟨g, cap, cur, rfl, h1, h2, h3⟩
    · exact .inl h0
    · exact .inr ⟨g, cap, cur, rfl, h1, by rw [setCell_heap_ne (fun e => hne (by rw [e]; rfl))]; exact h2, h3⟩
  · refine (check_used b w (by simp [World.cell?, hb])).mono ?_
    rintro e w' ⟨rfl, rfl⟩
    exact ⟨rfl, v, hb, hown, hg, Ev.refl F _⟩

/-- What a write leaves. -/
theorem Bld.of_put {w1 w2 : World} {b : Nat} {bs' : List UInt8} {F : Nat → Prop} {w : World} {v v' : Value} (hev : Ev F w F w1) (hb : w1.heap[b]? = some (.cells #[.pointer (some ⟨b, 0, none⟩), v] 71 (0, 0))) (hF : F b)
    (hg : ∀ g, v.ownBlock = some g → F g) (hgr : w1.grownBy w2 v.ownBlock) (hown : w2.ownsRow 0 5 1 v' bs'.length (Lib.byteCells bs')) (hnew : ∀ g, v'.ownBlock = some g → v.ownBlock = some g ∨ w1.heap.size ≤ g) (hne : v.ownBlock ≠ some b) :
    Bld (w2.setCell ⟨b, 1, none⟩ v') b bs' (fun k => F k ∨ w.heap.size ≤ k) ∧ Ev F w (fun k => F k ∨ w.heap.size ≤ k) (w2.setCell ⟨b, 1, none⟩ v') := by
  have hb2 : w2.heap[b]? = some (.cells #[.pointer (some ⟨b, 0, none⟩), v] 71 (0, 0)) := by rw [hgr.block b (lt_of_heap hb) (fun e => hne e.symm)]; exact hb
  have hne2 := Lib.ownBlock_ne hown hb2 (by decide)
  refine ⟨⟨_, v', .inr rfl, by rw [setCell_heap hb2]; rfl, ⟨hown.1, ?_⟩, .inl hF, fun g e => ?_⟩, ?_⟩
  · rcases hown.2 with h0 | ⟨g, cap, cur, rfl, h1, h2, h3⟩
    · exact .inl h0
    · exact .inr ⟨g, cap, cur, rfl, h1, by rw [setCell_heap_ne (fun e => hne2 (by rw [e]; rfl))]; exact h2, h3⟩
  · rcases hnew g e with h | h
    · exact .inl (hg g h)
    · exact .inr (Nat.le_trans hev.size h)
  · exact ((hev.grown hgr fun k hk => .inl (hg k hk)).setCell (.inl hF) _).now fun k hk => hk
end Go.Proofs.YthpbdeiphagkiaaDoor
