/- src: a layer's mark; the deferred closure of Parse. -/
import Derived.Test.YtafhmagifoapfaaGreatDoorLexE
import Derived.Test.YtafhmagifoapfaaGreatDoorStart
import Derived.Recover
import Derived.Laws.Pointers
namespace Go.Proofs.YtafhmagifoapfaaGreatDoor
open Go.RowKit Find Bk
attribute [local go_sem ↓] Go.wp_at_zero Go.wp_at_succ
/-- An error under a layer's mark. -/
def MarkV (w : World) (v : Value) (n : Wd) (k : Nat) (u : Value) : Prop := ∃ b, v = .iface 87 (.pointer (some ⟨b, 0, none⟩)) ∧ w.heap[b]? = some (.cells #[.string ⟨n.toArray⟩, .int .i64 k, u] 89 (0, 0))
theorem MarkV.new {w w' : World} {v u : Value} {n : Wd} {k : Nat} (h : MarkV w v n k u) (hb : Below w.heap.size w w') : MarkV w' v n k u := by
  obtain ⟨g, hv, hg⟩ := h
  exact ⟨g, hv, by rw [hb.block g (lt_of_heap hg)]; exact hg⟩
set_option maxHeartbeats 1600000 in
set_option maxRecDepth 100000 in
theorem under_any (τ : TypeId) (p : Option Addr) (n : Wd) (k : Nat) (w : World) :
    Calls Tryz.prog 11 #[.iface τ (.pointer p), .string ⟨n.toArray⟩, .int .i64 k] w fun e w' => ∃ v, e = .returned v ∧ MarkV w' v n k (.iface τ (.pointer p)) ∧ Below w.heap.size w w' := by
  go_enter Tryz.func11, Tryz.ntmps11
  go_wp2
  go_ret
  exact ⟨_, rfl, ⟨_, rfl, heap_alloc_new _ _⟩, (Below.refl _ _).alloc (Nat.le_refl _) _⟩
/-- An error of a source. -/
def InV (w : World) (v : Value) (k : Nat) (u : Value) : Prop := ∃ b, v = .iface 261 (.pointer (some ⟨b, 0, none⟩)) ∧ w.heap[b]? = some (.cells #[.int .i64 k, u] 263 (0, 0))
theorem InV.new {w w' : World} {v u : Value} {k : Nat} (h : InV w v k u) (hb : Below w.heap.size w w') : InV w' v k u := by
  obtain ⟨g, hv, hg⟩ := h
  exact ⟨g, hv, by rw [hb.block g (lt_of_heap hg)]; exact hg⟩
set_option maxHeartbeats 1600000 in
set_option maxRecDepth 100000 in
theorem in_any (τ : TypeId) (p : Option Addr) (k : Nat) (w : World) :
    Calls Tryz.prog 156 #[.iface τ (.pointer p), .int .i64 k] w fun e w' => ∃ v, e = .returned v ∧ InV w' v k (.iface τ (.pointer p)) ∧ Below w.heap.size w w' := by
  go_enter Tryz.func156, Tryz.ntmps156
  go_wp2
  go_ret
  exact ⟨_, rfl, ⟨_, rfl, heap_alloc_new _ _⟩, (Below.refl _ _).alloc (Nat.le_refl _) _⟩
/-! ### The closure that Parse defers -/
set_option maxHeartbeats 3200000 in
set_option maxRecDepth 100000 in
theorem catch_idle (S E : Addr) (w : World) :
    CallsD Tryz.prog 12 #[.pointer (some S), .pointer (some E)] .returning w fun e u' w' => e = .returned (.tuple #[]) ∧ u' = .returning ∧ w' = w := by
  refine callsD_of_wpS Tryz.func12 rfl fun c₀ cs hu => ?_
  apply wpS_seq
  apply wpS_region
  simp [wpOpsS, go_sem, recoverD, hu, Tryz.ntmps12, Exit.thenS]
  refine wpS_of_wp ?_
  go_wp2
  simp [bodyPostS, results, Tryz.results12]
  cases c₀
  simp only at hu
  subst hu
  rfl
/-- What is left when a fault was caught: a source without parts, the fault. -/
structure CaughtW (s e : Nat) (v : Value) (w w' : World) : Prop where
  bel : ∀ B, B ≤ s → B ≤ e → B ≤ w.heap.size → Below B w w'
  old : ∀ k, k < w.heap.size → k ≠ s → k ≠ e → w'.heap[k]? = w.heap[k]?
  c0 : w'.cell? ⟨s, 0, none⟩ = some (.slice none 0 0)
  c1 : w'.cell? ⟨s, 1, none⟩ = some (.slice none 0 0)
  c2 : w'.cell? ⟨e, 0, none⟩ = some v
theorem caught_world {s e : Nat} {x y z v : Value} {w : World} (hs : w.heap[s]? = some (.cells #[x, y] 28 (0, 0))) (he : w.heap[e]? = some (.cells #[z] 30 (0, 0))) (o : Obj) :
    CaughtW s e v w ((((w.setCell ⟨s, 0, none⟩ (.slice none 0 0)).setCell ⟨s, 1, none⟩ (.slice none 0 0)).setCell ⟨e, 0, none⟩ v).alloc o).drew := by
  have hne : s ≠ e := fun h => by rw [h, he] at hs; cases hs
  have hsl := lt_of_heap hs
  have hel := lt_of_heap he
  obtain ⟨W, hW⟩ : ∃ W, ((w.setCell ⟨s, 0, none⟩ (.slice none 0 0)).setCell ⟨s, 1, none⟩ (.slice none 0 0)).setCell ⟨e, 0, none⟩ v = W := ⟨_, rfl⟩
  have hz : W.heap.size = w.heap.size := by rw [← hW]; simp
  have h1 : W.heap[s]? = some (.cells #[.slice none 0 0, .slice none 0 0] 28 (0, 0)) := by
    rw [← hW, setCell_heap_ne' hne.symm, setCell_heap' (setCell_heap' hs _) _]; rfl
  have h2 : W.heap[e]? = some (.cells #[v] 30 (0, 0)) := by
    rw [← hW, setCell_heap' (b := e) (c := #[z]) (by rw [setCell_heap_ne' hne, setCell_heap_ne' hne]; exact he) _]; rfl
  have hold : ∀ k, k < W.heap.size → (W.alloc o).drew.heap[k]? = W.heap[k]? := fun k hk => ((Below.refl W.heap.size W).alloc (Nat.le_refl _) o).block k hk
  rw [hW]
  refine ⟨fun B hb1 hb2 hb3 => ?_, fun k hk h3 h4 => ?_, ?_, ?_, ?_⟩
  · rw [← hW]
    exact (((((Below.refl B w).setCell hb1 _).setCell hb1 _).setCell hb2 _).alloc (by simp; omega) _).drew
  · rw [hold k (by omega), ← hW, setCell_heap_ne' (Ne.symm h4), setCell_heap_ne' (Ne.symm h3), setCell_heap_ne' (Ne.symm h3)]
  · rw [cell_of_heap ((hold s (by omega)).trans h1)]; rfl
  · rw [cell_of_heap ((hold s (by omega)).trans h1)]; rfl
  · rw [cell_of_heap ((hold e (by omega)).trans h2)]; rfl
set_option maxHeartbeats 3200000 in
set_option maxRecDepth 100000 in
theorem catch_fault (s e : Nat) (q : Addr) (older : List PanicEntry) (w : World) (x y z : Value) (hs : w.heap[s]? = some (.cells #[x, y] 28 (0, 0))) (he : w.heap[e]? = some (.cells #[z] 30 (0, 0))) :
    CallsD Tryz.prog 12 #[.pointer (some ⟨s, 0, none⟩), .pointer (some ⟨e, 0, none⟩)] (.panicking ({ v := .iface 50 (.agg #[.iface 68 (.pointer (some q))]), recovered := false } :: older)) w fun e' u' w' => e' = .returned (.tuple #[]) ∧ u' = .panicking ({ v := .iface 50 (.agg #[.iface 68 (.pointer (some q))]), recovered := true } :: older) ∧ CaughtW s e (.iface 68 (.pointer (some q))) w w' := by
  have cs0 : w.cell? ⟨s, 0, none⟩ = some x := by rw [cell_of_heap hs]; rfl
  have cs1 : w.cell? ⟨s, 1, none⟩ = some y := by rw [cell_of_heap hs]; rfl
  have ce0 : w.cell? ⟨e, 0, none⟩ = some z := by rw [cell_of_heap he]; rfl
  have fs : ∀ i, w.frozen? ⟨s, i, none⟩ = false := fun i => free_of_heap hs
  have fe : ∀ i, w.frozen? ⟨e, i, none⟩ = false := fun i => free_of_heap he
  have hCW := fun o => caught_world (v := .iface 68 (.pointer (some q))) hs he o
  have HCW := Lib.hid hCW
  clear hCW
  have hsl := lt_of_heap hs
  have hel := lt_of_heap he
  have hne : s ≠ e := fun h => by rw [h, he] at hs; cases hs
  clear hs he
  have hta : ∀ w, (Instr.typeAssert (.iface 50 (.agg #[.iface 68 (.pointer (some q))])) 20 50 true).run Tryz.prog w = .ok (.tuple #[.agg #[.iface 68 (.pointer (some q))], .bool true]) w := fun w => by
    unfold Instr.typeAssert
    simp only [Sem.run_bind, run_underlying Tryz.underlying50, Result.andThen_ok]
    rfl
  refine callsD_of_wpS Tryz.func12 rfl fun c₀ cs hu => ?_
  apply wpS_seq
  apply wpS_region
  simp [wpOpsS, go_sem, recoverD, hu, Tryz.ntmps12, Exit.thenS]
  rw [show (#[Value.pointer (some ⟨s, 0, none⟩), Value.pointer (some ⟨e, 0, none⟩)] ++ ((Array.replicate 17 undef).setIfInBounds 3 (.iface 50 (.agg #[.iface 68 (.pointer (some q))]))).setIfInBounds 0 (.iface 50 (.agg #[.iface 68 (.pointer (some q))])) : Array Value) = #[.pointer (some ⟨s, 0, none⟩), .pointer (some ⟨e, 0, none⟩), .iface 50 (.agg #[.iface 68 (.pointer (some q))]), undef, undef, .iface 50 (.agg #[.iface 68 (.pointer (some q))]), undef, undef, undef, undef, undef, undef, undef, undef, undef, undef, undef, undef, undef] from rfl]
  refine wpS_of_wp ?_
  go_upto_region 5 with fail
  go_region
  all_goals
    go_wp2_with fail
    simp only [bodyPostS, results, Tryz.results12]
    have := HCW.out
    simp [this]
end Go.Proofs.YtafhmagifoapfaaGreatDoor
