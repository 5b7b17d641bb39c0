/- TableCells: a row is its cells: for all arguments the law answers true. No condition beyond the form's own. -/
import Derived.Test.YtepacocajnobgaaCells
namespace Go.Proofs.Ytepacocajnobgaa
open Go.ChangeShapes Go.WideShapes Go.ChangeAt Go.RowKit

/-- A slice that came in has its room. -/
theorem okWide_cap {w : World} {t e : TypeId} {r : Reach} {b : Nat} {v : Value} (ht : Try.prog.underlying t = some (.slice e)) (h : Value.okWide Try.prog w r b t v) : CapOk v := by
  intro a n c he
  subst he
  simp only [Value.okWide, ht, Cell.okWide] at h
  cases a with
  | none =>
    cases n with
    | zero => cases c with
      | zero => exact ⟨Nat.le_refl _, by omega⟩
      | succ c => simp [Cell.ok, ht] at h
    | succ n => simp [Cell.ok, ht] at h
  | some a =>
    simp only [Cell.ok, ht] at h
    have h2 := h.2.1
    simp [IntKind.max, IntKind.signed, IntKind.bits] at h2
    exact ⟨h.1, by omega⟩

theorem open_args_cells {H : Type} {enc : TypeId × Value → H} {W : World} {t1 t2 t3 : TypeId} {args : Array Value} {ds : List (DataW H)} {p : List MemPlace}
    (hA : DataW.TrodAll enc Try.prog W 0 (fun _ => true) true [t1, t2, t3] args.toList ds p) :
    ∃ v0 v1 v2 d0 d1 d2 p0 p1 p2, args = #[v0, v1, v2] ∧ ds = [d0, d1, d2] ∧ DataW.Trod enc Try.prog W 0 (fun _ => true) true t1 v0 d0 p0 ∧ DataW.Trod enc Try.prog W 0 (fun _ => true) true t2 v1 d1 p1 ∧ DataW.Trod enc Try.prog W 0 (fun _ => true) true t3 v2 d2 p2 := by
  obtain ⟨v0, vs0, d0, ds0, p0, q0, g0, k0, _, t0, r0⟩ := trodAll_cons hA
  obtain ⟨v1, vs1, d1, ds1, p1, q1, g1, k1, _, t1, r1⟩ := trodAll_cons r0
  obtain ⟨v2, vs2, d2, ds2, p2, q2, g2, k2, _, t2, r2⟩ := trodAll_cons r1
  obtain ⟨g, k, _⟩ := trodAll_nil r2
  subst g k
  subst g2 k2
  subst g1 k1
  exact ⟨v0, v1, v2, d0, d1, d2, p0, p1, p2, by cases args; simp_all, k0, t0, t1, t2⟩

set_option maxRecDepth 100000 in
theorem cells_lifted (os : Os) (started : os.Started) (H : Type) (enc : TypeId × Value → H) :
    ReturnsInHanded {} Try.checked os 10 .any (Rows.tableCellsSpec.pre6 enc Try.prog Try.f10 Rows.tableCellsRow.domain false) (Rows.tableCellsSpec.post enc Try.prog Try.f10 false true false false) := by
  refine returnsInHanded_of_change_sized (C := Try.checked) Try.own started (by kernel_rfl) Try.func10
    (ChangeSpec.witness6 (enc := enc) (C := Try.checked) false ⟨#[], #[.slice none 0 0, .int .i64 0, .slice none 0 0], []⟩ 8 (by kernel_rfl) (by kernel_rfl) (by kernel_rfl) (by kernel_rfl)) ?_
  intro W base args ds gs before hval0 hW _ hsz0 _
  have hsz : (DataW.weightsEach Try.prog (Try.f10.params.toList ++ Rows.tableCellsSpec.plain.varTypes Try.prog) (ds ++ gs)).all (· ≤ reachBytes) = true := hsz0
  have hval : ∀ (j : Nat) t v, Try.f10.params[j]? = some t → args[j]? = some v → Value.okWide Try.prog W .any base t v := hval0
  clear hsz0 hval0
  have hW' : DataW.Whole enc Try.prog Try.f10.params.toList Rows.tableCellsSpec.vars false W args.toList ds gs before := hW
  obtain ⟨p, q, hA0, hV, rfl, hfz, hnd⟩ := hW
  have hA : DataW.TrodAll enc Try.prog W 0 (fun _ => true) true Try.f10.params.toList args.toList ds p := hA0
  obtain ⟨rfl, rfl⟩ := trodVars_none hV
  rw [Try.params10] at hA hval hsz
  obtain ⟨v0, v1, v2, d0, d1, d2, p0, p1, p2, rfl, rfl, h0, h1, h2⟩ := open_args_cells hA
  obtain ⟨a0, len0, cap0, rfl⟩ := okWide_slice Try.underlying33 (hval 0 33 v0 rfl rfl)
  obtain ⟨fuel0, hf0⟩ := h0
  obtain ⟨l0, hg0, hn0, hl0, hz0⟩ := intSl_of_trod hf0 (weights_of hsz (j := 0) rfl rfl)
  obtain ⟨n1, rfl, _, _, w1⟩ := open_int Try.underlying3 (hval 1 3 v1 rfl rfl) h1
  have b1 : -9223372036854775808 ≤ n1 ∧ n1 ≤ 9223372036854775807 := by simpa [Lit.wf, IntKind.min, IntKind.max, IntKind.signed, IntKind.bits] using w1
  obtain ⟨a2, len2, cap2, rfl⟩ := okWide_slice Try.underlying23 (hval 2 23 v2 rfl rfl)
  obtain ⟨fuel2, hf2⟩ := h2
  obtain ⟨l2, hg2, hn2, hl2, hr2⟩ := rowsSl_of_trod hf2 (weights_of hsz (j := 2) rfl rfl) (fun a n c h => okWide_spot Try.underlying23 (by rw [← h]; exact hval 2 23 _ rfl rfl))
  refine (cells_walk _ l0 n1 _ l2 W hg0 hn0 hl0 hz0 b1 hg2 hn2 hl2 hr2 (okWide_cap Try.underlying23 (hval 2 23 _ rfl rfl))).mono fun e W' ⟨he, hb⟩ => ⟨_, he, ?_⟩
  exact law_post Try.laidOut rfl (t := 4) (by kernel_rfl) Try.underlying4 (by rw [Try.params10]; intro t ht; simp at ht; rcases ht with rfl | rfl | rfl <;> exact ⟨by kernel_rfl, of_decide_eq_true (by kernel_rfl)⟩) hW' rfl hb

theorem cells_holds : Rows.TableCellsSaid :=
  OpenClaim.holds_of_wide 10 Try.f10 rfl rfl rfl rfl rfl rfl rfl ⟨rfl, rfl, rfl, rfl, rfl⟩ rfl rfl rfl rfl rfl (by kernel_rfl) Try.func10 (by kernel_rfl)
    (of_decide_eq_true (by kernel_rfl)) (by unfold Func.isWrapper; first | (rw [if_pos (by decide +kernel)]; kernel_rfl) | (rw [if_neg (by decide +kernel)]; exact ⟨rfl, rfl⟩))
    (fun os started H enc _ => cells_lifted os started H enc)
end Go.Proofs.Ytepacocajnobgaa
