/- TableFresh: what is told is new memory, what is handed in is left as it is: for all arguments the law answers true. No condition beyond the form's own. -/
import Derived.Test.YtepacocajnobgaaFresh
namespace Go.Proofs.Ytepacocajnobgaa
open Go.ChangeShapes Go.WideShapes Go.ChangeAt Go.RowKit

theorem open_args_fresh {H : Type} {enc : TypeId × Value → H} {W : World} {t1 t2 t3 t4 : TypeId} {args : Array Value} {ds : List (DataW H)} {p : List MemPlace}
    (hA : DataW.TrodAll enc Try.prog W 0 (fun _ => true) true [t1, t2, t3, t4] args.toList ds p) :
    ∃ v0 v1 v2 v3 d0 d1 d2 d3 p0 p1 p2 p3, args = #[v0, v1, v2, v3] ∧ ds = [d0, d1, d2, d3] ∧ DataW.Trod enc Try.prog W 0 (fun _ => true) true t1 v0 d0 p0 ∧ DataW.Trod enc Try.prog W 0 (fun _ => true) true t2 v1 d1 p1 ∧ DataW.Trod enc Try.prog W 0 (fun _ => true) true t3 v2 d2 p2 ∧ DataW.Trod enc Try.prog W 0 (fun _ => true) true t4 v3 d3 p3 := by
  obtain ⟨v0, vs0, d0, ds0, p0, q0, g0, k0, _, t0, r0⟩ := trodAll_cons hA
  obtain ⟨v1, vs1, d1, ds1, p1, q1, g1, k1, _, t1, r1⟩ := trodAll_cons r0
  obtain ⟨v2, vs2, d2, ds2, p2, q2, g2, k2, _, t2, r2⟩ := trodAll_cons r1
  obtain ⟨v3, vs3, d3, ds3, p3, q3, g3, k3, _, t3, r3⟩ := trodAll_cons r2
  obtain ⟨g, k, _⟩ := trodAll_nil r3
  subst g k
  subst g3 k3
  subst g2 k2
  subst g1 k1
  exact ⟨v0, v1, v2, v3, d0, d1, d2, d3, p0, p1, p2, p3, by cases args; simp_all, k0, t0, t1, t2, t3⟩

set_option maxRecDepth 100000 in
theorem fresh_lifted (os : Os) (started : os.Started) (H : Type) (enc : TypeId × Value → H) :
    ReturnsInHanded {} Try.checked os 6 .any (Rows.tableFreshSpec.pre6 enc Try.prog Try.f6 Rows.tableFreshRow.domain false) (Rows.tableFreshSpec.post enc Try.prog Try.f6 false true false false) := by
  refine returnsInHanded_of_change_sized (C := Try.checked) Try.own started (by kernel_rfl) Try.func6
    (ChangeSpec.witness6 (enc := enc) (C := Try.checked) false ⟨#[], #[.slice none 0 0, .int .i64 0, .slice none 0 0, .slice none 0 0], []⟩ 8 (by kernel_rfl) (by kernel_rfl) (by kernel_rfl) (by kernel_rfl)) ?_
  intro W base args ds gs before hval0 hW _ hsz0 _
  have hsz : (DataW.weightsEach Try.prog (Try.f6.params.toList ++ Rows.tableFreshSpec.plain.varTypes Try.prog) (ds ++ gs)).all (· ≤ reachBytes) = true := hsz0
  have hval : ∀ (j : Nat) t v, Try.f6.params[j]? = some t → args[j]? = some v → Value.okWide Try.prog W .any base t v := hval0
  clear hsz0 hval0
  have hW' : DataW.Whole enc Try.prog Try.f6.params.toList Rows.tableFreshSpec.vars false W args.toList ds gs before := hW
  obtain ⟨p, q, hA0, hV, rfl, hfz, hnd⟩ := hW
  have hA : DataW.TrodAll enc Try.prog W 0 (fun _ => true) true Try.f6.params.toList args.toList ds p := hA0
  obtain ⟨rfl, rfl⟩ := trodVars_none hV
  rw [Try.params6] at hA hval hsz
  obtain ⟨v0, v1, v2, v3, d0, d1, d2, d3, p0, p1, p2, p3, rfl, rfl, h0, h1, h2, h3⟩ := open_args_fresh hA
  obtain ⟨a0, len0, cap0, rfl⟩ := okWide_slice Try.underlying22 (hval 0 22 v0 rfl rfl)
  obtain ⟨fuel0, hf0⟩ := h0
  obtain ⟨l0, hg0, hw0, hlen0⟩ := glSl_of_trod hf0
  have hl0 : l0.length ≤ 2932031007317 := by
    rcases hlen0 with rfl | ⟨es, sp, hd, he⟩
    · simp
    · have := weights_of hsz (j := 0) (t := 22) rfl rfl ((es.length + sp.length) * 48) (by rw [show d0 = _ from hd]; simp [DataW.weights, Try.underlying22, show Try.prog.bytesOf 49 = 48 by kernel_rfl])
      omega
  obtain ⟨n1, rfl, _, _, w1⟩ := open_int Try.underlying3 (hval 1 3 v1 rfl rfl) h1
  have b1 : -9223372036854775808 ≤ n1 ∧ n1 ≤ 9223372036854775807 := by simpa [Lit.wf, IntKind.min, IntKind.max, IntKind.signed, IntKind.bits] using w1
  obtain ⟨a2, len2, cap2, rfl⟩ := okWide_slice Try.underlying34 (hval 2 34 v2 rfl rfl)
  obtain ⟨fuel2, hf2⟩ := h2
  obtain ⟨l2, hg2, hn2, hl2⟩ := colSl_of_trod hf2 (weights_of hsz (j := 2) rfl rfl)
  obtain ⟨a3, len3, cap3, rfl⟩ := okWide_slice Try.underlying23 (hval 3 23 v3 rfl rfl)
  obtain ⟨fuel3, hf3⟩ := h3
  obtain ⟨l3, hg3, hn3, hl3, hr3⟩ := rowsSl_of_trod hf3 (weights_of hsz (j := 3) rfl rfl) (fun a n c h => okWide_spot Try.underlying23 (by rw [← h]; exact hval 3 23 _ rfl rfl))
  refine (fresh_walk _ l0 n1 _ l2 _ l3 W hg0 hl0 hw0 b1 hg2 hn2 hl2 hg3 hn3 hl3 hr3).mono fun e W' ⟨he, hb⟩ => ⟨_, he, ?_⟩
  exact law_post Try.laidOut rfl (t := 4) (by kernel_rfl) Try.underlying4 (by rw [Try.params6]; intro t ht; simp at ht; rcases ht with rfl | rfl | rfl | rfl <;> exact ⟨by kernel_rfl, of_decide_eq_true (by kernel_rfl)⟩) hW' rfl hb

theorem fresh_holds : Rows.TableFreshSaid :=
  OpenClaim.holds_of_wide 6 Try.f6 rfl rfl rfl rfl rfl rfl rfl ⟨rfl, rfl, rfl, rfl, rfl⟩ rfl rfl rfl rfl rfl (by kernel_rfl) Try.func6 (by kernel_rfl)
    (of_decide_eq_true (by kernel_rfl)) (by unfold Func.isWrapper; first | (rw [if_pos (by decide +kernel)]; kernel_rfl) | (rw [if_neg (by decide +kernel)]; exact ⟨rfl, rfl⟩))
    (fun os started H enc _ => fresh_lifted os started H enc)
end Go.Proofs.Ytepacocajnobgaa
