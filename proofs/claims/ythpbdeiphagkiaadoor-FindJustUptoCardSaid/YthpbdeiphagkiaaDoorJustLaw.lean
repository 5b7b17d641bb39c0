/- FindJust: one word finds just the topics that have it; two find those that each finds; without one, those that have it not. The second form: what it reads is of bulk at most 1048576. No other condition. -/
import Derived.Test.YthpbdeiphagkiaaDoorJust
import Derived.Test.YthpbdeiphagkiaaDoorLawKit
namespace Go.Proofs.YthpbdeiphagkiaaDoor
open Go.ChangeShapes Go.WideShapes Go.ChangeAt Go.RowKit Go.Deep Find
open Go.ChangeMaps (open_string shut_string)

set_option maxRecDepth 100000 in
theorem just_lifted (os : Os) (started : os.Started) (H : Type) (enc : TypeId × Value → H) (F : Stop.Interp) :
    ReturnsInHanded {} Tryd.checked os 3 .any ((Rows.OpenSpec.upto Rows.findJustSpec).preRow enc Tryd.prog Tryd.f3 Rows.findJustUptoRow.domain false Rows.findJustUptoRow.laid) (((Rows.OpenSpec.upto Rows.findJustSpec).at F).post enc Tryd.prog Tryd.f3 false true false false) := by
  have hw : (DataW.whole enc Tryd.prog ((laidWorld os).forCall (fun _ _ => 0) ⟨#[], #[.slice none 0 0, .slice none 0 0, .string ⟨#[]⟩, .string ⟨#[]⟩], []⟩).memory Tryd.f3.params.toList Rows.findJustSpec.vars false #[Value.slice none 0 0, .slice none 0 0, .string ⟨#[]⟩, .string ⟨#[]⟩].toList 8).map (fun x => (x.1, x.2.1)) =
      some ([.nil, .nil, .lit (.string []), .lit (.string [])], []) := by kernel_rfl
  obtain ⟨⟨x1, x2, x3⟩, hx, hx1⟩ := Option.map_eq_some_iff.1 hw
  simp only [Prod.mk.injEq] at hx1
  obtain ⟨rfl, rfl⟩ := hx1
  refine returnsInHanded_of_row (C := Tryd.checked) (s := Rows.OpenSpec.upto Rows.findJustSpec) own started (by kernel_rfl) Tryd.func3
    (witness_row_atRef (enc := enc) (C := Tryd.checked) false (laidWorld os) #[.slice none 0 0, .slice none 0 0, .string ⟨#[]⟩, .string ⟨#[]⟩] rfl (by kernel_rfl) (by kernel_rfl) (by kernel_rfl)
      (OpenSpec.preRow_of_cond 8 hx (by kernel_rfl) (fun k hk => by cases hk; kernel_rfl) (by kernel_rfl) (laid_met os _))) ?_
  intro W base args ds gs before hval0 hW _ hcond _ hL _ _
  have hbulk := bulk_bound (hcond _ rfl)
  have hval : ∀ (j : Nat) t v, Tryd.f3.params[j]? = some t → args[j]? = some v → Value.okWide Tryd.prog W .any base t v := hval0
  have hW' : DataW.Whole enc Tryd.prog Tryd.f3.params.toList Rows.findJustSpec.vars false W args.toList ds gs before := hW
  obtain ⟨p, q, hA0, hV, rfl, hfz, hnd⟩ := hW
  have hA : DataW.TrodAll enc Tryd.prog W 0 (fun _ => true) true Tryd.f3.params.toList args.toList ds p := hA0
  obtain ⟨rfl, rfl⟩ := trodVars_none hV
  rw [Tryd.params3] at hA hval
  obtain ⟨v0, vs0, d0, ds0, p0, q0, g0, k0, _, t0, r0⟩ := trodAll_cons hA
  obtain ⟨v1, vs1, d1, ds1, p1, q1, g1, k1, _, t1, r1⟩ := trodAll_cons r0
  obtain ⟨v2, vs2, d2, ds2, p2, q2, g2, k2, _, t2, r2⟩ := trodAll_cons r1
  obtain ⟨v3, vs3, d3, ds3, p3, q3, g3, k3, _, t3, r3⟩ := trodAll_cons r2
  obtain ⟨g, k, _⟩ := trodAll_nil r3
  subst g k g3 k3 g2 k2 g1 k1 k0
  obtain rfl : args = #[v0, v1, v2, v3] := by cases args; simp_all
  obtain ⟨a0, len0, c0, rfl⟩ := okWide_slice Tryd.underlying22 (hval 0 22 v0 rfl rfl)
  obtain ⟨a1, len1, c1, rfl⟩ := okWide_slice Tryd.underlying22 (hval 1 22 v1 rfl rfl)
  obtain ⟨f0, hf0⟩ := t0
  obtain ⟨f1, hf1⟩ := t1
  obtain ⟨s, rfl, rfl, rfl, ws⟩ := open_string Tryd.underlying9 (hval 2 9 v2 rfl rfl) t2
  obtain ⟨s2, rfl, rfl, rfl, ws2⟩ := open_string Tryd.underlying9 (hval 3 9 v3 rfl rfl) t3
  obtain ⟨a0', c0', TT, hv0, s0, n0, b0, e0⟩ := strSl_of_trod (v := .slice a0 len0 c0) hf0
  obtain ⟨a1', c1', XX, hv1, s1, n1, b1, e1⟩ := strSl_of_trod (v := .slice a1 len1 c1) hf1
  simp only [Value.slice.injEq] at hv0 hv1
  obtain ⟨rfl, rfl, rfl⟩ := hv0
  obtain ⟨rfl, rfl, rfl⟩ := hv1
  simp only [List.append_nil, Rows.uptoBulkAll, bulk_string] at hbulk
  simp only at b0 e0 b1 e1
  refine (just_walk TT XX s s2 a0 a1 c0 c1 W (tabs_of_laid hL) s0 s1 n0 n1 (fun x hx => by have := e0 x hx; omega) (fun x hx => by have := e1 x hx; omega) (by omega) (by omega) (by rw [size_list]; omega) (by rw [size_list]; omega)).mono fun e W' ⟨he, hb⟩ => ⟨_, he, ?_⟩
  exact law_post laidOut rfl (t := 4) (by kernel_rfl) Tryd.underlying4 (by rw [Tryd.params3]; intro t ht; simp at ht; rcases ht with rfl | rfl <;> exact ⟨by kernel_rfl, of_decide_eq_true (by kernel_rfl)⟩) hW' rfl hb

theorem just_upto : Rows.FindJustUptoSaid :=
  OpenClaim.holds_of_cond 3 Tryd.f3 rfl rfl rfl rfl rfl rfl rfl ⟨rfl, rfl, rfl, rfl, rfl⟩ rfl rfl rfl rfl rfl (by kernel_rfl) Tryd.func3 (by kernel_rfl)
    (of_decide_eq_true (by kernel_rfl)) (by unfold Func.isWrapper; first | (rw [if_pos (by decide +kernel)]; kernel_rfl) | (rw [if_neg (by decide +kernel)]; exact ⟨rfl, rfl⟩))
    (fun os started H enc _ F => by rw [OpenClaim.pre_eq_preRow]; exact just_lifted os started H enc F)
theorem just_plain (f : FuncId) (fn : Func) (hf : Tryd.pinned.checked.prog.funcNamed "folio/foliolaw23.FindJust" = some f) (hfn : Tryd.pinned.checked.prog.funcs[f]? = some fn) :
    false = Tryd.pinned.checked.prog.looks [] ∧ ∀ (j : Nat) t, fn.params[j]? = some t → Tryd.pinned.checked.prog.wantsStandIn t = false := by
  obtain rfl : f = 3 := Option.some.inj ((show Tryd.prog.funcNamed "folio/foliolaw23.FindJust" = some 3 by kernel_rfl).symm.trans hf) |>.symm
  obtain rfl : fn = Tryd.f3 := (Option.some.inj (Tryd.func3.symm.trans hfn)).symm
  refine ⟨by kernel_rfl, fun j t ht => ?_⟩
  rw [Tryd.params3] at ht
  have hm := Array.mem_of_getElem? ht
  simp at hm
  rcases hm with rfl | rfl
  · exact (show Tryd.prog.wantsStandIn 22 = false by kernel_rfl)
  · exact (show Tryd.prog.wantsStandIn 9 = false by kernel_rfl)
theorem just_holds : Rows.FindJustUptoCardSaid :=
  Claim7.holds_tied_plain_at .later [] _ _ _ _ just_upto (fun _ h => by cases h) (by kernel_rfl) (fun _ h => by cases h) findJustUpto_row_tie rfl ⟨rfl, rfl⟩ (by kernel_rfl) rfl just_plain (by kernel_rfl)
end Go.Proofs.YthpbdeiphagkiaaDoor
