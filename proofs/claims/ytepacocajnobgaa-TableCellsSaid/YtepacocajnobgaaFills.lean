/- TableFills: for every flow and every width the law answers true. No condition beyond the form's own. -/
import Derived.Test.YtepacocajnobgaaLawKit
import Derived.Test.YtepacocajnobgaaAwake
import Derived.Test.YtepacocajnobgaaRFill2
namespace Go.Proofs.Ytepacocajnobgaa
open Go.ChangeShapes Go.WideShapes Go.ChangeAt Go.RowKit

theorem Try.own : ownKnob Try.prog.godebug = none := by kernel_rfl
theorem Try.laidOut : laidOutB Try.prog = true := by kernel_rfl
theorem fillOf_len (l : List Gl) (wide : Int) (hl : l.length ≤ 3000000000000) : ∀ x ∈ (fillOf l wide).1, x.length ≤ 200 := by
  intro x hx
  have h := (fillOf_fits l wide hl).1 x hx
  unfold fillOf at hx
  split at hx
  · simp at hx
  · rename_i h1
    have := h.len.1
    omega

set_option maxRecDepth 100000 in
set_option maxHeartbeats 1000000 in
theorem fills_walk (v : Value) (l : List Gl) (wide : Int) (w : World) (hv : GlSl w v l) (hl : l.length ≤ 2932031007317) :
    Calls Try.prog 3 #[v, .int .i64 wide] w fun e w' => e = .returned (.bool true) ∧ Below w.heap.size w w' := by
  have Hv := Lib.hid hv
  have Hfl := Lib.hid (fillOf_len l wide (by omega))
  have hfn := (fillOf_fits l wide (by omega)).2
  clear hv
  go_enter Try.func3, Try.ntmps3
  go_wp2_with fail
  refine (twin_any _ l _ (by omega) Hv.out).mono ?_
  rintro e w1 ⟨v1, rfl, hown1, hb1⟩
  have Hb1 := Lib.hid hb1
  have Hg1 := Lib.hid (glSl_of_owns hown1)
  clear hown1 hb1
  go_wp2_with fail
  refine (fill_any _ l wide _ Hg1.out hl).mono ?_
  rintro e w2 ⟨v2, rfl, hnew2, hb2⟩
  have Hb2 := Lib.hid (Hb1.out.trans (hb2.mono Hb1.out.size))
  have Hr2 := Lib.hid (RowsSl.of_new hnew2)
  clear hnew2 hb2
  go_wp2_with fail
  refine (rfill_any _ l wide _ (Hv.out.new Hb2.out) hl).mono ?_
  rintro e w3 ⟨v3, rfl, hnew3, hb3⟩
  have Hb3 := Lib.hid (Hb2.out.trans (hb3.mono Hb2.out.size))
  have Hr3 := Lib.hid (RowsSl.of_new hnew3)
  have Hr2' := Lib.hid (Hr2.out.new hb3)
  clear hnew3 hb3
  go_wp2_with fail
  refine (sameAll_any _ _ (fillOf l wide).1 _ (by omega) (fun x hx => by have := Hfl.out x hx; omega) Hr2'.out Hr3.out).mono ?_
  rintro e w4 ⟨rfl, n4, hw4⟩
  have Hb4 := Lib.hid (show Below w.heap.size w w4 by rw [hw4]; exact below_drewN Hb3.out _)
  clear hw4
  go_wp2_with fail
  refine (awake_any _).mono ?_
  rintro e w5 ⟨rfl, hb5⟩
  have Hb5 := Lib.hid (Hb4.out.trans (hb5.mono Hb4.out.size))
  clear hb5
  go_wp2
  go_ret
  exact ⟨rfl, Hb5.out⟩

theorem open_args2 {H : Type} {enc : TypeId × Value → H} {W : World} {t1 t2 : TypeId} {args : Array Value} {ds : List (DataW H)} {p : List MemPlace}
    (hA : DataW.TrodAll enc Try.prog W 0 (fun _ => true) true [t1, t2] args.toList ds p) :
    ∃ v0 v1 d0 d1 p0 p1, args = #[v0, v1] ∧ ds = [d0, d1] ∧ DataW.Trod enc Try.prog W 0 (fun _ => true) true t1 v0 d0 p0 ∧ DataW.Trod enc Try.prog W 0 (fun _ => true) true t2 v1 d1 p1 := by
  obtain ⟨v0, vs0, d0, ds0, p0, q0, h1, h2, _, t0, r0⟩ := trodAll_cons hA
  obtain ⟨v1, vs1, d1, ds1, p1, q1, h3, h4, _, t1, r1⟩ := trodAll_cons r0
  obtain ⟨h5, h6, _⟩ := trodAll_nil r1
  subst h5 h6 h3 h4
  exact ⟨v0, v1, d0, d1, p0, p1, by cases args; simp_all, h2, t0, t1⟩

set_option maxRecDepth 100000 in
theorem fills_lifted (os : Os) (started : os.Started) (H : Type) (enc : TypeId × Value → H) :
    ReturnsInHanded {} Try.checked os 3 .any (Rows.tableFillsSpec.pre6 enc Try.prog Try.f3 Rows.tableFillsRow.domain false) (Rows.tableFillsSpec.post enc Try.prog Try.f3 false true false false) := by
  refine returnsInHanded_of_change_sized (C := Try.checked) Try.own started (by kernel_rfl) Try.func3
    (ChangeSpec.witness6 (enc := enc) (C := Try.checked) false ⟨#[], #[.slice none 0 0, .int .i64 0], []⟩ 8 (by kernel_rfl) (by kernel_rfl) (by kernel_rfl) (by kernel_rfl)) ?_
  intro W base args ds gs before hval0 hW _ hsz0 _
  have hsz : (DataW.weightsEach Try.prog (Try.f3.params.toList ++ Rows.tableFillsSpec.plain.varTypes Try.prog) (ds ++ gs)).all (· ≤ reachBytes) = true := hsz0
  have hval : ∀ (j : Nat) t v, Try.f3.params[j]? = some t → args[j]? = some v → Value.okWide Try.prog W .any base t v := hval0
  clear hsz0 hval0
  have hW' : DataW.Whole enc Try.prog Try.f3.params.toList Rows.tableFillsSpec.vars false W args.toList ds gs before := hW
  obtain ⟨p, q, hA0, hV, rfl, hfz, hnd⟩ := hW
  have hA : DataW.TrodAll enc Try.prog W 0 (fun _ => true) true Try.f3.params.toList args.toList ds p := hA0
  obtain ⟨rfl, rfl⟩ := trodVars_none hV
  rw [Try.params3] at hA hval hsz
  obtain ⟨v0, v1, d0, d1, p0, p1, rfl, rfl, h0, h1⟩ := open_args2 hA
  obtain ⟨a0, len0, cap0, rfl⟩ := okWide_slice Try.underlying22 (hval 0 22 v0 rfl rfl)
  obtain ⟨n1, rfl, _⟩ := open_int Try.underlying3 (hval 1 3 v1 rfl rfl) h1
  obtain ⟨fuel, hf⟩ := h0
  obtain ⟨l, hgl, _, hlen⟩ := glSl_of_trod hf
  have hl : l.length ≤ 2932031007317 := by
    rcases hlen with rfl | ⟨es, sp, hd, he⟩
    · simp
    · have := sized_slice hsz (j := 0) (t := 22) (e := 49) (elems := es) (spare := sp) rfl (by simp [← hd]) Try.underlying22
      rw [show Try.prog.bytesOf 49 = 48 by kernel_rfl] at this
      simp only [reachBytes] at this
      omega
  refine (fills_walk _ l n1 W hgl hl).mono fun e W' ⟨he, hb⟩ => ⟨_, he, ?_⟩
  exact law_post Try.laidOut rfl (t := 4) (by kernel_rfl) Try.underlying4 (by rw [Try.params3]; intro t ht; simp at ht; rcases ht with rfl | rfl <;> exact ⟨by kernel_rfl, of_decide_eq_true (by kernel_rfl)⟩) hW' rfl hb

theorem fills_holds : Rows.TableFillsSaid :=
  OpenClaim.holds_of_wide 3 Try.f3 rfl rfl rfl rfl rfl rfl rfl ⟨rfl, rfl, rfl, rfl, rfl⟩ rfl rfl rfl rfl rfl (by kernel_rfl) Try.func3 (by kernel_rfl)
    (of_decide_eq_true (by kernel_rfl)) (by unfold Func.isWrapper; first | (rw [if_pos (by decide +kernel)]; kernel_rfl) | (rw [if_neg (by decide +kernel)]; exact ⟨rfl, rfl⟩))
    (fun os started H enc _ => fills_lifted os started H enc)
end Go.Proofs.Ytepacocajnobgaa
