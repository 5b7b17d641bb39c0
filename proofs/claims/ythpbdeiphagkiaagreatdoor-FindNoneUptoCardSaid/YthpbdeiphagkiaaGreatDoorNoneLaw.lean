/- FindNone: a finder that nobody made finds nothing. The second form: what it reads is of bulk at most 1048576. No other condition. -/
import Derived.Test.YthpbdeiphagkiaaGreatDoorNone
import Derived.Test.YthpbdeiphagkiaaGreatDoorLawKit
import Derived.Deep.Strs
namespace Go.Proofs.YthpbdeiphagkiaaGreatDoor
open Go.ChangeShapes Go.WideShapes Go.ChangeAt Go.RowKit Go.Deep Find
open Go.ChangeMaps (open_string shut_string)

section
variable {H : Type} {enc : TypeId × Value → H} {w : World} {base : Nat} {spare : Nat → Bool} {held : Bool}
theorem cells1 : Tryz.prog.cellsOf 35 = 1 := by kernel_rfl
theorem cells2 : Tryz.prog.cellsOf 4 = 1 := by kernel_rfl
set_option maxRecDepth 100000 in
/-- Clauses that came in. -/
theorem clsN_of_trod {n : Nat} {v : Value} {x : DataW H × List MemPlace} (h : DataW.trod enc Tryz.prog w base spare held n 22 [v] = some x) :
    ∃ (a : Option Addr) (c : Nat) (L : List Cl), v = .slice a L.length c ∧ ClsN w (.slice a L.length c) L ∧ L.length ≤ Rows.uptoBulk x.1 ∧ ∀ c ∈ L, c.words.length ≤ Rows.uptoBulk x.1 := by
  have hz3 : Tryz.prog.cellsOf 62 = 3 := by kernel_rfl
  rcases open_slice Tryz.underlying22 h with ⟨h1, _⟩ | ⟨a, len, cap, m, n', D, Pl, h1, hb, hl, hm, hmm, hx, hat⟩
  · simp at h1; subst h1
    exact ⟨none, 0, [], rfl, ⟨none, 0, rfl, fun k hk => absurd hk (Nat.not_lt_zero _)⟩, by simp, by simp⟩
  · simp at h1; subst h1
    have hml : len ≤ m := by rw [hmm]; split <;> omega
    obtain ⟨L, hll, hlp⟩ := choose_of (p := fun i (c : Cl) => (∃ aw cw, (w.cell? (a.add (i * 3)) = some (.slice aw c.words.length cw) ∧ w.cell? (a.add (i * 3 + 1)) = some (.bool c.no) ∧ w.cell? (a.add (i * 3 + 2)) = some (.bool c.opn) ∧ StrSl w (.slice aw c.words.length cw) c.words) ∧ (aw = none → cw = 0)) ∧ c.words.length ≤ Rows.uptoBulk (D i)) len fun i hi => by
      obtain ⟨cs', hc, ht⟩ := hat i (by omega)
      rw [hz3] at hc
      obtain ⟨_, hlen, hcell⟩ := World.cells?_some hc
      obtain ⟨y0, y1, y2, n2, hD, _, t0, t1, t2⟩ := trod_struct3 Tryz.underlying62 ht
      match cs', hlen with
      | [v0, v1, v2], _ =>
        simp only [cells1, cells2, List.drop_zero, List.drop_succ_cons, List.take_succ_cons, List.take_zero] at t0 t1 t2
        obtain ⟨aw, cw, l, rfl, hs, hn, hb1, _⟩ := strSl_of_trod t0
        obtain ⟨b1, e1, _⟩ := DataW.trod_bool Tryz.underlying4 t1
        obtain ⟨b2, e2, _⟩ := DataW.trod_bool Tryz.underlying4 t2
        simp only [List.cons.injEq, and_true] at e1 e2
        subst e1 e2
        have q0 := hcell 0 (by omega)
        have q1 := hcell 1 (by omega)
        have q2 := hcell 2 (by omega)
        rw [add_add] at q0 q1 q2
        refine ⟨⟨l, b1, b2⟩, ⟨aw, cw, ⟨by simpa using q0, by simpa using q1, by simpa using q2, hs⟩, hn⟩, ?_⟩
        simp only [Prod.mk.injEq] at hD
        rw [hD.1]
        simp only [Rows.uptoBulk, Rows.uptoBulkAll]
        omega
    subst hll
    refine ⟨some a, cap, L, rfl, ⟨some a, cap, rfl, fun k hk => ?_⟩, ?_, fun c hc => ?_⟩
    · obtain ⟨⟨aw, cw, ⟨c0, c1, c2, hs⟩, hn⟩, _⟩ := hlp k hk
      obtain ⟨b, off, spot⟩ := a
      have hsp : spot = none := by
        obtain ⟨⟨_, _, ⟨z0, _⟩, _⟩, _⟩ := hlp 0 (by omega)
        have := World.cell?_spot z0
        simpa [Addr.add] using this
      subst hsp
      rw [add_none] at c0 c1 c2
      exact ⟨b, off, rfl, aw, cw, ⟨c0, c1, c2, hs⟩, hn⟩
    · rw [hx]
      have := bulk_len ((List.range L.length).map D)
      simp only [Rows.uptoBulk, List.length_map, List.length_range] at this ⊢
      omega
    · obtain ⟨i, hi, rfl⟩ := List.mem_iff_getElem.1 hc
      have hd := (hlp i hi).2
      have hm' : D i ∈ (List.range L.length).map D := List.mem_map.2 ⟨i, List.mem_range.2 hi, rfl⟩
      have h2 := bulk_part hm'
      rw [hx]
      simp only [Rows.uptoBulk]
      omega
end

set_option maxRecDepth 100000 in
theorem none_lifted (os : Os) (started : os.Started) (H : Type) (enc : TypeId × Value → H) (F : Stop.Interp) :
    ReturnsInHanded {} Tryz.checked os 3 .any ((Rows.OpenSpec.upto Rows.findNoneSpec).preRow enc Tryz.prog Tryz.f3 Rows.findNoneUptoRow.domain false Rows.findNoneUptoRow.laid) (((Rows.OpenSpec.upto Rows.findNoneSpec).at F).post enc Tryz.prog Tryz.f3 false true false false) := by
  have hw : (DataW.whole enc Tryz.prog ((laidWorld os).forCall (fun _ _ => 0) ⟨#[], #[.string ⟨#[]⟩, .slice none 0 0], []⟩).memory Tryz.f3.params.toList Rows.findNoneSpec.vars false #[Value.string ⟨#[]⟩, .slice none 0 0].toList 8).map (fun x => (x.1, x.2.1)) =
      some ([.lit (.string []), .nil], []) := by kernel_rfl
  obtain ⟨⟨x1, x2, x3⟩, hx, hx1⟩ := Option.map_eq_some_iff.1 hw
  simp only [Prod.mk.injEq] at hx1
  obtain ⟨rfl, rfl⟩ := hx1
  refine returnsInHanded_of_row (C := Tryz.checked) (s := Rows.OpenSpec.upto Rows.findNoneSpec) own started (by kernel_rfl) Tryz.func3
    (witness_row_atRef (enc := enc) (C := Tryz.checked) false (laidWorld os) #[.string ⟨#[]⟩, .slice none 0 0] rfl (by kernel_rfl) (by kernel_rfl) (by kernel_rfl)
      (OpenSpec.preRow_of_cond 8 hx (by kernel_rfl) (fun k hk => by cases hk; kernel_rfl) (by kernel_rfl) (laid_met os _))) ?_
  intro W base args ds gs before hval0 hW _ hcond _ hL _ _
  have hbulk := bulk_bound (hcond _ rfl)
  have hval : ∀ (j : Nat) t v, Tryz.f3.params[j]? = some t → args[j]? = some v → Value.okWide Tryz.prog W .any base t v := hval0
  have hW' : DataW.Whole enc Tryz.prog Tryz.f3.params.toList Rows.findNoneSpec.vars false W args.toList ds gs before := hW
  obtain ⟨p, q, hA0, hV, rfl, hfz, hnd⟩ := hW
  have hA : DataW.TrodAll enc Tryz.prog W 0 (fun _ => true) true Tryz.f3.params.toList args.toList ds p := hA0
  obtain ⟨rfl, rfl⟩ := trodVars_none hV
  rw [Tryz.params3] at hA hval
  obtain ⟨v0, vs0, d0, ds0, p0, q0, g0, k0, _, t0, r0⟩ := trodAll_cons hA
  obtain ⟨v1, vs1, d1, ds1, p1, q1, g1, k1, _, t1, r1⟩ := trodAll_cons r0
  obtain ⟨g, k, _⟩ := trodAll_nil r1
  subst g k g1 k1 k0
  obtain rfl : args = #[v0, v1] := by cases args; simp_all
  obtain ⟨s, rfl, rfl, rfl, ws⟩ := open_string Tryz.underlying9 (hval 0 9 v0 rfl rfl) t0
  obtain ⟨a1, len1, c1, rfl⟩ := okWide_slice Tryz.underlying22 (hval 1 22 v1 rfl rfl)
  obtain ⟨f1, hf1⟩ := t1
  obtain ⟨a1', c1', CC, hv1, s1, b1, e1⟩ := clsN_of_trod (v := .slice a1 len1 c1) hf1
  simp only [Value.slice.injEq] at hv1
  obtain ⟨rfl, rfl, rfl⟩ := hv1
  simp only [List.append_nil, Rows.uptoBulkAll, bulk_string] at hbulk
  simp only at b1 e1
  refine (none_walk s CC a1 c1 W (tabs_of_laid hL) s1 (by rw [size_list]; omega) (by omega) (fun x hx => by have := e1 x hx; omega)).mono fun e W' ⟨he, hb⟩ => ⟨_, he, ?_⟩
  exact law_post laidOut rfl (t := 4) (by kernel_rfl) Tryz.underlying4 (by rw [Tryz.params3]; intro t ht; simp at ht; rcases ht with rfl | rfl <;> exact ⟨by kernel_rfl, of_decide_eq_true (by kernel_rfl)⟩) hW' rfl hb

theorem none_upto : Rows.FindNoneUptoSaid :=
  OpenClaim.holds_of_cond 3 Tryz.f3 rfl rfl rfl rfl rfl rfl rfl ⟨rfl, rfl, rfl, rfl, rfl⟩ rfl rfl rfl rfl rfl (by kernel_rfl) Tryz.func3 (by kernel_rfl)
    (of_decide_eq_true (by kernel_rfl)) (by unfold Func.isWrapper; first | (rw [if_pos (by decide +kernel)]; kernel_rfl) | (rw [if_neg (by decide +kernel)]; exact ⟨rfl, rfl⟩))
    (fun os started H enc _ F => by rw [OpenClaim.pre_eq_preRow]; exact none_lifted os started H enc F)
theorem none_plain (f : FuncId) (fn : Func) (hf : Tryz.pinned.checked.prog.funcNamed "folio/foliolaw23.FindNone" = some f) (hfn : Tryz.pinned.checked.prog.funcs[f]? = some fn) :
    false = Tryz.pinned.checked.prog.looks [] ∧ ∀ (j : Nat) t, fn.params[j]? = some t → Tryz.pinned.checked.prog.wantsStandIn t = false := by
  obtain rfl : f = 3 := Option.some.inj ((show Tryz.prog.funcNamed "folio/foliolaw23.FindNone" = some 3 by kernel_rfl).symm.trans hf) |>.symm
  obtain rfl : fn = Tryz.f3 := (Option.some.inj (Tryz.func3.symm.trans hfn)).symm
  refine ⟨by kernel_rfl, fun j t ht => ?_⟩
  rw [Tryz.params3] at ht
  have hm := Array.mem_of_getElem? ht
  simp at hm
  rcases hm with rfl | rfl
  · exact (show Tryz.prog.wantsStandIn 9 = false by kernel_rfl)
  · exact (show Tryz.prog.wantsStandIn 22 = false by kernel_rfl)
theorem none_holds : Rows.FindNoneUptoCardSaid :=
  Claim7.holds_tied_plain_at .later [] _ _ _ _ none_upto (fun _ h => by cases h) (by kernel_rfl) (fun _ h => by cases h) findNoneUpto_row_tie rfl ⟨rfl, rfl⟩ (by kernel_rfl) rfl none_plain (by kernel_rfl)
end Go.Proofs.YthpbdeiphagkiaaGreatDoor
