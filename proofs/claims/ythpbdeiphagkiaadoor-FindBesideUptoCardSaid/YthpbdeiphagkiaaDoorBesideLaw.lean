/- FindBeside: what several words side by side hit each of them hits; an open clause hits no less; the order of clauses is no matter. The second form: what it reads is of bulk at most 1048576. No other condition. -/
import Derived.Test.YthpbdeiphagkiaaDoorBeside
import Derived.Test.YthpbdeiphagkiaaDoorLawKit
import Derived.Deep.Strs
namespace Go.Proofs.YthpbdeiphagkiaaDoor
open Go.ChangeShapes Go.WideShapes Go.ChangeAt Go.RowKit Go.Deep Find
open Go.ChangeMaps (open_string shut_string)

section
variable {H : Type} {enc : TypeId × Value → H} {w : World} {base : Nat} {spare : Nat → Bool} {held : Bool}
theorem cells1 : Tryd.prog.cellsOf 22 = 1 := by kernel_rfl
theorem cells2 : Tryd.prog.cellsOf 4 = 1 := by kernel_rfl
set_option maxRecDepth 100000 in
/-- Clauses that came in. -/
theorem clsN_of_trod {n : Nat} {v : Value} {x : DataW H × List MemPlace} (h : DataW.trod enc Tryd.prog w base spare held n 38 [v] = some x) :
    ∃ (a : Option Addr) (c : Nat) (L : List Cl), v = .slice a L.length c ∧ ClsN w (.slice a L.length c) L ∧ L.length ≤ Rows.uptoBulk x.1 ∧ ∀ c ∈ L, c.words.length ≤ Rows.uptoBulk x.1 := by
  have hz3 : Tryd.prog.cellsOf 31 = 3 := by kernel_rfl
  rcases open_slice Tryd.underlying38 h with ⟨h1, _⟩ | ⟨a, len, cap, m, n', D, Pl, h1, hb, hl, hm, hmm, hx, hat⟩
  · simp at h1; subst h1
    exact ⟨none, 0, [], rfl, ⟨none, 0, rfl, fun k hk => absurd hk (Nat.not_lt_zero _)⟩, by simp, by simp⟩
  · simp at h1; subst h1
    have hml : len ≤ m := by rw [hmm]; split <;> omega
    obtain ⟨L, hll, hlp⟩ := choose_of (p := fun i (c : Cl) => (∃ aw cw, (w.cell? (a.add (i * 3)) = some (.slice aw c.words.length cw) ∧ w.cell? (a.add (i * 3 + 1)) = some (.bool c.no) ∧ w.cell? (a.add (i * 3 + 2)) = some (.bool c.opn) ∧ StrSl w (.slice aw c.words.length cw) c.words) ∧ (aw = none → cw = 0)) ∧ c.words.length ≤ Rows.uptoBulk (D i)) len fun i hi => by
      obtain ⟨cs', hc, ht⟩ := hat i (by omega)
      rw [hz3] at hc
      obtain ⟨_, hlen, hcell⟩ := World.cells?_some hc
      obtain ⟨y0, y1, y2, n2, hD, _, t0, t1, t2⟩ := trod_struct3 Tryd.underlying31 ht
      match cs', hlen with
      | [v0, v1, v2], _ =>
        simp only [cells1, cells2, List.drop_zero, List.drop_succ_cons, List.take_succ_cons, List.take_zero] at t0 t1 t2
        obtain ⟨aw, cw, l, rfl, hs, hn, hb1, _⟩ := strSl_of_trod t0
        obtain ⟨b1, e1, _⟩ := DataW.trod_bool Tryd.underlying4 t1
        obtain ⟨b2, e2, _⟩ := DataW.trod_bool Tryd.underlying4 t2
        simp only [List.cons.injEq, and_true] at e1 e2
        subst e1 e2
        have q0 := hcell 0 (by omega)
        have q1 := hcell 1 (by omega)
        have q2 := hcell 2 (by omega)
        rw [add_add] at q0 q1 q2
        refine ⟨⟨l, b1, b2⟩, ⟨aw, cw, ⟨by simpa using q0, by simpa using q1, by simpa using q2, hs⟩, hn⟩, ?_⟩
        simp only [Prod.mk.injEq] at hD
        rw [hD.1]
        simp only [Rows.uptoBulk, Rows.uptoBulkAll]
        omega
    subst hll
    refine ⟨some a, cap, L, rfl, ⟨some a, cap, rfl, fun k hk => ?_⟩, ?_, fun c hc => ?_⟩
    · obtain ⟨⟨aw, cw, ⟨c0, c1, c2, hs⟩, hn⟩, _⟩ := hlp k hk
      obtain ⟨b, off, spot⟩ := a
      have hsp : spot = none := by
        obtain ⟨⟨_, _, ⟨z0, _⟩, _⟩, _⟩ := hlp 0 (by omega)
        have := World.cell?_spot z0
        simpa [Addr.add] using this
      subst hsp
      rw [add_none] at c0 c1 c2
      exact ⟨b, off, rfl, aw, cw, ⟨c0, c1, c2, hs⟩, hn⟩
    · rw [hx]
      have := bulk_len ((List.range L.length).map D)
      simp only [Rows.uptoBulk, List.length_map, List.length_range] at this ⊢
      omega
    · obtain ⟨i, hi, rfl⟩ := List.mem_iff_getElem.1 hc
      have hd := (hlp i hi).2
      have hm' : D i ∈ (List.range L.length).map D := List.mem_map.2 ⟨i, List.mem_range.2 hi, rfl⟩
      have h2 := bulk_part hm'
      rw [hx]
      simp only [Rows.uptoBulk]
      omega
end

set_option maxRecDepth 100000 in
theorem beside_lifted (os : Os) (started : os.Started) (H : Type) (enc : TypeId × Value → H) (F : Stop.Interp) :
    ReturnsInHanded {} Tryd.checked os 4 .any ((Rows.OpenSpec.upto Rows.findBesideSpec).preRow enc Tryd.prog Tryd.f4 Rows.findBesideUptoRow.domain false Rows.findBesideUptoRow.laid) (((Rows.OpenSpec.upto Rows.findBesideSpec).at F).post enc Tryd.prog Tryd.f4 false true false false) := by
  have hw : (DataW.whole enc Tryd.prog ((laidWorld os).forCall (fun _ _ => 0) ⟨#[], #[.slice none 0 0, .slice none 0 0, .slice none 0 0], []⟩).memory Tryd.f4.params.toList Rows.findBesideSpec.vars false #[Value.slice none 0 0, .slice none 0 0, .slice none 0 0].toList 8).map (fun x => (x.1, x.2.1)) =
      some ([.nil, .nil, .nil], []) := by kernel_rfl
  obtain ⟨⟨x1, x2, x3⟩, hx, hx1⟩ := Option.map_eq_some_iff.1 hw
  simp only [Prod.mk.injEq] at hx1
  obtain ⟨rfl, rfl⟩ := hx1
  refine returnsInHanded_of_row (C := Tryd.checked) (s := Rows.OpenSpec.upto Rows.findBesideSpec) own started (by kernel_rfl) Tryd.func4
    (witness_row_atRef (enc := enc) (C := Tryd.checked) false (laidWorld os) #[.slice none 0 0, .slice none 0 0, .slice none 0 0] rfl (by kernel_rfl) (by kernel_rfl) (by kernel_rfl)
      (OpenSpec.preRow_of_cond 8 hx (by kernel_rfl) (fun k hk => by cases hk; kernel_rfl) (by kernel_rfl) (laid_met os _))) ?_
  intro W base args ds gs before hval0 hW _ hcond _ hL _ _
  have hbulk := bulk_bound (hcond _ rfl)
  have hval : ∀ (j : Nat) t v, Tryd.f4.params[j]? = some t → args[j]? = some v → Value.okWide Tryd.prog W .any base t v := hval0
  have hW' : DataW.Whole enc Tryd.prog Tryd.f4.params.toList Rows.findBesideSpec.vars false W args.toList ds gs before := hW
  obtain ⟨p, q, hA0, hV, rfl, hfz, hnd⟩ := hW
  have hA : DataW.TrodAll enc Tryd.prog W 0 (fun _ => true) true Tryd.f4.params.toList args.toList ds p := hA0
  obtain ⟨rfl, rfl⟩ := trodVars_none hV
  rw [Tryd.params4] at hA hval
  obtain ⟨v0, vs0, d0, ds0, p0, q0, g0, k0, _, t0, r0⟩ := trodAll_cons hA
  obtain ⟨v1, vs1, d1, ds1, p1, q1, g1, k1, _, t1, r1⟩ := trodAll_cons r0
  obtain ⟨v2, vs2, d2, ds2, p2, q2, g2, k2, _, t2, r2⟩ := trodAll_cons r1
  obtain ⟨g, k, _⟩ := trodAll_nil r2
  subst g k g2 k2 g1 k1 k0
  obtain rfl : args = #[v0, v1, v2] := by cases args; simp_all
  obtain ⟨a0, len0, c0, rfl⟩ := okWide_slice Tryd.underlying22 (hval 0 22 v0 rfl rfl)
  obtain ⟨a1, len1, c1, rfl⟩ := okWide_slice Tryd.underlying22 (hval 1 22 v1 rfl rfl)
  obtain ⟨f0, hf0⟩ := t0
  obtain ⟨f1, hf1⟩ := t1
  obtain ⟨a2, len2, c2, rfl⟩ := okWide_slice Tryd.underlying38 (hval 2 38 v2 rfl rfl)
  obtain ⟨f2, hf2⟩ := t2
  obtain ⟨a0', c0', TT, hv0, s0, n0, b0, e0⟩ := strSl_of_trod (v := .slice a0 len0 c0) hf0
  obtain ⟨a1', c1', XX, hv1, s1, n1, b1, e1⟩ := strSl_of_trod (v := .slice a1 len1 c1) hf1
  obtain ⟨a2', c2', CC, hv2, s2, b2, e2⟩ := clsN_of_trod (v := .slice a2 len2 c2) hf2
  simp only [Value.slice.injEq] at hv0 hv1 hv2
  obtain ⟨rfl, rfl, rfl⟩ := hv0
  obtain ⟨rfl, rfl, rfl⟩ := hv1
  obtain ⟨rfl, rfl, rfl⟩ := hv2
  simp only [List.append_nil, Rows.uptoBulkAll] at hbulk
  simp only at b0 e0 b1 e1 b2 e2
  refine (beside_walk TT XX CC a0 a1 a2 c0 c1 c2 W (tabs_of_laid hL) s0 s1 s2 n0 n1 (fun x hx => by have := e0 x hx; omega) (fun x hx => by have := e1 x hx; omega) (by omega) (by omega) (by omega) (fun x hx => by have := e2 x hx; omega)).mono fun e W' ⟨he, hb⟩ => ⟨_, he, ?_⟩
  exact law_post laidOut rfl (t := 4) (by kernel_rfl) Tryd.underlying4 (by rw [Tryd.params4]; intro t ht; simp at ht; rcases ht with rfl | rfl <;> exact ⟨by kernel_rfl, of_decide_eq_true (by kernel_rfl)⟩) hW' rfl hb

theorem beside_upto : Rows.FindBesideUptoSaid :=
  OpenClaim.holds_of_cond 4 Tryd.f4 rfl rfl rfl rfl rfl rfl rfl ⟨rfl, rfl, rfl, rfl, rfl⟩ rfl rfl rfl rfl rfl (by kernel_rfl) Tryd.func4 (by kernel_rfl)
    (of_decide_eq_true (by kernel_rfl)) (by unfold Func.isWrapper; first | (rw [if_pos (by decide +kernel)]; kernel_rfl) | (rw [if_neg (by decide +kernel)]; exact ⟨rfl, rfl⟩))
    (fun os started H enc _ F => by rw [OpenClaim.pre_eq_preRow]; exact beside_lifted os started H enc F)
theorem beside_plain (f : FuncId) (fn : Func) (hf : Tryd.pinned.checked.prog.funcNamed "folio/foliolaw23.FindBeside" = some f) (hfn : Tryd.pinned.checked.prog.funcs[f]? = some fn) :
    false = Tryd.pinned.checked.prog.looks [] ∧ ∀ (j : Nat) t, fn.params[j]? = some t → Tryd.pinned.checked.prog.wantsStandIn t = false := by
  obtain rfl : f = 4 := Option.some.inj ((show Tryd.prog.funcNamed "folio/foliolaw23.FindBeside" = some 4 by kernel_rfl).symm.trans hf) |>.symm
  obtain rfl : fn = Tryd.f4 := (Option.some.inj (Tryd.func4.symm.trans hfn)).symm
  refine ⟨by kernel_rfl, fun j t ht => ?_⟩
  rw [Tryd.params4] at ht
  have hm := Array.mem_of_getElem? ht
  simp at hm
  rcases hm with rfl | rfl
  · exact (show Tryd.prog.wantsStandIn 22 = false by kernel_rfl)
  · exact (show Tryd.prog.wantsStandIn 38 = false by kernel_rfl)
theorem beside_holds : Rows.FindBesideUptoCardSaid :=
  Claim7.holds_tied_plain_at .later [] _ _ _ _ beside_upto (fun _ h => by cases h) (by kernel_rfl) (fun _ h => by cases h) findBesideUpto_row_tie rfl ⟨rfl, rfl⟩ (by kernel_rfl) rfl beside_plain (by kernel_rfl)
end Go.Proofs.YthpbdeiphagkiaaDoor
