/- TableApart: columns stand apart, all within the width: for every list of widths and every width the law answers true. No condition beyond the form's own. -/
import Derived.Test.YtepacocajnobgaaColumns
import Derived.Test.YtepacocajnobgaaApartSpec
namespace Go.Proofs.Ytepacocajnobgaa
open Go.ChangeShapes Go.WideShapes Go.ChangeAt Go.RowKit

theorem columnsOf_zero {ws : List Int} {wide : Int} (h : (columnsOf ws wide).2 ≠ 0) : (columnsOf ws wide).1 = [] := by
  unfold columnsOf at h ⊢
  split
  · rfl
  · rename_i h1
    rw [if_neg h1] at h
    split
    · rfl
    · rename_i h2
      rw [if_neg h2] at h
      exact absurd rfl h
theorem endC_le {cs : List (Int × Int)} {n : Nat} {m : Int} (h : ∀ k, k < n → endC cs k ≤ (cs.getD k (0, 0)).1 ∧ 1 ≤ (cs.getD k (0, 0)).2) (hm : endC cs n ≤ m) : ∀ d k, k + d = n → endC cs k ≤ m := by
  intro d
  induction d with
  | zero => intro k hk; obtain rfl : k = n := by omega
            exact hm
  | succ d ih =>
    intro k hk
    have h1 := ih (k + 1) (by omega)
    have h2 := h k (by omega)
    have : endC cs (k + 1) = (cs.getD k (0, 0)).1 + (cs.getD k (0, 0)).2 := rfl
    omega
theorem ColSl.shape {w : World} {v : Value} {cs : List (Int × Int)} (h : ColSl w v cs) : ∃ a c, v = .slice a cs.length c := by
  obtain ⟨a, c, h1, _⟩ := h
  exact ⟨a, c, h1⟩

set_option maxRecDepth 100000 in
set_option maxHeartbeats 2000000 in
theorem apart_walk (v : Value) (ws : List Int) (wide : Int) (w : World) (hv : IntSl w v ws) (hnil : NilOk v) (hl : ws.length ≤ 17592186043904) (_ : ∀ z ∈ ws, -9223372036854775808 ≤ z ∧ z ≤ 9223372036854775807) (_ : -9223372036854775808 ≤ wide ∧ wide ≤ 9223372036854775807) :
    Calls Try.prog 9 #[v, .int .i64 wide] w fun e w' => e = .returned (.bool true) ∧ Below w.heap.size w w' := by
  have Hv := Lib.hid hv
  obtain ⟨a, c, rfl, hat⟩ := hv
  have Hnil := Lib.hid hnil
  have Hat := Lib.hid hat
  have Hcl := Lib.hid (columnsOf_len ws wide)
  have Hap := Lib.hid (fun h => columnsOf_apart (ws := ws) (wide := wide) h)
  have Hz := Lib.hid (fun h => columnsOf_zero (ws := ws) (wide := wide) h)
  clear hat hnil
  obtain ⟨i0, hi0, hz0, hz1, hz2⟩ := info_parts info3
  go_enter Try.func9, Try.ntmps9
  go_wp2_with fail
  refine (awake_any _).mono ?_
  rintro e w0 ⟨rfl, hb0⟩
  have Hb0 := Lib.hid hb0
  have hw0 : w.heap.size ≤ w0.heap.size := hb0.size
  clear hb0
  go_wp2_with (at_builtin; go_loud (refine wpList_append_src rfl (.tmp 12) (.tmp 13) 33 rfl w0.heap.size 3 i0 _ 1 8 Try.underlying33 hi0 hz0 hz1 hz2 rfl (by omega) (.slice (some ⟨w0.heap.size, 0, none⟩) 0 0) 0 [] rfl (World.ownsRow_made w0 #[] 0 (Nat.le_refl _) (by unfold maxLen; omega) rfl) a ws.length c (ws.map (Value.int .i64)) rfl (fun h => Hnil.out _ _ (by rw [h])) (by simp) (fun ad ha => ((Hv.out.new Hb0.out).new ((Below.refl _ _).alloc (Nat.le_refl _) _)).src ad ha) (ints_one _) (by unfold maxLen; omega) (by omega) (by simp) ?_); intro na nc w1 hown hgrow)
  have Hb1 := Lib.hid (show Below w0.heap.size w0 w1 from ((Below.refl _ _).alloc (Nat.le_refl _) _).grown hgrow (by simp) fun k hk => by simp [Value.ownBlock] at hk; omega)
  have Hi1 := Lib.hid (show IntSl w1 (.slice na ws.length nc) ws from intSl_of_owns (B := w0.heap.size) (by simpa using hown))
  clear hown hgrow
  refine (cols_any _ ws wide _ Hi1.out (by omega)).mono ?_
  rintro e w2 ⟨v2, rfl, hown2, hb2⟩
  have Hb2 := Lib.hid (Hb0.out.trans ((Hb1.out.trans (hb2.mono Hb1.out.size)).mono hw0))
  have Hc2 := Lib.hid (colSl_of_owns hown2)
  obtain ⟨a2, c2, hs2⟩ := (colSl_of_owns hown2).shape
  clear hown2 hb2
  subst hs2
  obtain ⟨x, hx⟩ : ∃ x, x = columnsOf ws wide := ⟨_, rfl⟩
  rw [← hx] at Hcl Hap Hz Hc2 ⊢
  clear hx
  obtain ⟨cs, err⟩ := x
  by_cases herr : err = 0
  · subst herr
    obtain ⟨h1, h2, h3, h4, h5⟩ := Hap.out rfl
    simp only at h1 h3
    have H2 := Lib.hid h2
    have Hl := Lib.hid h1
    clear h1 h2
    simp only at Hc2 ⊢
    rw [Hl.out] at Hc2 ⊢
    have Hcat := Lib.hid (show ∀ k, k < ws.length → ∃ b off, a2 = some ⟨b, off, none⟩ ∧ ColAt w2 b off cs by
      obtain ⟨a', c', he, hh⟩ := Hc2.out
      injection he with e1 e2 e3
      subst e1
      intro k hk; exact hh k (by rw [Hl.out]; exact hk))
    go_wp2_with fail
    go_loopw [7, 8] (fun en i wr => ∃ k : Nat, k ≤ ws.length ∧ i = .int .i64 k ∧ en = .int .i64 (endC cs k) ∧ 0 ≤ endC cs k ∧ ∃ n, wr = w2.drewN n) (fun _ i _ => ws.length - (intOf i).toNat)
    case atStart => exact ⟨0, Nat.zero_le _, rfl, rfl, by simp [endC], 0, rfl⟩
    case round =>
      obtain ⟨k, hk, rfl, rfl, hen, nd, hnd⟩ := hrel
      have Hnd := Lib.hid hnd
      by_cases hlt : k < ws.length
      · obtain ⟨b, off, ha, hca⟩ := Hcat.out k hlt
        subst ha
        obtain ⟨c0, c1⟩ := (hca.same (w' := wr) (by rw [hnd]; rfl)) k (by rw [Hl.out]; exact hlt)
        obtain ⟨vb, vo, ha, hva⟩ := Hat.out k hlt
        subst ha
        have d0 : wr.cell? ⟨vb, vo + k, none⟩ = some (.int .i64 (ws.getD k 0)) := by
          rw [hnd]; show w2.cell? _ = _; rw [Hb2.out.cell (p := ⟨vb, vo + k, none⟩) (hva.lt (by omega))]; exact hva k hlt
        obtain ⟨g1, g2, g3⟩ := H2.out k hlt
        have Hen := Lib.hid (show endC cs (k + 1) = (cs.getD k (0, 0)).1 + (cs.getD k (0, 0)).2 from rfl)
        have g4 := endC_le (n := ws.length) (m := 200) (fun k hk => ⟨(H2.out k hk).1, (H2.out k hk).2.1⟩) (by omega) (ws.length - (k + 1)) (k + 1) (by omega)
        rw [Hen.out] at g4
        have i1 : (0 : Int) ≤ (k : Int) := by omega
        have i2 : (k : Int) < (ws.length : Int) := by omega
        clear hca hva hnd
        generalize cs.getD k (0, 0) = q at *
        generalize ws.getD k 0 = z at *
        obtain ⟨at_, x⟩ := q
        generalize endC cs k = en at *
        simp only at g1 g2 g3 g4 c0 c1
        have e0 : IntKind.i64.wrap (at_ + x) = at_ + x := IntWalk.i64_in _ (by omega)
        have E0 := Lib.hid e0
        clear e0
        have e1 : decide (at_ < en) = false := by simp; omega
        have e2 : decide (x < 1) = false := by simp; omega
        by_cases h0 : 0 < z
        · have e3 : decide (0 < z) = true := by simp; omega
          have e4 : decide (z < x) = false := by have := g3 h0; simp; omega
          clear g3
          go_wp2_with fail
          go_quiet (fail)
          go_wp2_with fail
          have e5 := E0.out
          go_quiet (fail)
          clear e5 e1 e2 e3 e4 c0 c1 d0
          go_wp2
          go_roundw
          case rel => exact ⟨k + 1, by omega, by go_num, by rw [Hen.out], by rw [Hen.out]; omega, _, (by rw [Hnd.out]; simp only [World.drewN_drewN]; rfl)⟩
          case measure => simp [intOf]; omega
        · have e3 : decide (0 < z) = false := by simp; omega
          clear g3
          go_wp2_with fail
          go_quiet (fail)
          go_wp2_with fail
          have e5 := E0.out
          go_quiet (fail)
          clear e5 e1 e2 e3 c0 c1 d0
          go_wp2
          go_roundw
          case rel => exact ⟨k + 1, by omega, by go_num, by rw [Hen.out], by rw [Hen.out]; omega, _, (by rw [Hnd.out]; simp only [World.drewN_drewN]; rfl)⟩
          case measure => simp [intOf]; omega
      · have hkn : k = ws.length := by omega
        clear hnd
        have h6 : endC cs k ≤ wide := by rw [hkn]; exact h3
        go_wp2
        go_ret
        exact ⟨rfl, by rw [Hnd.out]; exact below_drewN Hb2.out _⟩
  · have hz := Hz.out herr
    simp only at hz
    have he : (err != 0) = true := by simp [herr]
    subst hz
    clear herr
    go_wp2
    go_ret
    exact ⟨rfl, Hb2.out⟩


set_option maxRecDepth 100000 in
theorem apart_lifted (os : Os) (started : os.Started) (H : Type) (enc : TypeId × Value → H) :
    ReturnsInHanded {} Try.checked os 9 .any (Rows.tableApartSpec.pre6 enc Try.prog Try.f9 Rows.tableApartRow.domain false) (Rows.tableApartSpec.post enc Try.prog Try.f9 false true false false) := by
  refine returnsInHanded_of_change_sized (C := Try.checked) Try.own started (by kernel_rfl) Try.func9
    (ChangeSpec.witness6 (enc := enc) (C := Try.checked) false ⟨#[], #[.slice none 0 0, .int .i64 0], []⟩ 8 (by kernel_rfl) (by kernel_rfl) (by kernel_rfl) (by kernel_rfl)) ?_
  intro W base args ds gs before hval0 hW _ hsz0 _
  have hsz : (DataW.weightsEach Try.prog (Try.f9.params.toList ++ Rows.tableApartSpec.plain.varTypes Try.prog) (ds ++ gs)).all (· ≤ reachBytes) = true := hsz0
  have hval : ∀ (j : Nat) t v, Try.f9.params[j]? = some t → args[j]? = some v → Value.okWide Try.prog W .any base t v := hval0
  clear hsz0 hval0
  have hW' : DataW.Whole enc Try.prog Try.f9.params.toList Rows.tableApartSpec.vars false W args.toList ds gs before := hW
  obtain ⟨p, q, hA0, hV, rfl, hfz, hnd⟩ := hW
  have hA : DataW.TrodAll enc Try.prog W 0 (fun _ => true) true Try.f9.params.toList args.toList ds p := hA0
  obtain ⟨rfl, rfl⟩ := trodVars_none hV
  rw [Try.params9] at hA hval hsz
  obtain ⟨v0, v1, d0, d1, p0, p1, rfl, rfl, h0, h1⟩ := open_args2 hA
  obtain ⟨a0, len0, cap0, rfl⟩ := okWide_slice Try.underlying33 (hval 0 33 v0 rfl rfl)
  obtain ⟨fuel0, hf0⟩ := h0
  obtain ⟨l0, hg0, hn0, hl0, hz0⟩ := intSl_of_trod hf0 (weights_of hsz (j := 0) rfl rfl)
  obtain ⟨n1, rfl, _, _, w1⟩ := open_int Try.underlying3 (hval 1 3 v1 rfl rfl) h1
  have b1 : -9223372036854775808 ≤ n1 ∧ n1 ≤ 9223372036854775807 := by simpa [Lit.wf, IntKind.min, IntKind.max, IntKind.signed, IntKind.bits] using w1
  refine (apart_walk _ l0 n1 W hg0 hn0 hl0 hz0 b1).mono fun e W' ⟨he, hb⟩ => ⟨_, he, ?_⟩
  exact law_post Try.laidOut rfl (t := 4) (by kernel_rfl) Try.underlying4 (by rw [Try.params9]; intro t ht; simp at ht; rcases ht with rfl | rfl <;> exact ⟨by kernel_rfl, of_decide_eq_true (by kernel_rfl)⟩) hW' rfl hb

theorem apart_holds : Rows.TableApartSaid :=
  OpenClaim.holds_of_wide 9 Try.f9 rfl rfl rfl rfl rfl rfl rfl ⟨rfl, rfl, rfl, rfl, rfl⟩ rfl rfl rfl rfl rfl (by kernel_rfl) Try.func9 (by kernel_rfl)
    (of_decide_eq_true (by kernel_rfl)) (by unfold Func.isWrapper; first | (rw [if_pos (by decide +kernel)]; kernel_rfl) | (rw [if_neg (by decide +kernel)]; exact ⟨rfl, rfl⟩))
    (fun os started H enc _ => apart_lifted os started H enc)
end Go.Proofs.Ytepacocajnobgaa
