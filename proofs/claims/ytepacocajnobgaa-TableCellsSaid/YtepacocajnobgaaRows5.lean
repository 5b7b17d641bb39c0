/- TableRows: for every list of columns and all flows the law answers true. No condition beyond the form's own. -/
import Derived.Test.YtepacocajnobgaaColumns
import Derived.Test.YtepacocajnobgaaRRow
namespace Go.Proofs.Ytepacocajnobgaa
open Go.ChangeShapes Go.WideShapes Go.ChangeAt Go.RowKit

theorem cols_one (l : List (Int × Int)) : ∀ u ∈ colCells l, u.oneCell' = true := by
  intro u hu
  obtain ⟨c, _, hc⟩ := List.mem_flatMap.1 hu
  simp at hc
  rcases hc with rfl | rfl <;> rfl
theorem ColSl.src {w : World} {a : Option Addr} {n c : Nat} {cs : List (Int × Int)} (h : ColSl w (.slice a n c) cs) (ad : Addr) (ha : a = some ad) : ∀ j u, (colCells cs)[j]? = some u → w.cell? (ad.add j) = some u := by
  intro j u hu
  have hj : j < cs.length * 2 := by have := (List.getElem?_eq_some_iff.1 hu).1; rw [colCells_length] at this; exact this
  obtain ⟨a', c', he, h1⟩ := h
  injection he with e1 e2 e3
  obtain ⟨b, off, ha', hat⟩ := h1 (j / 2) (by omega)
  rw [← e1, ha] at ha'
  injection ha' with ha'
  subst ha'
  obtain ⟨g0, g1⟩ := colCells_get cs (j / 2) (by omega)
  obtain ⟨q0, q1⟩ := hat (j / 2) (by omega)
  rw [add_none]
  rcases (by omega : j = j / 2 * 2 ∨ j = j / 2 * 2 + 1) with h2 | h2
  · rw [h2] at hu ⊢; rw [g0] at hu; cases hu; exact q0
  · rw [h2] at hu ⊢; rw [g1] at hu; cases hu
    exact q1
theorem rowOf_len (cs : List (Int × Int)) (flows : List (List Gl)) (hf : ∀ l ∈ flows, l.length ≤ 2932031007317) : (rowOf cs flows).1.length ≤ 2932031007317 ∧ ∀ x ∈ (rowOf cs flows).1, x.length ≤ 200 := by
  unfold rowOf
  split
  · simp
  · rename_i h1
    split
    · simp
    · have hgood : goodC cs cs.length = true := by
        cases h : goodC cs cs.length with
        | true => rfl
        | false => exact absurd (.inr (.inr (.inr h))) h1
      have hb := highP_bd (cells := cellsP cs flows cs.length) (cellsP_bd cs flows cs.length hf) cs.length
      refine ⟨by rw [rowsP_length]; omega, fun x hx => ?_⟩
      have hmem : ∀ (n r : Nat), x ∈ rowsP cs (cellsP cs flows cs.length) n r → ∃ k, x = joinP cs (cellsP cs flows cs.length) k n := by
        intro n r
        induction r with
        | zero => intro h; simp [rowsP] at h
        | succ r ih =>
          intro h
          simp only [rowsP, List.mem_append, List.mem_singleton] at h
          rcases h with h | h
          · exact ih h
          · exact ⟨r, h⟩
      obtain ⟨k, rfl⟩ := hmem _ _ hx
      have h2 := (joinP_ok hgood (fun i r hi hr => cellsP_fit cs flows cs.length hf i r hi hr) k cs.length (Nat.le_refl _)).len
      have h3 := endC_bd hgood
      omega

set_option maxRecDepth 100000 in
set_option maxHeartbeats 1000000 in
theorem rows_walk (v : Value) (cs : List (Int × Int)) (u : Value) (flows : List (List Gl)) (w : World) (hv : ColSl w v cs) (hnil : NilOk v) (hl : cs.length ≤ 8796093021952) (hu : RowsSl w u flows) (_ : NilOk u) (hfl : flows.length ≤ 5864062014634)
    (hf : ∀ l ∈ flows, l.length ≤ 2932031007317 ∧ ∀ g ∈ l, -9223372036854775808 ≤ g.wide ∧ g.wide ≤ 9223372036854775807) :
    Calls Try.prog 5 #[v, u] w fun e w' => e = .returned (.bool true) ∧ Below w.heap.size w w' := by
  have Hv := Lib.hid hv
  have Hu := Lib.hid hu
  obtain ⟨a, c, rfl, hat⟩ := hv
  have Hnil := Lib.hid hnil
  have Hf := Lib.hid (fun l hl => (hf l hl).1)
  have Hlen := Lib.hid (rowOf_len cs flows (fun l hl => (hf l hl).1))
  clear hat hnil hf hu
  obtain ⟨i0, hi0, hz0, hz1, hz2⟩ := info_parts info59
  go_enter Try.func5, Try.ntmps5
  go_wp2_with (at_builtin; go_loud (refine wpList_append_src rfl (.tmp 10) (.tmp 11) 34 rfl w.heap.size 59 i0 _ 2 16 Try.underlying34 hi0 hz0 hz1 hz2 rfl (by omega) (.slice (some ⟨w.heap.size, 0, none⟩) 0 0) 0 [] rfl (World.ownsRow_made w #[] 0 (Nat.le_refl _) (by unfold maxLen; omega) rfl) a cs.length c (colCells cs) rfl (fun h => Hnil.out _ _ (by rw [h])) (colCells_length _) (fun ad ha => (Hv.out.new ((Below.refl _ _).alloc (Nat.le_refl _) _)).src ad ha) (cols_one _) (by unfold maxLen; omega) (by omega) (by simp) ?_); intro na nc w1 hown hgrow)
  have Hb1 := Lib.hid (show Below w.heap.size w w1 from ((Below.refl _ _).alloc (Nat.le_refl _) _).grown hgrow (by simp) fun k hk => by simp [Value.ownBlock] at hk; omega)
  have Hi1 := Lib.hid (show ColSl w1 (.slice na cs.length nc) cs from colSl_of_owns (B := w.heap.size) (by simpa using hown))
  clear hown hgrow
  refine (twins_any _ flows _ (by omega) (fun l hl => by have := Hf.out l hl; omega) (Hu.out.new Hb1.out)).mono ?_
  rintro e w2 ⟨v2, rfl, hnew2, hb2⟩
  have Hb2 := Lib.hid (Hb1.out.trans (hb2.mono Hb1.out.size))
  have Hr2 := Lib.hid (RowsSl.of_new hnew2)
  have Hi2 := Lib.hid (Hi1.out.new hb2)
  clear hnew2 hb2
  go_wp2_with fail
  refine (row_any _ _ cs flows _ Hi2.out Hr2.out Hf.out (by omega) (by omega)).mono ?_
  rintro e w3 ⟨v3, rfl, hnew3, hb3⟩
  have Hb3 := Lib.hid (Hb2.out.trans (hb3.mono Hb2.out.size))
  have Hr3 := Lib.hid (RowsSl.of_new hnew3)
  clear hnew3 hb3
  go_wp2_with fail
  refine (rrow_any _ _ cs flows _ (Hv.out.new Hb3.out) (Hu.out.new Hb3.out) Hf.out (by omega) (by omega)).mono ?_
  rintro e w4 ⟨v4, rfl, hnew4, hb4⟩
  have Hb4 := Lib.hid (Hb3.out.trans (hb4.mono Hb3.out.size))
  have Hr4 := Lib.hid (RowsSl.of_new hnew4)
  have Hr3' := Lib.hid (Hr3.out.new hb4)
  clear hnew4 hb4
  go_wp2_with fail
  refine (sameAll_any _ _ (rowOf cs flows).1 _ (by have := Hlen.out.1; omega) (fun x hx => by have := Hlen.out.2 x hx; omega) Hr3'.out Hr4.out).mono ?_
  rintro e w5 ⟨rfl, n5, hw5⟩
  have Hb5 := Lib.hid (show Below w.heap.size w w5 by rw [hw5]; exact below_drewN Hb4.out _)
  clear hw5
  go_wp2_with fail
  refine (awake_any _).mono ?_
  rintro e w6 ⟨rfl, hb6⟩
  have Hb6 := Lib.hid (Hb5.out.trans (hb6.mono Hb5.out.size))
  clear hb6
  go_wp2
  go_ret
  exact ⟨rfl, Hb6.out⟩

set_option maxRecDepth 100000 in
theorem rows_lifted (os : Os) (started : os.Started) (H : Type) (enc : TypeId × Value → H) :
    ReturnsInHanded {} Try.checked os 5 .any (Rows.tableRowsSpec.pre6 enc Try.prog Try.f5 Rows.tableRowsRow.domain false) (Rows.tableRowsSpec.post enc Try.prog Try.f5 false true false false) := by
  refine returnsInHanded_of_change_sized (C := Try.checked) Try.own started (by kernel_rfl) Try.func5
    (ChangeSpec.witness6 (enc := enc) (C := Try.checked) false ⟨#[], #[.slice none 0 0, .slice none 0 0], []⟩ 8 (by kernel_rfl) (by kernel_rfl) (by kernel_rfl) (by kernel_rfl)) ?_
  intro W base args ds gs before hval0 hW _ hsz0 _
  have hsz : (DataW.weightsEach Try.prog (Try.f5.params.toList ++ Rows.tableRowsSpec.plain.varTypes Try.prog) (ds ++ gs)).all (· ≤ reachBytes) = true := hsz0
  have hval : ∀ (j : Nat) t v, Try.f5.params[j]? = some t → args[j]? = some v → Value.okWide Try.prog W .any base t v := hval0
  clear hsz0 hval0
  have hW' : DataW.Whole enc Try.prog Try.f5.params.toList Rows.tableRowsSpec.vars false W args.toList ds gs before := hW
  obtain ⟨p, q, hA0, hV, rfl, hfz, hnd⟩ := hW
  have hA : DataW.TrodAll enc Try.prog W 0 (fun _ => true) true Try.f5.params.toList args.toList ds p := hA0
  obtain ⟨rfl, rfl⟩ := trodVars_none hV
  rw [Try.params5] at hA hval hsz
  obtain ⟨v0, v1, d0, d1, p0, p1, rfl, rfl, h0, h1⟩ := open_args2 hA
  obtain ⟨a0, len0, cap0, rfl⟩ := okWide_slice Try.underlying34 (hval 0 34 v0 rfl rfl)
  obtain ⟨fuel0, hf0⟩ := h0
  obtain ⟨l0, hg0, hn0, hl0⟩ := colSl_of_trod hf0 (weights_of hsz (j := 0) rfl rfl)
  obtain ⟨a1, len1, cap1, rfl⟩ := okWide_slice Try.underlying23 (hval 1 23 v1 rfl rfl)
  obtain ⟨fuel1, hf1⟩ := h1
  obtain ⟨l1, hg1, hn1, hl1, hr1⟩ := rowsSl_of_trod hf1 (weights_of hsz (j := 1) rfl rfl) (fun a n c h => okWide_spot Try.underlying23 (by rw [← h]; exact hval 1 23 _ rfl rfl))
  refine (rows_walk _ l0 _ l1 W hg0 hn0 hl0 hg1 hn1 hl1 hr1).mono fun e W' ⟨he, hb⟩ => ⟨_, he, ?_⟩
  exact law_post Try.laidOut rfl (t := 4) (by kernel_rfl) Try.underlying4 (by rw [Try.params5]; intro t ht; simp at ht; rcases ht with rfl | rfl <;> exact ⟨by kernel_rfl, of_decide_eq_true (by kernel_rfl)⟩) hW' rfl hb

theorem rows_holds : Rows.TableRowsSaid :=
  OpenClaim.holds_of_wide 5 Try.f5 rfl rfl rfl rfl rfl rfl rfl ⟨rfl, rfl, rfl, rfl, rfl⟩ rfl rfl rfl rfl rfl (by kernel_rfl) Try.func5 (by kernel_rfl)
    (of_decide_eq_true (by kernel_rfl)) (by unfold Func.isWrapper; first | (rw [if_pos (by decide +kernel)]; kernel_rfl) | (rw [if_neg (by decide +kernel)]; exact ⟨rfl, rfl⟩))
    (fun os started H enc _ => rows_lifted os started H enc)
end Go.Proofs.Ytepacocajnobgaa
