/- Row of package table. -/
import Derived.Test.YtepacocajnobgaaRowMem
namespace Go.Proofs.Ytepacocajnobgaa
open Go.RowKit
attribute [local go_sem ↓] Go.wp_at_zero Go.wp_at_succ

theorem goodC_le {cs : List (Int × Int)} {k : Nat} (h : goodC cs k = true) : ∀ j, j ≤ k → goodC cs j = true := by
  induction k with
  | zero => intro j hj; obtain rfl : j = 0 := by omega
            exact h
  | succ k ih =>
    intro j hj
    rcases Nat.lt_or_ge j (k + 1) with h1 | h1
    · simp only [goodC, Bool.and_eq_true] at h; exact ih h.1 j (by omega)
    · obtain rfl : j = k + 1 := by omega
      exact h
theorem rowsP_length (cs : List (Int × Int)) (cells : List (List (List Gl))) (n r : Nat) : (rowsP cs cells n r).length = r := by
  induction r with
  | zero => rfl
  | succ r ih => simp [rowsP, ih]
theorem RowsNew.mono {w : World} {B B' : Nat} {v : Value} {ll : List (List Gl)} (h : RowsNew w B v ll) (hb : B' ≤ B) : RowsNew w B' v ll := by
  obtain ⟨vs, h1, h2⟩ := h
  exact ⟨vs, owns_base h1 hb, h2.same (Nat.le_refl _) (fun _ _ _ => rfl) fun b h _ => Nat.le_trans hb h⟩
theorem glCells_pad (L : List Gl) (t : Nat) : glCells (L ++ List.replicate (t + 1) plainG) = glCells (L ++ List.replicate t plainG) ++ plainG.cells := by
  rw [List.replicate_succ', ← List.append_assoc, glCells_append]; congr 1

/-- append of a line that reads as glyphs, be it nil or not. -/
theorem wpList_append_gl {w : World} {ops : Array Oper} {rest : List Oper} {o : Oper} {a : Act} {Q : Exit → Act → World → Prop} (hgd : o.guard = none) (s x : Operand)
    (ho : o.op = .call { callee := .builtin .append, args := #[s, x], argTypes := #[22, 22] }) (base : Nat) (v : Value) (n : Nat) (xs : List Value) (hs : a.eval s = v) (hown : w.ownsRow base 49 5 v n xs)
    (R : List Gl) (xv : Value) (hx : a.eval x = xv) (hgl : GlSl w xv R) (hb : n + R.length ≤ 2932031007402) (hbase : base ≤ w.heap.size)
    (h : ∀ a' c' w', w'.ownsRow base 49 5 (.slice a' (n + R.length) c') (n + R.length) (xs ++ glCells R) → w.grownBy w' v.ownBlock → wpList Try.prog ops Q rest (a.put o.dst (.slice a' (n + R.length) c')) w') :
    wpList Try.prog ops Q (o :: rest) a w := by
  obtain ⟨i0, hi0, hz0, hz1, hz2⟩ := info_parts info49
  rcases hgl with ⟨⟨xa, xc, rfl, hac⟩, rfl⟩ | ⟨b, off, cap, rfl, hat⟩
  · cases xa with
    | some ad =>
      refine wpList_append_own _ hgd s x 22 ho base 49 i0 _ 5 48 Try.underlying22 hi0 hz0 hz1 hz2 rfl (by omega) v n xs hs hown ad 0 xc [] hx rfl (by simp) (by simp) (by unfold maxLen; simp at hb; omega) (by simp at hb; omega) hbase ?_
      intro v' w1 hown1 hg1 _
      have hsh : ∃ a c, v' = .slice a (n + 0) c := by
        rcases hown1.2 with ⟨rfl, h0⟩ | ⟨g, cap, cur, rfl, _⟩
        · exact ⟨none, 0, by rw [h0]⟩
        · exact ⟨_, _, rfl⟩
      obtain ⟨a', c', rfl⟩ := hsh
      exact h a' c' w1 hown1 hg1
    | none =>
    obtain rfl := hac rfl
    refine wpList_append_own_none hgd s x 22 ho base 49 i0 5 Try.underlying22 hi0 v n xs hs hown hx ?_
    have hsh : ∃ a c, v = .slice a n c := by
      rcases hown.2 with ⟨rfl, h0⟩ | ⟨g, cap, cur, rfl, _⟩
      · exact ⟨none, 0, by rw [h0]⟩
      · exact ⟨_, _, rfl⟩
    obtain ⟨a', c', rfl⟩ := hsh
    exact h a' c' w (by simpa [glCells_nil] using hown) ⟨rfl, rfl, rfl, Nat.le_refl _, fun _ _ _ => rfl⟩
  · refine wpList_append_own _ hgd s x 22 ho base 49 i0 _ 5 48 Try.underlying22 hi0 hz0 hz1 hz2 rfl (by omega) v n xs hs hown ⟨b, off, none⟩ R.length cap (glCells R) hx (glCells_length _) hat.adds (glCells_one _) (by unfold maxLen; omega) (by omega) hbase ?_
    intro v' w1 hown1 hg1 _
    have hsh : ∃ a c, v' = .slice a (n + R.length) c := by
      rcases hown1.2 with ⟨rfl, h0⟩ | ⟨g, cap, cur, rfl, _⟩
      · exact ⟨none, 0, by rw [h0]⟩
      · exact ⟨_, _, rfl⟩
    obtain ⟨a', c', rfl⟩ := hsh
    exact h a' c' w1 hown1 hg1

set_option maxRecDepth 100000 in
set_option maxHeartbeats 4000000 in
theorem row_good (v u : Value) (cs : List (Int × Int)) (flows : List (List Gl)) (w : World) (hv : ColSl w v cs) (hu : RowsSl w u flows) (hf : ∀ l ∈ flows, l.length ≤ 2932031007317)
    (hn1 : 1 ≤ cs.length) (hn8 : cs.length ≤ 8) (hln : flows.length = cs.length) (hgood : goodC cs cs.length = true) :
    Calls Try.prog 19 #[v, u] w fun e w' => FillRes .i64 (rowOf cs flows) w e w' := by
  have hcerr : colErr cs = 0 := by unfold colErr; rw [if_pos hgood]
  have Hrow := Lib.hid (show rowOf cs flows = if errP cs flows cs.length ≠ 0 then ([], errP cs flows cs.length)
    else (rowsP cs (cellsP cs flows cs.length) cs.length (highP (cellsP cs flows cs.length) cs.length).toNat, 0) by
      unfold rowOf; exact if_neg (by rintro (h | h | h | h) <;> first | omega | (rw [hgood] at h; cases h)))
  have Hcols := Lib.hid (columns_any v cs w hv (by omega))
  have Hv := Lib.hid hv
  have Hu := Lib.hid hu
  obtain ⟨a, c, rfl, hat⟩ := hv
  obtain ⟨fa, fc, rfl, hfl⟩ := hu.shape
  rw [hln] at Hu hfl ⊢
  have Hat := Lib.hid hat
  have Hfl := Lib.hid hfl
  have Hf := Lib.hid hf
  have Hgood := Lib.hid hgood
  have Hcerr := Lib.hid hcerr
  have Hln := Lib.hid hln
  clear hat hfl hf hu hgood hcerr hln
  obtain ⟨i0, hi0, hz0, hz1, hz2⟩ := info_parts info23
  obtain ⟨j0, hj0, jz0, jz1, jz2⟩ := info_parts info49
  obtain ⟨k0, hk0, kz0, kz1, kz2⟩ := info_parts info22
  go_enter Try.func19, Try.ntmps19
  go_wp2_with fail
  refine Hcols.out.mono ?_
  rintro e w1 ⟨rfl, hb1⟩
  rw [Hcerr.out]
  have Hb1 := Lib.hid hb1
  clear hb1 Hcols
  go_wp2_with fail
  go_loopw [7, 8, 41] (fun vc m i wr => ∃ k : Nat, k ≤ cs.length ∧ i = .int .i64 k ∧ m = .int .i64 (highP (cellsP cs flows k) k) ∧ (∃ av cv vs, vc = .slice av k cv ∧ CellB wr w.heap.size (.slice av k cv) vs (cellsP cs flows k)) ∧ errP cs flows k = 0 ∧ Below w.heap.size w wr) (fun _ _ i _ => cs.length - (intOf i).toNat)
  case atStart => exact ⟨0, Nat.zero_le _, rfl, rfl, ⟨none, 0, [], rfl, CellB.nil _ _⟩, rfl, Hb1.out⟩
  case round =>
    obtain ⟨k, hk, rfl, rfl, ⟨av, cv, vs, rfl, hcb⟩, herr, hbel⟩ := hrel
    have Hcb := Lib.hid hcb
    have Herr := Lib.hid herr
    have Hbel := Lib.hid hbel
    have hwr : w.heap.size ≤ wr.heap.size := hbel.size
    clear hcb herr hbel
    by_cases hlt : k < cs.length
    · obtain ⟨b, off, ha, hca⟩ := Hat.out k hlt
      subst ha
      have hbw := hca.lt k hlt
      obtain ⟨_, c1⟩ := (hca.same (Hbel.out.block b hbw)) k hlt
      obtain ⟨fb, fo, fu, hfa, hfb, f0, fg⟩ := Hfl.out k hlt
      subst hfa
      have f1 : wr.cell? ⟨fb, fo + k, none⟩ = some fu := by rw [Hbel.out.cell (p := ⟨fb, fo + k, none⟩) hfb]; exact f0
      have Fg := Lib.hid (fg.below Hbel.out (fun b' hb' hlt' => hlt'))
      have Hfl2 := Lib.hid (show (flows.getD k []).length ≤ 2932031007317 by
        rw [List.getD_eq_getElem?_getD, List.getElem?_eq_getElem (by rw [Hln.out]; exact hlt)]; exact Hf.out _ (List.getElem_mem _))
      have Hcs := Lib.hid (show cellsP cs flows (k + 1) = cellsP cs flows k ++ [(fillOf (flows.getD k []) (cs.getD k (0, 0)).2).1] from rfl)
      have Hes := Lib.hid (show errP cs flows (k + 1) = if errP cs flows k ≠ 0 then errP cs flows k else (fillOf (flows.getD k []) (cs.getD k (0, 0)).2).2 from rfl)
      have Hhs := Lib.hid (show highP (cellsP cs flows (k + 1)) (k + 1) = max (highP (cellsP cs flows k) k) ((fillOf (flows.getD k []) (cs.getD k (0, 0)).2).1.length : Int) by
        show max (highP (cellsP cs flows (k + 1)) k) (((cellsP cs flows (k + 1)).getD k []).length : Int) = _
        rw [cellsP_getD cs flows (k + 1) k (by omega), highP_congr k fun i hi => (cellsP_getD cs flows (k + 1) i (by omega)).trans (cellsP_getD cs flows k i hi).symm])
      have Hcl := Lib.hid (cellsP_length cs flows k)
      have hfit := (fillOf_fits (flows.getD k []) (cs.getD k (0, 0)).2 (by have := Hfl2.out; omega)).2
      have hfit2 : (fillOf (flows.getD k []) (cs.getD k (0, 0)).2).1.length ≤ 2932031007317 := by have := Hfl2.out; omega
      have hhb := highP_bd (cells := cellsP cs flows k) (cellsP_bd cs flows k Hf.out) k
      clear hca fg f0 hfit
      generalize hq : (cs.getD k (0, 0)).2 = q at *
      have Hq := Lib.hid hq
      clear hq
      generalize hgl : flows.getD k [] = gl at *
      have Hgl := Lib.hid hgl
      clear hgl
      generalize highP (cellsP cs flows k) k = hi at *
      obtain ⟨hh1, hh2⟩ := hhb
      go_wp2_with fail
      refine (fill_any fu gl q _ Fg.out Hfl2.out).mono ?_
      rintro e w2 ⟨fv, rfl, hnew, hb2⟩
      generalize hx : fillOf gl q = x at *
      obtain ⟨xl, xe⟩ := x
      have Hx := Lib.hid hx
      clear hx
      have hshape : ∃ a c, fv = .slice a xl.length c := by
        obtain ⟨vs, h1, _⟩ := hnew
        rcases h1.2 with ⟨rfl, h0⟩ | ⟨g, cap, cur, rfl, _⟩
        · exact ⟨none, 0, by rw [h0]⟩
        · exact ⟨_, _, rfl⟩
      obtain ⟨xa, xc, hfv⟩ := hshape
      subst hfv
      simp only at hfit2
      have Hnew := Lib.hid hnew
      have Hb2 := Lib.hid (Hbel.out.trans (hb2.mono hwr))
      have Hcb2 := Lib.hid (Hcb.out.below hb2)
      have hw2 : wr.heap.size ≤ w2.heap.size := hb2.size
      clear hnew hb2
      have HerrN := Lib.hid (show xe ≠ 0 → rowOf cs flows = ([], xe) from fun h => by
        have h1 : errP cs flows (k + 1) = xe := by rw [Hes.out, if_neg (by simp [Herr.out])]
        have h2 : errP cs flows cs.length = xe := by rw [errP_keep (k := k + 1) (by omega) (by rw [h1]; exact h), h1]
        rw [Hrow.out, h2, if_pos h])
      by_cases hxe : xe = 0
      · subst hxe
        have Hown2 := Lib.hid (show w2.ownsRow w.heap.size 23 1 (.slice av k cv) k vs by have := Hcb2.out.1; rw [Hcl.out] at this; exact this)
        go_wp2_with (at_builtin; go_loud (refine wpList_append_lies _ rfl (.tmp 59) (.tmp 61) 75 rfl w.heap.size 23 i0 _ 1 24 Try.underlying75 hi0 hz0 hz1 hz2 rfl (by omega) (.slice av k cv) k vs rfl (Hown2.out.alloc _) ⟨w2.heap.size, 0, none⟩ 1 1 [.slice xa xl.length xc] rfl rfl (World.news_of_block (cs := #[.slice xa xl.length xc]) (t := 23) (fr := (0, 0)) (heap_alloc_new w2 _)) (by simp [Value.oneCell']) (by omega) (by unfold maxLen; omega) (by omega) (by simp; omega) (w2.heap.size + 1) (by simp) ?_); intro gg cap w3 hown hgrow hat3 hlt3; have Hg3 := Lib.hid hgrow; clear hgrow; have Ho := Lib.hid hown; clear hown)
        go_roundw
        case rel =>
          refine ⟨k + 1, by omega, by go_num, ?_, ⟨some ⟨gg, 0, none⟩, cap, vs ++ [.slice xa xl.length xc], rfl, ?_⟩, ?_, (Hb2.out.alloc (by omega) _).grown Hg3.out (by simp; omega) fun m hm => (Hown2.out.lt m hm).1⟩
          · rw [Hhs.out]; congr 1; split <;> omega
          · rw [Hcs.out]
            refine (Hcb2.out.below ((Below.refl _ _).alloc (Nat.le_refl _) _)).app Hg3.out (by rw [Hcl.out]) Ho.out ?_ ?_
            · rcases hat3 with h | h
              · exact .inl h
              · right; rw [h]; simp
            · have h1 := RowsIn.of_new (N := fun b => w.heap.size ≤ b ∧ (Value.slice av k cv).ownBlock ≠ some b) Hnew.out fun b h1 h2 => ⟨by omega, fun e => by have := (Hcb.out.1.lt b e).2; omega⟩
              exact h1.same (by simp) (fun b _ hlt => Below.heap_alloc _ _ _ hlt) fun b h _ => h
          · rw [Hes.out, if_neg (by simp [Herr.out])]
        case measure => simp [intOf]; omega
      · have hxe' : (xe == 0) = false := by simp [hxe]
        have hxe2 : (xe != 0) = true := by simp [hxe]
        have Hxe := Lib.hid hxe
        clear hxe
        go_wp2
        go_ret2
        exact ⟨.slice none 0 0, by rw [HerrN.out Hxe.out]; rfl, by rw [HerrN.out Hxe.out]; exact ⟨[], World.ownsRow_nil _ _ _ _, trivial⟩, Hb2.out⟩
    · obtain rfl : k = cs.length := by omega
      have Hrow2 := Lib.hid (show rowOf cs flows = (rowsP cs (cellsP cs flows cs.length) cs.length (highP (cellsP cs flows cs.length) cs.length).toNat, 0) by rw [Hrow.out, if_neg (by simp [Herr.out])])
      obtain ⟨ca, cc, hcv, hrd⟩ := Hcb.out.rd
      have hcl := cellsP_length cs flows cs.length
      have Hfits := Lib.hid (fun i r hi hr => cellsP_fit cs flows cs.length Hf.out i r hi hr)
      have Hclen := Lib.hid (cellsP_bd cs flows cs.length Hf.out)
      have hhb := highP_bd (cells := cellsP cs flows cs.length) (cellsP_bd cs flows cs.length Hf.out) cs.length
      have Hjoin := Lib.hid (fun r i hi => joinP_ok Hgood.out Hfits.out r i hi)
      rw [hcl] at hcv
      injection hcv with hcv1 hcv2 hcv3
      subst hcv1 hcv3
      have Hrd := Lib.hid hrd
      have Hcl := Lib.hid hcl
      clear hcl hrd hcv2 Hcb
      generalize hcells : cellsP cs flows cs.length = cells at *
      generalize highP cells cs.length = hi at *
      obtain ⟨hh1, hh2⟩ := hhb
      clear hcells
      obtain ⟨hn, rfl⟩ := Int.eq_ofNat_of_zero_le hh1
      rw [Int.toNat_natCast] at Hrow2
      obtain ⟨wc, rfl⟩ : ∃ wc : World, wc = wr := ⟨_, rfl⟩
      go_wp2_with fail
      go_loopw [13, 69] (fun vo i wr => ∃ r : Nat, r ≤ hn ∧ i = .int .i64 r ∧ (∃ ov oc vs, vo = .slice ov r oc ∧ RowB wr wc.heap.size (.slice ov r oc) vs (rowsP cs cells cs.length r)) ∧ Below wc.heap.size wc wr) (fun _ i _ => hn - (intOf i).toNat)
      case atStart => exact ⟨0, Nat.zero_le _, rfl, ⟨none, 0, [], rfl, RowB.nil _ _⟩, Below.refl _ _⟩
      case round =>
        obtain ⟨r, hr, rfl, ⟨ov, oc, vs2, rfl, hrb⟩, hbc⟩ := hrel
        have Hrb := Lib.hid hrb
        have Hbc := Lib.hid hbc
        have hwc : wc.heap.size ≤ wr.heap.size := hbc.size
        clear hrb hbc
        by_cases hlr : r < hn
        · obtain ⟨wo, rfl⟩ : ∃ wo : World, wo = wr := ⟨_, rfl⟩
          go_wp2_with fail
          go_loopw [15, 16, 74] (fun vl at_ i wi => ∃ i' : Nat, i' ≤ cs.length ∧ i = .int .i64 i' ∧ at_ = .int .i64 (sumW (joinP cs cells r i')) ∧ (∃ la lc, vl = .slice la (joinP cs cells r i').length lc ∧ wi.ownsRow wo.heap.size 49 5 (.slice la (joinP cs cells r i').length lc) (joinP cs cells r i').length (glCells (joinP cs cells r i'))) ∧ Below wo.heap.size wo wi) (fun _ _ i _ => cs.length - (intOf i).toNat)
          case atStart => exact ⟨0, Nat.zero_le _, rfl, rfl, ⟨none, 0, rfl, World.ownsRow_nil _ _ _ _⟩, Below.refl _ _⟩
          case round =>
            obtain ⟨i, hi', rfl, rfl, ⟨la, lc, rfl, hown⟩, hbo⟩ := hrel
            have Hown := Lib.hid hown
            have Hbo := Lib.hid hbo
            have hwo : wo.heap.size ≤ wr.heap.size := hbo.size
            clear hown hbo
            have hL := (Hjoin.out r i hi')
            have hLen := hL.len
            have hend := endC_bd (cs := cs) (k := i) (goodC_le Hgood.out i hi')
            have Hjs := Lib.hid (show joinP cs cells r (i + 1) = if r < (cells.getD i []).length then padTo (cs.getD i (0, 0)).1 (joinP cs cells r i) ++ (cells.getD i []).getD r [] else joinP cs cells r i from rfl)
            have hL2 : sumW (joinP cs cells r i) ≤ 200 := by have := hL.2; omega
            have hL3 : 0 ≤ sumW (joinP cs cells r i) := by omega
            have hL4 : (joinP cs cells r i).length ≤ 200 := by omega
            have HLok := Lib.hid hL
            clear hL hLen hend
            generalize hLj : joinP cs cells r i = L at *
            have HLj := Lib.hid hLj
            clear hLj
            generalize hs : sumW L = sL at *
            have Hs := Lib.hid hs
            clear hs
            by_cases hlt : i < cs.length
            · obtain ⟨b, off, ha, hca⟩ := Hat.out i hlt
              subst ha
              have hbw := hca.lt i hlt
              have Hca := Lib.hid (hca i hlt)
              obtain ⟨cb, cu, hcb, hcbl, g0, gsl⟩ := Hrd.out i (by rw [Hcl.out]; exact hlt)
              subst hcb
              obtain ⟨ua, uc, rfl, hul⟩ := gsl.shape
              have g1 : wr.cell? ⟨cb, i, none⟩ = some (.slice ua (cells.getD i []).length uc) := by
                rw [Hbo.out.cell (p := ⟨cb, i, none⟩) (Nat.lt_of_lt_of_le hcbl hwc), Hbc.out.cell (p := ⟨cb, i, none⟩) hcbl]; exact g0
              have hm := Hclen.out i
              have Hul := Lib.hid (hul r)
              have Hfit := Lib.hid (Hfits.out i r hlt)
              have hokc := okC_bd (goodC_mono Hgood.out i hlt)
              clear hca g0 gsl hul
              generalize cells.getD i [] = rowsI at *
              generalize cs.getD i (0, 0) = q at *
              obtain ⟨qa, qw⟩ := q
              obtain ⟨q1, q2, q3, q4, q5⟩ := hokc
              simp only at q2 q3 q4 q5
              clear q1
              by_cases hrm : r < rowsI.length
              · obtain ⟨rb, ro, ru, hra, hrbl, r0, rsl⟩ := Hul.out hrm
                subst hra
                have hfit := Hfit.out hrm
                have Hrsl := Lib.hid rsl
                have Hr0 := Lib.hid r0
                have HjT := Lib.hid (show joinP cs cells r (i + 1) = padTo qa L ++ rowsI.getD r [] by rw [Hjs.out, if_pos hrm])
                generalize rowsI.getD r [] = R at *
                have hR2 := hfit.2
                have hR1 := sumW_bd R hfit.1
                have HRw := Lib.hid (wideOf_snoc_of R hfit.1 (by omega))
                clear hfit rsl r0
                generalize hsR : sumW R = sR at *
                have HsR := Lib.hid hsR
                clear hsR
                obtain ⟨wi, rfl⟩ : ∃ wi : World, wi = wr := ⟨_, rfl⟩
                go_wp2_with fail
                have hT : ∃ T : Nat, T = (qa - sL).toNat := ⟨_, rfl⟩
                obtain ⟨T, hT⟩ := hT
                have hT1 : (T : Int) ≤ 200 := by omega
                have hT2 : sL + T ≤ 200 := by omega
                have hT3 : qa ≤ sL + T := by omega
                have hT4 : 0 < T → sL + T ≤ qa := by omega
                have HT := Lib.hid hT
                clear hT
                have HT4 := Lib.hid hT4
                clear hT4
                go_loopw [15, 16] (fun vl at_ wl => ∃ t : Nat, t ≤ T ∧ at_ = .int .i64 (sL + t) ∧ (∃ la lc, vl = .slice la (L.length + t) lc ∧ wl.ownsRow wo.heap.size 49 5 (.slice la (L.length + t) lc) (L.length + t) (glCells (L ++ List.replicate t plainG))) ∧ Below wo.heap.size wo wl) (fun _ at_ _ => (qa - intOf at_).toNat)
                case atStart => exact ⟨0, Nat.zero_le _, by simp, ⟨la, lc, rfl, by simpa using Hown.out⟩, Hbo.out⟩
                case round =>
                  obtain ⟨t, ht, rfl, ⟨ta, tc, rfl, htown⟩, htb⟩ := hrel
                  have Htown := Lib.hid htown
                  have Htb := Lib.hid htb
                  have hwt : wo.heap.size ≤ wr.heap.size := htb.size
                  clear htown htb
                  have c0 : wr.cell? ⟨b, off + i * 2, none⟩ = some (.int .i64 qa) := by
                    rw [Htb.out.cell (p := ⟨b, off + i * 2, none⟩) (show b < _ by omega), Hbc.out.cell (p := ⟨b, off + i * 2, none⟩) (show b < _ by omega), Hbel.out.cell (p := ⟨b, off + i * 2, none⟩) hbw]; exact Hca.out.1
                  by_cases hat : sL + t < qa
                  · go_wp2_with fail
                    refine (plain_any _).mono ?_
                    rintro e w5 ⟨rfl, hb5⟩
                    have Htown5 := Lib.hid (bget_block Htown.out fun b hb' => hb5.block b (Htown.out.lt b hb').2)
                    have Hb5 := Lib.hid (Htb.out.trans (hb5.mono hwt))
                    have hw5 : wo.heap.size ≤ w5.heap.size := Hb5.out.size
                    clear hb5 c0
                    go_wp2_with (at_builtin; go_loud (refine wpList_append_lies _ rfl (.tmp 92) (.tmp 94) 22 rfl wo.heap.size 49 j0 _ 5 48 Try.underlying22 hj0 jz0 jz1 jz2 rfl (by omega) (.slice ta (L.length + t) tc) (L.length + t) (glCells (L ++ List.replicate t plainG)) rfl (Htown5.out.alloc _) ⟨w5.heap.size, 0, none⟩ 1 1 plainG.cells rfl rfl (World.news_of_block (cs := plainG.cells.toArray) (t := 49) (fr := (0, 0)) (heap_alloc_new w5 _)) (by simp [Value.oneCell', Gl.cells]) (by omega) (by unfold maxLen; omega) (by omega) (by simp; omega) (w5.heap.size + 1) (by simp) ?_); intro gg cap w6 hown hgrow hat3 hlt3; have Hg3 := Lib.hid hgrow; clear hgrow; have Ho := Lib.hid hown; clear hown)
                    go_roundw
                    case rel =>
                      refine ⟨t + 1, by omega, ?_, ⟨some ⟨gg, 0, none⟩, cap, rfl, ?_⟩, (Hb5.out.alloc hw5 _).grown Hg3.out (by simp; omega) fun m hm => (Htown5.out.lt m hm).1⟩
                      · congr 1; omega
                      · rw [glCells_pad]; exact Ho.out
                    case measure => simp [intOf]; omega
                  · have htT : t = T := by have := HT.out; omega
                    subst htT
                    have Hpad := Lib.hid (show padTo qa L = L ++ List.replicate t plainG by unfold padTo; rw [Hs.out, ← HT.out])
                    have r1 : wr.cell? ⟨rb, ro + r, none⟩ = some ru := by
                      rw [Htb.out.cell (p := ⟨rb, ro + r, none⟩) (show rb < _ by omega), Hbc.out.cell (p := ⟨rb, ro + r, none⟩) hrbl]; exact Hr0.out
                    have Hru := Lib.hid ((Hrsl.out.new Hbc.out).below Htb.out (fun b' hb' hlt' => hlt'))
                    go_wp2_with (at_builtin; go_loud (refine wpList_append_gl rfl (.tmp 96) (.tmp 100) rfl wo.heap.size (.slice ta (L.length + t) tc) (L.length + t) (glCells (L ++ List.replicate t plainG)) rfl Htown.out R ru rfl Hru.out (by omega) hwt ?_); intro na nc w6 hown hgrow; have Hb6 := Lib.hid ((Htb.out).grown hgrow hwt fun m hm => (Htown.out.lt m hm).1); have Hb6c := Lib.hid (Hbc.out.trans (Hb6.out.mono hwc)); clear hgrow; have Ho := Lib.hid hown; clear hown; have r6 : w6.cell? ⟨rb, ro + r, none⟩ = some ru := (Hb6c.out.cell (p := ⟨rb, ro + r, none⟩) hrbl).trans Hr0.out)
                    have Hru6 := Lib.hid (Hrsl.out.new Hb6c.out)
                    refine (pwide_any ru R _ (by omega) Hru6.out).mono ?_
                    rintro e w7 ⟨rfl, hb7⟩
                    rw [HRw.out]
                    have Hown7 := Lib.hid (bget_block Ho.out fun b hb' => hb7.block b (Ho.out.lt b hb').2)
                    have Hb7 := Lib.hid (Hb6.out.trans (hb7.mono Hb6.out.size))
                    clear hb7 c0 r1 r6
                    have HjF := Lib.hid (show joinP cs cells r (i + 1) = L ++ List.replicate t plainG ++ R by rw [HjT.out, Hpad.out])
                    go_wp2_with fail
                    go_roundw
                    case rel =>
                      refine ⟨i + 1, by omega, by go_num, ?_, ⟨na, nc, ?_, ?_⟩, Hb7.out⟩
                      · rw [HjF.out, sumW_append, sumW_append, sumW_plain, Hs.out, HsR.out]
                      · rw [HjF.out]; simp; omega
                      · rw [HjF.out, glCells_append, show (L ++ List.replicate t plainG ++ R).length = L.length + t + R.length by simp; omega]
                        exact Hown7.out
                    case measure => simp [intOf]; omega
              · have HjF := Lib.hid (show joinP cs cells r (i + 1) = L by rw [Hjs.out, if_neg hrm])
                go_wp2_with fail
                go_roundw
                case rel => exact ⟨i + 1, by omega, by go_num, by rw [HjF.out, Hs.out], ⟨la, lc, by rw [HjF.out], by rw [HjF.out]; exact Hown.out⟩, Hbo.out⟩
                case measure => simp [intOf]; omega
            · have hin : i = cs.length := by omega
              have HjN := Lib.hid (show L = joinP cs cells r cs.length by rw [← HLj.out, hin])
              clear hin
              have Hrb2 := Lib.hid (Hrb.out.below Hbo.out)
              have Hrl := Lib.hid (rowsP_length cs cells cs.length r)
              have Hrbo := Lib.hid (show wr.ownsRow wc.heap.size 22 1 (.slice ov r oc) r vs2 by have := Hrb2.out.1; rw [Hrl.out] at this; exact this)
              have hwB : wc.heap.size ≤ wr.heap.size := by omega
              go_wp2_with (at_builtin; go_loud (refine wpList_append_lies _ rfl (.tmp 110) (.tmp 112) 23 rfl wc.heap.size 22 k0 _ 1 24 Try.underlying23 hk0 kz0 kz1 kz2 rfl (by omega) (.slice ov r oc) r vs2 rfl (Hrbo.out.alloc _) ⟨wr.heap.size, 0, none⟩ 1 1 [.slice la L.length lc] rfl rfl (World.news_of_block (cs := #[.slice la L.length lc]) (t := 22) (fr := (0, 0)) (heap_alloc_new wr _)) (by simp [Value.oneCell']) (by omega) (by unfold maxLen; omega) (by omega) (by simp; omega) (wr.heap.size + 1) (by simp) ?_); intro gg cap w6 hown hgrow hat3 hlt3; have Hg3 := Lib.hid hgrow; clear hgrow; have Ho := Lib.hid hown; clear hown)
              go_roundw
              case rel =>
                refine ⟨r + 1, by omega, by go_num, ⟨some ⟨gg, 0, none⟩, cap, vs2 ++ [.slice la L.length lc], rfl, ?_⟩, ?_⟩
                · show RowB w6 wc.heap.size _ _ (rowsP cs cells cs.length r ++ [joinP cs cells r cs.length])
                  rw [← HjN.out]
                  refine (Hrb2.out.below ((Below.refl _ _).alloc (Nat.le_refl _) _)).app Hg3.out (by rw [Hrl.out]) Ho.out ?_ ((glSl_of_owns Hown.out).same fun b _ hlt => Below.heap_alloc _ _ _ hlt) (capOk_of_owns Hown.out) fun b hb => ?_
                  · rcases hat3 with h | h
                    · exact .inl h
                    · right; rw [h]; simp
                  · obtain ⟨q1, q2⟩ := Hown.out.lt b hb
                    exact ⟨by omega, by simp; omega, fun e => by have := (Hrb.out.1.lt b e).2; omega⟩
                · exact (((Hbc.out.trans (Hbo.out.mono hwc)).alloc (by omega) _).grown Hg3.out (by simp; omega) fun m hm => (Hrbo.out.lt m hm).1)
              case measure => simp [intOf]; omega
        · go_wp2_with fail
          go_ret2
          have hrn : r = hn := by omega
          subst hrn
          exact ⟨_, by rw [Hrow2.out]; rfl, by rw [Hrow2.out]; exact Hrb.out.new.mono hwr, Hbel.out.trans (Hbc.out.mono hwr)⟩

theorem rowOf_bad {cs : List (Int × Int)} {flows : List (List Gl)} (h : cs.length ≠ flows.length ∨ cs.length < 1 ∨ 8 < cs.length ∨ goodC cs cs.length = false) : rowOf cs flows = ([], 1) := by unfold rowOf; exact if_pos h

set_option maxRecDepth 100000 in
set_option maxHeartbeats 1000000 in
theorem row_range (a fa : Option Addr) (n m c fc : Nat) (w : World) (hn : n ≤ 9223372036854775807) (hm : m ≤ 9223372036854775807) (h : n ≠ m ∨ n < 1 ∨ 8 < n) :
    Calls Try.prog 19 #[.slice a n c, .slice fa m fc] w fun e w' => FillRes .i64 ([], 1) w e w' := by
  have fin : FillRes .i64 ([], 1) w (.returned (.tuple #[.slice none 0 0, .int .i64 1])) w := ⟨_, rfl, ⟨[], World.ownsRow_nil _ _ _ _, trivial⟩, Below.refl _ _⟩
  by_cases h1 : n = m
  · subst h1
    by_cases h2 : n < 1
    · go_enter Try.func19, Try.ntmps19
      go_wp2
      go_ret2
      exact fin
    · have h3 : 8 < n := by omega
      go_enter Try.func19, Try.ntmps19
      go_wp2
      go_ret2
      exact fin
  · have h2 : ((n : Int) != (m : Int)) = true := by simp; omega
    clear h
    go_enter Try.func19, Try.ntmps19
    go_wp2
    go_ret2
    exact fin

set_option maxRecDepth 100000 in
set_option maxHeartbeats 1000000 in
theorem row_bad (v : Value) (fa : Option Addr) (fc : Nat) (cs : List (Int × Int)) (w : World) (hv : ColSl w v cs) (hn1 : 1 ≤ cs.length) (hn8 : cs.length ≤ 8) (hgood : goodC cs cs.length = false) :
    Calls Try.prog 19 #[v, .slice fa cs.length fc] w fun e w' => FillRes .i64 ([], 1) w e w' := by
  have hcerr : colErr cs = 1 := by unfold colErr; rw [if_neg (by simp [hgood])]
  have Hcols := Lib.hid (columns_any v cs w hv (by omega))
  obtain ⟨a, c, rfl, hat⟩ := hv
  have Hcerr := Lib.hid hcerr
  clear hat hcerr hgood
  go_enter Try.func19, Try.ntmps19
  go_wp2_with fail
  refine Hcols.out.mono ?_
  rintro e w1 ⟨rfl, hb1⟩
  rw [Hcerr.out]
  have Hb1 := Lib.hid hb1
  clear hb1
  go_wp2
  go_ret2
  exact ⟨_, rfl, ⟨[], World.ownsRow_nil _ _ _ _, trivial⟩, Hb1.out⟩

/-- ROW. -/
theorem row_any (v u : Value) (cs : List (Int × Int)) (flows : List (List Gl)) (w : World) (hv : ColSl w v cs) (hu : RowsSl w u flows) (hf : ∀ l ∈ flows, l.length ≤ 2932031007317) (hcl : cs.length ≤ 9223372036854775807) (hfl : flows.length ≤ 9223372036854775807) :
    Calls Try.prog 19 #[v, u] w fun e w' => FillRes .i64 (rowOf cs flows) w e w' := by
  obtain ⟨fa, fc, hue, _⟩ := hu.shape
  by_cases h : cs.length ≠ flows.length ∨ cs.length < 1 ∨ 8 < cs.length
  · rw [rowOf_bad (by rcases h with h | h | h; exact .inl h; exact .inr (.inl h); exact .inr (.inr (.inl h)))]
    obtain ⟨a, c, rfl, _⟩ := hv
    subst hue
    exact row_range a fa _ _ c fc w hcl hfl h
  · cases hg : goodC cs cs.length with
    | true => exact row_good v u cs flows w hv hu hf (by omega) (by omega) (by omega) hg
    | false =>
      rw [rowOf_bad (.inr (.inr (.inr hg)))]
      subst hue
      have hln : flows.length = cs.length := by omega
      rw [hln]
      exact row_bad v fa fc cs w hv (by omega) (by omega) hg
end Go.Proofs.Ytepacocajnobgaa
