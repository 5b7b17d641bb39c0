/- Row of the reference. -/
import Derived.Test.YtepacocajnobgaaRow
import Derived.Test.YtepacocajnobgaaRFill2
namespace Go.Proofs.Ytepacocajnobgaa
open Go.RowKit
attribute [local go_sem ↓] Go.wp_at_zero Go.wp_at_succ

set_option maxRecDepth 100000 in
set_option maxHeartbeats 4000000 in
theorem rrow_good (v u : Value) (cs : List (Int × Int)) (flows : List (List Gl)) (w : World) (hv : ColSl w v cs) (hu : RowsSl w u flows) (hf : ∀ l ∈ flows, l.length ≤ 2932031007317)
    (hn1 : 1 ≤ cs.length) (hn8 : cs.length ≤ 8) (hln : flows.length = cs.length) (hgood : goodC cs cs.length = true) :
    Calls Try.prog 21 #[v, u] w fun e w' => FillRes .i64 (rowOf cs flows) w e w' := by
  have hcerr : apartOf cs = true := by unfold apartOf; rw [hgood]; simp; omega
  have Hrow := Lib.hid (show rowOf cs flows = if errP cs flows cs.length ≠ 0 then ([], errP cs flows cs.length)
    else (rowsP cs (cellsP cs flows cs.length) cs.length (highP (cellsP cs flows cs.length) cs.length).toNat, 0) by
      unfold rowOf; exact if_neg (by rintro (h | h | h | h) <;> first | omega | (rw [hgood] at h; cases h)))
  have Hcols := Lib.hid (apart_any v cs w hv (by omega))
  have Hv := Lib.hid hv
  have Hu := Lib.hid hu
  obtain ⟨a, c, rfl, hat⟩ := hv
  obtain ⟨fa, fc, rfl, hfl⟩ := hu.shape
  rw [hln] at Hu hfl ⊢
  have Hat := Lib.hid hat
  have Hfl := Lib.hid hfl
  have Hf := Lib.hid hf
  have Hgood := Lib.hid hgood
  have Hcerr := Lib.hid hcerr
  have Hln := Lib.hid hln
  clear hat hfl hf hu hgood hcerr hln
  obtain ⟨i0, hi0, hz0, hz1, hz2⟩ := info_parts info23
  obtain ⟨j0, hj0, jz0, jz1, jz2⟩ := info_parts info49
  obtain ⟨k0, hk0, kz0, kz1, kz2⟩ := info_parts info22
  go_enter Try.func21, Try.ntmps21
  go_wp2_with fail
  refine Hcols.out.mono ?_
  rintro e w1 ⟨rfl, hb1⟩
  rw [Hcerr.out]
  have Hb1 := Lib.hid hb1
  clear hb1 Hcols
  go_wp2_with fail
  go_loopw [6, 7, 8] (fun vc m i wr => ∃ k : Nat, k ≤ cs.length ∧ i = .int .i64 k ∧ m = .int .i64 (highP (cellsP cs flows k) k) ∧ (∃ av cv vs, vc = .slice av k cv ∧ CellB wr w.heap.size (.slice av k cv) vs (cellsP cs flows k)) ∧ errP cs flows k = 0 ∧ Below w.heap.size w wr) (fun _ _ i _ => cs.length - (intOf i).toNat)
  case atStart => exact ⟨0, Nat.zero_le _, rfl, rfl, ⟨none, 0, [], rfl, CellB.nil _ _⟩, rfl, Hb1.out⟩
  case round =>
    obtain ⟨k, hk, rfl, rfl, ⟨av, cv, vs, rfl, hcb⟩, herr, hbel⟩ := hrel
    have Hcb := Lib.hid hcb
    have Herr := Lib.hid herr
    have Hbel := Lib.hid hbel
    have hwr : w.heap.size ≤ wr.heap.size := hbel.size
    clear hcb herr hbel
    by_cases hlt : k < cs.length
    · obtain ⟨b, off, ha, hca⟩ := Hat.out k hlt
      subst ha
      have hbw := hca.lt k hlt
      obtain ⟨_, c1⟩ := (hca.same (Hbel.out.block b hbw)) k hlt
      obtain ⟨fb, fo, fu, hfa, hfb, f0, fg⟩ := Hfl.out k hlt
      subst hfa
      have f1 : wr.cell? ⟨fb, fo + k, none⟩ = some fu := by rw [Hbel.out.cell (p := ⟨fb, fo + k, none⟩) hfb]; exact f0
      have Fg := Lib.hid (fg.below Hbel.out (fun b' hb' hlt' => hlt'))
      have Hfl2 := Lib.hid (show (flows.getD k []).length ≤ 2932031007317 by
        rw [List.getD_eq_getElem?_getD, List.getElem?_eq_getElem (by rw [Hln.out]; exact hlt)]; exact Hf.out _ (List.getElem_mem _))
      have Hcs := Lib.hid (show cellsP cs flows (k + 1) = cellsP cs flows k ++ [(fillOf (flows.getD k []) (cs.getD k (0, 0)).2).1] from rfl)
      have Hes := Lib.hid (show errP cs flows (k + 1) = if errP cs flows k ≠ 0 then errP cs flows k else (fillOf (flows.getD k []) (cs.getD k (0, 0)).2).2 from rfl)
      have Hhs := Lib.hid (show highP (cellsP cs flows (k + 1)) (k + 1) = max (highP (cellsP cs flows k) k) ((fillOf (flows.getD k []) (cs.getD k (0, 0)).2).1.length : Int) by
        show max (highP (cellsP cs flows (k + 1)) k) (((cellsP cs flows (k + 1)).getD k []).length : Int) = _
        rw [cellsP_getD cs flows (k + 1) k (by omega), highP_congr k fun i hi => (cellsP_getD cs flows (k + 1) i (by omega)).trans (cellsP_getD cs flows k i hi).symm])
      have Hcl := Lib.hid (cellsP_length cs flows k)
      have hfit := (fillOf_fits (flows.getD k []) (cs.getD k (0, 0)).2 (by have := Hfl2.out; omega)).2
      have hfit2 : (fillOf (flows.getD k []) (cs.getD k (0, 0)).2).1.length ≤ 2932031007317 := by have := Hfl2.out; omega
      have hhb := highP_bd (cells := cellsP cs flows k) (cellsP_bd cs flows k Hf.out) k
      clear hca fg f0 hfit
      generalize hq : (cs.getD k (0, 0)).2 = q at *
      have Hq := Lib.hid hq
      clear hq
      generalize hgl : flows.getD k [] = gl at *
      have Hgl := Lib.hid hgl
      clear hgl
      generalize highP (cellsP cs flows k) k = hi at *
      obtain ⟨hh1, hh2⟩ := hhb
      have i1 : (0 : Int) ≤ (k : Int) := by omega
      have i2 : (k : Int) < (cs.length : Int) := by omega
      have lb : b < wr.heap.size := Nat.lt_of_lt_of_le hbw hwr
      have lf : fb < wr.heap.size := Nat.lt_of_lt_of_le hfb hwr
      go_wp2_with fail
      go_region_held3 (fun w' => w'.cell? ⟨fb, fo + k, none⟩ = some fu ∧ w'.cell? ⟨b, off + k * 2 + 1, none⟩ = some (.int .i64 q))
        (first | (go_keep; done) | exact ⟨((hb2.cell (p := ⟨fb, fo + k, none⟩) (by simpa using lf)).trans (by simpa using f1)), ((hb2.cell (p := ⟨b, off + k * 2 + 1, none⟩) (by simpa using lb)).trans (by simpa using c1))⟩)
        ((go_at_call 13; refine (rfill_any fu gl q _ (by exact Fg.out.same fun _ _ _ => rfl) Hfl2.out).mono ?_; rintro e w2 ⟨fv, rfl, hnew, hb2⟩))
      clear i1 i2 lb lf
      have hb2 : Below wr.heap.size wr w2 := ((Below.refl wr.heap.size wr).drew).trans hb2
      have hnew : RowsNew w2 wr.heap.size fv (fillOf gl q).1 := hnew
      generalize hx : fillOf gl q = x at *
      obtain ⟨xl, xe⟩ := x
      have Hx := Lib.hid hx
      clear hx
      have hshape : ∃ a c, fv = .slice a xl.length c := by
        obtain ⟨vs, h1, _⟩ := hnew
        rcases h1.2 with ⟨rfl, h0⟩ | ⟨g, cap, cur, rfl, _⟩
        · exact ⟨none, 0, by rw [h0]⟩
        · exact ⟨_, _, rfl⟩
      obtain ⟨xa, xc, hfv⟩ := hshape
      subst hfv
      simp only at hfit2
      have Hnew := Lib.hid hnew
      have Hb2 := Lib.hid (Hbel.out.trans (hb2.mono hwr))
      have Hcb2 := Lib.hid (Hcb.out.below hb2)
      have hw2 : wr.heap.size ≤ w2.heap.size := hb2.size
      clear hnew hb2
      have HerrN := Lib.hid (show xe ≠ 0 → rowOf cs flows = ([], xe) from fun h => by
        have h1 : errP cs flows (k + 1) = xe := by rw [Hes.out, if_neg (by simp [Herr.out])]
        have h2 : errP cs flows cs.length = xe := by rw [errP_keep (k := k + 1) (by omega) (by rw [h1]; exact h), h1]
        rw [Hrow.out, h2, if_pos h])
      by_cases hxe : xe = 0
      · subst hxe
        have Hown2 := Lib.hid (show w2.ownsRow w.heap.size 23 1 (.slice av k cv) k vs by have := Hcb2.out.1; rw [Hcl.out] at this; exact this)
        go_wp2_with (at_builtin; go_loud (refine wpList_append_lies _ rfl (.tmp 48) (.tmp 50) 75 rfl w.heap.size 23 i0 _ 1 24 Try.underlying75 hi0 hz0 hz1 hz2 rfl (by omega) (.slice av k cv) k vs rfl (Hown2.out.alloc _) ⟨w2.heap.size, 0, none⟩ 1 1 [.slice xa xl.length xc] rfl rfl (World.news_of_block (cs := #[.slice xa xl.length xc]) (t := 23) (fr := (0, 0)) (heap_alloc_new w2 _)) (by simp [Value.oneCell']) (by omega) (by unfold maxLen; omega) (by omega) (by simp; omega) (w2.heap.size + 1) (by simp) ?_); intro gg cap w3 hown hgrow hat3 hlt3; have Hg3 := Lib.hid hgrow; clear hgrow; have Ho := Lib.hid hown; clear hown)
        go_roundw
        case rel =>
          refine ⟨k + 1, by omega, by go_num, ?_, ⟨some ⟨gg, 0, none⟩, cap, vs ++ [.slice xa xl.length xc], rfl, ?_⟩, ?_, (Hb2.out.alloc (by omega) _).grown Hg3.out (by simp; omega) fun m hm => (Hown2.out.lt m hm).1⟩
          · rw [Hhs.out]; congr 1; show _ = max hi (xl.length : Int); split <;> omega
          · rw [Hcs.out]
            refine (Hcb2.out.below ((Below.refl _ _).alloc (Nat.le_refl _) _)).app Hg3.out (by rw [Hcl.out]) Ho.out ?_ ?_
            · rcases hat3 with h | h
              · exact .inl h
              · right; rw [h]; simp
            · have h1 := RowsIn.of_new (N := fun b => w.heap.size ≤ b ∧ (Value.slice av k cv).ownBlock ≠ some b) Hnew.out fun b h1 h2 => ⟨by omega, fun e => by have := (Hcb.out.1.lt b e).2; omega⟩
              exact h1.same (by simp) (fun b _ hlt => Below.heap_alloc _ _ _ hlt) fun b h _ => h
          · rw [Hes.out, if_neg (by simp [Herr.out])]
        case measure => simp [intOf]; omega
      · have hxe' : (xe == 0) = false := by simp [hxe]
        have hxe2 : (xe != 0) = true := by simp [hxe]
        have Hxe := Lib.hid hxe
        clear hxe
        go_wp2
        go_ret2
        exact ⟨.slice none 0 0, by rw [HerrN.out Hxe.out]; rfl, by rw [HerrN.out Hxe.out]; exact ⟨[], World.ownsRow_nil _ _ _ _, trivial⟩, Hb2.out⟩
    · obtain rfl : k = cs.length := by omega
      have Hrow2 := Lib.hid (show rowOf cs flows = (rowsP cs (cellsP cs flows cs.length) cs.length (highP (cellsP cs flows cs.length) cs.length).toNat, 0) by rw [Hrow.out, if_neg (by simp [Herr.out])])
      obtain ⟨ca, cc, hcv, hrd⟩ := Hcb.out.rd
      have hcl := cellsP_length cs flows cs.length
      have Hfits := Lib.hid (fun i r hi hr => cellsP_fit cs flows cs.length Hf.out i r hi hr)
      have Hclen := Lib.hid (cellsP_bd cs flows cs.length Hf.out)
      have hhb := highP_bd (cells := cellsP cs flows cs.length) (cellsP_bd cs flows cs.length Hf.out) cs.length
      have Hjoin := Lib.hid (fun r i hi => joinP_ok Hgood.out Hfits.out r i hi)
      rw [hcl] at hcv
      injection hcv with hcv1 hcv2 hcv3
      subst hcv1 hcv3
      have Hrd := Lib.hid hrd
      have Hcl := Lib.hid hcl
      clear hcl hrd hcv2 Hcb
      generalize hcells : cellsP cs flows cs.length = cells at *
      generalize highP cells cs.length = hi at *
      obtain ⟨hh1, hh2⟩ := hhb
      clear hcells
      obtain ⟨hn, rfl⟩ := Int.eq_ofNat_of_zero_le hh1
      rw [Int.toNat_natCast] at Hrow2
      obtain ⟨wc, rfl⟩ : ∃ wc : World, wc = wr := ⟨_, rfl⟩
      go_wp2_with fail
      go_loopw [11, 12] (fun vo i wr => ∃ r : Nat, r ≤ hn ∧ i = .int .i64 r ∧ (∃ ov oc vs, vo = .slice ov r oc ∧ RowB wr wc.heap.size (.slice ov r oc) vs (rowsP cs cells cs.length r)) ∧ Below wc.heap.size wc wr) (fun _ i _ => hn - (intOf i).toNat)
      case atStart => exact ⟨0, Nat.zero_le _, rfl, ⟨none, 0, [], rfl, RowB.nil _ _⟩, Below.refl _ _⟩
      case round =>
        obtain ⟨r, hr, rfl, ⟨ov, oc, vs2, rfl, hrb⟩, hbc⟩ := hrel
        have Hrb := Lib.hid hrb
        have Hbc := Lib.hid hbc
        have hwc : wc.heap.size ≤ wr.heap.size := hbc.size
        clear hrb hbc
        by_cases hlr : r < hn
        · obtain ⟨wo, rfl⟩ : ∃ wo : World, wo = wr := ⟨_, rfl⟩
          go_wp2_with fail
          go_loopw [13, 14] (fun vl i wi => ∃ i' : Nat, i' ≤ cs.length ∧ i = .int .i64 i' ∧ (∃ la lc, vl = .slice la (joinP cs cells r i').length lc ∧ wi.ownsRow wo.heap.size 49 5 (.slice la (joinP cs cells r i').length lc) (joinP cs cells r i').length (glCells (joinP cs cells r i'))) ∧ Below wo.heap.size wo wi) (fun _ i _ => cs.length - (intOf i).toNat)
          case atStart => exact ⟨0, Nat.zero_le _, rfl, ⟨none, 0, rfl, World.ownsRow_nil _ _ _ _⟩, Below.refl _ _⟩
          case round =>
            obtain ⟨i, hi', rfl, ⟨la, lc, rfl, hown⟩, hbo⟩ := hrel
            have Hown := Lib.hid hown
            have Hbo := Lib.hid hbo
            have hwo : wo.heap.size ≤ wr.heap.size := hbo.size
            clear hown hbo
            have hL := (Hjoin.out r i hi')
            have hLen := hL.len
            have hend := endC_bd (cs := cs) (k := i) (goodC_le Hgood.out i hi')
            have Hjs := Lib.hid (show joinP cs cells r (i + 1) = if r < (cells.getD i []).length then padTo (cs.getD i (0, 0)).1 (joinP cs cells r i) ++ (cells.getD i []).getD r [] else joinP cs cells r i from rfl)
            have hL2 : sumW (joinP cs cells r i) ≤ 200 := by have := hL.2; omega
            have hL3 : 0 ≤ sumW (joinP cs cells r i) := by omega
            have hL4 : (joinP cs cells r i).length ≤ 200 := by omega
            have HLok := Lib.hid hL
            clear hL hLen hend
            generalize hLj : joinP cs cells r i = L at *
            have HLj := Lib.hid hLj
            clear hLj
            generalize hs : sumW L = sL at *
            have Hs := Lib.hid hs
            clear hs
            by_cases hlt : i < cs.length
            · obtain ⟨b, off, ha, hca⟩ := Hat.out i hlt
              subst ha
              have hbw := hca.lt i hlt
              have Hca := Lib.hid (hca i hlt)
              obtain ⟨cb, cu, hcb, hcbl, g0, gsl⟩ := Hrd.out i (by rw [Hcl.out]; exact hlt)
              subst hcb
              obtain ⟨ua, uc, rfl, hul⟩ := gsl.shape
              have g1 : wr.cell? ⟨cb, i, none⟩ = some (.slice ua (cells.getD i []).length uc) := by
                rw [Hbo.out.cell (p := ⟨cb, i, none⟩) (Nat.lt_of_lt_of_le hcbl hwc), Hbc.out.cell (p := ⟨cb, i, none⟩) hcbl]; exact g0
              have Hg0 := Lib.hid g0
              have hm := Hclen.out i
              have Hul := Lib.hid (hul r)
              have Hfit := Lib.hid (Hfits.out i r hlt)
              have hokc := okC_bd (goodC_mono Hgood.out i hlt)
              clear hca g0 gsl hul
              generalize cells.getD i [] = rowsI at *
              generalize cs.getD i (0, 0) = q at *
              obtain ⟨qa, qw⟩ := q
              obtain ⟨q1, q2, q3, q4, q5⟩ := hokc
              simp only at q2 q3 q4 q5
              clear q1
              by_cases hrm : r < rowsI.length
              · obtain ⟨rb, ro, ru, hra, hrbl, r0, rsl⟩ := Hul.out hrm
                subst hra
                have hfit := Hfit.out hrm
                have Hrsl := Lib.hid rsl
                have Hr0 := Lib.hid r0
                have HjT := Lib.hid (show joinP cs cells r (i + 1) = padTo qa L ++ rowsI.getD r [] by rw [Hjs.out, if_pos hrm])
                generalize rowsI.getD r [] = R at *
                have hR2 := hfit.2
                have hR1 := sumW_bd R hfit.1
                have HRw := Lib.hid (wideOf_snoc_of R hfit.1 (by omega))
                clear hfit rsl r0
                generalize hsR : sumW R = sR at *
                have HsR := Lib.hid hsR
                clear hsR
                obtain ⟨wi, rfl⟩ : ∃ wi : World, wi = wr := ⟨_, rfl⟩
                have HLw := Lib.hid (show wideOf L = sL by rw [wideOf_snoc_of L HLok.out.1 (by omega), Hs.out])
                have Hgl := Lib.hid (glSl_of_owns Hown.out)
                go_wp2_with fail
                refine (rwide_any _ L _ (by omega) Hgl.out).mono ?_
                rintro e w4 ⟨rfl, hw4⟩
                subst hw4
                rw [HLw.out]
                go_wp2_with fail
                have hT : ∃ T : Nat, T = (qa - sL).toNat := ⟨_, rfl⟩
                obtain ⟨T, hT⟩ := hT
                have hT1 : (T : Int) ≤ 200 := by omega
                have hT2 : sL + T ≤ 200 := by omega
                have hT3 : qa ≤ sL + T := by omega
                have hT4 : 0 < T → sL + T ≤ qa := by omega
                have HT := Lib.hid hT
                clear hT
                have HT4 := Lib.hid hT4
                clear hT4
                go_loopw [13, 15] (fun vl at_ wl => ∃ t : Nat, t ≤ T ∧ at_ = .int .i64 (sL + t) ∧ (∃ la lc, vl = .slice la (L.length + t) lc ∧ wl.ownsRow wo.heap.size 49 5 (.slice la (L.length + t) lc) (L.length + t) (glCells (L ++ List.replicate t plainG))) ∧ Below wo.heap.size wo wl) (fun _ at_ _ => (qa - intOf at_).toNat)
                case atStart => exact ⟨0, Nat.zero_le _, by simp, ⟨la, lc, rfl, by simpa using Hown.out⟩, Hbo.out⟩
                case round =>
                  obtain ⟨t, ht, rfl, ⟨ta, tc, rfl, htown⟩, htb⟩ := hrel
                  have Htown := Lib.hid htown
                  have Htb := Lib.hid htb
                  have hwt : wo.heap.size ≤ wr.heap.size := htb.size
                  clear htown htb
                  have c0 : wr.cell? ⟨b, off + i * 2, none⟩ = some (.int .i64 qa) := by
                    rw [Htb.out.cell (p := ⟨b, off + i * 2, none⟩) (show b < _ by omega), Hbc.out.cell (p := ⟨b, off + i * 2, none⟩) (show b < _ by omega), Hbel.out.cell (p := ⟨b, off + i * 2, none⟩) hbw]; exact Hca.out.1
                  by_cases hat : sL + t < qa
                  · go_wp2_with fail
                    refine (look_any _).mono ?_
                    rintro e w5 ⟨rfl, hb5⟩
                    have Htown5 := Lib.hid (bget_block Htown.out fun b hb' => hb5.block b (Htown.out.lt b hb').2)
                    have Hb5 := Lib.hid (Htb.out.trans (hb5.mono hwt))
                    have hw5 : wo.heap.size ≤ w5.heap.size := Hb5.out.size
                    clear hb5 c0
                    go_wp2_with (at_builtin; go_loud (refine wpList_append_lies _ rfl (.tmp 85) (.tmp 88) 22 rfl wo.heap.size 49 j0 _ 5 48 Try.underlying22 hj0 jz0 jz1 jz2 rfl (by omega) (.slice ta (L.length + t) tc) (L.length + t) (glCells (L ++ List.replicate t plainG)) rfl (Htown5.out.alloc _) ⟨w5.heap.size, 0, none⟩ 1 1 plainG.cells rfl rfl (World.news_of_block (cs := plainG.cells.toArray) (t := 49) (fr := (0, 0)) (heap_alloc_new w5 _)) (by simp [Value.oneCell', Gl.cells]) (by omega) (by unfold maxLen; omega) (by omega) (by simp; omega) (w5.heap.size + 1) (by simp) ?_); intro gg cap w6 hown hgrow hat3 hlt3; have Hg3 := Lib.hid hgrow; clear hgrow; have Ho := Lib.hid hown; clear hown)
                    go_roundw
                    case rel =>
                      refine ⟨t + 1, by omega, ?_, ⟨some ⟨gg, 0, none⟩, cap, rfl, ?_⟩, (Hb5.out.alloc hw5 _).grown Hg3.out (by simp; omega) fun m hm => (Htown5.out.lt m hm).1⟩
                      · congr 1; omega
                      · rw [glCells_pad]; exact Ho.out
                    case measure => simp [intOf]; omega
                  · have htT : t = T := by have := HT.out; omega
                    subst htT
                    have Hpad := Lib.hid (show padTo qa L = L ++ List.replicate t plainG by unfold padTo; rw [Hs.out, ← HT.out])
                    have r1 : wr.cell? ⟨rb, ro + r, none⟩ = some ru := by
                      rw [Htb.out.cell (p := ⟨rb, ro + r, none⟩) (show rb < _ by omega), Hbc.out.cell (p := ⟨rb, ro + r, none⟩) hrbl]; exact Hr0.out
                    have r2 : wr.cell? ⟨cb, i, none⟩ = some (.slice (some ⟨rb, ro, none⟩) rowsI.length uc) := by
                      rw [Htb.out.cell (p := ⟨cb, i, none⟩) (show cb < _ by omega), Hbc.out.cell (p := ⟨cb, i, none⟩) hcbl]; exact Hg0.out
                    have Hru := Lib.hid ((Hrsl.out.new Hbc.out).below Htb.out (fun b' hb' hlt' => hlt'))
                    go_wp2_with (at_builtin; go_loud (refine wpList_append_gl rfl (.tmp 90) (.tmp 97) rfl wo.heap.size (.slice ta (L.length + t) tc) (L.length + t) (glCells (L ++ List.replicate t plainG)) rfl Htown.out R ru rfl Hru.out (by omega) hwt ?_); intro na nc w6 hown hgrow; have Hb6 := Lib.hid ((Htb.out).grown hgrow hwt fun m hm => (Htown.out.lt m hm).1); have Hb6c := Lib.hid (Hbc.out.trans (Hb6.out.mono hwc)); clear hgrow; have Ho := Lib.hid hown; clear hown; have r6 : w6.cell? ⟨rb, ro + r, none⟩ = some ru := (Hb6c.out.cell (p := ⟨rb, ro + r, none⟩) hrbl).trans Hr0.out)
                    clear c0 r1 r2
                    have HjF := Lib.hid (show joinP cs cells r (i + 1) = L ++ List.replicate t plainG ++ R by rw [HjT.out, Hpad.out])
                    go_roundw
                    case rel =>
                      refine ⟨i + 1, by omega, by go_num, ⟨na, nc, ?_, ?_⟩, Hb6.out⟩
                      · rw [HjF.out]; simp; omega
                      · rw [HjF.out, glCells_append, show (L ++ List.replicate t plainG ++ R).length = L.length + t + R.length by simp; omega]
                        exact Ho.out
                    case measure => simp [intOf]; omega
              · have HjF := Lib.hid (show joinP cs cells r (i + 1) = L by rw [Hjs.out, if_neg hrm])
                go_wp2_with fail
                go_roundw
                case rel => exact ⟨i + 1, by omega, by go_num, ⟨la, lc, by rw [HjF.out], by rw [HjF.out]; exact Hown.out⟩, Hbo.out⟩
                case measure => simp [intOf]; omega
            · have hin : i = cs.length := by omega
              have HjN := Lib.hid (show L = joinP cs cells r cs.length by rw [← HLj.out, hin])
              clear hin
              have Hrb2 := Lib.hid (Hrb.out.below Hbo.out)
              have Hrl := Lib.hid (rowsP_length cs cells cs.length r)
              have Hrbo := Lib.hid (show wr.ownsRow wc.heap.size 22 1 (.slice ov r oc) r vs2 by have := Hrb2.out.1; rw [Hrl.out] at this; exact this)
              have hwB : wc.heap.size ≤ wr.heap.size := by omega
              go_wp2_with (at_builtin; go_loud (refine wpList_append_lies _ rfl (.tmp 99) (.tmp 101) 23 rfl wc.heap.size 22 k0 _ 1 24 Try.underlying23 hk0 kz0 kz1 kz2 rfl (by omega) (.slice ov r oc) r vs2 rfl (Hrbo.out.alloc _) ⟨wr.heap.size, 0, none⟩ 1 1 [.slice la L.length lc] rfl rfl (World.news_of_block (cs := #[.slice la L.length lc]) (t := 22) (fr := (0, 0)) (heap_alloc_new wr _)) (by simp [Value.oneCell']) (by omega) (by unfold maxLen; omega) (by omega) (by simp; omega) (wr.heap.size + 1) (by simp) ?_); intro gg cap w6 hown hgrow hat3 hlt3; have Hg3 := Lib.hid hgrow; clear hgrow; have Ho := Lib.hid hown; clear hown)
              go_roundw
              case rel =>
                refine ⟨r + 1, by omega, by go_num, ⟨some ⟨gg, 0, none⟩, cap, vs2 ++ [.slice la L.length lc], rfl, ?_⟩, ?_⟩
                · show RowB w6 wc.heap.size _ _ (rowsP cs cells cs.length r ++ [joinP cs cells r cs.length])
                  rw [← HjN.out]
                  refine (Hrb2.out.below ((Below.refl _ _).alloc (Nat.le_refl _) _)).app Hg3.out (by rw [Hrl.out]) Ho.out ?_ ((glSl_of_owns Hown.out).same fun b _ hlt => Below.heap_alloc _ _ _ hlt) (capOk_of_owns Hown.out) fun b hb => ?_
                  · rcases hat3 with h | h
                    · exact .inl h
                    · right; rw [h]; simp
                  · obtain ⟨q1, q2⟩ := Hown.out.lt b hb
                    exact ⟨by omega, by simp; omega, fun e => by have := (Hrb.out.1.lt b e).2; omega⟩
                · exact (((Hbc.out.trans (Hbo.out.mono hwc)).alloc (by omega) _).grown Hg3.out (by simp; omega) fun m hm => (Hrbo.out.lt m hm).1)
              case measure => simp [intOf]; omega
        · go_wp2_with fail
          go_ret2
          have hrn : r = hn := by omega
          subst hrn
          exact ⟨_, by rw [Hrow2.out]; rfl, by rw [Hrow2.out]; exact Hrb.out.new.mono hwr, Hbel.out.trans (Hbc.out.mono hwr)⟩
set_option maxRecDepth 100000 in
set_option maxHeartbeats 1000000 in
theorem rrow_range (a fa : Option Addr) (n m c fc : Nat) (w : World) (_hn : n ≤ 9223372036854775807) (_hm : m ≤ 9223372036854775807) (h : n ≠ m) :
    Calls Try.prog 21 #[.slice a n c, .slice fa m fc] w fun e w' => FillRes .i64 ([], 1) w e w' := by
  have fin : FillRes .i64 ([], 1) w (.returned (.tuple #[.slice none 0 0, .int .i64 1])) w := ⟨_, rfl, ⟨[], World.ownsRow_nil _ _ _ _, trivial⟩, Below.refl _ _⟩
  have h2 : ((m : Int) != (n : Int)) = true := by simp; omega
  clear h
  go_enter Try.func21, Try.ntmps21
  go_wp2
  go_ret2
  exact fin

set_option maxRecDepth 100000 in
set_option maxHeartbeats 1000000 in
theorem rrow_bad (v : Value) (fa : Option Addr) (fc : Nat) (cs : List (Int × Int)) (w : World) (hv : ColSl w v cs) (hcl : cs.length ≤ 4611686018427387904) (hgood : apartOf cs = false) :
    Calls Try.prog 21 #[v, .slice fa cs.length fc] w fun e w' => FillRes .i64 ([], 1) w e w' := by
  have Hcols := Lib.hid (apart_any v cs w hv hcl)
  obtain ⟨a, c, rfl, hat⟩ := hv
  have Hcerr := Lib.hid hgood
  clear hat hgood
  go_enter Try.func21, Try.ntmps21
  go_wp2_with fail
  refine Hcols.out.mono ?_
  rintro e w1 ⟨rfl, hb1⟩
  rw [Hcerr.out]
  have Hb1 := Lib.hid hb1
  clear hb1
  go_wp2
  go_ret2
  exact ⟨_, rfl, ⟨[], World.ownsRow_nil _ _ _ _, trivial⟩, Hb1.out⟩

/-- ROW, OF THE REFERENCE. -/
theorem rrow_any (v u : Value) (cs : List (Int × Int)) (flows : List (List Gl)) (w : World) (hv : ColSl w v cs) (hu : RowsSl w u flows) (hf : ∀ l ∈ flows, l.length ≤ 2932031007317) (hcl : cs.length ≤ 4611686018427387904) (hfl : flows.length ≤ 9223372036854775807) :
    Calls Try.prog 21 #[v, u] w fun e w' => FillRes .i64 (rowOf cs flows) w e w' := by
  obtain ⟨fa, fc, hue, _⟩ := hu.shape
  by_cases h : cs.length ≠ flows.length
  · rw [rowOf_bad (.inl h)]
    obtain ⟨a, c, rfl, _⟩ := hv
    subst hue
    exact rrow_range a fa _ _ c fc w (by omega) hfl h
  · have hln : flows.length = cs.length := by omega
    cases hg : apartOf cs with
    | true =>
      simp only [apartOf, Bool.and_eq_true, decide_eq_true_eq] at hg
      exact rrow_good v u cs flows w hv hu hf (by omega) (by omega) (by omega) hg.1.1
    | false =>
      have hg' := hg
      rw [rowOf_bad (by
        unfold apartOf at hg
        cases h1 : goodC cs cs.length with
        | false => exact .inr (.inr (.inr rfl))
        | true => rw [h1] at hg; simp at hg; omega)]
      subst hue
      rw [hln]
      exact rrow_bad v fa fc cs w hv hcl hg'
end Go.Proofs.Ytepacocajnobgaa
