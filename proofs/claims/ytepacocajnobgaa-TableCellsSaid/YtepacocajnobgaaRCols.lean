/- Columns of the reference. By a small program of mine: the four cases of gap and room. -/
import Derived.Test.YtepacocajnobgaaCols
import Derived.Laws.OwnMore
namespace Go.Proofs.Ytepacocajnobgaa
open Go.RowKit
attribute [local go_sem ↓] Go.wp_at_zero Go.wp_at_succ

set_option maxRecDepth 100000 in
set_option maxHeartbeats 4000000 in
theorem rcols_00 (b off c : Nat) (ws : List Int) (wide : Int) (w : World) (hat : IntAt w b off ws) (h10 : 10 ≤ wide) (h200 : wide ≤ 200) (h1 : 1 ≤ ws.length) (h8 : ws.length ≤ 8) (hbad : badW ws = false)
    (hg : wide - ((ws.length : Int) - 1) < ws.length) (hsh : needOf ws ≤ roomOf ws.length wide) :
    Calls Try.prog 17 #[.slice (some ⟨b, off, none⟩) ws.length c, .int .i64 wide] w fun e w' => ColRes (columnsOf ws wide) w e w' := by
  obtain ⟨i0, hi0, hz0, hz1, hz2⟩ := info_parts info59
  obtain ⟨j0, hj0, hy0, hy1, hy2⟩ := info_parts info3
  have hws := badW_get hbad
  have hr : ¬ (wide < 10 ∨ 200 < wide ∨ ws.length < 1 ∨ 8 < ws.length) := by omega
  obtain ⟨rm1, rm2, gp1, gp2⟩ := roomOf_bd h1 h8 h10 h200
  have hg0 : gapOf ws.length wide = 0 := by unfold gapOf; rw [if_pos hg]
  have hroom : roomOf ws.length wide = wide := by unfold roomOf; rw [hg0]; omega
  have Hcol := Lib.hid (show columnsOf ws wide = (colsP 0 (shareOf ws (wide)) ws.length, 0) by unfold columnsOf; rw [if_neg hr, if_neg (by rw [hbad]; simp), hg0, hroom])
  rw [hroom] at hsh rm1 rm2
  have Hshb := Lib.hid (shareOf_bd hws h8 rm1 rm2)
  have Hshl := Lib.hid (shareOf_length ws (wide))
  have Hsh := Lib.hid hsh
  have Hws := Lib.hid hws
  have Hat := Lib.hid hat
  have hbw := hat.lt (by omega)
  have hsbn := sb_bd hws ws.length
  have hzbn := zb_le ws ws.length
  clear hat hbad hws hr hg0 hroom hsh
  go_enter Try.func17, Try.ntmps17
  go_wp2
  go_loop [7] (fun i => ∃ k : Nat, k ≤ ws.length ∧ i = .int .i64 k) (fun i => ws.length - (intOf i).toNat)
  case atStart => exact ⟨0, Nat.zero_le _, rfl⟩
  case round =>
    obtain ⟨k, hk, rfl⟩ := hrel
    by_cases hlt : k < ws.length
    · have c0 := Hat.out k hlt
      have hx := Hws.out k
      generalize ws.getD k 0 = x at *
      obtain ⟨x1, x2⟩ := hx
      go_wp2
      go_round
      case rel => exact ⟨k + 1, by omega, by go_num⟩
      case measure => simp [intOf]; omega
    · go_wp2_with (at_make; go_loud (refine wpList_make_full _ rfl (.tmp 65) (.tmp 65) 33 rfl w.heap.size 3 j0 _ 1 Try.underlying33 hj0 hy0 hy1 .i64 .i64 (ws.length : Int) (ws.length : Int) ws.length rfl rfl rfl rfl (by rw [hy2]; omega) (by unfold maxLen; omega) (Nat.le_refl _) ?_); intro w1 hown hgrow; have Ho := Lib.hid (show OwnI w1 w.heap.size (.slice (some ⟨w.heap.size, 0, none⟩) ws.length ws.length) (List.replicate ws.length 0) by unfold OwnI; rw [List.length_replicate, List.map_replicate]; have h := hown; rw [show (Value.int .i64 0).cells = #[.int .i64 0] from rfl, toList_madeCells_one, Nat.mul_one] at h; exact h); have Hb := Lib.hid ((Below.refl w.heap.size w).grown hgrow (Nat.le_refl _) (fun k hk => by cases hk)); clear hown hgrow)
      obtain ⟨gg, hgg⟩ : ∃ gg, gg = w.heap.size := ⟨_, rfl⟩
      have Ho2 := Lib.hid (show OwnI w1 w.heap.size (.slice (some ⟨gg, 0, none⟩) ws.length ws.length) (List.replicate ws.length 0) by rw [hgg]; exact Ho.out)
      rw [← hgg]
      have Hgg := Lib.hid hgg
      have hge : w.heap.size ≤ gg := by omega
      clear hgg Ho
      go_loopw [11, 12, 13] (fun fr su i wr => ∃ j : Nat, j ≤ ws.length ∧ i = .int .i64 j ∧ fr = .int .i64 (zb ws j) ∧ su = .int .i64 (sb ws j + zb ws j) ∧ OwnI wr w.heap.size (.slice (some ⟨gg, 0, none⟩) ws.length ws.length) (partL (oneF ws) (List.replicate ws.length 0) j) ∧ Below w.heap.size w wr) (fun _ _ i _ => ws.length - (intOf i).toNat)
      case atStart => exact ⟨0, Nat.zero_le _, rfl, rfl, rfl, by rw [partL_zero]; exact Ho2.out, Hb.out⟩
      case round =>
        obtain ⟨j, hj, rfl, rfl, rfl, hown, hbel⟩ := hrel
        have Hown := Lib.hid hown
        have Hbel := Lib.hid hbel
        have hsb := sb_bd Hws.out j
        have hzj := zb_le ws j
        clear hown hbel
        by_cases hlj : j < ws.length
        · have hpl : ws.length = (partL (oneF ws) (List.replicate ws.length 0) j).length := by rw [partL_length _ _ _ (by simp; omega)]; simp
          have c1 := Hown.out.cell hpl j hlj
          have cf := Hown.out.fz hpl
          have hgw : gg < wr.heap.size := World.block_lt_of_cell? wr _ c1
          have c0 : wr.cell? ⟨b, off + j, none⟩ = some (.int .i64 (ws.getD j 0)) := by rw [Hbel.out.cell (p := ⟨b, off + j, none⟩) hbw]; exact Hat.out j hlj
          have hbg : b < gg := by omega
          have Hpl := Lib.hid hpl
          have Hsucc := Lib.hid (partL_succ (oneF ws) (List.replicate ws.length 0) j (by simp; omega))
          have Hone := Lib.hid (sb_one Hws.out j)
          have Hof := Lib.hid (show oneF ws j = max (ws.getD j 0) 1 from rfl)
          have Hzb := Lib.hid (show zb ws (j + 1) = if ws.getD j 0 = 0 then zb ws j + 1 else zb ws j from rfl)
          have hx := Hws.out j
          generalize hsu : sb ws j + (zb ws j : Int) = su at *
          have hsu0 : 0 ≤ su ∧ su ≤ 2000 := by omega
          obtain ⟨su1, su2⟩ := hsu0
          have Hsu := Lib.hid hsu
          generalize (partL (oneF ws) (List.replicate ws.length 0) j).getD j 0 = y at *
          clear hpl hsb hsu
          generalize ws.getD j 0 = x at *
          obtain ⟨x1, x2⟩ := hx
          by_cases hx0 : x = 0
          · have hb0 : (x == 0) = true := by simp [hx0]
            have Hx0 := Lib.hid hx0
            have Hm := Lib.hid (show max x 1 = 1 by simp only [Int.max_def]; split <;> omega)
            clear hx0
            go_wp2
            go_roundw
            case rel =>
              refine ⟨j + 1, by omega, by go_num, by rw [Hzb.out, if_pos Hx0.out]; go_num, by rw [← Hone.out, Hof.out, Hm.out], ?_, ?_⟩
              · have q := (Hown.out.set Hpl.out j x).set (by rw [List.length_set]; exact Hpl.out) j 1
                rw [List.set_set] at q
                have e := Hsucc.out
                rw [Hof.out, Hm.out] at e
                rw [e] at q
                exact q
              · exact (Hbel.out.setCell (p := ⟨gg, j, none⟩) hge _).setCell (p := ⟨gg, j, none⟩) hge _
            case measure => simp [intOf]; omega
          · have hb0 : (x == 0) = false := by simp [hx0]
            have Hx0 := Lib.hid hx0
            have Hm := Lib.hid (show max x 1 = x by simp only [Int.max_def]; split <;> omega)
            clear hx0
            go_wp2
            go_roundw
            case rel =>
              refine ⟨j + 1, by omega, by go_num, by rw [Hzb.out, if_neg Hx0.out], by rw [← Hone.out, Hof.out, Hm.out], ?_, ?_⟩
              · have q := (Hown.out.set Hpl.out j x)
                have e := Hsucc.out
                rw [Hof.out, Hm.out] at e
                rw [e] at q
                exact q
              · exact (Hbel.out.setCell (p := ⟨gg, j, none⟩) hge _)
            case measure => simp [intOf]; omega
        · have hjn : j = ws.length := by omega
          subst hjn
          have hone0 : OwnI wr w.heap.size (.slice (some ⟨gg, 0, none⟩) ws.length ws.length) (rangeL (oneF ws) ws.length) := by
            have := Hown.out
            rw [partL_all _ _ _ (by simp) (by simp)] at this
            simpa [rangeL] using this
          have Hone0 := Lib.hid hone0
          clear hone0 Hown
          have Hsum := Lib.hid (show needOf ws = sb ws ws.length + zb ws ws.length from rfl)
          rw [← Hsum.out]
          have hnd : 0 ≤ needOf ws ∧ needOf ws ≤ 2000 := by rw [Hsum.out]; omega
          obtain ⟨nd1, nd2⟩ := hnd
          obtain ⟨w9, hw9⟩ : ∃ w9, w9 = wr := ⟨_, rfl⟩
          have hsh := Hsh.out
          clear hw9 hsb hzj
          go_wp2_with fail
          have Hlap0 := Lib.hid (show rangeL (oneF ws) ws.length = rangeL (lapF ws 0 0) ws.length from rangeL_congr _ _ _ fun k hk => by
            have := Hws.out k
            simp only [oneF, lapF]
            by_cases h0 : ws.getD k 0 = 0
            · rw [if_pos h0, h0]; simp [Int.max_def]
            · rw [if_neg h0, Int.max_def]; split <;> omega)
          go_loopw [12, 14] (fun su _ wr => ∃ q r : Nat, r ≤ zb ws ws.length ∧ su = .int .i64 (needOf ws + (q * zb ws ws.length + r : Nat)) ∧ needOf ws + ((q * zb ws ws.length + r : Nat) : Int) ≤ wide ∧ (r = 0 ∨ needOf ws + ((q * zb ws ws.length + r : Nat) : Int) = wide) ∧ (zb ws ws.length = 0 → q = 0) ∧
              OwnI wr w.heap.size (.slice (some ⟨gg, 0, none⟩) ws.length ws.length) (rangeL (lapF ws q r) ws.length) ∧ Below w.heap.size w wr) (fun su _ _ => (wide - intOf su).toNat)
          case atStart => exact ⟨0, 0, Nat.zero_le _, by simp, by simpa using hsh, .inl rfl, fun _ => rfl, by rw [← Hlap0.out]; exact Hone0.out, Hbel.out⟩
          case round =>
            obtain ⟨q, r, hrz, rfl, hle, hor, hq0, hown, hbel⟩ := hrel
            have Hown := Lib.hid hown
            have Hbel2 := Lib.hid hbel
            have Hle := Lib.hid hle
            have Hor := Lib.hid hor
            have Hq0 := Lib.hid hq0
            have HT := Lib.hid (show needOf ws + ((q * zb ws ws.length + r : Nat) : Int) = needOf ws + ((q * zb ws ws.length + r : Nat) : Int) from rfl)
            obtain ⟨S, hS⟩ : ∃ S, S = needOf ws + ((q * zb ws ws.length + r : Nat) : Int) := ⟨_, rfl⟩
            rw [← hS] at hle
            rw [← hS]
            have HS := Lib.hid hS
            have S0 : 0 ≤ S := by omega
            clear hS hown hbel hor hq0
            by_cases hcond : S < wide ∧ 0 < zb ws ws.length
            · obtain ⟨hc1, hc2⟩ := hcond
              have hr0 : r = 0 := by have h1 := Hor.out; have h2 := HS.out; rcases h1 with h | h; exact h; omega
              subst hr0
              go_wp2_with fail
              obtain ⟨wo, rfl⟩ : ∃ wo : World, wo = wr := ⟨_, rfl⟩
              go_loopw [12, 14] (fun su i wr => ∃ j : Nat, j ≤ ws.length ∧ i = .int .i64 j ∧ su = .int .i64 (S + zb ws j) ∧ S + (zb ws j : Int) ≤ wide ∧ OwnI wr w.heap.size (.slice (some ⟨gg, 0, none⟩) ws.length ws.length) (rangeL (lapF ws q (zb ws j)) ws.length) ∧ Below w.heap.size w wr) (fun _ i _ => ws.length - (intOf i).toNat)
              case atStart => exact ⟨0, Nat.zero_le _, rfl, by simp [zb], by simp [zb]; omega, Hown.out, Hbel2.out⟩
              case round =>
                obtain ⟨j, hj, rfl, rfl, hle2, hown, hbel⟩ := hrel
                have Hown3 := Lib.hid hown
                have Hbel3 := Lib.hid hbel
                have hzj := zb_le ws j
                clear hown hbel
                by_cases hmore : j < ws.length ∧ S + (zb ws j : Int) < wide
                · obtain ⟨hm1, hm2⟩ := hmore
                  have hpl : ws.length = (rangeL (lapF ws q (zb ws j)) ws.length).length := by simp [rangeL]
                  have c1 := Hown3.out.cell hpl j hm1
                  have cf := Hown3.out.fz hpl
                  have hgw : gg < wr.heap.size := World.block_lt_of_cell? wr _ c1
                  have c0 : wr.cell? ⟨b, off + j, none⟩ = some (.int .i64 (ws.getD j 0)) := by rw [Hbel3.out.cell (p := ⟨b, off + j, none⟩) hbw]; exact Hat.out j hm1
                  rw [rangeL_getD _ _ _ hm1] at c1
                  have Hpl := Lib.hid hpl
                  have Hstep := Lib.hid (lap_step ws q j hm1)
                  have Hskip := Lib.hid (lap_skip ws j)
                  have Hz1 := Lib.hid (show ws.getD j 0 = 0 → zb ws (j + 1) = zb ws j + 1 from fun h => by simp only [zb, h, if_true])
                  have hval : lapF ws q (zb ws j) j ≤ 1000 ∧ 0 ≤ lapF ws q (zb ws j) j := by
                    have h1 := Hle.out
                    have h2 := Hws.out j
                    have h3 : q ≤ q * zb ws ws.length := Nat.le_mul_of_pos_right q hc2
                    simp only [lapF]
                    split
                    · split <;> omega
                    · omega
                  obtain ⟨vl1, vl2⟩ := hval
                  have hx := Hws.out j
                  generalize ws.getD j 0 = x at *
                  generalize lapF ws q (zb ws j) j = y at *
                  obtain ⟨x1, x2⟩ := hx
                  clear hpl
                  by_cases hx0 : x = 0
                  · have hb0 : (x == 0) = true := by simp [hx0]
                    have Hx0 := Lib.hid hx0
                    clear hx0
                    go_wp2
                    go_roundw
                    case rel =>
                      refine ⟨j + 1, by omega, by go_num, by rw [Hz1.out Hx0.out]; go_num, by rw [Hz1.out Hx0.out]; omega, ?_, Hbel3.out.setCell (p := ⟨gg, j, none⟩) hge _⟩
                      have q1 := Hown3.out.set Hpl.out j (y + 1)
                      rw [Hstep.out Hx0.out] at q1
                      exact q1
                    case measure => simp [intOf]; omega
                  · have hb0 : (x == 0) = false := by simp [hx0]
                    have Hx0 := Lib.hid hx0
                    clear hx0
                    go_wp2
                    go_roundw
                    case rel => exact ⟨j + 1, by omega, by go_num, by rw [Hskip.out Hx0.out], by rw [Hskip.out Hx0.out]; omega, by rw [Hskip.out Hx0.out]; exact Hown3.out, Hbel3.out⟩
                    case measure => simp [intOf]; omega
                · have Hfin := Lib.hid (show ∃ q' r' : Nat, r' ≤ zb ws ws.length ∧ S + (zb ws j : Int) = needOf ws + ((q' * zb ws ws.length + r' : Nat) : Int) ∧ (r' = 0 ∨ S + (zb ws j : Int) = wide) ∧ rangeL (lapF ws q (zb ws j)) ws.length = rangeL (lapF ws q' r') ws.length ∧ S < S + (zb ws j : Int) from by
                    have h1 := HS.out
                    rcases Nat.lt_or_ge j ws.length with h | h
                    · have hx : S + (zb ws j : Int) = wide := by
                        rcases Int.lt_or_le (S + (zb ws j : Int)) (wide) with h2 | h2
                        · exact absurd ⟨h, h2⟩ hmore
                        · omega
                      exact ⟨q, zb ws j, zb_mono ws j ws.length (by omega), by omega, .inr hx, rfl, by omega⟩
                    · have hjn : j = ws.length := by omega
                      subst hjn
                      refine ⟨q + 1, 0, Nat.zero_le _, ?_, .inl rfl, lap_wrap ws q, by omega⟩
                      rw [h1, Nat.succ_mul]; omega)
                  have Hm := Lib.hid hmore
                  have Hdec := Lib.hid hle2
                  by_cases hjl : j < ws.length
                  · have hns : ¬ S + (zb ws j : Int) < wide := fun h => hmore ⟨hjl, h⟩
                    clear hmore
                    go_wp2
                    go_roundw
                    case rel =>
                      obtain ⟨q', r', a1, a2, a3, a4, a5⟩ := Hfin.out
                      refine ⟨q', r', a1, by rw [a2], by rw [← a2]; exact Hdec.out, by rw [← a2]; exact a3, fun h => by omega, by rw [← a4]; exact Hown3.out, Hbel3.out⟩
                    case measure => have := Hfin.out; obtain ⟨q', r', a1, a2, a3, a4, a5⟩ := this; simp [intOf]; omega
                  · clear hmore
                    go_wp2
                    go_roundw
                    case rel =>
                      obtain ⟨q', r', a1, a2, a3, a4, a5⟩ := Hfin.out
                      refine ⟨q', r', a1, by rw [a2], by rw [← a2]; exact Hdec.out, by rw [← a2]; exact a3, fun h => by omega, by rw [← a4]; exact Hown3.out, Hbel3.out⟩
                    case measure => have := Hfin.out; obtain ⟨q', r', a1, a2, a3, a4, a5⟩ := this; simp [intOf]; omega
            · have HL0 := Lib.hid (show rangeL (lapF ws q r) ws.length = shareOf ws (wide) from by
                unfold shareOf
                rw [if_pos hsh]
                have h1 := HS.out
                by_cases hz : 0 < zb ws ws.length
                · have hSr : S = wide := by
                    rcases Int.lt_or_le S (wide) with h2 | h2
                    · exact absurd ⟨h2, hz⟩ hcond
                    · omega
                  rw [lap_even ws q r hrz hz]
                  congr 1
                  congr 1
                  rw [Hsum.out] at h1
                  omega
                · have hq := Hq0.out (by omega)
                  refine rangeL_congr _ _ _ fun k hk => ?_
                  have : ws.getD k 0 ≠ 0 := fun h0 => by have := zb_lt ws k ws.length hk h0; omega
                  simp only [lapF, evenF, if_neg this])
              obtain ⟨l, hl⟩ : ∃ l, l = shareOf ws (wide) := ⟨_, rfl⟩
              obtain ⟨w2, hw2⟩ : ∃ w2, w2 = wr := ⟨_, rfl⟩
              have Hown := Lib.hid (show OwnI w2 w.heap.size (.slice (some ⟨gg, 0, none⟩) ws.length ws.length) l by rw [hl, hw2, ← HL0.out]; exact Hown.out)
              have HL := Lib.hid hl
              have Hl := Lib.hid (show l.length = ws.length by rw [hl]; exact Hshl.out)
              have Hlb := Lib.hid (show ∀ k, -2000 ≤ l.getD k 0 ∧ l.getD k 0 ≤ 2000 by rw [hl]; exact Hshb.out)
              have Hb2 := Lib.hid (show Below w.heap.size w w2 by rw [hw2]; exact Hbel2.out)
              have hz2' : w.heap.size ≤ w2.heap.size := Hb2.out.size
              have hgl : gg < w2.heap.size := (World.ownsRow.lt Hown.out gg rfl).2
              have hdone : ¬ wide < S := by omega
              rw [← hw2]
              clear hl hw2
              by_cases hS1 : S < wide
              all_goals
                go_wp2_with fail
                refine wp_loop_once ?_
                go_wp2_with fail
                go_loopw [17, 18, 19] (fun o at_ i wr => ∃ j : Nat, j ≤ ws.length ∧ i = .int .i64 j ∧ at_ = .int .i64 (atOf 0 l j) ∧ (∃ av cv, o = .slice av j cv ∧ wr.ownsRow w2.heap.size 59 2 (.slice av j cv) j (colCells (colsP 0 l j))) ∧ Below w2.heap.size w2 wr) (fun _ _ i _ => ws.length - (intOf i).toNat)
                case atStart => exact ⟨0, Nat.zero_le _, rfl, rfl, ⟨none, 0, rfl, World.ownsRow_nil _ _ _ _⟩, Below.refl _ _⟩
                case round =>
                  obtain ⟨j, hj, rfl, rfl, ⟨av, cv, rfl, hrow⟩, hbel⟩ := hrel
                  have Hrow := Lib.hid hrow
                  have Hbel9 := Lib.hid hbel
                  have hwr : w2.heap.size ≤ wr.heap.size := hbel.size
                  clear hrow hbel
                  by_cases hlj : j < ws.length
                  · have c0 : wr.cell? ⟨gg, j, none⟩ = some (.int .i64 (l.getD j 0)) := by rw [Hbel9.out.cell (p := ⟨gg, j, none⟩) hgl]; exact OwnI.cell Hown.out Hl.out.symm j hlj
                    have hx := Hlb.out j
                    have hat := atOf_bd (gap := 0) (by omega) Hlb.out j
                    have Hnext := Lib.hid (show colsP 0 l (j + 1) = colsP 0 l j ++ [(atOf 0 l j, l.getD j 0)] from rfl)
                    have Hnat := Lib.hid (show atOf 0 l (j + 1) = atOf 0 l j + (l.getD j 0 + 0) from rfl)
                    have hggr : gg < wr.heap.size := by omega
                    generalize atOf 0 l j = at_ at *
                    generalize l.getD j 0 = x at *
                    generalize colsP 0 l j = cs at *
                    obtain ⟨x1, x2⟩ := hx
                    obtain ⟨at1, at2⟩ := hat
                    have at3 : -20000 ≤ at_ := by omega
                    have at4 : at_ ≤ 20000 := by omega
                    go_wp2_with (at_builtin; go_loud (refine wpList_append_lies _ rfl (.tmp 156) (.tmp 163) 34 rfl w2.heap.size 59 i0 _ 2 16 Try.underlying34 hi0 hz0 hz1 hz2 rfl (by omega) (.slice av j cv) j (colCells cs) rfl (Hrow.out.alloc _) ⟨wr.heap.size, 0, none⟩ 1 1 [.int .i64 at_, .int .i64 x] rfl rfl (World.news_of_block (cs := #[.int .i64 at_, .int .i64 x]) (t := 59) (fr := (0, 0)) (heap_alloc_new wr _)) (by simp [Value.oneCell']) (by omega) (by unfold maxLen; omega) (by omega) (by simp; omega) (wr.heap.size + 1) (by simp) ?_); intro gg3 cap3 w3 hown hgrow hat3 hlt3; go_loud (have hne3 : (some gg : Option Nat) ≠ (Value.slice av j cv).ownBlock := (fun e => absurd (Hrow.out.lt gg e.symm).1 (Nat.not_le.2 hgl))); go_loud (have c3 := hgrow.cell_far ⟨gg, j, none⟩ (by simp; omega) hne3); (try simp [c0] at c3); have Hg3 := Lib.hid hgrow; clear hgrow; have Ho := Lib.hid hown; clear hown)
                    go_roundw
                    case rel =>
                      refine ⟨j + 1, by omega, by go_num, (by rw [Hnat.out]; try (first | rfl | (congr 1; omega))), ⟨some ⟨gg3, 0, none⟩, cap3, rfl, ?_⟩, (Hbel9.out.alloc hwr _).grown Hg3.out (by simp; omega) fun m hm => (Hrow.out.lt m hm).1⟩
                      rw [Hnext.out, colCells_append]; exact Ho.out
                    case measure => simp [intOf]; omega
                  · go_wp2
                    go_ret2
                    have hjn : j = ws.length := by omega
                    subst hjn
                    refine ⟨_, by rw [Hcol.out]; rfl, ?_, Hb2.out.trans (Hbel9.out.mono hz2')⟩
                    rw [Hcol.out]
                    have h := Hrow.out
                    rw [HL.out] at h
                    refine ⟨?_, ?_⟩
                    · rw [colsP_length]; exact h.1
                    · rw [colsP_length]
                      rcases h.2 with h' | ⟨g, cap, cur, e1, e2, e3⟩
                      · exact .inl h'
                      · exact .inr ⟨g, cap, cur, e1, by omega, e3⟩

set_option maxRecDepth 100000 in
set_option maxHeartbeats 4000000 in
theorem rcols_01 (b off c : Nat) (ws : List Int) (wide : Int) (w : World) (hat : IntAt w b off ws) (h10 : 10 ≤ wide) (h200 : wide ≤ 200) (h1 : 1 ≤ ws.length) (h8 : ws.length ≤ 8) (hbad : badW ws = false)
    (hg : wide - ((ws.length : Int) - 1) < ws.length) (hsh : ¬ needOf ws ≤ roomOf ws.length wide) :
    Calls Try.prog 17 #[.slice (some ⟨b, off, none⟩) ws.length c, .int .i64 wide] w fun e w' => ColRes (columnsOf ws wide) w e w' := by
  obtain ⟨i0, hi0, hz0, hz1, hz2⟩ := info_parts info59
  obtain ⟨j0, hj0, hy0, hy1, hy2⟩ := info_parts info3
  have hws := badW_get hbad
  have hr : ¬ (wide < 10 ∨ 200 < wide ∨ ws.length < 1 ∨ 8 < ws.length) := by omega
  obtain ⟨rm1, rm2, gp1, gp2⟩ := roomOf_bd h1 h8 h10 h200
  have hg0 : gapOf ws.length wide = 0 := by unfold gapOf; rw [if_pos hg]
  have hroom : roomOf ws.length wide = wide := by unfold roomOf; rw [hg0]; omega
  have Hcol := Lib.hid (show columnsOf ws wide = (colsP 0 (shareOf ws (wide)) ws.length, 0) by unfold columnsOf; rw [if_neg hr, if_neg (by rw [hbad]; simp), hg0, hroom])
  rw [hroom] at hsh rm1 rm2
  have Hshb := Lib.hid (shareOf_bd hws h8 rm1 rm2)
  have Hshl := Lib.hid (shareOf_length ws (wide))
  have Hsh := Lib.hid hsh
  have Hws := Lib.hid hws
  have Hat := Lib.hid hat
  have hbw := hat.lt (by omega)
  have hsbn := sb_bd hws ws.length
  have hzbn := zb_le ws ws.length
  clear hat hbad hws hr hg0 hroom hsh
  go_enter Try.func17, Try.ntmps17
  go_wp2
  go_loop [7] (fun i => ∃ k : Nat, k ≤ ws.length ∧ i = .int .i64 k) (fun i => ws.length - (intOf i).toNat)
  case atStart => exact ⟨0, Nat.zero_le _, rfl⟩
  case round =>
    obtain ⟨k, hk, rfl⟩ := hrel
    by_cases hlt : k < ws.length
    · have c0 := Hat.out k hlt
      have hx := Hws.out k
      generalize ws.getD k 0 = x at *
      obtain ⟨x1, x2⟩ := hx
      go_wp2
      go_round
      case rel => exact ⟨k + 1, by omega, by go_num⟩
      case measure => simp [intOf]; omega
    · go_wp2_with (at_make; go_loud (refine wpList_make_full _ rfl (.tmp 65) (.tmp 65) 33 rfl w.heap.size 3 j0 _ 1 Try.underlying33 hj0 hy0 hy1 .i64 .i64 (ws.length : Int) (ws.length : Int) ws.length rfl rfl rfl rfl (by rw [hy2]; omega) (by unfold maxLen; omega) (Nat.le_refl _) ?_); intro w1 hown hgrow; have Ho := Lib.hid (show OwnI w1 w.heap.size (.slice (some ⟨w.heap.size, 0, none⟩) ws.length ws.length) (List.replicate ws.length 0) by unfold OwnI; rw [List.length_replicate, List.map_replicate]; have h := hown; rw [show (Value.int .i64 0).cells = #[.int .i64 0] from rfl, toList_madeCells_one, Nat.mul_one] at h; exact h); have Hb := Lib.hid ((Below.refl w.heap.size w).grown hgrow (Nat.le_refl _) (fun k hk => by cases hk)); clear hown hgrow)
      obtain ⟨gg, hgg⟩ : ∃ gg, gg = w.heap.size := ⟨_, rfl⟩
      have Ho2 := Lib.hid (show OwnI w1 w.heap.size (.slice (some ⟨gg, 0, none⟩) ws.length ws.length) (List.replicate ws.length 0) by rw [hgg]; exact Ho.out)
      rw [← hgg]
      have Hgg := Lib.hid hgg
      have hge : w.heap.size ≤ gg := by omega
      clear hgg Ho
      go_loopw [11, 12, 13] (fun fr su i wr => ∃ j : Nat, j ≤ ws.length ∧ i = .int .i64 j ∧ fr = .int .i64 (zb ws j) ∧ su = .int .i64 (sb ws j + zb ws j) ∧ OwnI wr w.heap.size (.slice (some ⟨gg, 0, none⟩) ws.length ws.length) (partL (oneF ws) (List.replicate ws.length 0) j) ∧ Below w.heap.size w wr) (fun _ _ i _ => ws.length - (intOf i).toNat)
      case atStart => exact ⟨0, Nat.zero_le _, rfl, rfl, rfl, by rw [partL_zero]; exact Ho2.out, Hb.out⟩
      case round =>
        obtain ⟨j, hj, rfl, rfl, rfl, hown, hbel⟩ := hrel
        have Hown := Lib.hid hown
        have Hbel := Lib.hid hbel
        have hsb := sb_bd Hws.out j
        have hzj := zb_le ws j
        clear hown hbel
        by_cases hlj : j < ws.length
        · have hpl : ws.length = (partL (oneF ws) (List.replicate ws.length 0) j).length := by rw [partL_length _ _ _ (by simp; omega)]; simp
          have c1 := Hown.out.cell hpl j hlj
          have cf := Hown.out.fz hpl
          have hgw : gg < wr.heap.size := World.block_lt_of_cell? wr _ c1
          have c0 : wr.cell? ⟨b, off + j, none⟩ = some (.int .i64 (ws.getD j 0)) := by rw [Hbel.out.cell (p := ⟨b, off + j, none⟩) hbw]; exact Hat.out j hlj
          have hbg : b < gg := by omega
          have Hpl := Lib.hid hpl
          have Hsucc := Lib.hid (partL_succ (oneF ws) (List.replicate ws.length 0) j (by simp; omega))
          have Hone := Lib.hid (sb_one Hws.out j)
          have Hof := Lib.hid (show oneF ws j = max (ws.getD j 0) 1 from rfl)
          have Hzb := Lib.hid (show zb ws (j + 1) = if ws.getD j 0 = 0 then zb ws j + 1 else zb ws j from rfl)
          have hx := Hws.out j
          generalize hsu : sb ws j + (zb ws j : Int) = su at *
          have hsu0 : 0 ≤ su ∧ su ≤ 2000 := by omega
          obtain ⟨su1, su2⟩ := hsu0
          have Hsu := Lib.hid hsu
          generalize (partL (oneF ws) (List.replicate ws.length 0) j).getD j 0 = y at *
          clear hpl hsb hsu
          generalize ws.getD j 0 = x at *
          obtain ⟨x1, x2⟩ := hx
          by_cases hx0 : x = 0
          · have hb0 : (x == 0) = true := by simp [hx0]
            have Hx0 := Lib.hid hx0
            have Hm := Lib.hid (show max x 1 = 1 by simp only [Int.max_def]; split <;> omega)
            clear hx0
            go_wp2
            go_roundw
            case rel =>
              refine ⟨j + 1, by omega, by go_num, by rw [Hzb.out, if_pos Hx0.out]; go_num, by rw [← Hone.out, Hof.out, Hm.out], ?_, ?_⟩
              · have q := (Hown.out.set Hpl.out j x).set (by rw [List.length_set]; exact Hpl.out) j 1
                rw [List.set_set] at q
                have e := Hsucc.out
                rw [Hof.out, Hm.out] at e
                rw [e] at q
                exact q
              · exact (Hbel.out.setCell (p := ⟨gg, j, none⟩) hge _).setCell (p := ⟨gg, j, none⟩) hge _
            case measure => simp [intOf]; omega
          · have hb0 : (x == 0) = false := by simp [hx0]
            have Hx0 := Lib.hid hx0
            have Hm := Lib.hid (show max x 1 = x by simp only [Int.max_def]; split <;> omega)
            clear hx0
            go_wp2
            go_roundw
            case rel =>
              refine ⟨j + 1, by omega, by go_num, by rw [Hzb.out, if_neg Hx0.out], by rw [← Hone.out, Hof.out, Hm.out], ?_, ?_⟩
              · have q := (Hown.out.set Hpl.out j x)
                have e := Hsucc.out
                rw [Hof.out, Hm.out] at e
                rw [e] at q
                exact q
              · exact (Hbel.out.setCell (p := ⟨gg, j, none⟩) hge _)
            case measure => simp [intOf]; omega
        · have hjn : j = ws.length := by omega
          subst hjn
          have hone0 : OwnI wr w.heap.size (.slice (some ⟨gg, 0, none⟩) ws.length ws.length) (rangeL (oneF ws) ws.length) := by
            have := Hown.out
            rw [partL_all _ _ _ (by simp) (by simp)] at this
            simpa [rangeL] using this
          have Hone0 := Lib.hid hone0
          clear hone0 Hown
          have Hsum := Lib.hid (show needOf ws = sb ws ws.length + zb ws ws.length from rfl)
          rw [← Hsum.out]
          have hnd : 0 ≤ needOf ws ∧ needOf ws ≤ 2000 := by rw [Hsum.out]; omega
          obtain ⟨nd1, nd2⟩ := hnd
          obtain ⟨w9, hw9⟩ : ∃ w9, w9 = wr := ⟨_, rfl⟩
          have hsh := Hsh.out
          clear hw9 hsb hzj
          go_wp2_with fail
          have hsh' : wide < needOf ws := by have := Hsh.out; omega
          have Hres := Lib.hid (show shareOf ws (wide) = itL (needOf ws - (wide)).toNat (rangeL (oneF ws) ws.length) by unfold shareOf; rw [if_neg (by have := Hsh.out; omega)])
          have Hlen := Lib.hid (show (rangeL (oneF ws) ws.length).length = ws.length by simp [rangeL])
          have Hone1 := Lib.hid (show ∀ k, 0 ≤ (rangeL (oneF ws) ws.length).getD k 0 ∧ (rangeL (oneF ws) ws.length).getD k 0 ≤ 200 from fun k => by
            by_cases hk : k < ws.length
            · rw [rangeL_getD _ _ _ hk]; have := Hws.out k; simp only [oneF, Int.max_def]; split <;> omega
            · simp [rangeL, List.getD_eq_getElem?_getD, hk])
          generalize rangeL (oneF ws) ws.length = l0 at *
          refine wp_loop_once ?_
          go_wp2_with fail
          go_loopw [12] (fun su wr => ∃ j : Nat, (j : Int) ≤ needOf ws - (wide) ∧ su = .int .i64 (needOf ws - j) ∧ OwnI wr w.heap.size (.slice (some ⟨gg, 0, none⟩) ws.length ws.length) (itL j l0) ∧ Below w.heap.size w wr) (fun su _ => (intOf su - (wide)).toNat)
          case atStart => exact ⟨0, by omega, by go_num, Hone0.out, Hbel.out⟩
          case round =>
            obtain ⟨j, hj, rfl, hown, hbel⟩ := hrel
            have Hown := Lib.hid hown
            have Hbel2 := Lib.hid hbel
            clear hown hbel
            by_cases hmore : wide < needOf ws - j
            · have hll := Lib.hid (show ws.length = (itL j l0).length by rw [itL_length]; exact Hlen.out.symm)
              have Hbd := Lib.hid (itL_bd l0 Hone1.out j)
              obtain ⟨wo, rfl⟩ : ∃ wo : World, wo = wr := ⟨_, rfl⟩
              go_wp2_with fail
              go_loopw [15, 16] (fun mo i wr => ∃ k : Nat, k ≤ ws.length ∧ i = .int .i64 k ∧ mo = .int .i64 (mostOf (itL j l0) k) ∧ ∃ m, wr = wo.drewN m) (fun _ i _ => ws.length - (intOf i).toNat)
              case atStart => exact ⟨0, Nat.zero_le _, rfl, rfl, 0, rfl⟩
              case round =>
                obtain ⟨k, hk, rfl, rfl, m, hm⟩ := hrel
                have Hm := Lib.hid hm
                have hmo := mostOf_lt (itL j l0) k ws.length (by omega) hk
                have hown2 : OwnI wr w.heap.size (.slice (some ⟨gg, 0, none⟩) ws.length ws.length) (itL j l0) := by rw [hm]; exact Hown.out.drewN m
                clear hm
                by_cases hkl : k < ws.length
                · have c0 := hown2.cell hll.out k hkl
                  have c1 := hown2.cell hll.out _ hmo
                  have b0 := Hbd.out k
                  have b1 := Hbd.out (mostOf (itL j l0) k)
                  have Hms := Lib.hid (show mostOf (itL j l0) (k + 1) = if (itL j l0).getD (mostOf (itL j l0) k) 0 ≤ (itL j l0).getD k 0 then k else mostOf (itL j l0) k from rfl)
                  generalize mostOf (itL j l0) k = mo at *
                  generalize (itL j l0).getD k 0 = x at *
                  generalize (itL j l0).getD mo 0 = y at *
                  have i1 : (0 : Int) ≤ (k : Int) := by omega
                  have i2 : (k : Int) < (ws.length : Int) := by omega
                  have i3 : (0 : Int) ≤ (mo : Int) := by omega
                  have i4 : (mo : Int) < (ws.length : Int) := by omega
                  clear hown2 b0 b1
                  by_cases hxy : y ≤ x
                  · go_wp2_with fail
                    go_quiet (fail)
                    go_wp2
                    go_roundw
                    case rel => exact ⟨k + 1, by omega, by go_num, by rw [Hms.out, if_pos hxy], m + nq, by rw [Hm.out, World.drewN_drewN]⟩
                    case measure => simp [intOf]; omega
                  · go_wp2_with fail
                    go_quiet (fail)
                    go_wp2
                    go_roundw
                    case rel => exact ⟨k + 1, by omega, by go_num, by rw [Hms.out, if_neg (by omega)], m + nq, by rw [Hm.out, World.drewN_drewN]⟩
                    case measure => simp [intOf]; omega
                · have hkn : k = ws.length := by omega
                  subst hkn
                  have c0 := hown2.cell hll.out _ hmo
                  have cf := hown2.fz hll.out
                  have b0 := Hbd.out (mostOf (itL j l0) ws.length)
                  have Hset := Lib.hid (fun x => hown2.set hll.out (mostOf (itL j l0) ws.length) x)
                  have Hdec := Lib.hid (show itL (j + 1) l0 = (itL j l0).set (mostOf (itL j l0) ws.length) ((itL j l0).getD (mostOf (itL j l0) ws.length) 0 - 1) by show decL (itL j l0) = _; unfold decL; rw [← hll.out])
                  have hbwr := Lib.hid (show Below w.heap.size w wr by rw [Hm.out]; exact below_drewN Hbel2.out m)
                  generalize mostOf (itL j l0) ws.length = mo at *
                  generalize (itL j l0).getD mo 0 = x at *
                  clear hown2
                  go_wp2
                  go_roundw
                  case rel => exact ⟨j + 1, by omega, by go_num, by rw [Hdec.out]; exact Hset.out _, hbwr.out.setCell (p := ⟨gg, mo, none⟩) hge _⟩
                  case measure => simp [intOf]; omega
            · have HL0 := Lib.hid (show itL j l0 = shareOf ws (wide) from by rw [Hres.out, show (needOf ws - (wide)).toNat = j by omega])
              obtain ⟨l, hl⟩ : ∃ l, l = shareOf ws (wide) := ⟨_, rfl⟩
              obtain ⟨w2, hw2⟩ : ∃ w2, w2 = wr := ⟨_, rfl⟩
              have Hown := Lib.hid (show OwnI w2 w.heap.size (.slice (some ⟨gg, 0, none⟩) ws.length ws.length) l by rw [hl, hw2, ← HL0.out]; exact Hown.out)
              have HL := Lib.hid hl
              have Hl := Lib.hid (show l.length = ws.length by rw [hl]; exact Hshl.out)
              have Hlb := Lib.hid (show ∀ k, -2000 ≤ l.getD k 0 ∧ l.getD k 0 ≤ 2000 by rw [hl]; exact Hshb.out)
              have Hb2 := Lib.hid (show Below w.heap.size w w2 by rw [hw2]; exact Hbel2.out)
              have hz2' : w.heap.size ≤ w2.heap.size := Hb2.out.size
              have hgl : gg < w2.heap.size := (World.ownsRow.lt Hown.out gg rfl).2
              rw [← hw2]
              clear hl hw2
              go_wp2_with fail
              go_loopw [17, 18, 19] (fun o at_ i wr => ∃ j : Nat, j ≤ ws.length ∧ i = .int .i64 j ∧ at_ = .int .i64 (atOf 0 l j) ∧ (∃ av cv, o = .slice av j cv ∧ wr.ownsRow w2.heap.size 59 2 (.slice av j cv) j (colCells (colsP 0 l j))) ∧ Below w2.heap.size w2 wr) (fun _ _ i _ => ws.length - (intOf i).toNat)
              case atStart => exact ⟨0, Nat.zero_le _, rfl, rfl, ⟨none, 0, rfl, World.ownsRow_nil _ _ _ _⟩, Below.refl _ _⟩
              case round =>
                obtain ⟨j, hj, rfl, rfl, ⟨av, cv, rfl, hrow⟩, hbel⟩ := hrel
                have Hrow := Lib.hid hrow
                have Hbel9 := Lib.hid hbel
                have hwr : w2.heap.size ≤ wr.heap.size := hbel.size
                clear hrow hbel
                by_cases hlj : j < ws.length
                · have c0 : wr.cell? ⟨gg, j, none⟩ = some (.int .i64 (l.getD j 0)) := by rw [Hbel9.out.cell (p := ⟨gg, j, none⟩) hgl]; exact OwnI.cell Hown.out Hl.out.symm j hlj
                  have hx := Hlb.out j
                  have hat := atOf_bd (gap := 0) (by omega) Hlb.out j
                  have Hnext := Lib.hid (show colsP 0 l (j + 1) = colsP 0 l j ++ [(atOf 0 l j, l.getD j 0)] from rfl)
                  have Hnat := Lib.hid (show atOf 0 l (j + 1) = atOf 0 l j + (l.getD j 0 + 0) from rfl)
                  have hggr : gg < wr.heap.size := by omega
                  generalize atOf 0 l j = at_ at *
                  generalize l.getD j 0 = x at *
                  generalize colsP 0 l j = cs at *
                  obtain ⟨x1, x2⟩ := hx
                  obtain ⟨at1, at2⟩ := hat
                  have at3 : -20000 ≤ at_ := by omega
                  have at4 : at_ ≤ 20000 := by omega
                  go_wp2_with (at_builtin; go_loud (refine wpList_append_lies _ rfl (.tmp 156) (.tmp 163) 34 rfl w2.heap.size 59 i0 _ 2 16 Try.underlying34 hi0 hz0 hz1 hz2 rfl (by omega) (.slice av j cv) j (colCells cs) rfl (Hrow.out.alloc _) ⟨wr.heap.size, 0, none⟩ 1 1 [.int .i64 at_, .int .i64 x] rfl rfl (World.news_of_block (cs := #[.int .i64 at_, .int .i64 x]) (t := 59) (fr := (0, 0)) (heap_alloc_new wr _)) (by simp [Value.oneCell']) (by omega) (by unfold maxLen; omega) (by omega) (by simp; omega) (wr.heap.size + 1) (by simp) ?_); intro gg3 cap3 w3 hown hgrow hat3 hlt3; go_loud (have hne3 : (some gg : Option Nat) ≠ (Value.slice av j cv).ownBlock := (fun e => absurd (Hrow.out.lt gg e.symm).1 (Nat.not_le.2 hgl))); go_loud (have c3 := hgrow.cell_far ⟨gg, j, none⟩ (by simp; omega) hne3); (try simp [c0] at c3); have Hg3 := Lib.hid hgrow; clear hgrow; have Ho := Lib.hid hown; clear hown)
                  go_roundw
                  case rel =>
                    refine ⟨j + 1, by omega, by go_num, (by rw [Hnat.out]; try (first | rfl | (congr 1; omega))), ⟨some ⟨gg3, 0, none⟩, cap3, rfl, ?_⟩, (Hbel9.out.alloc hwr _).grown Hg3.out (by simp; omega) fun m hm => (Hrow.out.lt m hm).1⟩
                    rw [Hnext.out, colCells_append]; exact Ho.out
                  case measure => simp [intOf]; omega
                · go_wp2
                  go_ret2
                  have hjn : j = ws.length := by omega
                  subst hjn
                  refine ⟨_, by rw [Hcol.out]; rfl, ?_, Hb2.out.trans (Hbel9.out.mono hz2')⟩
                  rw [Hcol.out]
                  have h := Hrow.out
                  rw [HL.out] at h
                  refine ⟨?_, ?_⟩
                  · rw [colsP_length]; exact h.1
                  · rw [colsP_length]
                    rcases h.2 with h' | ⟨g, cap, cur, e1, e2, e3⟩
                    · exact .inl h'
                    · exact .inr ⟨g, cap, cur, e1, by omega, e3⟩

set_option maxRecDepth 100000 in
set_option maxHeartbeats 4000000 in
theorem rcols_10 (b off c : Nat) (ws : List Int) (wide : Int) (w : World) (hat : IntAt w b off ws) (h10 : 10 ≤ wide) (h200 : wide ≤ 200) (h1 : 1 ≤ ws.length) (h8 : ws.length ≤ 8) (hbad : badW ws = false)
    (hg : ¬ wide - ((ws.length : Int) - 1) < ws.length) (hsh : needOf ws ≤ roomOf ws.length wide) :
    Calls Try.prog 17 #[.slice (some ⟨b, off, none⟩) ws.length c, .int .i64 wide] w fun e w' => ColRes (columnsOf ws wide) w e w' := by
  obtain ⟨i0, hi0, hz0, hz1, hz2⟩ := info_parts info59
  obtain ⟨j0, hj0, hy0, hy1, hy2⟩ := info_parts info3
  have hws := badW_get hbad
  have hr : ¬ (wide < 10 ∨ 200 < wide ∨ ws.length < 1 ∨ 8 < ws.length) := by omega
  obtain ⟨rm1, rm2, gp1, gp2⟩ := roomOf_bd h1 h8 h10 h200
  have hg0 : gapOf ws.length wide = 1 := by unfold gapOf; rw [if_neg hg]
  have hroom : roomOf ws.length wide = wide - ((ws.length : Int) - 1) := by unfold roomOf; rw [hg0]; omega
  have Hcol := Lib.hid (show columnsOf ws wide = (colsP 1 (shareOf ws (wide - ((ws.length : Int) - 1))) ws.length, 0) by unfold columnsOf; rw [if_neg hr, if_neg (by rw [hbad]; simp), hg0, hroom])
  rw [hroom] at hsh rm1 rm2
  have Hshb := Lib.hid (shareOf_bd hws h8 rm1 rm2)
  have Hshl := Lib.hid (shareOf_length ws (wide - ((ws.length : Int) - 1)))
  have Hsh := Lib.hid hsh
  have Hws := Lib.hid hws
  have Hat := Lib.hid hat
  have hbw := hat.lt (by omega)
  have hsbn := sb_bd hws ws.length
  have hzbn := zb_le ws ws.length
  clear hat hbad hws hr hg0 hroom hsh
  go_enter Try.func17, Try.ntmps17
  go_wp2
  go_loop [7] (fun i => ∃ k : Nat, k ≤ ws.length ∧ i = .int .i64 k) (fun i => ws.length - (intOf i).toNat)
  case atStart => exact ⟨0, Nat.zero_le _, rfl⟩
  case round =>
    obtain ⟨k, hk, rfl⟩ := hrel
    by_cases hlt : k < ws.length
    · have c0 := Hat.out k hlt
      have hx := Hws.out k
      generalize ws.getD k 0 = x at *
      obtain ⟨x1, x2⟩ := hx
      go_wp2
      go_round
      case rel => exact ⟨k + 1, by omega, by go_num⟩
      case measure => simp [intOf]; omega
    · go_wp2_with (at_make; go_loud (refine wpList_make_full _ rfl (.tmp 65) (.tmp 65) 33 rfl w.heap.size 3 j0 _ 1 Try.underlying33 hj0 hy0 hy1 .i64 .i64 (ws.length : Int) (ws.length : Int) ws.length rfl rfl rfl rfl (by rw [hy2]; omega) (by unfold maxLen; omega) (Nat.le_refl _) ?_); intro w1 hown hgrow; have Ho := Lib.hid (show OwnI w1 w.heap.size (.slice (some ⟨w.heap.size, 0, none⟩) ws.length ws.length) (List.replicate ws.length 0) by unfold OwnI; rw [List.length_replicate, List.map_replicate]; have h := hown; rw [show (Value.int .i64 0).cells = #[.int .i64 0] from rfl, toList_madeCells_one, Nat.mul_one] at h; exact h); have Hb := Lib.hid ((Below.refl w.heap.size w).grown hgrow (Nat.le_refl _) (fun k hk => by cases hk)); clear hown hgrow)
      obtain ⟨gg, hgg⟩ : ∃ gg, gg = w.heap.size := ⟨_, rfl⟩
      have Ho2 := Lib.hid (show OwnI w1 w.heap.size (.slice (some ⟨gg, 0, none⟩) ws.length ws.length) (List.replicate ws.length 0) by rw [hgg]; exact Ho.out)
      rw [← hgg]
      have Hgg := Lib.hid hgg
      have hge : w.heap.size ≤ gg := by omega
      clear hgg Ho
      go_loopw [11, 12, 13] (fun fr su i wr => ∃ j : Nat, j ≤ ws.length ∧ i = .int .i64 j ∧ fr = .int .i64 (zb ws j) ∧ su = .int .i64 (sb ws j + zb ws j) ∧ OwnI wr w.heap.size (.slice (some ⟨gg, 0, none⟩) ws.length ws.length) (partL (oneF ws) (List.replicate ws.length 0) j) ∧ Below w.heap.size w wr) (fun _ _ i _ => ws.length - (intOf i).toNat)
      case atStart => exact ⟨0, Nat.zero_le _, rfl, rfl, rfl, by rw [partL_zero]; exact Ho2.out, Hb.out⟩
      case round =>
        obtain ⟨j, hj, rfl, rfl, rfl, hown, hbel⟩ := hrel
        have Hown := Lib.hid hown
        have Hbel := Lib.hid hbel
        have hsb := sb_bd Hws.out j
        have hzj := zb_le ws j
        clear hown hbel
        by_cases hlj : j < ws.length
        · have hpl : ws.length = (partL (oneF ws) (List.replicate ws.length 0) j).length := by rw [partL_length _ _ _ (by simp; omega)]; simp
          have c1 := Hown.out.cell hpl j hlj
          have cf := Hown.out.fz hpl
          have hgw : gg < wr.heap.size := World.block_lt_of_cell? wr _ c1
          have c0 : wr.cell? ⟨b, off + j, none⟩ = some (.int .i64 (ws.getD j 0)) := by rw [Hbel.out.cell (p := ⟨b, off + j, none⟩) hbw]; exact Hat.out j hlj
          have hbg : b < gg := by omega
          have Hpl := Lib.hid hpl
          have Hsucc := Lib.hid (partL_succ (oneF ws) (List.replicate ws.length 0) j (by simp; omega))
          have Hone := Lib.hid (sb_one Hws.out j)
          have Hof := Lib.hid (show oneF ws j = max (ws.getD j 0) 1 from rfl)
          have Hzb := Lib.hid (show zb ws (j + 1) = if ws.getD j 0 = 0 then zb ws j + 1 else zb ws j from rfl)
          have hx := Hws.out j
          generalize hsu : sb ws j + (zb ws j : Int) = su at *
          have hsu0 : 0 ≤ su ∧ su ≤ 2000 := by omega
          obtain ⟨su1, su2⟩ := hsu0
          have Hsu := Lib.hid hsu
          generalize (partL (oneF ws) (List.replicate ws.length 0) j).getD j 0 = y at *
          clear hpl hsb hsu
          generalize ws.getD j 0 = x at *
          obtain ⟨x1, x2⟩ := hx
          by_cases hx0 : x = 0
          · have hb0 : (x == 0) = true := by simp [hx0]
            have Hx0 := Lib.hid hx0
            have Hm := Lib.hid (show max x 1 = 1 by simp only [Int.max_def]; split <;> omega)
            clear hx0
            go_wp2
            go_roundw
            case rel =>
              refine ⟨j + 1, by omega, by go_num, by rw [Hzb.out, if_pos Hx0.out]; go_num, by rw [← Hone.out, Hof.out, Hm.out], ?_, ?_⟩
              · have q := (Hown.out.set Hpl.out j x).set (by rw [List.length_set]; exact Hpl.out) j 1
                rw [List.set_set] at q
                have e := Hsucc.out
                rw [Hof.out, Hm.out] at e
                rw [e] at q
                exact q
              · exact (Hbel.out.setCell (p := ⟨gg, j, none⟩) hge _).setCell (p := ⟨gg, j, none⟩) hge _
            case measure => simp [intOf]; omega
          · have hb0 : (x == 0) = false := by simp [hx0]
            have Hx0 := Lib.hid hx0
            have Hm := Lib.hid (show max x 1 = x by simp only [Int.max_def]; split <;> omega)
            clear hx0
            go_wp2
            go_roundw
            case rel =>
              refine ⟨j + 1, by omega, by go_num, by rw [Hzb.out, if_neg Hx0.out], by rw [← Hone.out, Hof.out, Hm.out], ?_, ?_⟩
              · have q := (Hown.out.set Hpl.out j x)
                have e := Hsucc.out
                rw [Hof.out, Hm.out] at e
                rw [e] at q
                exact q
              · exact (Hbel.out.setCell (p := ⟨gg, j, none⟩) hge _)
            case measure => simp [intOf]; omega
        · have hjn : j = ws.length := by omega
          subst hjn
          have hone0 : OwnI wr w.heap.size (.slice (some ⟨gg, 0, none⟩) ws.length ws.length) (rangeL (oneF ws) ws.length) := by
            have := Hown.out
            rw [partL_all _ _ _ (by simp) (by simp)] at this
            simpa [rangeL] using this
          have Hone0 := Lib.hid hone0
          clear hone0 Hown
          have Hsum := Lib.hid (show needOf ws = sb ws ws.length + zb ws ws.length from rfl)
          rw [← Hsum.out]
          have hnd : 0 ≤ needOf ws ∧ needOf ws ≤ 2000 := by rw [Hsum.out]; omega
          obtain ⟨nd1, nd2⟩ := hnd
          obtain ⟨w9, hw9⟩ : ∃ w9, w9 = wr := ⟨_, rfl⟩
          have hsh := Hsh.out
          clear hw9 hsb hzj
          go_wp2_with fail
          have Hlap0 := Lib.hid (show rangeL (oneF ws) ws.length = rangeL (lapF ws 0 0) ws.length from rangeL_congr _ _ _ fun k hk => by
            have := Hws.out k
            simp only [oneF, lapF]
            by_cases h0 : ws.getD k 0 = 0
            · rw [if_pos h0, h0]; simp [Int.max_def]
            · rw [if_neg h0, Int.max_def]; split <;> omega)
          go_loopw [12, 14] (fun su _ wr => ∃ q r : Nat, r ≤ zb ws ws.length ∧ su = .int .i64 (needOf ws + (q * zb ws ws.length + r : Nat)) ∧ needOf ws + ((q * zb ws ws.length + r : Nat) : Int) ≤ wide - ((ws.length : Int) - 1) ∧ (r = 0 ∨ needOf ws + ((q * zb ws ws.length + r : Nat) : Int) = wide - ((ws.length : Int) - 1)) ∧ (zb ws ws.length = 0 → q = 0) ∧
              OwnI wr w.heap.size (.slice (some ⟨gg, 0, none⟩) ws.length ws.length) (rangeL (lapF ws q r) ws.length) ∧ Below w.heap.size w wr) (fun su _ _ => (wide - ((ws.length : Int) - 1) - intOf su).toNat)
          case atStart => exact ⟨0, 0, Nat.zero_le _, by simp, by simpa using hsh, .inl rfl, fun _ => rfl, by rw [← Hlap0.out]; exact Hone0.out, Hbel.out⟩
          case round =>
            obtain ⟨q, r, hrz, rfl, hle, hor, hq0, hown, hbel⟩ := hrel
            have Hown := Lib.hid hown
            have Hbel2 := Lib.hid hbel
            have Hle := Lib.hid hle
            have Hor := Lib.hid hor
            have Hq0 := Lib.hid hq0
            have HT := Lib.hid (show needOf ws + ((q * zb ws ws.length + r : Nat) : Int) = needOf ws + ((q * zb ws ws.length + r : Nat) : Int) from rfl)
            obtain ⟨S, hS⟩ : ∃ S, S = needOf ws + ((q * zb ws ws.length + r : Nat) : Int) := ⟨_, rfl⟩
            rw [← hS] at hle
            rw [← hS]
            have HS := Lib.hid hS
            have S0 : 0 ≤ S := by omega
            clear hS hown hbel hor hq0
            by_cases hcond : S < wide - ((ws.length : Int) - 1) ∧ 0 < zb ws ws.length
            · obtain ⟨hc1, hc2⟩ := hcond
              have hr0 : r = 0 := by have h1 := Hor.out; have h2 := HS.out; rcases h1 with h | h; exact h; omega
              subst hr0
              go_wp2_with fail
              obtain ⟨wo, rfl⟩ : ∃ wo : World, wo = wr := ⟨_, rfl⟩
              go_loopw [12, 14] (fun su i wr => ∃ j : Nat, j ≤ ws.length ∧ i = .int .i64 j ∧ su = .int .i64 (S + zb ws j) ∧ S + (zb ws j : Int) ≤ wide - ((ws.length : Int) - 1) ∧ OwnI wr w.heap.size (.slice (some ⟨gg, 0, none⟩) ws.length ws.length) (rangeL (lapF ws q (zb ws j)) ws.length) ∧ Below w.heap.size w wr) (fun _ i _ => ws.length - (intOf i).toNat)
              case atStart => exact ⟨0, Nat.zero_le _, rfl, by simp [zb], by simp [zb]; omega, Hown.out, Hbel2.out⟩
              case round =>
                obtain ⟨j, hj, rfl, rfl, hle2, hown, hbel⟩ := hrel
                have Hown3 := Lib.hid hown
                have Hbel3 := Lib.hid hbel
                have hzj := zb_le ws j
                clear hown hbel
                by_cases hmore : j < ws.length ∧ S + (zb ws j : Int) < wide - ((ws.length : Int) - 1)
                · obtain ⟨hm1, hm2⟩ := hmore
                  have hpl : ws.length = (rangeL (lapF ws q (zb ws j)) ws.length).length := by simp [rangeL]
                  have c1 := Hown3.out.cell hpl j hm1
                  have cf := Hown3.out.fz hpl
                  have hgw : gg < wr.heap.size := World.block_lt_of_cell? wr _ c1
                  have c0 : wr.cell? ⟨b, off + j, none⟩ = some (.int .i64 (ws.getD j 0)) := by rw [Hbel3.out.cell (p := ⟨b, off + j, none⟩) hbw]; exact Hat.out j hm1
                  rw [rangeL_getD _ _ _ hm1] at c1
                  have Hpl := Lib.hid hpl
                  have Hstep := Lib.hid (lap_step ws q j hm1)
                  have Hskip := Lib.hid (lap_skip ws j)
                  have Hz1 := Lib.hid (show ws.getD j 0 = 0 → zb ws (j + 1) = zb ws j + 1 from fun h => by simp only [zb, h, if_true])
                  have hval : lapF ws q (zb ws j) j ≤ 1000 ∧ 0 ≤ lapF ws q (zb ws j) j := by
                    have h1 := Hle.out
                    have h2 := Hws.out j
                    have h3 : q ≤ q * zb ws ws.length := Nat.le_mul_of_pos_right q hc2
                    simp only [lapF]
                    split
                    · split <;> omega
                    · omega
                  obtain ⟨vl1, vl2⟩ := hval
                  have hx := Hws.out j
                  generalize ws.getD j 0 = x at *
                  generalize lapF ws q (zb ws j) j = y at *
                  obtain ⟨x1, x2⟩ := hx
                  clear hpl
                  by_cases hx0 : x = 0
                  · have hb0 : (x == 0) = true := by simp [hx0]
                    have Hx0 := Lib.hid hx0
                    clear hx0
                    go_wp2
                    go_roundw
                    case rel =>
                      refine ⟨j + 1, by omega, by go_num, by rw [Hz1.out Hx0.out]; go_num, by rw [Hz1.out Hx0.out]; omega, ?_, Hbel3.out.setCell (p := ⟨gg, j, none⟩) hge _⟩
                      have q1 := Hown3.out.set Hpl.out j (y + 1)
                      rw [Hstep.out Hx0.out] at q1
                      exact q1
                    case measure => simp [intOf]; omega
                  · have hb0 : (x == 0) = false := by simp [hx0]
                    have Hx0 := Lib.hid hx0
                    clear hx0
                    go_wp2
                    go_roundw
                    case rel => exact ⟨j + 1, by omega, by go_num, by rw [Hskip.out Hx0.out], by rw [Hskip.out Hx0.out]; omega, by rw [Hskip.out Hx0.out]; exact Hown3.out, Hbel3.out⟩
                    case measure => simp [intOf]; omega
                · have Hfin := Lib.hid (show ∃ q' r' : Nat, r' ≤ zb ws ws.length ∧ S + (zb ws j : Int) = needOf ws + ((q' * zb ws ws.length + r' : Nat) : Int) ∧ (r' = 0 ∨ S + (zb ws j : Int) = wide - ((ws.length : Int) - 1)) ∧ rangeL (lapF ws q (zb ws j)) ws.length = rangeL (lapF ws q' r') ws.length ∧ S < S + (zb ws j : Int) from by
                    have h1 := HS.out
                    rcases Nat.lt_or_ge j ws.length with h | h
                    · have hx : S + (zb ws j : Int) = wide - ((ws.length : Int) - 1) := by
                        rcases Int.lt_or_le (S + (zb ws j : Int)) (wide - ((ws.length : Int) - 1)) with h2 | h2
                        · exact absurd ⟨h, h2⟩ hmore
                        · omega
                      exact ⟨q, zb ws j, zb_mono ws j ws.length (by omega), by omega, .inr hx, rfl, by omega⟩
                    · have hjn : j = ws.length := by omega
                      subst hjn
                      refine ⟨q + 1, 0, Nat.zero_le _, ?_, .inl rfl, lap_wrap ws q, by omega⟩
                      rw [h1, Nat.succ_mul]; omega)
                  have Hm := Lib.hid hmore
                  have Hdec := Lib.hid hle2
                  by_cases hjl : j < ws.length
                  · have hns : ¬ S + (zb ws j : Int) < wide - ((ws.length : Int) - 1) := fun h => hmore ⟨hjl, h⟩
                    clear hmore
                    go_wp2
                    go_roundw
                    case rel =>
                      obtain ⟨q', r', a1, a2, a3, a4, a5⟩ := Hfin.out
                      refine ⟨q', r', a1, by rw [a2], by rw [← a2]; exact Hdec.out, by rw [← a2]; exact a3, fun h => by omega, by rw [← a4]; exact Hown3.out, Hbel3.out⟩
                    case measure => have := Hfin.out; obtain ⟨q', r', a1, a2, a3, a4, a5⟩ := this; simp [intOf]; omega
                  · clear hmore
                    go_wp2
                    go_roundw
                    case rel =>
                      obtain ⟨q', r', a1, a2, a3, a4, a5⟩ := Hfin.out
                      refine ⟨q', r', a1, by rw [a2], by rw [← a2]; exact Hdec.out, by rw [← a2]; exact a3, fun h => by omega, by rw [← a4]; exact Hown3.out, Hbel3.out⟩
                    case measure => have := Hfin.out; obtain ⟨q', r', a1, a2, a3, a4, a5⟩ := this; simp [intOf]; omega
            · have HL0 := Lib.hid (show rangeL (lapF ws q r) ws.length = shareOf ws (wide - ((ws.length : Int) - 1)) from by
                unfold shareOf
                rw [if_pos hsh]
                have h1 := HS.out
                by_cases hz : 0 < zb ws ws.length
                · have hSr : S = wide - ((ws.length : Int) - 1) := by
                    rcases Int.lt_or_le S (wide - ((ws.length : Int) - 1)) with h2 | h2
                    · exact absurd ⟨h2, hz⟩ hcond
                    · omega
                  rw [lap_even ws q r hrz hz]
                  congr 1
                  congr 1
                  rw [Hsum.out] at h1
                  omega
                · have hq := Hq0.out (by omega)
                  refine rangeL_congr _ _ _ fun k hk => ?_
                  have : ws.getD k 0 ≠ 0 := fun h0 => by have := zb_lt ws k ws.length hk h0; omega
                  simp only [lapF, evenF, if_neg this])
              obtain ⟨l, hl⟩ : ∃ l, l = shareOf ws (wide - ((ws.length : Int) - 1)) := ⟨_, rfl⟩
              obtain ⟨w2, hw2⟩ : ∃ w2, w2 = wr := ⟨_, rfl⟩
              have Hown := Lib.hid (show OwnI w2 w.heap.size (.slice (some ⟨gg, 0, none⟩) ws.length ws.length) l by rw [hl, hw2, ← HL0.out]; exact Hown.out)
              have HL := Lib.hid hl
              have Hl := Lib.hid (show l.length = ws.length by rw [hl]; exact Hshl.out)
              have Hlb := Lib.hid (show ∀ k, -2000 ≤ l.getD k 0 ∧ l.getD k 0 ≤ 2000 by rw [hl]; exact Hshb.out)
              have Hb2 := Lib.hid (show Below w.heap.size w w2 by rw [hw2]; exact Hbel2.out)
              have hz2' : w.heap.size ≤ w2.heap.size := Hb2.out.size
              have hgl : gg < w2.heap.size := (World.ownsRow.lt Hown.out gg rfl).2
              have hdone : ¬ wide - ((ws.length : Int) - 1) < S := by omega
              rw [← hw2]
              clear hl hw2
              by_cases hS1 : S < wide - ((ws.length : Int) - 1)
              all_goals
                go_wp2_with fail
                refine wp_loop_once ?_
                go_wp2_with fail
                go_loopw [17, 18, 19] (fun o at_ i wr => ∃ j : Nat, j ≤ ws.length ∧ i = .int .i64 j ∧ at_ = .int .i64 (atOf 1 l j) ∧ (∃ av cv, o = .slice av j cv ∧ wr.ownsRow w2.heap.size 59 2 (.slice av j cv) j (colCells (colsP 1 l j))) ∧ Below w2.heap.size w2 wr) (fun _ _ i _ => ws.length - (intOf i).toNat)
                case atStart => exact ⟨0, Nat.zero_le _, rfl, rfl, ⟨none, 0, rfl, World.ownsRow_nil _ _ _ _⟩, Below.refl _ _⟩
                case round =>
                  obtain ⟨j, hj, rfl, rfl, ⟨av, cv, rfl, hrow⟩, hbel⟩ := hrel
                  have Hrow := Lib.hid hrow
                  have Hbel9 := Lib.hid hbel
                  have hwr : w2.heap.size ≤ wr.heap.size := hbel.size
                  clear hrow hbel
                  by_cases hlj : j < ws.length
                  · have c0 : wr.cell? ⟨gg, j, none⟩ = some (.int .i64 (l.getD j 0)) := by rw [Hbel9.out.cell (p := ⟨gg, j, none⟩) hgl]; exact OwnI.cell Hown.out Hl.out.symm j hlj
                    have hx := Hlb.out j
                    have hat := atOf_bd (gap := 1) (by omega) Hlb.out j
                    have Hnext := Lib.hid (show colsP 1 l (j + 1) = colsP 1 l j ++ [(atOf 1 l j, l.getD j 0)] from rfl)
                    have Hnat := Lib.hid (show atOf 1 l (j + 1) = atOf 1 l j + (l.getD j 0 + 1) from rfl)
                    have hggr : gg < wr.heap.size := by omega
                    generalize atOf 1 l j = at_ at *
                    generalize l.getD j 0 = x at *
                    generalize colsP 1 l j = cs at *
                    obtain ⟨x1, x2⟩ := hx
                    obtain ⟨at1, at2⟩ := hat
                    have at3 : -20000 ≤ at_ := by omega
                    have at4 : at_ ≤ 20000 := by omega
                    go_wp2_with (at_builtin; go_loud (refine wpList_append_lies _ rfl (.tmp 156) (.tmp 163) 34 rfl w2.heap.size 59 i0 _ 2 16 Try.underlying34 hi0 hz0 hz1 hz2 rfl (by omega) (.slice av j cv) j (colCells cs) rfl (Hrow.out.alloc _) ⟨wr.heap.size, 0, none⟩ 1 1 [.int .i64 at_, .int .i64 x] rfl rfl (World.news_of_block (cs := #[.int .i64 at_, .int .i64 x]) (t := 59) (fr := (0, 0)) (heap_alloc_new wr _)) (by simp [Value.oneCell']) (by omega) (by unfold maxLen; omega) (by omega) (by simp; omega) (wr.heap.size + 1) (by simp) ?_); intro gg3 cap3 w3 hown hgrow hat3 hlt3; go_loud (have hne3 : (some gg : Option Nat) ≠ (Value.slice av j cv).ownBlock := (fun e => absurd (Hrow.out.lt gg e.symm).1 (Nat.not_le.2 hgl))); go_loud (have c3 := hgrow.cell_far ⟨gg, j, none⟩ (by simp; omega) hne3); (try simp [c0] at c3); have Hg3 := Lib.hid hgrow; clear hgrow; have Ho := Lib.hid hown; clear hown)
                    go_roundw
                    case rel =>
                      refine ⟨j + 1, by omega, by go_num, (by rw [Hnat.out]; try (first | rfl | (congr 1; omega))), ⟨some ⟨gg3, 0, none⟩, cap3, rfl, ?_⟩, (Hbel9.out.alloc hwr _).grown Hg3.out (by simp; omega) fun m hm => (Hrow.out.lt m hm).1⟩
                      rw [Hnext.out, colCells_append]; exact Ho.out
                    case measure => simp [intOf]; omega
                  · go_wp2
                    go_ret2
                    have hjn : j = ws.length := by omega
                    subst hjn
                    refine ⟨_, by rw [Hcol.out]; rfl, ?_, Hb2.out.trans (Hbel9.out.mono hz2')⟩
                    rw [Hcol.out]
                    have h := Hrow.out
                    rw [HL.out] at h
                    refine ⟨?_, ?_⟩
                    · rw [colsP_length]; exact h.1
                    · rw [colsP_length]
                      rcases h.2 with h' | ⟨g, cap, cur, e1, e2, e3⟩
                      · exact .inl h'
                      · exact .inr ⟨g, cap, cur, e1, by omega, e3⟩

set_option maxRecDepth 100000 in
set_option maxHeartbeats 4000000 in
theorem rcols_11 (b off c : Nat) (ws : List Int) (wide : Int) (w : World) (hat : IntAt w b off ws) (h10 : 10 ≤ wide) (h200 : wide ≤ 200) (h1 : 1 ≤ ws.length) (h8 : ws.length ≤ 8) (hbad : badW ws = false)
    (hg : ¬ wide - ((ws.length : Int) - 1) < ws.length) (hsh : ¬ needOf ws ≤ roomOf ws.length wide) :
    Calls Try.prog 17 #[.slice (some ⟨b, off, none⟩) ws.length c, .int .i64 wide] w fun e w' => ColRes (columnsOf ws wide) w e w' := by
  obtain ⟨i0, hi0, hz0, hz1, hz2⟩ := info_parts info59
  obtain ⟨j0, hj0, hy0, hy1, hy2⟩ := info_parts info3
  have hws := badW_get hbad
  have hr : ¬ (wide < 10 ∨ 200 < wide ∨ ws.length < 1 ∨ 8 < ws.length) := by omega
  obtain ⟨rm1, rm2, gp1, gp2⟩ := roomOf_bd h1 h8 h10 h200
  have hg0 : gapOf ws.length wide = 1 := by unfold gapOf; rw [if_neg hg]
  have hroom : roomOf ws.length wide = wide - ((ws.length : Int) - 1) := by unfold roomOf; rw [hg0]; omega
  have Hcol := Lib.hid (show columnsOf ws wide = (colsP 1 (shareOf ws (wide - ((ws.length : Int) - 1))) ws.length, 0) by unfold columnsOf; rw [if_neg hr, if_neg (by rw [hbad]; simp), hg0, hroom])
  rw [hroom] at hsh rm1 rm2
  have Hshb := Lib.hid (shareOf_bd hws h8 rm1 rm2)
  have Hshl := Lib.hid (shareOf_length ws (wide - ((ws.length : Int) - 1)))
  have Hsh := Lib.hid hsh
  have Hws := Lib.hid hws
  have Hat := Lib.hid hat
  have hbw := hat.lt (by omega)
  have hsbn := sb_bd hws ws.length
  have hzbn := zb_le ws ws.length
  clear hat hbad hws hr hg0 hroom hsh
  go_enter Try.func17, Try.ntmps17
  go_wp2
  go_loop [7] (fun i => ∃ k : Nat, k ≤ ws.length ∧ i = .int .i64 k) (fun i => ws.length - (intOf i).toNat)
  case atStart => exact ⟨0, Nat.zero_le _, rfl⟩
  case round =>
    obtain ⟨k, hk, rfl⟩ := hrel
    by_cases hlt : k < ws.length
    · have c0 := Hat.out k hlt
      have hx := Hws.out k
      generalize ws.getD k 0 = x at *
      obtain ⟨x1, x2⟩ := hx
      go_wp2
      go_round
      case rel => exact ⟨k + 1, by omega, by go_num⟩
      case measure => simp [intOf]; omega
    · go_wp2_with (at_make; go_loud (refine wpList_make_full _ rfl (.tmp 65) (.tmp 65) 33 rfl w.heap.size 3 j0 _ 1 Try.underlying33 hj0 hy0 hy1 .i64 .i64 (ws.length : Int) (ws.length : Int) ws.length rfl rfl rfl rfl (by rw [hy2]; omega) (by unfold maxLen; omega) (Nat.le_refl _) ?_); intro w1 hown hgrow; have Ho := Lib.hid (show OwnI w1 w.heap.size (.slice (some ⟨w.heap.size, 0, none⟩) ws.length ws.length) (List.replicate ws.length 0) by unfold OwnI; rw [List.length_replicate, List.map_replicate]; have h := hown; rw [show (Value.int .i64 0).cells = #[.int .i64 0] from rfl, toList_madeCells_one, Nat.mul_one] at h; exact h); have Hb := Lib.hid ((Below.refl w.heap.size w).grown hgrow (Nat.le_refl _) (fun k hk => by cases hk)); clear hown hgrow)
      obtain ⟨gg, hgg⟩ : ∃ gg, gg = w.heap.size := ⟨_, rfl⟩
      have Ho2 := Lib.hid (show OwnI w1 w.heap.size (.slice (some ⟨gg, 0, none⟩) ws.length ws.length) (List.replicate ws.length 0) by rw [hgg]; exact Ho.out)
      rw [← hgg]
      have Hgg := Lib.hid hgg
      have hge : w.heap.size ≤ gg := by omega
      clear hgg Ho
      go_loopw [11, 12, 13] (fun fr su i wr => ∃ j : Nat, j ≤ ws.length ∧ i = .int .i64 j ∧ fr = .int .i64 (zb ws j) ∧ su = .int .i64 (sb ws j + zb ws j) ∧ OwnI wr w.heap.size (.slice (some ⟨gg, 0, none⟩) ws.length ws.length) (partL (oneF ws) (List.replicate ws.length 0) j) ∧ Below w.heap.size w wr) (fun _ _ i _ => ws.length - (intOf i).toNat)
      case atStart => exact ⟨0, Nat.zero_le _, rfl, rfl, rfl, by rw [partL_zero]; exact Ho2.out, Hb.out⟩
      case round =>
        obtain ⟨j, hj, rfl, rfl, rfl, hown, hbel⟩ := hrel
        have Hown := Lib.hid hown
        have Hbel := Lib.hid hbel
        have hsb := sb_bd Hws.out j
        have hzj := zb_le ws j
        clear hown hbel
        by_cases hlj : j < ws.length
        · have hpl : ws.length = (partL (oneF ws) (List.replicate ws.length 0) j).length := by rw [partL_length _ _ _ (by simp; omega)]; simp
          have c1 := Hown.out.cell hpl j hlj
          have cf := Hown.out.fz hpl
          have hgw : gg < wr.heap.size := World.block_lt_of_cell? wr _ c1
          have c0 : wr.cell? ⟨b, off + j, none⟩ = some (.int .i64 (ws.getD j 0)) := by rw [Hbel.out.cell (p := ⟨b, off + j, none⟩) hbw]; exact Hat.out j hlj
          have hbg : b < gg := by omega
          have Hpl := Lib.hid hpl
          have Hsucc := Lib.hid (partL_succ (oneF ws) (List.replicate ws.length 0) j (by simp; omega))
          have Hone := Lib.hid (sb_one Hws.out j)
          have Hof := Lib.hid (show oneF ws j = max (ws.getD j 0) 1 from rfl)
          have Hzb := Lib.hid (show zb ws (j + 1) = if ws.getD j 0 = 0 then zb ws j + 1 else zb ws j from rfl)
          have hx := Hws.out j
          generalize hsu : sb ws j + (zb ws j : Int) = su at *
          have hsu0 : 0 ≤ su ∧ su ≤ 2000 := by omega
          obtain ⟨su1, su2⟩ := hsu0
          have Hsu := Lib.hid hsu
          generalize (partL (oneF ws) (List.replicate ws.length 0) j).getD j 0 = y at *
          clear hpl hsb hsu
          generalize ws.getD j 0 = x at *
          obtain ⟨x1, x2⟩ := hx
          by_cases hx0 : x = 0
          · have hb0 : (x == 0) = true := by simp [hx0]
            have Hx0 := Lib.hid hx0
            have Hm := Lib.hid (show max x 1 = 1 by simp only [Int.max_def]; split <;> omega)
            clear hx0
            go_wp2
            go_roundw
            case rel =>
              refine ⟨j + 1, by omega, by go_num, by rw [Hzb.out, if_pos Hx0.out]; go_num, by rw [← Hone.out, Hof.out, Hm.out], ?_, ?_⟩
              · have q := (Hown.out.set Hpl.out j x).set (by rw [List.length_set]; exact Hpl.out) j 1
                rw [List.set_set] at q
                have e := Hsucc.out
                rw [Hof.out, Hm.out] at e
                rw [e] at q
                exact q
              · exact (Hbel.out.setCell (p := ⟨gg, j, none⟩) hge _).setCell (p := ⟨gg, j, none⟩) hge _
            case measure => simp [intOf]; omega
          · have hb0 : (x == 0) = false := by simp [hx0]
            have Hx0 := Lib.hid hx0
            have Hm := Lib.hid (show max x 1 = x by simp only [Int.max_def]; split <;> omega)
            clear hx0
            go_wp2
            go_roundw
            case rel =>
              refine ⟨j + 1, by omega, by go_num, by rw [Hzb.out, if_neg Hx0.out], by rw [← Hone.out, Hof.out, Hm.out], ?_, ?_⟩
              · have q := (Hown.out.set Hpl.out j x)
                have e := Hsucc.out
                rw [Hof.out, Hm.out] at e
                rw [e] at q
                exact q
              · exact (Hbel.out.setCell (p := ⟨gg, j, none⟩) hge _)
            case measure => simp [intOf]; omega
        · have hjn : j = ws.length := by omega
          subst hjn
          have hone0 : OwnI wr w.heap.size (.slice (some ⟨gg, 0, none⟩) ws.length ws.length) (rangeL (oneF ws) ws.length) := by
            have := Hown.out
            rw [partL_all _ _ _ (by simp) (by simp)] at this
            simpa [rangeL] using this
          have Hone0 := Lib.hid hone0
          clear hone0 Hown
          have Hsum := Lib.hid (show needOf ws = sb ws ws.length + zb ws ws.length from rfl)
          rw [← Hsum.out]
          have hnd : 0 ≤ needOf ws ∧ needOf ws ≤ 2000 := by rw [Hsum.out]; omega
          obtain ⟨nd1, nd2⟩ := hnd
          obtain ⟨w9, hw9⟩ : ∃ w9, w9 = wr := ⟨_, rfl⟩
          have hsh := Hsh.out
          clear hw9 hsb hzj
          go_wp2_with fail
          have hsh' : wide - ((ws.length : Int) - 1) < needOf ws := by have := Hsh.out; omega
          have Hres := Lib.hid (show shareOf ws (wide - ((ws.length : Int) - 1)) = itL (needOf ws - (wide - ((ws.length : Int) - 1))).toNat (rangeL (oneF ws) ws.length) by unfold shareOf; rw [if_neg (by have := Hsh.out; omega)])
          have Hlen := Lib.hid (show (rangeL (oneF ws) ws.length).length = ws.length by simp [rangeL])
          have Hone1 := Lib.hid (show ∀ k, 0 ≤ (rangeL (oneF ws) ws.length).getD k 0 ∧ (rangeL (oneF ws) ws.length).getD k 0 ≤ 200 from fun k => by
            by_cases hk : k < ws.length
            · rw [rangeL_getD _ _ _ hk]; have := Hws.out k; simp only [oneF, Int.max_def]; split <;> omega
            · simp [rangeL, List.getD_eq_getElem?_getD, hk])
          generalize rangeL (oneF ws) ws.length = l0 at *
          refine wp_loop_once ?_
          go_wp2_with fail
          go_loopw [12] (fun su wr => ∃ j : Nat, (j : Int) ≤ needOf ws - (wide - ((ws.length : Int) - 1)) ∧ su = .int .i64 (needOf ws - j) ∧ OwnI wr w.heap.size (.slice (some ⟨gg, 0, none⟩) ws.length ws.length) (itL j l0) ∧ Below w.heap.size w wr) (fun su _ => (intOf su - (wide - ((ws.length : Int) - 1))).toNat)
          case atStart => exact ⟨0, by omega, by go_num, Hone0.out, Hbel.out⟩
          case round =>
            obtain ⟨j, hj, rfl, hown, hbel⟩ := hrel
            have Hown := Lib.hid hown
            have Hbel2 := Lib.hid hbel
            clear hown hbel
            by_cases hmore : wide - ((ws.length : Int) - 1) < needOf ws - j
            · have hll := Lib.hid (show ws.length = (itL j l0).length by rw [itL_length]; exact Hlen.out.symm)
              have Hbd := Lib.hid (itL_bd l0 Hone1.out j)
              obtain ⟨wo, rfl⟩ : ∃ wo : World, wo = wr := ⟨_, rfl⟩
              go_wp2_with fail
              go_loopw [15, 16] (fun mo i wr => ∃ k : Nat, k ≤ ws.length ∧ i = .int .i64 k ∧ mo = .int .i64 (mostOf (itL j l0) k) ∧ ∃ m, wr = wo.drewN m) (fun _ i _ => ws.length - (intOf i).toNat)
              case atStart => exact ⟨0, Nat.zero_le _, rfl, rfl, 0, rfl⟩
              case round =>
                obtain ⟨k, hk, rfl, rfl, m, hm⟩ := hrel
                have Hm := Lib.hid hm
                have hmo := mostOf_lt (itL j l0) k ws.length (by omega) hk
                have hown2 : OwnI wr w.heap.size (.slice (some ⟨gg, 0, none⟩) ws.length ws.length) (itL j l0) := by rw [hm]; exact Hown.out.drewN m
                clear hm
                by_cases hkl : k < ws.length
                · have c0 := hown2.cell hll.out k hkl
                  have c1 := hown2.cell hll.out _ hmo
                  have b0 := Hbd.out k
                  have b1 := Hbd.out (mostOf (itL j l0) k)
                  have Hms := Lib.hid (show mostOf (itL j l0) (k + 1) = if (itL j l0).getD (mostOf (itL j l0) k) 0 ≤ (itL j l0).getD k 0 then k else mostOf (itL j l0) k from rfl)
                  generalize mostOf (itL j l0) k = mo at *
                  generalize (itL j l0).getD k 0 = x at *
                  generalize (itL j l0).getD mo 0 = y at *
                  have i1 : (0 : Int) ≤ (k : Int) := by omega
                  have i2 : (k : Int) < (ws.length : Int) := by omega
                  have i3 : (0 : Int) ≤ (mo : Int) := by omega
                  have i4 : (mo : Int) < (ws.length : Int) := by omega
                  clear hown2 b0 b1
                  by_cases hxy : y ≤ x
                  · go_wp2_with fail
                    go_quiet (fail)
                    go_wp2
                    go_roundw
                    case rel => exact ⟨k + 1, by omega, by go_num, by rw [Hms.out, if_pos hxy], m + nq, by rw [Hm.out, World.drewN_drewN]⟩
                    case measure => simp [intOf]; omega
                  · go_wp2_with fail
                    go_quiet (fail)
                    go_wp2
                    go_roundw
                    case rel => exact ⟨k + 1, by omega, by go_num, by rw [Hms.out, if_neg (by omega)], m + nq, by rw [Hm.out, World.drewN_drewN]⟩
                    case measure => simp [intOf]; omega
                · have hkn : k = ws.length := by omega
                  subst hkn
                  have c0 := hown2.cell hll.out _ hmo
                  have cf := hown2.fz hll.out
                  have b0 := Hbd.out (mostOf (itL j l0) ws.length)
                  have Hset := Lib.hid (fun x => hown2.set hll.out (mostOf (itL j l0) ws.length) x)
                  have Hdec := Lib.hid (show itL (j + 1) l0 = (itL j l0).set (mostOf (itL j l0) ws.length) ((itL j l0).getD (mostOf (itL j l0) ws.length) 0 - 1) by show decL (itL j l0) = _; unfold decL; rw [← hll.out])
                  have hbwr := Lib.hid (show Below w.heap.size w wr by rw [Hm.out]; exact below_drewN Hbel2.out m)
                  generalize mostOf (itL j l0) ws.length = mo at *
                  generalize (itL j l0).getD mo 0 = x at *
                  clear hown2
                  go_wp2
                  go_roundw
                  case rel => exact ⟨j + 1, by omega, by go_num, by rw [Hdec.out]; exact Hset.out _, hbwr.out.setCell (p := ⟨gg, mo, none⟩) hge _⟩
                  case measure => simp [intOf]; omega
            · have HL0 := Lib.hid (show itL j l0 = shareOf ws (wide - ((ws.length : Int) - 1)) from by rw [Hres.out, show (needOf ws - (wide - ((ws.length : Int) - 1))).toNat = j by omega])
              obtain ⟨l, hl⟩ : ∃ l, l = shareOf ws (wide - ((ws.length : Int) - 1)) := ⟨_, rfl⟩
              obtain ⟨w2, hw2⟩ : ∃ w2, w2 = wr := ⟨_, rfl⟩
              have Hown := Lib.hid (show OwnI w2 w.heap.size (.slice (some ⟨gg, 0, none⟩) ws.length ws.length) l by rw [hl, hw2, ← HL0.out]; exact Hown.out)
              have HL := Lib.hid hl
              have Hl := Lib.hid (show l.length = ws.length by rw [hl]; exact Hshl.out)
              have Hlb := Lib.hid (show ∀ k, -2000 ≤ l.getD k 0 ∧ l.getD k 0 ≤ 2000 by rw [hl]; exact Hshb.out)
              have Hb2 := Lib.hid (show Below w.heap.size w w2 by rw [hw2]; exact Hbel2.out)
              have hz2' : w.heap.size ≤ w2.heap.size := Hb2.out.size
              have hgl : gg < w2.heap.size := (World.ownsRow.lt Hown.out gg rfl).2
              rw [← hw2]
              clear hl hw2
              go_wp2_with fail
              go_loopw [17, 18, 19] (fun o at_ i wr => ∃ j : Nat, j ≤ ws.length ∧ i = .int .i64 j ∧ at_ = .int .i64 (atOf 1 l j) ∧ (∃ av cv, o = .slice av j cv ∧ wr.ownsRow w2.heap.size 59 2 (.slice av j cv) j (colCells (colsP 1 l j))) ∧ Below w2.heap.size w2 wr) (fun _ _ i _ => ws.length - (intOf i).toNat)
              case atStart => exact ⟨0, Nat.zero_le _, rfl, rfl, ⟨none, 0, rfl, World.ownsRow_nil _ _ _ _⟩, Below.refl _ _⟩
              case round =>
                obtain ⟨j, hj, rfl, rfl, ⟨av, cv, rfl, hrow⟩, hbel⟩ := hrel
                have Hrow := Lib.hid hrow
                have Hbel9 := Lib.hid hbel
                have hwr : w2.heap.size ≤ wr.heap.size := hbel.size
                clear hrow hbel
                by_cases hlj : j < ws.length
                · have c0 : wr.cell? ⟨gg, j, none⟩ = some (.int .i64 (l.getD j 0)) := by rw [Hbel9.out.cell (p := ⟨gg, j, none⟩) hgl]; exact OwnI.cell Hown.out Hl.out.symm j hlj
                  have hx := Hlb.out j
                  have hat := atOf_bd (gap := 1) (by omega) Hlb.out j
                  have Hnext := Lib.hid (show colsP 1 l (j + 1) = colsP 1 l j ++ [(atOf 1 l j, l.getD j 0)] from rfl)
                  have Hnat := Lib.hid (show atOf 1 l (j + 1) = atOf 1 l j + (l.getD j 0 + 1) from rfl)
                  have hggr : gg < wr.heap.size := by omega
                  generalize atOf 1 l j = at_ at *
                  generalize l.getD j 0 = x at *
                  generalize colsP 1 l j = cs at *
                  obtain ⟨x1, x2⟩ := hx
                  obtain ⟨at1, at2⟩ := hat
                  have at3 : -20000 ≤ at_ := by omega
                  have at4 : at_ ≤ 20000 := by omega
                  go_wp2_with (at_builtin; go_loud (refine wpList_append_lies _ rfl (.tmp 156) (.tmp 163) 34 rfl w2.heap.size 59 i0 _ 2 16 Try.underlying34 hi0 hz0 hz1 hz2 rfl (by omega) (.slice av j cv) j (colCells cs) rfl (Hrow.out.alloc _) ⟨wr.heap.size, 0, none⟩ 1 1 [.int .i64 at_, .int .i64 x] rfl rfl (World.news_of_block (cs := #[.int .i64 at_, .int .i64 x]) (t := 59) (fr := (0, 0)) (heap_alloc_new wr _)) (by simp [Value.oneCell']) (by omega) (by unfold maxLen; omega) (by omega) (by simp; omega) (wr.heap.size + 1) (by simp) ?_); intro gg3 cap3 w3 hown hgrow hat3 hlt3; go_loud (have hne3 : (some gg : Option Nat) ≠ (Value.slice av j cv).ownBlock := (fun e => absurd (Hrow.out.lt gg e.symm).1 (Nat.not_le.2 hgl))); go_loud (have c3 := hgrow.cell_far ⟨gg, j, none⟩ (by simp; omega) hne3); (try simp [c0] at c3); have Hg3 := Lib.hid hgrow; clear hgrow; have Ho := Lib.hid hown; clear hown)
                  go_roundw
                  case rel =>
                    refine ⟨j + 1, by omega, by go_num, (by rw [Hnat.out]; try (first | rfl | (congr 1; omega))), ⟨some ⟨gg3, 0, none⟩, cap3, rfl, ?_⟩, (Hbel9.out.alloc hwr _).grown Hg3.out (by simp; omega) fun m hm => (Hrow.out.lt m hm).1⟩
                    rw [Hnext.out, colCells_append]; exact Ho.out
                  case measure => simp [intOf]; omega
                · go_wp2
                  go_ret2
                  have hjn : j = ws.length := by omega
                  subst hjn
                  refine ⟨_, by rw [Hcol.out]; rfl, ?_, Hb2.out.trans (Hbel9.out.mono hz2')⟩
                  rw [Hcol.out]
                  have h := Hrow.out
                  rw [HL.out] at h
                  refine ⟨?_, ?_⟩
                  · rw [colsP_length]; exact h.1
                  · rw [colsP_length]
                    rcases h.2 with h' | ⟨g, cap, cur, e1, e2, e3⟩
                    · exact .inl h'
                    · exact .inr ⟨g, cap, cur, e1, by omega, e3⟩

set_option maxRecDepth 100000 in
set_option maxHeartbeats 400000 in
theorem rcols_range (a : Option Addr) (n : Nat) (c : Nat) (wide : Int) (w : World) (hn : n ≤ 9223372036854775807) (h : wide < 10 ∨ 200 < wide ∨ n < 1 ∨ 8 < n) :
    Calls Try.prog 17 #[.slice a n c, .int .i64 wide] w fun e w' => ColRes ([], 1) w e w' := by
  by_cases h1 : wide < 10
  · go_enter Try.func17, Try.ntmps17
    go_wp2
    go_ret2
    exact ⟨_, rfl, World.ownsRow_nil _ _ _ _, Below.refl _ _⟩
  · by_cases h2 : 200 < wide
    · go_enter Try.func17, Try.ntmps17
      go_wp2
      go_ret2
      exact ⟨_, rfl, World.ownsRow_nil _ _ _ _, Below.refl _ _⟩
    · by_cases h3 : n < 1
      · go_enter Try.func17, Try.ntmps17
        go_wp2
        go_ret2
        exact ⟨_, rfl, World.ownsRow_nil _ _ _ _, Below.refl _ _⟩
      · have h4 : 8 < n := by omega
        go_enter Try.func17, Try.ntmps17
        go_wp2
        go_ret2
        exact ⟨_, rfl, World.ownsRow_nil _ _ _ _, Below.refl _ _⟩

set_option maxRecDepth 100000 in
set_option maxHeartbeats 1000000 in
theorem rcols_bad (b off c : Nat) (ws : List Int) (wide : Int) (w : World) (hat : IntAt w b off ws) (h10 : 10 ≤ wide) (h200 : wide ≤ 200) (h1 : 1 ≤ ws.length) (h8 : ws.length ≤ 8) (hbad : badW ws = true) :
    Calls Try.prog 17 #[.slice (some ⟨b, off, none⟩) ws.length c, .int .i64 wide] w fun e w' => ColRes ([], 1) w e w' := by
  have Hbad := Lib.hid hbad
  have Hat := Lib.hid hat
  clear hat hbad
  go_enter Try.func17, Try.ntmps17
  go_wp2
  go_loop [7] (fun i => ∃ k : Nat, k ≤ ws.length ∧ i = .int .i64 k ∧ badW (ws.take k) = false) (fun i => ws.length - (intOf i).toNat)
  case atStart => exact ⟨0, Nat.zero_le _, rfl, rfl⟩
  case round =>
    obtain ⟨k, hk, rfl, hb⟩ := hrel
    have Hb := Lib.hid hb
    clear hb
    by_cases hlt : k < ws.length
    · have c0 := Hat.out k hlt
      have Hsucc := Lib.hid (badW_succ ws k hlt)
      generalize ws.getD k 0 = x at *
      by_cases hx1 : x < 0
      · go_wp2
        go_ret2
        exact ⟨_, rfl, World.ownsRow_nil _ _ _ _, Below.refl _ _⟩
      · by_cases hx2 : 200 < x
        · go_wp2
          go_ret2
          exact ⟨_, rfl, World.ownsRow_nil _ _ _ _, Below.refl _ _⟩
        · go_wp2
          go_round
          case rel => exact ⟨k + 1, by omega, by go_num, by rw [Hsucc.out, Hb.out]; simp; omega⟩
          case measure => simp [intOf]; omega
    · exfalso
      have h2 := Hb.out
      rw [List.take_of_length_le (by omega), Hbad.out] at h2
      cases h2

theorem rcols_any (v : Value) (ws : List Int) (wide : Int) (w : World) (hv : IntSl w v ws) (hl : ws.length ≤ 9223372036854775807) :
    Calls Try.prog 17 #[v, .int .i64 wide] w fun e w' => ColRes (columnsOf ws wide) w e w' := by
  obtain ⟨a, c, rfl, hat⟩ := hv
  by_cases hr : wide < 10 ∨ 200 < wide ∨ ws.length < 1 ∨ 8 < ws.length
  · unfold columnsOf; rw [if_pos hr]; exact rcols_range a ws.length c wide w hl hr
  obtain ⟨b, off, ha, hat1⟩ := hat 0 (by omega)
  subst ha
  cases hbad : badW ws with
  | true => unfold columnsOf; rw [if_neg hr, if_pos hbad]; exact rcols_bad b off c ws wide w hat1 (by omega) (by omega) (by omega) (by omega) hbad
  | false =>
    by_cases hg : wide - ((ws.length : Int) - 1) < ws.length
    · by_cases hn : needOf ws ≤ roomOf ws.length wide
      · exact rcols_00 b off c ws wide w hat1 (by omega) (by omega) (by omega) (by omega) hbad hg hn
      · exact rcols_01 b off c ws wide w hat1 (by omega) (by omega) (by omega) (by omega) hbad hg hn
    · by_cases hn : needOf ws ≤ roomOf ws.length wide
      · exact rcols_10 b off c ws wide w hat1 (by omega) (by omega) (by omega) (by omega) hbad hg hn
      · exact rcols_11 b off c ws wide w hat1 (by omega) (by omega) (by omega) (by omega) hbad hg hn
end Go.Proofs.Ytepacocajnobgaa
