/- src: topic, key, see. -/
import Derived.Test.YtafhmagifoapfaaGreatDoorInls
namespace Go.Proofs.YtafhmagifoapfaaGreatDoor
open Go.RowKit Find Bk
attribute [local go_sem ↓] Go.wp_at_zero Go.wp_at_succ
theorem info_top : (Tryz.prog.info? 101).map (fun i => (i.zero, i.size, i.bytes)) = some (some (.agg #[.int .i64 0, .string ⟨#[]⟩, .string ⟨#[]⟩, .int .i64 0, .slice none 0 0, .slice none 0 0, .slice none 0 0, .int .i64 0]), 8, 128) := by kernel_rfl
theorem info_key : (Tryz.prog.info? 178).map (fun i => (i.zero, i.size, i.bytes)) = some (some (.agg #[.string ⟨#[]⟩, .string ⟨#[]⟩, .int .i64 0]), 3, 40) := by kernel_rfl
theorem info_see : (Tryz.prog.info? 180).map (fun i => (i.zero, i.size, i.bytes)) = some (some (.agg #[.string ⟨#[]⟩, .string ⟨#[]⟩, .int .i64 0]), 3, 40) := by kernel_rfl
set_option maxHeartbeats 6400000 in
set_option maxRecDepth 100000 in
theorem key_any (B : Nat) (s : PS) (p : PV) (t : Tok) (arg : Wd) (w : World) (h : ParR B w s p) (hB : B ≤ w.heap.size) (hg : Glb w) (hal : arg.length ≤ 1000000) (tp : Top) (ht : s.cur = some tp) (hn : tp.nk ≤ 70) :
    Calls Tryz.prog 37 #[parP p, tokV t, .string ⟨arg.toArray⟩] w (DoPost B p.b p.vm (s.key t arg) w) := by
  have HE := fun c w hc => swrong_any c t w hc
  have HG := Lib.hid hg
  have HX := Lib.hid h
  have hH := fun w hg => halves_any arg [59] w hg hal
  obtain ⟨l1, l2⟩ := cutW_len arg [59]
  have m1 := tidy_len (Lib.cut arg [59]).1
  have m2 := tidy_len (Lib.cut arg [59]).2.1
  unfold halvesF at hH
  simp only at hH
  have hM : s.key t arg = if fitsF (tidyF (Lib.cut arg [59]).1) 64 = false ∨ ((Lib.cut arg [59]).2.2 = true ∧ fitsF (tidyF (Lib.cut arg [59]).2.1) 64 = false) then .error (t.flt 51) else if 64 ≤ tp.nk then .error (t.flt 2) else .ok { s with cur := some { tp with nk := tp.nk + 1 } } := by
    unfold PS.key
    simp only [ht]
  obtain ⟨na, hna⟩ : ∃ x, tidyF (Lib.cut arg [59]).1 = x := ⟨_, rfl⟩
  obtain ⟨nb, hnb⟩ : ∃ x, tidyF (Lib.cut arg [59]).2.1 = x := ⟨_, rfl⟩
  obtain ⟨tw, htw⟩ : ∃ x, (Lib.cut arg [59]).2.2 = x := ⟨_, rfl⟩
  rw [hna, hnb, htw] at hH hM
  rw [hna] at m1
  rw [hnb] at m2
  have HFa := Lib.hid (fun w => fits_any na 64 w (by omega))
  have HFb := Lib.hid (fun w => fits_any nb 64 w (by omega))
  obtain ⟨fa, hfa⟩ : ∃ x, fitsF na 64 = x := ⟨_, rfl⟩
  obtain ⟨fb, hfb⟩ : ∃ x, fitsF nb 64 = x := ⟨_, rfl⟩
  rw [hfa] at HFa hM
  rw [hfb] at HFb hM
  have HH := Lib.hid hH
  have HM := Lib.hid hM
  clear h hg hH hM m1 m2 l1 l2 hna hnb htw hfa hfb hal
  by_cases hbad : fa = false ∨ (tw = true ∧ fb = false)
  · have HP := Lib.hid (show s.key t arg = .error (t.flt 51) from by rw [HM.out, if_pos hbad])
    have hcs : fa = false ∨ (fa = true ∧ tw = true ∧ fb = false) := by rcases hbad with h | ⟨h1, h2⟩; exact .inl h; cases fa; exact .inl rfl; exact .inr ⟨rfl, h1, h2⟩
    clear hbad
    rcases hcs with rfl | ⟨rfl, rfl, rfl⟩
    all_goals
      go_enter Tryz.func37, Tryz.ntmps37
      go_wp2_with (first
        | (go_at_call 85; go_loud (refine (HH.out _ (HG.out.below ((Below.refl _ _).alloc (Nat.le_refl _) _))).mono ?_; rintro e w2 ⟨rfl, hb2⟩; have dt0 : w2.cell? ⟨w.heap.size, 0, none⟩ = some (.int .i64 t.kind) := (hb2.cell (by simp)).trans (by simp); have dt1 : w2.cell? ⟨w.heap.size, 1, none⟩ = some (.string ⟨t.name.toArray⟩) := (hb2.cell (by simp)).trans (by simp); have dt2 : w2.cell? ⟨w.heap.size, 2, none⟩ = some (.string ⟨t.text.toArray⟩) := (hb2.cell (by simp)).trans (by simp); have dt3 : w2.cell? ⟨w.heap.size, 3, none⟩ = some (.int .i64 t.line) := (hb2.cell (by simp)).trans (by simp); have dt4 : w2.cell? ⟨w.heap.size, 4, none⟩ = some (.int .i64 t.col) := (hb2.cell (by simp)).trans (by simp); have HB2 := Lib.hid (((Below.refl w.heap.size w).alloc (Nat.le_refl _) (.cells #[.int .i64 t.kind, .string ⟨t.name.toArray⟩, .string ⟨t.text.toArray⟩, .int .i64 t.line, .int .i64 t.col] 59)).trans (hb2.mono (by simp))); have hsz : w.heap.size < w2.heap.size := Nat.lt_of_lt_of_le (by simp) hb2.size; clear hb2))
        | (go_at_call 86; refine (HFa.out _).mono ?_; rintro e w3 ⟨rfl, rfl⟩; clear HFa)
        | (go_at_call 86; refine (HFb.out _).mono ?_; rintro e w4 ⟨rfl, rfl⟩)
        | (go_at_call 52; refine (HE 51 _ (by decide)).mono ?_; rintro e w9 ⟨v, rfl, hf, hb⟩)
        | fail)
      refine ⟨rfl, ?_⟩
      rw [HP.out]
      exact doErr2 hf ((HB2.out.mono hB).trans (hb.mono (by omega)))
  · have hcs : fa = true ∧ (tw = false ∨ (tw = true ∧ fb = true)) := by cases fa <;> cases tw <;> cases fb <;> simp at hbad ⊢
    have hM2 := HM.out
    rw [if_neg hbad] at hM2
    clear HM hbad
    have HM : Hid (s.key t arg = if (false : Bool) = true then .error (t.flt 51) else if 64 ≤ tp.nk then .error (t.flt 2) else .ok { s with cur := some { tp with nk := tp.nk + 1 } }) := Lib.hid (by rw [hM2]; rfl)
    clear hM2
    obtain ⟨rfl, hcs⟩ := hcs
    rcases hcs with rfl | ⟨rfl, rfl⟩
    all_goals
      by_cases hn64 : 64 ≤ tp.nk
      · have HP := Lib.hid (show s.key t arg = .error (t.flt 2) from by rw [HM.out, if_neg (by decide), if_pos hn64])
        have hd1 : decide ((64 : Int) ≤ (tp.nk : Int)) = true := by rw [decide_eq_true_eq]; omega
        have hd2 : decide (64 ≤ tp.nk) = true := by rw [decide_eq_true_eq]; omega
        clear hn64
        go_enter Tryz.func37, Tryz.ntmps37
        go_wp2_with (first
          | (go_at_call 85; go_loud (refine (HH.out _ (HG.out.below ((Below.refl _ _).alloc (Nat.le_refl _) _))).mono ?_; rintro e w2 ⟨rfl, hb2⟩; have dt0 : w2.cell? ⟨w.heap.size, 0, none⟩ = some (.int .i64 t.kind) := (hb2.cell (by simp)).trans (by simp); have dt1 : w2.cell? ⟨w.heap.size, 1, none⟩ = some (.string ⟨t.name.toArray⟩) := (hb2.cell (by simp)).trans (by simp); have dt2 : w2.cell? ⟨w.heap.size, 2, none⟩ = some (.string ⟨t.text.toArray⟩) := (hb2.cell (by simp)).trans (by simp); have dt3 : w2.cell? ⟨w.heap.size, 3, none⟩ = some (.int .i64 t.line) := (hb2.cell (by simp)).trans (by simp); have dt4 : w2.cell? ⟨w.heap.size, 4, none⟩ = some (.int .i64 t.col) := (hb2.cell (by simp)).trans (by simp); have HB2 := Lib.hid (((Below.refl w.heap.size w).alloc (Nat.le_refl _) (.cells #[.int .i64 t.kind, .string ⟨t.name.toArray⟩, .string ⟨t.text.toArray⟩, .int .i64 t.line, .int .i64 t.col] 59)).trans (hb2.mono (by simp))); have hsz : w.heap.size < w2.heap.size := Nat.lt_of_lt_of_le (by simp) hb2.size; clear hb2))
          | (go_at_call 86; refine (HFa.out _).mono ?_; rintro e w3 ⟨rfl, rfl⟩; clear HFa)
          | (go_at_call 86; refine (HFb.out _).mono ?_; rintro e w4 ⟨rfl, rfl⟩)
          | (go_at_call 28; have hT := topic_any B s p w2 (HX.out.new HB2.out); rw [topP_some ht] at hT; refine hT.mono ?_; rintro e w5 ⟨rfl, rfl⟩; obtain ⟨cap, sn, sti, -, -, d0, d1, d2, d3, d4, d5, d6, d7, df, dl, dB⟩ := top_cells ((HX.out.new HB2.out).top tp ht).1; obtain ⟨xs, hs⟩ := ((HX.out.new HB2.out).top tp ht).2.1; obtain ⟨sa, sc, hv⟩ := owns_slice hs; have HV := Lib.hid hv; have HS := Lib.hid hs; have ag : some p.g ≠ p.vK.ownBlock := (fun e => by obtain ⟨cc, hcc⟩ := owns_kind hs p.g e.symm; obtain ⟨cap', pre, sn', st', q1, q2, q3⟩ := ((HX.out.new HB2.out).top tp ht).1; obtain ⟨c', hc'⟩ := owns_kind q3 p.g (by rw [q1]; rfl); rw [hcc] at hc'; cases hc'); rw [hv] at d4 hs ag; clear hT hv d0 d1 d2 d3 d5 d6 d7)
          | (go_at_call 52; refine (HE 2 _ (by decide)).mono ?_; rintro e w9 ⟨v, rfl, hf, hb⟩)
          | fail)
        refine ⟨rfl, ?_⟩
        rw [HP.out]
        exact doErr2 hf ((HB2.out.mono hB).trans (hb.mono (by omega)))
      · have HP := Lib.hid (show s.key t arg = .ok { s with cur := some { tp with nk := tp.nk + 1 } } from by rw [HM.out, if_neg (by decide), if_neg hn64])
        obtain ⟨i0, hi0, hz0, hz1, hz2⟩ := info_parts info_key
        have hd1 : decide ((64 : Int) ≤ (tp.nk : Int)) = false := by rw [decide_eq_false_iff_not]; omega
        have hd2 : decide (64 ≤ tp.nk) = false := by rw [decide_eq_false_iff_not]; omega
        clear hn64
        go_enter Tryz.func37, Tryz.ntmps37
        go_wp2_with (first
          | (go_at_call 85; go_loud (refine (HH.out _ (HG.out.below ((Below.refl _ _).alloc (Nat.le_refl _) _))).mono ?_; rintro e w2 ⟨rfl, hb2⟩; have dt0 : w2.cell? ⟨w.heap.size, 0, none⟩ = some (.int .i64 t.kind) := (hb2.cell (by simp)).trans (by simp); have dt1 : w2.cell? ⟨w.heap.size, 1, none⟩ = some (.string ⟨t.name.toArray⟩) := (hb2.cell (by simp)).trans (by simp); have dt2 : w2.cell? ⟨w.heap.size, 2, none⟩ = some (.string ⟨t.text.toArray⟩) := (hb2.cell (by simp)).trans (by simp); have dt3 : w2.cell? ⟨w.heap.size, 3, none⟩ = some (.int .i64 t.line) := (hb2.cell (by simp)).trans (by simp); have dt4 : w2.cell? ⟨w.heap.size, 4, none⟩ = some (.int .i64 t.col) := (hb2.cell (by simp)).trans (by simp); have HB2 := Lib.hid (((Below.refl w.heap.size w).alloc (Nat.le_refl _) (.cells #[.int .i64 t.kind, .string ⟨t.name.toArray⟩, .string ⟨t.text.toArray⟩, .int .i64 t.line, .int .i64 t.col] 59)).trans (hb2.mono (by simp))); have hsz : w.heap.size < w2.heap.size := Nat.lt_of_lt_of_le (by simp) hb2.size; clear hb2))
          | (go_at_call 86; refine (HFa.out _).mono ?_; rintro e w3 ⟨rfl, rfl⟩; clear HFa)
          | (go_at_call 86; refine (HFb.out _).mono ?_; rintro e w4 ⟨rfl, rfl⟩)
          | (go_at_call 28; have hT := topic_any B s p w2 (HX.out.new HB2.out); rw [topP_some ht] at hT; refine hT.mono ?_; rintro e w5 ⟨rfl, rfl⟩; obtain ⟨cap, sn, sti, -, -, d0, d1, d2, d3, d4, d5, d6, d7, df, dl, dB⟩ := top_cells ((HX.out.new HB2.out).top tp ht).1; obtain ⟨xs, hs⟩ := ((HX.out.new HB2.out).top tp ht).2.1; obtain ⟨sa, sc, hv⟩ := owns_slice hs; have HV := Lib.hid hv; have HS := Lib.hid hs; have ag : some p.g ≠ p.vK.ownBlock := (fun e => by obtain ⟨cc, hcc⟩ := owns_kind hs p.g e.symm; obtain ⟨cap', pre, sn', st', q1, q2, q3⟩ := ((HX.out.new HB2.out).top tp ht).1; obtain ⟨c', hc'⟩ := owns_kind q3 p.g (by rw [q1]; rfl); rw [hcc] at hc'; cases hc'); rw [hv] at d4 hs ag; clear hT hv d0 d1 d2 d3 d5 d6 d7)
          | fail)
        go_region_law
          ((refine step_append_lies _ (by rfl) _ _ _ (by rfl) B 178 i0 _ 3 40 Tryz.underlying97 hi0 hz0 hz1 hz2 rfl (by omega) (.slice sa tp.nk sc) tp.nk xs (by rfl) ((hs.drew).alloc _)
              ⟨w2.heap.size, 0, none⟩ 1 1 [.string ⟨na.toArray⟩, .string ⟨nb.toArray⟩, .int .i64 t.line] (by rfl) (by rfl) (World.news_of_block (cs := #[.string ⟨na.toArray⟩, .string ⟨nb.toArray⟩, .int .i64 t.line]) (t := 178) (fr := (0, 0)) (heap_alloc_new w2 _)) (by simp [Value.oneCell'])
              (by omega) (by unfold maxLen; omega) (by omega) (by simp; omega) (w2.heap.size + 1) (by simp) ?_; intro gg cap1 w6 hown1 hgrow hat hlt1; have q2 := hgrow.cell_far ⟨p.g, p.o + 4, none⟩ (by simp; omega) ag; have q2f := hgrow.frozen_far ⟨p.g, p.o + 4, none⟩ (by simp; omega) ag; simp at q2 q2f))
        all_goals
          have HB : Hid (Below B w w6) := Lib.hid ((((HB2.out.mono hB).drew).alloc (show B ≤ w2.heap.size by omega) _).grown hgrow (by simp; omega) fun k hk => (hs.lt k hk).1)
          have Hg := Lib.hid hgrow
          have Ho := Lib.hid hown1
          clear hgrow hown1
          go_wp2
          go_end0
          have hq := (((HX.out.new HB2.out).alloc _).drew).keyed ht rfl ((HS.out.drew).alloc _) (by rw [HV.out]; exact Hg.out) Ho.out
          rw [HP.out]
          exact ⟨HB.out.setCell dB _, rfl, _, hq, rfl, rfl⟩
set_option maxHeartbeats 6400000 in
set_option maxRecDepth 100000 in
theorem see_any (B : Nat) (s : PS) (p : PV) (t : Tok) (arg : Wd) (w : World) (h : ParR B w s p) (hB : B ≤ w.heap.size) (hg : Glb w) (hal : arg.length ≤ 1000000) (tp : Top) (ht : s.cur = some tp) (hn : tp.ns ≤ 70) :
    Calls Tryz.prog 38 #[parP p, tokV t, .string ⟨arg.toArray⟩] w (DoPost B p.b p.vm (s.see t arg) w) := by
  have HE := fun c w hc => swrong_any c t w hc
  have HG := Lib.hid hg
  have HX := Lib.hid h
  have hH := fun w hg => halves_any arg [45, 62] w hg hal
  obtain ⟨l1, l2⟩ := cutW_len arg [45, 62]
  have m1 := tidy_len (Lib.cut arg [45, 62]).1
  have m2 := tidy_len (Lib.cut arg [45, 62]).2.1
  unfold halvesF at hH
  simp only at hH
  have hM : s.see t arg = if (Lib.cut arg [45, 62]).2.2 = false ∨ fitsF (tidyF (Lib.cut arg [45, 62]).1) 64 = false ∨ fitsF (tidyF (Lib.cut arg [45, 62]).2.1) 64 = false then .error (t.flt 51) else if 64 ≤ tp.ns then .error (t.flt 2) else .ok { s with cur := some { tp with ns := tp.ns + 1 } } := by
    unfold PS.see
    simp only [ht]
  obtain ⟨na, hna⟩ : ∃ x, tidyF (Lib.cut arg [45, 62]).1 = x := ⟨_, rfl⟩
  obtain ⟨nb, hnb⟩ : ∃ x, tidyF (Lib.cut arg [45, 62]).2.1 = x := ⟨_, rfl⟩
  obtain ⟨tw, htw⟩ : ∃ x, (Lib.cut arg [45, 62]).2.2 = x := ⟨_, rfl⟩
  rw [hna, hnb, htw] at hH hM
  rw [hna] at m1
  rw [hnb] at m2
  have HFa := Lib.hid (fun w => fits_any na 64 w (by omega))
  have HFb := Lib.hid (fun w => fits_any nb 64 w (by omega))
  obtain ⟨fa, hfa⟩ : ∃ x, fitsF na 64 = x := ⟨_, rfl⟩
  obtain ⟨fb, hfb⟩ : ∃ x, fitsF nb 64 = x := ⟨_, rfl⟩
  rw [hfa] at HFa hM
  rw [hfb] at HFb hM
  have HH := Lib.hid hH
  have HM := Lib.hid hM
  clear h hg hH hM m1 m2 l1 l2 hna hnb htw hfa hfb hal
  by_cases hbad : tw = false ∨ fa = false ∨ fb = false
  · have HP := Lib.hid (show s.see t arg = .error (t.flt 51) from by rw [HM.out, if_pos hbad])
    have hcs : tw = false ∨ (tw = true ∧ fa = false) ∨ (tw = true ∧ fa = true ∧ fb = false) := by cases fa <;> cases tw <;> cases fb <;> simp at hbad ⊢
    clear hbad
    rcases hcs with rfl | ⟨rfl, rfl⟩ | ⟨rfl, rfl, rfl⟩
    all_goals
      go_enter Tryz.func38, Tryz.ntmps38
      go_wp2_with (first
        | (go_at_call 85; go_loud (refine (HH.out _ (HG.out.below ((Below.refl _ _).alloc (Nat.le_refl _) _))).mono ?_; rintro e w2 ⟨rfl, hb2⟩; have dt0 : w2.cell? ⟨w.heap.size, 0, none⟩ = some (.int .i64 t.kind) := (hb2.cell (by simp)).trans (by simp); have dt1 : w2.cell? ⟨w.heap.size, 1, none⟩ = some (.string ⟨t.name.toArray⟩) := (hb2.cell (by simp)).trans (by simp); have dt2 : w2.cell? ⟨w.heap.size, 2, none⟩ = some (.string ⟨t.text.toArray⟩) := (hb2.cell (by simp)).trans (by simp); have dt3 : w2.cell? ⟨w.heap.size, 3, none⟩ = some (.int .i64 t.line) := (hb2.cell (by simp)).trans (by simp); have dt4 : w2.cell? ⟨w.heap.size, 4, none⟩ = some (.int .i64 t.col) := (hb2.cell (by simp)).trans (by simp); have HB2 := Lib.hid (((Below.refl w.heap.size w).alloc (Nat.le_refl _) (.cells #[.int .i64 t.kind, .string ⟨t.name.toArray⟩, .string ⟨t.text.toArray⟩, .int .i64 t.line, .int .i64 t.col] 59)).trans (hb2.mono (by simp))); have hsz : w.heap.size < w2.heap.size := Nat.lt_of_lt_of_le (by simp) hb2.size; clear hb2))
        | (go_at_call 86; refine (HFa.out _).mono ?_; rintro e w3 ⟨rfl, rfl⟩; clear HFa)
        | (go_at_call 86; refine (HFb.out _).mono ?_; rintro e w4 ⟨rfl, rfl⟩)
        | (go_at_call 52; refine (HE 51 _ (by decide)).mono ?_; rintro e w9 ⟨v, rfl, hf, hb⟩)
        | fail)
      refine ⟨rfl, ?_⟩
      rw [HP.out]
      exact doErr2 hf ((HB2.out.mono hB).trans (hb.mono (by omega)))
  · have hcs : tw = true ∧ fa = true ∧ fb = true := by cases fa <;> cases tw <;> cases fb <;> simp at hbad ⊢
    have hM2 := HM.out
    rw [if_neg hbad] at hM2
    clear HM hbad
    have HM : Hid (s.see t arg = if (false : Bool) = true then .error (t.flt 51) else if 64 ≤ tp.ns then .error (t.flt 2) else .ok { s with cur := some { tp with ns := tp.ns + 1 } }) := Lib.hid (by rw [hM2]; rfl)
    clear hM2
    obtain ⟨rfl, rfl, rfl⟩ := hcs
    · skip
      by_cases hn64 : 64 ≤ tp.ns
      · have HP := Lib.hid (show s.see t arg = .error (t.flt 2) from by rw [HM.out, if_neg (by decide), if_pos hn64])
        have hd1 : decide ((64 : Int) ≤ (tp.ns : Int)) = true := by rw [decide_eq_true_eq]; omega
        have hd2 : decide (64 ≤ tp.ns) = true := by rw [decide_eq_true_eq]; omega
        clear hn64
        go_enter Tryz.func38, Tryz.ntmps38
        go_wp2_with (first
          | (go_at_call 85; go_loud (refine (HH.out _ (HG.out.below ((Below.refl _ _).alloc (Nat.le_refl _) _))).mono ?_; rintro e w2 ⟨rfl, hb2⟩; have dt0 : w2.cell? ⟨w.heap.size, 0, none⟩ = some (.int .i64 t.kind) := (hb2.cell (by simp)).trans (by simp); have dt1 : w2.cell? ⟨w.heap.size, 1, none⟩ = some (.string ⟨t.name.toArray⟩) := (hb2.cell (by simp)).trans (by simp); have dt2 : w2.cell? ⟨w.heap.size, 2, none⟩ = some (.string ⟨t.text.toArray⟩) := (hb2.cell (by simp)).trans (by simp); have dt3 : w2.cell? ⟨w.heap.size, 3, none⟩ = some (.int .i64 t.line) := (hb2.cell (by simp)).trans (by simp); have dt4 : w2.cell? ⟨w.heap.size, 4, none⟩ = some (.int .i64 t.col) := (hb2.cell (by simp)).trans (by simp); have HB2 := Lib.hid (((Below.refl w.heap.size w).alloc (Nat.le_refl _) (.cells #[.int .i64 t.kind, .string ⟨t.name.toArray⟩, .string ⟨t.text.toArray⟩, .int .i64 t.line, .int .i64 t.col] 59)).trans (hb2.mono (by simp))); have hsz : w.heap.size < w2.heap.size := Nat.lt_of_lt_of_le (by simp) hb2.size; clear hb2))
          | (go_at_call 86; refine (HFa.out _).mono ?_; rintro e w3 ⟨rfl, rfl⟩; clear HFa)
          | (go_at_call 86; refine (HFb.out _).mono ?_; rintro e w4 ⟨rfl, rfl⟩)
          | (go_at_call 28; have hT := topic_any B s p w2 (HX.out.new HB2.out); rw [topP_some ht] at hT; refine hT.mono ?_; rintro e w5 ⟨rfl, rfl⟩; obtain ⟨cap, sn, sti, -, -, d0, d1, d2, d3, d4, d5, d6, d7, df, dl, dB⟩ := top_cells ((HX.out.new HB2.out).top tp ht).1; obtain ⟨xs, hs⟩ := ((HX.out.new HB2.out).top tp ht).2.2.1; obtain ⟨sa, sc, hv⟩ := owns_slice hs; have HV := Lib.hid hv; have HS := Lib.hid hs; have ag : some p.g ≠ p.vE.ownBlock := (fun e => by obtain ⟨cc, hcc⟩ := owns_kind hs p.g e.symm; obtain ⟨cap', pre, sn', st', q1, q2, q3⟩ := ((HX.out.new HB2.out).top tp ht).1; obtain ⟨c', hc'⟩ := owns_kind q3 p.g (by rw [q1]; rfl); rw [hcc] at hc'; cases hc'); rw [hv] at d5 hs ag; clear hT hv d0 d1 d2 d3 d4 d6 d7)
          | (go_at_call 52; refine (HE 2 _ (by decide)).mono ?_; rintro e w9 ⟨v, rfl, hf, hb⟩)
          | fail)
        refine ⟨rfl, ?_⟩
        rw [HP.out]
        exact doErr2 hf ((HB2.out.mono hB).trans (hb.mono (by omega)))
      · have HP := Lib.hid (show s.see t arg = .ok { s with cur := some { tp with ns := tp.ns + 1 } } from by rw [HM.out, if_neg (by decide), if_neg hn64])
        obtain ⟨i0, hi0, hz0, hz1, hz2⟩ := info_parts info_see
        have hd1 : decide ((64 : Int) ≤ (tp.ns : Int)) = false := by rw [decide_eq_false_iff_not]; omega
        have hd2 : decide (64 ≤ tp.ns) = false := by rw [decide_eq_false_iff_not]; omega
        clear hn64
        go_enter Tryz.func38, Tryz.ntmps38
        go_wp2_with (first
          | (go_at_call 85; go_loud (refine (HH.out _ (HG.out.below ((Below.refl _ _).alloc (Nat.le_refl _) _))).mono ?_; rintro e w2 ⟨rfl, hb2⟩; have dt0 : w2.cell? ⟨w.heap.size, 0, none⟩ = some (.int .i64 t.kind) := (hb2.cell (by simp)).trans (by simp); have dt1 : w2.cell? ⟨w.heap.size, 1, none⟩ = some (.string ⟨t.name.toArray⟩) := (hb2.cell (by simp)).trans (by simp); have dt2 : w2.cell? ⟨w.heap.size, 2, none⟩ = some (.string ⟨t.text.toArray⟩) := (hb2.cell (by simp)).trans (by simp); have dt3 : w2.cell? ⟨w.heap.size, 3, none⟩ = some (.int .i64 t.line) := (hb2.cell (by simp)).trans (by simp); have dt4 : w2.cell? ⟨w.heap.size, 4, none⟩ = some (.int .i64 t.col) := (hb2.cell (by simp)).trans (by simp); have HB2 := Lib.hid (((Below.refl w.heap.size w).alloc (Nat.le_refl _) (.cells #[.int .i64 t.kind, .string ⟨t.name.toArray⟩, .string ⟨t.text.toArray⟩, .int .i64 t.line, .int .i64 t.col] 59)).trans (hb2.mono (by simp))); have hsz : w.heap.size < w2.heap.size := Nat.lt_of_lt_of_le (by simp) hb2.size; clear hb2))
          | (go_at_call 86; refine (HFa.out _).mono ?_; rintro e w3 ⟨rfl, rfl⟩; clear HFa)
          | (go_at_call 86; refine (HFb.out _).mono ?_; rintro e w4 ⟨rfl, rfl⟩)
          | (go_at_call 28; have hT := topic_any B s p w2 (HX.out.new HB2.out); rw [topP_some ht] at hT; refine hT.mono ?_; rintro e w5 ⟨rfl, rfl⟩; obtain ⟨cap, sn, sti, -, -, d0, d1, d2, d3, d4, d5, d6, d7, df, dl, dB⟩ := top_cells ((HX.out.new HB2.out).top tp ht).1; obtain ⟨xs, hs⟩ := ((HX.out.new HB2.out).top tp ht).2.2.1; obtain ⟨sa, sc, hv⟩ := owns_slice hs; have HV := Lib.hid hv; have HS := Lib.hid hs; have ag : some p.g ≠ p.vE.ownBlock := (fun e => by obtain ⟨cc, hcc⟩ := owns_kind hs p.g e.symm; obtain ⟨cap', pre, sn', st', q1, q2, q3⟩ := ((HX.out.new HB2.out).top tp ht).1; obtain ⟨c', hc'⟩ := owns_kind q3 p.g (by rw [q1]; rfl); rw [hcc] at hc'; cases hc'); rw [hv] at d5 hs ag; clear hT hv d0 d1 d2 d3 d4 d6 d7)
          | fail)
        go_region_law
          ((refine step_append_lies _ (by rfl) _ _ _ (by rfl) B 180 i0 _ 3 40 Tryz.underlying98 hi0 hz0 hz1 hz2 rfl (by omega) (.slice sa tp.ns sc) tp.ns xs (by rfl) ((hs.drew).alloc _)
              ⟨w2.heap.size, 0, none⟩ 1 1 [.string ⟨na.toArray⟩, .string ⟨nb.toArray⟩, .int .i64 t.line] (by rfl) (by rfl) (World.news_of_block (cs := #[.string ⟨na.toArray⟩, .string ⟨nb.toArray⟩, .int .i64 t.line]) (t := 180) (fr := (0, 0)) (heap_alloc_new w2 _)) (by simp [Value.oneCell'])
              (by omega) (by unfold maxLen; omega) (by omega) (by simp; omega) (w2.heap.size + 1) (by simp) ?_; intro gg cap1 w6 hown1 hgrow hat hlt1; have q2 := hgrow.cell_far ⟨p.g, p.o + 5, none⟩ (by simp; omega) ag; have q2f := hgrow.frozen_far ⟨p.g, p.o + 5, none⟩ (by simp; omega) ag; simp at q2 q2f))
        all_goals
          have HB : Hid (Below B w w6) := Lib.hid ((((HB2.out.mono hB).drew).alloc (show B ≤ w2.heap.size by omega) _).grown hgrow (by simp; omega) fun k hk => (hs.lt k hk).1)
          have Hg := Lib.hid hgrow
          have Ho := Lib.hid hown1
          clear hgrow hown1
          go_wp2
          go_end0
          have hq := (((HX.out.new HB2.out).alloc _).drew).seen ht rfl ((HS.out.drew).alloc _) (by rw [HV.out]; exact Hg.out) Ho.out
          rw [HP.out]
          exact ⟨HB.out.setCell dB _, rfl, _, hq, rfl, rfl⟩
end Go.Proofs.YtafhmagifoapfaaGreatDoor
