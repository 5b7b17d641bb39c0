/- src: topic, note. -/
import Derived.Test.YtafhmagifoapfaaGreatDoorUnder
namespace Go.Proofs.YtafhmagifoapfaaGreatDoor
open Go.RowKit Find Bk
attribute [local go_sem ↓] Go.wp_at_zero Go.wp_at_succ
theorem top_row {B : Nat} {w : World} {s : PS} {p : PV} (h : ParR B w s p) : ∃ xs, w.ownsRow B 101 8 p.vT s.ntop xs := by
  cases hc : s.cur with
  | none =>
    obtain ⟨h1, h2⟩ := h.non hc
    rw [h1, h2]
    exact ⟨[], World.ownsRow_nil _ _ _ _⟩
  | some t =>
    obtain ⟨cap, pre, sn, st, h1, h2, h3⟩ := (h.top t hc).1
    exact ⟨_, h3⟩
set_option maxHeartbeats 6400000 in
set_option maxRecDepth 100000 in
theorem begin_any (B : Nat) (s : PS) (p : PV) (t : Tok) (arg : Wd) (w : World) (h : ParR B w s p) (hB : B ≤ w.heap.size) (hg : Glb w) (hal : arg.length ≤ 1000000) (k : Nat) (hn : s.ntop ≤ 2000) :
    Calls Tryz.prog 32 #[parP p, tokV t, .string ⟨arg.toArray⟩, .int .i64 k] w (DoPost B p.b p.vm (s.begin_ t arg k) w) := by
  have HE := fun c w hc => swrong_any c t w hc
  have HG := Lib.hid hg
  have HX := Lib.hid h
  have hH := fun w hg => halves_any arg [124] w hg hal
  obtain ⟨l1, l2⟩ := cutW_len arg [124]
  have m1 := tidy_len (Lib.cut arg [124]).1
  have m2 := tidy_len (Lib.cut arg [124]).2.1
  unfold halvesF at hH
  simp only at hH
  have hM : s.begin_ t arg k = if fitsF (tidyF (Lib.cut arg [124]).1) 64 = false ∨ fitsF (if (Lib.cut arg [124]).2.2 then tidyF (Lib.cut arg [124]).2.1 else tidyF (Lib.cut arg [124]).1) 200 = false then .error (t.flt 51) else if 1000 ≤ s.ntop then .error (t.flt 2) else .ok { s with ntop := s.ntop + 1, cur := some ⟨k, 0, 0, 0, t.line, []⟩ } := rfl
  obtain ⟨na, hna⟩ : ∃ x, tidyF (Lib.cut arg [124]).1 = x := ⟨_, rfl⟩
  obtain ⟨nb, hnb⟩ : ∃ x, tidyF (Lib.cut arg [124]).2.1 = x := ⟨_, rfl⟩
  obtain ⟨tw, htw⟩ : ∃ x, (Lib.cut arg [124]).2.2 = x := ⟨_, rfl⟩
  rw [hna, hnb, htw] at hH hM
  rw [hna] at m1
  rw [hnb] at m2
  have HFa := Lib.hid (fun w => fits_any na 64 w (by omega))
  have HFx : Hid (∀ w, Calls Tryz.prog 86 #[.string ⟨(if tw then nb else na).toArray⟩, .int .i64 200] w fun e w' => e = .returned (.bool (fitsF (if tw then nb else na) 200)) ∧ w = w') := Lib.hid (fun w => fits_any _ 200 w (by split <;> omega))
  obtain ⟨fa, hfa⟩ : ∃ x, fitsF na 64 = x := ⟨_, rfl⟩
  obtain ⟨fb, hfb⟩ : ∃ x, fitsF (if tw then nb else na) 200 = x := ⟨_, rfl⟩
  rw [hfa] at HFa hM
  rw [hfb] at HFx hM
  have HH := Lib.hid hH
  have HM := Lib.hid hM
  clear h hg hH hM m1 m2 l1 l2 hna hnb htw hfa hfb hal
  by_cases hbad : fa = false ∨ fb = false
  · have HP := Lib.hid (show s.begin_ t arg k = .error (t.flt 51) from by rw [HM.out, if_pos hbad])
    have hcs : fa = false ∨ (fa = true ∧ fb = false) := by cases fa <;> cases fb <;> simp at hbad ⊢
    clear hbad HM
    rcases hcs with rfl | ⟨rfl, rfl⟩
    all_goals
      cases tw
      all_goals
        simp only [Bool.false_eq_true, if_false, if_true] at HFx
        have HFb := HFx
        clear HFx
        go_enter Tryz.func32, Tryz.ntmps32
        go_wp2_with (first
          | (go_at_call 85; go_loud (refine (HH.out _ (HG.out.below ((Below.refl _ _).alloc (Nat.le_refl _) _))).mono ?_; rintro e w2 ⟨rfl, hb2⟩; have dt0 : w2.cell? ⟨w.heap.size, 0, none⟩ = some (.int .i64 t.kind) := (hb2.cell (by simp)).trans (by simp); have dt1 : w2.cell? ⟨w.heap.size, 1, none⟩ = some (.string ⟨t.name.toArray⟩) := (hb2.cell (by simp)).trans (by simp); have dt2 : w2.cell? ⟨w.heap.size, 2, none⟩ = some (.string ⟨t.text.toArray⟩) := (hb2.cell (by simp)).trans (by simp); have dt3 : w2.cell? ⟨w.heap.size, 3, none⟩ = some (.int .i64 t.line) := (hb2.cell (by simp)).trans (by simp); have dt4 : w2.cell? ⟨w.heap.size, 4, none⟩ = some (.int .i64 t.col) := (hb2.cell (by simp)).trans (by simp); have HB2 := Lib.hid (((Below.refl w.heap.size w).alloc (Nat.le_refl _) (.cells #[.int .i64 t.kind, .string ⟨t.name.toArray⟩, .string ⟨t.text.toArray⟩, .int .i64 t.line, .int .i64 t.col] 59)).trans (hb2.mono (by simp))); have hsz : w.heap.size < w2.heap.size := Nat.lt_of_lt_of_le (by simp) hb2.size; clear hb2))
          | (go_at_call 86; refine (HFa.out _).mono ?_; rintro e w3 ⟨rfl, rfl⟩; clear HFa)
          | (go_at_call 86; refine (HFb.out _).mono ?_; rintro e w4 ⟨rfl, rfl⟩)
          | (go_at_call 52; refine (HE 51 _ (by decide)).mono ?_; rintro e w9 ⟨v, rfl, hf, hb⟩)
          | fail)
        refine ⟨rfl, ?_⟩
        rw [HP.out]
        exact doErr2 hf ((HB2.out.mono hB).trans (hb.mono (by omega)))
  · obtain ⟨rfl, rfl⟩ : fa = true ∧ fb = true := by cases fa <;> cases fb <;> simp at hbad ⊢
    have hM2 := HM.out
    rw [if_neg hbad] at hM2
    clear HM hbad
    have HM := Lib.hid hM2
    clear hM2
    by_cases hn64 : 1000 ≤ s.ntop
    · have HP := Lib.hid (show s.begin_ t arg k = .error (t.flt 2) from by rw [HM.out, if_pos hn64])
      have hd1 : decide ((1000 : Int) ≤ (s.ntop : Int)) = true := by rw [decide_eq_true_eq]; omega
      have hd2 : decide (1000 ≤ s.ntop) = true := by rw [decide_eq_true_eq]; omega
      clear hn64 HM
      cases tw
      all_goals
        simp only [Bool.false_eq_true, if_false, if_true] at HFx
        have HFb := HFx
        clear HFx
        go_enter Tryz.func32, Tryz.ntmps32
        go_wp2_with (first
          | (go_at_call 85; go_loud (refine (HH.out _ (HG.out.below ((Below.refl _ _).alloc (Nat.le_refl _) _))).mono ?_; rintro e w2 ⟨rfl, hb2⟩; have dt0 : w2.cell? ⟨w.heap.size, 0, none⟩ = some (.int .i64 t.kind) := (hb2.cell (by simp)).trans (by simp); have dt1 : w2.cell? ⟨w.heap.size, 1, none⟩ = some (.string ⟨t.name.toArray⟩) := (hb2.cell (by simp)).trans (by simp); have dt2 : w2.cell? ⟨w.heap.size, 2, none⟩ = some (.string ⟨t.text.toArray⟩) := (hb2.cell (by simp)).trans (by simp); have dt3 : w2.cell? ⟨w.heap.size, 3, none⟩ = some (.int .i64 t.line) := (hb2.cell (by simp)).trans (by simp); have dt4 : w2.cell? ⟨w.heap.size, 4, none⟩ = some (.int .i64 t.col) := (hb2.cell (by simp)).trans (by simp); have HB2 := Lib.hid (((Below.refl w.heap.size w).alloc (Nat.le_refl _) (.cells #[.int .i64 t.kind, .string ⟨t.name.toArray⟩, .string ⟨t.text.toArray⟩, .int .i64 t.line, .int .i64 t.col] 59)).trans (hb2.mono (by simp))); have hsz : w.heap.size < w2.heap.size := Nat.lt_of_lt_of_le (by simp) hb2.size; clear hb2; obtain ⟨c0, c1, c2, c3, c4, c5, cf⟩ := par_cells (HX.out.new HB2.out); obtain ⟨xs, hs⟩ := top_row (HX.out.new HB2.out); obtain ⟨sa, sc, hv⟩ := owns_slice hs; have HV := Lib.hid hv; have HS := Lib.hid hs; have ag : some p.b ≠ p.vT.ownBlock := (fun e => owns_apart hs (HX.out.new HB2.out).blk (by decide) e.symm); have hpb := HX.out.base; have hpl := (HX.out.new HB2.out).lt; rw [hv] at c2 hs ag; clear hv c0 c1 c3 c4 c5))
          | (go_at_call 86; refine (HFa.out _).mono ?_; rintro e w3 ⟨rfl, rfl⟩; clear HFa)
          | (go_at_call 86; refine (HFb.out _).mono ?_; rintro e w4 ⟨rfl, rfl⟩)
          | (go_at_call 52; refine (HE 2 _ (by decide)).mono ?_; rintro e w9 ⟨v, rfl, hf, hb⟩)
          | fail)
        refine ⟨rfl, ?_⟩
        rw [HP.out]
        exact doErr2 hf ((HB2.out.mono hB).trans (hb.mono (by omega)))
    · have HP := Lib.hid (show s.begin_ t arg k = .ok { s with ntop := s.ntop + 1, cur := some ⟨k, 0, 0, 0, t.line, []⟩ } from by rw [HM.out, if_neg hn64])
      obtain ⟨i0, hi0, hz0, hz1, hz2⟩ := info_parts info_top
      have hd1 : decide ((1000 : Int) ≤ (s.ntop : Int)) = false := by rw [decide_eq_false_iff_not]; omega
      have hd2 : decide (1000 ≤ s.ntop) = false := by rw [decide_eq_false_iff_not]; omega
      clear hn64 HM
      cases tw
      all_goals
        simp only [Bool.false_eq_true, if_false, if_true] at HFx
        have HFb := HFx
        clear HFx
        go_enter Tryz.func32, Tryz.ntmps32
        go_wp2_with (first
          | (go_at_call 85; go_loud (refine (HH.out _ (HG.out.below ((Below.refl _ _).alloc (Nat.le_refl _) _))).mono ?_; rintro e w2 ⟨rfl, hb2⟩; have dt0 : w2.cell? ⟨w.heap.size, 0, none⟩ = some (.int .i64 t.kind) := (hb2.cell (by simp)).trans (by simp); have dt1 : w2.cell? ⟨w.heap.size, 1, none⟩ = some (.string ⟨t.name.toArray⟩) := (hb2.cell (by simp)).trans (by simp); have dt2 : w2.cell? ⟨w.heap.size, 2, none⟩ = some (.string ⟨t.text.toArray⟩) := (hb2.cell (by simp)).trans (by simp); have dt3 : w2.cell? ⟨w.heap.size, 3, none⟩ = some (.int .i64 t.line) := (hb2.cell (by simp)).trans (by simp); have dt4 : w2.cell? ⟨w.heap.size, 4, none⟩ = some (.int .i64 t.col) := (hb2.cell (by simp)).trans (by simp); have HB2 := Lib.hid (((Below.refl w.heap.size w).alloc (Nat.le_refl _) (.cells #[.int .i64 t.kind, .string ⟨t.name.toArray⟩, .string ⟨t.text.toArray⟩, .int .i64 t.line, .int .i64 t.col] 59)).trans (hb2.mono (by simp))); have hsz : w.heap.size < w2.heap.size := Nat.lt_of_lt_of_le (by simp) hb2.size; clear hb2; obtain ⟨c0, c1, c2, c3, c4, c5, cf⟩ := par_cells (HX.out.new HB2.out); obtain ⟨xs, hs⟩ := top_row (HX.out.new HB2.out); obtain ⟨sa, sc, hv⟩ := owns_slice hs; have HV := Lib.hid hv; have HS := Lib.hid hs; have ag : some p.b ≠ p.vT.ownBlock := (fun e => owns_apart hs (HX.out.new HB2.out).blk (by decide) e.symm); have hpb := HX.out.base; have hpl := (HX.out.new HB2.out).lt; rw [hv] at c2 hs ag; clear hv c0 c1 c3 c4 c5))
          | (go_at_call 86; refine (HFa.out _).mono ?_; rintro e w3 ⟨rfl, rfl⟩; clear HFa)
          | (go_at_call 86; refine (HFb.out _).mono ?_; rintro e w4 ⟨rfl, rfl⟩)
          | fail)
        first
          | go_region_law
              ((refine step_append_lies _ (by rfl) _ _ _ (by rfl) B 101 i0 _ 8 128 Tryz.underlying26 hi0 hz0 hz1 hz2 rfl (by omega) (.slice sa s.ntop sc) s.ntop xs (by rfl) ((hs.drew).alloc _)
                    ⟨w2.heap.size, 0, none⟩ 1 1 (topC ⟨k, 0, 0, 0, t.line, []⟩ (.string ⟨na.toArray⟩) (.string ⟨na.toArray⟩) (.slice none 0 0) (.slice none 0 0) (.slice none 0 0)) (by rfl) (by rfl) (World.news_of_block (cs := (topC ⟨k, 0, 0, 0, t.line, []⟩ (.string ⟨na.toArray⟩) (.string ⟨na.toArray⟩) (.slice none 0 0) (.slice none 0 0) (.slice none 0 0)).toArray) (t := 101) (fr := (0, 0)) (heap_alloc_new w2 _)) (by simp [topC, Value.oneCell'])
                    (by omega) (by unfold maxLen; omega) (by omega) (by simp; omega) (w2.heap.size + 1) (by simp) ?_; intro gg cap1 w6 hown1 hgrow hat hlt1; have q2 := hgrow.cell_far ⟨p.b, 2, none⟩ (by simp; omega) ag; have q2f := hgrow.frozen_far ⟨p.b, 2, none⟩ (by simp; omega) ag; simp at q2 q2f))
          | go_region_law
              ((refine step_append_lies _ (by rfl) _ _ _ (by rfl) B 101 i0 _ 8 128 Tryz.underlying26 hi0 hz0 hz1 hz2 rfl (by omega) (.slice sa s.ntop sc) s.ntop xs (by rfl) ((hs.drew).alloc _)
                    ⟨w2.heap.size, 0, none⟩ 1 1 (topC ⟨k, 0, 0, 0, t.line, []⟩ (.string ⟨na.toArray⟩) (.string ⟨nb.toArray⟩) (.slice none 0 0) (.slice none 0 0) (.slice none 0 0)) (by rfl) (by rfl) (World.news_of_block (cs := (topC ⟨k, 0, 0, 0, t.line, []⟩ (.string ⟨na.toArray⟩) (.string ⟨nb.toArray⟩) (.slice none 0 0) (.slice none 0 0) (.slice none 0 0)).toArray) (t := 101) (fr := (0, 0)) (heap_alloc_new w2 _)) (by simp [topC, Value.oneCell'])
                    (by omega) (by unfold maxLen; omega) (by omega) (by simp; omega) (w2.heap.size + 1) (by simp) ?_; intro gg cap1 w6 hown1 hgrow hat hlt1; have q2 := hgrow.cell_far ⟨p.b, 2, none⟩ (by simp; omega) ag; have q2f := hgrow.frozen_far ⟨p.b, 2, none⟩ (by simp; omega) ag; simp at q2 q2f))
        all_goals
          have HB : Hid (Below B w w6) := Lib.hid ((((HB2.out.mono hB).drew).alloc (show B ≤ w2.heap.size by omega) _).grown hgrow (by simp; omega) fun k hk => (hs.lt k hk).1)
          have Hg := Lib.hid hgrow
          have Ho := Lib.hid hown1
          clear hgrow hown1
          go_wp2
          go_end0
          have hq := (((HX.out.new HB2.out).alloc _).drew).topped rfl ((HS.out.drew).alloc _) (by rw [HV.out]; exact Hg.out) Ho.out
          rw [HP.out]
          exact ⟨HB.out.setCell hpb _, rfl, _, hq, rfl, rfl⟩
set_option maxHeartbeats 3200000 in
set_option maxRecDepth 100000 in
theorem topicD_any (B : Nat) (s : PS) (p : PV) (t : Tok) (arg : Wd) (w : World) (h : ParR B w s p) (hB : B ≤ w.heap.size) (hg : Glb w) (hal : arg.length ≤ 1000000) (hn : s.ntop ≤ 2000) :
    Calls Tryz.prog 31 #[parP p, tokV t, .string ⟨arg.toArray⟩] w (DoPost B p.b p.vm (s.begin_ t arg 0) w) := by
  have hb := fun w' (h : ParR B w' s p) hB' hg => begin_any B s p t arg w' h hB' hg hal 0 hn
  have HBg : Hid (∀ w', ParR B w' s p → B ≤ w'.heap.size → Glb w' → Calls Tryz.prog 32 #[parP p, tokV t, .string ⟨arg.toArray⟩, .int .i64 0] w' (DoPost B p.b p.vm (s.begin_ t arg 0) w')) := Lib.hid hb
  have HX := Lib.hid h
  have HG := Lib.hid hg
  clear hb h hg
  obtain ⟨R, hR⟩ : ∃ R, s.begin_ t arg 0 = R := ⟨_, rfl⟩
  rw [hR] at HBg ⊢
  clear hR
  unfold DoPost at HBg ⊢
  cases R with
  | error f =>
    go_enter Tryz.func31, Tryz.ntmps31
    go_wp2_with (go_at_call 32; refine (HBg.out _ (HX.out.alloc _) (by simp; omega) (HG.out.below ((Below.refl _ _).alloc (Nat.le_refl _) _))).mono ?_; rintro e w9 ⟨hb, v, rfl, hf⟩)
    refine ⟨rfl, ?_⟩
    exact ⟨((Below.refl B w).alloc hB _).trans hb, v, rfl, hf⟩
  | ok s1 =>
    go_enter Tryz.func31, Tryz.ntmps31
    go_wp2_with (go_at_call 32; refine (HBg.out _ (HX.out.alloc _) (by simp; omega) (HG.out.below ((Below.refl _ _).alloc (Nat.le_refl _) _))).mono ?_; rintro e w9 ⟨hb, rfl, hp⟩)
    go_end0
    exact ⟨((Below.refl B w).alloc hB _).trans hb, rfl, hp⟩
set_option maxHeartbeats 3200000 in
set_option maxRecDepth 100000 in
theorem noteD_any (B : Nat) (s : PS) (p : PV) (t : Tok) (arg : Wd) (w : World) (h : ParR B w s p) (hB : B ≤ w.heap.size) (hg : Glb w) (hal : arg.length ≤ 1000000) (hn : s.ntop ≤ 2000) :
    Calls Tryz.prog 33 #[parP p, tokV t, .string ⟨arg.toArray⟩] w (DoPost B p.b p.vm (s.begin_ t arg 1) w) := by
  have hb := fun w' (h : ParR B w' s p) hB' hg => begin_any B s p t arg w' h hB' hg hal 1 hn
  have HBg : Hid (∀ w', ParR B w' s p → B ≤ w'.heap.size → Glb w' → Calls Tryz.prog 32 #[parP p, tokV t, .string ⟨arg.toArray⟩, .int .i64 1] w' (DoPost B p.b p.vm (s.begin_ t arg 1) w')) := Lib.hid hb
  have HX := Lib.hid h
  have HG := Lib.hid hg
  clear hb h hg
  obtain ⟨R, hR⟩ : ∃ R, s.begin_ t arg 1 = R := ⟨_, rfl⟩
  rw [hR] at HBg ⊢
  clear hR
  unfold DoPost at HBg ⊢
  cases R with
  | error f =>
    go_enter Tryz.func33, Tryz.ntmps33
    go_wp2_with (go_at_call 32; refine (HBg.out _ (HX.out.alloc _) (by simp; omega) (HG.out.below ((Below.refl _ _).alloc (Nat.le_refl _) _))).mono ?_; rintro e w9 ⟨hb, v, rfl, hf⟩)
    refine ⟨rfl, ?_⟩
    exact ⟨((Below.refl B w).alloc hB _).trans hb, v, rfl, hf⟩
  | ok s1 =>
    go_enter Tryz.func33, Tryz.ntmps33
    go_wp2_with (go_at_call 32; refine (HBg.out _ (HX.out.alloc _) (by simp; omega) (HG.out.below ((Below.refl _ _).alloc (Nat.le_refl _) _))).mono ?_; rintro e w9 ⟨hb, rfl, hp⟩)
    go_end0
    exact ⟨((Below.refl B w).alloc hB _).trans hb, rfl, hp⟩
end Go.Proofs.YtafhmagifoapfaaGreatDoor
