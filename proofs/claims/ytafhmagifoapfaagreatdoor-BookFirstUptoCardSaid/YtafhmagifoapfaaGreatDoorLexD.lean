/- mark: directive. -/
import Derived.Test.YtafhmagifoapfaaGreatDoorLexC
namespace Go.Proofs.YtafhmagifoapfaaGreatDoor
open Go.RowKit Find Bk
attribute [local go_sem ↓] Go.wp_at_zero Go.wp_at_succ
theorem cell_al {w : World} {p : Addr} {v : Value} (h : w.cell? p = some v) (o : Obj) : (w.alloc o).cell? p = some v := by
  rw [World.cell?_of_block (w := w) (Below.heap_alloc _ _ _ (World.block_lt_of_cell? w _ h))]; exact h
theorem cell_new {w w' : World} {p : Addr} {v : Value} (h : w.cell? p = some v) (hb : Below w.heap.size w w') : w'.cell? p = some v :=
  (hb.cell (World.block_lt_of_cell? w _ h)).trans h
set_option maxHeartbeats 1000000 in
set_option maxRecDepth 100000 in
theorem directive_any (B b : Nat) (s : LS) (l : Wd) (w : World) (m : Nat) (h : LexAt B w b s) (hg : Glb w) (_h4 : 4 ≤ B) (hB : B ≤ w.heap.size) (hl : l.length ≤ 70000) (hl1 : 1 ≤ l.length) (hm : s.In m) (hmm : m ≤ 100000) :
    Calls Tryz.prog 82 #[.pointer (some ⟨b, 0, none⟩), .string ⟨l.toArray⟩] w (StepPost B b (s.directive l) w) := by
  obtain ⟨i0, hi0, hz0, hz1, hz2⟩ := info_parts info_tok
  have HL := Lib.hid h
  have HG := Lib.hid hg
  obtain ⟨vo, vp, hx0⟩ := h
  obtain ⟨c0, c1, c2, c3, c4, c5, c6, c7, c8, c9, c10, c11, cf⟩ := lex_cells hx0
  have hbase := hx0.base
  have hblt := hx0.lt
  have hoo := hm.out
  have h16 := hm.opn
  have HM := Lib.hid hm
  clear c0 c1 c2 c3 c4 c5 c6 c7 c8 c9 c10 hg hx0 hm
  obtain ⟨n, hn⟩ : ∃ n, nameF l.tail = n := ⟨_, rfl⟩
  have hnl : n ≤ l.length - 1 := by have := nameF_le l.tail; rw [List.length_tail] at this; omega
  have hw2 : IntKind.i64.wrap (1 + (n : Int)) = 1 + (n : Int) := IntWalk.i64_in _ (by omega)
  have ht2 : (1 + (n : Int)).toNat = 1 + n := by omega
  have h02 : (0 : Int) ≤ 1 + (n : Int) := by omega
  have hle1 : (1 : Int) ≤ (l.length : Int) := by omega
  have hle2 : 1 + (n : Int) ≤ (l.length : Int) := by omega
  have hle3 : (1 : Int) ≤ 1 + (n : Int) := by omega
  have hNm := fun w => name_any (⟨(l.drop 1).toArray⟩ : ByteArray) w (by rw [size_mk, List.length_drop]; omega)
  rw [show (⟨(l.drop 1).toArray⟩ : ByteArray).data.toList = l.tail from by simp, hn, ← ext_to_end] at hNm
  have HN := Lib.hid hNm
  have hrest := ext_to_end l (1 + n)
  have HRE := Lib.hid hrest
  clear hNm hrest
  by_cases hgd : n = 0 ∨ 12 < n ∨ dirOk (l.drop (1 + n)) = false
  · have HP := Lib.hid (dir_bad (s := s) hn hgd)
    have hR : (⟨l.toArray⟩ : ByteArray).extract (1 + n) l.length = ⟨(l.drop (1 + n)).toArray⟩ := ext_to_end l (1 + n)
    have hWr : ∀ (w : World), Calls Tryz.prog 22 #[.int .i64 41, .int .i64 s.line, .int .i64 2, .string ((⟨l.toArray⟩ : ByteArray).extract 1 (1 + min (n : Int) 12).toNat)] w (WrongPost ⟨41, s.line, 2, l.tail.take (min n 12)⟩ w) := fun w => by
      have := wrong_any 41 s.line 2 (l.tail.take (min n 12)) w (by decide)
      rw [ext_mk, show (1 + min (n : Int) 12).toNat - 1 = min n 12 by omega, List.drop_one]
      exact this
    have hm1 : (0 : Int) ≤ 1 + min (n : Int) 12 := by omega
    have hm2 : 1 + min (n : Int) 12 ≤ (l.length : Int) := by omega
    have hm3 : (1 : Int) ≤ 1 + min (n : Int) 12 := by omega
    have hm4 : (0 : Int) ≤ min (n : Int) 12 := by omega
    have hm5 : (0 : Int) ≤ 1 + min (n : Int) 12 ∧ 1 + min (n : Int) 12 ≤ (l.length : Int) := ⟨hm1, hm2⟩
    have HWR := Lib.hid hWr
    obtain ⟨R, hRe⟩ : ∃ R, l.drop (1 + n) = R := ⟨_, rfl⟩
    rw [hRe] at hR hgd
    have HRR := Lib.hid hRe
    clear hRe hWr hn
    by_cases hn0 : n = 0
    · have hn0' : ((n : Int) == 0) = true := by rw [beq_iff_eq]; omega
      have hn12 : n ≤ 12 := by omega
      clear hgd hn0
      go_enter Tryz.func82, Tryz.ntmps82
      go_wp2_with (go_at_call 148; refine (HN.out _).mono ?_; rintro e w9 ⟨rfl, rfl⟩)
      have hw3 : IntKind.i64.wrap (1 + min (n : Int) 12) = 1 + min (n : Int) 12 := IntWalk.i64_in _ (by omega)
      go_still_tail 9, (by kernel_rfl)
      clear hw3
      go_wp2_with (go_at_call 22; refine (HWR.out _).mono ?_; rintro e w2 ⟨v, rfl, hf, hb2⟩)
      go_ret
      refine ⟨v, rfl, ((Below.refl B w).drew).trans (hb2.mono hB), ?_⟩
      rw [HP.out]; exact hf
    · have hn0' : ((n : Int) == 0) = false := by rw [beq_eq_false_iff_ne]; omega
      by_cases hn12 : 12 < n
      · have hd12 : decide ((12 : Int) < (n : Int)) = true := by rw [decide_eq_true_eq]; omega
        clear hgd
        go_enter Tryz.func82, Tryz.ntmps82
        go_wp2_with (go_at_call 148; refine (HN.out _).mono ?_; rintro e w9 ⟨rfl, rfl⟩)
        have hw3 : IntKind.i64.wrap (1 + min (n : Int) 12) = 1 + min (n : Int) 12 := IntWalk.i64_in _ (by omega)
        go_still_tail 9, (by kernel_rfl)
        clear hw3
        go_wp2_with (go_at_call 22; refine (HWR.out _).mono ?_; rintro e w2 ⟨v, rfl, hf, hb2⟩)
        go_ret
        refine ⟨v, rfl, ((Below.refl B w).drew).trans (hb2.mono hB), ?_⟩
        rw [HP.out]; exact hf
      · have hd12 : decide ((12 : Int) < (n : Int)) = false := by rw [decide_eq_false_iff_not]; omega
        obtain ⟨c, R', rfl, hbc⟩ : ∃ c R', R = c :: R' ∧ blk c = false := by
          rcases hgd with h | h | h
          · exact absurd h hn0
          · exact absurd h hn12
          · unfold dirOk at h
            split at h
            · exact ⟨_, _, rfl, h⟩
            · cases h
        have hBl := fun w => blanked_any c w
        rw [hbc] at hBl
        have HBL := Lib.hid hBl
        clear hgd hBl hbc
        go_enter Tryz.func82, Tryz.ntmps82
        go_wp2_with (first | (go_at_call 148; refine (HN.out _).mono ?_; rintro e w9 ⟨rfl, rfl⟩) | (go_at_call 149; refine (HBL.out _).mono ?_; rintro e w9 ⟨rfl, rfl⟩))
        have hw3 : IntKind.i64.wrap (1 + min (n : Int) 12) = 1 + min (n : Int) 12 := IntWalk.i64_in _ (by omega)
        go_still_tail 9, (by kernel_rfl)
        clear hw3
        go_wp2_with (go_at_call 22; refine (HWR.out _).mono ?_; rintro e w2 ⟨v, rfl, hf, hb2⟩)
        go_ret
        refine ⟨v, rfl, ((Below.refl B w).drew).trans (hb2.mono hB), ?_⟩
        rw [HP.out]; exact hf
  · have HP := Lib.hid (dir_go (s := s) hn hgd)
    have hR : (⟨l.toArray⟩ : ByteArray).extract (1 + n) l.length = ⟨(l.drop (1 + n)).toArray⟩ := ext_to_end l (1 + n)
    have hEw := ext_mk l 1 (1 + n)
    rw [show 1 + n - 1 = n by omega, List.drop_one] at hEw
    have HEW := Lib.hid hEw
    have hRl : (l.drop (1 + n)).length ≤ 70000 := by rw [List.length_drop]; omega
    obtain ⟨R, hRe⟩ : ∃ R, l.drop (1 + n) = R := ⟨_, rfl⟩
    rw [hRe] at hR hgd HP hRl
    have hn0' : ((n : Int) == 0) = false := by rw [beq_eq_false_iff_ne]; omega
    have hd12 : decide ((12 : Int) < (n : Int)) = false := by rw [decide_eq_false_iff_not]; omega
    have hdo : dirOk R = true := by
      cases h : dirOk R with
      | true => rfl
      | false => exact absurd (.inr (.inr h)) hgd
    obtain ⟨c, hBl⟩ : ∃ c : UInt8, (R = [] ∨ ∃ R', R = c :: R' ∧ blk c = true) := by
      unfold dirOk at hdo
      split at hdo
      · exact ⟨_, .inr ⟨_, rfl, hdo⟩⟩
      · exact ⟨0, .inl rfl⟩
    have hT := fun w => trim_any R w (by omega)
    obtain ⟨TB, hTB⟩ : ∃ TB, TB = trimB R := ⟨_, rfl⟩
    rw [← hTB] at hT
    have HT := Lib.hid hT
    have HTB := Lib.hid hTB
    have hFn := fin_any B b s w HL.out hB (by omega) h16
    unfold StepPost at hFn
    clear hRe hEw hn hgd hdo hT hTB
    cases hfin : s.fin with
    | error f =>
      rw [hfin] at hFn HP
      have HFN := Lib.hid hFn
      clear hFn hfin
      rcases hBl with rfl | ⟨R', rfl, hbc⟩
      all_goals
        try (have hBk := fun w => blanked_any c w
             rw [hbc] at hBk
             have HBL := Lib.hid hBk
             clear hBk hbc)
        go_enter Tryz.func82, Tryz.ntmps82
        go_wp2_with (first
          | (go_at_call 148; refine (HN.out _).mono ?_; rintro e w9 ⟨rfl, rfl⟩)
          | (go_at_call 149; refine (HBL.out _).mono ?_; rintro e w9 ⟨rfl, rfl⟩)
          | (go_at_call 26; refine HFN.out.mono ?_; rintro e w1 ⟨_, rfl, hb1, g, rfl, hgg⟩; have HGG := Lib.hid hgg; clear hgg)
          | fail)
        go_ret
        refine ⟨_, rfl, hb1, ?_⟩
        rw [HP.out]
        exact ⟨g, rfl, HGG.out⟩
    | ok s1 =>
      rw [hfin] at hFn HP
      have hfi := fin_in HM.out hfin
      have ho1 := hfi.1
      have HFN := Lib.hid hFn
      clear hFn hfin hfi
      rcases hBl with hRn | ⟨R', hRc, hbc⟩
      all_goals
        first
        | (have hBk := fun w => blanked_any c w
           rw [hbc] at hBk
           have HBL := Lib.hid hBk
           have HRC := Lib.hid hRc
           rw [hRc] at hR
           clear hBk hbc hRc)
        | (have HRC := Lib.hid hRn
           rw [hRn] at hR
           clear hRn)
        go_enter Tryz.func82, Tryz.ntmps82
        go_wp2_with (first
          | (go_at_call 148; refine (HN.out _).mono ?_; rintro e w9 ⟨rfl, rfl⟩)
          | (go_at_call 149; refine (HBL.out _).mono ?_; rintro e w9 ⟨rfl, rfl⟩)
          | (go_at_call 26; refine HFN.out.mono ?_; rintro e w1 ⟨_, rfl, hb1, rfl, vo1, vp1, hx1⟩; obtain ⟨d0, d1, d2, d3, d4, d5, d6, d7, d8, d9, d10, d11, df⟩ := lex_cells hx1; have hown := hx1.toks; have ag := hx1.far.1; have hlt1 := hx1.lt; have hy1 := hb1.size; have HX1 := Lib.hid hx1; have HB1 := Lib.hid hb1; clear hx1 hb1 d1 d2 d3 d4 d5 d6 d7 d8 d9 d10)
          | fail)
        have hT2 := HT.out
        rw [HRC.out] at hT2
        have HT2 := Lib.hid hT2
        clear hT2
        go_region_law
          ((first
            | (refine step_append_lies _ (by rfl) _ _ _ (by rfl) B 59 i0 _ 5 56 Tryz.underlying45 hi0 hz0 hz1 hz2 rfl (by omega) vo1 s1.out.length (toksC s1.out) (by rfl) ((owns_new hown.drew hbt).alloc _)
                ⟨wt.heap.size, 0, none⟩ 1 1 [.int .i64 1, .string ((⟨l.toArray⟩ : ByteArray).extract 1 (1 + n)), .string ⟨TB.toArray⟩, .int .i64 s1.line, .int .i64 1] (by rfl) (by rfl) (World.news_of_block (cs := #[.int .i64 1, .string ((⟨l.toArray⟩ : ByteArray).extract 1 (1 + n)), .string ⟨TB.toArray⟩, .int .i64 s1.line, .int .i64 1]) (t := 59) (fr := (0, 0)) (heap_alloc_new wt _)) (by simp [Value.oneCell'])
                (by omega) (by unfold maxLen; omega) (by omega) (by simp; omega) (wt.heap.size + 1) (by simp) ?_; intro gg cap w3 hown1 hgrow hat hlt3; have q0 := (hgrow.cell_far ⟨b, 0, none⟩ (by simp; omega) ag).trans (cell_al p0 _); have qf : ∀ i, w3.frozen? ⟨b, i, none⟩ = false := (fun i => free_of_heap ((hgrow.block b (by simp; omega) ag).trans ((HX1.out.drew.new hbt).alloc _).blk)))
            | (go_simp; go_at_call 81; refine (HT2.out _).mono ?_; rintro e wt ⟨rfl, hbt⟩; have hyt := hbt.size; simp only [World.size_drew] at hyt; have hbt2 : b < wt.heap.size := (by omega); have p0 : wt.cell? ⟨b, 0, none⟩ = some vo1 := (cell_new (w := w1.drew) (p := ⟨b, 0, none⟩) d0 hbt); have p11 : wt.cell? ⟨b, 11, none⟩ = some (.int .i64 s1.line) := (cell_new (w := w1.drew) (p := ⟨b, 11, none⟩) d11 hbt))
            | fail))
        all_goals
          have HB : Hid (Below B w w3) := Lib.hid ((((((HB1.out).drew).trans (hbt.mono (show B ≤ w1.heap.size by omega))).alloc (show B ≤ wt.heap.size by omega) _).grown hgrow (by simp; omega) fun k hk => (HX1.out.toks.lt k hk).1))
          have Hg := Lib.hid hgrow
          have Ho := Lib.hid hown1
          clear hgrow hown1
          go_wp2
          go_ret
          refine ⟨_, rfl, HB.out.setCell hbase _, ?_⟩
          rw [HP.out]
          have ho3 := Ho.out
          rw [show [.int .i64 1, Value.string ((⟨l.toArray⟩ : ByteArray).extract 1 (1 + n)), .string ⟨TB.toArray⟩, .int .i64 s1.line, .int .i64 1] = tokC ⟨1, l.tail.take n, trimB R, s1.line, 1⟩ from by rw [HEW.out, HTB.out]; rfl] at ho3
          exact ⟨rfl, _, vp1, ((HX1.out.drew.new hbt).alloc _).told (t := ⟨1, l.tail.take n, trimB R, s1.line, 1⟩) rfl Hg.out ho3⟩
end Go.Proofs.YtafhmagifoapfaaGreatDoor
