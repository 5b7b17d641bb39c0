/- mark: brace. -/
import Derived.Test.YtafhmagifoapfaaGreatDoorLexA
namespace Go.Proofs.YtafhmagifoapfaaGreatDoor
open Go.RowKit Find Bk
attribute [local go_sem ↓] Go.wp_at_zero Go.wp_at_succ
theorem Bk.LS.token_out (s : LS) (k : Nat) (x : Wd) (c : Nat) : (s.token k x c).opn = s.opn ∧ (s.token k x c).line = s.line ∧ (s.token k x c).ins = s.ins ∧ (s.token k x c).out.length ≤ s.out.length + 2 ∧ (s.token k x c).run = Tok.zero := by
  have h1 := s.settle_out
  have h2 := s.settle.flush_out
  unfold LS.token LS.push
  refine ⟨h2.2.1.trans h1.2.1, h2.2.2.1.trans h1.2.2.1, h2.2.2.2.1.trans h1.2.2.2, ?_, h2.2.2.2.2⟩
  have := h2.1
  rw [h1.1] at this
  simp; omega
/-- Whether what stands behind a brace's name may stand there. -/
def endOk (l : Wd) (k : Nat) : Bool := match l[k]? with
  | some c => blk c || c == 124 || c == 125
  | none => true
theorem brace_bad {s : LS} {l : Wd} {i n : Nat} (hn : nameF (l.drop (i + 1)) = n) (h : n = 0 ∨ 12 < n ∨ endOk l (i + 1 + n) = false) : s.brace l i = .error ⟨43, s.line, i + 1, []⟩ := by
  unfold LS.brace
  simp only [hn]
  rw [if_pos]
  exact h
theorem brace_nest {s : LS} {l : Wd} {i n : Nat} (hn : nameF (l.drop (i + 1)) = n) (h : ¬ (n = 0 ∨ 12 < n ∨ endOk l (i + 1 + n) = false)) (h16 : 16 ≤ s.opn.length) : s.brace l i = .error ⟨46, s.line, i + 1, (l.drop (i + 1)).take n⟩ := by
  unfold LS.brace
  simp only [hn]
  rw [if_neg (by exact h), if_pos h16]
theorem brace_good {s : LS} {l : Wd} {i n : Nat} (hn : nameF (l.drop (i + 1)) = n) (h : ¬ (n = 0 ∨ 12 < n ∨ endOk l (i + 1 + n) = false)) (h16 : ¬ 16 ≤ s.opn.length) : s.brace l i = .ok (1 + n, { s.token 3 ((l.drop (i + 1)).take n) (i + 1) with opn := s.opn ++ [⟨(l.drop (i + 1)).take n, s.line, i + 1⟩], fresh := 1 }) := by
  unfold LS.brace
  simp only [hn]
  rw [if_neg (by exact h), if_neg h16]
set_option maxHeartbeats 6400000 in
set_option maxRecDepth 100000 in
theorem brace_any (B b : Nat) (s : LS) (l : Wd) (i : Nat) (w : World) (h : LexAt B w b s) (hg : Glb w) (hB : B ≤ w.heap.size) (hl : l.length ≤ 1000000) (hi : i < l.length) (ht : s.run.text.length ≤ 3000000) (ho : s.out.length ≤ 2000000) :
    Calls Tryz.prog 210 #[.pointer (some ⟨b, 0, none⟩), .string ⟨l.toArray⟩, .int .i64 i] w (CharPost B b (s.brace l i) w) := by
  obtain ⟨i0, hi0, hz0, hz1, hz2⟩ := info_parts info_brc
  have HL := Lib.hid h
  have HG := Lib.hid hg
  obtain ⟨vo, vp, h⟩ := h
  obtain ⟨c0, c1, c2, c3, c4, c5, c6, c7, c8, c9, c10, c11, cf⟩ := lex_cells h
  have hblt := h.lt
  obtain ⟨av, cv, hvp⟩ := owns_slice h.brcs
  rw [hvp] at c1
  have hbase := h.base
  clear c0 c2 c3 c4 c5 c6 c7 c8 c9 c10 h hg hvp
  obtain ⟨n, hn⟩ : ∃ n, nameF (l.drop (i + 1)) = n := ⟨_, rfl⟩
  have hnl : n ≤ l.length - (i + 1) := by have := nameF_le (l.drop (i + 1)); rw [List.length_drop] at this; omega
  have hw1 : IntKind.i64.wrap ((i : Int) + 1) = (i : Int) + 1 := IntWalk.i64_in _ (by omega)
  have ht1 : ((i : Int) + 1).toNat = i + 1 := by omega
  have h01 : (0 : Int) ≤ (i : Int) + 1 := by omega
  have hle1 : (i : Int) + 1 ≤ (l.length : Int) := by omega
  have hw2 : IntKind.i64.wrap ((i : Int) + 1 + (n : Int)) = (i : Int) + 1 + (n : Int) := IntWalk.i64_in _ (by omega)
  have ht2 : ((i : Int) + 1 + (n : Int)).toNat = i + 1 + n := by omega
  have h02 : (0 : Int) ≤ (i : Int) + 1 + (n : Int) := by omega
  have hle2 : (i : Int) + 1 + (n : Int) ≤ (l.length : Int) := by omega
  have hle3 : (i : Int) + 1 ≤ (i : Int) + 1 + (n : Int) := by omega
  have hNm := fun w => name_any (⟨(l.drop (i + 1)).toArray⟩ : ByteArray) w (by rw [size_mk, List.length_drop]; omega)
  rw [show (⟨(l.drop (i + 1)).toArray⟩ : ByteArray).data.toList = l.drop (i + 1) from rfl, hn] at hNm
  rw [← ext_to_end] at hNm
  have HN := Lib.hid hNm
  clear hNm
  by_cases hn0 : n = 0
  · have HP := Lib.hid (brace_bad (s := s) hn (.inl hn0))
    subst hn0
    clear hn
    go_enter Tryz.func210, Tryz.ntmps210
    go_wp2_with (first
      | (go_at_call 148; refine (HN.out _).mono ?_; rintro e w9 ⟨rfl, rfl⟩)
      | (go_at_call 22; refine (wrong_any 43 s.line (i + 1) [] _ (by decide)).mono ?_; rintro e w2 ⟨v, rfl, hf, hb2⟩))
    go_ret2
    refine ⟨hb2.mono hB, ?_⟩
    rw [HP.out]
    exact ⟨v, rfl, hf⟩
  · have hn0' : ((n : Int) == 0) = false := by rw [beq_eq_false_iff_ne]; omega
    by_cases hn12 : 12 < n
    · have HP := Lib.hid (brace_bad (s := s) hn (.inr (.inl hn12)))
      have hd12 : decide ((12 : Int) < (n : Int)) = true := by rw [decide_eq_true_eq]; omega
      have HNE := Lib.hid hn
      clear hn hn0
      go_enter Tryz.func210, Tryz.ntmps210
      go_wp2_with (first
        | (go_at_call 148; refine (HN.out _).mono ?_; rintro e w9 ⟨rfl, rfl⟩)
        | (go_at_call 22; refine (wrong_any 43 s.line (i + 1) [] _ (by decide)).mono ?_; rintro e w2 ⟨v, rfl, hf, hb2⟩))
      go_ret2
      refine ⟨hb2.mono hB, ?_⟩
      rw [HP.out]
      exact ⟨v, rfl, hf⟩
    · have hd12 : decide ((12 : Int) < (n : Int)) = false := by rw [decide_eq_false_iff_not]; omega
      cases hok : endOk l (i + 1 + n) with
      | false =>
        have HP := Lib.hid (brace_bad (s := s) hn (.inr (.inr hok)))
        obtain ⟨hlt, hbl, h124, h125⟩ : ∃ h : i + 1 + n < l.length, blk l[i + 1 + n] = false ∧ l[i + 1 + n] ≠ 124 ∧ l[i + 1 + n] ≠ 125 := by
          unfold endOk at hok
          by_cases h : i + 1 + n < l.length
          · rw [List.getElem?_eq_getElem h] at hok
            simp only [Bool.or_eq_false_iff, beq_eq_false_iff_ne] at hok
            exact ⟨h, hok.1.1, hok.1.2, hok.2⟩
          · rw [List.getElem?_eq_none (by omega)] at hok; cases hok
        have hxb : (⟨l.toArray⟩ : ByteArray)[i + 1 + n]'(by rw [size_mk]; exact hlt) = l[i + 1 + n] := rfl
        have hBl := fun w => blanked_any l[i + 1 + n] w
        rw [hbl, ← hxb] at hBl
        have k124 : ((((⟨l.toArray⟩ : ByteArray)[i + 1 + n]'(by rw [size_mk]; exact hlt)).toNat : Int) != 124) = true := by
          rw [bne_iff_ne, hxb]
          exact fun h => h124 (UInt8.toNat_inj.1 (by show _ = 124; omega))
        have k125 : ((((⟨l.toArray⟩ : ByteArray)[i + 1 + n]'(by rw [size_mk]; exact hlt)).toNat : Int) != 125) = true := by
          rw [bne_iff_ne, hxb]
          exact fun h => h125 (UInt8.toNat_inj.1 (by show _ = 125; omega))
        have HBL := Lib.hid hBl
        have hd : decide ((i : Int) + 1 + (n : Int) < (l.length : Int)) = true := by rw [decide_eq_true_eq]; omega
        have hd2 : (i : Int) + 1 + (n : Int) < (l.length : Int) := by omega
        clear hn hn0 hok hbl h124 h125 hxb hBl
        go_enter Tryz.func210, Tryz.ntmps210
        go_wp2_with (first
          | (go_at_call 148; refine (HN.out _).mono ?_; rintro e w9 ⟨rfl, rfl⟩)
          | (go_at_call 149; refine (HBL.out _).mono ?_; rintro e w9 ⟨rfl, rfl⟩)
          | (go_at_call 22; refine (wrong_any 43 s.line (i + 1) [] _ (by decide)).mono ?_; rintro e w2 ⟨v, rfl, hf, hb2⟩))
        go_ret2
        refine ⟨hb2.mono hB, ?_⟩
        rw [HP.out]
        exact ⟨v, rfl, hf⟩
      | true =>
        have hnot : ¬ (n = 0 ∨ 12 < n ∨ endOk l (i + 1 + n) = false) := by
          rintro (h | h | h)
          · exact hn0 h
          · exact hn12 h
          · rw [hok] at h; cases h
        have hE := ext_mk l (i + 1) (i + 1 + n)
        rw [show i + 1 + n - (i + 1) = n by omega] at hE
        have HE := Lib.hid hE
        have hTok := fun w (h : LexAt B w b s) => token_any B b s 3 ((l.drop (i + 1)).take n) (i + 1) w h
        rw [← hE] at hTok
        have HT := Lib.hid hTok
        have HPe := Lib.hid (fun h16 => brace_nest (s := s) hn hnot h16)
        have HPg := Lib.hid (fun h16 => brace_good (s := s) hn hnot h16)
        have hto := s.token_out 3 ((l.drop (i + 1)).take n) (i + 1)
        have HTO := Lib.hid hto
        have hW := fun w => wrong_any 46 s.line (i + 1) ((l.drop (i + 1)).take n) w (by decide)
        rw [← hE] at hW
        have HW := Lib.hid hW
        obtain ⟨x, vb, hBl, hcase⟩ : ∃ (x : Int) (vb : Bool), (∀ w, Calls Tryz.prog 149 #[.int .u8 x] w fun e w' => e = .returned (.bool vb) ∧ w = w') ∧
            (decide ((i : Int) + 1 + (n : Int) < (l.length : Int)) = false ∨ ∃ h : i + 1 + n < l.length, x = (((⟨l.toArray⟩ : ByteArray)[i + 1 + n]'(by rw [size_mk]; exact h)).toNat : Int) ∧ (vb = true ∨ (vb = false ∧ (x != 124) = false) ∨ (vb = false ∧ (x != 124) = true ∧ (x != 125) = false))) := by
          unfold endOk at hok
          by_cases h : i + 1 + n < l.length
          · rw [List.getElem?_eq_getElem h] at hok
            refine ⟨(((⟨l.toArray⟩ : ByteArray)[i + 1 + n]'(by rw [size_mk]; exact h)).toNat : Int), _, fun w => blanked_any _ w, .inr ⟨h, rfl, ?_⟩⟩
            rw [show (⟨l.toArray⟩ : ByteArray)[i + 1 + n]'(by rw [size_mk]; exact h) = l[i + 1 + n] from rfl]
            generalize l[i + 1 + n] = c at *
            simp only [Bool.or_eq_true, beq_iff_eq] at hok
            cases hb : blk c with
            | true => exact .inl rfl
            | false =>
              right
              rw [hb] at hok
              rcases hok with (hok | hok) | hok
              · cases hok
              · left; subst hok; exact ⟨rfl, rfl⟩
              · right; subst hok; exact ⟨rfl, rfl, rfl⟩
          · exact ⟨((32 : UInt8).toNat : Int), _, fun w => blanked_any 32 w, .inl (by rw [decide_eq_false_iff_not]; omega)⟩
        have HBL := Lib.hid hBl
        clear hn hn0 hok hnot hE hTok hW hBl hto
        by_cases h16 : 16 ≤ s.opn.length
        · have h16' : decide ((16 : Int) ≤ (s.opn.length : Int)) = true := by rw [decide_eq_true_eq]; omega
          have HP := Lib.hid (HPe.out h16)
          clear h16
          rcases hcase with hd | ⟨hlt, hx, rfl | ⟨rfl, hc⟩ | ⟨rfl, hc, hc'⟩⟩
          all_goals
            first
            | (have hd : decide ((i : Int) + 1 + (n : Int) < (l.length : Int)) = true := by rw [decide_eq_true_eq]; omega
               have hd2 : (i : Int) + 1 + (n : Int) < (l.length : Int) := by omega
               subst hx)
            | skip
          all_goals
            go_enter Tryz.func210, Tryz.ntmps210
            go_wp2_with (first
              | (go_at_call 148; refine (HN.out _).mono ?_; rintro e w9 ⟨rfl, rfl⟩)
              | (go_at_call 149; refine (HBL.out _).mono ?_; rintro e w9 ⟨rfl, rfl⟩)
              | (go_at_call 22; refine (HW.out _).mono ?_; rintro e w2 ⟨v, rfl, hf, hb2⟩))
            go_ret2
            refine ⟨hb2.mono hB, ?_⟩
            rw [HP.out]
            exact ⟨v, rfl, hf⟩
        · have h16' : decide ((16 : Int) ≤ (s.opn.length : Int)) = false := by rw [decide_eq_false_iff_not]; omega
          have HP := Lib.hid (HPg.out h16)
          rcases hcase with hd | ⟨hlt, hx, rfl | ⟨rfl, hc⟩ | ⟨rfl, hc, hc'⟩⟩
          all_goals
            first
            | (have hd : decide ((i : Int) + 1 + (n : Int) < (l.length : Int)) = true := by rw [decide_eq_true_eq]; omega
               have hd2 : (i : Int) + 1 + (n : Int) < (l.length : Int) := by omega
               subst hx)
            | skip
          all_goals
            go_enter Tryz.func210, Tryz.ntmps210
            go_wp2_with (first
              | (go_at_call 148; refine (HN.out _).mono ?_; rintro e w9 ⟨rfl, rfl⟩)
              | (go_at_call 149; refine (HBL.out _).mono ?_; rintro e w9 ⟨rfl, rfl⟩)
              | (go_at_call 211; refine (HT.out _ HL.out hB (by omega) (by omega)).mono ?_; rintro e w1 ⟨rfl, ⟨vo1, vp1, hx1⟩, hb1⟩; obtain ⟨d0, d1, d2, d3, d4, d5, d6, d7, d8, d9, d10, d11, df⟩ := lex_cells hx1; rw [HTO.out.2.1] at d11; rw [HTO.out.1] at hx1; have hown := hx1.brcs; have ag := hx1.far.2.1; have hlt1 := hx1.lt; have HX1 := Lib.hid hx1; have HB1 := Lib.hid hb1; have hy1 := hb1.size; clear hx1 hb1 d0 d2 d3 d4 d5 d6 d7 d8 d9))
            go_region_law
              ((refine step_append_lies _ (by rfl) _ _ _ (by rfl) B 171 i0 _ 3 32 Tryz.underlying78 hi0 hz0 hz1 hz2 rfl (by omega) vp1 s.opn.length (brcsC s.opn) (by rfl) ((hown.drew).alloc _)
                  ⟨w1.heap.size, 0, none⟩ 1 1 [.string ((⟨l.toArray⟩ : ByteArray).extract (i + 1) (i + 1 + n)), .int .i64 s.line, .int .i64 ((i : Int) + 1)] (by rfl) (by rfl) (World.news_of_block (cs := #[.string ((⟨l.toArray⟩ : ByteArray).extract (i + 1) (i + 1 + n)), .int .i64 s.line, .int .i64 ((i : Int) + 1)]) (t := 171) (fr := (0, 0)) (heap_alloc_new w1 _)) (by simp [Value.oneCell'])
                  (by omega) (by unfold maxLen; omega) (by omega) (by simp; omega) (w1.heap.size + 1) (by simp) ?_; intro gg cap w3 hown1 hgrow hat hlt3; have q2 := hgrow.cell_far ⟨b, 1, none⟩ (by simp; omega) ag; have q2f := hgrow.frozen_far ⟨b, 1, none⟩ (by simp; omega) ag; simp at q2 q2f))
          all_goals
            have hk1 : w3.heap[b]? = some (.cells (lexC vo1 vp1 (s.token 3 ((l.drop (i + 1)).take n) (i + 1))) 81 (0, 0)) := by rw [hgrow.block b (by simp; omega) ag]; exact (HX1.out.drew.alloc _).blk
            have q10 : w3.cell? ⟨b, 10, none⟩ = some (.int .i64 (s.token 3 ((l.drop (i + 1)).take n) (i + 1)).fresh) := by rw [cell_of_heap hk1]; rfl
            have qf : ∀ i, w3.frozen? ⟨b, i, none⟩ = false := fun i => free_of_heap hk1
            clear hk1
            have HB : Hid (Below B w w3) := Lib.hid ((((HB1.out).drew).alloc (show B ≤ w1.heap.size by omega) _).grown hgrow (by simp; omega) fun k hk => (HX1.out.brcs.lt k hk).1)
            have Hg := Lib.hid hgrow
            have Ho := Lib.hid hown1
            clear hgrow hown1
            go_wp2
            go_ret2
            refine ⟨(HB.out.setCell hbase _).setCell hbase _, ?_⟩
            rw [HP.out]
            have ho3 := Ho.out
            rw [show [Value.string ((⟨l.toArray⟩ : ByteArray).extract (i + 1) (i + 1 + n)), .int .i64 s.line, .int .i64 ((i : Int) + 1)] = brcC ⟨(l.drop (i + 1)).take n, s.line, i + 1⟩ from by rw [HE.out]; rfl] at ho3
            exact ⟨by simp, _, _, ((HX1.out.drew.alloc _).opened (t := ⟨(l.drop (i + 1)).take n, s.line, i + 1⟩) rfl Hg.out ho3).set 10 (by omega) (.int .i64 1)⟩
end Go.Proofs.YtafhmagifoapfaaGreatDoor
