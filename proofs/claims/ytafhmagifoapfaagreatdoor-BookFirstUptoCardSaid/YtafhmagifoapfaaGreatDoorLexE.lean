/- mark: take. -/
import Derived.Test.YtafhmagifoapfaaGreatDoorLexC
import Derived.Test.YtafhmagifoapfaaGreatDoorLexD
import Derived.Test.YtafhmagifoapfaaGreatDoorPlain
import Derived.Test.YtafhmagifoapfaaGreatDoorStart
namespace Go.Proofs.YtafhmagifoapfaaGreatDoor
open Go.RowKit Find Bk
attribute [local go_sem ↓] Go.wp_at_zero Go.wp_at_succ
set_option maxHeartbeats 4000000 in
set_option maxRecDepth 100000 in
theorem take_any (B b : Nat) (s : LS) (l : Wd) (w : World) (m : Nat) (h : LexAt B w b s) (hg : Glb w) (h4 : 4 ≤ B) (hB : B ≤ w.heap.size) (hl : l.length ≤ 70000) (hu : (untab l).length ≤ 1000000) (hm : s.In m) (hmm : m ≤ 100000) :
    Calls Tryz.prog 25 #[.pointer (some ⟨b, 0, none⟩), .string ⟨l.toArray⟩] w (StepPost B b (s.take l) w) := by
  obtain ⟨i0, hi0, hz0, hz1, hz2⟩ := info_parts info_tok
  have HL := Lib.hid h
  have HG := Lib.hid hg
  have hbase : B ≤ b := by obtain ⟨_, _, hx⟩ := h; exact hx.base
  have hoo := hm.out
  have h16 := hm.opn
  have HM := Lib.hid hm
  have hck := check_any B b s l w h hg (by omega) hu
  unfold CheckPost at hck
  clear h hg hm
  cases hc : s.check l with
  | some f =>
    have HP := Lib.hid (show s.take l = .error f from by unfold LS.take; rw [hc])
    rw [hc] at hck
    have HC := Lib.hid hck
    clear hck hc
    go_enter Tryz.func25, Tryz.ntmps25
    go_wp2_with (go_at_call 79; refine HC.out.mono ?_; rintro e w1 ⟨_, rfl, hb1, g, rfl, hgg⟩; have HGG := Lib.hid hgg; have HB1 := Lib.hid hb1; clear hgg hb1)
    go_ret
    refine ⟨_, rfl, HB1.out.mono hB, ?_⟩
    rw [HP.out]
    exact ⟨g, rfl, HGG.out⟩
  | none =>
    rw [hc] at hck
    have HC := Lib.hid hck
    have hhash := fun w => hash_any l w
    have hT := fun w => trim_any l w (by omega)
    have HTK := Lib.hid (show s.take l = if Lib.hasPrefix l [35] then .ok s else if trimB l = [] then s.para else if l.getD 0 0 = 46 then s.directive l else s.text l from by unfold LS.take; rw [hc])
    clear hck hc
    cases hh : Lib.hasPrefix l [35] with
    | true =>
      rw [hh] at hhash
      have HH := Lib.hid hhash
      have HP := Lib.hid (show s.take l = .ok s from by rw [HTK.out, if_pos hh])
      clear hhash hh hT
      go_enter Tryz.func25, Tryz.ntmps25
      go_wp2_with (first
        | (go_at_call 79; refine HC.out.mono ?_; rintro e w1 ⟨_, rfl, hb1, rfl⟩; have HB1 := Lib.hid hb1; clear hb1)
        | (go_at_call 80; refine (HH.out _).mono ?_; rintro e w9 ⟨rfl, rfl⟩)
        | fail)
      go_ret
      refine ⟨_, rfl, HB1.out.mono hB, ?_⟩
      rw [HP.out]
      exact ⟨rfl, lexAt_new HL.out HB1.out⟩
    | false =>
      rw [hh] at hhash
      have HH := Lib.hid hhash
      obtain ⟨TB, hTB⟩ : ∃ TB, TB = trimB l := ⟨_, rfl⟩
      rw [← hTB] at hT
      have HT := Lib.hid hT
      have hp1 : s.take l = if TB = [] then s.para else if l.getD 0 0 = 46 then s.directive l else s.text l := by rw [HTK.out, hh, hTB]; rfl
      have HTB := Lib.hid hTB
      clear hhash hh hT hTB
      cases TB with
      | nil =>
        have hp2 : s.take l = s.para := by rw [hp1, if_pos rfl]
        clear hp1
        have hFn := fun (w' : World) (h : LexAt B w' b s) (hB' : B ≤ w'.heap.size) => fin_any B b s w' h hB' (by omega) h16
        unfold StepPost at hFn
        cases hfin : s.fin with
        | error f =>
          have HP := Lib.hid (show s.take l = .error f from by rw [hp2]; unfold LS.para; rw [hfin])
          rw [hfin] at hFn
          have HFN := Lib.hid hFn
          clear hFn hfin hp2
          go_enter Tryz.func25, Tryz.ntmps25
          go_wp2_with (first
            | (go_at_call 79; refine HC.out.mono ?_; rintro e w1 ⟨_, rfl, hb1, rfl⟩; have HB1 := Lib.hid hb1; clear hb1)
            | (go_at_call 80; refine (HH.out _).mono ?_; rintro e w9 ⟨rfl, rfl⟩)
            | (go_at_call 81; refine (HT.out _).mono ?_; rintro e w2 ⟨rfl, hb2⟩; have HB2 := Lib.hid (HB1.out.trans (hb2.mono HB1.out.size)); clear hb2)
            | (go_at_call 26; refine (HFN.out _ (lexAt_new HL.out HB2.out) (Nat.le_trans hB HB2.out.size)).mono ?_; rintro e w3 ⟨_, rfl, hb3, g, rfl, hgg⟩; have HGG := Lib.hid hgg; have HB3 := Lib.hid ((HB2.out.mono hB).trans hb3); clear hgg hb3)
            | fail)
          go_ret
          refine ⟨_, rfl, HB3.out, ?_⟩
          rw [HP.out]
          exact ⟨g, rfl, HGG.out⟩
        | ok s1 =>
          have HP := Lib.hid (show s.take l = .ok (s1.push ⟨2, [], [], s1.line, 1⟩) from by rw [hp2]; unfold LS.para; rw [hfin])
          have hfi := fin_in HM.out hfin
          have ho1 := hfi.1
          rw [hfin] at hFn
          have HFN := Lib.hid hFn
          clear hFn hfin hp2 hfi
          go_enter Tryz.func25, Tryz.ntmps25
          go_wp2_with (first
            | (go_at_call 79; refine HC.out.mono ?_; rintro e w1 ⟨_, rfl, hb1, rfl⟩; have HB1 := Lib.hid hb1; clear hb1)
            | (go_at_call 80; refine (HH.out _).mono ?_; rintro e w9 ⟨rfl, rfl⟩)
            | (go_at_call 81; refine (HT.out _).mono ?_; rintro e w2 ⟨rfl, hb2⟩; have HB2 := Lib.hid (HB1.out.trans (hb2.mono HB1.out.size)); clear hb2)
            | (go_at_call 26; refine (HFN.out _ (lexAt_new HL.out HB2.out) (Nat.le_trans hB HB2.out.size)).mono ?_; rintro e w3 ⟨_, rfl, hb3, rfl, vo1, vp1, hx1⟩; obtain ⟨d0, d1, d2, d3, d4, d5, d6, d7, d8, d9, d10, d11, df⟩ := lex_cells hx1; have hown := hx1.toks; have ag := hx1.far.1; have hlt1 := hx1.lt; have HX1 := Lib.hid hx1; have HB3 := Lib.hid ((HB2.out.mono hB).trans hb3); have hy3 := HB3.out.size; clear hx1 hb3 d1 d2 d3 d4 d5 d6 d7 d8 d9 d10)
            | fail)
          go_region_law
            ((refine step_append_lies _ (by rfl) _ _ _ (by rfl) B 59 i0 _ 5 56 Tryz.underlying45 hi0 hz0 hz1 hz2 rfl (by omega) vo1 s1.out.length (toksC s1.out) (by rfl) ((hown.drew).alloc _)
                ⟨w3.heap.size, 0, none⟩ 1 1 (tokC ⟨2, [], [], s1.line, 1⟩) (by rfl) (by rfl) (World.news_of_block (cs := (tokC ⟨2, [], [], s1.line, 1⟩).toArray) (t := 59) (fr := (0, 0)) (heap_alloc_new w3 _)) (by simp [Value.oneCell', tokC])
                (by omega) (by unfold maxLen; omega) (by omega) (by simp; omega) (w3.heap.size + 1) (by simp) ?_; intro gg cap w4 hown1 hgrow hat hlt4; have q2 := hgrow.cell_far ⟨b, 0, none⟩ (by simp; omega) ag; have q2f := hgrow.frozen_far ⟨b, 0, none⟩ (by simp; omega) ag; simp at q2 q2f))
          all_goals
            have HB : Hid (Below B w w4) := Lib.hid ((((HB3.out).drew).alloc (show B ≤ w3.heap.size by omega) _).grown hgrow (by simp; omega) fun k hk => (HX1.out.toks.lt k hk).1)
            have Hg := Lib.hid hgrow
            have Ho := Lib.hid hown1
            clear hgrow hown1
            go_wp2
            go_ret
            refine ⟨_, rfl, HB.out.setCell hbase _, ?_⟩
            rw [HP.out]
            exact ⟨rfl, _, vp1, (HX1.out.drew.alloc _).told (t := ⟨2, [], [], s1.line, 1⟩) rfl Hg.out Ho.out⟩
      | cons tc tl =>
        have hne : l ≠ [] := by
          intro e
          have := HTB.out
          rw [e] at this
          cases this
        have hlp : 0 < l.length := List.length_pos_iff.2 hne
        have hp2 : s.take l = if l.getD 0 0 = 46 then s.directive l else s.text l := by rw [hp1, if_neg (by simp)]
        have hx0 : (⟨l.toArray⟩ : ByteArray)[0]'(by rw [size_mk]; exact hlp) = l.getD 0 0 := by
          rw [List.getD_eq_getElem?_getD, List.getElem?_eq_getElem hlp]; rfl
        have e46 : ((((⟨l.toArray⟩ : ByteArray)[0]'(by rw [size_mk]; exact hlp)).toNat : Int) == 46) = (l.getD 0 0 == 46) := by rw [hx0]; exact eq_u8 (n := 46) (by omega)
        clear hp1 hne hx0
        by_cases h46 : l.getD 0 0 = 46
        · have hp3 : s.take l = s.directive l := by rw [hp2, if_pos h46]
          rw [show (l.getD 0 0 == 46) = true from by simpa using h46] at e46
          have hdr := fun (w' : World) (h : LexAt B w' b s) (hg : Glb w') (hB' : B ≤ w'.heap.size) => directive_any B b s l w' m h hg h4 hB' hl (by omega) HM.out hmm
          rw [← hp3] at hdr
          have HD := Lib.hid hdr
          clear hp2 hp3 h46 hdr
          go_enter Tryz.func25, Tryz.ntmps25
          go_wp2_with (first
            | (go_at_call 79; refine HC.out.mono ?_; rintro e w1 ⟨_, rfl, hb1, rfl⟩; have HB1 := Lib.hid hb1; clear hb1)
            | (go_at_call 80; refine (HH.out _).mono ?_; rintro e w9 ⟨rfl, rfl⟩)
            | (go_at_call 81; refine (HT.out _).mono ?_; rintro e w2 ⟨rfl, hb2⟩; have HB2 := Lib.hid (HB1.out.trans (hb2.mono HB1.out.size)); clear hb2)
            | (go_at_call 82; refine (HD.out _ (lexAt_new HL.out HB2.out) (HG.out.below HB2.out) (Nat.le_trans hB HB2.out.size)).mono ?_; rintro e w3 ⟨v, rfl, hb3, hr⟩; have HR := Lib.hid hr; have HB3 := Lib.hid ((HB2.out.mono hB).trans hb3); clear hr hb3)
            | fail)
          go_ret
          exact ⟨v, rfl, HB3.out, HR.out⟩
        · have hp3 : s.take l = s.text l := by rw [hp2, if_neg h46]
          rw [show (l.getD 0 0 == 46) = false from by simpa using h46] at e46
          have hdr := fun (w' : World) (h : LexAt B w' b s) (hg : Glb w') (hB' : B ≤ w'.heap.size) => text_any B b s l w' m h hg h4 hB' hl HM.out hmm
          rw [← hp3] at hdr
          have HD := Lib.hid hdr
          clear hp2 hp3 h46 hdr
          go_enter Tryz.func25, Tryz.ntmps25
          go_wp2_with (first
            | (go_at_call 79; refine HC.out.mono ?_; rintro e w1 ⟨_, rfl, hb1, rfl⟩; have HB1 := Lib.hid hb1; clear hb1)
            | (go_at_call 80; refine (HH.out _).mono ?_; rintro e w9 ⟨rfl, rfl⟩)
            | (go_at_call 81; refine (HT.out _).mono ?_; rintro e w2 ⟨rfl, hb2⟩; have HB2 := Lib.hid (HB1.out.trans (hb2.mono HB1.out.size)); clear hb2)
            | (go_at_call 83; refine (HD.out _ (lexAt_new HL.out HB2.out) (HG.out.below HB2.out) (Nat.le_trans hB HB2.out.size)).mono ?_; rintro e w3 ⟨v, rfl, hb3, hr⟩; have HR := Lib.hid hr; have HB3 := Lib.hid ((HB2.out.mono hB).trans hb3); clear hr hb3)
            | fail)
          go_ret
          exact ⟨v, rfl, HB3.out, HR.out⟩
theorem indexByte_lt (l : List UInt8) (c : UInt8) : Lib.indexByte l c < l.length := by
  induction l with
  | nil => show (-1 : Int) < 0; decide
  | cons b l ih =>
    unfold Lib.indexByte
    have hg := Lib.indexByte_ge l c
    simp only [List.length_cons]
    repeat' split
    all_goals (push_cast; omega)
theorem index_lt (l : List UInt8) (c : UInt8) : Lib.index l [c] < l.length := by rw [Lib.index_one]; exact indexByte_lt l c
theorem replaceK_len (c d : UInt8) : ∀ (k : Nat) (s : Wd), (Lib.replaceK [c] [d] k s).length ≤ s.length
  | 0, s => Nat.le_refl _
  | k + 1, s => by
    unfold Lib.replaceK
    split
    · exact Nat.le_refl _
    · have h1 := index_lt s c
      have h2 := replaceK_len c d k (s.drop ((Lib.index s [c]).toNat + [c].length))
      rename_i hne
      have h3 := Lib.index_ge s [c]
      have h4 : Lib.index s [c] ≠ -1 := fun e => hne (by rw [e]; rfl)
      simp only [List.length_append, List.length_take, List.length_drop, List.length_singleton] at h2 ⊢
      omega
theorem untab_len (l : Wd) : (untab l).length ≤ l.length := by
  unfold untab Lib.replaceAll Lib.replace
  split
  · exact Nat.le_refl _
  · exact replaceK_len _ _ _ _
theorem chop_len (l : Wd) : (chopCR l).length ≤ l.length := by
  unfold chopCR Lib.trimSuffix
  split
  · exact List.length_take_le' _ _
  · exact Nat.le_refl _
theorem cut_len {t : Wd} (h : t ≠ []) : (cutLn t).2.1.length ≤ t.length ∧ max 1 (chopCR (cutLn t).1).length ≤ t.length - (cutLn t).2.1.length ∧ ((cutLn t).2.2 = true ∨ ((cutLn t).2.2 = false ∧ (cutLn t).2.1 = [])) := by
  have hp := List.length_pos_iff.2 h
  have hc := chop_len (cutLn t).1
  unfold cutLn Lib.cut at *
  have hi := index_lt t 10
  split at hc
  · rename_i h0
    rw [if_pos h0]
    simp only [List.length_take, List.length_drop, List.length_singleton] at hc ⊢
    exact ⟨by omega, by omega, .inl (by simp)⟩
  · rename_i h0
    rw [if_neg h0]
    simp only [List.length_nil] at hc ⊢
    exact ⟨by omega, by omega, .inr (by simp)⟩
theorem cut_len1 (t : Wd) : (cutLn t).1.length ≤ t.length := by
  unfold cutLn Lib.cut
  split
  · exact List.length_take_le' _ _
  · exact Nat.le_refl _
theorem lines_step {f : Nat} {s : LS} {t : Wd} (h : t ≠ []) : LS.lines (f + 1) s t = match { s with line := s.line + 1 }.take (chopCR (cutLn t).1) with
    | .error e => .error e
    | .ok s => LS.lines f s (cutLn t).2.1 := by
  show (if t = [] then _ else _) = _
  rw [if_neg h]; rfl
theorem lines_end (f : Nat) (s : LS) : LS.lines f s [] = .ok s := by
  cases f with
  | zero => rfl
  | succ f =>
    show (if ([] : Wd) = [] then _ else _) = _
    rw [if_pos rfl]
/-- What Lex tells. -/
def LexEnd (t : Wd) (w : World) (e : Ending) (w' : World) : Prop := Below w.heap.size w w' ∧ (match lexM t with
  | .error f => ∃ v, e = .returned (.tuple #[.slice none 0 0, v]) ∧ FltV w' v f
  | .ok l => ∃ v, e = .returned (.tuple #[v, .nilIface]) ∧ w'.ownsRow w.heap.size 59 5 v l.length (toksC l))
set_option maxHeartbeats 4000000 in
set_option maxRecDepth 100000 in
theorem lex_any (T : Wd) (w : World) (hg : Glb w) (hT : T.length ≤ 1000000) :
    Calls Tryz.prog 10 #[.string ⟨T.toArray⟩] w (LexEnd T w) := by
  have HG := Lib.hid hg
  have h4 := hg.size
  clear hg
  by_cases hlong : 65536 < T.length
  · have HP := Lib.hid (show lexM T = .error ⟨2, 0, 0, []⟩ from by unfold lexM; rw [if_pos hlong])
    go_enter Tryz.func10, Tryz.ntmps10
    go_wp2_with (go_at_call 22; refine (wrong_any 2 0 0 [] _ (by decide)).mono ?_; rintro e w1 ⟨v, rfl, hf, hb1⟩)
    go_ret2
    refine ⟨hb1, ?_⟩
    rw [HP.out]
    exact ⟨v, rfl, hf⟩
  · have HP := Lib.hid (show lexM T = match LS.lines (T.length + 1) LS.zero T with
        | .error e => .error e
        | .ok s => match s.fin with
          | .error e => .error e
          | .ok s => .ok s.out from by unfold lexM; rw [if_neg hlong]; rfl)
    have HST : Hid (LexAt w.heap.size (w.alloc (.cells (lexC (.slice none 0 0) (.slice none 0 0) LS.zero) 81)) w.heap.size LS.zero) :=
      Lib.hid ⟨.slice none 0 0, .slice none 0 0, heap_alloc_new _ _, rfl, rfl, rfl, World.ownsRow_nil _ _ _ _, World.ownsRow_nil _ _ _ _, Nat.le_refl _⟩
    have HBS : Hid (Below w.heap.size w (w.alloc (.cells (lexC (.slice none 0 0) (.slice none 0 0) LS.zero) 81))) := Lib.hid ((Below.refl _ _).alloc (Nat.le_refl _) _)
    go_enter Tryz.func10, Tryz.ntmps10
    go_wp2_with fail
    go_loopw [0, 5, 6, 7, 8] (fun sv _ _ _ _ wr => ∃ (t : Wd) (ls : LS) (f : Nat), sv = .string ⟨t.toArray⟩ ∧ t.length < f ∧ t.length ≤ T.length ∧ LexAt w.heap.size wr w.heap.size ls ∧ Hid (LS.lines (T.length + 1) LS.zero T = LS.lines f ls t) ∧ ls.In (T.length - t.length) ∧ ls.line ≤ T.length - t.length ∧ Below w.heap.size w wr) (fun sv _ _ _ _ _ => match sv with | .string s => s.size | _ => 0)
    case atStart => exact ⟨T, LS.zero, T.length + 1, rfl, by omega, Nat.le_refl _, HST.out, Lib.hid rfl, ⟨Nat.zero_le _, Nat.zero_le _, Nat.zero_le _⟩, Nat.zero_le _, HBS.out⟩
    case round =>
      obtain ⟨t, ls, f, rfl, hf, htT, hx, heq, hin, hln, hbw⟩ := hrel
      have HX := Lib.hid hx
      have HBW := Lib.hid hbw
      have hzw := hbw.size
      have HIN := Lib.hid hin
      clear hbw hin hx
      by_cases ht0 : t = []
      · subst ht0
        have hlines : lexM T = match ls.fin with
            | .error e => .error e
            | .ok s => .ok s.out := by rw [HP.out, heq.out, lines_end]
        have hFn := fin_any w.heap.size w.heap.size ls wr HX.out hzw (by have := HIN.out.out; omega) HIN.out.opn
        unfold StepPost at hFn
        cases hfin : ls.fin with
        | error f =>
          rw [hfin] at hFn hlines
          have HE := Lib.hid hlines
          have HFN := Lib.hid hFn
          clear hFn hfin hlines
          go_wp2_with (go_at_call 26; refine HFN.out.mono ?_; rintro e w1 ⟨_, rfl, hb1, g, rfl, hgg⟩; have HGG := Lib.hid hgg; have HB1 := Lib.hid (HBW.out.trans hb1); clear hgg hb1)
          go_ret2
          refine ⟨HB1.out, ?_⟩
          rw [HE.out]
          exact ⟨_, rfl, g, rfl, HGG.out⟩
        | ok s1 =>
          rw [hfin] at hFn hlines
          have HE := Lib.hid hlines
          have HFN := Lib.hid hFn
          clear hFn hfin hlines
          go_wp2_with (go_at_call 26; refine HFN.out.mono ?_; rintro e w1 ⟨_, rfl, hb1, rfl, vo1, vp1, hx1⟩; obtain ⟨d0, d1, d2, d3, d4, d5, d6, d7, d8, d9, d10, d11, df⟩ := lex_cells hx1; have HX1 := Lib.hid hx1; have HB1 := Lib.hid (HBW.out.trans hb1); clear hx1 hb1 d1 d2 d3 d4 d5 d6 d7 d8 d9 d10 d11)
          go_ret2
          refine ⟨HB1.out, ?_⟩
          rw [HE.out]
          exact ⟨vo1, rfl, HX1.out.toks⟩
      · have htp := List.length_pos_iff.2 ht0
        have hd0 : decide ((0 : Int) < (t.length : Int)) = true := by rw [decide_eq_true_eq]; omega
        obtain ⟨f', rfl⟩ : ∃ f', f = f' + 1 := ⟨f - 1, by omega⟩
        have hst := lines_step (f := f') (s := ls) ht0
        obtain ⟨hc1, hc2, hc3⟩ := cut_len ht0
        have hcut := cut_nl t wr (HG.out.of HBW.out h4) (by omega)
        obtain ⟨L, hL⟩ : ∃ L, (cutLn t).1 = L := ⟨_, rfl⟩
        obtain ⟨R, hR⟩ : ∃ R, (cutLn t).2.1 = R := ⟨_, rfl⟩
        rw [hL, hR] at hst hcut hc2
        rw [hR] at hc1 hc3
        obtain ⟨ed, hed⟩ : ∃ ed, (cutLn t).2.2 = ed := ⟨_, rfl⟩
        rw [hed] at hcut hc3
        have HCUT := Lib.hid hcut
        have hcr := fun w => cr_any L w (by
          have := cut_len1 t
          rw [hL] at this; omega)
        obtain ⟨CL, hCL⟩ : ∃ CL, chopCR L = CL := ⟨_, rfl⟩
        rw [hCL] at hcr hst hc2
        have HCR := Lib.hid hcr
        have hul := untab_len CL
        have hTk := fun (w' : World) (h : LexAt w.heap.size w' w.heap.size { ls with line := ls.line + 1 }) (hg : Glb w') (hB' : w.heap.size ≤ w'.heap.size) => take_any w.heap.size w.heap.size { ls with line := ls.line + 1 } CL w' (T.length - t.length) h hg h4 hB' (by omega) (by omega) ⟨HIN.out.out, HIN.out.text, HIN.out.opn⟩ (by omega)
        unfold StepPost at hTk
        have HST0 := Lib.hid (show LS.lines (T.length + 1) LS.zero T = LS.lines (f' + 1) ls t from heq.out)
        clear hcut hL hR hed ht0 hcr hCL
        cases htk : LS.take { ls with line := ls.line + 1 } CL with
        | error fl =>
          rw [htk] at hst hTk
          have HE := Lib.hid (show lexM T = .error fl from by rw [HP.out, HST0.out, hst])
          have HTK := Lib.hid hTk
          clear hst hTk htk
          rcases hc3 with rfl | ⟨rfl, rfl⟩
          all_goals
            go_wp2_with (first
              | (go_at_call 23; refine HCUT.out.mono ?_; rintro e w1 ⟨rfl, hb1⟩; obtain ⟨vo1, vp1, hx1⟩ := lexAt_new HX.out hb1; obtain ⟨d0, d1, d2, d3, d4, d5, d6, d7, d8, d9, d10, d11, df⟩ := lex_cells hx1; have HX1 := Lib.hid hx1; have HB1 := Lib.hid (HBW.out.trans (hb1.mono hzw)); clear hx1 hb1 d0 d1 d2 d3 d4 d5 d6 d7 d8 d9 d10)
              | (go_at_call 24; refine (HCR.out _).mono ?_; rintro e w9 ⟨rfl, rfl⟩)
              | (go_at_call 25; refine (HTK.out _ ⟨vo1, vp1, HX1.out.set 11 (by omega) (.int .i64 (ls.line + 1))⟩ (HG.out.of (HB1.out.setCell (Nat.le_refl _) _) h4) (by have := HB1.out.size; simp; omega)).mono ?_; rintro e w2 ⟨_, rfl, hb2, g, rfl, hgg⟩; have HGG := Lib.hid hgg; have HB2 := Lib.hid ((HB1.out.setCell (Nat.le_refl _) _).trans hb2); clear hgg hb2)
              | fail)
            go_ret2
            refine ⟨HB2.out, ?_⟩
            rw [HE.out]
            exact ⟨_, rfl, g, rfl, HGG.out⟩
        | ok s2 =>
          rw [htk] at hst hTk
          obtain ⟨hi2, hl2⟩ := take_in (s := { ls with line := ls.line + 1 }) (m := T.length - t.length) ⟨HIN.out.out, HIN.out.text, HIN.out.opn⟩ htk
          have hi3 : s2.In (T.length - R.length) := hi2.mono (by omega)
          have hl3 : s2.line ≤ T.length - R.length := by rw [hl2]; show ls.line + 1 ≤ _; omega
          have HI3 := Lib.hid hi3
          have HE := Lib.hid (show LS.lines (T.length + 1) LS.zero T = LS.lines f' s2 R from by rw [HST0.out, hst])
          have HTK := Lib.hid hTk
          clear hst hTk htk hi2 hl2 hi3
          rcases hc3 with rfl | ⟨rfl, rfl⟩
          all_goals
            go_wp2_with (first
              | (go_at_call 23; refine HCUT.out.mono ?_; rintro e w1 ⟨rfl, hb1⟩; obtain ⟨vo1, vp1, hx1⟩ := lexAt_new HX.out hb1; obtain ⟨d0, d1, d2, d3, d4, d5, d6, d7, d8, d9, d10, d11, df⟩ := lex_cells hx1; have HX1 := Lib.hid hx1; have HB1 := Lib.hid (HBW.out.trans (hb1.mono hzw)); clear hx1 hb1 d0 d1 d2 d3 d4 d5 d6 d7 d8 d9 d10)
              | (go_at_call 24; refine (HCR.out _).mono ?_; rintro e w9 ⟨rfl, rfl⟩)
              | (go_at_call 25; refine (HTK.out _ ⟨vo1, vp1, HX1.out.set 11 (by omega) (.int .i64 (ls.line + 1))⟩ (HG.out.of (HB1.out.setCell (Nat.le_refl _) _) h4) (by have := HB1.out.size; simp; omega)).mono ?_; rintro e w2 ⟨_, rfl, hb2, rfl, hx2⟩; have HX2 := Lib.hid hx2; have HB2 := Lib.hid ((HB1.out.setCell (Nat.le_refl _) _).trans hb2); clear hx2 hb2)
              | fail)
            go_roundw
            case rel => exact ⟨_, s2, f', rfl, by first | omega | (simp only [List.length_nil]; omega), by first | omega | (simp only [List.length_nil]; omega), HX2.out, HE, HI3.out, hl3, HB2.out⟩
            case measure =>
              simp only [size_mk, List.length_nil]
              omega
end Go.Proofs.YtafhmagifoapfaaGreatDoor
namespace Go.Proofs.YtafhmagifoapfaaGreatDoor
open Go.RowKit Find Bk
/-- How many braces are open behind tokens; none: one too many is closed, or a line ends within one. -/
def dep : Nat → List Tok → Option Nat
  | d, [] => some d
  | d, t :: l => if t.kind = 3 then dep (d + 1) l else if t.kind = 5 then (if d = 0 then none else dep (d - 1) l) else if t.kind = 1 ∨ t.kind = 2 then (if d = 0 then dep 0 l else none) else dep d l
theorem dep_app : ∀ (l m : List Tok) (d : Nat), dep d (l ++ m) = (dep d l).bind fun e => dep e m
  | [], m, d => rfl
  | t :: l, m, d => by
    simp only [List.cons_append, dep]
    repeat' split
    all_goals first | rfl | exact dep_app l m _
theorem dep_snoc {l : List Tok} {d e : Nat} (h : dep d l = some e) (t : Tok) : dep d (l ++ [t]) = dep e [t] := by rw [dep_app, h]; rfl
structure Bk.LS.Wf (s : LS) (X : Nat) : Prop where
  txt : ∀ t ∈ s.out, t.text.length ≤ X
  knd : s.run.text ≠ [] → s.run.kind = 6
  dep : dep 0 s.out = some s.opn.length
  ins : s.ins = 0 → s.opn = []
theorem Bk.LS.Wf.put {s : LS} {X : Nat} (h : s.Wf X) (x : Wd) (l c : Nat) : (s.put x l c).Wf X := by
  have hp := s.put_out x l c
  refine ⟨by rw [hp.1]; exact h.txt, ?_, by rw [hp.1, hp.2.1]; exact h.dep, by rw [hp.2.1, hp.2.2.2]; exact h.ins⟩
  unfold LS.put
  split
  · intro _; rfl
  · rename_i hne
    intro _; exact h.knd hne
theorem Bk.LS.Wf.settle {s : LS} {X : Nat} (h : s.Wf X) : s.settle.Wf X := by
  unfold LS.settle
  split
  · exact ⟨h.txt, h.knd, h.dep, h.ins⟩
  · have h1 := h.put [32] s.b0 s.b1
    exact ⟨h1.txt, h1.knd, h1.dep, h1.ins⟩
theorem Bk.LS.Wf.flush {s : LS} {X : Nat} (h : s.Wf X) (hx : s.run.text.length ≤ X) : s.flush.Wf X := by
  unfold LS.flush
  split
  · exact ⟨h.txt, fun e => (e rfl).elim, h.dep, h.ins⟩
  · rename_i hne
    refine ⟨fun t ht => ?_, fun e => (e rfl).elim, ?_, h.ins⟩
    · simp only [List.mem_append, List.mem_singleton] at ht
      rcases ht with ht | rfl
      · exact h.txt t ht
      · exact hx
    · show Go.Proofs.YtafhmagifoapfaaGreatDoor.dep 0 (s.out ++ [s.run]) = _
      rw [dep_snoc h.dep]
      have hk := h.knd hne
      simp [Go.Proofs.YtafhmagifoapfaaGreatDoor.dep, hk]
theorem Bk.LS.Wf.wait {s : LS} {X : Nat} (h : s.Wf X) (c : Nat) : (s.wait c).Wf X := by
  unfold LS.wait
  split
  · exact ⟨h.txt, h.knd, h.dep, h.ins⟩
  · exact h
/-- A token more, that is no brace. -/
theorem Bk.LS.Wf.token {s : LS} {X : Nat} (h : s.Wf X) (hx : s.run.text.length + 1 ≤ X) (k : Nat) (nm : Wd) (c : Nat) : s.settle.flush.Wf X ∧ (s.token k nm c).out = s.settle.flush.out ++ [⟨k, nm, [], s.settle.flush.line, c⟩] ∧ s.settle.flush.opn = s.opn ∧ s.settle.flush.ins = s.ins := by
  have hs := h.settle.flush (by have := s.settle_text; omega)
  refine ⟨hs, ?_, (s.settle.flush_out.2.1).trans s.settle_out.2.1, (s.settle.flush_out.2.2.2.1).trans s.settle_out.2.2.2⟩
  unfold LS.token LS.push
  simp only
  rw [s.settle.flush_out.2.2.1, s.settle_out.2.2.1]
theorem snoc_txt {l : List Tok} {X : Nat} (h : ∀ t ∈ l, t.text.length ≤ X) (a : Tok) (ha : a.text.length ≤ X) : ∀ t ∈ l ++ [a], t.text.length ≤ X := by
  intro t ht
  simp only [List.mem_append, List.mem_singleton] at ht
  rcases ht with ht | rfl
  · exact h t ht
  · exact ha
theorem token_run (s : LS) (k : Nat) (nm : Wd) (c : Nat) : (s.token k nm c).run.text = [] := by rw [(s.token_out k nm c).2.2.2.2]; rfl
theorem char_wf {s s' : LS} {l : Wd} {i n X : Nat} (h : s.Wf X) (hx : s.run.text.length + 1 ≤ X) (hi : s.ins ≠ 0) (hc : s.char l i = .ok (n, s')) : s'.Wf X ∧ s'.ins ≠ 0 := by
  unfold LS.char at hc
  simp only at hc
  split at hc
  · simp only [Except.ok.injEq, Prod.mk.injEq] at hc
    obtain ⟨rfl, rfl⟩ := hc
    refine ⟨h.wait _, ?_⟩
    unfold LS.wait
    split <;> exact hi
  · split at hc
    · unfold LS.escape at hc
      split at hc
      · split at hc
        · simp only [Except.ok.injEq, Prod.mk.injEq] at hc
          obtain ⟨rfl, rfl⟩ := hc
          exact ⟨h.settle.put _ _ _, by rw [(s.settle.put_out _ _ _).2.2.2, s.settle_out.2.2.2]; exact hi⟩
        · cases hc
      · cases hc
    · split at hc
      · obtain ⟨q, hq⟩ : ∃ q, nameF (l.drop (i + 1)) = q := ⟨_, rfl⟩
        by_cases hg : q = 0 ∨ 12 < q ∨ endOk l (i + 1 + q) = false
        · rw [brace_bad hq hg] at hc; cases hc
        · by_cases h16 : 16 ≤ s.opn.length
          · rw [brace_nest hq hg h16] at hc; cases hc
          · rw [brace_good hq hg h16] at hc
            simp only [Except.ok.injEq, Prod.mk.injEq] at hc
            obtain ⟨rfl, rfl⟩ := hc
            obtain ⟨h1, h2, h3, h4⟩ := h.token hx 3 ((l.drop (i + 1)).take q) (i + 1)
            have hins : (s.token 3 ((l.drop (i + 1)).take q) (i + 1)).ins ≠ 0 := by rw [(s.token_out _ _ _).2.2.1]; exact hi
            refine ⟨⟨?_, fun e => (e (token_run s 3 ((l.drop (i + 1)).take q) (i + 1))).elim, ?_, fun e => (hins e).elim⟩, hins⟩
            · show ∀ t ∈ (s.token 3 ((l.drop (i + 1)).take q) (i + 1)).out, _
              rw [h2]
              exact snoc_txt h1.txt _ (Nat.zero_le _)
            · show dep 0 (s.token 3 ((l.drop (i + 1)).take q) (i + 1)).out = some (s.opn ++ [(⟨(l.drop (i + 1)).take q, s.line, i + 1⟩ : Brc)]).length
              rw [h2, dep_snoc h1.dep, h3]
              simp [dep]
      · split at hc
        · split at hc
          · cases hc
          · rename_i hne
            simp only [Except.ok.injEq, Prod.mk.injEq] at hc
            obtain ⟨rfl, rfl⟩ := hc
            obtain ⟨h1, h2, h3, h4⟩ := h.token hx 5 [] (i + 1)
            have hins : (s.token 5 [] (i + 1)).ins ≠ 0 := by rw [(s.token_out _ _ _).2.2.1]; exact hi
            refine ⟨⟨?_, fun e => (e (token_run s 5 [] (i + 1))).elim, ?_, fun e => (hins e).elim⟩, hins⟩
            · show ∀ t ∈ (s.token 5 [] (i + 1)).out, _
              rw [h2]
              exact snoc_txt h1.txt _ (Nat.zero_le _)
            · show dep 0 (s.token 5 [] (i + 1)).out = some s.opn.dropLast.length
              have hl : s.opn.length ≠ 0 := fun e => hne (List.length_eq_zero_iff.1 e)
              rw [h2, dep_snoc h1.dep, h3]
              simp [dep, hl]
        · split at hc
          · simp only [Except.ok.injEq, Prod.mk.injEq] at hc
            obtain ⟨rfl, rfl⟩ := hc
            obtain ⟨h1, h2, h3, h4⟩ := h.token hx 4 [] (i + 1)
            have hins : (s.token 4 [] (i + 1)).ins ≠ 0 := by rw [(s.token_out _ _ _).2.2.1]; exact hi
            refine ⟨⟨?_, fun e => (e (token_run s 4 [] (i + 1))).elim, ?_, fun e => (hins e).elim⟩, hins⟩
            · show ∀ t ∈ (s.token 4 [] (i + 1)).out, _
              rw [h2]
              exact snoc_txt h1.txt _ (Nat.zero_le _)
            · show dep 0 (s.token 4 [] (i + 1)).out = some (s.token 4 [] (i + 1)).opn.length
              rw [h2, dep_snoc h1.dep, h3, (s.token_out _ _ _).1]
              simp [dep]
          · simp only [Except.ok.injEq, Prod.mk.injEq] at hc
            obtain ⟨rfl, rfl⟩ := hc
            exact ⟨h.settle.put _ _ _, by rw [(s.settle.put_out _ _ _).2.2.2, s.settle_out.2.2.2]; exact hi⟩
theorem chars_wf {l : Wd} {X : Nat} : ∀ {f : Nat} {s s' : LS} {i m : Nat}, s.In m → 8 * (m + (l.length - i)) + 1 ≤ X → i ≤ l.length → s.Wf X → s.ins ≠ 0 → LS.chars l f s i = .ok s' → s'.Wf X
  | 0, s, s', i, m, h, hX, hi, hw, hn, hc => by
    simp only [LS.chars, Except.ok.injEq] at hc
    subst hc
    exact hw
  | f + 1, s, s', i, m, h, hX, hi, hw, hn, hc => by
    unfold LS.chars at hc
    split at hc
    · rename_i hlt
      split at hc
      · rename_i n s1 hch
        obtain ⟨h1, h2, h3, h4⟩ := char_in h hlt hch
        have ht := h.text
        obtain ⟨k1, k2⟩ := char_wf hw (by omega) hn hch
        exact chars_wf h3 (by omega) h2 k1 k2 hc
      · cases hc
    · simp only [Except.ok.injEq] at hc
      subst hc
      exact hw
theorem text_wf {s s' : LS} {l : Wd} {m X : Nat} (h : s.In m) (hX : 8 * (m + l.length) + 1 ≤ X) (hw : s.Wf X) (hc : s.text l = .ok s') : s'.Wf X := by
  unfold LS.text at hc
  split at hc
  · rename_i s1 h1
    simp only [Except.ok.injEq] at hc
    subst hc
    have h0 : (if s.ins = 0 then { s with ins := 1, fresh := 1 } else s).In m ∧ (if s.ins = 0 then { s with ins := 1, fresh := 1 } else s).Wf X ∧ (if s.ins = 0 then { s with ins := 1, fresh := 1 } else s).ins ≠ 0 := by
      split
      · exact ⟨⟨h.out, h.text, h.opn⟩, ⟨hw.txt, hw.knd, hw.dep, fun e => by cases e⟩, by simp⟩
      · rename_i hn
        exact ⟨h, hw, hn⟩
    exact (chars_wf h0.1 (by simpa using hX) (Nat.zero_le _) h0.2.1 h0.2.2 h1).wait _
  · cases hc
theorem fin_wf {s s' : LS} {X : Nat} (hw : s.Wf X) (hx : s.run.text.length ≤ X) (hc : s.fin = .ok s') : s'.Wf X ∧ s'.opn = [] := by
  unfold LS.fin at hc
  split at hc
  · rename_i h0
    simp only [Except.ok.injEq] at hc
    subst hc
    exact ⟨hw, hw.ins h0⟩
  · split at hc
    · cases hc
    · rename_i hn
      simp only [Except.ok.injEq] at hc
      subst hc
      have ho : s.opn = [] := by simpa using hn
      have hf := hw.flush hx
      have he : s.flush.opn = [] := by rw [s.flush_out.2.1]; exact ho
      exact ⟨⟨hf.txt, hf.knd, hf.dep, fun _ => he⟩, he⟩
theorem push_wf {s : LS} {X : Nat} {t : Tok} (hw : s.Wf X) (ho : s.opn = []) (ht : t.text.length ≤ X) (hk : t.kind = 1 ∨ t.kind = 2) : (s.push t).Wf X := by
  refine ⟨snoc_txt hw.txt t ht, hw.knd, ?_, hw.ins⟩
  show dep 0 (s.out ++ [t]) = some s.opn.length
  rw [dep_snoc hw.dep, ho]
  rcases hk with hk | hk <;> simp [dep, hk]
theorem trimB_len (l : Wd) : (trimB l).length ≤ l.length := by
  unfold trimB Lib.trimS Lib.trimLeftS Lib.trimRightS
  have h1 := (List.dropWhile_sublist (fun x => ([32, 9] : Wd).contains x) (l := (l.reverse.dropWhile (fun x => ([32, 9] : Wd).contains x)).reverse)).length_le
  have h2 := (List.dropWhile_sublist (fun x => ([32, 9] : Wd).contains x) (l := l.reverse)).length_le
  simp only [List.length_reverse] at h1 h2
  omega
theorem take_wf {s s' : LS} {l : Wd} {m X : Nat} (h : s.In m) (hX : 8 * (m + max 1 l.length) + 1 ≤ X) (hw : s.Wf X) (hc : s.take l = .ok s') : s'.Wf X := by
  have ht := h.text
  unfold LS.take at hc
  split at hc
  · cases hc
  · split at hc
    · simp only [Except.ok.injEq] at hc
      subst hc
      exact hw
    · split at hc
      · unfold LS.para at hc
        split at hc
        · cases hc
        · rename_i s1 h1
          simp only [Except.ok.injEq] at hc
          subst hc
          obtain ⟨k1, k2⟩ := fin_wf hw (by omega) h1
          exact push_wf k1 k2 (Nat.zero_le _) (.inr rfl)
      · split at hc
        · obtain ⟨n, hn⟩ : ∃ n, nameF l.tail = n := ⟨_, rfl⟩
          by_cases hg : n = 0 ∨ 12 < n ∨ dirOk (l.drop (1 + n)) = false
          · rw [dir_bad hn hg] at hc; cases hc
          · rw [dir_go hn hg] at hc
            split at hc
            · cases hc
            · rename_i s1 h1
              simp only [Except.ok.injEq] at hc
              subst hc
              obtain ⟨k1, k2⟩ := fin_wf hw (by omega) h1
              refine push_wf k1 k2 ?_ (.inl rfl)
              have h2 := trimB_len (l.drop (1 + n))
              rw [List.length_drop] at h2
              show (trimB (l.drop (1 + n))).length ≤ X
              omega
        · exact text_wf h (by omega) hw hc
theorem lines_wf {T : Wd} {X : Nat} : ∀ {f : Nat} {s s' : LS} {t : Wd}, t.length ≤ T.length → s.In (T.length - t.length) → 8 * T.length + 1 ≤ X → s.Wf X → LS.lines f s t = .ok s' → s'.Wf X ∧ s'.In T.length
  | 0, s, s', t, ht, h, hX, hw, hc => by
    simp only [LS.lines, Except.ok.injEq] at hc
    subst hc
    exact ⟨hw, h.mono (by omega)⟩
  | f + 1, s, s', t, ht, h, hX, hw, hc => by
    by_cases h0 : t = []
    · subst h0
      rw [lines_end] at hc
      simp only [Except.ok.injEq] at hc
      subst hc
      exact ⟨hw, h.mono (by omega)⟩
    · rw [lines_step h0] at hc
      split at hc
      · cases hc
      · rename_i s1 h1
        obtain ⟨c1, c2, c3⟩ := cut_len h0
        have hp := List.length_pos_iff.2 h0
        have k1 := take_in (s := { s with line := s.line + 1 }) (m := T.length - t.length) ⟨h.out, h.text, h.opn⟩ h1
        have k2 := take_wf (s := { s with line := s.line + 1 }) (m := T.length - t.length) (X := X) ⟨h.out, h.text, h.opn⟩ (by omega) ⟨hw.txt, hw.knd, hw.dep, hw.ins⟩ h1
        exact lines_wf (by omega) (k1.1.mono (by omega)) hX k2 hc
/-- What the lexer tells: how many tokens, how long their texts are, and that their braces match. -/
theorem lexM_wf {t : Wd} {l : List Tok} (h : lexM t = .ok l) : l.length ≤ 300000 ∧ (∀ x ∈ l, x.text.length ≤ 600000) ∧ dep 0 l = some 0 := by
  unfold lexM at h
  split at h
  · cases h
  · rename_i hT
    split at h
    · cases h
    · rename_i s1 h1
      have hz : LS.zero.Wf 600000 := ⟨(fun t ht => by cases ht), fun e => (e rfl).elim, rfl, fun _ => rfl⟩
      have hi : LS.zero.In (t.length - t.length) := ⟨Nat.zero_le _, Nat.zero_le _, Nat.zero_le _⟩
      obtain ⟨w1, i1⟩ := lines_wf (T := t) (Nat.le_refl _) hi (by omega) hz h1
      split at h
      · cases h
      · rename_i s2 h2
        simp only [Except.ok.injEq] at h
        subst h
        have i2 := fin_in i1 h2
        have ht := i1.text
        obtain ⟨w2, o2⟩ := fin_wf w1 (by omega) h2
        have := i2.1
        refine ⟨by omega, w2.txt, ?_⟩
        rw [w2.dep, o2]; rfl
/-- Bounds on the parser. -/
structure Bk.PS.Inv (s : PS) (m : Nat) : Prop where
  nst : s.nst ≤ 64
  ntop : s.ntop ≤ 1000
  cur : ∀ t, s.cur = some t → t.nk ≤ 64 ∧ t.ns ≤ 64 ∧ t.blks.length ≤ m ∧ bytesF t.blks ≤ m * 600000
  opn : s.opn.length ≤ 8
  lv : ∀ l ∈ s.opn, l.items ≤ m ∧ l.rows ≤ m ∧ l.cells ≤ m
  ink : s.opn ≠ [] → s.cur.isSome = true
theorem Bk.PS.Inv.mono {s : PS} {m k : Nat} (h : s.Inv m) (hk : m ≤ k) : s.Inv k :=
  ⟨h.nst, h.ntop, fun t ht => by
    obtain ⟨h1, h2, h3, h4⟩ := h.cur t ht
    exact ⟨h1, h2, Nat.le_trans h3 hk, Nat.le_trans h4 (Nat.mul_le_mul_right _ hk)⟩, h.opn, fun l hl => by
    obtain ⟨h1, h2, h3⟩ := h.lv l hl
    exact ⟨by omega, by omega, by omega⟩, h.ink⟩
theorem bytesF_snoc (l : List (List Pc)) (b : List Pc) : bytesF (l ++ [b]) = bytesF l + bytesB b := by simp [bytesF]
theorem bytesB_snoc (l : List Pc) (x : Pc) : bytesB (l ++ [x]) = bytesB l + (if x.1 = 1 then x.2 else 0) := by simp [bytesB]
theorem last_mem {s : PS} {l : Lvl} (h : s.last = some l) : l ∈ s.opn := List.mem_of_getLast? h
theorem last_ne {s : PS} {l : Lvl} (h : s.last = some l) : s.opn ≠ [] := List.ne_nil_of_mem (last_mem h)
theorem Bk.PS.Inv.add {s : PS} {m k : Nat} {b : List Pc} (h : s.Inv m) (hk : 1 ≤ k) (hb : bytesB b ≤ k * 600000) : (s.add b).Inv (m + k) := by
  have h' := h.mono (show m ≤ m + k by omega)
  refine ⟨h'.nst, h'.ntop, fun t ht => ?_, h'.opn, h'.lv, fun hne => ?_⟩
  · unfold PS.add at ht
    simp only at ht
    cases hc : s.cur with
    | none => rw [hc] at ht; cases ht
    | some t0 =>
      rw [hc] at ht
      simp only [Option.map_some, Option.some.injEq] at ht
      subst ht
      obtain ⟨h1, h2, h3, h4⟩ := h.cur t0 hc
      refine ⟨h1, h2, ?_, ?_⟩
      · simp only [List.length_append, List.length_singleton]; omega
      · rw [bytesF_snoc, Nat.add_mul]; omega
  · have := h.ink hne
    unfold PS.add
    simpa using this
theorem Bk.PS.Inv.setLast {s : PS} {m : Nat} {f : Lvl → Lvl} (h : s.Inv m) (hf : ∀ l : Lvl, l.items ≤ m ∧ l.rows ≤ m ∧ l.cells ≤ m → (f l).items ≤ m + 1 ∧ (f l).rows ≤ m + 1 ∧ (f l).cells ≤ m + 1) : (s.setLast f).Inv (m + 1) := by
  have h' := h.mono (show m ≤ m + 1 by omega)
  cases hl : s.last with
  | none =>
    have he : s.setLast f = { s with opn := [] } := by unfold PS.setLast; rw [hl]
    rw [he]
    exact ⟨h'.nst, h'.ntop, h'.cur, Nat.zero_le _, (fun l hl => by cases hl), fun e => (e rfl).elim⟩
  | some l =>
    have he : s.setLast f = { s with opn := s.opn.dropLast ++ [f l] } := by unfold PS.setLast; rw [hl]
    have hne := last_ne hl
    have hlen := List.length_pos_iff.2 hne
    rw [he]
    refine ⟨h'.nst, h'.ntop, h'.cur, ?_, fun x hx => ?_, fun _ => h.ink hne⟩
    · have := h.opn
      simp only [List.length_append, List.length_dropLast, List.length_singleton]
      omega
    · rcases List.mem_append.1 hx with hx | hx
      · exact h'.lv x ((List.dropLast_sublist _).subset hx)
      · simp only [List.mem_singleton] at hx
        subst hx
        exact hf l (h.lv l (last_mem hl))
theorem style_inv {s s' : PS} {t : Tok} {arg : Wd} {m : Nat} (h : s.Inv m) (hd : s.style t arg = .ok s') : s'.Inv (m + 2) := by
  have h' := h.mono (show m ≤ m + 2 by omega)
  unfold PS.style at hd
  split at hd
  · cases hd
  · split at hd
    · cases hd
    · rename_i hn
      cases hd
      exact ⟨by show s.nst + 1 ≤ 64; omega, h'.ntop, h'.cur, h'.opn, h'.lv, h'.ink⟩
theorem begin_inv {s s' : PS} {t : Tok} {arg : Wd} {k m : Nat} (h : s.Inv m) (hd : s.begin_ t arg k = .ok s') : s'.Inv (m + 2) := by
  have h' := h.mono (show m ≤ m + 2 by omega)
  have hs : s.ntop < 1000 ∧ s' = { s with ntop := s.ntop + 1, cur := some ⟨k, 0, 0, 0, t.line, []⟩ } := by
    unfold PS.begin_ at hd
    simp only at hd
    by_cases hb : fitsF (tidyF (Lib.cut arg [124]).1) 64 = false ∨ fitsF (if (Lib.cut arg [124]).2.2 = true then tidyF (Lib.cut arg [124]).2.1 else tidyF (Lib.cut arg [124]).1) 200 = false
    · rw [if_pos hb] at hd; cases hd
    · rw [if_neg hb] at hd
      by_cases hn : 1000 ≤ s.ntop
      · rw [if_pos hn] at hd; cases hd
      · rw [if_neg hn] at hd
        cases hd
        exact ⟨by omega, rfl⟩
  obtain ⟨h1, rfl⟩ := hs
  exact ⟨h'.nst, by show s.ntop + 1 ≤ 1000; omega, fun t ht => by cases ht; exact ⟨Nat.zero_le _, Nat.zero_le _, Nat.zero_le _, Nat.zero_le _⟩, h'.opn, h'.lv, fun _ => rfl⟩
theorem contents_inv {s s' : PS} {t : Tok} {arg : Wd} {m : Nat} (h : s.Inv m) (hd : s.contents t arg = .ok s') : s'.Inv (m + 2) := by
  have h' := h.mono (show m ≤ m + 2 by omega)
  unfold PS.contents at hd
  split at hd
  · cases hd
    refine ⟨h'.nst, h'.ntop, fun t ht => ?_, h'.opn, h'.lv, fun hne => ?_⟩
    · simp only at ht
      cases hc : s.cur with
      | none => rw [hc] at ht; cases ht
      | some t0 =>
        rw [hc] at ht
        simp only [Option.map_some, Option.some.injEq] at ht
        subst ht
        exact h'.cur t0 hc
    · have := h.ink hne
      simpa using this
  · cases hd
theorem key_inv {s s' : PS} {t : Tok} {arg : Wd} {m : Nat} (h : s.Inv m) (hd : s.key t arg = .ok s') : s'.Inv (m + 2) := by
  have h' := h.mono (show m ≤ m + 2 by omega)
  unfold PS.key at hd
  simp only at hd
  split at hd
  · cases hd
  · split at hd
    · rename_i k hk
      split at hd
      · cases hd
      · rename_i hn
        cases hd
        have hc := h'.cur k hk
        exact ⟨h'.nst, h'.ntop, fun t ht => by cases ht; exact ⟨by show k.nk + 1 ≤ 64; omega, hc.2⟩, h'.opn, h'.lv, fun _ => rfl⟩
    · cases hd
      exact h'
theorem see_inv {s s' : PS} {t : Tok} {arg : Wd} {m : Nat} (h : s.Inv m) (hd : s.see t arg = .ok s') : s'.Inv (m + 2) := by
  have h' := h.mono (show m ≤ m + 2 by omega)
  unfold PS.see at hd
  simp only at hd
  split at hd
  · cases hd
  · split at hd
    · rename_i k hk
      split at hd
      · cases hd
      · rename_i hn
        cases hd
        have hc := h'.cur k hk
        exact ⟨h'.nst, h'.ntop, fun t ht => by cases ht; exact ⟨hc.1, by show k.ns + 1 ≤ 64; omega, hc.2.2⟩, h'.opn, h'.lv, fun _ => rfl⟩
    · cases hd
      exact h'
theorem para_inv {s s' : PS} {t : Tok} {arg : Wd} {m : Nat} (h : s.Inv m) (hd : s.para_ t arg = .ok s') : s'.Inv (m + 2) := by
  have h' := h.mono (show m ≤ m + 2 by omega)
  unfold PS.para_ at hd
  split at hd
  · cases hd
    exact ⟨h'.nst, h'.ntop, h'.cur, h'.opn, h'.lv, h'.ink⟩
  · cases hd
theorem opened_inv {s : PS} {m : Nat} (h : s.Inv m) (hc : s.cur.isSome = true) (ho : ¬ 8 ≤ s.opn.length) (a w : Nat) (t : Tok) : (PS.add { s with opn := s.opn ++ [⟨a, 0, 0, 0, w, t⟩] } []).Inv (m + 2) := by
  have hb : PS.Inv { s with opn := s.opn ++ [⟨a, 0, 0, 0, w, t⟩] } m := by
    refine ⟨h.nst, h.ntop, h.cur, ?_, fun l hl => ?_, fun _ => hc⟩
    · simp only [List.length_append, List.length_singleton]; omega
    · rcases List.mem_append.1 hl with hl | hl
      · exact h.lv l hl
      · simp only [List.mem_singleton] at hl
        subst hl
        exact ⟨Nat.zero_le _, Nat.zero_le _, Nat.zero_le _⟩
  exact (hb.add (k := 1) (Nat.le_refl _) (Nat.zero_le _)).mono (by omega)
theorem list_inv {s s' : PS} {t : Tok} {arg : Wd} {m : Nat} (h : s.Inv m) (hc : s.cur.isSome = true) (hd : s.list t arg = .ok s') : s'.Inv (m + 2) := by
  unfold PS.list at hd
  split at hd
  · split at hd
    · cases hd
    · rename_i ho
      cases hd
      exact opened_inv h hc ho _ _ _
  · cases hd
theorem table_inv {s s' : PS} {t : Tok} {arg : Wd} {m : Nat} (h : s.Inv m) (hc : s.cur.isSome = true) (hl : s.last.isNone = true) (hd : s.table t arg = .ok s') : s'.Inv (m + 2) := by
  have h0 : s.opn = [] := by unfold PS.last at hl; simpa using hl
  unfold PS.table at hd
  simp only at hd
  split at hd
  · cases hd
    exact opened_inv h hc (by rw [h0]; simp) _ _ _
  · cases hd
theorem item_inv {s s' : PS} {t : Tok} {arg : Wd} {m : Nat} (h : s.Inv m) (hd : s.item t arg = .ok s') : s'.Inv (m + 2) := by
  unfold PS.item at hd
  split at hd
  · cases hd
    exact (h.setLast (f := fun l => { l with items := l.items + 1 }) (fun l hl => ⟨by show l.items + 1 ≤ m + 1; omega, by show l.rows ≤ m + 1; omega, by show l.cells ≤ m + 1; omega⟩)).add (k := 1) (Nat.le_refl _) (Nat.zero_le _)
  · cases hd
theorem row_inv {s s' : PS} {t : Tok} {arg : Wd} {m : Nat} (h : s.Inv m) (hd : s.row t arg = .ok s') : s'.Inv (m + 2) := by
  unfold PS.row at hd
  split at hd
  · cases hd
    exact (h.setLast (f := fun l => { l with rows := l.rows + 1, cells := 0 }) (fun l hl => ⟨by show l.items ≤ m + 1; omega, by show l.rows + 1 ≤ m + 1; omega, Nat.zero_le _⟩)).add (k := 1) (Nat.le_refl _) (Nat.zero_le _)
  · cases hd
theorem end_inv {s s' : PS} {t : Tok} {arg : Wd} {m : Nat} (h : s.Inv m) (hd : s.end_ t arg = .ok s') : s'.Inv (m + 2) := by
  unfold PS.end_ at hd
  split at hd
  · cases hd
    have hb : PS.Inv { s with opn := s.opn.dropLast } m := by
      refine ⟨h.nst, h.ntop, h.cur, ?_, fun l hl => h.lv l ((List.dropLast_sublist _).subset hl), fun hne => h.ink (fun e => hne (by show s.opn.dropLast = []; rw [e]; rfl))⟩
      have := h.opn
      simp only [List.length_dropLast]
      omega
    exact (hb.add (k := 1) (Nat.le_refl _) (Nat.zero_le _)).mono (by omega)
  · cases hd
theorem fresh_cur {s : PS} (h : s.fresh = true) : s.cur.isSome = true := by
  unfold PS.fresh at h
  split at h
  · rename_i hc; rw [hc]; rfl
  · cases h
theorem do_inv {s s' : PS} {t : Tok} {arg : Wd} {n m : Nat} (h : s.Inv m) (hm : s.may n = true) (hd : s.do_ t arg n = .ok s') : s'.Inv (m + 2) := by
  unfold PS.do_ at hd
  split at hd
  · exact style_inv h hd
  · exact begin_inv h hd
  · exact begin_inv h hd
  · exact contents_inv h hd
  · exact key_inv h hd
  · exact see_inv h hd
  · exact para_inv h hd
  · exact list_inv h (by have : s.mayList = true := hm; unfold PS.mayList at this; simp only [Bool.and_eq_true] at this; exact this.1) hd
  · exact item_inv h hd
  · have hm2 : (s.cur.isSome && s.last.isNone) = true := hm
    simp only [Bool.and_eq_true] at hm2
    exact table_inv h hm2.1 hm2.2 hd
  · exact row_inv h hd
  · exact end_inv h hd
theorem close_same {s s' : PS} (h : s.close = .ok s') : s' = s := by
  unfold PS.close at h
  repeat' split at h
  all_goals (cases h; try rfl)
theorem directive_inv {s s' : PS} {t : Tok} {m : Nat} (h : s.Inv m) (hd : s.directive t = .ok s') : s'.Inv (m + 2) := by
  unfold PS.directive at hd
  split at hd
  · cases hd
  · split at hd
    · cases hd
    · rename_i n hn
      split at hd
      · cases hd
      · rename_i hm
        split at hd
        · cases hd
        · split at hd
          · cases hd
          · rename_i s1 hs1
            have he : s1 = s := by
              split at hs1
              · exact close_same hs1
              · cases hs1; rfl
            subst he
            exact do_inv h (by simpa using hm) hd
theorem pieces_bytes (X : Nat) : ∀ (f : Nat) (l : List Tok) (out : List Pc) (ks : List Nat) (lk : Nat) (b : List Pc), piecesF f l out ks lk = .ok b → (∀ x ∈ l, x.text.length ≤ X) → bytesB b ≤ bytesB out + l.length * X
  | 0, l, out, ks, lk, b, h, hX => by
    simp only [piecesF, Except.ok.injEq] at h
    subst h
    omega
  | f + 1, [], out, ks, lk, b, h, hX => by
    simp only [piecesF, Except.ok.injEq] at h
    subst h
    omega
  | f + 1, t :: l, out, ks, lk, b, h, hX => by
    have ih := pieces_bytes X f
    have ht := hX t (by simp)
    unfold piecesF at h
    simp only at h
    simp only [List.length_cons, Nat.add_mul, Nat.one_mul]
    split at h
    · have hh := ih _ _ _ _ _ h (fun x hx => hX x (by simp [hx]))
      rw [bytesB_snoc] at hh
      simp only [if_true] at hh
      omega
    · split at h
      · have hh := ih _ _ _ _ _ h (fun x hx => hX x (by simp [hx]))
        rw [bytesB_snoc] at hh
        simp at hh
        omega
      · split at h
        · cases h
        · split at h
          · cases l with
            | nil => cases h
            | cons c r =>
              simp only at h
              split at h
              · have hh := ih _ _ _ _ _ h (fun x hx => hX x (by simp [hx]))
                rw [bytesB_snoc] at hh
                have h1 : (if t.name = [98, 114] then 7 else 6 : Nat) ≠ 1 := by split <;> decide
                simp only [h1, if_false] at hh
                simp only [List.length_cons, Nat.add_mul, Nat.one_mul]
                omega
              · cases h
          · split at h
            · rcases l with _ | ⟨a, _ | ⟨c, r⟩⟩
              · cases h
              · cases h
              · have ha := hX a (by simp)
                have htl := tidy_len a.text
                have h1 : (if t.name = [110, 111, 116, 101] then 4 else 3 : Nat) ≠ 1 := by split <;> decide
                simp only at h
                simp only [List.length_cons, Nat.add_mul, Nat.one_mul]
                split at h
                · cases h
                · split at h
                  · cases h
                  · split at h
                    · have hh := ih _ _ _ _ _ h (fun x hx => hX x (by simp [hx]))
                      rw [show ∀ (u v : Pc), out ++ [u] ++ [v, (5, 0)] = out ++ [u] ++ [v] ++ [(5, 0)] from fun u v => by simp, bytesB_snoc, bytesB_snoc, bytesB_snoc] at hh
                      simp only [h1, if_false, if_true] at hh
                      simp at hh
                      omega
                    · have hh := ih _ _ _ _ _ h (fun x hx => hX x (by simp [hx]))
                      rw [bytesB_snoc] at hh
                      simp only [h1, if_false] at hh
                      omega
            · have hh := ih _ _ _ _ _ h (fun x hx => hX x (by simp [hx]))
              rw [bytesB_snoc] at hh
              simp at hh
              omega
theorem paragraph_inv {s s' : PS} {l : List Tok} {m : Nat} (h : s.Inv m) (hX : ∀ x ∈ l, x.text.length ≤ 600000) (hd : s.paragraph l = .ok s') : s'.Inv (m + 2 * l.length) := by
  cases l with
  | nil =>
    simp only [PS.paragraph, Except.ok.injEq] at hd
    subst hd
    exact h.mono (by omega)
  | cons t r =>
    unfold PS.paragraph at hd
    simp only at hd
    split at hd
    · cases hd
    · split at hd
      · cases hd
      · rename_i b hb
        have hby := pieces_bytes 600000 _ _ _ _ _ _ hb hX
        simp only [bytesB, List.map_nil, List.sum_nil, Nat.zero_add] at hby
        have h1 : PS.Inv (if s.inRow = true then s.setLast fun l => { l with cells := l.cells + 1 } else s) (m + 1) := by
          split
          · exact h.setLast (f := fun l => { l with cells := l.cells + 1 }) (fun l hl => ⟨by show l.items ≤ m + 1; omega, by show l.rows ≤ m + 1; omega, by show l.cells + 1 ≤ m + 1; omega⟩)
          · exact h.mono (by omega)
        have h2 := h1.add (k := (t :: r).length) (b := b) (by simp) hby
        cases hd
        have h3 := h2.mono (k := m + 2 * (t :: r).length) (by simp only [List.length_cons]; omega)
        exact ⟨h3.nst, h3.ntop, h3.cur, h3.opn, h3.lv, h3.ink⟩
theorem PS.zero_inv : PS.zero.Inv 0 := ⟨Nat.zero_le _, Nat.zero_le _, (fun t ht => by cases ht), Nat.zero_le _, (fun l hl => by cases hl), fun e => (e rfl).elim⟩
/-! ### Runs of tokens -/
theorem runLen_le : ∀ l : List Tok, runLen l ≤ l.length
  | [] => Nat.le_refl _
  | t :: l => by unfold runLen; have := runLen_le l; split <;> simp only [List.length_cons] <;> omega
theorem runLen_in : ∀ (l : List Tok) (k : Nat) (x : Tok), l[k]? = some x → k < runLen l → x.kind ≠ 1 ∧ x.kind ≠ 2
  | [], k, x, h, hk => by simp at h
  | t :: l, 0, x, h, hk => by
    simp only [List.getElem?_cons_zero, Option.some.injEq] at h
    subst h
    unfold runLen at hk
    split at hk
    · omega
    · rename_i hn; exact ⟨fun e => hn (.inl e), fun e => hn (.inr e)⟩
  | t :: l, k + 1, x, h, hk => by
    unfold runLen at hk
    split at hk
    · omega
    · exact runLen_in l k x (by simpa using h) (by omega)
theorem runLen_at : ∀ (l : List Tok) (x : Tok), l[runLen l]? = some x → x.kind = 1 ∨ x.kind = 2
  | [], x, h => by simp at h
  | t :: l, x, h => by
    unfold runLen at h
    split at h
    · rename_i hk
      simp only [List.getElem?_cons_zero, Option.some.injEq] at h
      subst h
      exact hk
    · exact runLen_at l x (by simpa using h)
theorem dep_step (d : Nat) (t : Tok) (l : List Tok) : dep d (t :: l) = if t.kind = 3 then dep (d + 1) l else if t.kind = 5 then (if d = 0 then none else dep (d - 1) l) else if t.kind = 1 ∨ t.kind = 2 then (if d = 0 then dep 0 l else none) else dep d l := rfl
/-- Where a run ends, no brace is open. -/
theorem dep_run : ∀ (l : List Tok) (d : Nat), dep d l = some 0 → dep d (l.take (runLen l)) = some 0 ∧ dep 0 (l.drop (runLen l)) = some 0
  | [], d, h => ⟨h, by simp [runLen, dep]⟩
  | t :: l, d, h => by
    unfold runLen
    split
    · rename_i hk
      simp only [List.take_zero, List.drop_zero]
      have hd : d = 0 := by
        rw [dep_step, if_neg (by omega), if_neg (by omega), if_pos hk] at h
        split at h
        · assumption
        · cases h
      subst hd
      exact ⟨rfl, h⟩
    · rename_i hk
      simp only [List.take_succ_cons, List.drop_succ_cons]
      rw [dep_step] at h ⊢
      split at h
      · rename_i h3
        rw [if_pos h3]
        exact dep_run l _ h
      · rename_i h3
        rw [if_neg h3]
        split at h
        · rename_i h5
          rw [if_pos h5]
          split at h
          · cases h
          · rename_i h0
            rw [if_neg h0]
            exact dep_run l _ h
        · rename_i h5
          rw [if_neg h5]
          try rw [if_neg hk] at h
          rw [if_neg hk]
          exact dep_run l _ h
end Go.Proofs.YtafhmagifoapfaaGreatDoor
namespace Go.Proofs.YtafhmagifoapfaaGreatDoor
open Find Bk
theorem fin_nz {s : LS} {e : Flt} (h : s.fin = .error e) : e.code ≠ 0 := by
  unfold LS.fin at h
  repeat' split at h
  all_goals first | (cases h; done) | (cases h; simp)
theorem char_nz {s : LS} {l : Wd} {i : Nat} {e : Flt} (h : s.char l i = .error e) : e.code ≠ 0 := by
  unfold LS.char at h
  simp only at h
  split at h
  · cases h
  · split at h
    · unfold LS.escape at h
      repeat' split at h
      all_goals first | (cases h; done) | (cases h; simp)
    · split at h
      · obtain ⟨q, hq⟩ : ∃ q, nameF (l.drop (i + 1)) = q := ⟨_, rfl⟩
        by_cases hg : q = 0 ∨ 12 < q ∨ endOk l (i + 1 + q) = false
        · rw [brace_bad hq hg] at h; cases h; simp
        · by_cases h16 : 16 ≤ s.opn.length
          · rw [brace_nest hq hg h16] at h; cases h; simp
          · rw [brace_good hq hg h16] at h; cases h
      · repeat' split at h
        all_goals first | (cases h; done) | (cases h; simp)
theorem chars_nz {l : Wd} : ∀ {f : Nat} {s : LS} {i : Nat} {e : Flt}, LS.chars l f s i = .error e → e.code ≠ 0
  | 0, s, i, e, h => by unfold LS.chars at h; cases h
  | f + 1, s, i, e, h => by
    unfold LS.chars at h
    split at h
    · split at h
      · exact chars_nz h
      · rename_i hc
        cases h
        exact char_nz hc
    · cases h
theorem text_nz {s : LS} {l : Wd} {e : Flt} (h : s.text l = .error e) : e.code ≠ 0 := by
  unfold LS.text at h
  split at h
  · cases h
  · rename_i hc
    cases h
    exact chars_nz hc
theorem ldir_nz {s : LS} {l : Wd} {e : Flt} (h : LS.directive s l = .error e) : e.code ≠ 0 := by
  obtain ⟨n, hn⟩ : ∃ n, nameF l.tail = n := ⟨_, rfl⟩
  by_cases hg : n = 0 ∨ 12 < n ∨ dirOk (l.drop (1 + n)) = false
  · rw [dir_bad hn hg] at h; cases h; simp
  · rw [dir_go hn hg] at h
    split at h
    · rename_i hc
      cases h
      exact fin_nz hc
    · cases h
theorem check_nz {s : LS} {l : Wd} {e : Flt} (h : s.check l = some e) : e.code ≠ 0 := by
  unfold LS.check at h
  repeat' split at h
  all_goals first | (cases h; done) | (cases h; simp)
theorem take_nz {s : LS} {l : Wd} {e : Flt} (h : s.take l = .error e) : e.code ≠ 0 := by
  unfold LS.take at h
  split at h
  · rename_i hc
    cases h
    exact check_nz hc
  · split at h
    · cases h
    · split at h
      · unfold LS.para at h
        split at h
        · rename_i hc
          cases h
          exact fin_nz hc
        · cases h
      · split at h
        · exact ldir_nz h
        · exact text_nz h
theorem lines_nz : ∀ {f : Nat} {s : LS} {t : Wd} {e : Flt}, LS.lines f s t = .error e → e.code ≠ 0
  | 0, s, t, e, h => by unfold LS.lines at h; cases h
  | f + 1, s, t, e, h => by
    unfold LS.lines at h
    split at h
    · cases h
    · simp only at h
      split at h
      · rename_i hc
        cases h
        exact take_nz hc
      · exact lines_nz h
theorem lexM_nz {t : Wd} {e : Flt} (h : lexM t = .error e) : e.code ≠ 0 := by
  unfold lexM at h
  split at h
  · cases h; simp
  · split at h
    · rename_i hc
      cases h
      exact lines_nz hc
    · split at h
      · rename_i hc
        cases h
        exact fin_nz hc
      · cases h
/-! ### The parser -/
theorem flt_nz (t : Tok) (c : Nat) (h : c ≠ 0) : (t.flt c).code ≠ 0 := h
theorem pieces_nz : ∀ {f : Nat} {l : List Tok} {out : List Pc} {ks : List Nat} {lk : Nat} {e : Flt}, piecesF f l out ks lk = .error e → e.code ≠ 0
  | 0, l, out, ks, lk, e, h => by unfold piecesF at h; cases h
  | f + 1, [], out, ks, lk, e, h => by unfold piecesF at h; cases h
  | f + 1, t :: l, out, ks, lk, e, h => by
    unfold piecesF at h
    simp only at h
    split at h
    · exact pieces_nz h
    · split at h
      · exact pieces_nz h
      · split at h
        · cases h; simp
        · split at h
          · cases l with
            | nil => cases h; exact flt_nz _ _ (by decide)
            | cons c r =>
              simp only at h
              split at h
              · exact pieces_nz h
              · cases h; exact flt_nz _ _ (by decide)
          · split at h
            · rcases l with _ | ⟨a, _ | ⟨c, r⟩⟩
              · cases h; exact flt_nz _ _ (by decide)
              · cases h; exact flt_nz _ _ (by decide)
              · simp only at h
                split at h
                · cases h; exact flt_nz _ _ (by decide)
                · split at h
                  · cases h; exact flt_nz _ _ (by decide)
                  · split at h
                    · exact pieces_nz h
                    · exact pieces_nz h
            · exact pieces_nz h
theorem close_nz {s : PS} {e : Flt} (h : s.close = .error e) : e.code ≠ 0 := by
  unfold PS.close at h
  repeat' split at h
  all_goals first | (cases h; done) | (cases h; exact flt_nz _ _ (by decide)) | (cases h; simp)
theorem do_nz {s : PS} {t : Tok} {arg : Wd} {n : Nat} {e : Flt} (h : s.do_ t arg n = .error e) : e.code ≠ 0 := by
  unfold PS.do_ at h
  split at h
  · unfold PS.style at h; repeat' split at h
    all_goals first | (cases h; done) | (cases h; exact flt_nz _ _ (by decide))
  · unfold PS.begin_ at h; simp only at h; repeat' split at h
    all_goals first | (cases h; done) | (cases h; exact flt_nz _ _ (by decide))
  · unfold PS.begin_ at h; simp only at h; repeat' split at h
    all_goals first | (cases h; done) | (cases h; exact flt_nz _ _ (by decide))
  · unfold PS.contents at h; repeat' split at h
    all_goals first | (cases h; done) | (cases h; exact flt_nz _ _ (by decide))
  · unfold PS.key at h; simp only at h; repeat' split at h
    all_goals first | (cases h; done) | (cases h; exact flt_nz _ _ (by decide))
  · unfold PS.see at h; simp only at h; repeat' split at h
    all_goals first | (cases h; done) | (cases h; exact flt_nz _ _ (by decide))
  · unfold PS.para_ at h; repeat' split at h
    all_goals first | (cases h; done) | (cases h; exact flt_nz _ _ (by decide))
  · unfold PS.list at h; repeat' split at h
    all_goals first | (cases h; done) | (cases h; exact flt_nz _ _ (by decide))
  · unfold PS.item at h; repeat' split at h
    all_goals first | (cases h; done) | (cases h; exact flt_nz _ _ (by decide))
  · unfold PS.table at h; simp only at h; repeat' split at h
    all_goals first | (cases h; done) | (cases h; exact flt_nz _ _ (by decide))
  · unfold PS.row at h; repeat' split at h
    all_goals first | (cases h; done) | (cases h; exact flt_nz _ _ (by decide))
  · unfold PS.end_ at h; repeat' split at h
    all_goals first | (cases h; done) | (cases h; exact flt_nz _ _ (by decide))
theorem sdir_nz {s : PS} {t : Tok} {e : Flt} (h : s.directive t = .error e) : e.code ≠ 0 := by
  unfold PS.directive at h
  split at h
  · cases h; exact flt_nz _ _ (by decide)
  · split at h
    · cases h; exact flt_nz _ _ (by decide)
    · split at h
      · cases h; exact flt_nz _ _ (by decide)
      · split at h
        · cases h; exact flt_nz _ _ (by decide)
        · split at h
          · rename_i hc
            cases h
            split at hc
            · exact close_nz hc
            · cases hc
          · exact do_nz h
theorem par_nz {s : PS} {l : List Tok} {e : Flt} (h : s.paragraph l = .error e) : e.code ≠ 0 := by
  unfold PS.paragraph at h
  split at h
  · cases h
  · split at h
    · cases h
      show (if s.inRow = true then 54 else 52 : Nat) ≠ 0
      split <;> decide
    · split at h
      · rename_i hc
        cases h
        exact pieces_nz hc
      · cases h
theorem finish_nz {s : PS} {e : Flt} (h : s.finish = .error e) : e.code ≠ 0 := by
  unfold PS.finish at h
  split at h
  · cases h; exact flt_nz _ _ (by decide)
  · exact close_nz h
theorem parseL_nz : ∀ {f : Nat} {s : PS} {l : List Tok} {e : Flt}, parseL f s l = .error e → e.code ≠ 0
  | 0, s, l, e, h => by unfold parseL at h; cases h
  | f + 1, s, [], e, h => by unfold parseL at h; cases h
  | f + 1, s, t :: r, e, h => by
    unfold parseL at h
    simp only at h
    split at h
    · split at h
      · exact parseL_nz h
      · rename_i hc
        cases h
        exact sdir_nz hc
    · split at h
      · exact parseL_nz h
      · split at h
        · exact parseL_nz h
        · rename_i hc
          cases h
          exact par_nz hc
theorem parseM_nz {t : Wd} {e : Flt} {m : Bool} (h : parseM t = some (e, m)) : e.code ≠ 0 := by
  unfold parseM at h
  split at h
  · rename_i hc
    cases h
    exact lexM_nz hc
  · split at h
    · rename_i hc
      cases h
      exact parseL_nz hc
    · split at h
      · rename_i hc
        cases h
        exact finish_nz hc
      · cases h
end Go.Proofs.YtafhmagifoapfaaGreatDoor
