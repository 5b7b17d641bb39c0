/- src: number. -/
import Derived.Test.YtafhmagifoapfaaGreatDoorParts
namespace Go.Proofs.YtafhmagifoapfaaGreatDoor
open Go.RowKit Find Bk
attribute [local go_sem ↓] Go.wp_at_zero Go.wp_at_succ
def NumPost (r : Option Nat) (w : World) (e : Ending) (w' : World) : Prop := (match r with
  | some n => e = .returned (.tuple #[.int .i64 n, .bool true])
  | none => ∃ x : Int, e = .returned (.tuple #[.int .i64 x, .bool false])) ∧ w = w'
theorem digits_at (l : Wd) (k n : Nat) (h : k < l.length) : digitsF (l.drop k) n = if 48 ≤ l[k] ∧ l[k] ≤ 57 then digitsF (l.drop (k + 1)) (10 * n + (l[k].toNat - 48)) else none := by
  rw [List.drop_eq_getElem_cons h]
  rfl
set_option maxHeartbeats 3200000 in
set_option maxRecDepth 100000 in
theorem number_any (s : Wd) (a b : Nat) (w : World) : Calls Tryz.prog 87 #[.string ⟨s.toArray⟩, .int .i64 a, .int .i64 b] w (NumPost (numberF s a b) w) := by
  by_cases h0 : s = []
  · subst h0
    have HR := Lib.hid (show numberF [] a b = none from by unfold numberF; rw [if_pos (.inl rfl)])
    go_enter Tryz.func87, Tryz.ntmps87
    go_wp2
    go_ret2
    rw [HR.out]
    exact ⟨⟨0, rfl⟩, rfl⟩
  · obtain ⟨hs1, hs2⟩ : ¬ (⟨s.toArray⟩ : ByteArray) = ⟨#[]⟩ ∧ s.isEmpty = false := ⟨fun e => h0 (by have := congrArg (fun a : ByteArray => a.data.toList) e; simpa using this), by simpa using h0⟩
    have hp : 0 < s.length := List.length_pos_iff.2 h0
    by_cases h4 : 4 < s.length
    · have HR := Lib.hid (show numberF s a b = none from by unfold numberF; rw [if_pos (.inr (.inl h4))])
      have hd : decide ((4 : Int) < (s.length : Int)) = true := by rw [decide_eq_true_eq]; omega
      have hd2 : decide (4 < s.length) = true := by rw [decide_eq_true_eq]; omega
      clear h0 h4
      go_enter Tryz.func87, Tryz.ntmps87
      go_wp2
      go_ret2
      rw [HR.out]
      exact ⟨⟨0, rfl⟩, rfl⟩
    · have hd : decide ((4 : Int) < (s.length : Int)) = false := by rw [decide_eq_false_iff_not]; omega
      have hd2 : decide (4 < s.length) = false := by rw [decide_eq_false_iff_not]; omega
      have hx0 : (⟨s.toArray⟩ : ByteArray)[0]'(by rw [size_mk]; exact hp) = s.getD 0 0 := by
        rw [List.getD_eq_getElem?_getD, List.getElem?_eq_getElem hp]; rfl
      by_cases h48 : s.getD 0 0 = 48 ∧ s ≠ [48]
      · have HR := Lib.hid (show numberF s a b = none from by unfold numberF; rw [if_pos (.inr (.inr h48))])
        have e1 : ((((⟨s.toArray⟩ : ByteArray)[0]'(by rw [size_mk]; exact hp)).toNat : Int) == 48) = true := by rw [hx0, h48.1]; rfl
        have e3 : (s == [48]) = false := by rw [beq_eq_false_iff_ne]; exact h48.2
        clear h0 hx0 h48 h4
        go_enter Tryz.func87, Tryz.ntmps87
        go_wp2
        go_ret2
        rw [HR.out]
        exact ⟨⟨0, rfl⟩, rfl⟩
      · have HR := Lib.hid (show numberF s a b = match digitsF s 0 with
            | some n => if a ≤ n ∧ n ≤ b then some n else none
            | none => none from by unfold numberF; rw [if_neg (by rintro (h | h | h); exact h0 h; exact h4 h; exact h48 h)]; rfl)
        have e13 : (((((⟨s.toArray⟩ : ByteArray)[0]'(by rw [size_mk]; exact hp)).toNat : Int) == 48) = true ∧ (s == [48]) = true) ∨ ((((⟨s.toArray⟩ : ByteArray)[0]'(by rw [size_mk]; exact hp)).toNat : Int) == 48) = false := by
          by_cases hs48 : s.getD 0 0 = 48
          · left
            refine ⟨by rw [hx0, hs48]; rfl, ?_⟩
            rw [beq_iff_eq]
            exact Classical.byContradiction fun hne => h48 ⟨hs48, hne⟩
          · right
            rw [hx0, beq_eq_false_iff_ne]
            intro e
            exact hs48 (UInt8.toNat.inj (by exact_mod_cast e))
        have h5 : s.length ≤ 4 := by omega
        clear hx0 h48 h4
        rcases e13 with ⟨e1, e3⟩ | e1
        all_goals
          go_enter Tryz.func87, Tryz.ntmps87
          go_wp2
          go_loop [8, 28] (fun n i => ∃ k m : Nat, k ≤ s.length ∧ i = .int .i64 k ∧ n = .int .i64 m ∧ m < 10 ^ k ∧ Hid (digitsF s 0 = digitsF (s.drop k) m)) (fun n i => s.length - (intOf i).toNat)
          case atStart => exact ⟨0, 0, Nat.zero_le _, rfl, rfl, by omega, Lib.hid (by simp)⟩
          case round =>
            obtain ⟨k, m, hk, rfl, rfl, hm, heq⟩ := hrel
            have hm4 : m < 10000 := Nat.lt_of_lt_of_le hm (Nat.le_trans (Nat.pow_le_pow_right (by omega) (show k ≤ 4 by omega)) (by omega))
            by_cases hlt : k < s.length
            · have hst := digits_at s k m hlt
              have hcx : (⟨s.toArray⟩ : ByteArray)[k]'(by rw [size_mk]; exact hlt) = s[k] := rfl
              by_cases hc : 48 ≤ s[k] ∧ s[k] ≤ 57
              · have n1 : 48 ≤ s[k].toNat := by have := UInt8.le_iff_toNat_le.1 hc.1; simpa using this
                have n2 : s[k].toNat ≤ 57 := by have := UInt8.le_iff_toNat_le.1 hc.2; simpa using this
                rw [if_pos hc] at hst
                have HST := Lib.hid hst
                obtain ⟨x, hx⟩ : ∃ x, s[k] = x := ⟨_, rfl⟩
                rw [hx] at hcx n1 n2 HST
                have HM := Lib.hid hm
                have HLT := Lib.hid hlt
                clear hst hc hx hm
                go_wp2
                go_round
                case rel => exact ⟨k + 1, 10 * m + (x.toNat - 48), by omega, by go_num, by rw [show (10 : Int) * m + (x.toNat - 48) = ((10 * m + (x.toNat - 48) : Nat) : Int) by omega], by have := HM.out; rw [Nat.pow_succ]; omega, Lib.hid (by rw [heq.out, HST.out])⟩
                case measure => simp [intOf]; omega
              · rw [if_neg hc] at hst
                have HN := Lib.hid (show numberF s a b = none from by rw [HR.out, heq.out, hst])
                have hcc : s[k].toNat < 48 ∨ 57 < s[k].toNat := by
                  have h1 : ¬ (48 ≤ s[k].toNat ∧ s[k].toNat ≤ 57) := fun h => hc ⟨UInt8.le_iff_toNat_le.2 (by simpa using h.1), UInt8.le_iff_toNat_le.2 (by simpa using h.2)⟩
                  omega
                obtain ⟨x, hx⟩ : ∃ x, s[k] = x := ⟨_, rfl⟩
                rw [hx] at hcx hcc
                clear hst hc hx hm
                rcases hcc with hcc | hcc
                all_goals
                  go_wp2
                  go_ret2
                  rw [HN.out]
                  exact ⟨⟨0, rfl⟩, rfl⟩
            · have hk' : k = s.length := by omega
              subst hk'
              have hdf : digitsF s 0 = some m := by rw [heq.out, List.drop_length]; rfl
              clear heq hlt
              by_cases ha : a ≤ m
              · have d1 : decide ((a : Int) ≤ (m : Int)) = true := by rw [decide_eq_true_eq]; omega
                have d1' : decide (a ≤ m) = true := by rw [decide_eq_true_eq]; omega
                by_cases hb : m ≤ b
                · have d2 : decide ((m : Int) ≤ (b : Int)) = true := by rw [decide_eq_true_eq]; omega
                  have d2' : decide (m ≤ b) = true := by rw [decide_eq_true_eq]; omega
                  have HN := Lib.hid (show numberF s a b = some m from by rw [HR.out, hdf]; simp [ha, hb])
                  clear ha hb hdf
                  go_wp2
                  go_ret2
                  rw [HN.out]
                  exact ⟨rfl, rfl⟩
                · have d2 : decide ((m : Int) ≤ (b : Int)) = false := by rw [decide_eq_false_iff_not]; omega
                  have d2' : decide (m ≤ b) = false := by rw [decide_eq_false_iff_not]; omega
                  have HN := Lib.hid (show numberF s a b = none from by rw [HR.out, hdf]; simp [hb])
                  clear ha hb hdf
                  go_wp2
                  go_ret2
                  rw [HN.out]
                  exact ⟨⟨_, rfl⟩, rfl⟩
              · have d1 : decide ((a : Int) ≤ (m : Int)) = false := by rw [decide_eq_false_iff_not]; omega
                have d1' : decide (a ≤ m) = false := by rw [decide_eq_false_iff_not]; omega
                have HN := Lib.hid (show numberF s a b = none from by rw [HR.out, hdf]; simp [ha])
                clear ha hdf
                go_wp2
                go_ret2
                rw [HN.out]
                exact ⟨⟨_, rfl⟩, rfl⟩
theorem setLast_eq {s : PS} {l : Lvl} (h : s.last = some l) (f : Lvl → Lvl) : s.setLast f = s.setLast fun _ => f l := by unfold PS.setLast; rw [h]
theorem setLast_cur (s : PS) (f : Lvl → Lvl) : (s.setLast f).cur = s.cur := rfl
theorem setLast_last {s : PS} {l : Lvl} (h : s.last = some l) (l' : Lvl) : (s.setLast fun _ => l').last = some l' := by unfold PS.setLast; rw [h]; unfold PS.last; simp
theorem doErr2 {B b : Nat} {vm v : Value} {f : Flt} {w w1 : World} (hf : FltV w1 v f) (hb : Below B w w1) : DoPost B b vm (.error f) w (.panicked [{ v := .iface 50 (.agg #[v]), recovered := false }]) w1 := ⟨hb, v, rfl, hf⟩
set_option maxHeartbeats 3200000 in
set_option maxRecDepth 100000 in
theorem contents_any (B : Nat) (s : PS) (p : PV) (t : Tok) (arg : Wd) (w : World) (h : ParR B w s p) (hB : B ≤ w.heap.size) (tp : Top) (ht : s.cur = some tp) :
    Calls Tryz.prog 36 #[parP p, tokV t, .string ⟨arg.toArray⟩] w (DoPost B p.b p.vm (s.contents t arg) w) := by
  have HB0 : Hid (Below B w (w.alloc (.cells #[.int .i64 t.kind, .string ⟨t.name.toArray⟩, .string ⟨t.text.toArray⟩, .int .i64 t.line, .int .i64 t.col] 59))) := Lib.hid ((Below.refl B w).alloc hB _)
  have hb1 : B ≤ (w.alloc (.cells #[.int .i64 t.kind, .string ⟨t.name.toArray⟩, .string ⟨t.text.toArray⟩, .int .i64 t.line, .int .i64 t.col] 59)).heap.size := by simp; omega
  have HB1 := Lib.hid hb1
  clear hb1
  have HE := fun c w hc => swrong_any c t w hc
  have hN := fun w => number_any arg 1 8 w
  cases hnum : numberF arg 1 8 with
  | none =>
    rw [hnum] at hN
    have HN := Lib.hid hN
    have HP := Lib.hid (show s.contents t arg = .error (t.flt 51) from by unfold PS.contents; rw [hnum])
    clear h hN hnum
    go_enter Tryz.func36, Tryz.ntmps36
    go_wp2_with (first
      | (go_at_call 87; refine (HN.out _).mono ?_; rintro e w2 ⟨⟨x, rfl⟩, rfl⟩)
      | (go_at_call 52; refine (HE 51 _ (by decide)).mono ?_; rintro e w9 ⟨v, rfl, hf, hb⟩)
      | fail)
    refine ⟨rfl, ?_⟩
    rw [HP.out]
    exact doErr hf hb HB0.out HB1.out
  | some n =>
    rw [hnum] at hN
    have HN := Lib.hid hN
    have HP := Lib.hid (show s.contents t arg = .ok { s with cur := some { tp with level := n } } from by unfold PS.contents; rw [hnum, ht]; rfl)
    obtain ⟨cap, sn, sti, -, -, d0, d1, d2, d3, d4, d5, d6, d7, df, dl, dB⟩ := top_cells (h.top tp ht).1
    have hT := topic_any B s p _ (h.alloc (.cells #[.int .i64 t.kind, .string ⟨t.name.toArray⟩, .string ⟨t.text.toArray⟩, .int .i64 t.line, .int .i64 t.col] 59))
    rw [topP_some ht] at hT
    have HT := Lib.hid hT
    have HX := Lib.hid h
    clear h hN hnum hT d0 d1 d2 d4 d5 d6 d7
    go_enter Tryz.func36, Tryz.ntmps36
    go_wp2_with (first
      | (go_at_call 87; refine (HN.out _).mono ?_; rintro e w2 ⟨rfl, rfl⟩)
      | (go_at_call 28; refine HT.out.mono ?_; rintro e w3 ⟨rfl, rfl⟩)
      | fail)
    go_end0
    rw [HP.out]
    exact ⟨((Below.refl B w).setCell dB _).alloc (by simp; omega) _, rfl, p, (HX.out.levelled ht n).alloc _, rfl, rfl⟩
set_option maxHeartbeats 3200000 in
set_option maxRecDepth 100000 in
theorem item_any (B : Nat) (s : PS) (p : PV) (t : Tok) (arg : Wd) (w : World) (h : ParR B w s p) (hB : B ≤ w.heap.size) (tp : Top) (ht : s.cur = some tp) (l : Lvl) (hl : s.last = some l) (hi : l.items ≤ 4000000) (hn : tp.blks.length ≤ 4000000) :
    Calls Tryz.prog 45 #[parP p, tokV t, .string ⟨arg.toArray⟩] w (DoPost B p.b p.vm (s.item t arg) w) := by
  have HB0 : Hid (Below B w (w.alloc (.cells #[.int .i64 t.kind, .string ⟨t.name.toArray⟩, .string ⟨t.text.toArray⟩, .int .i64 t.line, .int .i64 t.col] 59))) := Lib.hid ((Below.refl B w).alloc hB _)
  have hb1 : B ≤ (w.alloc (.cells #[.int .i64 t.kind, .string ⟨t.name.toArray⟩, .string ⟨t.text.toArray⟩, .int .i64 t.line, .int .i64 t.col] 59)).heap.size := by simp; omega
  have HB1 := Lib.hid hb1
  clear hb1
  by_cases ha : arg = []
  case neg =>
    have HE := Lib.hid (fun w => bare_bad t arg w ha)
    have HP := Lib.hid (show s.item t arg = .error (t.flt 51) from by unfold PS.item; rw [if_neg ha])
    clear h ha
    go_enter Tryz.func45, Tryz.ntmps45
    go_wp2_with (first
      | (go_at_call 89; refine (HE.out _).mono ?_; rintro e w9 ⟨v, rfl, hf, hb⟩)
      | fail)
    refine ⟨rfl, ?_⟩
    rw [HP.out]
    exact doErr hf hb HB0.out HB1.out
  subst ha
  have HN := Lib.hid (fun w => bare_nil t w)
  have HP := Lib.hid (show s.item t [] = .ok ((s.setLast fun _ => { l with items := l.items + 1 }).add []) from by unfold PS.item; rw [if_pos rfl, setLast_eq hl])
  obtain ⟨cap, -, -, d0, d1, d2, d3, d4, d5, d6, d7, d8, d9, df, dq, dB⟩ := lvl_cells h hl
  have hL := fun (w' : World) (hb : Below w.heap.size w w') => last_any B s p w' (h.new hb)
  rw [lastP_some hl] at hL
  have HL := Lib.hid hL
  have HX := Lib.hid h
  have HA := fun (w' : World) (h' : ParR B w' (s.setLast fun _ => { l with items := l.items + 1 }) p) (hb' : B ≤ w'.heap.size) => add_any B _ p tp 3 0 (.string ⟨#[]⟩) (.slice none 0 0) (.slice none 0 0) t.line [] w' h' ht hb' (TextR.nil _ _) hn ⟨⟨_, rfl⟩, _, _, _, rfl⟩
  have HA := Lib.hid HA
  clear h hL d0 d2 d3 d4 d5 d6 d7 d8 d9
  go_enter Tryz.func45, Tryz.ntmps45
  go_wp2_with (first
    | (go_at_call 89; refine (HN.out _).mono ?_; rintro e w2 ⟨rfl, hb2⟩; have HB2 := Lib.hid (((Below.refl w.heap.size w).alloc (Nat.le_refl _) (.cells #[.int .i64 t.kind, .string ⟨t.name.toArray⟩, .string ⟨t.text.toArray⟩, .int .i64 t.line, .int .i64 t.col] 59)).trans (hb2.mono (by simp))); have dt : w2.cell? ⟨w.heap.size, 3, none⟩ = some (.int .i64 t.line) := (hb2.cell (by simp)).trans (by simp); have d1' : w2.cell? ⟨p.q, p.r + 1, none⟩ = some (.int .i64 l.items) := (HB2.out.cell dq).trans d1; have df' : w2.frozen? ⟨p.q, p.r + 1, none⟩ = false := (HB2.out.frozen dq).trans (df _); clear hb2)
    | (go_at_call 44; refine (HL.out _ HB2.out).mono ?_; rintro e w3 ⟨rfl, rfl⟩)
    | (go_at_call 58; refine (HA.out _ ((HX.out.new HB2.out).lvlSet hl 1 _ rfl) (by have := HB2.out.size; simp; omega)).mono ?_; rintro e w4 ⟨rfl, hb4, hp4⟩; have HB4 := Lib.hid hb4; have HP4 := Lib.hid hp4; clear hb4 hp4)
    | fail)
  go_end0
  rw [HP.out]
  exact ⟨((HB2.out.mono hB).setCell dB _).trans HB4.out, rfl, HP4.out⟩
set_option maxHeartbeats 3200000 in
set_option maxRecDepth 100000 in
theorem row_any (B : Nat) (s : PS) (p : PV) (t : Tok) (arg : Wd) (w : World) (h : ParR B w s p) (hB : B ≤ w.heap.size) (tp : Top) (ht : s.cur = some tp) (l : Lvl) (hl : s.last = some l) (hi : l.rows ≤ 4000000) (hn : tp.blks.length ≤ 4000000) :
    Calls Tryz.prog 49 #[parP p, tokV t, .string ⟨arg.toArray⟩] w (DoPost B p.b p.vm (s.row t arg) w) := by
  have HB0 : Hid (Below B w (w.alloc (.cells #[.int .i64 t.kind, .string ⟨t.name.toArray⟩, .string ⟨t.text.toArray⟩, .int .i64 t.line, .int .i64 t.col] 59))) := Lib.hid ((Below.refl B w).alloc hB _)
  have hb1 : B ≤ (w.alloc (.cells #[.int .i64 t.kind, .string ⟨t.name.toArray⟩, .string ⟨t.text.toArray⟩, .int .i64 t.line, .int .i64 t.col] 59)).heap.size := by simp; omega
  have HB1 := Lib.hid hb1
  clear hb1
  by_cases ha : arg = []
  case neg =>
    have HE := Lib.hid (fun w => bare_bad t arg w ha)
    have HP := Lib.hid (show s.row t arg = .error (t.flt 51) from by unfold PS.row; rw [if_neg ha])
    clear h ha
    go_enter Tryz.func49, Tryz.ntmps49
    go_wp2_with (first
      | (go_at_call 89; refine (HE.out _).mono ?_; rintro e w9 ⟨v, rfl, hf, hb⟩)
      | fail)
    refine ⟨rfl, ?_⟩
    rw [HP.out]
    exact doErr hf hb HB0.out HB1.out
  subst ha
  have HN := Lib.hid (fun w => bare_nil t w)
  have HP := Lib.hid (show s.row t [] = .ok (((s.setLast fun _ => { l with rows := l.rows + 1 }).setLast fun _ => { l with rows := l.rows + 1, cells := 0 }).add []) from by
    unfold PS.row
    rw [if_pos rfl, setLast_eq hl]
    congr 2
    unfold PS.setLast
    rw [hl]
    simp [PS.last])
  have hl2 := setLast_last hl { l with rows := l.rows + 1 }
  obtain ⟨cap, -, -, d0, d1, d2, d3, d4, d5, d6, d7, d8, d9, df, dq, dB⟩ := lvl_cells h hl
  have hL := fun (w' : World) (hb : Below w.heap.size w w') => last_any B s p w' (h.new hb)
  rw [lastP_some hl] at hL
  have HL := Lib.hid hL
  have HX := Lib.hid h
  have HA := Lib.hid (fun (w' : World) (h' : ParR B w' ((s.setLast fun _ => { l with rows := l.rows + 1 }).setLast fun _ => { l with rows := l.rows + 1, cells := 0 }) p) (hb' : B ≤ w'.heap.size) => add_any B _ p tp 5 0 (.string ⟨#[]⟩) (.slice none 0 0) (.slice none 0 0) t.line [] w' h' ht hb' (TextR.nil _ _) hn ⟨⟨_, rfl⟩, _, _, _, rfl⟩)
  clear h hL d0 d1 d4 d5 d6 d7 d8 d9
  go_enter Tryz.func49, Tryz.ntmps49
  go_wp2_with (first
    | (go_at_call 89; refine (HN.out _).mono ?_; rintro e w2 ⟨rfl, hb2⟩; have HB2 := Lib.hid (((Below.refl w.heap.size w).alloc (Nat.le_refl _) (.cells #[.int .i64 t.kind, .string ⟨t.name.toArray⟩, .string ⟨t.text.toArray⟩, .int .i64 t.line, .int .i64 t.col] 59)).trans (hb2.mono (by simp))); have dt : w2.cell? ⟨w.heap.size, 3, none⟩ = some (.int .i64 t.line) := (hb2.cell (by simp)).trans (by simp); have d2' : w2.cell? ⟨p.q, p.r + 2, none⟩ = some (.int .i64 l.rows) := (HB2.out.cell dq).trans d2; have df2 : w2.frozen? ⟨p.q, p.r + 2, none⟩ = false := (HB2.out.frozen dq).trans (df _); have d3' : w2.cell? ⟨p.q, p.r + 3, none⟩ = some (.int .i64 l.cells) := (HB2.out.cell dq).trans d3; have df3 : w2.frozen? ⟨p.q, p.r + 3, none⟩ = false := (HB2.out.frozen dq).trans (df _); clear hb2)
    | (go_at_call 44; refine (HL.out _ HB2.out).mono ?_; rintro e w3 ⟨rfl, rfl⟩)
    | (go_at_call 58; go_loud (refine (HA.out _ (((HX.out.new HB2.out).lvlSet hl 2 (.int .i64 ((l.rows + 1 : Nat) : Int)) rfl).lvlSet hl2 3 (.int .i64 0) rfl) (by have := HB2.out.size; simp; omega)).mono ?_; rintro e w4 ⟨rfl, hb4, hp4⟩; have HB4 := Lib.hid hb4; have HP4 := Lib.hid hp4; clear hb4 hp4))
    | fail)
  go_end0
  rw [HP.out]
  exact ⟨(((HB2.out.mono hB).setCell dB _).setCell dB _).trans HB4.out, rfl, HP4.out⟩
set_option maxHeartbeats 3200000 in
set_option maxRecDepth 100000 in
theorem end_any (B : Nat) (s : PS) (p : PV) (t : Tok) (arg : Wd) (w : World) (h : ParR B w s p) (hB : B ≤ w.heap.size) (tp : Top) (ht : s.cur = some tp) (l : Lvl) (hl : s.last = some l) (hn : tp.blks.length ≤ 4000000) :
    Calls Tryz.prog 51 #[parP p, tokV t, .string ⟨arg.toArray⟩] w (DoPost B p.b p.vm (s.end_ t arg) w) := by
  have HB0 : Hid (Below B w (w.alloc (.cells #[.int .i64 t.kind, .string ⟨t.name.toArray⟩, .string ⟨t.text.toArray⟩, .int .i64 t.line, .int .i64 t.col] 59))) := Lib.hid ((Below.refl B w).alloc hB _)
  have hb1 : B ≤ (w.alloc (.cells #[.int .i64 t.kind, .string ⟨t.name.toArray⟩, .string ⟨t.text.toArray⟩, .int .i64 t.line, .int .i64 t.col] 59)).heap.size := by simp; omega
  have HB1 := Lib.hid hb1
  clear hb1
  by_cases ha : arg = []
  case neg =>
    have HE := Lib.hid (fun w => bare_bad t arg w ha)
    have HP := Lib.hid (show s.end_ t arg = .error (t.flt 51) from by unfold PS.end_; rw [if_neg ha])
    clear h ha
    go_enter Tryz.func51, Tryz.ntmps51
    go_wp2_with (first
      | (go_at_call 89; refine (HE.out _).mono ?_; rintro e w9 ⟨v, rfl, hf, hb⟩)
      | fail)
    refine ⟨rfl, ?_⟩
    rw [HP.out]
    exact doErr hf hb HB0.out HB1.out
  subst ha
  have HN := Lib.hid (fun w => bare_nil t w)
  have HP := Lib.hid (show s.end_ t [] = .ok (PS.add { s with opn := s.opn.dropLast } []) from by unfold PS.end_; rw [if_pos rfl])
  obtain ⟨c0, c1, c2, c3, c4, c5, cf⟩ := par_cells h
  have hpb := h.base
  have hpl := h.lt
  obtain ⟨cap, hv, ⟨hr, hmx⟩, -⟩ := lvl_cells h hl
  obtain ⟨k, hk⟩ : ∃ k, s.opn.length = k + 1 := ⟨s.opn.length - 1, by omega⟩
  have hcap : k + 1 ≤ cap := by
    have := h.opn
    rw [hv, hk] at this
    rcases this.2 with ⟨h0, _⟩ | ⟨g', cap', cur, he, h1, h2, h3, h4, h5⟩
    · cases h0
    · cases he; exact h3
  have HV := Lib.hid hv
  have HK := Lib.hid hk
  rw [hv, hk] at c3
  have hw : IntKind.i64.wrap (k : Int) = k := IntWalk.i64_in _ ⟨by omega, by omega⟩
  have hkc : (k : Int) ≤ (cap : Int) := by omega
  have hkc2 : k ≤ cap := by omega
  have HX := Lib.hid h
  have HA := Lib.hid (fun (w' : World) (p' : PV) (h' : ParR B w' { s with opn := s.opn.dropLast } p') (hb' : B ≤ w'.heap.size) => add_any B _ p' tp 6 0 (.string ⟨#[]⟩) (.slice none 0 0) (.slice none 0 0) t.line [] w' h' ht hb' (TextR.nil _ _) hn ⟨⟨_, rfl⟩, _, _, _, rfl⟩)
  clear h hv hk hr hmx c0 c1 c2 c4 c5
  go_enter Tryz.func51, Tryz.ntmps51
  go_wp2_with (first
    | (go_at_call 89; refine (HN.out _).mono ?_; rintro e w2 ⟨rfl, hb2⟩; have HB2 := Lib.hid (((Below.refl w.heap.size w).alloc (Nat.le_refl _) (.cells #[.int .i64 t.kind, .string ⟨t.name.toArray⟩, .string ⟨t.text.toArray⟩, .int .i64 t.line, .int .i64 t.col] 59)).trans (hb2.mono (by simp))); have dt : w2.cell? ⟨w.heap.size, 3, none⟩ = some (.int .i64 t.line) := (hb2.cell (by simp)).trans (by simp); have c3' : w2.cell? ⟨p.b, 3, none⟩ = some (.slice (some ⟨p.q, 0, none⟩) (k + 1) cap) := (HB2.out.cell hpl).trans c3; have cf' : w2.frozen? ⟨p.b, 3, none⟩ = false := (HB2.out.frozen hpl).trans (cf _); clear hb2)
    | fail)
  go_region_law (fail)
  all_goals
    go_wp2_with (first
      | (go_at_call 58; refine (HA.out _ _ (((HX.out.new HB2.out).drew).popped hl HV.out HK.out) (by have := HB2.out.size; simp; omega)).mono ?_; rintro e w4 ⟨rfl, hb4, hp4⟩; have HB4 := Lib.hid hb4; have HP4 := Lib.hid hp4; clear hb4 hp4)
      | fail)
    go_end0
    rw [HP.out]
    exact ⟨(((HB2.out.mono hB).drew).setCell hpb _).trans HB4.out, rfl, HP4.out⟩
theorem letters_at (l : Wd) (k : Nat) (h : k < l.length) : PS.lettersF (l.take (k + 1)) = (PS.lettersF (l.take k) && (97 ≤ l[k] && l[k] ≤ 122)) := by
  unfold PS.lettersF
  rw [List.take_succ_eq_append_getElem h, List.all_append]
  simp
set_option maxHeartbeats 3200000 in
set_option maxRecDepth 100000 in
theorem para_any (B : Nat) (s : PS) (p : PV) (t : Tok) (arg : Wd) (w : World) (h : ParR B w s p) (hB : B ≤ w.heap.size) (hal : arg.length ≤ 1000000) :
    Calls Tryz.prog 40 #[parP p, tokV t, .string ⟨arg.toArray⟩] w (DoPost B p.b p.vm (s.para_ t arg) w) := by
  have HB0 : Hid (Below B w (w.alloc (.cells #[.int .i64 t.kind, .string ⟨t.name.toArray⟩, .string ⟨t.text.toArray⟩, .int .i64 t.line, .int .i64 t.col] 59))) := Lib.hid ((Below.refl B w).alloc hB _)
  have hb1 : B ≤ (w.alloc (.cells #[.int .i64 t.kind, .string ⟨t.name.toArray⟩, .string ⟨t.text.toArray⟩, .int .i64 t.line, .int .i64 t.col] 59)).heap.size := by simp; omega
  have HB1 := Lib.hid hb1
  clear hb1
  have HE := fun c w hc => swrong_any c t w hc
  have HF := Lib.hid (fun w => fits_any arg 12 w hal)
  have hM : s.para_ t arg = if fitsF arg 12 && PS.lettersF arg then .ok { s with para := some { t with text := arg } } else .error (t.flt 51) := rfl
  obtain ⟨f0, hf0⟩ : ∃ x, fitsF arg 12 = x := ⟨_, rfl⟩
  rw [hf0] at HF hM
  have HM := Lib.hid hM
  have HX := Lib.hid h
  clear h hM hf0
  go_enter Tryz.func40, Tryz.ntmps40
  go_wp2_with (first
    | (go_at_call 86; refine (HF.out _).mono ?_; rintro e w1 ⟨rfl, rfl⟩; clear HF)
    | fail)
  go_loop [6, 12] (fun ok i => ∃ k : Nat, k ≤ arg.length ∧ i = .int .i64 k ∧ ∃ b : Bool, ok = .bool b ∧ Hid (b = (f0 && PS.lettersF (arg.take k)))) (fun _ i => arg.length - (intOf i).toNat)
  case atStart => exact ⟨0, Nat.zero_le _, rfl, f0, rfl, Lib.hid (by simp [PS.lettersF])⟩
  case round =>
    obtain ⟨k, hk, rfl, b, rfl, heq⟩ := hrel
    by_cases hlt : k < arg.length
    · have hst := letters_at arg k hlt
      have hcx : (⟨arg.toArray⟩ : ByteArray)[k]'(by rw [size_mk]; exact hlt) = arg[k] := rfl
      have n1 : decide (97 ≤ arg[k]) = decide (97 ≤ arg[k].toNat) := by congr 1
      have n2 : decide (arg[k] ≤ 122) = decide (arg[k].toNat ≤ 122) := by congr 1
      rw [n1, n2] at hst
      obtain ⟨x, hx⟩ : ∃ x, arg[k] = x := ⟨_, rfl⟩
      rw [hx] at hcx hst
      have e1 : decide ((97 : Int) ≤ (x.toNat : Int)) = decide (97 ≤ x.toNat) := by congr 1; simp; omega
      have e2 : decide ((x.toNat : Int) ≤ (122 : Int)) = decide (x.toNat ≤ 122) := by congr 1; simp; omega
      obtain ⟨y1, hy1⟩ : ∃ y, decide (97 ≤ x.toNat) = y := ⟨_, rfl⟩
      obtain ⟨y2, hy2⟩ : ∃ y, decide (x.toNat ≤ 122) = y := ⟨_, rfl⟩
      rw [hy1, hy2] at hst
      rw [hy1] at e1
      rw [hy2] at e2
      have HST := Lib.hid hst
      have HLT := Lib.hid hlt
      clear hst hx n1 n2
      cases b <;> cases y1 <;> cases y2
      all_goals
        go_wp2
        go_round
        case rel => exact ⟨k + 1, by omega, by go_num, _, rfl, Lib.hid (by rw [HST.out, ← Bool.and_assoc, ← heq.out]; rfl)⟩
        case measure => simp [intOf]; omega
    · have hk' : k = arg.length := by omega
      subst hk'
      have hb : b = (f0 && PS.lettersF arg) := by rw [heq.out, List.take_length]
      rw [← hb] at HM
      clear heq hb hlt
      cases b with
      | false =>
        go_wp2_with (first
          | (go_at_call 52; refine (HE 51 _ (by decide)).mono ?_; rintro e w9 ⟨v, rfl, hf, hb⟩)
          | fail)
        refine ⟨rfl, ?_⟩
        rw [show s.para_ t arg = .error (t.flt 51) from HM.out]
        exact doErr hf hb HB0.out HB1.out
      | true =>
        obtain ⟨c0, c1, c2, c3, c4, c5, cf⟩ := par_cells HX.out
        have hpb := HX.out.base
        have hpl := HX.out.lt
        clear c0 c1 c2 c3 c5
        go_wp2
        go_end0
        rw [show s.para_ t arg = .ok { s with para := some { t with text := arg } } from HM.out]
        obtain ⟨A, hA⟩ : ∃ A, Obj.cells #[.int .i64 t.kind, .string ⟨t.name.toArray⟩, .string ⟨arg.toArray⟩, .int .i64 t.line, .int .i64 t.col] 59 = A := ⟨_, rfl⟩
        rw [hA]
        have hcomm : ((w.setCell ⟨p.b, 4, none⟩ (.slice (some ⟨w.heap.size + 1, 0, none⟩) 1 1)).alloc A).alloc A = ((w.alloc A).alloc A).setCell ⟨p.b, 4, none⟩ (.slice (some ⟨w.heap.size + 1, 0, none⟩) 1 1) := by
          rw [World.setCell_alloc_past _ _ _ _ (by simp; omega), World.setCell_alloc_past _ _ _ _ (by omega)]
        rw [hcomm]
        have hB2 : Below B w ((w.alloc A).alloc A) := ((Below.refl B w).alloc hB _).alloc (by simp; omega) _
        refine ⟨hB2.setCell hpb _, rfl, _, ((HX.out.alloc A).alloc A).waits (x := some { t with text := arg }) ?_, rfl, rfl⟩
        subst hA
        have := World.ownsRow_lit (base := B) (e := 59) (size := 5) (w.alloc (Obj.cells #[.int .i64 t.kind, .string ⟨t.name.toArray⟩, .string ⟨arg.toArray⟩, .int .i64 t.line, .int .i64 t.col] 59)) #[.int .i64 t.kind, .string ⟨t.name.toArray⟩, .string ⟨arg.toArray⟩, .int .i64 t.line, .int .i64 t.col] 1 (by simp; omega) (by unfold maxLen; decide) rfl
        rw [show (w.alloc (Obj.cells #[.int .i64 t.kind, .string ⟨t.name.toArray⟩, .string ⟨arg.toArray⟩, .int .i64 t.line, .int .i64 t.col] 59)).heap.size = w.heap.size + 1 from by simp] at this
        exact this
end Go.Proofs.YtafhmagifoapfaaGreatDoor
