/- mark: check, end. -/
import Derived.Test.YtafhmagifoapfaaGreatDoorStart
import Derived.Lib.IndexAny
namespace Go.Proofs.YtafhmagifoapfaaGreatDoor
open Go.RowKit Find Bk
attribute [local go_sem ↓] Go.wp_at_zero Go.wp_at_succ
/-- What a step of the lexer's leaves: an error, or nil and the lexer. -/
def StepPost (B b : Nat) (r : Except Flt LS) (w : World) (e : Ending) (w' : World) : Prop := ∃ v, e = .returned v ∧ Below B w w' ∧ (match r with
  | .ok s' => v = .nilIface ∧ LexAt B w' b s'
  | .error f => FltV w' v f)
def CheckPost (r : Option Flt) (w : World) (e : Ending) (w' : World) : Prop := ∃ v, e = .returned v ∧ Below w.heap.size w w' ∧ (match r with
  | none => v = .nilIface
  | some f => FltV w' v f)
theorem plainAt_lt : ∀ (f : Nat) (l : Wd) (i j : Nat), plainAt f l i = some j → j < i + l.length
  | 0, l, i, j, h => by cases h
  | f + 1, l, i, j, h => by
    unfold plainAt at h
    by_cases e : l = []
    · rw [if_pos e] at h; cases h
    · rw [if_neg e] at h
      have hp := List.length_pos_iff.2 e
      have h1 := decL_len l e
      split at h
      · simp only [Option.some.injEq] at h
        omega
      · have := plainAt_lt f _ _ _ h
        rw [List.length_drop] at this
        omega
set_option maxHeartbeats 1600000 in
set_option maxRecDepth 100000 in
theorem check_any (B b : Nat) (s : LS) (l : Wd) (w : World) (h : LexAt B w b s) (hg : Glb w) (hl : l.length ≤ 1000000) (hu : (untab l).length ≤ 1000000) :
    Calls Tryz.prog 79 #[.pointer (some ⟨b, 0, none⟩), .string ⟨l.toArray⟩] w (CheckPost (s.check l) w) := by
  obtain ⟨vo, vp, h⟩ := h
  obtain ⟨c0, c1, c2, c3, c4, c5, c6, c7, c8, c9, c10, c11, cf⟩ := lex_cells h
  have hblt := h.lt
  clear c0 c1 c2 c3 c4 c5 c6 c7 c8 c9 c10 h
  have HG := Lib.hid hg
  clear hg
  by_cases hlong : 4096 < l.length
  · have HP := Lib.hid (show s.check l = some ⟨2, s.line, 1, []⟩ from by unfold LS.check; rw [if_pos hlong])
    go_enter Tryz.func79, Tryz.ntmps79
    go_wp2_with (go_at_call 22; refine (wrong_any 2 s.line 1 [] w (by decide)).mono ?_; rintro e w1 ⟨v, rfl, hf, hb⟩)
    go_ret
    refine ⟨v, rfl, hb, ?_⟩
    rw [HP.out]; exact hf
  · have hP : s.check l = match plainA (untab l) 0 with
        | some i => some ⟨40, s.line, i + 1, []⟩
        | none => none := by unfold LS.check; rw [if_neg hlong]; rfl
    have HP := Lib.hid hP
    have hut := untab_any l w HG.out (by omega)
    have HU := Lib.hid hut
    clear hP hut
    cases hpa : plainA (untab l) 0 with
    | none =>
      have HPA := Lib.hid hpa
      clear hpa
      go_enter Tryz.func79, Tryz.ntmps79
      go_wp2_with (first
        | (go_at_call 139; refine HU.out.mono ?_; rintro e w1 ⟨rfl, hb1⟩; have HB1 := Lib.hid hb1; clear hb1)
        | (go_at_call 138; refine (plain_any (untab l) w1 (HG.out.below HB1.out) (by omega)).mono ?_; unfold PlainPost; rw [HPA.out]; rintro e w2 ⟨rfl, hb2⟩; have HB2 := Lib.hid (HB1.out.trans (hb2.mono HB1.out.size)); clear hb2))
      go_ret
      refine ⟨_, rfl, HB2.out, ?_⟩
      rw [HP.out, HPA.out]; exact rfl
    | some i =>
      have HPA := Lib.hid hpa
      have hi : i < (untab l).length := by have := plainAt_lt _ _ _ _ hpa; omega
      clear hpa
      go_enter Tryz.func79, Tryz.ntmps79
      go_wp2_with (first
        | (go_at_call 139; refine HU.out.mono ?_; rintro e w1 ⟨rfl, hb1⟩; have HB1 := Lib.hid hb1; clear hb1)
        | (go_at_call 138; refine (plain_any (untab l) w1 (HG.out.below HB1.out) (by omega)).mono ?_; unfold PlainPost; rw [HPA.out]; rintro e w2 ⟨rfl, hb2⟩; have c11' := ((HB1.out.trans (hb2.mono HB1.out.size)).cell (p := ⟨b, 11, none⟩) hblt).trans c11; have HB2 := Lib.hid (HB1.out.trans (hb2.mono HB1.out.size)); clear hb2)
        | (go_at_call 22; refine (wrong_any 40 s.line (i + 1) [] w2 (by decide)).mono ?_; rintro e w3 ⟨v, rfl, hf, hb3⟩))
      go_ret
      refine ⟨v, rfl, HB2.out.trans (hb3.mono HB2.out.size), ?_⟩
      rw [HP.out, HPA.out]; exact hf
theorem owns_form {w : World} {B : Nat} {e : TypeId} {size n : Nat} {v : Value} {xs : List Value} (h : w.ownsRow B e size v n xs) (hn : 0 < n) : ∃ g c, v = .slice (some ⟨g, 0, none⟩) n c ∧ n ≤ c ∧ g < w.heap.size ∧ ∀ j u, xs[j]? = some u → w.cell? ⟨g, j, none⟩ = some u := by
  have hl := h.lt
  have hc := @World.ownsRow.cells
  rcases h.2 with ⟨rfl, h0⟩ | ⟨g, cap, cur, rfl, h1, h2, h3, _⟩
  · omega
  · refine ⟨g, cap, rfl, h3, lt_of_heap h2, fun j u hj => ?_⟩
    have := h.cells (g := g) rfl j u hj
    have e : (⟨g, 0, none⟩ : Addr).add j = ⟨g, j, none⟩ := by unfold Addr.add; by_cases h : j = 0 <;> simp [h]
    rw [e] at this
    exact this
set_option maxHeartbeats 3200000 in
set_option maxRecDepth 100000 in
theorem fin_any (B b : Nat) (s : LS) (w : World) (h : LexAt B w b s) (hB : B ≤ w.heap.size) (hn : s.out.length ≤ 4000000) (ho : s.opn.length ≤ 16) :
    Calls Tryz.prog 26 #[.pointer (some ⟨b, 0, none⟩)] w (StepPost B b s.fin w) := by
  have HL := Lib.hid h
  obtain ⟨vo, vp, h⟩ := h
  obtain ⟨c0, c1, c2, c3, c4, c5, c6, c7, c8, c9, c10, c11, cf⟩ := lex_cells h
  have hbase := h.base
  have hblt := h.lt
  have hbrc := h.brcs
  clear c0 c3 c4 c5 c6 c7 c8 c9 c10 h
  by_cases hi : s.ins = 0
  · have HP := Lib.hid (show s.fin = .ok s from by unfold LS.fin; rw [if_pos hi])
    have hi' : ((s.ins : Int) == 0) = true := by rw [hi]; rfl
    clear hi hbrc
    go_enter Tryz.func26, Tryz.ntmps26
    go_wp2
    go_ret
    refine ⟨_, rfl, Below.refl _ _, ?_⟩
    rw [HP.out]; exact ⟨rfl, HL.out⟩
  · have hi' : ((s.ins : Int) == 0) = false := by rw [beq_eq_false_iff_ne]; omega
    rcases List.eq_nil_or_concat s.opn with ho0 | ⟨L, br, hob⟩
    · have HP := Lib.hid (show s.fin = .ok { s.flush with ins := 0, b0 := 0, b1 := 0 } from by unfold LS.fin; rw [if_neg hi, ho0]; rfl)
      rw [ho0] at hbrc
      obtain ⟨a, cc, rfl⟩ := owns_slice hbrc
      have hz : ([] : List Brc).length = 0 := rfl
      rw [hz] at c1
      clear hi ho0 hbrc hz
      go_enter Tryz.func26, Tryz.ntmps26
      go_wp2_with (go_at_call 84; refine (flush_any B b s w HL.out hB hn).mono ?_; rintro e w1 ⟨rfl, ⟨vo1, vp1, hx1⟩, hb1⟩; obtain ⟨d0, d1, d2, d3, d4, d5, d6, d7, d8, d9, d10, d11, df⟩ := lex_cells hx1; have HX1 := Lib.hid hx1; have HB1 := Lib.hid hb1; clear hx1 hb1)
      go_ret
      refine ⟨_, rfl, ((HB1.out.setCell hbase _).setCell hbase _).setCell hbase _, ?_⟩
      rw [HP.out]
      exact ⟨rfl, vo1, vp1, ((HX1.out.set 2 (by omega) (.int .i64 0)).set 8 (by omega) (.int .i64 0)).set 9 (by omega) (.int .i64 0)⟩
    · have HP := Lib.hid (show s.fin = .error ⟨45, br.line, br.col, br.name⟩ from by unfold LS.fin; rw [if_neg hi, hob]; simp)
      rw [hob] at hbrc ho
      have hlen : (L ++ [br]).length = L.length + 1 := by simp
      rw [List.concat_eq_append] at hbrc ho
      rw [hlen] at hbrc ho
      obtain ⟨g, cc, rfl, hcc, hgl, hcell⟩ := owns_form hbrc (by omega)
      have k0 : w.cell? ⟨g, L.length * 3, none⟩ = some (.string ⟨br.name.toArray⟩) := hcell _ _ (by rw [brcsC_snoc, List.getElem?_append_right (by rw [brcsC_len]; omega), brcsC_len]; simp [brcC])
      have k1 : w.cell? ⟨g, L.length * 3 + 1, none⟩ = some (.int .i64 br.line) := hcell _ _ (by rw [brcsC_snoc, List.getElem?_append_right (by rw [brcsC_len]; omega), brcsC_len]; simp [brcC])
      have k2 : w.cell? ⟨g, L.length * 3 + 2, none⟩ = some (.int .i64 br.col) := hcell _ _ (by rw [brcsC_snoc, List.getElem?_append_right (by rw [brcsC_len]; omega), brcsC_len]; simp [brcC])
      clear hi hob hbrc hcell hlen
      go_enter Tryz.func26, Tryz.ntmps26
      go_wp2_with (go_at_call 22; refine (wrong_any 45 br.line br.col br.name _ (by decide)).mono ?_; rintro e w1 ⟨v, rfl, hf, hb1⟩)
      go_ret
      refine ⟨v, rfl, ((Below.refl _ _).alloc hB _).trans (hb1.mono (by simp; omega)), ?_⟩
      rw [HP.out]; exact hf
/-- What a step within a line leaves: how many bytes it has taken, or an error. -/
def CharPost (B b : Nat) (r : Except Flt (Nat × LS)) (w : World) (e : Ending) (w' : World) : Prop := Below B w w' ∧ (match r with
  | .ok p => e = .returned (.tuple #[.int .i64 p.1, .nilIface]) ∧ LexAt B w' b p.2
  | .error f => ∃ v, e = .returned (.tuple #[.int .i64 0, v]) ∧ FltV w' v f)
theorem u8_self (x : UInt8) : ((x.toNat : Int)).toNat.toUInt8 = x := by simp
theorem idx_mem (l : Wd) (x : UInt8) : (0 ≤ Lib.indexByte l x) ↔ x ∈ l := by
  have := Lib.contains_iff_indexByte l x
  rw [← List.contains_iff_mem, this, decide_eq_true_eq]
theorem esc_idx (x : UInt8) (w : World) : Calls Tryz.prog 260 #[.string ⟨#[92, 123, 125, 124, 46, 35]⟩, .int .u8 x.toNat] w fun e w' => e = .returned (.int .i64 (Lib.indexByte escs x)) ∧ w = w' := by
  refine (Tryz.strings_IndexByte ⟨#[92, 123, 125, 124, 46, 35]⟩ x.toNat w).mono ?_
  rintro e w' ⟨rfl, rfl⟩
  rw [u8_self]
  exact ⟨rfl, rfl⟩
set_option maxHeartbeats 3200000 in
set_option maxRecDepth 100000 in
theorem escape_any (B b : Nat) (s : LS) (l : Wd) (i : Nat) (w : World) (h : LexAt B w b s) (hg : Glb w) (hB : B ≤ w.heap.size) (hl : l.length ≤ 1000000) (hi : i < l.length) (ht : s.run.text.length ≤ 3000000) :
    Calls Tryz.prog 209 #[.pointer (some ⟨b, 0, none⟩), .string ⟨l.toArray⟩, .int .i64 i] w (CharPost B b (s.escape l i) w) := by
  have HL := Lib.hid h
  have HG := Lib.hid hg
  obtain ⟨vo, vp, h⟩ := h
  obtain ⟨c0, c1, c2, c3, c4, c5, c6, c7, c8, c9, c10, c11, cf⟩ := lex_cells h
  have hblt := h.lt
  clear c0 c1 c2 c3 c4 c5 c6 c7 c8 c9 c10 h hg
  have hw1 : IntKind.i64.wrap ((i : Int) + 1) = (i : Int) + 1 := IntWalk.i64_in _ (by omega)
  have hw2 : IntKind.i64.wrap ((i : Int) + 2) = (i : Int) + 2 := IntWalk.i64_in _ (by omega)
  have ht1 : ((i : Int) + 1).toNat = i + 1 := by omega
  have ht2 : ((i : Int) + 2).toNat = i + 2 := by omega
  have h0 : (0 : Int) ≤ (i : Int) + 1 := by omega
  have h02 : (0 : Int) ≤ (i : Int) + 2 := by omega
  by_cases h1 : i + 1 < l.length
  · have hlt : decide ((i : Int) + 1 < (l.length : Int)) = true := by rw [decide_eq_true_eq]; omega
    have hlt2 : (i : Int) + 1 < (l.length : Int) := by omega
    have hle2 : (i : Int) + 2 ≤ (l.length : Int) := by omega
    have hle3 : (i : Int) + 1 ≤ (i : Int) + 2 := by omega
    have hle4 : (i : Int) + 1 ≤ (l.length : Int) := by omega
    obtain ⟨x, hx⟩ : ∃ x, x = l[i + 1] := ⟨_, rfl⟩
    have hxg : l[i + 1]? = some x := by rw [hx]; exact List.getElem?_eq_getElem h1
    have hxb : (⟨l.toArray⟩ : ByteArray)[i + 1]'(by rw [size_mk]; exact h1) = x := by rw [hx]; rfl
    have HXB := Lib.hid hxb
    by_cases hm : x ∈ escs
    · have HP := Lib.hid (show s.escape l i = .ok (2, s.settle.put [x] s.line (i + 1)) from by unfold LS.escape; rw [hxg]; simp only [if_pos hm])
      have hge := (idx_mem escs x).2 hm
      have hI := fun w => esc_idx x w
      obtain ⟨q, hq⟩ : ∃ q, q = Lib.indexByte escs x := ⟨_, rfl⟩
      rw [← hq] at hge hI
      rw [← hxb] at hI
      have HI := Lib.hid hI
      have HE := Lib.hid (show (⟨l.toArray⟩ : ByteArray).extract (i + 1) (i + 2) = ⟨[x].toArray⟩ from by
        rw [ext_mk, show i + 2 - (i + 1) = 1 by omega]
        rw [List.drop_eq_getElem_cons h1, ← hx]; rfl)
      clear hm hxg hx hI hxb hq
      go_enter Tryz.func209, Tryz.ntmps209
      go_wp2_with (first
        | (go_at_call 260; refine (HI.out _).mono ?_; rintro e w9 ⟨rfl, rfl⟩)
        | (go_at_call 212; refine (settle_any B b s w HL.out (by omega)).mono ?_; rintro e w1 ⟨rfl, ⟨vo1, vp1, hx1⟩, hb1⟩; obtain ⟨d0, d1, d2, d3, d4, d5, d6, d7, d8, d9, d10, d11, df⟩ := lex_cells hx1; clear d0 d1 d2 d3 d4 d5 d6 d7 d8 d9 d10; have HX1 := Lib.hid hx1; have HB1 := Lib.hid hb1; clear hx1 hb1))
      have hp := put_any B b s.settle [x] s.settle.line (i + 1) w1.drew ⟨vo1, vp1, HX1.out.drew⟩ (by simp) (by
        have := s.settle_text; omega)
      rw [← HE.out] at hp
      have HPUT := Lib.hid hp
      clear hp
      go_still_tail 13, (by kernel_rfl)
      go_wp2_with (go_at_call 213; refine HPUT.out.mono ?_; rintro e w2 ⟨rfl, hx2, hb2⟩)
      go_ret2
      refine ⟨(HB1.out.drew).trans hb2, ?_⟩
      rw [HP.out]
      rw [s.settle_out.2.2.1] at hx2
      exact ⟨rfl, hx2⟩
    · have HP := Lib.hid (show s.escape l i = .error ⟨42, s.line, i + 1, (l.drop (i + 1)).take (decL (l.drop (i + 1))).2⟩ from by unfold LS.escape; rw [hxg]; simp only [if_neg hm])
      have hge : ¬ 0 ≤ Lib.indexByte escs x := fun h => hm ((idx_mem escs x).1 h)
      have hI := fun w => esc_idx x w
      obtain ⟨q, hq⟩ : ∃ q, q = Lib.indexByte escs x := ⟨_, rfl⟩
      rw [← hq] at hge hI
      rw [← hxb] at hI
      have HI := Lib.hid hI
      have hne : l.drop (i + 1) ≠ [] := by intro e; have := congrArg List.length e; rw [List.length_drop] at this; simp at this; omega
      have hd := dec_any (l.drop (i + 1)) w HG.out hne
      have hdl := decL_len (l.drop (i + 1)) hne
      rw [List.length_drop] at hdl
      rw [← ext_to_end] at hd
      have hdf := decL_four (l.drop (i + 1))
      have hE := ext_mk l (i + 1) (i + 1 + (decL (l.drop (i + 1))).2)
      rw [show i + 1 + (decL (l.drop (i + 1))).2 - (i + 1) = (decL (l.drop (i + 1))).2 by omega] at hE
      have hWr := fun w => wrong_any 42 s.line (i + 1) ((l.drop (i + 1)).take (decL (l.drop (i + 1))).2) w (by decide)
      rw [← hE] at hWr
      generalize (decL (l.drop (i + 1))).1 = r at *
      generalize (decL (l.drop (i + 1))).2 = n at *
      have HD := Lib.hid hd
      have HW := Lib.hid hWr
      have hw3 : IntKind.i64.wrap ((i : Int) + 1 + (n : Int)) = (i : Int) + 1 + (n : Int) := IntWalk.i64_in _ (by omega)
      have ht3 : ((i : Int) + 1 + (n : Int)).toNat = i + 1 + n := by omega
      have h03 : (0 : Int) ≤ (i : Int) + 1 + (n : Int) := by omega
      have hle5 : (i : Int) + 1 ≤ (i : Int) + 1 + (n : Int) := by omega
      have hle6 : (i : Int) + 1 + (n : Int) ≤ (l.length : Int) := by omega
      clear hm hxg hx hI hxb hq hne hd hE hWr
      go_enter Tryz.func209, Tryz.ntmps209
      go_wp2_with (first
        | (go_at_call 260; refine (HI.out _).mono ?_; rintro e w9 ⟨rfl, rfl⟩)
        | (go_at_call 188; refine HD.out.mono ?_; rintro e w1 ⟨rfl, hb1⟩; have c11' := (hb1.cell (p := ⟨b, 11, none⟩) hblt).trans c11; have HB1 := Lib.hid hb1; clear hb1)
        | (go_at_call 22; refine (HW.out _).mono ?_; rintro e w2 ⟨v, rfl, hf, hb2⟩))
      go_ret2
      refine ⟨(HB1.out.mono hB).trans (hb2.mono (Nat.le_trans hB HB1.out.size)), ?_⟩
      rw [HP.out]
      exact ⟨v, rfl, hf⟩
  · have HP := Lib.hid (show s.escape l i = .error ⟨42, s.line, i + 1, []⟩ from by unfold LS.escape; rw [List.getElem?_eq_none (by omega)])
    have hlt : decide ((i : Int) + 1 < (l.length : Int)) = false := by rw [decide_eq_false_iff_not]; omega
    have hlt2 : ¬ (i : Int) + 1 < (l.length : Int) := by omega
    go_enter Tryz.func209, Tryz.ntmps209
    go_wp2_with (go_at_call 22; refine (wrong_any 42 s.line (i + 1) [] _ (by decide)).mono ?_; rintro e w2 ⟨v, rfl, hf, hb2⟩)
    go_ret2
    refine ⟨hb2.mono hB, ?_⟩
    rw [HP.out]
    exact ⟨v, rfl, hf⟩
end Go.Proofs.YtafhmagifoapfaaGreatDoor
