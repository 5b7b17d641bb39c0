/- mark: char. -/
import Derived.Test.YtafhmagifoapfaaGreatDoorLexB
namespace Go.Proofs.YtafhmagifoapfaaGreatDoor
open Go.RowKit Find Bk
attribute [local go_sem ↓] Go.wp_at_zero Go.wp_at_succ
theorem owns_short {w : World} {B : Nat} {e : TypeId} {size n m c : Nat} {a : Option Addr} {xs : List Value} (h : w.ownsRow B e size (.slice a n c) n xs) (hn : 0 < n) (hm : m ≤ n) : w.ownsRow B e size (.slice a m c) m (xs.take (m * size)) := by
  have hl := h.1
  rcases h.2 with ⟨h0, h1⟩ | ⟨g, cap, cur, hv, h1, h2, h3, h4, h5, h6⟩
  · omega
  · simp only [Value.slice.injEq] at hv
    obtain ⟨rfl, _, rfl⟩ := hv
    have hmn : m * size ≤ n * size := Nat.mul_le_mul_right _ hm
    refine ⟨by rw [List.length_take, hl]; omega, .inr ⟨g, c, cur, rfl, h1, h2, by omega, h4, h5, ?_⟩⟩
    rw [← h6, List.take_take, Nat.min_eq_left hmn]
theorem owns_cap {w : World} {B : Nat} {e : TypeId} {size n m c : Nat} {a : Option Addr} {xs : List Value} (h : w.ownsRow B e size (.slice a m c) n xs) : n ≤ c ∧ c ≤ 9223372036854775807 := by
  rcases h.2 with ⟨h0, h1⟩ | ⟨g, cap, cur, hv, h1, h2, h3, h4, _⟩
  · simp only [Value.slice.injEq] at h0
    omega
  · simp only [Value.slice.injEq] at hv
    unfold maxLen at h4
    omega
theorem brcsC_take (L : List Brc) (b : Brc) : (brcsC (L ++ [b])).take (L.length * 3) = brcsC L := by
  rw [brcsC_snoc, List.take_append_of_le_length (by rw [brcsC_len]; exact Nat.le_refl _), List.take_of_length_le (by rw [brcsC_len]; exact Nat.le_refl _)]
/-- A brace is shut. -/
theorem LexR.shut {B b : Nat} {w : World} {C : Array Value} {vo : Value} {a : Option Addr} {c : Nat} {out : List Tok} {L : List Brc} {br : Brc} (h : LexR B w b C vo (.slice a (L.length + 1) c) out (L ++ [br])) :
    LexR B (w.setCell ⟨b, 1, none⟩ (.slice a L.length c)) b (C.setIfInBounds 1 (.slice a L.length c)) vo (.slice a L.length c) out L := by
  have hb := h.brcs
  rw [List.length_append] at hb
  have hs := owns_short (m := L.length) hb (by simp) (by simp)
  rw [brcsC_take] at hs
  exact ⟨setCell_heap' h.blk _, by rw [Array.getElem?_setIfInBounds_ne (by omega)]; exact h.c0, by rw [Array.getElem?_setIfInBounds_self_of_lt (by rw [h.size]; omega)], by simpa using h.size,
    owns_keep h.toks fun g hg => setCell_heap_ne' (fun e => owns_apart h.toks h.blk (by decide) (by rw [hg, e])) _,
    owns_keep hs fun g hg => setCell_heap_ne' (fun e => owns_apart hs h.blk (by decide) (by rw [hg, e])) _, h.base⟩
theorem lexAt_new {B b : Nat} {w w' : World} {s : LS} (h : LexAt B w b s) (hb : Below w.heap.size w w') : LexAt B w' b s := by
  obtain ⟨vo, vp, h⟩ := h
  exact ⟨vo, vp, h.new hb⟩
theorem eq_u8 {x : UInt8} {n : Nat} (hn : n < 256) : (((x.toNat : Int)) == (n : Int)) = (x == UInt8.ofNat n) := by
  rw [Bool.eq_iff_iff, beq_iff_eq, beq_iff_eq]
  constructor
  · intro h
    apply UInt8.toNat_inj.1
    have : (UInt8.ofNat n).toNat = n := by simp; omega
    omega
  · intro h
    have : (UInt8.ofNat n).toNat = n := by simp; omega
    rw [h, this]
set_option maxHeartbeats 6400000 in
set_option maxRecDepth 100000 in
theorem char_any (B b : Nat) (s : LS) (l : Wd) (i : Nat) (w : World) (h : LexAt B w b s) (hg : Glb w) (hB : B ≤ w.heap.size) (hl : l.length ≤ 1000000) (hi : i < l.length) (ht : s.run.text.length ≤ 2000000) (ho : s.out.length ≤ 2000000) (h16 : s.opn.length ≤ 16) :
    Calls Tryz.prog 150 #[.pointer (some ⟨b, 0, none⟩), .string ⟨l.toArray⟩, .int .i64 i] w (CharPost B b (s.char l i) w) := by
  have HL := Lib.hid h
  have HG := Lib.hid hg
  have hw1 : IntKind.i64.wrap ((i : Int) + 1) = (i : Int) + 1 := IntWalk.i64_in _ (by omega)
  have hi' : (i : Int) < (l.length : Int) := by omega
  obtain ⟨x, hx⟩ : ∃ x, x = l[i] := ⟨_, rfl⟩
  have hxb : (⟨l.toArray⟩ : ByteArray)[i]'(by rw [size_mk]; exact hi) = x := by rw [hx]; rfl
  have hxd : l.getD i 0 = x := by rw [List.getD_eq_getElem?_getD, List.getElem?_eq_getElem hi, ← hx]; rfl
  have hBl := fun w => blanked_any x w
  rw [← hxb] at hBl
  have HXB := Lib.hid hxb
  have HBL := Lib.hid hBl
  have hch : s.char l i = (if blk x then .ok (1, s.wait (i + 1))
    else if x = 92 then s.escape l i
    else if x = 123 then s.brace l i
    else if x = 125 then (if s.opn = [] then .error ⟨44, s.line, i + 1, []⟩ else .ok (1, { s.token 5 [] (i + 1) with opn := s.opn.dropLast }))
    else if x = 124 ∧ s.opn ≠ [] then .ok (1, s.token 4 [] (i + 1))
    else .ok ((decL (l.drop i)).2, s.settle.put ((l.drop i).take (decL (l.drop i)).2) s.line (i + 1))) := by unfold LS.char; rw [hxd]
  have HCH := Lib.hid hch
  clear h hg hBl hch hxd
  have q92 := eq_u8 (x := x) (n := 92) (by omega)
  have q123 := eq_u8 (x := x) (n := 123) (by omega)
  have q124 := eq_u8 (x := x) (n := 124) (by omega)
  have q125 := eq_u8 (x := x) (n := 125) (by omega)
  rw [← hxb] at q92 q123 q124 q125
  simp only [hxb] at q92 q123 q124 q125
  cases hb : blk x with
  | true =>
    have HP := Lib.hid (show s.char l i = .ok (1, s.wait (i + 1)) from by rw [HCH.out, if_pos hb])
    have HB1 := Lib.hid (show ∀ w, Calls Tryz.prog 149 #[.int .u8 ((⟨l.toArray⟩ : ByteArray)[i]'(by rw [size_mk]; exact hi)).toNat] w fun e w' => e = .returned (.bool true) ∧ w = w' from fun w => by rw [← hb, ← hxb]; exact HBL.out w)
    clear hb hx hxb q92 q123 q124 q125
    go_enter Tryz.func150, Tryz.ntmps150
    go_wp2_with (first
      | (go_at_call 149; refine (HB1.out _).mono ?_; rintro e w9 ⟨rfl, rfl⟩)
      | (go_at_call 151; refine (wait_any B b s (i + 1) w HL.out).mono ?_; rintro e w1 ⟨rfl, hx1, hb1⟩))
    go_ret2
    refine ⟨hb1, ?_⟩
    rw [HP.out]
    exact ⟨rfl, hx1⟩
  | false =>
    have HB1 := Lib.hid (show ∀ w, Calls Tryz.prog 149 #[.int .u8 ((⟨l.toArray⟩ : ByteArray)[i]'(by rw [size_mk]; exact hi)).toNat] w fun e w' => e = .returned (.bool false) ∧ w = w' from fun w => by rw [← hb, ← hxb]; exact HBL.out w)
    have HNB := Lib.hid (show ¬ blk x = true from by rw [hb]; simp)
    clear hb
    have e92 : ((((⟨l.toArray⟩ : ByteArray)[i]'(by rw [size_mk]; exact hi)).toNat : Int) == 92) = (x == 92) := by rw [hxb]; exact eq_u8 (n := 92) (by omega)
    have e123 : ((((⟨l.toArray⟩ : ByteArray)[i]'(by rw [size_mk]; exact hi)).toNat : Int) == 123) = (x == 123) := by rw [hxb]; exact eq_u8 (n := 123) (by omega)
    have e124 : ((((⟨l.toArray⟩ : ByteArray)[i]'(by rw [size_mk]; exact hi)).toNat : Int) == 124) = (x == 124) := by rw [hxb]; exact eq_u8 (n := 124) (by omega)
    have e125 : ((((⟨l.toArray⟩ : ByteArray)[i]'(by rw [size_mk]; exact hi)).toNat : Int) == 125) = (x == 125) := by rw [hxb]; exact eq_u8 (n := 125) (by omega)
    clear q92 q123 q124 q125 hxb hx
    by_cases h92 : x = 92
    · subst h92
      have HP := Lib.hid (show s.char l i = s.escape l i from by rw [HCH.out, if_neg HNB.out, if_pos rfl])
      rw [show ((92 : UInt8) == 92) = true from rfl] at e92
      clear e123 e124 e125
      cases hr : s.escape l i with
      | error f =>
        have HR := Lib.hid hr
        clear hr
        go_enter Tryz.func150, Tryz.ntmps150
        go_wp2_with (first
          | (go_at_call 149; refine (HB1.out _).mono ?_; rintro e w9 ⟨rfl, rfl⟩)
          | (go_at_call 209; refine (escape_any B b s l i w HL.out HG.out hB hl hi (by omega)).mono ?_; unfold CharPost; rw [HR.out]; rintro e w1 ⟨hb1, v, rfl, hf⟩))
        go_ret2
        refine ⟨hb1, ?_⟩
        rw [HP.out, HR.out]
        exact ⟨v, rfl, hf⟩
      | ok p =>
        have HR := Lib.hid hr
        clear hr
        go_enter Tryz.func150, Tryz.ntmps150
        go_wp2_with (first
          | (go_at_call 149; refine (HB1.out _).mono ?_; rintro e w9 ⟨rfl, rfl⟩)
          | (go_at_call 209; refine (escape_any B b s l i w HL.out HG.out hB hl hi (by omega)).mono ?_; unfold CharPost; rw [HR.out]; rintro e w1 ⟨hb1, rfl, hx1⟩))
        go_ret2
        refine ⟨hb1, ?_⟩
        rw [HP.out, HR.out]
        exact ⟨rfl, hx1⟩
    · have f92 : (x == 92) = false := by simpa using h92
      rw [f92] at e92
      by_cases h123 : x = 123
      · subst h123
        have HP := Lib.hid (show s.char l i = s.brace l i from by rw [HCH.out, if_neg HNB.out, if_neg (by decide), if_pos rfl])
        rw [show ((123 : UInt8) == 123) = true from rfl] at e123
        clear e124 e125 f92 h92
        cases hr : s.brace l i with
        | error f =>
          have HR := Lib.hid hr
          clear hr
          go_enter Tryz.func150, Tryz.ntmps150
          go_wp2_with (first
            | (go_at_call 149; refine (HB1.out _).mono ?_; rintro e w9 ⟨rfl, rfl⟩)
            | (go_at_call 210; refine (brace_any B b s l i w HL.out HG.out hB hl hi (by omega) ho).mono ?_; unfold CharPost; rw [HR.out]; rintro e w1 ⟨hb1, v, rfl, hf⟩))
          go_ret2
          refine ⟨hb1, ?_⟩
          rw [HP.out, HR.out]
          exact ⟨v, rfl, hf⟩
        | ok p =>
          have HR := Lib.hid hr
          clear hr
          go_enter Tryz.func150, Tryz.ntmps150
          go_wp2_with (first
            | (go_at_call 149; refine (HB1.out _).mono ?_; rintro e w9 ⟨rfl, rfl⟩)
            | (go_at_call 210; refine (brace_any B b s l i w HL.out HG.out hB hl hi (by omega) ho).mono ?_; unfold CharPost; rw [HR.out]; rintro e w1 ⟨hb1, rfl, hx1⟩))
          go_ret2
          refine ⟨hb1, ?_⟩
          rw [HP.out, HR.out]
          exact ⟨rfl, hx1⟩
      · have f123 : (x == 123) = false := by simpa using h123
        rw [f123] at e123
        obtain ⟨vo, vp, hx0⟩ := HL.out
        obtain ⟨c0, c1, c2, c3, c4, c5, c6, c7, c8, c9, c10, c11, cf⟩ := lex_cells hx0
        have hblt := hx0.lt
        have hbase := hx0.base
        have hbrc := hx0.brcs
        have hto4 := s.token_out 4 [] (i + 1)
        have hto5 := s.token_out 5 [] (i + 1)
        have HTO4 := Lib.hid hto4
        have HTO5 := Lib.hid hto5
        clear c0 c2 c3 c4 c5 c6 c7 c8 c9 c10 hx0 hto4 hto5
        by_cases h125 : x = 125
        · subst h125
          rw [show ((125 : UInt8) == 125) = true from rfl] at e125
          rcases List.eq_nil_or_concat s.opn with ho0 | ⟨L, br, hob⟩
          · have HP := Lib.hid (show s.char l i = .error ⟨44, s.line, i + 1, []⟩ from by rw [HCH.out, if_neg HNB.out, if_neg (by decide), if_neg (by decide), if_pos rfl, if_pos ho0])
            rw [ho0] at hbrc
            obtain ⟨a, cc, rfl⟩ := owns_slice hbrc
            rw [show ([] : List Brc).length = 0 from rfl] at c1
            clear ho0 hbrc e124 f123 h123 f92 h92
            go_enter Tryz.func150, Tryz.ntmps150
            go_wp2_with (first
              | (go_at_call 149; refine (HB1.out _).mono ?_; rintro e w9 ⟨rfl, rfl⟩)
              | (go_at_call 22; refine (wrong_any 44 s.line (i + 1) [] _ (by decide)).mono ?_; rintro e w2 ⟨v, rfl, hf, hb2⟩))
            go_ret2
            refine ⟨hb2.mono hB, ?_⟩
            rw [HP.out]
            exact ⟨v, rfl, hf⟩
          · rw [List.concat_eq_append] at hob
            have HP := Lib.hid (show s.char l i = .ok (1, { s.token 5 [] (i + 1) with opn := L }) from by rw [HCH.out, if_neg HNB.out, if_neg (by decide), if_neg (by decide), if_pos rfl, if_neg (by rw [hob]; simp), hob]; simp)
            have hlen : s.opn.length = L.length + 1 := by rw [hob]; simp
            rw [hlen] at hbrc
            obtain ⟨a, cc, rfl⟩ := owns_slice hbrc
            have hL16 : L.length ≤ 16 := by omega
            have HOB := Lib.hid hob
            clear hob hbrc hlen e124 f123 h123 f92 h92
            go_enter Tryz.func150, Tryz.ntmps150
            go_wp2_with (first
              | (go_at_call 149; refine (HB1.out _).mono ?_; rintro e w9 ⟨rfl, rfl⟩)
              | (go_at_call 211; refine (token_any B b s 5 [] (i + 1) w HL.out hB (by omega) (by omega)).mono ?_; rintro e w1 ⟨rfl, ⟨vo1, vp1, hx1⟩, hb1⟩; rw [HTO5.out.1, HOB.out] at hx1; have hbr1 := hx1.brcs; rw [List.length_append] at hbr1; obtain ⟨a1, cc1, rfl⟩ := owns_slice hbr1; obtain ⟨d0, d1, d2, d3, d4, d5, d6, d7, d8, d9, d10, d11, df⟩ := lex_cells hx1; have hcap := owns_cap hbr1; have HX1 := Lib.hid hx1; have HB2 := Lib.hid hb1; clear hx1 hb1 hbr1 d0 d2 d3 d4 d5 d6 d7 d8 d9 d10 d11))
            go_ret2
            refine ⟨HB2.out.setCell hbase _, ?_⟩
            rw [HP.out]
            exact ⟨rfl, vo1, _, HX1.out.shut⟩
        · have f125 : (x == 125) = false := by simpa using h125
          rw [f125] at e125
          by_cases h124 : x = 124 ∧ s.opn ≠ []
          · obtain ⟨hx4, hone⟩ := h124
            subst hx4
            rw [show ((124 : UInt8) == 124) = true from rfl] at e124
            have HP := Lib.hid (show s.char l i = .ok (1, s.token 4 [] (i + 1)) from by rw [HCH.out, if_neg HNB.out, if_neg (by decide), if_neg (by decide), if_neg (by decide), if_pos ⟨rfl, hone⟩])
            have hpos : 0 < s.opn.length := List.length_pos_iff.2 hone
            obtain ⟨a, cc, rfl⟩ := owns_slice hbrc
            have hd0 : decide ((0 : Int) < (s.opn.length : Int)) = true := by rw [decide_eq_true_eq]; omega
            have hd1 : decide (0 < s.opn.length) = true := by rw [decide_eq_true_eq]; omega
            clear hone hbrc f123 h123 f92 h92 f125 h125
            go_enter Tryz.func150, Tryz.ntmps150
            go_wp2_with (first
              | (go_at_call 149; refine (HB1.out _).mono ?_; rintro e w9 ⟨rfl, rfl⟩)
              | (go_at_call 211; refine (token_any B b s 4 [] (i + 1) w HL.out hB (by omega) (by omega)).mono ?_; rintro e w1 ⟨rfl, hx1, hb1⟩))
            go_ret2
            refine ⟨hb1, ?_⟩
            rw [HP.out]
            exact ⟨rfl, hx1⟩
          · have HP := Lib.hid (show s.char l i = .ok ((decL (l.drop i)).2, s.settle.put ((l.drop i).take (decL (l.drop i)).2) s.line (i + 1)) from by rw [HCH.out, if_neg HNB.out, if_neg h92, if_neg h123, if_neg h125, if_neg h124])
            have hne : l.drop i ≠ [] := by intro e; have := congrArg List.length e; rw [List.length_drop] at this; simp at this; omega
            have hd := dec_any (l.drop i) w HG.out hne
            have hdl := decL_len (l.drop i) hne
            rw [List.length_drop] at hdl
            rw [← ext_to_end] at hd
            have hdf := decL_four (l.drop i)
            have hE := ext_mk l i (i + (decL (l.drop i)).2)
            rw [show i + (decL (l.drop i)).2 - i = (decL (l.drop i)).2 by omega] at hE
            have hPut := fun w (h : LexAt B w b s.settle) => put_any B b s.settle ((l.drop i).take (decL (l.drop i)).2) s.line (i + 1) w h (by rw [List.length_take]; omega) (by have := s.settle_text; omega)
            rw [← hE] at hPut
            generalize (decL (l.drop i)).1 = r at *
            obtain ⟨n, hn⟩ : ∃ n, n = (decL (l.drop i)).2 := ⟨_, rfl⟩
            rw [← hn] at hd hdl hdf hE hPut
            rw [← hn] at HP
            have HD := Lib.hid hd
            have HPUT := Lib.hid hPut
            have hw3 : IntKind.i64.wrap ((i : Int) + (n : Int)) = (i : Int) + (n : Int) := IntWalk.i64_in _ (by omega)
            have ht3 : ((i : Int) + (n : Int)).toNat = i + n := by omega
            have h03 : (0 : Int) ≤ (i : Int) + (n : Int) := by omega
            have hle5 : (i : Int) ≤ (i : Int) + (n : Int) := by omega
            have hle6 : (i : Int) + (n : Int) ≤ (l.length : Int) := by omega
            have hle7 : (i : Int) ≤ (l.length : Int) := by omega
            have h0i : (0 : Int) ≤ (i : Int) := by omega
            obtain ⟨a, cc, rfl⟩ := owns_slice hbrc
            have hguard : (x == 124) = false ∨ ((x == 124) = true ∧ s.opn.length = 0) := by
              by_cases hx4 : x = 124
              · right
                refine ⟨by simpa using hx4, ?_⟩
                have : s.opn = [] := by
                  by_cases h : s.opn = []
                  · exact h
                  · exact absurd ⟨hx4, h⟩ h124
                rw [this]; rfl
              · left; simpa using hx4
            clear hne hd hE hPut hn hbrc f92 h92 f123 h123 f125 h125 h124
            rcases hguard with hx4 | ⟨hx4, hz⟩
            all_goals
              rw [hx4] at e124
              first | (rw [hz] at c1; clear hz) | skip
              clear hx4
              go_enter Tryz.func150, Tryz.ntmps150
              go_wp2_with (first
                | (go_at_call 149; refine (HB1.out _).mono ?_; rintro e w9 ⟨rfl, rfl⟩)
                | (go_at_call 188; refine HD.out.mono ?_; rintro e w1 ⟨rfl, hb1⟩; have HB2 := Lib.hid (hb1.mono hB); have HL1 := Lib.hid (lexAt_new HL.out hb1); clear hb1)
                | (go_at_call 212; refine (settle_any B b s w1 HL1.out (by omega)).mono ?_; rintro e w2 ⟨rfl, ⟨vo2, vp2, hx2⟩, hb2⟩; obtain ⟨d0, d1, d2, d3, d4, d5, d6, d7, d8, d9, d10, d11, df⟩ := lex_cells hx2; rw [s.settle_out.2.2.1] at d11; have HX2 := Lib.hid hx2; have HB3 := Lib.hid (HB2.out.trans hb2); clear hx2 hb2 d0 d1 d2 d3 d4 d5 d6 d7 d8 d9 d10))
              have HPW := Lib.hid (HPUT.out w2.drew ⟨vo2, vp2, HX2.out.drew⟩)
              go_still_tail 12, (by kernel_rfl)
              go_wp2_with (go_at_call 213; refine HPW.out.mono ?_; rintro e w3 ⟨rfl, hx3, hb3⟩)
              go_ret2
              refine ⟨(HB3.out.drew).trans hb3, ?_⟩
              rw [HP.out]
              exact ⟨rfl, hx3⟩
end Go.Proofs.YtafhmagifoapfaaGreatDoor
namespace Go.Proofs.YtafhmagifoapfaaGreatDoor
open Go.RowKit Find Bk
/-- Bounds by how many bytes were taken. -/
structure Bk.LS.In (s : LS) (m : Nat) : Prop where
  out : s.out.length ≤ 4 * m
  text : s.run.text.length ≤ 8 * m
  opn : s.opn.length ≤ 16
theorem Bk.LS.In.mono {s : LS} {m n : Nat} (h : s.In m) (hn : m ≤ n) : s.In n := ⟨by have := h.out; omega, by have := h.text; omega, h.opn⟩
theorem Bk.LS.settle_in {s : LS} : s.settle.out = s.out ∧ s.settle.opn = s.opn ∧ s.settle.line = s.line ∧ s.settle.run.text.length ≤ s.run.text.length + 1 := ⟨s.settle_out.1, s.settle_out.2.1, s.settle_out.2.2.1, s.settle_text⟩
theorem token_in {s : LS} {m : Nat} (h : s.In m) (k : Nat) (x : Wd) (c : Nat) : (s.token k x c).out.length ≤ 4 * m + 2 ∧ (s.token k x c).run.text.length = 0 ∧ (s.token k x c).opn = s.opn ∧ (s.token k x c).line = s.line := by
  have ho := s.token_out k x c
  have := h.out
  exact ⟨by omega, by rw [ho.2.2.2.2]; rfl, ho.1, ho.2.1⟩
theorem char_in {s s' : LS} {l : Wd} {i n m : Nat} (h : s.In m) (hi : i < l.length) (hc : s.char l i = .ok (n, s')) : 1 ≤ n ∧ i + n ≤ l.length ∧ s'.In (m + n) ∧ s'.line = s.line := by
  have h1 := h.out
  have h2 := h.text
  have h3 := h.opn
  unfold LS.char at hc
  simp only at hc
  split at hc
  · simp only [Except.ok.injEq, Prod.mk.injEq] at hc
    obtain ⟨rfl, rfl⟩ := hc
    refine ⟨by omega, by omega, ?_⟩
    unfold LS.wait
    split
    · exact ⟨⟨by show s.out.length ≤ _; omega, by show s.run.text.length ≤ _; omega, h3⟩, rfl⟩
    · exact ⟨h.mono (by omega), rfl⟩
  · split at hc
    · unfold LS.escape at hc
      split at hc
      · rename_i c hcx
        split at hc
        · simp only [Except.ok.injEq, Prod.mk.injEq] at hc
          obtain ⟨rfl, rfl⟩ := hc
          have hlt := (List.getElem?_eq_some_iff.1 hcx).1
          have hp := s.settle.put_out [c] s.line (i + 1)
          have ht := s.settle.put_text [c] s.line (i + 1)
          have hs := s.settle_in
          refine ⟨by omega, by omega, ⟨by rw [hp.1, hs.1]; omega, by rw [ht]; simp; omega, by rw [hp.2.1, hs.2.1]; exact h3⟩, by rw [hp.2.2.1, hs.2.2.1]⟩
        · cases hc
      · cases hc
    · split at hc
      · obtain ⟨q, hq⟩ : ∃ q, nameF (l.drop (i + 1)) = q := ⟨_, rfl⟩
        have hql : q ≤ l.length - (i + 1) := by have := nameF_le (l.drop (i + 1)); rw [List.length_drop] at this; omega
        by_cases hg : q = 0 ∨ 12 < q ∨ endOk l (i + 1 + q) = false
        · rw [brace_bad hq hg] at hc; cases hc
        · by_cases h16 : 16 ≤ s.opn.length
          · rw [brace_nest hq hg h16] at hc; cases hc
          · rw [brace_good hq hg h16] at hc
            simp only [Except.ok.injEq, Prod.mk.injEq] at hc
            obtain ⟨rfl, rfl⟩ := hc
            have ht := token_in h 3 ((l.drop (i + 1)).take q) (i + 1)
            refine ⟨by omega, by omega, ⟨?_, ?_, ?_⟩, ht.2.2.2⟩
            · show (s.token 3 ((l.drop (i + 1)).take q) (i + 1)).out.length ≤ _
              have := ht.1; omega
            · show (s.token 3 ((l.drop (i + 1)).take q) (i + 1)).run.text.length ≤ _
              rw [ht.2.1]; omega
            · show (s.opn ++ [(⟨(l.drop (i + 1)).take q, s.line, i + 1⟩ : Brc)]).length ≤ _
              simp; omega
      · split at hc
        · split at hc
          · cases hc
          · simp only [Except.ok.injEq, Prod.mk.injEq] at hc
            obtain ⟨rfl, rfl⟩ := hc
            have ht := token_in h 5 [] (i + 1)
            refine ⟨by omega, by omega, ⟨?_, ?_, ?_⟩, ht.2.2.2⟩
            · show (s.token 5 [] (i + 1)).out.length ≤ _
              have := ht.1; omega
            · show (s.token 5 [] (i + 1)).run.text.length ≤ _
              rw [ht.2.1]; omega
            · show s.opn.dropLast.length ≤ _
              simp; omega
        · split at hc
          · simp only [Except.ok.injEq, Prod.mk.injEq] at hc
            obtain ⟨rfl, rfl⟩ := hc
            have ht := token_in h 4 [] (i + 1)
            refine ⟨by omega, by omega, ⟨?_, ?_, ?_⟩, ht.2.2.2⟩
            · have := ht.1; omega
            · rw [ht.2.1]; omega
            · rw [ht.2.2.1]; exact h3
          · simp only [Except.ok.injEq, Prod.mk.injEq] at hc
            obtain ⟨rfl, rfl⟩ := hc
            have hne : l.drop i ≠ [] := by intro e; have := congrArg List.length e; rw [List.length_drop] at this; simp at this; omega
            have hn := decL_len (l.drop i) hne
            have h4 := decL_four (l.drop i)
            have hpos := decL_pos (l.drop i)
            rw [List.length_drop] at hn
            have hp := s.settle.put_out ((l.drop i).take (decL (l.drop i)).2) s.line (i + 1)
            have ht := s.settle.put_text ((l.drop i).take (decL (l.drop i)).2) s.line (i + 1)
            have hs := s.settle_in
            refine ⟨by omega, by omega, ⟨by rw [hp.1, hs.1]; omega, ?_, by rw [hp.2.1, hs.2.1]; exact h3⟩, by rw [hp.2.2.1, hs.2.2.1]⟩
            rw [ht, List.length_take, List.length_drop]
            have := hs.2.2.2
            omega
theorem chars_in {l : Wd} : ∀ {f : Nat} {s s' : LS} {i m : Nat}, s.In m → i ≤ l.length → LS.chars l f s i = .ok s' → s'.In (m + (l.length - i)) ∧ s'.line = s.line
  | 0, s, s', i, m, h, hi, hc => by
    simp only [LS.chars, Except.ok.injEq] at hc
    subst hc
    exact ⟨h.mono (by omega), rfl⟩
  | f + 1, s, s', i, m, h, hi, hc => by
    unfold LS.chars at hc
    split at hc
    · rename_i hlt
      split at hc
      · rename_i n s1 hch
        obtain ⟨h1, h2, h3, h4⟩ := char_in h hlt hch
        obtain ⟨h5, h6⟩ := chars_in h3 h2 hc
        exact ⟨h5.mono (by omega), h6.trans h4⟩
      · cases hc
    · simp only [Except.ok.injEq] at hc
      subst hc
      exact ⟨h.mono (by omega), rfl⟩
theorem wait_in {s : LS} {m c : Nat} (h : s.In m) : (s.wait c).In m ∧ (s.wait c).line = s.line := by
  unfold LS.wait
  split
  · exact ⟨⟨h.out, h.text, h.opn⟩, rfl⟩
  · exact ⟨h, rfl⟩
theorem text_in {s s' : LS} {l : Wd} {m : Nat} (h : s.In m) (hc : s.text l = .ok s') : s'.In (m + l.length) ∧ s'.line = s.line := by
  unfold LS.text at hc
  split at hc
  · rename_i s1 h1
    simp only [Except.ok.injEq] at hc
    subst hc
    have h0 : (if s.ins = 0 then { s with ins := 1, fresh := 1 } else s).In m ∧ (if s.ins = 0 then { s with ins := 1, fresh := 1 } else s).line = s.line := by
      split
      · exact ⟨⟨h.out, h.text, h.opn⟩, rfl⟩
      · exact ⟨h, rfl⟩
    obtain ⟨h2, h3⟩ := chars_in h0.1 (Nat.zero_le _) h1
    obtain ⟨h4, h5⟩ := wait_in (c := l.length + 1) h2
    exact ⟨h4.mono (by omega), h5.trans (h3.trans h0.2)⟩
  · cases hc
theorem fin_in {s s' : LS} {m : Nat} (h : s.In m) (hc : s.fin = .ok s') : s'.out.length ≤ 4 * m + 1 ∧ s'.run.text.length ≤ 8 * m ∧ s'.opn.length ≤ 16 ∧ s'.line = s.line := by
  have h1 := h.out
  have h2 := h.text
  have h3 := h.opn
  unfold LS.fin at hc
  split at hc
  · simp only [Except.ok.injEq] at hc
    subst hc
    exact ⟨by omega, h2, h3, rfl⟩
  · split at hc
    · cases hc
    · simp only [Except.ok.injEq] at hc
      subst hc
      have hf := s.flush_out
      exact ⟨by show s.flush.out.length ≤ _; omega, by show s.flush.run.text.length ≤ _; rw [hf.2.2.2.2]; simp [Tok.zero], by show s.flush.opn.length ≤ _; rw [hf.2.1]; exact h3, hf.2.2.1⟩
theorem push_in {s s' : LS} {m : Nat} {t : Tok} (h : s.In m) (hc : s.fin = .ok s') : (s'.push t).In (m + 1) ∧ (s'.push t).line = s.line := by
  obtain ⟨h1, h2, h3, h4⟩ := fin_in h hc
  exact ⟨⟨by show (s'.out ++ [t]).length ≤ _; simp; omega, by show s'.run.text.length ≤ _; omega, h3⟩, h4⟩
/-- Whether what stands behind a directive's name may stand there. -/
def dirOk (l : Wd) : Bool := match l with
  | c :: _ => blk c
  | [] => true
theorem dir_bad {s : LS} {l : Wd} {n : Nat} (hn : nameF l.tail = n) (h : n = 0 ∨ 12 < n ∨ dirOk (l.drop (1 + n)) = false) : s.directive l = .error ⟨41, s.line, 2, l.tail.take (min n 12)⟩ := by
  unfold LS.directive
  simp only [hn]
  rw [if_pos]
  exact h
theorem dir_go {s : LS} {l : Wd} {n : Nat} (hn : nameF l.tail = n) (h : ¬ (n = 0 ∨ 12 < n ∨ dirOk (l.drop (1 + n)) = false)) : s.directive l = match s.fin with
    | .error e => .error e
    | .ok s => .ok (s.push ⟨1, l.tail.take n, trimB (l.drop (1 + n)), s.line, 1⟩) := by
  unfold LS.directive
  simp only [hn]
  rw [if_neg (by exact h)]
  rfl
theorem take_in {s s' : LS} {l : Wd} {m : Nat} (h : s.In m) (hc : s.take l = .ok s') : s'.In (m + max 1 l.length) ∧ s'.line = s.line := by
  have para : ∀ {s' : LS}, s.para = .ok s' → s'.In (m + max 1 l.length) ∧ s'.line = s.line := fun {s'} hp => by
    unfold LS.para at hp
    split at hp
    · cases hp
    · rename_i s1 h1
      simp only [Except.ok.injEq] at hp
      subst hp
      have := push_in (t := ⟨2, [], [], s1.line, 1⟩) h h1
      exact ⟨this.1.mono (by omega), this.2⟩
  unfold LS.take at hc
  split at hc
  · cases hc
  · split at hc
    · simp only [Except.ok.injEq] at hc
      subst hc
      exact ⟨h.mono (by omega), rfl⟩
    · split at hc
      · exact para hc
      · split at hc
        · obtain ⟨n, hn⟩ : ∃ n, nameF l.tail = n := ⟨_, rfl⟩
          by_cases hg : n = 0 ∨ 12 < n ∨ dirOk (l.drop (1 + n)) = false
          · rw [dir_bad hn hg] at hc; cases hc
          · rw [dir_go hn hg] at hc
            split at hc
            · cases hc
            · rename_i s1 h1
              simp only [Except.ok.injEq] at hc
              subst hc
              have := push_in (t := ⟨1, l.tail.take n, trimB (l.drop (1 + n)), s1.line, 1⟩) h h1
              exact ⟨this.1.mono (by omega), this.2⟩
        · have := text_in h hc
          exact ⟨this.1.mono (by omega), this.2⟩
end Go.Proofs.YtafhmagifoapfaaGreatDoor
namespace Go.Proofs.YtafhmagifoapfaaGreatDoor
open Go.RowKit Find Bk
attribute [local go_sem ↓] Go.wp_at_zero Go.wp_at_succ
theorem chars_step {l : Wd} {f : Nat} {s : LS} {i : Nat} (hi : i < l.length) : LS.chars l (f + 1) s i = match s.char l i with
    | .ok (n, s) => LS.chars l f s (i + n)
    | .error e => .error e := by
  show (if i < l.length then _ else _) = _
  rw [if_pos hi]; rfl
theorem chars_end {l : Wd} {f : Nat} {s : LS} {i : Nat} (hi : ¬ i < l.length) : LS.chars l f s i = .ok s := by
  cases f with
  | zero => rfl
  | succ f =>
    show (if i < l.length then _ else _) = _
    rw [if_neg hi]
/-- Where a line of text begins. -/
def LS.begun (s : LS) : LS := if s.ins = 0 then { s with ins := 1, fresh := 1 } else s
theorem text_eq (s : LS) (l : Wd) : s.text l = match LS.chars l (l.length + 1) (LS.begun s) 0 with
    | .ok s => .ok (s.wait (l.length + 1))
    | .error e => .error e := rfl
set_option maxHeartbeats 6400000 in
set_option maxRecDepth 100000 in
theorem text_any (B b : Nat) (s : LS) (l : Wd) (w : World) (m : Nat) (h : LexAt B w b s) (hg : Glb w) (h4 : 4 ≤ B) (hB : B ≤ w.heap.size) (hl : l.length ≤ 70000) (hm : s.In m) (hmm : m ≤ 100000) :
    Calls Tryz.prog 83 #[.pointer (some ⟨b, 0, none⟩), .string ⟨l.toArray⟩] w (StepPost B b (s.text l) w) := by
  have HL := Lib.hid h
  have HG := Lib.hid hg
  obtain ⟨vo, vp, hx0⟩ := h
  obtain ⟨c0, c1, c2, c3, c4, c5, c6, c7, c8, c9, c10, c11, cf⟩ := lex_cells hx0
  have hbase := hx0.base
  clear c0 c1 c3 c4 c5 c6 c7 c8 c9 c11 hg
  -- both ways into the loop
  have HM : Hid ((LS.begun s).In m) := Lib.hid (by unfold LS.begun; split; exact ⟨hm.out, hm.text, hm.opn⟩; exact hm)
  have HX0 := Lib.hid hx0
  clear hx0
  by_cases hi : s.ins = 0
  all_goals
    first
    | (have hi' : ((s.ins : Int) == 0) = true := by rw [hi]; rfl)
    | (have hi' : ((s.ins : Int) == 0) = false := by rw [beq_eq_false_iff_ne]; omega)
  case pos =>
    have HB0 := Lib.hid (show LS.begun s = { s with ins := 1, fresh := 1 } from by unfold LS.begun; rw [if_pos hi])
    have START : Hid (LexAt B ((w.setCell ⟨b, 2, none⟩ (.int .i64 1)).setCell ⟨b, 10, none⟩ (.int .i64 1)) b (LS.begun s)) := Lib.hid (by rw [HB0.out]; exact ⟨vo, vp, (HX0.out.set 2 (by omega) (.int .i64 1)).set 10 (by omega) (.int .i64 1)⟩)
    have BSTART : Hid (Below B w ((w.setCell ⟨b, 2, none⟩ (.int .i64 1)).setCell ⟨b, 10, none⟩ (.int .i64 1))) := Lib.hid (((Below.refl _ _).setCell hbase _).setCell hbase _)
    clear hi
    go_enter Tryz.func83, Tryz.ntmps83
    go_wp2_with fail
    go_loopw [5, 6, 7] (fun ix _ _ wr => ∃ (k f : Nat) (s1 : LS), k ≤ l.length ∧ ix = .int .i64 k ∧ l.length < k + f ∧ LexAt B wr b s1 ∧ Hid (LS.chars l (l.length + 1) (LS.begun s) 0 = LS.chars l f s1 k) ∧ s1.In (m + k) ∧ Below B w wr) (fun ix _ _ _ => l.length - (intOf ix).toNat)
    case atStart => exact ⟨0, l.length + 1, LS.begun s, Nat.zero_le _, rfl, by omega, START.out, Lib.hid rfl, HM.out, BSTART.out⟩
    case round =>
      obtain ⟨k, f, s1, hk, rfl, hf, hx, heq, hin, hbw⟩ := hrel
      have HX := Lib.hid hx
      have HBW := Lib.hid hbw
      have hoo := hin.out
      have htt := hin.text
      have h16 := hin.opn
      have hzw := hbw.size
      have HIN := Lib.hid hin
      obtain ⟨vo1, vp1, hx1⟩ := hx
      clear hbw hin hx1
      by_cases hlt : k < l.length
      · obtain ⟨f', rfl⟩ : ∃ f', f = f' + 1 := ⟨f - 1, by omega⟩
        have hst := chars_step (f := f') (s := s1) hlt
        have hch := char_any B b s1 l k wr HX.out (HG.out.of HBW.out h4) (by omega) (by omega) hlt (by omega) (by omega) h16
        unfold CharPost at hch
        cases hr : s1.char l k with
        | error ft =>
          rw [hr] at hst hch
          have HST := Lib.hid (show s.text l = .error ft from by rw [text_eq, heq.out, hst])
          have HCH := Lib.hid hch
          clear hst hch hr
          go_wp2_with (go_at_call 150; refine HCH.out.mono ?_; rintro e w1 ⟨hb1, _, rfl, g, rfl, hgg⟩; have HB1 := Lib.hid hb1; have HGG := Lib.hid hgg; clear hb1 hgg)
          go_ret
          refine ⟨_, rfl, HBW.out.trans HB1.out, ?_⟩
          rw [HST.out]
          exact ⟨g, rfl, HGG.out⟩
        | ok p =>
          obtain ⟨n, s2⟩ := p
          rw [hr] at hst hch
          obtain ⟨hn1, hn2, hn3, hn4⟩ := char_in HIN.out hlt hr
          have HST := Lib.hid (show LS.chars l (l.length + 1) (LS.begun s) 0 = LS.chars l f' s2 (k + n) from by rw [heq.out, hst])
          have HCH := Lib.hid hch
          have HN3 := Lib.hid hn3
          clear hst hch hr hn3 hn4
          go_wp2_with (go_at_call 150; refine HCH.out.mono ?_; rintro e w1 ⟨hb1, rfl, hx2⟩; have HB1 := Lib.hid hb1; have HX2 := Lib.hid hx2; clear hb1 hx2)
          go_roundw
          case rel => exact ⟨k + n, f', s2, by omega, by go_num, by omega, HX2.out, HST, by rw [← Nat.add_assoc]; exact HN3.out, HBW.out.trans HB1.out⟩
          case measure => simp [intOf]; omega
      · have hend := chars_end (l := l) (f := f) (s := s1) hlt
        have HST := Lib.hid (show s.text l = .ok (s1.wait (l.length + 1)) from by rw [text_eq, heq.out, hend])
        clear hend
        go_wp2_with (go_at_call 151; refine (wait_any B b s1 (l.length + 1) wr HX.out).mono ?_; rintro e w1 ⟨rfl, hx2, hb1⟩; have HB1 := Lib.hid hb1; have HX2 := Lib.hid hx2; clear hb1 hx2)
        go_ret
        refine ⟨_, rfl, HBW.out.trans HB1.out, ?_⟩
        rw [HST.out]
        exact ⟨rfl, HX2.out⟩
  case neg =>
    have HB0 := Lib.hid (show LS.begun s = s from by unfold LS.begun; rw [if_neg hi])
    have START : Hid (LexAt B w b (LS.begun s)) := Lib.hid (by rw [HB0.out]; exact HL.out)
    have BSTART : Hid (Below B w w) := Lib.hid (Below.refl _ _)
    clear hi
    go_enter Tryz.func83, Tryz.ntmps83
    go_wp2_with fail
    go_loopw [5, 6, 7] (fun ix _ _ wr => ∃ (k f : Nat) (s1 : LS), k ≤ l.length ∧ ix = .int .i64 k ∧ l.length < k + f ∧ LexAt B wr b s1 ∧ Hid (LS.chars l (l.length + 1) (LS.begun s) 0 = LS.chars l f s1 k) ∧ s1.In (m + k) ∧ Below B w wr) (fun ix _ _ _ => l.length - (intOf ix).toNat)
    case atStart => exact ⟨0, l.length + 1, LS.begun s, Nat.zero_le _, rfl, by omega, START.out, Lib.hid rfl, HM.out, BSTART.out⟩
    case round =>
      obtain ⟨k, f, s1, hk, rfl, hf, hx, heq, hin, hbw⟩ := hrel
      have HX := Lib.hid hx
      have HBW := Lib.hid hbw
      have hoo := hin.out
      have htt := hin.text
      have h16 := hin.opn
      have hzw := hbw.size
      have HIN := Lib.hid hin
      obtain ⟨vo1, vp1, hx1⟩ := hx
      clear hbw hin hx1
      by_cases hlt : k < l.length
      · obtain ⟨f', rfl⟩ : ∃ f', f = f' + 1 := ⟨f - 1, by omega⟩
        have hst := chars_step (f := f') (s := s1) hlt
        have hch := char_any B b s1 l k wr HX.out (HG.out.of HBW.out h4) (by omega) (by omega) hlt (by omega) (by omega) h16
        unfold CharPost at hch
        cases hr : s1.char l k with
        | error ft =>
          rw [hr] at hst hch
          have HST := Lib.hid (show s.text l = .error ft from by rw [text_eq, heq.out, hst])
          have HCH := Lib.hid hch
          clear hst hch hr
          go_wp2_with (go_at_call 150; refine HCH.out.mono ?_; rintro e w1 ⟨hb1, _, rfl, g, rfl, hgg⟩; have HB1 := Lib.hid hb1; have HGG := Lib.hid hgg; clear hb1 hgg)
          go_ret
          refine ⟨_, rfl, HBW.out.trans HB1.out, ?_⟩
          rw [HST.out]
          exact ⟨g, rfl, HGG.out⟩
        | ok p =>
          obtain ⟨n, s2⟩ := p
          rw [hr] at hst hch
          obtain ⟨hn1, hn2, hn3, hn4⟩ := char_in HIN.out hlt hr
          have HST := Lib.hid (show LS.chars l (l.length + 1) (LS.begun s) 0 = LS.chars l f' s2 (k + n) from by rw [heq.out, hst])
          have HCH := Lib.hid hch
          have HN3 := Lib.hid hn3
          clear hst hch hr hn3 hn4
          go_wp2_with (go_at_call 150; refine HCH.out.mono ?_; rintro e w1 ⟨hb1, rfl, hx2⟩; have HB1 := Lib.hid hb1; have HX2 := Lib.hid hx2; clear hb1 hx2)
          go_roundw
          case rel => exact ⟨k + n, f', s2, by omega, by go_num, by omega, HX2.out, HST, by rw [← Nat.add_assoc]; exact HN3.out, HBW.out.trans HB1.out⟩
          case measure => simp [intOf]; omega
      · have hend := chars_end (l := l) (f := f) (s := s1) hlt
        have HST := Lib.hid (show s.text l = .ok (s1.wait (l.length + 1)) from by rw [text_eq, heq.out, hend])
        clear hend
        go_wp2_with (go_at_call 151; refine (wait_any B b s1 (l.length + 1) wr HX.out).mono ?_; rintro e w1 ⟨rfl, hx2, hb1⟩; have HB1 := Lib.hid hb1; have HX2 := Lib.hid hx2; clear hb1 hx2)
        go_ret
        refine ⟨_, rfl, HBW.out.trans HB1.out, ?_⟩
        rw [HST.out]
        exact ⟨rfl, HX2.out⟩
end Go.Proofs.YtafhmagifoapfaaGreatDoor
