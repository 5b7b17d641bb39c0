/- FindBeside: the walk. -/
import Derived.Test.YthpbdeiphagkiaaDoorBesC
namespace Go.Proofs.YthpbdeiphagkiaaDoor
open Go.RowKit Find

set_option maxHeartbeats 16000000 in
set_option maxRecDepth 100000 in
theorem beside_walk (TT XX : List Wd) (cs : List Cl) (at_ ax al : Option Addr) (ct cx cl : Nat) (w : World) (hT : Tabs w) (h1 : StrSl w (.slice at_ TT.length ct) TT) (h2 : StrSl w (.slice ax XX.length cx) XX) (h3 : ClsN w (.slice al cs.length cl) cs)
    (hn1 : at_ = none → ct = 0) (hn2 : ax = none → cx = 0) (hst : ∀ x ∈ TT, x.length ≤ 1048576) (hsx : ∀ x ∈ XX, x.length ≤ 1048576) (hl1 : TT.length ≤ 1048576) (hl2 : XX.length ≤ 1048576) (hl3 : cs.length ≤ 1048576) (hcw : ∀ c ∈ cs, c.words.length ≤ 1048576) :
    Calls Tryd.prog 4 #[.slice at_ TT.length ct, .slice ax XX.length cx, .slice al cs.length cl] w (LawPost w) := by
  have hz3 : Tryd.prog.cellsOf 31 = 3 := by kernel_rfl
  have hz4 : Tryd.prog.cellsOf 48 = 3 := by kernel_rfl
  obtain ⟨i0, hi0, hz0, hz1, hz2⟩ := info_parts info_cl
  have HT := Lib.hid hT
  have HST := Lib.hid hst
  have HSX := Lib.hid hsx
  have HCS := Lib.hid h3
  have HCW := Lib.hid hcw
  have HAW := Lib.hid (awake_any w hT)
  have HTW1 := Lib.hid (show ∀ W, Below w.heap.size w W → _ from fun W hb => twin_slice TT (.slice at_ TT.length ct) W (h1.new hb) (fun c e => by injection e with e1 e2 e3; subst e3; exact hn1 e1) (by omega))
  have HTW2 := Lib.hid (show ∀ W, Below w.heap.size w W → _ from fun W hb => twin_slice XX (.slice ax XX.length cx) W (h2.new hb) (fun c e => by injection e with e1 e2 e3; subst e3; exact hn2 e1) (by omega))
  clear hT h1 h2 h3 hn1 hn2 hst hsx hcw
  by_cases hok : TT.length = XX.length ∧ TT.length ≤ 1000
  · obtain ⟨hlen, hmany⟩ := hok
    have HNEW := Lib.hid (show ∀ (a1 a2 : Option Addr) (c1 c2 : Nat) W, Tabs W → StrRow W (.slice a1 TT.length c1) TT → StrRow W (.slice a2 XX.length c2) XX → _ from fun a1 a2 c1 c2 W ht r1 r2 => new_any TT XX a1 a2 c1 c2 W ht hlen hmany HST.out HSX.out r1.sl r2.sl)
    have HLEN := Lib.hid hlen
    clear hlen
    by_cases h20 : cs.length ≤ 20
    · have h20i : ¬ (20 : Int) < (cs.length : Int) := by omega
      go_enter Tryd.func4, Tryd.ntmps4
      go_upto_region 7 with (first
        | (go_at_call 7; refine HAW.out.mono ?_; rintro e w1 ⟨rfl, hb1⟩; have B1 := Lib.hid hb1; clear hb1)
        | (go_at_call_of 9 (Value.slice at_ TT.length ct); refine (HTW1.out _ B1.out).mono ?_; rintro e w2 ⟨a1, c1, rfl, hr1, hb2⟩; have R1 := Lib.hid hr1; have B2 := Lib.hid (B1.out.trans (hb2.mono B1.out.size)); clear hr1 hb2)
        | (go_at_call_of 9 (Value.slice ax XX.length cx); refine (HTW2.out _ B2.out).mono ?_; rintro e w3 ⟨a2, c2, rfl, hr2, hb3⟩; have R2 := Lib.hid hr2; have R1' := Lib.hid (owns_new R1.out hb3); have B3 := Lib.hid (B2.out.trans (hb3.mono B2.out.size)); clear hr2 hb3)
        | (go_at_call 8; refine (HNEW.out _ _ _ _ _ (HT.out.below B3.out) R1'.out R2.out).mono ?_; rintro e w4 ⟨b, rfl, hf4, hb4⟩; have F4 := Lib.hid hf4; have B4 := Lib.hid (B3.out.trans (hb4.mono B3.out.size)); clear hf4 hb4))
      have HNN := Lib.hid (wordsLL_small HST.out HSX.out)
      have hLL := wordsLL_len HLEN.out
      generalize wordsLL TT XX = LL at *
      have hLn : LL.length ≤ 1000 := by omega
      clear hLL
      have HC4 := Lib.hid (HCS.out.new B4.out)
      go_wp2_with fail
      go_loopw [9, 38] (fun v q wr => ∃ (k : Nat) (av : Option Addr) (cv : Nat) (us : List Value), k ≤ cs.length ∧ q = .int .i64 k ∧ v = .slice av k cv ∧ Hid (k = 0 → av = none ∧ cv = 0) ∧ Hid (InRow 0 wr (.slice av k cv) us (cs.take k).reverse) ∧ Hid (Below w4.heap.size w4 wr)) (fun _ q _ => cs.length - (intOf q).toNat)
      case atStart => exact ⟨0, none, 0, [], Nat.zero_le _, rfl, rfl, Lib.hid fun _ => ⟨rfl, rfl⟩, Lib.hid ⟨rfl, World.ownsRow_nil _ _ _ _, fun i u c h => by simp at h⟩, Lib.hid (Below.refl _ _)⟩
      case round =>
        obtain ⟨k, av, cv, us, hk, rfl, rfl, hkn, hin, hbw⟩ := hrel
        obtain ⟨WR, hWR⟩ : ∃ W, W = wr := ⟨wr, rfl⟩
        subst hWR
        have hbz := hbw.out.size
        by_cases hlt : k < cs.length
        · obtain ⟨g, o, hg, aw, cw, ⟨c0, c1, c2, hsl⟩, hnil⟩ : ∃ g o, al = some ⟨g, o, none⟩ ∧ ClAtN WR g (o + k * 3) cs[k] := by
            obtain ⟨a', cc, he, hc⟩ := HC4.out.new hbw.out
            obtain ⟨g, o, hg, hcell⟩ := hc k hlt
            simp only [Value.slice.injEq] at he
            exact ⟨g, o, by rw [he.1]; exact hg, hcell⟩
          subst hg
          have htk : (cs.take (k + 1)).reverse = cs[k] :: (cs.take k).reverse := by rw [List.take_succ_eq_append_getElem hlt, List.reverse_append]; rfl
          have hcw := HCW.out cs[k] (List.getElem_mem hlt)
          have htl : (cs.take k).reverse.length = k := by rw [List.length_reverse, List.length_take]; omega
          generalize cs[k] = x at *
          generalize (cs.take k).reverse = L at *
          have HTK := Lib.hid htk
          have HTL := Lib.hid htl
          have HSL := Lib.hid hsl
          have HNI := Lib.hid hnil
          obtain ⟨ws, no, opn⟩ := x
          simp only at c0 c1 c2 hcw HSL
          clear htk htl hsl hnil
          have HCB := Lib.hid (show ∀ (W : World) (no opn : Bool), Below WR.heap.size WR W → _ from fun W no opn hb => clauses_box (no := no) (opn := opn) (HSL.out.new hb) HNI.out (by omega))
          have HUW := Lib.hid (show InWd WR (.slice aw ws.length cw) ⟨ws, no, opn⟩ from ⟨aw, cw, rfl, HSL.out, HNI.out⟩)
          go_upto_region 10 with fail
          go_cut [9] (fun s9 wx => ∃ (av2 : Option Addr) (cv2 m : Nat), s9 = .slice av2 m cv2 ∧ m = k + 1 ∧ Hid (wx.ownsRow 0 31 3 (.slice av2 m cv2) m ([.slice aw ws.length cw, .bool no, .bool opn] ++ clCells us L)) ∧ Hid (∀ g, Value.ownBlock (.slice av2 m cv2) = some g → WR.heap.size < g) ∧ Hid (wx.heap[WR.heap.size]? = some (.cells #[.slice aw ws.length cw, .bool no, .bool opn] 31 (0, 0))) ∧ Hid (Below WR.heap.size WR wx))
          case first =>
            have hol := World.ownsRow_lit (base := 0) (e := 31) (size := 3) (WR.alloc (.cells #[.slice aw ws.length cw, .bool no, .bool opn] 31)) #[.slice aw ws.length cw, .bool no, .bool opn] 1 (Nat.zero_le _) (by unfold maxLen; omega) rfl
            rw [World.size_alloc] at hol
            have HOL := Lib.hid hol
            have hb2 := ((Below.refl WR.heap.size WR).alloc (Nat.le_refl _) (.cells #[.slice aw ws.length cw, .bool no, .bool opn] 31)).alloc (by simp) (.cells #[.slice aw ws.length cw, .bool no, .bool opn] 31)
            have HB2 := Lib.hid hb2
            have HH1 := Lib.hid (show ((WR.alloc (.cells #[.slice aw ws.length cw, .bool no, .bool opn] 31)).alloc (.cells #[.slice aw ws.length cw, .bool no, .bool opn] 31)).heap[WR.heap.size]? = some (.cells #[.slice aw ws.length cw, .bool no, .bool opn] 31 (0, 0)) from by rw [Below.heap_alloc _ _ _ (by simp)]; exact heap_alloc_new WR _)
            clear hol hb2
            by_cases hk0 : k = 0
            · obtain ⟨rfl, rfl⟩ := hkn.out hk0
              subst hk0
              have hL0 := List.eq_nil_of_length_eq_zero HTL.out
              have hus0 := List.eq_nil_of_length_eq_zero (hin.out.1.trans HTL.out)
              subst hL0 hus0
              go_wp2_with (at_builtin; refine wpList_append_own_none rfl _ _ 38 rfl 0 31 i0 3 Tryd.underlying38 hi0 _ 1 _ rfl HOL.out rfl ?_)
              go_meet
              exact ⟨_, _, _, rfl, rfl, HOL, Lib.hid (fun g hg => by simp only [Value.ownBlock, Option.some.injEq] at hg; omega), HH1, HB2⟩
            · obtain ⟨g9, cp9, he9, _⟩ := hin.out.2.1.form (by have := HTL.out; omega)
              simp only [Value.slice.injEq] at he9
              obtain ⟨rfl, -, -⟩ := he9
              have HNW := Lib.hid (show ∀ j u, (clCells us L)[j]? = some u → ((WR.alloc (.cells #[.slice aw ws.length cw, .bool no, .bool opn] 31)).alloc (.cells #[.slice aw ws.length cw, .bool no, .bool opn] 31)).cell? ((⟨g9, 0, none⟩ : Addr).add j) = some u from fun j u hj => (owns_new hin.out.2.1 HB2.out).cells (g := g9) rfl j u hj)
              have HNL := Lib.hid (show (clCells us L).length = k * 3 from by rw [clCells_length us L hin.out.1, HTL.out])
              have HN1 := Lib.hid hin.out.one
              have hk9 : 0 < k := by omega
              go_wp2_with (at_builtin; refine wpList_append_lies _ rfl _ _ 38 rfl 0 31 i0 _ 3 32 Tryd.underlying38 hi0 hz0 hz1 hz2 rfl (by omega) (.slice (some ⟨WR.heap.size + 1, 0, none⟩) 1 1) 1 _ rfl HOL.out ⟨g9, 0, none⟩ k cv (clCells us L) rfl HNL.out HNW.out HN1.out (by omega) (by unfold maxLen; omega) (by omega) (by simp) _ rfl ?_; intro gg cap w5 hown5 hgrow hat hlt5; have HG5 := Lib.hid hgrow; have HO5 := Lib.hid hown5; have HA5 := Lib.hid hat; clear hgrow hown5 hat hlt5)
              go_meet
              refine ⟨_, _, _, rfl, by omega, HO5, Lib.hid (fun g hg => ?_), Lib.hid ?_, Lib.hid ?_⟩
              · simp [Value.ownBlock] at hg
                rcases HA5.out with e | e
                · simp [Value.ownBlock] at e; omega
                · simp at e; omega
              · exact (HG5.out.block _ (by simp; omega) (by simp [Value.ownBlock])).trans HH1.out
              · exact HB2.out.grown HG5.out (by simp; omega) (fun j hj => by simp [Value.ownBlock] at hj; omega)
          case rest =>
            obtain ⟨av2, cv2, m, rfl, hm, hrow, hgt, hbox, hbx⟩ := hcut
            subst hm
            have x0 : wc.cell? ⟨WR.heap.size, 0, none⟩ = some (.slice aw ws.length cw) := by rw [Lib.cell_of_heap hbox.out]; rfl
            have x1 : wc.cell? ⟨WR.heap.size, 1, none⟩ = some (.bool no) := by rw [Lib.cell_of_heap hbox.out]; rfl
            have x2 : wc.cell? ⟨WR.heap.size, 2, none⟩ = some (.bool opn) := by rw [Lib.cell_of_heap hbox.out]; rfl
            have f1 : wc.frozen? ⟨WR.heap.size, 1, none⟩ = false := Lib.frozen_of_heap hbox.out 1
            have f2 : wc.frozen? ⟨WR.heap.size, 2, none⟩ = false := Lib.frozen_of_heap hbox.out 2
            have hlb := lt_of_heap hbox.out
            go_upto_region 12 with fail
            have hb12 : Below WR.heap.size WR ((wc.setCell ⟨WR.heap.size, 1, none⟩ (.bool false)).setCell ⟨WR.heap.size, 2, none⟩ (.bool false)) := (hbx.out.setCell (p := ⟨WR.heap.size, 1, none⟩) (Nat.le_refl _) _).setCell (p := ⟨WR.heap.size, 2, none⟩) (Nat.le_refl _) _
            have hk12 : ((wc.setCell ⟨WR.heap.size, 1, none⟩ (.bool false)).setCell ⟨WR.heap.size, 2, none⟩ (.bool false)).heap[WR.heap.size]? = some (.cells #[.slice aw ws.length cw, .bool false, .bool false] 31 (0, 0)) := by rw [setCell_heap (setCell_heap hbox.out _)]; rfl
            have ho12 : ((wc.setCell ⟨WR.heap.size, 1, none⟩ (.bool false)).setCell ⟨WR.heap.size, 2, none⟩ (.bool false)).ownsRow 0 31 3 (.slice av2 (k + 1) cv2) (k + 1) ([.slice aw ws.length cw, .bool no, .bool opn] ++ clCells us L) := owns_keep hrow.out fun g hg => by
              have := hgt.out g hg
              rw [setCell_heap_ne (by omega), setCell_heap_ne (by omega)]
            generalize (wc.setCell ⟨WR.heap.size, 1, none⟩ (.bool false)).setCell ⟨WR.heap.size, 2, none⟩ (.bool false) = W2 at *
            have B12 := Lib.hid hb12
            have K12 := Lib.hid hk12
            have O12 := Lib.hid ho12
            clear x0 x1 x2 f1 f2 hlb hb12 hk12 ho12 hrow hgt hbox hbx
            have x0 : W2.cell? ⟨WR.heap.size, 0, none⟩ = some (.slice aw ws.length cw) := by rw [Lib.cell_of_heap K12.out]; rfl
            have x1 : W2.cell? ⟨WR.heap.size, 1, none⟩ = some (.bool false) := by rw [Lib.cell_of_heap K12.out]; rfl
            have x2 : W2.cell? ⟨WR.heap.size, 2, none⟩ = some (.bool false) := by rw [Lib.cell_of_heap K12.out]; rfl
            have F12 := Lib.hid (F4.out.new (hbw.out.trans (B12.out.mono hbz)))
            have HCW1 : ∀ c ∈ [(⟨ws, false, false⟩ : Cl)], c.words.length ≤ 1099511627776 := by simp; omega
            have HCW2 : ∀ c ∈ [(⟨ws, false, true⟩ : Cl)], c.words.length ≤ 1099511627776 := by simp; omega
            have HCX1 := Lib.hid HCW1
            have HCX2 := Lib.hid HCW2
            clear HCW1 HCW2
            go_upto_region 13 with (first
              | (go_at_call 16; refine (HCB.out _ _ _ B12.out).mono ?_; rintro e w6 ⟨a6, c6, rfl, hs6, hb6⟩; have S6 := Lib.hid hs6; have B6 := Lib.hid hb6; clear hs6 hb6)
              | (go_at_call 14; refine (ask_slice LL [⟨ws, false, false⟩] b a6 c6 w6 (F12.out.new B6.out) S6.out (by simp) HNN.out HCX1.out hLn).mono ?_; rintro e w7 ⟨a7, c7, R, rfl, hto, hRl, hfn, hb7⟩; have TO := Lib.hid hto; have FN := Lib.hid hfn; have B7 := Lib.hid (B6.out.trans (hb7.mono B6.out.size)); clear hto hfn hb7)
              | (go_at_call 13; refine (topics_any R a7 c7 _ FN.out (by omega)).mono ?_; rintro e w8 ⟨a8, c8, T, rfl, hri, hTl, _, hrT, hb8⟩; have RT := Lib.hid (show T = okTopics LL [⟨ws, false, false⟩] from topics_told TO.out hri); have RW := Lib.hid hrT; have B8 := Lib.hid (B7.out.trans (hb8.mono B7.out.size)); clear hri hrT hb8))
            have hlb2 := lt_of_heap K12.out
            have K8 := Lib.hid ((B8.out.block _ hlb2).trans K12.out)
            clear x0 x1 x2
            have x0 : w8.cell? ⟨WR.heap.size, 0, none⟩ = some (.slice aw ws.length cw) := by rw [Lib.cell_of_heap K8.out]; rfl
            have x1 : w8.cell? ⟨WR.heap.size, 1, none⟩ = some (.bool false) := by rw [Lib.cell_of_heap K8.out]; rfl
            have x2 : w8.cell? ⟨WR.heap.size, 2, none⟩ = some (.bool false) := by rw [Lib.cell_of_heap K8.out]; rfl
            go_upto_region 15 with fail
            have hb15 : Below w8.heap.size w8 (w8.alloc (.cells #[.slice aw ws.length cw, .bool false, .bool true] 31)) := (Below.refl _ _).alloc (Nat.le_refl _) _
            have hk15 := heap_alloc_new w8 (.cells #[.slice aw ws.length cw, .bool false, .bool true] 31)
            generalize w8.alloc (.cells #[.slice aw ws.length cw, .bool false, .bool true] 31) = W3 at *
            have B83 := Lib.hid hb15
            have B23 := Lib.hid (B8.out.trans (hb15.mono B8.out.size))
            have BR3 := Lib.hid (B12.out.trans (B23.out.mono B12.out.size))
            have y0 : W3.cell? ⟨w8.heap.size, 0, none⟩ = some (.slice aw ws.length cw) := by rw [Lib.cell_of_heap hk15]; rfl
            have y1 : W3.cell? ⟨w8.heap.size, 1, none⟩ = some (.bool false) := by rw [Lib.cell_of_heap hk15]; rfl
            have y2 : W3.cell? ⟨w8.heap.size, 2, none⟩ = some (.bool true) := by rw [Lib.cell_of_heap hk15]; rfl
            have RW3 := Lib.hid (RW.out.new B83.out)
            have F15 := Lib.hid (F12.out.new B23.out)
            have K15 := Lib.hid ((B23.out.block _ hlb2).trans K12.out)
            clear hb15 hk15 x0 x1 x2
            go_upto_region 16 with (first
              | (go_at_call 16; refine (HCB.out _ _ _ BR3.out).mono ?_; rintro e w16 ⟨a16, c16, rfl, hs6, hb6⟩; have S16 := Lib.hid hs6; have B16 := Lib.hid hb6; clear hs6 hb6)
              | (go_at_call 14; refine (ask_slice LL [⟨ws, false, true⟩] b a16 c16 w16 (F15.out.new B16.out) S16.out (by simp) HNN.out HCX2.out hLn).mono ?_; rintro e w17 ⟨a17, c17, Q, rfl, hto, hQl, hfn, hb7⟩; have TQ := Lib.hid hto; have FQ := Lib.hid hfn; have B17 := Lib.hid (B16.out.trans (hb7.mono B16.out.size)); clear hto hfn hb7)
              | (go_at_call 13; refine (topics_any Q a17 c17 _ FQ.out (by omega)).mono ?_; rintro e w18 ⟨a18, c18, U, rfl, hri, hUl, _, hrT, hb8⟩; have RU := Lib.hid (show U = okTopics LL [⟨ws, false, true⟩] from topics_told TQ.out hri); have UW := Lib.hid hrT; have B18 := Lib.hid (B17.out.trans (hb8.mono B17.out.size)); clear hri hrT hb8))
            have TW := Lib.hid (RW3.out.new B18.out)
            have K18 := Lib.hid ((B18.out.block _ (lt_of_heap K15.out)).trans K15.out)
            have F18 := Lib.hid (F15.out.new B18.out)
            have BR18 := Lib.hid (BR3.out.trans (B18.out.mono BR3.out.size))
            have O18 := Lib.hid (owns_new (owns_new O12.out B23.out) B18.out)
            have HIN := Lib.hid (show ∀ t, t ∈ T → t ∈ U ∧ ∀ x ∈ ws, t ∈ okTopics LL [Find.one x] from fun t ht => by
              rw [RT.out] at ht
              rw [RU.out]
              exact ⟨beside_more ht, fun x hx => beside_word ht hx⟩)
            clear y0 y1 y2
            have hTb : T.length ≤ 1000 := by omega
            have hUb : U.length ≤ 1000 := by omega
            clear RT RU TQ FQ TO FN S6 S16 B6 B7 B16 B17 RW RW3 K8 K15 B83 B23 F12 F15 B8 B12 K12 O12 BR3
            go_wp2_with fail
            go_loopw [64] (fun q w2 => ∃ j : Nat, j ≤ T.length ∧ q = .int .i64 j ∧ Hid (Below w18.heap.size w18 w2)) (fun q _ => T.length - (intOf q).toNat)
            case atStart => exact ⟨0, Nat.zero_le _, rfl, Lib.hid (Below.refl _ _)⟩
            case round =>
              obtain ⟨j, hj, rfl, hb2⟩ := hrel
              obtain ⟨w2, hw2⟩ : ∃ W, W = wr := ⟨wr, rfl⟩
              subst hw2
              by_cases hltj : j < T.length
              · obtain ⟨g8, hg8, hcell⟩ := (TW.out.new hb2.out).at_ hltj
                subst hg8
                have htm : T[j] ∈ T := List.getElem_mem hltj
                generalize T[j] = t at *
                obtain ⟨htU, htW⟩ := HIN.out t htm
                have HTV := Lib.hid htW
                have HHAS := Lib.hid (show Calls Tryd.prog 17 #[.slice a18 U.length c18, .int .i64 t] w2 fun e w' => e = .returned (.bool true) ∧ w2 = w' from by
                  have := hasInt_any U t a18 c18 w2 (UW.out.new hb2.out) (by omega)
                  rwa [decide_eq_true htU] at this)
                have F2 := Lib.hid (F18.out.new hb2.out)
                have K2 := Lib.hid ((hb2.out.block _ (lt_of_heap K18.out)).trans K18.out)
                have x0 : w2.cell? ⟨WR.heap.size, 0, none⟩ = some (.slice aw ws.length cw) := by rw [Lib.cell_of_heap K2.out]; rfl
                have BR2 := Lib.hid (BR18.out.trans (hb2.out.mono BR18.out.size))
                clear htm htU htW
                go_wp2_with (go_at_call 17; refine HHAS.out.mono ?_; rintro e w' ⟨rfl, rfl⟩)
                go_loopw [75] (fun q w3 => ∃ i : Nat, i ≤ ws.length ∧ q = .int .i64 i ∧ Hid (Below w2.heap.size w2 w3)) (fun q _ => ws.length - (intOf q).toNat)
                case atStart => exact ⟨0, Nat.zero_le _, rfl, Lib.hid (Below.refl _ _)⟩
                case round =>
                  obtain ⟨i, hi, rfl, hb3⟩ := hrel
                  obtain ⟨w3, hw3⟩ : ∃ W, W = wr := ⟨wr, rfl⟩
                  subst hw3
                  by_cases hlti : i < ws.length
                  · obtain ⟨g9, o9, c9, ha9, hx9⟩ := (HSL.out.new (BR2.out.trans (hb3.out.mono BR2.out.size))).some_ hlti
                    simp only [Value.slice.injEq] at ha9
                    obtain ⟨rfl, -, rfl⟩ := ha9
                    have hxm : ws[i] ∈ ws := List.getElem_mem hlti
                    generalize ws[i] = x at *
                    have HTX := Lib.hid (HTV.out x hxm)
                    have HASK := Lib.hid (ask_built (x := x) (no := false) (opn := false) (F2.out.new hb3.out) HNN.out hLn)
                    clear hxm
                    go_wp2_with (first
                      | (go_at_call 14; refine HASK.out.mono ?_; rintro e w10 ⟨a10, c10, Q, rfl, hto, hQl, hfn, hb10⟩; have TO := Lib.hid (show Find.Told LL [Find.one x] Q from hto); have FN := Lib.hid hfn; have B10 := Lib.hid hb10; clear hto hfn hb10)
                      | (go_at_call 13; refine (topics_any Q a10 c10 _ FN.out (by omega)).mono ?_; rintro e w11 ⟨a11, c11, V, rfl, hri, hVl, _, hrV, hb11⟩; have HHV := Lib.hid (show Calls Tryd.prog 17 #[.slice a11 V.length c11, .int .i64 t] w11 (fun e w' => e = .returned (.bool true) ∧ w11 = w') from (by have := hasInt_any V t a11 c11 w11 hrV (by omega); rwa [decide_eq_true (show t ∈ V from (by rw [show V = okTopics LL [Find.one x] from topics_told TO.out hri]; exact HTX.out))] at this)); have B11 := Lib.hid (B10.out.trans (hb11.mono B10.out.size)); clear hri hrV hb11)
                      | (go_at_call 17; refine HHV.out.mono ?_; rintro e w' ⟨rfl, rfl⟩))
                    go_roundw
                    case rel => exact ⟨i + 1, by omega, by go_num, Lib.hid (hb3.out.trans (B11.out.mono hb3.out.size))⟩
                    case measure => simp [intOf] <;> omega
                  · go_wp2_with fail
                    go_roundw
                    case rel => exact ⟨j + 1, by omega, by go_num, Lib.hid (hb2.out.trans (hb3.out.mono hb2.out.size))⟩
                    case measure => simp [intOf] <;> omega
              · have BR2 := Lib.hid (BR18.out.trans (hb2.out.mono BR18.out.size))
                go_wp2_with fail
                go_roundw
                case rel =>
                  refine ⟨k + 1, av2, cv2, .slice aw ws.length cw :: us, by omega, by go_num, rfl, Lib.hid (fun h => absurd h (by omega)), Lib.hid ?_, Lib.hid (hbw.out.trans (BR2.out.mono hbz))⟩
                  rw [HTK.out]
                  refine InRow.front hin.out BR2.out (HUW.out.new BR2.out) ?_
                  rw [HTL.out, Nat.add_comm 1 k]
                  exact owns_new O18.out hb2.out
                case measure => simp [intOf] <;> omega
        · have hkn' : k = cs.length := by omega
          subst hkn'
          have htk : cs.take cs.length = cs := List.take_of_length_le (Nat.le_refl _)
          obtain ⟨D, hD⟩ : ∃ D, D = cs.reverse := ⟨_, rfl⟩
          have HIN := Lib.hid (show ClsN WR (.slice av cs.length cv) D from by have := hin.out.sl; rwa [htk, ← hD] at this)
          have hDl : D.length = cs.length := by rw [hD, List.length_reverse]
          have hDw : ∀ c ∈ D, c.words.length ≤ 1099511627776 := fun x hx => by have := HCW.out x (List.mem_reverse.1 (by rwa [hD] at hx)); omega
          have HD := Lib.hid hD
          have HDW := Lib.hid hDw
          have HBK := Lib.hid (show ∀ W, Below WR.heap.size WR W → Calls Tryd.prog 16 #[.slice av cs.length cv] W (ClausesPost D W) from fun W hb => by
            have := clauses_any D av cv W (by rw [hDl]; exact HIN.out.new hb) (by omega) hDw
            rwa [hDl] at this)
          have HCC := Lib.hid (clauses_any cs al cl WR (HC4.out.new hbw.out) (by omega) (fun x hx => by have := HCW.out x hx; omega))
          have HCX1 := Lib.hid (show ∀ c ∈ cs, c.words.length ≤ 1099511627776 from fun x hx => by have := HCW.out x hx; omega)
          have F5 := Lib.hid (F4.out.new hbw.out)
          have hD20 : D.length ≤ 1048576 := by omega
          clear htk hD hDl hDw hin hkn hk
          go_wp2_with fail
          go_at_call 16
          refine HCC.out.mono ?_
          rintro e w6 ⟨a6, c6, rfl, hs6, hb6⟩
          have S6 := Lib.hid hs6
          have B6 := Lib.hid hb6
          clear hs6 hb6 HCC
          go_wp2_with fail
          go_at_call 14
          refine (ask_slice LL cs b a6 c6 w6 (F5.out.new B6.out) S6.out (by omega) HNN.out HCX1.out hLn).mono ?_
          rintro e w7 ⟨a7, c7, R, rfl, hto, hRl, hfn, hb7⟩
          have TO := Lib.hid hto
          have FN := Lib.hid hfn
          have B7 := Lib.hid (B6.out.trans (hb7.mono B6.out.size))
          clear hto hfn hb7 S6
          go_wp2_with fail
          go_at_call 16
          refine (HBK.out _ B7.out).mono ?_
          rintro e w8 ⟨a8, c8, rfl, hs8, hb8⟩
          have S8 := Lib.hid hs8
          have B8 := Lib.hid (B7.out.trans (hb8.mono B7.out.size))
          have FN8 := Lib.hid (FN.out.new hb8)
          clear hs8 hb8 HBK
          go_wp2_with fail
          go_at_call 14
          refine (ask_slice LL D b a8 c8 w8 (F5.out.new B8.out) S8.out (by omega) HNN.out HDW.out hLn).mono ?_
          rintro e w9 ⟨a9, c9, S, rfl, hto, hSl, hfn, hb9⟩
          have TS := Lib.hid hto
          have FS := Lib.hid hfn
          have B9 := Lib.hid (B8.out.trans (hb9.mono B8.out.size))
          have FN9 := Lib.hid (FN8.out.new hb9)
          clear hto hfn hb9 S8
          go_wp2_with fail
          go_at_call 18
          refine (sameF_any R S a7 a9 c7 c9 w9 FN9.out FS.out (by omega) (by omega)).mono ?_
          rintro e w10 ⟨rfl, hb10⟩
          have B10 := Lib.hid (B9.out.trans (hb10.mono B9.out.size))
          clear hb10
          go_wp2_with fail
          go_ret
          exact ⟨ret_bool (decide_eq_true (told_rev TO.out (by have := TS.out; rwa [HD.out] at this))), B4.out.trans ((hbw.out.trans (B10.out.mono hbz)).mono B4.out.size)⟩
    · have h20i : (20 : Int) < (cs.length : Int) := by omega
      go_enter Tryd.func4, Tryd.ntmps4
      go_wp2_with (first
        | (go_at_call 7; refine HAW.out.mono ?_; rintro e w1 ⟨rfl, hb1⟩; have B1 := Lib.hid hb1; clear hb1)
        | (go_at_call_of 9 (Value.slice at_ TT.length ct); refine (HTW1.out _ B1.out).mono ?_; rintro e w2 ⟨a1, c1, rfl, hr1, hb2⟩; have R1 := Lib.hid hr1; have B2 := Lib.hid (B1.out.trans (hb2.mono B1.out.size)); clear hr1 hb2)
        | (go_at_call_of 9 (Value.slice ax XX.length cx); refine (HTW2.out _ B2.out).mono ?_; rintro e w3 ⟨a2, c2, rfl, hr2, hb3⟩; have R2 := Lib.hid hr2; have R1' := Lib.hid (owns_new R1.out hb3); have B3 := Lib.hid (B2.out.trans (hb3.mono B2.out.size)); clear hr2 hb3)
        | (go_at_call 8; refine (HNEW.out _ _ _ _ _ (HT.out.below B3.out) R1'.out R2.out).mono ?_; rintro e w4 ⟨b, rfl, hf4, hb4⟩; have B4 := Lib.hid (B3.out.trans (hb4.mono B3.out.size)); clear hf4 hb4))
      go_ret
      exact ⟨rfl, B4.out⟩
  · have HNEW := Lib.hid (show ∀ (a1 a2 : Option Addr) (c1 c2 : Nat) W, _ from fun a1 a2 c1 c2 W => new_bad a1 a2 TT.length XX.length c1 c2 W (by omega) (by omega) (by omega))
    clear hok
    go_enter Tryd.func4, Tryd.ntmps4
    go_wp2_with (first
      | (go_at_call 7; refine HAW.out.mono ?_; rintro e w1 ⟨rfl, hb1⟩; have B1 := Lib.hid hb1; clear hb1)
      | (go_at_call_of 9 (Value.slice at_ TT.length ct); refine (HTW1.out _ B1.out).mono ?_; rintro e w2 ⟨a1, c1, rfl, hr1, hb2⟩; have R1 := Lib.hid hr1; have B2 := Lib.hid (B1.out.trans (hb2.mono B1.out.size)); clear hr1 hb2)
      | (go_at_call_of 9 (Value.slice ax XX.length cx); refine (HTW2.out _ B2.out).mono ?_; rintro e w3 ⟨a2, c2, rfl, hr2, hb3⟩; have R2 := Lib.hid hr2; have R1' := Lib.hid (owns_new R1.out hb3); have B3 := Lib.hid (B2.out.trans (hb3.mono B2.out.size)); clear hr2 hb3)
      | (go_at_call 8; refine (HNEW.out _ _ _ _ _).mono ?_; rintro e w4 ⟨code, rfl, hcode, hb4⟩; have hcd : (code != 0) = true := (by simpa using hcode); have B4 := Lib.hid (B3.out.trans (hb4.mono B3.out.size)); clear hcode hb4))
    go_ret
    exact ⟨rfl, B4.out⟩
end Go.Proofs.YthpbdeiphagkiaaDoor
