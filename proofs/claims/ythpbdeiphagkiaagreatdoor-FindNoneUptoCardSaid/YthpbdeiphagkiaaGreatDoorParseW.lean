/- find.Parse: the walk. -/
import Derived.Test.YthpbdeiphagkiaaGreatDoorParse
namespace Go.Proofs.YthpbdeiphagkiaaGreatDoor
open Go.RowKit Find

def ParsePost (s : Wd) (w : World) (e : Ending) (w' : World) : Prop := ∃ v, e = .returned (.tuple #[v, .int .i64 (parseP s).2]) ∧ ClsSl w' v (parseP s).1 ∧ Below w.heap.size w w'
theorem info_cl : (Tryz.prog.info? 62).map (fun i => (i.zero, i.size, i.bytes)) = some (some (.agg #[.slice none 0 0, .bool false, .bool false]), 3, 32) := by kernel_rfl
def asksL (L : List Cl) : Nat := (L.filter fun c => !c.no).length

theorem clauseF_words (s : Wd) : (clauseF s).1.words.length ≤ 5 * s.length + 1 := by
  have hb : (bodyF s).length ≤ s.length := by unfold bodyF; split <;> simp
  unfold clauseF
  split
  · unfold quoteF
    simp only
    have h1 := (words_len (cutQ (bodyF s).tail).1).1
    have h2 : (cutQ (bodyF s).tail).1.length ≤ (bodyF s).length := by
      unfold cutQ
      split <;> simp <;> omega
    omega
  · unfold bareF
    simp only
    have h1 := (words_len ((bodyF s).take (nF (bodyF s)))).1
    have h2 : ((bodyF s).take (nF (bodyF s))).length ≤ (bodyF s).length := List.length_take_le' _ _
    omega
theorem ClRow.put {B : Nat} {w : World} {v : Value} {L : List Cl} (h : ClRow B w v L) {b : Nat} (hb : b < w.heap.size) (hB : b ≤ w.heap.size) {c0 : Array Value} (hk : w.heap[b]? = some (.cells c0 62 (0, 0))) (hv : v.ownBlock ≠ some b) (x y z : Value) :
    ClRow B (((w.setCell ⟨b, 0, none⟩ x).setCell ⟨b, 1, none⟩ y).setCell ⟨b, 2, none⟩ z) v L :=
  h.keep fun g c t ht hc => by
    have hne : b ≠ g := fun e => by
      subst e
      rw [hk] at hc
      simp only [Option.some.injEq, Obj.cells.injEq] at hc
      rcases ht with rfl | ht
      · exact absurd hc.2.1 (by decide)
      · exact hv ht
    rw [setCell_heap_ne hne, setCell_heap_ne hne, setCell_heap_ne hne]

theorem ClRow.snoc {B : Nat} {w w4 : World} {a : Option Addr} {cv : Nat} {L : List Cl} {us : List Value} {o : Obj} {v' u : Value} {c : Cl} (hl : us.length = L.length)
    (hs : ∀ (i : Nat) (u : Value) (c : Cl), us[i]? = some u → L[i]? = some c → StrRow w u c.words) (hown : w.ownsRow B 62 3 (.slice a L.length cv) L.length (clCells us L)) (hu : StrRow w u c.words) (hg : (w.alloc o).grownBy w4 (Value.ownBlock (.slice a L.length cv)))
    (hown4 : w4.ownsRow B 62 3 v' (L.length + 1) (clCells us L ++ [u, .bool c.no, .bool c.opn])) : ClRow B w4 v' (L ++ [c]) := by
  have keep : ∀ {u : Value} {l : List Wd}, StrRow w u l → StrRow w4 u l := fun {u l} h => owns_keep h fun g hgg => by
    obtain ⟨c1, hc1⟩ := owns_kind h g hgg
    have hlt := lt_of_heap hc1
    rw [hg.block g (by simp; omega) (fun e => by
      obtain ⟨c2, hc2⟩ := owns_kind hown g e.symm
      rw [hc1] at hc2
      simp only [Option.some.injEq, Obj.cells.injEq] at hc2
      exact absurd hc2.2.1 (by decide)), Below.heap_alloc _ _ _ hlt]
  refine ⟨us ++ [u], by simp [hl], by rw [List.length_append, clCells_append us L hl]; exact hown4, fun i x y hx hy => ?_⟩
  by_cases hi : i < L.length
  · rw [List.getElem?_append_left (by omega)] at hx hy
    exact keep (hs i x y hx hy)
  · rw [List.getElem?_append_right (by omega)] at hx hy
    have e1 : i = L.length := by
      by_cases e : i - L.length = 0
      · omega
      · rw [List.getElem?_eq_none (by simp; omega)] at hy; cases hy
    subst e1
    simp [hl] at hx hy
    rw [← hx, ← hy]
    exact keep hu

set_option maxHeartbeats 8000000 in
set_option maxRecDepth 100000 in
theorem parse_any (s : ByteArray) (w : World) (hT : Tabs w) (hs : s.size ≤ 1099511627776) :
    Calls Tryz.prog 13 #[.string s] w (ParsePost s.data.toList w) := by
  have hz3 : Tryz.prog.cellsOf 62 = 3 := by kernel_rfl
  obtain ⟨i0, hi0, hz0, hz1, hz2⟩ := info_parts info_cl
  by_cases hlong : 500 < s.size
  · have HX := Lib.hid (show parseP s.data.toList = ([], 2) from by rw [parseP, if_pos (by rw [← size_list]; exact hlong)])
    clear hT
    go_enter Tryz.func13, Tryz.ntmps13
    go_wp2_with fail
    go_ret2
    unfold ParsePost
    rw [HX.out]
    exact ⟨_, rfl, ⟨none, 0, rfl, fun k hk => absurd hk (Nat.not_lt_zero _)⟩, Below.refl _ _⟩
  · have hpl := plain_any s w hT hs
    unfold PlainPost at hpl
    cases hp : plainB s.data.toList with
    | false =>
      rw [hp] at hpl
      have HPL := Lib.hid hpl
      have HX := Lib.hid (show parseP s.data.toList = ([], 230) from by rw [parseP, if_neg (by rw [← size_list]; exact hlong), hp]; rfl)
      clear hp hpl hT
      go_enter Tryz.func13, Tryz.ntmps13
      go_wp2_with (go_at_call 31; refine HPL.out.mono ?_; rintro e w1 ⟨i, rfl, hb1⟩)
      go_ret2
      unfold ParsePost
      rw [HX.out]
      exact ⟨_, rfl, ⟨none, 0, rfl, fun k hk => absurd hk (Nat.not_lt_zero _)⟩, hb1⟩
    | true =>
      rw [hp] at hpl
      have HPL := Lib.hid hpl
      have hcn := fun W => Tryz.strings_Count_one s 34 W
      have hcl : Lib.countByte s.data.toList 34 ≤ s.size := by rw [size_list]; exact List.count_le_length
      have hce : Lib.countByte s.data.toList 34 = s.data.toList.count 34 := rfl
      generalize Lib.countByte s.data.toList 34 = q at *
      have HCN := Lib.hid (show ∀ W, Calls Tryz.prog 32 #[.string s, .string ⟨#[34]⟩] W fun e w' => e = .returned (.int .i64 q) ∧ W = w' from fun W => (hcn W).mono fun e w' ⟨h1, h2⟩ => ⟨h1, h2.symm⟩)
      have HCE := Lib.hid hce
      have HPB := Lib.hid hp
      have HT := Lib.hid hT
      clear hcn hce hp hpl hT
      by_cases hodd : q % 2 = 1
      · have ho : (((q : Int) % 2) == 1) = true := by rw [beq_iff_eq]; omega
        have HX := Lib.hid (show parseP s.data.toList = ([], 230) from by rw [parseP, if_neg (by rw [← size_list]; exact hlong), if_pos]; rw [← HCE.out, hodd]; simp)
        clear hodd
        go_enter Tryz.func13, Tryz.ntmps13
        go_wp2_with (first | (go_at_call 31; refine HPL.out.mono ?_; rintro e w1 ⟨i, rfl, hb1⟩) | (go_at_call 32; refine (HCN.out _).mono ?_; rintro e w9 ⟨rfl, rfl⟩))
        go_ret2
        unfold ParsePost
        rw [HX.out]
        exact ⟨_, rfl, ⟨none, 0, rfl, fun k hk => absurd hk (Nat.not_lt_zero _)⟩, hb1⟩
      · have ho : (((q : Int) % 2) == 1) = false := by rw [beq_eq_false_iff_ne]; omega
        have HX := Lib.hid (show parseP s.data.toList = if (parseF s.data.toList.length s.data.toList).all (·.no) then ([], 230) else (parseF s.data.toList.length s.data.toList, 0) from by
          rw [parseP, if_neg (by rw [← size_list]; exact hlong), if_neg]
          rw [HPB.out, ← HCE.out]
          have : (q % 2 == 1) = false := by rw [beq_eq_false_iff_ne]; exact hodd
          rw [this]; simp)
        clear hodd
        go_enter Tryz.func13, Tryz.ntmps13
        go_wp2_with (first | (go_at_call 31; refine HPL.out.mono ?_; rintro e w1 ⟨i, rfl, hb1⟩) | (go_at_call 32; refine (HCN.out _).mono ?_; rintro e w9 ⟨rfl, rfl⟩))
        have HB1 := Lib.hid hb1
        have HT1 := Lib.hid (HT.out.below hb1)
        have hz1' := hb1.size
        clear hb1
        go_loopw [0, 6, 7] (fun p v n wr => ∃ (r : ByteArray) (L : List Cl), p = .string r ∧ n = .int .i64 (asksL L) ∧ ClRow w.heap.size wr v L ∧ Hid (L ++ parseF r.data.toList.length r.data.toList = parseF s.data.toList.length s.data.toList) ∧ r.size + L.length ≤ s.size ∧ Below w.heap.size w wr) (fun p _ _ _ => match p with | .string r => r.size | _ => 0)
        case atStart => exact ⟨s, [], rfl, rfl, ClRow.nil _ _, Lib.hid rfl, by simp, HB1.out⟩
        case round =>
          obtain ⟨r, L, rfl, rfl, hrow, heq, hlen, hbw⟩ := hrel
          have HROW := Lib.hid hrow
          have HBW := Lib.hid hbw
          have HTW := Lib.hid (HT.out.below (hbw.mono (Nat.le_refl _)))
          have hwz := hbw.size
          have hal : asksL L ≤ L.length := List.length_filter_le _ _
          clear hrow hbw
          by_cases hr0 : r.size = 0
          · have hemp := str_empty hr0
            have hnil : r.data.toList = [] := List.eq_nil_of_length_eq_zero (by rw [← size_list]; exact hr0)
            have hL : L = parseF s.data.toList.length s.data.toList := by
              have := heq.out
              rw [hnil] at this
              rw [← this]; simp [parseF]
            rw [← hL] at HX
            clear hL hnil hr0 heq
            by_cases ha : asksL L = 0
            · have hX2 : parseP s.data.toList = ([], 230) := by
                rw [HX.out, if_pos]
                unfold asksL at ha
                rw [List.length_eq_zero_iff, List.filter_eq_nil_iff] at ha
                rw [List.all_eq_true]
                intro c hc
                simpa using ha c hc
              have HX2 := Lib.hid hX2
              have hai : ((asksL L : Int) == 0) = true := by rw [ha]; rfl
              clear ha hX2
              go_wp2_with fail
              go_ret2
              unfold ParsePost
              rw [HX2.out]
              exact ⟨_, rfl, ⟨none, 0, rfl, fun k hk => absurd hk (Nat.not_lt_zero _)⟩, HBW.out⟩
            · have hX2 : parseP s.data.toList = (L, 0) := by
                rw [HX.out, if_neg]
                intro h
                apply ha
                unfold asksL
                rw [List.length_eq_zero_iff, List.filter_eq_nil_iff]
                rw [List.all_eq_true] at h
                intro c hc
                simpa using h c hc
              have HX2 := Lib.hid hX2
              have hai : ((asksL L : Int) == 0) = false := by rw [beq_eq_false_iff_ne]; omega
              clear ha hX2
              go_wp2_with fail
              go_ret2
              unfold ParsePost
              rw [HX2.out]
              exact ⟨_, rfl, HROW.out.sl, HBW.out⟩
          · have hr1 : 0 < r.size := by omega
            have hfull := str_full hr1
            have hhd := str_head hr1 32
            rw [show ((32 : UInt8).toNat : Int) = 32 from rfl] at hhd
            have hl1 : (1 : Int) ≤ (r.size : Int) := by omega
            have hne : r.data.toList ≠ [] := fun e => by rw [size_list, e] at hr1; cases hr1
            have HNE := Lib.hid hne
            clear hr0 hne
            cases hbl : (((r[0]'hr1).toNat : Int) == 32) with
            | true =>
              have HE := Lib.hid (parse_blank r.data.toList (by rw [hbl, beq_iff_eq] at hhd; exact hhd))
              clear hhd
              go_wp2_with fail
              go_roundw
              case rel =>
                refine ⟨_, L, rfl, rfl, HROW.out, Lib.hid ?_, ?_, HBW.out⟩
                · rw [str_tail]; simp only; rw [← HE.out]; exact heq.out
                · rw [str_tail, size_list]; simp only [List.length_tail, ← size_list]; omega
              case measure =>
                show (r.extract 1 r.size).size < r.size
                rw [str_tail, size_list]; simp only [List.length_tail, ← size_list]; omega
            | false =>
              have hcl := clause_any r (wr.alloc (.cells #[.slice none 0 0, .bool false, .bool false] 62)) (HTW.out.alloc _) hr1 (by omega)
              have HST := Lib.hid (parse_step r.data.toList HNE.out (by intro e; rw [hbl] at hhd; rw [e] at hhd; simp at hhd))
              have hlt := clauseF_len r.data.toList HNE.out (by intro e; rw [hbl] at hhd; rw [e] at hhd; simp at hhd)
              rw [← size_list] at hlt
              clear hhd
              unfold ClausePost at hcl
              have hclw : (clauseF r.data.toList).1.words.length ≤ 1099511627776 := by
                have := clauseF_words r.data.toList
                rw [← size_list] at this; omega
              generalize clauseF r.data.toList = k at *
              obtain ⟨⟨ws, no, opn⟩, rest⟩ := k
              simp only at hcl hlt hclw
              have HCL := Lib.hid hcl
              clear hcl
              obtain ⟨av, cv, hvv⟩ := slice_form HROW.out.choose_spec.2.1
              subst hvv
              have HK0 := Lib.hid (heap_alloc_new wr (.cells #[.slice none 0 0, .bool false, .bool false] 62))
              have HBA := Lib.hid ((Below.refl wr.heap.size wr).alloc (Nat.le_refl _) (.cells #[.slice none 0 0, .bool false, .bool false] 62))
              have hvb : Value.ownBlock (.slice av L.length cv) ≠ some wr.heap.size := fun e => by
                obtain ⟨us, _, hown, _⟩ := HROW.out
                have := (hown.lt _ e).2; omega
              have HVB := Lib.hid hvb
              clear hvb
              go_upto_region 13 with (go_at_call 33; refine HCL.out.mono ?_; rintro e w2 ⟨a, c, rfl, hr2, hb2⟩; have hk2 := (hb2.block _ (by simp)).trans HK0.out; have HK2 := Lib.hid hk2; have x0 : w2.cell? ⟨wr.heap.size, 0, none⟩ = some (.slice none 0 0) := (by rw [Lib.cell_of_heap hk2]; rfl); have x1 : w2.cell? ⟨wr.heap.size, 1, none⟩ = some (.bool false) := (by rw [Lib.cell_of_heap hk2]; rfl); have x2 : w2.cell? ⟨wr.heap.size, 2, none⟩ = some (.bool false) := (by rw [Lib.cell_of_heap hk2]; rfl); have xf : ∀ i, w2.frozen? ⟨wr.heap.size, i, none⟩ = false := (fun i => Lib.frozen_of_heap hk2 i); have HR2 := Lib.hid hr2; have HB2 := Lib.hid (HBA.out.trans (hb2.mono HBA.out.size)); clear hk2 hr2 hb2)
              clear x0 x1 x2 xf
              have h3 := three_put HK2.out (.slice a ws.length c) (.bool no) (.bool opn)
              have hrow3 := (HROW.out.new HB2.out).put (lt_of_heap HK2.out) (Nat.le_of_lt (lt_of_heap HK2.out)) HK2.out HVB.out (.slice a ws.length c) (.bool no) (.bool opn)
              have hr3 : StrRow (((w2.setCell ⟨wr.heap.size, 0, none⟩ (.slice a ws.length c)).setCell ⟨wr.heap.size, 1, none⟩ (.bool no)).setCell ⟨wr.heap.size, 2, none⟩ (.bool opn)) (.slice a ws.length c) ws := owns_keep HR2.out fun g hg => by
                have hne : wr.heap.size ≠ g := fun e => by
                  obtain ⟨c', hc'⟩ := owns_kind HR2.out g hg
                  rw [← e, HK2.out] at hc'
                  simp only [Option.some.injEq, Obj.cells.injEq] at hc'
                  exact absurd hc'.2.1 (by decide)
                rw [setCell_heap_ne hne, setCell_heap_ne hne, setCell_heap_ne hne]
              have hb3 := below_three HB2.out (Nat.le_refl _) (.slice a ws.length c) (.bool no) (.bool opn)
              generalize (((w2.setCell ⟨wr.heap.size, 0, none⟩ (.slice a ws.length c)).setCell ⟨wr.heap.size, 1, none⟩ (.bool no)).setCell ⟨wr.heap.size, 2, none⟩ (.bool opn)) = W3 at *
              have y0 : W3.cell? ⟨wr.heap.size, 0, none⟩ = some (.slice a ws.length c) := by rw [Lib.cell_of_heap h3]; rfl
              have y1 : W3.cell? ⟨wr.heap.size, 1, none⟩ = some (.bool no) := by rw [Lib.cell_of_heap h3]; rfl
              have y2 : W3.cell? ⟨wr.heap.size, 2, none⟩ = some (.bool opn) := by rw [Lib.cell_of_heap h3]; rfl
              have H3 := Lib.hid h3
              have HR3 := Lib.hid hr3
              have HW3 := Lib.hid hrow3
              have HB3 := Lib.hid hb3
              have hw3 := lt_of_heap h3
              have hbw3 := Lib.hid (HBW.out.trans (hb3.mono hwz))
              clear h3 hr3 hrow3 hb3
              by_cases hw0 : ws.length = 0
              · have hb0 : ((ws.length : Int) == 0) = true := by rw [beq_iff_eq]; omega
                have hE : ws.isEmpty = true := by rw [List.isEmpty_iff]; exact List.eq_nil_of_length_eq_zero hw0
                have HE := Lib.hid (show parseF r.data.toList.length r.data.toList = parseF rest.length rest from by rw [HST.out]; simp only [hE, if_true])
                clear hw0 hE
                go_wp2_with fail
                go_roundw
                case rel => exact ⟨⟨rest.toArray⟩, L, rfl, rfl, HW3.out, Lib.hid (by simp only; rw [← HE.out]; exact heq.out), (by show rest.toArray.size + _ ≤ _; rw [List.size_toArray]; omega), hbw3.out⟩
                case measure =>
                  show rest.toArray.size < r.size
                  rw [List.size_toArray]; omega
              · have hb0 : ((ws.length : Int) == 0) = false := by rw [beq_eq_false_iff_ne]; omega
                have hE : ws.isEmpty = false := by rw [List.isEmpty_eq_false_iff]; intro e; exact hw0 (by rw [e]; rfl)
                have HE := Lib.hid (show parseF r.data.toList.length r.data.toList = ⟨ws, no, opn⟩ :: parseF rest.length rest from by rw [HST.out]; simp only [hE, if_false, Bool.false_eq_true])
                have hLs : L.length ≤ 500 := by omega
                clear hw0 hE
                obtain ⟨us, hul, hown, hus⟩ := HW3.out
                have HUL := Lib.hid hul
                have HOWN := Lib.hid hown
                have HUS := Lib.hid hus
                clear hul hown hus
                cases hno : no with
                | true =>
                  rw [hno] at y1 H3 HE
                  have HNQ := Lib.hid (show asksL (L ++ [⟨ws, true, opn⟩]) = asksL L from by unfold asksL; rw [List.filter_append]; simp)
                  clear hno
                  go_wp2_with (at_builtin; refine wpList_append_lies _ rfl _ _ 22 rfl w.heap.size 62 i0 _ 3 32 Tryz.underlying22 hi0 hz0 hz1 hz2 rfl (by omega) _ _ _ rfl (HOWN.out.alloc _) ⟨W3.heap.size, 0, none⟩ 1 1 [.slice a ws.length c, .bool true, .bool opn] rfl rfl (World.news_of_block (cs := #[.slice a ws.length c, .bool true, .bool opn]) (t := 62) (fr := (0, 0)) (heap_alloc_new W3 _)) (by simp [Value.oneCell']) (by omega) (by unfold maxLen; omega) (by omega) (by simp; omega) _ rfl ?_; intro gg cap w4 hown4 hgrow hat hlt4; have hk4 := (hgrow.block wr.heap.size (by simp; omega) (fun e => HVB.out e.symm)).trans ((Below.heap_alloc _ _ _ hw3).trans H3.out); have q1 : w4.cell? ⟨wr.heap.size, 1, none⟩ = some (.bool true) := (by rw [Lib.cell_of_heap hk4]; rfl); have HG := Lib.hid hgrow; have HO4 := Lib.hid hown4; clear hk4 hgrow hown4)
                  go_roundw
                  case rel => exact ⟨⟨rest.toArray⟩, L ++ [⟨ws, true, opn⟩], rfl, by rw [HNQ.out], ClRow.snoc HUL.out HUS.out HOWN.out HR3.out HG.out HO4.out, Lib.hid (by simp only; rw [List.append_assoc, List.singleton_append, ← HE.out]; exact heq.out), (by show rest.toArray.size + _ ≤ _; rw [List.size_toArray, List.length_append]; simp only [List.length_cons, List.length_nil]; omega), (hbw3.out.alloc (by omega) _).grown HG.out (by simp; omega) (fun j hj => (HOWN.out.lt j hj).1)⟩
                  case measure =>
                    show rest.toArray.size < r.size
                    rw [List.size_toArray]; omega
                | false =>
                  rw [hno] at y1 H3 HE
                  have HNQ := Lib.hid (show asksL (L ++ [⟨ws, false, opn⟩]) = asksL L + 1 from by unfold asksL; rw [List.filter_append]; simp)
                  clear hno
                  go_wp2_with (at_builtin; refine wpList_append_lies _ rfl _ _ 22 rfl w.heap.size 62 i0 _ 3 32 Tryz.underlying22 hi0 hz0 hz1 hz2 rfl (by omega) _ _ _ rfl (HOWN.out.alloc _) ⟨W3.heap.size, 0, none⟩ 1 1 [.slice a ws.length c, .bool false, .bool opn] rfl rfl (World.news_of_block (cs := #[.slice a ws.length c, .bool false, .bool opn]) (t := 62) (fr := (0, 0)) (heap_alloc_new W3 _)) (by simp [Value.oneCell']) (by omega) (by unfold maxLen; omega) (by omega) (by simp; omega) _ rfl ?_; intro gg cap w4 hown4 hgrow hat hlt4; have hk4 := (hgrow.block wr.heap.size (by simp; omega) (fun e => HVB.out e.symm)).trans ((Below.heap_alloc _ _ _ hw3).trans H3.out); have q1 : w4.cell? ⟨wr.heap.size, 1, none⟩ = some (.bool false) := (by rw [Lib.cell_of_heap hk4]; rfl); have HG := Lib.hid hgrow; have HO4 := Lib.hid hown4; clear hk4 hgrow hown4)
                  go_roundw
                  case rel => exact ⟨⟨rest.toArray⟩, L ++ [⟨ws, false, opn⟩], rfl, by rw [HNQ.out]; go_num, ClRow.snoc HUL.out HUS.out HOWN.out HR3.out HG.out HO4.out, Lib.hid (by simp only; rw [List.append_assoc, List.singleton_append, ← HE.out]; exact heq.out), (by show rest.toArray.size + _ ≤ _; rw [List.size_toArray, List.length_append]; simp only [List.length_cons, List.length_nil]; omega), (hbw3.out.alloc (by omega) _).grown HG.out (by simp; omega) (fun j hj => (HOWN.out.lt j hj).1)⟩
                  case measure =>
                    show rest.toArray.size < r.size
                    rw [List.size_toArray]; omega
end Go.Proofs.YthpbdeiphagkiaaGreatDoor
