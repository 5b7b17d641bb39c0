/- (*find.Finder).Ask: the walk. -/
import Derived.Test.YthpbdeiphagkiaaGreatDoorAskF
namespace Go.Proofs.YthpbdeiphagkiaaGreatDoor
open Go.RowKit Find

theorem info_fnd : (Tryz.prog.info? 56).map (fun i => (i.zero, i.size, i.bytes)) = some (some (.agg #[.int .i64 0, .int .i64 0, .int .i64 0]), 3, 24) := by kernel_rfl
/-- What Ask tells. -/
def AskPost (LL : Lists) (cs : List Cl) (w : World) (e : Ending) (w' : World) : Prop := ∃ v R, e = .returned v ∧ Find.Told LL cs R ∧ FndSl w' v R ∧ Below w.heap.size w w'
theorem foundsF_score {LL : Lists} {cs : List Cl} (hN : ∀ p ∈ LL, p.1.length ≤ 5242881 ∧ p.2.length ≤ 5242881) (hmany : cs.length ≤ 1048576) {n : Nat} (hn : n ≤ LL.length) : ∀ x ∈ foundsF LL cs n, 0 ≤ x.score ∧ x.score ≤ 1099511627776000 := by
  intro x hx
  simp only [foundsF, List.mem_filterMap, List.mem_range] at hx
  obtain ⟨j, hj, hx⟩ := hx
  have hp := hN (LL.getD j ([], [])) (by rw [List.getD_eq_getElem?_getD, List.getElem?_eq_getElem (show j < LL.length by omega)]; exact List.getElem_mem _)
  have := foundF_score hp.1 hp.2 cs _ x hx
  simp only [found0] at this
  omega
theorem foundsF_one (LL : Lists) (cs : List Cl) (n : Nat) (x : Fnd) (h : foundF (hasC LL) (LL.getD n ([], [])).1 (LL.getD n ([], [])).2 (found0 n) cs = some x) : foundsF LL cs (n + 1) = foundsF LL cs n ++ [x] := by
  rw [foundsF_succ, h]; rfl
theorem foundsF_none (LL : Lists) (cs : List Cl) (n : Nat) (h : foundF (hasC LL) (LL.getD n ([], [])).1 (LL.getD n ([], [])).2 (found0 n) cs = none) : foundsF LL cs (n + 1) = foundsF LL cs n := by
  rw [foundsF_succ, h]; simp

set_option maxHeartbeats 16000000 in
set_option maxRecDepth 100000 in
theorem ask_any (LL : Lists) (cs : List Cl) (b : Nat) (al : Option Addr) (cl : Nat) (w : World) (hf : FinderIs w b LL) (hcs : ClsSl w (.slice al cs.length cl) cs) (hmany : cs.length ≤ 1048576)
    (hN : ∀ p ∈ LL, p.1.length ≤ 5242881 ∧ p.2.length ≤ 5242881) (hC : ∀ c ∈ cs, c.words.length ≤ 1099511627776) (hLn : LL.length ≤ 1000) :
    Calls Tryz.prog 8 #[.pointer (some ⟨b, 0, none⟩), .slice al cs.length cl] w (AskPost LL cs w) := by
  have hz3 : Tryz.prog.cellsOf 62 = 3 := by kernel_rfl
  have hz4 : Tryz.prog.cellsOf 56 = 3 := by kernel_rfl
  obtain ⟨i0, hi0, hz0, hz1, hz2⟩ := info_parts info_fnd
  have HFI := Lib.hid hf
  have HCS := Lib.hid hcs
  have HC := Lib.hid hC
  have HN := Lib.hid hN
  clear hf hcs hN hC
  go_enter Tryz.func8, Tryz.ntmps8
  go_wp2_with fail
  go_loopw [5, 16] (fun p q wr => ∃ j : Nat, j ≤ cs.length ∧ q = .int .i64 j ∧ p = .int .i64 (asksN (cs.take j)) ∧ Below w.heap.size w wr) (fun _ q _ => cs.length - (intOf q).toNat)
  case atStart => exact ⟨0, Nat.zero_le _, rfl, rfl, Below.refl _ _⟩
  case round =>
    obtain ⟨j, hj, rfl, rfl, hbw⟩ := hrel
    have HBW := Lib.hid hbw
    clear hbw
    have hal := asksN_le (cs.take j)
    have hal2 : asksN (cs.take j) ≤ j := Nat.le_trans hal (List.length_take_le _ _)
    clear hal
    by_cases hlt : j < cs.length
    · obtain ⟨g, o, hg, hcl⟩ : ∃ g o, al = some ⟨g, o, none⟩ ∧ ClAt wr g (o + j * 3) cs[j] := by
        obtain ⟨a, cc, he, hc⟩ := HCS.out.new HBW.out
        obtain ⟨g, o, rfl, hcell⟩ := hc j hlt
        exact ⟨g, o, by simpa using congrArg (fun v => match v with | Value.slice a _ _ => a | _ => none) he, hcell⟩
      subst hg
      have htk := asksN_take cs j hlt
      generalize hcc : cs[j] = c at *
      obtain ⟨aw, cw, c0', c1', c2', hsw⟩ := hcl
      have HTK := Lib.hid htk
      clear hcc hsw htk
      generalize hna : asksN (cs.take j) = na at *
      clear hna
      cases hno : c.no with
      | true =>
        rw [hno] at c1'
        have HT := Lib.hid (show asksN (cs.take (j + 1)) = na by rw [HTK.out, hno]; rfl)
        clear hno
        go_wp2_with fail
        go_roundw
        case rel => exact ⟨j + 1, by omega, by go_num, by rw [HT.out], HBW.out.alloc HBW.out.size _⟩
        case measure => simp [intOf] <;> omega
      | false =>
        rw [hno] at c1'
        by_cases hw0 : c.words.length = 0
        · have hb0 : ¬ ((0 : Int) < (c.words.length : Int)) := by omega
          have HT := Lib.hid (show asksN (cs.take (j + 1)) = na by rw [HTK.out, hno, List.eq_nil_of_length_eq_zero hw0]; rfl)
          clear hno hw0
          go_wp2_with fail
          go_roundw
          case rel => exact ⟨j + 1, by omega, by go_num, by rw [HT.out], HBW.out.alloc HBW.out.size _⟩
          case measure => simp [intOf] <;> omega
        · have hb0 : ((0 : Int) < (c.words.length : Int)) := by omega
          have HT := Lib.hid (show asksN (cs.take (j + 1)) = na + 1 by
            rw [HTK.out, hno]
            have : c.words.isEmpty = false := by rw [List.isEmpty_eq_false_iff]; intro e; exact hw0 (by rw [e]; rfl)
            rw [this]; rfl)
          clear hno hw0
          go_wp2_with fail
          go_roundw
          case rel => exact ⟨j + 1, by omega, by go_num, by rw [HT.out]; go_num, HBW.out.alloc HBW.out.size _⟩
          case measure => simp [intOf] <;> omega
    · have hjn : cs.take j = cs := List.take_of_length_le (by omega)
      rw [hjn] at hal2 ⊢
      clear hjn
      generalize hna : asksN cs = na at *
      have HNA := Lib.hid hna
      clear hna
      go_wp2_with fail
      go_loopw [8, 9] (fun p q wr => ∃ i : Nat, i ≤ LL.length ∧ (0 < i → 0 < na) ∧ q = .int .i64 i ∧ wr.ownsRow w.heap.size 56 3 p (foundsF LL cs i).length (fndsCells (foundsF LL cs i)) ∧ (foundsF LL cs i = [] → p = .slice none 0 0) ∧ Below w.heap.size w wr) (fun _ q _ => LL.length - (intOf q).toNat)
      case atStart => exact ⟨0, Nat.zero_le _, fun h => absurd h (by omega), rfl, World.ownsRow_nil _ _ _ _, fun _ => rfl, HBW.out⟩
      case round =>
        obtain ⟨i, hi, hpos, rfl, hown, hnil, hbq⟩ := hrel
        have hfs := foundsF_tup LL cs i
        have hfl : (foundsF LL cs i).length ≤ 1000 := by omega
        have HTU := Lib.hid hfs
        clear hfs
        obtain ⟨vl, m, hb, _, _⟩ := HFI.out.new hbq
        have cb0 : wr.cell? ⟨b, 0, none⟩ = some (.int .i64 LL.length) := by rw [Lib.cell_of_heap hb]; rfl
        clear hb
        have HOWN := Lib.hid hown
        have HNIL := Lib.hid hnil
        have HBQ := Lib.hid hbq
        clear hown hnil hbq
        by_cases hlt2 : i < LL.length ∧ 0 < na
        · obtain ⟨hlt2, hap⟩ := hlt2
          have hai : (0 : Int) < (na : Int) := by omega
          have hfd := found_any LL cs b i al cl wr (HFI.out.new HBQ.out) hlt2 (HCS.out.new HBQ.out) hmany HN.out HC.out hLn
          unfold FoundPost at hfd
          cases hfo : foundF (hasC LL) (LL.getD i ([], [])).1 (LL.getD i ([], [])).2 (found0 i) cs with
          | none =>
            rw [hfo] at hfd
            have HFD := Lib.hid hfd
            have HNX := Lib.hid (foundsF_none LL cs i hfo)
            clear hfd hfo
            go_wp2_with (go_at_call 23; refine HFD.out.mono ?_; rintro e w1 ⟨rfl, hb1⟩)
            go_roundw
            case rel =>
              have hbb := hb1.alloc (Nat.le_trans (Nat.le_refl _) hb1.size) (.cells #[.int .i64 0, .int .i64 0, .int .i64 0] 56)
              exact ⟨i + 1, by omega, fun _ => hap, by go_num, by rw [HNX.out]; exact owns_new HOWN.out hbb, by rw [HNX.out]; exact HNIL.out, HBQ.out.trans (hbb.mono HBQ.out.size)⟩
            case measure => simp [intOf] <;> omega
          | some x =>
            rw [hfo] at hfd
            have HFD := Lib.hid hfd
            have HNX := Lib.hid (foundsF_one LL cs i x hfo)
            clear hfd hfo
            generalize hR : foundsF LL cs i = R at *
            obtain ⟨av, cv, hv⟩ := slice_form HOWN.out
            subst hv
            have hbs := HBQ.out.size
            clear hR
            go_wp2_with (first | (go_at_call 23; refine HFD.out.mono ?_; rintro e w1 ⟨rfl, hb1⟩; have hz1' := hb1.size; have hown1 := owns_new HOWN.out hb1) | (at_builtin; refine wpList_append_lies _ rfl _ _ 44 rfl w.heap.size 56 i0 _ 3 24 Tryz.underlying44 hi0 hz0 hz1 hz2 rfl (by omega) _ _ _ rfl ((hown1.alloc _).alloc _) ⟨w1.heap.size + 1, 0, none⟩ 1 1 [.int .i64 x.topic, .int .i64 x.score, .int .i64 x.place] rfl rfl (World.news_of_block (cs := #[.int .i64 x.topic, .int .i64 x.score, .int .i64 x.place]) (t := 56) (fr := (0, 0)) (by have := heap_alloc_new (w1.alloc (.cells #[.int .i64 x.topic, .int .i64 x.score, .int .i64 x.place] 56)) (.cells #[.int .i64 x.topic, .int .i64 x.score, .int .i64 x.place] 56); rw [World.size_alloc] at this; exact this)) (by simp [Value.oneCell']) (by omega) (by unfold maxLen; omega) (by omega) (by simp; omega) _ rfl ?_; intro gg cap w2 hown2 hgrow hat hlt3))
            go_roundw
            case rel =>
              refine ⟨i + 1, by omega, fun _ => hap, by go_num, by rw [HNX.out, List.length_append, fndsCells_append]; exact hown2, fun h => by rw [HNX.out] at h; simp at h, ?_⟩
              exact (((HBQ.out.trans (hb1.mono hbs)).alloc (by omega) _).alloc (by simp; omega) _).grown hgrow (by simp; omega) (fun j hj => (HOWN.out.lt j hj).1)
            case measure => simp [intOf] <;> omega
        · have hend : foundsF LL cs i = founds LL cs := by
            unfold founds
            rw [HNA.out]
            by_cases hap : 0 < na
            · rw [if_pos hap, show i = LL.length by omega]
            · rw [if_neg hap]
              have : i = 0 := by
                rcases Nat.eq_zero_or_pos i with h | h
                · exact h
                · exact absurd (hpos h) hap
              rw [this]; rfl
          have hsort := fun v (hv : wr.ownsRow w.heap.size 56 3 v (foundsF LL cs i).length (fndsCells (foundsF LL cs i))) hnl => told_any LL cs (foundsF LL cs i) hend w.heap.size v wr hv hnl (by omega) (foundsF_score HN.out hmany hi) HTU.out.1
          have HS := Lib.hid (hsort _ HOWN.out HNIL.out)
          clear hsort hend
          by_cases hl2 : i < LL.length
          · have hai : ¬ (0 : Int) < (na : Int) := by omega
            go_wp2_with (go_at_call 24; refine HS.out.mono ?_; rintro e w1 ⟨rfl, ⟨S, hT, hS⟩, hb1⟩)
            go_ret
            exact ⟨_, S, rfl, hT, hS, HBQ.out.trans hb1⟩
          · go_wp2_with (go_at_call 24; refine HS.out.mono ?_; rintro e w1 ⟨rfl, ⟨S, hT, hS⟩, hb1⟩)
            go_ret
            exact ⟨_, S, rfl, hT, hS, HBQ.out.trans hb1⟩
end Go.Proofs.YthpbdeiphagkiaaGreatDoor
