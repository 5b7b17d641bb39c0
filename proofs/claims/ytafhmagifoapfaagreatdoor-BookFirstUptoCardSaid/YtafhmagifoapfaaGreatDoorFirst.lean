/- The law: BookFirst. -/
import Derived.Test.YtafhmagifoapfaaGreatDoorTold
import Derived.Test.YtafhmagifoapfaaGreatDoorBook
import Derived.Test.YtafhmagifoapfaaGreatDoorCompile
import Derived.Test.YtafhmagifoapfaaGreatDoorLexE
import Derived.Test.YtafhmagifoapfaaGreatDoorAwake
import Derived.Laws.AppendOwnNone
namespace Go.Proofs.YtafhmagifoapfaaGreatDoor
open Go.RowKit Find Bk
attribute [local go_sem ↓] Go.wp_at_zero Go.wp_at_succ
def strs (l : List Wd) : List Value := l.map fun x => .string ⟨x.toArray⟩
theorem strs_len (l : List Wd) : (strs l).length = l.length := by simp [strs]
theorem TxtAt.of_row {w : World} {B n : Nat} {v : Value} {l : List Wd} (h : w.ownsRow B 9 1 v n (strs l)) (hn : l.length = n) : ∃ a c, v = .slice a n c ∧ TxtAt w a c l := by
  have hl := strs_len l
  rcases h.2 with ⟨rfl, h0⟩ | ⟨g, cap, cur, rfl, h1, h2, h3, h4, h5⟩
  · subst h0
    exact ⟨none, 0, rfl, by omega, fun k x hk => by have := (List.getElem?_eq_some_iff.1 hk).1; omega⟩
  · refine ⟨some ⟨g, 0, none⟩, cap, rfl, by omega, fun k x hk => ⟨g, 0, rfl, lt_of_heap h2, ?_⟩⟩
    rw [Nat.zero_add, h.cellAt k (by have := (List.getElem?_eq_some_iff.1 hk).1; omega)]
    unfold strs
    rw [List.getElem?_map, hk]; rfl
theorem TxtAt.news {w : World} {g o c : Nat} {l : List Wd} (h : TxtAt w (some ⟨g, o, none⟩) c l) : ∀ j u, (strs l)[j]? = some u → w.cell? ((⟨g, o, none⟩ : Addr).add j) = some u := fun j u hj => by
  unfold strs at hj
  rw [List.getElem?_map] at hj
  cases hx : l[j]? with
  | none => rw [hx] at hj; cases hj
  | some x =>
    rw [hx] at hj
    simp only [Option.map_some, Option.some.injEq] at hj
    subst hj
    obtain ⟨g', o', he, _, hc⟩ := h.at_ j x hx
    cases he
    cases j with
    | zero => exact hc
    | succ j => simpa [Addr.add] using hc
theorem TxtAt.news2 {w : World} {ad : Addr} {c : Nat} {l : List Wd} (h : TxtAt w (some ad) c l) : ∀ j u, (strs l)[j]? = some u → w.cell? (ad.add j) = some u := fun j u hj => by
  have hk : ∃ x, l[j]? = some x := by
    unfold strs at hj
    rw [List.getElem?_map] at hj
    cases hx : l[j]? with
    | none => rw [hx] at hj; cases hj
    | some x => exact ⟨x, rfl⟩
  obtain ⟨x, hx⟩ := hk
  obtain ⟨g', o', he, _, _⟩ := h.at_ j x hx
  cases he
  exact h.news j u hj
theorem strs_app (l m : List Wd) : strs l ++ strs m = strs (l ++ m) := by simp [strs]
theorem strs_one (l : List Wd) : ∀ u ∈ strs l, u.oneCell' = true := fun u hu => by
  unfold strs at hu
  obtain ⟨x, _, rfl⟩ := List.mem_map.1 hu
  rfl
theorem info_str : (Tryz.prog.info? 9).map (fun i => (i.zero, i.size, i.bytes)) = some (some (.string ⟨#[]⟩), 1, 16) := by kernel_rfl
theorem few_short {l : List Wd} (h : fewF l = true) : ∀ x ∈ l, x.length ≤ 1000000 := fun x hx => by
  unfold fewF at h
  simp only [Bool.and_eq_true, decide_eq_true_eq] at h
  have := lenF_mem hx
  omega
theorem own_ge {g n c k m : Nat} (hg : g = m) (hk : (Value.slice (some ⟨g, 0, none⟩) n c).ownBlock = some k) : m ≤ k := by
  simp only [Value.ownBlock, Option.some.injEq] at hk
  omega
theorem below_two {w X : World} (h : Below w.heap.size w X) (o1 o2 : Obj) : Below w.heap.size w ((X.alloc o1).alloc o2) ∧ w.heap.size ≤ ((X.alloc o1).alloc o2).heap.size := by
  have h1 := (h.alloc h.size o1).alloc (by have := h.size; simp; omega) o2
  exact ⟨h1, h1.size⟩
set_option maxHeartbeats 12800000 in
set_option maxRecDepth 100000 in
theorem bookFirst_any (al am : Option Addr) (cl cm : Nat) (ls ms : List Wd) (w : World) (hg : Glb w) (hl : TxtAt w al cl ls) (hm : TxtAt w am cm ms) (hnm : am = none → cm = 0 ∧ ms = []) (b1 : ls.length ≤ 4000000) (b2 : ms.length ≤ 4000000) (s1 : lenF ls ≤ 4000000) (s2 : lenF ms ≤ 4000000) :
    Calls Tryz.prog 3 #[.slice al ls.length cl, .slice am ms.length cm] w fun e w' => e = .returned (.bool true) ∧ Below w.heap.size w w' := by
  have HA := Lib.hid (awake_any w hg.err)
  have HF1 := Lib.hid (fun (W : World) (hb : Below w.heap.size w W) => few_any al cl ls W (hl.below hb) b1 s1)
  have HF2 := Lib.hid (fun (W : World) (hb : Below w.heap.size w W) => few_any am cm ms W (hm.below hb) b2 s2)
  have HG := Lib.hid hg
  have HL := Lib.hid hl
  have HM := Lib.hid hm
  have HNM := Lib.hid hnm
  obtain ⟨N, hN⟩ : ∃ N, ls.length = N := ⟨_, rfl⟩
  obtain ⟨M, hM⟩ : ∃ M, ms.length = M := ⟨_, rfl⟩
  have HN := Lib.hid hN
  have HMM := Lib.hid hM
  rw [hN] at HF1 b1 ⊢
  rw [hM] at HF2 b2 ⊢
  obtain ⟨q1, hq1⟩ : ∃ b, fewF ls = b := ⟨_, rfl⟩
  obtain ⟨q2, hq2⟩ : ∃ b, fewF ms = b := ⟨_, rfl⟩
  rw [hq1] at HF1
  rw [hq2] at HF2
  have HQ1 := Lib.hid hq1
  have HQ2 := Lib.hid hq2
  have hw64 := IntWalk.wrap64_in ((N : Int) + (M : Int)) ⟨by omega, by omega⟩
  have hd : decide ((64 : Int) < (N : Int) + (M : Int)) = decide (64 < N + M) := by congr 1; simp; omega
  obtain ⟨q3, hq3⟩ : ∃ b, decide (64 < N + M) = b := ⟨_, rfl⟩
  rw [hq3] at hd
  have HQ3 := Lib.hid hq3
  clear hg hl hm hnm hN hM hq1 hq2 s1 s2 hq3
  have hcs : q1 = false ∨ (q1 = true ∧ q2 = false) ∨ (q1 = true ∧ q2 = true ∧ q3 = true) ∨ (q1 = true ∧ q2 = true ∧ q3 = false) := by cases q1 <;> cases q2 <;> cases q3 <;> simp
  rcases hcs with rfl | ⟨rfl, rfl⟩ | ⟨rfl, rfl, rfl⟩ | ⟨rfl, rfl, rfl⟩
  case inr.inr.inr =>
    have h64 : N + M ≤ 64 := by have := HQ3.out; rw [decide_eq_false_iff_not] at this; omega
    obtain ⟨i0, hi0, hz0, hz1, hz2⟩ := info_parts info_str
    have h4 := HG.out.size
    have HX := Lib.hid (And.intro (few_short HQ1.out) (few_short HQ2.out))
    clear HQ1 HQ2 HQ3
    go_enter Tryz.func3, Tryz.ntmps3
    go_wp2_with (first
      | (go_at_call 4; refine HA.out.mono ?_; rintro e w1 ⟨rfl, hb1⟩; have HB1 := Lib.hid hb1; clear hb1)
      | (go_at_call_of 5 (Value.slice al N cl); refine (HF1.out _ HB1.out).mono ?_; rintro e w2 ⟨rfl, rfl⟩)
      | (go_at_call_of 5 (Value.slice am M cm); refine (HF2.out _ HB1.out).mono ?_; rintro e w2 ⟨rfl, rfl⟩)
      | fail)
    go_loopw [35] (fun s35 wr => ∃ k : Nat, s35 = .int .i64 k ∧ k ≤ N ∧ Hid (Below w.heap.size w wr ∧ ∀ j x, j < k → ls[j]? = some x → parseM x = none)) (fun s35 _ => N - (intOf s35).toNat)
    case atStart => exact ⟨0, rfl, Nat.zero_le _, Lib.hid ⟨HB1.out, fun j x hj => by omega⟩⟩
    case round =>
      obtain ⟨W, hW⟩ : ∃ W, W = wr := ⟨wr, rfl⟩
      subst hW
      obtain ⟨k, rfl, hk, hp⟩ := hrel
      obtain ⟨hbw, hgood⟩ := hp.out
      by_cases hkn : k < N
      · have hkd : (k : Int) < (N : Int) := by omega
        obtain ⟨x, hx⟩ : ∃ x, ls[k]? = some x := ⟨_, List.getElem?_eq_getElem (by rw [HN.out]; exact hkn)⟩
        obtain ⟨g, o, rfl, hgl, hcx⟩ := HL.out.at_ k x hx
        have ex : W.cell? ⟨g, o + k, none⟩ = some (.string ⟨x.toArray⟩) := (hbw.cell (p := ⟨g, o + k, none⟩) hgl).trans hcx
        have hxl := HX.out.1 x (List.mem_of_getElem? hx)
        have hsz := hbw.size
        have HBW := Lib.hid hbw
        cases hpx : parseM x with
        | none =>
          have HPG := Lib.hid (parse_good x W (HG.out.below hbw) hxl hpx)
          have HGD := Lib.hid (show ∀ j y, j < k + 1 → ls[j]? = some y → parseM y = none from fun j y hj hy => by
            rcases Nat.lt_or_ge j k with h | h
            · exact hgood j y h hy
            · have : j = k := by omega
              subst this
              rw [hx] at hy
              cases hy
              exact hpx)
          clear hp hx hcx hbw hgood hpx
          go_wp2_with (first
            | (go_at_call 6
               refine HPG.out.mono ?_
               rintro e w3 ⟨hb3, a1, n1, p1, a2, n2, p2, rfl⟩
               have HB3 : Hid (Below w.heap.size w w3) := Lib.hid (HBW.out.trans (hb3.mono hsz))
               clear hb3)
            | fail)
          go_roundw
          case rel => exact ⟨k + 1, by go_num, by omega, Lib.hid ⟨HB3.out.alloc HB3.out.size _, HGD.out⟩⟩
          case measure => simp [intOf]; omega
        | some fm =>
          obtain ⟨f, mk⟩ := fm
          have HPB := Lib.hid (parse_bad x W (HG.out.below hbw) hxl f mk hpx)
          have HCX := Lib.hid (And.intro hx (And.intro hgood hpx))
          have hnz := parseM_nz hpx
          have hcd : ((f.code : Int) != 0) = true := by rw [bne_iff_ne]; omega
          have hcd2 : ((f.code : Int) == 0) = false := by rw [beq_eq_false_iff_ne]; omega
          clear hp hx hcx hbw hgood hpx hnz
          go_upto_region 10 with (first
            | (go_at_call 6
               refine HPB.out.mono ?_
               rintro e w3 ⟨hb3, v3, rfl, hev⟩
               obtain ⟨τ, pp, rfl⟩ := hev.form
               have HB3 : Hid (Below w.heap.size w w3) := Lib.hid (HBW.out.trans (hb3.mono hsz))
               clear hb3 hev)
            | fail)
          obtain ⟨w4, hw4⟩ : ∃ W, w3.alloc (.cells #[.slice none 0 0, .slice none 0 0] 28) = W := ⟨_, rfl⟩
          have HB4 : Hid (Below w.heap.size w w4) := Lib.hid (by rw [← hw4]; exact HB3.out.alloc HB3.out.size _)
          rw [hw4]
          clear hw4
          have hz4 := HB4.out.size
          have HLN : Hid ((strs ls).length = N * 1) := Lib.hid (by rw [strs_len, HN.out]; omega)
          have HNW : Hid (∀ W', Below w.heap.size w W' → ∀ j u, (strs ls)[j]? = some u → W'.cell? ((⟨g, o, none⟩ : Addr).add j) = some u) := Lib.hid fun W' hb => (HL.out.below hb).news
          go_upto_region 11 with (first
            | (at_builtin; go_loud (refine wpList_append_lies _ rfl _ _ 22 rfl w.heap.size 9 i0 _ 1 16 Tryz.underlying22 hi0 hz0 hz1 hz2 rfl (by omega) (.slice none 0 0) 0 [] rfl (World.ownsRow_nil _ _ _ _) ⟨g, o, none⟩ N cl (strs ls) rfl HLN.out (HNW.out w4 HB4.out) (strs_one ls) (by omega) (by unfold maxLen; omega) (by omega) HB4.out.size w4.heap.size rfl ?_; intro g5 cap5 w5 hown5 hgrow5 hat5 hlt5; rw [Nat.zero_add, List.nil_append] at hown5; have HB5 : Hid (Below w.heap.size w w5) := Lib.hid (HB4.out.grown hgrow5 HB4.out.size fun k hk => by simp [Value.ownBlock] at hk); have HO5 := Lib.hid hown5; clear hown5 hgrow5 hat5 hlt5))
            | (go_at_call 7
               obtain ⟨a5, c5, he5, hat5⟩ := TxtAt.of_row HO5.out HN.out
               cases he5
               have hC := compile_any w5 _ _ ls k x f mk (HG.out.below HB5.out) hat5 (by rw [HN.out]; omega) HX.out.1 HCX.out.1 HCX.out.2.1 HCX.out.2.2
               rw [HN.out] at hC
               refine hC.mono ?_
               rintro e w6 ⟨v6, rfl, hbv6, hb6⟩
               obtain ⟨pb6, rfl⟩ : ∃ pb, v6 = .iface 87 (.pointer (some ⟨pb, 0, none⟩)) := (by obtain ⟨u, u2, ⟨pb, h, _⟩, _⟩ := hbv6; exact ⟨pb, h⟩)
               have HBV6 := Lib.hid hbv6
               have HB6 : Hid (Below w.heap.size w w6) := Lib.hid (HB5.out.trans (hb6.mono HB5.out.size))
               clear hC hbv6 hb6 hat5)
            | fail)
          have hz6 := HB6.out.size
          have HMN : Hid ((strs ms).length = M * 1) := Lib.hid (by rw [strs_len, HMM.out]; omega)
          have hN0 : 0 < N := by omega
          have hN1 : 0 + N ≤ maxLen := by unfold maxLen; omega
          have hN2 : (0 + N) * 16 ≤ 140737488355328 := by omega
          have hN3 : N + M ≤ maxLen := by unfold maxLen; omega
          have hN4 : (N + M) * 16 ≤ 140737488355328 := by omega
          have HTR : Hid (trailF mk ≠ [] ∧ (trailF mk).length ≤ 10) := Lib.hid (by cases mk <;> simp [trailF])
          have HL64 : Hid (ls.length ≤ 64 ∧ (ls ++ ms).length = N + M ∧ (ls ++ ms).length ≤ 64) := Lib.hid ⟨by rw [HN.out]; omega, by rw [List.length_append, HN.out, HMM.out], by rw [List.length_append, HN.out, HMM.out]; exact h64⟩
          cases am with
          | none =>
            obtain ⟨hc0, hm0⟩ := HNM.out rfl
            have hM0 : M = 0 := by rw [← HMM.out, hm0]; rfl
            subst hM0
            subst hc0
            clear hm0
            go_upto_region 12 with (first
            | (at_builtin; (refine wpList_append_lies _ rfl _ _ 22 rfl w.heap.size 9 i0 _ 1 16 Tryz.underlying22 hi0 hz0 hz1 hz2 rfl Nat.one_pos (.slice none 0 0) 0 [] rfl (World.ownsRow_nil _ _ _ _) ⟨g, o, none⟩ N cl (strs ls) rfl HLN.out (HNW.out w6 HB6.out) (strs_one ls) hN0 hN1 hN2 HB6.out.size w6.heap.size rfl ?_; intro g7 cap7 w7 hown7 hgrow7 hat7 hlt7; rw [Nat.zero_add, List.nil_append] at hown7; have HB7 : Hid (Below w.heap.size w w7) := Lib.hid (HB6.out.grown hgrow7 HB6.out.size fun k hk => by simp [Value.ownBlock] at hk); have HO7 := Lib.hid hown7; have HB67 : Hid (Below w6.heap.size w6 w7) := Lib.hid ((Below.refl _ _).grown hgrow7 (Nat.le_refl _) fun k hk => by simp [Value.ownBlock] at hk); have hg7 : g7 = w6.heap.size := (by rcases hat7 with h | h; (cases h); exact h); have HG7 := Lib.hid hg7; clear hown7 hgrow7 hat7 hlt7 hg7))
            | (at_builtin; (refine wpList_append_own_none rfl _ _ 22 rfl w.heap.size 9 i0 1 Tryz.underlying22 hi0 _ N _ rfl HO7.out rfl ?_; obtain ⟨a8, c8, he8, hat8⟩ := TxtAt.of_row HO7.out HN.out; have HAT8 : Hid (TxtAt w7 a8 c8 ls) := Lib.hid hat8; rw [he8]; clear hat8 he8))
            | (go_at_call 7; go_loud (have hC := compile_any w7 a8 c8 ls k x f mk (HG.out.below HB7.out) HAT8.out HL64.out.1 HX.out.1 HCX.out.1 HCX.out.2.1 HCX.out.2.2; rw [HN.out] at hC; refine hC.mono ?_; rintro e w9 ⟨v9, rfl, hbv9, hb9⟩; obtain ⟨pb9, rfl⟩ : ∃ pb, v9 = .iface 87 (.pointer (some ⟨pb, 0, none⟩)) := (by obtain ⟨u, u2, ⟨pb, h, _⟩, _⟩ := hbv9; exact ⟨pb, h⟩); have HBV9 := Lib.hid hbv9; have HB9 : Hid (Below w.heap.size w w9) := Lib.hid (HB7.out.trans (hb9.mono HB7.out.size)); have HBV69 := Lib.hid (HBV6.out.new (HB67.out.trans (hb9.mono HB67.out.size))); clear hC hbv9 hb9))
            | fail)
            go_wp2_with fail
            have hT1 := told_any w9 _ k f mk HBV69.out
            unfold ToldPost fltVal at hT1
            refine hT1.mono ?_
            rintro e w10 ⟨hb10, tv1, rfl, hst1⟩
            obtain ⟨ta1, tn1, tc1, rfl⟩ : ∃ a n c, tv1 = .slice a n c := (by obtain ⟨ao, n, c, e, _⟩ := hst1.open_; exact ⟨ao, n, c, e⟩)
            have HST1 := Lib.hid hst1
            have HBT : Hid (Below w9.heap.size w9 w10) := Lib.hid hb10
            clear hT1 hst1 hb10
            go_wp2_with fail
            have hT2 := told_any w10 _ k f mk (HBV9.out.new HBT.out)
            unfold ToldPost fltVal at hT2
            refine hT2.mono ?_
            rintro e w11 ⟨hb11, tv2, rfl, hst2⟩
            obtain ⟨ta2, tn2, tc2, rfl⟩ : ∃ a n c, tv2 = .slice a n c := (by obtain ⟨ao, n, c, e, _⟩ := hst2.open_; exact ⟨ao, n, c, e⟩)
            have HST2 := Lib.hid hst2
            have HST12 := Lib.hid (HST1.out.below hb11)
            have HB11 : Hid (Below w.heap.size w w11) := Lib.hid (HB9.out.trans ((HBT.out.trans (hb11.mono HBT.out.size)).mono HB9.out.size))
            clear hT2 hst2 hb11
            go_wp2_with fail
            have hba := (below_two (Below.refl w11.heap.size w11) (.cells #[.int .i64 f.code, .int .i64 k, .int .i64 f.line, .int .i64 f.col, .string ⟨f.word.toArray⟩, .slice ta1 tn1 tc1] 39) (.cells #[.int .i64 f.code, .int .i64 k, .int .i64 f.line, .int .i64 f.col, .string ⟨f.word.toArray⟩, .slice ta2 tn2 tc2] 39)).1
            have hS := same_any f k (trailF mk) (.slice ta1 tn1 tc1) (.slice ta2 tn2 tc2) _ (HST12.out.below hba) (HST2.out.below hba) HTR.out.1 HTR.out.2
            unfold fltVal at hS
            refine hS.mono ?_
            rintro e w12 ⟨rfl, hb12⟩
            have HB12 : Hid (Below w.heap.size w w12) := Lib.hid ((below_two HB11.out _ _).1.trans (hb12.mono (below_two HB11.out _ _).2))
            clear hS hb12 hba
            go_wp2_with fail
            go_ret
            exact ⟨rfl, HB12.out⟩
          | some ad =>
            have HMW : Hid (∀ W', Below w.heap.size w W' → ∀ j u, (strs ms)[j]? = some u → W'.cell? (ad.add j) = some u) := Lib.hid fun W' hb => (HM.out.below hb).news2
            have HALL : Hid ((∀ y ∈ ls ++ ms, y.length ≤ 1000000) ∧ (ls ++ ms)[k]? = some x ∧ ∀ j y, j < k → (ls ++ ms)[j]? = some y → parseM y = none) := Lib.hid ⟨fun y hy => by rcases List.mem_append.1 hy with h | h; exact HX.out.1 y h; exact HX.out.2 y h, by rw [List.getElem?_append_left (by rw [HN.out]; exact hkn)]; exact HCX.out.1, fun j y hj hy => by rw [List.getElem?_append_left (by rw [HN.out]; omega)] at hy; exact HCX.out.2.1 j y hj hy⟩
            go_upto_region 12 with (first
            | (at_builtin; (refine wpList_append_lies _ rfl _ _ 22 rfl w.heap.size 9 i0 _ 1 16 Tryz.underlying22 hi0 hz0 hz1 hz2 rfl Nat.one_pos (.slice none 0 0) 0 [] rfl (World.ownsRow_nil _ _ _ _) ⟨g, o, none⟩ N cl (strs ls) rfl HLN.out (HNW.out w6 HB6.out) (strs_one ls) hN0 hN1 hN2 HB6.out.size w6.heap.size rfl ?_; intro g7 cap7 w7 hown7 hgrow7 hat7 hlt7; rw [Nat.zero_add, List.nil_append] at hown7; have HB7 : Hid (Below w.heap.size w w7) := Lib.hid (HB6.out.grown hgrow7 HB6.out.size fun k hk => by simp [Value.ownBlock] at hk); have HO7 := Lib.hid hown7; have HB67 : Hid (Below w6.heap.size w6 w7) := Lib.hid ((Below.refl _ _).grown hgrow7 (Nat.le_refl _) fun k hk => by simp [Value.ownBlock] at hk); have hg7 : g7 = w6.heap.size := (by rcases hat7 with h | h; (cases h); exact h); have HG7 := Lib.hid hg7; clear hown7 hgrow7 hat7 hlt7 hg7))
            | (at_builtin; go_loud (refine wpList_append_own _ rfl _ _ 22 rfl w.heap.size 9 i0 _ 1 16 Tryz.underlying22 hi0 hz0 hz1 hz2 rfl Nat.one_pos (.slice (some ⟨g7, 0, none⟩) N cap7) N (strs ls) rfl HO7.out ad M cm (strs ms) rfl HMN.out (HMW.out w7 HB7.out) (strs_one ms) hN3 hN4 HB7.out.size ?_; intro v8 w8 hown8 hgrow8 hnil8; obtain ⟨a8, c8, he8, hat8⟩ := TxtAt.of_row (l := ls ++ ms) (by rw [← strs_app]; exact hown8) HL64.out.2.1; subst he8; have HAT8 := Lib.hid hat8; have HB8 : Hid (Below w.heap.size w w8) := Lib.hid (HB7.out.grown hgrow8 HB7.out.size fun k hk => (HO7.out.lt k hk).1); have HB68 : Hid (Below w6.heap.size w6 w8) := Lib.hid (HB67.out.grown hgrow8 HB67.out.size fun k hk => own_ge HG7.out hk); clear hat8 hown8 hgrow8 hnil8))
            | (go_at_call 7; go_loud (have hC := compile_any w8 a8 c8 (ls ++ ms) k x f mk (HG.out.below HB8.out) HAT8.out HL64.out.2.2 HALL.out.1 HALL.out.2.1 HALL.out.2.2 HCX.out.2.2; rw [HL64.out.2.1] at hC; refine hC.mono ?_; rintro e w9 ⟨v9, rfl, hbv9, hb9⟩; obtain ⟨pb9, rfl⟩ : ∃ pb, v9 = .iface 87 (.pointer (some ⟨pb, 0, none⟩)) := (by obtain ⟨u, u2, ⟨pb, h, _⟩, _⟩ := hbv9; exact ⟨pb, h⟩); have HBV9 := Lib.hid hbv9; have HB9 : Hid (Below w.heap.size w w9) := Lib.hid (HB8.out.trans (hb9.mono HB8.out.size)); have HBV69 := Lib.hid (HBV6.out.new (HB68.out.trans (hb9.mono HB68.out.size))); clear hC hbv9 hb9))
            | fail)
            go_wp2_with fail
            have hT1 := told_any w9 _ k f mk HBV69.out
            unfold ToldPost fltVal at hT1
            refine hT1.mono ?_
            rintro e w10 ⟨hb10, tv1, rfl, hst1⟩
            obtain ⟨ta1, tn1, tc1, rfl⟩ : ∃ a n c, tv1 = .slice a n c := (by obtain ⟨ao, n, c, e, _⟩ := hst1.open_; exact ⟨ao, n, c, e⟩)
            have HST1 := Lib.hid hst1
            have HBT : Hid (Below w9.heap.size w9 w10) := Lib.hid hb10
            clear hT1 hst1 hb10
            go_wp2_with fail
            have hT2 := told_any w10 _ k f mk (HBV9.out.new HBT.out)
            unfold ToldPost fltVal at hT2
            refine hT2.mono ?_
            rintro e w11 ⟨hb11, tv2, rfl, hst2⟩
            obtain ⟨ta2, tn2, tc2, rfl⟩ : ∃ a n c, tv2 = .slice a n c := (by obtain ⟨ao, n, c, e, _⟩ := hst2.open_; exact ⟨ao, n, c, e⟩)
            have HST2 := Lib.hid hst2
            have HST12 := Lib.hid (HST1.out.below hb11)
            have HB11 : Hid (Below w.heap.size w w11) := Lib.hid (HB9.out.trans ((HBT.out.trans (hb11.mono HBT.out.size)).mono HB9.out.size))
            clear hT2 hst2 hb11
            go_wp2_with fail
            have hba := (below_two (Below.refl w11.heap.size w11) (.cells #[.int .i64 f.code, .int .i64 k, .int .i64 f.line, .int .i64 f.col, .string ⟨f.word.toArray⟩, .slice ta1 tn1 tc1] 39) (.cells #[.int .i64 f.code, .int .i64 k, .int .i64 f.line, .int .i64 f.col, .string ⟨f.word.toArray⟩, .slice ta2 tn2 tc2] 39)).1
            have hS := same_any f k (trailF mk) (.slice ta1 tn1 tc1) (.slice ta2 tn2 tc2) _ (HST12.out.below hba) (HST2.out.below hba) HTR.out.1 HTR.out.2
            unfold fltVal at hS
            refine hS.mono ?_
            rintro e w12 ⟨rfl, hb12⟩
            have HB12 : Hid (Below w.heap.size w w12) := Lib.hid ((below_two HB11.out _ _).1.trans (hb12.mono (below_two HB11.out _ _).2))
            clear hS hb12 hba
            go_wp2_with fail
            go_ret
            exact ⟨rfl, HB12.out⟩
      · have hke : k = N := by omega
        subst hke
        have HBW := Lib.hid hbw
        have hkd : decide ((k : Int) < (k : Int)) = false := by simp
        clear hp hkn hbw hgood
        go_wp2_with fail
        go_ret
        exact ⟨rfl, HBW.out⟩
  all_goals
    go_enter Tryz.func3, Tryz.ntmps3
    go_wp2_with (first
      | (go_at_call 4; refine HA.out.mono ?_; rintro e w1 ⟨rfl, hb1⟩; have HB1 := Lib.hid hb1; clear hb1)
      | (go_at_call_of 5 (Value.slice al N cl); refine (HF1.out _ HB1.out).mono ?_; rintro e w2 ⟨rfl, rfl⟩)
      | (go_at_call_of 5 (Value.slice am M cm); refine (HF2.out _ HB1.out).mono ?_; rintro e w2 ⟨rfl, rfl⟩)
      | fail)
    go_ret
    exact ⟨rfl, HB1.out⟩
end Go.Proofs.YtafhmagifoapfaaGreatDoor
