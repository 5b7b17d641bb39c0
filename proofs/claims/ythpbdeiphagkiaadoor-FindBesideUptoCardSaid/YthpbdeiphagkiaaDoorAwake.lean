/- awake: chapter 23's example is answered as it says. -/
import Derived.Test.YthpbdeiphagkiaaDoorSearch
namespace Go.Proofs.YthpbdeiphagkiaaDoor
open Go.RowKit Find

theorem ex_small : ∀ p ∈ wordsLL exT exX, p.1.length ≤ 5242881 ∧ p.2.length ≤ 5242881 := by
  have h : (wordsLL exT exX).all (fun p => decide (p.1.length ≤ 10) && decide (p.2.length ≤ 10)) = true := by kernel_rfl
  intro p hp
  have := List.all_eq_true.1 h p hp
  simp only [Bool.and_eq_true, decide_eq_true_eq] at this
  omega
theorem spots_small {LL : Lists} (h : ∀ p ∈ LL, p.1.length ≤ 5242881 ∧ p.2.length ≤ 5242881) (hn : LL.length ≤ 1000) (x : Wd) : (spotsOf LL x).length ≤ 1099511627776 := by
  have := spotsOf_len LL x 5242881 h
  have h2 : LL.length * (2 * 5242881) ≤ 1000 * (2 * 5242881) := Nat.mul_le_mul_right _ hn
  omega
theorem ex_keys : ∀ k, spotsOf (wordsLL exT exX) k ≠ [] → k.length ≤ maxLen := by
  have h : (wordsLL exT exX).all (fun p => (p.1 ++ p.2).all fun x => decide (x.length ≤ 10)) = true := by kernel_rfl
  intro k hk
  obtain ⟨i, hi, hm⟩ := spotsOf_ne.1 hk
  rw [List.getD_eq_getElem?_getD, List.getElem?_eq_getElem hi, Option.getD_some] at hm
  have := List.all_eq_true.1 (List.all_eq_true.1 h _ (List.getElem_mem hi)) k (List.mem_append.2 hm)
  simp only [decide_eq_true_eq] at this
  unfold maxLen; omega
theorem nodup_len {α : Type} [DecidableEq α] : ∀ (M L : List α), M.Nodup → (∀ k ∈ M, k ∈ L) → M.length ≤ L.length
  | [], _, _, _ => by simp
  | a :: M, L, hn, h => by
    have ha := h a (by simp)
    have hn' := List.nodup_cons.1 hn
    have ih := nodup_len M (L.erase a) hn'.2 fun k hk => (List.mem_erase_of_ne (fun e => hn'.1 (by rw [← e]; exact hk))).2 (h k (by simp [hk]))
    rw [List.length_erase_of_mem ha] at ih
    have := List.length_pos_of_mem ha
    rw [List.length_cons]; omega
theorem keys_many {LL : Lists} (h : ∀ p ∈ LL, p.1.length ≤ 5242881 ∧ p.2.length ≤ 5242881) (hn : LL.length ≤ 1000) : ∀ M : List Wd, M.Nodup → (∀ k ∈ M, spotsOf LL k ≠ []) → M.length ≤ 1099511627776 := by
  intro M hnd hM
  have hsub : ∀ k ∈ M, k ∈ LL.flatMap fun p => p.1 ++ p.2 := fun k hk => by
    obtain ⟨i, hi, hm⟩ := spotsOf_ne.1 (hM k hk)
    rw [List.getD_eq_getElem?_getD, List.getElem?_eq_getElem hi, Option.getD_some] at hm
    exact List.mem_flatMap.2 ⟨_, List.getElem_mem hi, List.mem_append.2 hm⟩
  have h1 : M.length ≤ (LL.flatMap fun p => p.1 ++ p.2).length := nodup_len _ _ hnd hsub
  have h2 : ∀ (L : Lists), (∀ p ∈ L, p.1.length ≤ 5242881 ∧ p.2.length ≤ 5242881) → (L.flatMap fun p => p.1 ++ p.2).length ≤ L.length * 10485762 := by
    intro L
    induction L with
    | nil => intro _; simp
    | cons p L ih =>
      intro hL
      have h3 := hL p (by simp)
      have h4 := ih fun q hq => hL q (by simp [hq])
      rw [List.flatMap_cons, List.length_append, List.length_append, List.length_cons, Nat.add_mul, Nat.one_mul]
      omega
  have h5 := h2 LL h
  have h6 : LL.length * 10485762 ≤ 1000 * 10485762 := Nat.mul_le_mul_right _ hn
  omega

set_option maxHeartbeats 4000000 in
set_option maxRecDepth 100000 in
theorem awake_any (w : World) (hT : Tabs w) : Calls Tryd.prog 7 #[] w fun e w' => e = .returned (.bool true) ∧ Below w.heap.size w w' := by
  have hb0 := ((Below.refl w.heap.size w).alloc (Nat.le_refl _) (.cells #[st (exT.getD 0 []), st (exT.getD 1 [])] 9)).alloc (by simp) (.cells #[st (exX.getD 0 []), st (exX.getD 1 [])] 9)
  have hw0 : (w.alloc (.cells #[st (exT.getD 0 []), st (exT.getD 1 [])] 9)).heap[w.heap.size]? = _ := heap_alloc_new w _
  have hw1 : ((w.alloc (.cells #[st (exT.getD 0 []), st (exT.getD 1 [])] 9)).alloc (.cells #[st (exX.getD 0 []), st (exX.getD 1 [])] 9)).heap[w.heap.size]? = _ := (Below.heap_alloc _ _ _ (lt_of_heap hw0)).trans hw0
  have hw2 := heap_alloc_new (w.alloc (.cells #[st (exT.getD 0 []), st (exT.getD 1 [])] 9)) (.cells #[st (exX.getD 0 []), st (exX.getD 1 [])] 9)
  rw [World.size_alloc] at hw2
  have sl : ∀ (W : World) (g : Nat) (x y : Wd), W.heap[g]? = some (.cells #[st x, st y] 9 (0, 0)) → StrSl W (.slice (some ⟨g, 0, none⟩) 2 2) [x, y] := fun W g x y hg => ⟨_, 2, rfl, fun k hk => ⟨g, 0, rfl, by
    rcases (by simp at hk; omega : k = 0 ∨ k = 1) with rfl | rfl
    · rw [Lib.cell_of_heap hg]; rfl
    · rw [Lib.cell_of_heap hg]; rfl⟩⟩
  have HNEW := Lib.hid (new_any exT exX (some ⟨w.heap.size, 0, none⟩) (some ⟨w.heap.size + 1, 0, none⟩) 2 2 _ (hT.below hb0) rfl (by decide) (by intro x hx; have : exT.all (fun x => decide (x.length ≤ 1048576)) = true := (by kernel_rfl); simpa using List.all_eq_true.1 this x hx) (by intro x hx; have : exX.all (fun x => decide (x.length ≤ 1048576)) = true := (by kernel_rfl); simpa using List.all_eq_true.1 this x hx) (sl _ _ _ _ hw1) (sl _ _ _ _ hw2))
  have HB0 := Lib.hid hb0
  have HT := Lib.hid hT
  clear hb0 hw0 hw1 hw2 sl hT
  have HSE := Lib.hid (show ∀ b W, FinderIs W b (wordsLL exT exX) → Tabs W → Calls Tryd.prog 21 #[.pointer (some ⟨b, 0, none⟩), .string ⟨#[97, 112, 112, 108, 101, 115]⟩] W fun e w' => ∃ g c, e = .returned (.tuple #[.slice (some ⟨g, 0, none⟩) 2 c, .int .i64 0]) ∧
      (w'.cell? ⟨g, 0, none⟩ = some (.int .i64 0) ∧ w'.cell? ⟨g, 1, none⟩ = some (.int .i64 12) ∧ w'.cell? ⟨g, 2, none⟩ = some (.int .i64 0) ∧ w'.cell? ⟨g, 3, none⟩ = some (.int .i64 1) ∧ w'.cell? ⟨g, 4, none⟩ = some (.int .i64 1) ∧ w'.cell? ⟨g, 5, none⟩ = some (.int .i64 1)) ∧ Below W.heap.size W w' from fun b W hf ht => by
    refine (search_any _ b ⟨#[97, 112, 112, 108, 101, 115]⟩ W ht (by decide) hf ex_small (by decide)).mono ?_
    rintro e w' ⟨a, c, R, rfl, hto, _, hfn, hb⟩
    have hp : parseP (⟨#[97, 112, 112, 108, 101, 115]⟩ : ByteArray).data.toList = ([Find.one exQ], 0) := ex_parse
    rw [hp] at hto ⊢
    have hR := ex_told (hto rfl)
    subst hR
    obtain ⟨a', c', hv, hc⟩ := hfn
    simp only [Value.slice.injEq] at hv
    obtain ⟨rfl, _, rfl⟩ := hv
    obtain ⟨g, rfl, h0, h1, h2⟩ := hc 0 (by decide)
    obtain ⟨g', hg, h3, h4, h5⟩ := hc 1 (by decide)
    simp only [Option.some.injEq, Addr.mk.injEq] at hg
    obtain ⟨rfl, _⟩ := hg
    exact ⟨g, c, rfl, ⟨h0, h1, h2, h3, h4, h5⟩, hb⟩)
  have HPA := Lib.hid (show ∀ W, Tabs W → Calls Tryd.prog 22 #[.string ⟨#[45, 97]⟩] W fun e w' => ∃ a c, e = .returned (.tuple #[.slice a 0 c, .int .i64 230]) ∧ Below W.heap.size W w' from fun W ht => by
    refine (parse_any ⟨#[45, 97]⟩ W ht (by decide)).mono ?_
    rintro e w' ⟨v, rfl, hcl, hb⟩
    have hp : parseP (⟨#[45, 97]⟩ : ByteArray).data.toList = ([], 230) := ex_parse2
    rw [hp] at hcl ⊢
    obtain ⟨a, c, rfl, _⟩ := hcl
    exact ⟨a, c, rfl, hb⟩)
  have HCO := Lib.hid (show ∀ b W, FinderIs W b (wordsLL exT exX) → Tabs W → Calls Tryd.prog 15 #[.pointer (some ⟨b, 0, none⟩), .string ⟨#[65, 80, 80, 76, 69, 83]⟩] W fun e w' => e = .returned (.int .i64 2) ∧ Below W.heap.size W w' from fun b W hf ht => by
    have := count_any (wordsLL exT exX) b ⟨#[65, 80, 80, 76, 69, 83]⟩ W ht (by decide) hf (by decide) (spots_small ex_small (by decide))
    have hc : countW (wordsLL exT exX) (words (⟨#[65, 80, 80, 76, 69, 83]⟩ : ByteArray).data.toList) = 2 := ex_count
    rw [hc] at this
    exact this)
  have HBE := Lib.hid (show ∀ b W, FinderIs W b (wordsLL exT exX) → Tabs W → Calls Tryd.prog 19 #[.pointer (some ⟨b, 0, none⟩), .string ⟨#[114, 101]⟩] W fun e w' => ∃ a c, e = .returned (.slice a 1 c) ∧ Below W.heap.size W w' from fun b W hf ht => by
    refine (begin_any (wordsLL exT exX) b ⟨#[114, 101]⟩ W ht (by decide) hf ex_keys (keys_many ex_small (by decide))).mono ?_
    rintro e w' ⟨v, R, rfl, hn, hm, _, hsl, hb⟩
    have hs : Find.start (⟨#[114, 101]⟩ : ByteArray).data.toList = [114, 101] := ex_start
    rw [hs] at hm
    have hl := ex_begin hn hm
    obtain ⟨a, c, rfl, _⟩ := hsl
    rw [hl]
    exact ⟨a, c, rfl, hb⟩)
  have HWO := Lib.hid (show ∀ W, Tabs W → Calls Tryd.prog 10 #[.string ⟨#[97, 45, 98]⟩] W fun e w' => ∃ a c, e = .returned (.slice a 2 c) ∧ Below W.heap.size W w' from fun W ht => by
    refine (words_any ⟨#[97, 45, 98]⟩ W ht (by decide)).mono ?_
    rintro e w' ⟨v, rfl, hr, hb⟩
    obtain ⟨a, c, rfl⟩ := slice_form hr
    have hw : (words (⟨#[97, 45, 98]⟩ : ByteArray).data.toList).length = 2 := ex_words
    rw [hw]
    exact ⟨a, c, rfl, hb⟩)
  have hz4 : Tryd.prog.cellsOf 48 = 3 := by kernel_rfl
  go_enter Tryd.func7, Tryd.ntmps7
  go_wp2_with (first
    | (go_at_call 8; refine HNEW.out.mono ?_; rintro e w1 ⟨b, rfl, hf1, hb1⟩; have HF1 := Lib.hid hf1; have HB1 := Lib.hid (HB0.out.trans (hb1.mono HB0.out.size)); have HT1 := Lib.hid (HT.out.below HB1.out); clear hf1 hb1)
    | (go_at_call 21; refine (HSE.out _ _ HF1.out HT1.out).mono ?_; rintro e w2 ⟨g2, c2, rfl, ⟨m0, m1, m2, m3, m4, m5⟩, hb2⟩; have HB2 := Lib.hid (HB1.out.trans (hb2.mono HB1.out.size)); have HT2 := Lib.hid (HT.out.below HB2.out); have HF2 := Lib.hid (HF1.out.new hb2); clear hb2)
    | (go_at_call 22; refine (HPA.out _ HT2.out).mono ?_; rintro e w3 ⟨a3, c3, rfl, hb3⟩; have HB3 := Lib.hid (HB2.out.trans (hb3.mono HB2.out.size)); have HT3 := Lib.hid (HT.out.below HB3.out); have HF3 := Lib.hid (HF2.out.new hb3); clear hb3)
    | (go_at_call 15; refine (HCO.out _ _ HF3.out HT3.out).mono ?_; rintro e w4 ⟨rfl, hb4⟩; have HB4 := Lib.hid (HB3.out.trans (hb4.mono HB3.out.size)); have HT4 := Lib.hid (HT.out.below HB4.out); have HF4 := Lib.hid (HF3.out.new hb4); clear hb4)
    | (go_at_call 19; refine (HBE.out _ _ HF4.out HT4.out).mono ?_; rintro e w5 ⟨a5, c5, rfl, hb5⟩; have HB5 := Lib.hid (HB4.out.trans (hb5.mono HB4.out.size)); have HT5 := Lib.hid (HT.out.below HB5.out); clear hb5)
    | (go_at_call 10; refine (HWO.out _ HT5.out).mono ?_; rintro e w6 ⟨a6, c6, rfl, hb6⟩; have HB6 := Lib.hid (HB5.out.trans (hb6.mono HB5.out.size)); clear hb6))
  go_ret
  exact ⟨rfl, HB6.out⟩
end Go.Proofs.YthpbdeiphagkiaaDoor
