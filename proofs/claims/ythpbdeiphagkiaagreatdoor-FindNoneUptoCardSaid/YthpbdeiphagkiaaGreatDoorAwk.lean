/- The laws' own small functions over texts and numbers: twin, holds, has, Ints, Rise, topics. -/
import Derived.Test.YthpbdeiphagkiaaGreatDoorParseW
import Derived.Test.YthpbdeiphagkiaaGreatDoorAsks
import Derived.Laws.AppendOwnNone
import Derived.Test.YthpbdeiphagkiaaGreatDoorBegin
namespace Go.Proofs.YthpbdeiphagkiaaGreatDoor
open Go.RowKit Find

/-- What twin tells: the same texts in new memory. -/
def TwinPost (l : List Wd) (w : World) (e : Ending) (w' : World) : Prop := ∃ v, e = .returned v ∧ w'.ownsRow w.heap.size 9 1 v l.length (l.map st) ∧ Below w.heap.size w w'
set_option maxHeartbeats 2000000 in
theorem twin_any (l : List Wd) (v : Value) (w : World) (h : StrSl w v l) (hnil : ∀ c, v = .slice none 0 c → c = 0) (hn : l.length ≤ 1099511627776) :
    Calls Tryz.prog 26 #[v] w (TwinPost l w) := by
  obtain ⟨i0, hi0, hz0, hz1, hz2⟩ := info_parts info_str
  obtain ⟨a, c, rfl, hc⟩ := h
  have HC := Lib.hid hc
  clear hc
  by_cases h0 : l.length = 0
  · have hl : l = [] := List.eq_nil_of_length_eq_zero h0
    subst hl
    rw [List.length_nil]
    cases a with
    | none =>
      obtain rfl : c = 0 := hnil c rfl
      · go_enter Tryz.func26, Tryz.ntmps26
        go_wp2_with (at_builtin; refine wpList_append_own_none rfl (.const (.slice none 0 0)) (.tmp 3) 35 rfl w.heap.size 9 i0 1 Tryz.underlying35 hi0 (.slice none 0 0) 0 [] rfl (World.ownsRow_nil _ _ _ _) rfl ?_)
        go_ret
        exact ⟨_, rfl, World.ownsRow_nil _ _ _ _, Below.refl _ _⟩
    | some ad =>
      go_enter Tryz.func26, Tryz.ntmps26
      go_wp2_with (at_builtin; refine wpList_append_own _ rfl (.const (.slice none 0 0)) (.tmp 3) 35 rfl w.heap.size 9 i0 _ 1 16 Tryz.underlying35 hi0 hz0 hz1 hz2 rfl (by omega) (.slice none 0 0) 0 [] rfl (World.ownsRow_nil _ _ _ _) ad 0 c [] rfl (by simp) (by simp) (by simp) (by unfold maxLen; omega) (by omega) (by simp) ?_; intro v' w1 hown hgrow _)
      go_ret
      exact ⟨_, rfl, by simpa using hown, (Below.refl _ _).grown hgrow (by simp) (fun j hj => by cases hj)⟩
  · have hp : 0 < l.length := by omega
    obtain ⟨g, o, rfl, _⟩ := HC.out 0 hp
    have HN := Lib.hid (show ∀ j u, (l.map st)[j]? = some u → w.cell? ((⟨g, o, none⟩ : Addr).add j) = some u from fun j u hu => by
      rw [List.getElem?_map] at hu
      obtain ⟨x, hx, rfl⟩ := Option.map_eq_some_iff.1 hu
      obtain ⟨hj, hxe⟩ := List.getElem?_eq_some_iff.1 hx
      obtain ⟨g', o', he, hcell⟩ := HC.out j hj
      simp only [Option.some.injEq, Addr.mk.injEq] at he
      obtain ⟨rfl, rfl, _⟩ := he
      rw [add_none, hcell, hxe])
    go_enter Tryz.func26, Tryz.ntmps26
    go_wp2_with (at_builtin; refine wpList_append_lies _ rfl (.const (.slice none 0 0)) (.tmp 3) 35 rfl w.heap.size 9 i0 _ 1 16 Tryz.underlying35 hi0 hz0 hz1 hz2 rfl (by omega) (.slice none 0 0) 0 [] rfl (World.ownsRow_nil _ _ _ _) ⟨g, o, none⟩ l.length c (l.map st) rfl (by simp) HN.out (by simp [Value.oneCell']) (by omega) (by unfold maxLen; omega) (by omega) (Nat.le_refl _) (w.heap.size) rfl ?_; intro gg cap w1 hown hgrow hat hlt; simp only [Nat.zero_add, List.nil_append] at hown)
    go_ret
    exact ⟨_, rfl, by simpa using hown, (Below.refl _ _).grown hgrow (Nat.le_refl _) (fun j hj => by cases hj)⟩

end Go.Proofs.YthpbdeiphagkiaaGreatDoor
/- Nothing of its own: the chain of imports goes through here. -/

/- Chapter 23's example: closed facts; (*find.Finder).Search. -/
namespace Go.Proofs.YthpbdeiphagkiaaGreatDoor
open Go.RowKit Find

def exT : List Wd := [[82, 101, 100, 32, 65, 112, 112, 108, 101, 115], [80, 101, 97, 114, 115]]
def exX : List Wd := [[65, 112, 112, 108, 101, 115, 32, 97, 114, 101, 32, 114, 101, 100, 46, 32, 82, 101, 100, 32, 97, 112, 112, 108, 101, 115, 33], [78, 111, 32, 97, 112, 112, 108, 101, 115, 32, 104, 101, 114, 101]]
def exQ : Wd := [97, 112, 112, 108, 101, 115]
def exM : Wd := [45, 97]
theorem ex_parse : parseP exQ = ([Find.one exQ], 0) := by kernel_rfl
theorem ex_parse2 : parseP exM = ([], 230) := by kernel_rfl
theorem ex_founds : founds (wordsLL exT exX) [Find.one exQ] = [⟨0, 12, 0⟩, ⟨1, 1, 1⟩] := by kernel_rfl
theorem ex_told {R : List Fnd} (h : Find.Told (wordsLL exT exX) [Find.one exQ] R) : R = [⟨0, 12, 0⟩, ⟨1, 1, 1⟩] := by
  refine h.unique ⟨?_, ?_⟩
  · refine List.pairwise_cons.2 ⟨fun x hx => ?_, List.pairwise_singleton _ _⟩
    rw [List.mem_singleton.1 hx]
    left; decide
  · rw [ex_founds]
theorem ex_count : countW (wordsLL exT exX) (words [65, 80, 80, 76, 69, 83]) = 2 := by kernel_rfl
theorem ex_words : (words [97, 45, 98]).length = 2 := by kernel_rfl
theorem ex_start : Find.start [114, 101] = [114, 101] := by kernel_rfl
theorem ex_all : ((wordsLL exT exX).flatMap fun p => p.1 ++ p.2).filter (fun k => ([114, 101] : Wd).isPrefixOf k) = [[114, 101, 100], [114, 101, 100], [114, 101, 100]] := by kernel_rfl
theorem ex_begin {R : List Wd} (hn : R.Nodup) (hm : ∀ k, k ∈ R ↔ spotsOf (wordsLL exT exX) k ≠ [] ∧ [114, 101] <+: k) : R.length = 1 := by
  have hk : ∀ k, k ∈ R ↔ k = [114, 101, 100] := fun k => by
    rw [hm, spotsOf_ne]
    have key : (∃ i, i < (wordsLL exT exX).length ∧ (k ∈ ((wordsLL exT exX).getD i ([], [])).1 ∨ k ∈ ((wordsLL exT exX).getD i ([], [])).2)) ↔ k ∈ (wordsLL exT exX).flatMap fun p => p.1 ++ p.2 := by
      rw [List.mem_flatMap]
      constructor
      · rintro ⟨i, hi, h⟩
        rw [List.getD_eq_getElem?_getD, List.getElem?_eq_getElem hi, Option.getD_some] at h
        exact ⟨_, List.getElem_mem hi, List.mem_append.2 h⟩
      · rintro ⟨p, hp, h⟩
        obtain ⟨i, hi, rfl⟩ := List.mem_iff_getElem.1 hp
        exact ⟨i, hi, by rw [List.getD_eq_getElem?_getD, List.getElem?_eq_getElem hi, Option.getD_some]; exact List.mem_append.1 h⟩
    rw [key]
    have h2 : (k ∈ ((wordsLL exT exX).flatMap fun p => p.1 ++ p.2) ∧ ([114, 101] : Wd) <+: k) ↔ k ∈ ((wordsLL exT exX).flatMap fun p => p.1 ++ p.2).filter (fun k => ([114, 101] : Wd).isPrefixOf k) := by
      rw [List.mem_filter, List.isPrefixOf_iff_prefix]
    rw [h2, ex_all]
    simp
  have hp : R.Perm [[114, 101, 100]] := (List.perm_ext_iff_of_nodup hn (by simp)).2 fun k => by rw [hk, List.mem_singleton]
  exact hp.length_eq
end Go.Proofs.YthpbdeiphagkiaaGreatDoor
/- (*find.Finder).Search; find.New where there is none; awake. -/
namespace Go.Proofs.YthpbdeiphagkiaaGreatDoor
open Go.RowKit Find

theorem parseF_len : ∀ (f : Nat) (s : Wd), (parseF f s).length ≤ s.length ∧ ∀ c ∈ parseF f s, c.words.length ≤ 5 * s.length + 1
  | 0, s => by simp [parseF]
  | _ + 1, [] => by simp [parseF]
  | f + 1, c :: s => by
    unfold parseF
    by_cases hc : c = 32
    · rw [if_pos hc]
      have ih := parseF_len f s
      exact ⟨by rw [List.length_cons]; omega, fun x hx => by have := ih.2 x hx; rw [List.length_cons]; omega⟩
    · rw [if_neg hc]
      have hl := clauseF_len (c :: s) (by simp) (by simp [hc])
      have hw := clauseF_words (c :: s)
      have ih := parseF_len f (clauseF (c :: s)).2
      split
      · exact ⟨by omega, fun x hx => by have := ih.2 x hx; omega⟩
      · refine ⟨by rw [List.length_cons]; omega, fun x hx => ?_⟩
        rcases List.mem_cons.1 hx with rfl | hx
        · exact hw
        · have := ih.2 x hx; omega
theorem parseP_len (s : Wd) : (parseP s).1.length ≤ 500 ∧ ∀ c ∈ (parseP s).1, c.words.length ≤ 2501 := by
  unfold parseP
  split
  · simp
  · rename_i hl
    split
    · simp
    · split
      · simp
      · have := parseF_len s.length s
        exact ⟨by simp only; omega, fun c hc => by have := this.2 c hc; omega⟩
theorem parseP_code (s : Wd) : (parseP s).2 = 0 ∨ (parseP s).2 = 2 ∨ (parseP s).2 = 230 := by
  unfold parseP
  split
  · right; left; rfl
  · split
    · right; right; rfl
    · split
      · right; right; rfl
      · left; rfl

/-- What Search tells. -/
def SearchPost (LL : Lists) (s : Wd) (w : World) (e : Ending) (w' : World) : Prop :=
  ∃ a c R, e = .returned (.tuple #[.slice a R.length c, .int .i64 (parseP s).2]) ∧ ((parseP s).2 = 0 → Find.Told LL (parseP s).1 R) ∧ ((parseP s).2 ≠ 0 → R = []) ∧ FndSl w' (.slice a R.length c) R ∧ Below w.heap.size w w'
set_option maxHeartbeats 4000000 in
theorem search_any (LL : Lists) (b : Nat) (s : ByteArray) (w : World) (hT : Tabs w) (hs : s.size ≤ 1099511627776) (hf : FinderIs w b LL) (hN : ∀ p ∈ LL, p.1.length ≤ 5242881 ∧ p.2.length ≤ 5242881) (hLn : LL.length ≤ 1000) :
    Calls Tryz.prog 7 #[.pointer (some ⟨b, 0, none⟩), .string s] w (SearchPost LL s.data.toList w) := by
  have hp := parse_any s w hT hs
  unfold ParsePost at hp
  have hlen := parseP_len s.data.toList
  unfold SearchPost
  obtain ⟨cs, hcs⟩ : ∃ l, l = (parseP s.data.toList).1 := ⟨_, rfl⟩
  obtain ⟨code, hcode⟩ : ∃ l, l = (parseP s.data.toList).2 := ⟨_, rfl⟩
  have hcd := parseP_code s.data.toList
  rw [← hcs, ← hcode] at hp ⊢
  rw [← hcode] at hcd
  rw [← hcs] at hlen
  clear hcs hcode
  have HP := Lib.hid hp
  have HF := Lib.hid hf
  have HN := Lib.hid hN
  have HL := Lib.hid hlen
  clear hp hf hT hN hlen
  by_cases h0 : code = 0
  · subst h0
    go_enter Tryz.func7, Tryz.ntmps7
    go_wp2_with (first | (go_at_call 13; refine HP.out.mono ?_; rintro e w1 ⟨v, rfl, ⟨av, cv, rfl, hcl⟩, hb1⟩; have HA := Lib.hid (ask_any LL cs b av cv w1 (HF.out.new hb1) ⟨av, cv, rfl, hcl⟩ (by have := HL.out.1; omega) HN.out (fun c hc => by have := HL.out.2 c hc; omega) hLn); have HB1 := Lib.hid hb1; clear hcl hb1) | (go_at_call 8; refine HA.out.mono ?_; rintro e w2 ⟨v2, R, rfl, hto, hfn, hb2⟩; have HTO := Lib.hid hto; have HFN := Lib.hid hfn; have HB2 := Lib.hid hb2; clear hto hfn hb2))
    go_ret2
    obtain ⟨a, c, hv, _⟩ := HFN.out
    subst hv
    exact ⟨a, c, R, rfl, fun _ => HTO.out, fun h => absurd rfl h, HFN.out, HB1.out.trans (HB2.out.mono HB1.out.size)⟩
  · have hc0 : (code != 0) = true := by simpa using h0
    have H0 := Lib.hid h0
    clear h0
    go_enter Tryz.func7, Tryz.ntmps7
    go_wp2_with (go_at_call 13; refine HP.out.mono ?_; rintro e w1 ⟨v, rfl, _, hb1⟩)
    go_ret2
    exact ⟨none, 0, [], rfl, fun h => absurd h H0.out, fun _ => rfl, ⟨none, 0, rfl, fun k hk => absurd hk (Nat.not_lt_zero _)⟩, hb1⟩

set_option maxHeartbeats 2000000 in
set_option maxRecDepth 100000 in
/-- New: numbers that differ, or more topics than there may be: none, and an error. -/
theorem new_bad (at_ ax : Option Addr) (n m ct cx : Nat) (w : World) (hn : n ≤ 1099511627776) (hm : m ≤ 1099511627776) (h : n ≠ m ∨ 1000 < n) :
    Calls Tryz.prog 12 #[.slice at_ n ct, .slice ax m cx] w fun e w' => ∃ code : Int, e = .returned (.tuple #[.pointer none, .int .i64 code]) ∧ code ≠ 0 ∧ Below w.heap.size w w' := by
  by_cases hnm : n = m
  · subst hnm
    have hb : ((n : Int) != (n : Int)) = false := by simp
    have hb2 : (n != n) = false := by simp
    have hlong : (1000 : Int) < (n : Int) := by omega
    clear h
    go_enter Tryz.func12, Tryz.ntmps12
    go_wp2
    go_ret2
    exact ⟨_, rfl, by decide, Below.refl _ _⟩
  · have hb : ((n : Int) != (m : Int)) = true := by rw [bne_iff_ne]; omega
    have hb2 : (n != m) = true := by rw [bne_iff_ne]; exact hnm
    clear h hnm
    go_enter Tryz.func12, Tryz.ntmps12
    go_wp2
    go_ret2
    exact ⟨_, rfl, by decide, Below.refl _ _⟩
end Go.Proofs.YthpbdeiphagkiaaGreatDoor
/- awake: chapter 23's example is answered as it says. -/
namespace Go.Proofs.YthpbdeiphagkiaaGreatDoor
open Go.RowKit Find

theorem ex_small : ∀ p ∈ wordsLL exT exX, p.1.length ≤ 5242881 ∧ p.2.length ≤ 5242881 := by
  have h : (wordsLL exT exX).all (fun p => decide (p.1.length ≤ 10) && decide (p.2.length ≤ 10)) = true := by kernel_rfl
  intro p hp
  have := List.all_eq_true.1 h p hp
  simp only [Bool.and_eq_true, decide_eq_true_eq] at this
  omega
theorem spots_small {LL : Lists} (h : ∀ p ∈ LL, p.1.length ≤ 5242881 ∧ p.2.length ≤ 5242881) (hn : LL.length ≤ 1000) (x : Wd) : (spotsOf LL x).length ≤ 1099511627776 := by
  have := spotsOf_len LL x 5242881 h
  have h2 : LL.length * (2 * 5242881) ≤ 1000 * (2 * 5242881) := Nat.mul_le_mul_right _ hn
  omega
theorem ex_keys : ∀ k, spotsOf (wordsLL exT exX) k ≠ [] → k.length ≤ maxLen := by
  have h : (wordsLL exT exX).all (fun p => (p.1 ++ p.2).all fun x => decide (x.length ≤ 10)) = true := by kernel_rfl
  intro k hk
  obtain ⟨i, hi, hm⟩ := spotsOf_ne.1 hk
  rw [List.getD_eq_getElem?_getD, List.getElem?_eq_getElem hi, Option.getD_some] at hm
  have := List.all_eq_true.1 (List.all_eq_true.1 h _ (List.getElem_mem hi)) k (List.mem_append.2 hm)
  simp only [decide_eq_true_eq] at this
  unfold maxLen; omega
theorem nodup_len {α : Type} [DecidableEq α] : ∀ (M L : List α), M.Nodup → (∀ k ∈ M, k ∈ L) → M.length ≤ L.length
  | [], _, _, _ => by simp
  | a :: M, L, hn, h => by
    have ha := h a (by simp)
    have hn' := List.nodup_cons.1 hn
    have ih := nodup_len M (L.erase a) hn'.2 fun k hk => (List.mem_erase_of_ne (fun e => hn'.1 (by rw [← e]; exact hk))).2 (h k (by simp [hk]))
    rw [List.length_erase_of_mem ha] at ih
    have := List.length_pos_of_mem ha
    rw [List.length_cons]; omega
theorem keys_many {LL : Lists} (h : ∀ p ∈ LL, p.1.length ≤ 5242881 ∧ p.2.length ≤ 5242881) (hn : LL.length ≤ 1000) : ∀ M : List Wd, M.Nodup → (∀ k ∈ M, spotsOf LL k ≠ []) → M.length ≤ 1099511627776 := by
  intro M hnd hM
  have hsub : ∀ k ∈ M, k ∈ LL.flatMap fun p => p.1 ++ p.2 := fun k hk => by
    obtain ⟨i, hi, hm⟩ := spotsOf_ne.1 (hM k hk)
    rw [List.getD_eq_getElem?_getD, List.getElem?_eq_getElem hi, Option.getD_some] at hm
    exact List.mem_flatMap.2 ⟨_, List.getElem_mem hi, List.mem_append.2 hm⟩
  have h1 : M.length ≤ (LL.flatMap fun p => p.1 ++ p.2).length := nodup_len _ _ hnd hsub
  have h2 : ∀ (L : Lists), (∀ p ∈ L, p.1.length ≤ 5242881 ∧ p.2.length ≤ 5242881) → (L.flatMap fun p => p.1 ++ p.2).length ≤ L.length * 10485762 := by
    intro L
    induction L with
    | nil => intro _; simp
    | cons p L ih =>
      intro hL
      have h3 := hL p (by simp)
      have h4 := ih fun q hq => hL q (by simp [hq])
      rw [List.flatMap_cons, List.length_append, List.length_append, List.length_cons, Nat.add_mul, Nat.one_mul]
      omega
  have h5 := h2 LL h
  have h6 : LL.length * 10485762 ≤ 1000 * 10485762 := Nat.mul_le_mul_right _ hn
  omega

set_option maxHeartbeats 4000000 in
set_option maxRecDepth 100000 in
theorem awake_any (w : World) (hT : Tabs w) : Calls Tryz.prog 4 #[] w fun e w' => e = .returned (.bool true) ∧ Below w.heap.size w w' := by
  have hb0 := ((Below.refl w.heap.size w).alloc (Nat.le_refl _) (.cells #[st (exT.getD 0 []), st (exT.getD 1 [])] 9)).alloc (by simp) (.cells #[st (exX.getD 0 []), st (exX.getD 1 [])] 9)
  have hw0 : (w.alloc (.cells #[st (exT.getD 0 []), st (exT.getD 1 [])] 9)).heap[w.heap.size]? = _ := heap_alloc_new w _
  have hw1 : ((w.alloc (.cells #[st (exT.getD 0 []), st (exT.getD 1 [])] 9)).alloc (.cells #[st (exX.getD 0 []), st (exX.getD 1 [])] 9)).heap[w.heap.size]? = _ := (Below.heap_alloc _ _ _ (lt_of_heap hw0)).trans hw0
  have hw2 := heap_alloc_new (w.alloc (.cells #[st (exT.getD 0 []), st (exT.getD 1 [])] 9)) (.cells #[st (exX.getD 0 []), st (exX.getD 1 [])] 9)
  rw [World.size_alloc] at hw2
  have sl : ∀ (W : World) (g : Nat) (x y : Wd), W.heap[g]? = some (.cells #[st x, st y] 9 (0, 0)) → StrSl W (.slice (some ⟨g, 0, none⟩) 2 2) [x, y] := fun W g x y hg => ⟨_, 2, rfl, fun k hk => ⟨g, 0, rfl, by
    rcases (by simp at hk; omega : k = 0 ∨ k = 1) with rfl | rfl
    · rw [Lib.cell_of_heap hg]; rfl
    · rw [Lib.cell_of_heap hg]; rfl⟩⟩
  have HNEW := Lib.hid (new_any exT exX (some ⟨w.heap.size, 0, none⟩) (some ⟨w.heap.size + 1, 0, none⟩) 2 2 _ (hT.below hb0) rfl (by decide) (by intro x hx; have : exT.all (fun x => decide (x.length ≤ 1048576)) = true := (by kernel_rfl); simpa using List.all_eq_true.1 this x hx) (by intro x hx; have : exX.all (fun x => decide (x.length ≤ 1048576)) = true := (by kernel_rfl); simpa using List.all_eq_true.1 this x hx) (sl _ _ _ _ hw1) (sl _ _ _ _ hw2))
  have HB0 := Lib.hid hb0
  have HT := Lib.hid hT
  clear hb0 hw0 hw1 hw2 sl hT
  have HSE := Lib.hid (show ∀ b W, FinderIs W b (wordsLL exT exX) → Tabs W → Calls Tryz.prog 7 #[.pointer (some ⟨b, 0, none⟩), .string ⟨#[97, 112, 112, 108, 101, 115]⟩] W fun e w' => ∃ g c, e = .returned (.tuple #[.slice (some ⟨g, 0, none⟩) 2 c, .int .i64 0]) ∧
      (w'.cell? ⟨g, 0, none⟩ = some (.int .i64 0) ∧ w'.cell? ⟨g, 1, none⟩ = some (.int .i64 12) ∧ w'.cell? ⟨g, 2, none⟩ = some (.int .i64 0) ∧ w'.cell? ⟨g, 3, none⟩ = some (.int .i64 1) ∧ w'.cell? ⟨g, 4, none⟩ = some (.int .i64 1) ∧ w'.cell? ⟨g, 5, none⟩ = some (.int .i64 1)) ∧ Below W.heap.size W w' from fun b W hf ht => by
    refine (search_any _ b ⟨#[97, 112, 112, 108, 101, 115]⟩ W ht (by decide) hf ex_small (by decide)).mono ?_
    rintro e w' ⟨a, c, R, rfl, hto, _, hfn, hb⟩
    have hp : parseP (⟨#[97, 112, 112, 108, 101, 115]⟩ : ByteArray).data.toList = ([Find.one exQ], 0) := ex_parse
    rw [hp] at hto ⊢
    have hR := ex_told (hto rfl)
    subst hR
    obtain ⟨a', c', hv, hc⟩ := hfn
    simp only [Value.slice.injEq] at hv
    obtain ⟨rfl, _, rfl⟩ := hv
    obtain ⟨g, rfl, h0, h1, h2⟩ := hc 0 (by decide)
    obtain ⟨g', hg, h3, h4, h5⟩ := hc 1 (by decide)
    simp only [Option.some.injEq, Addr.mk.injEq] at hg
    obtain ⟨rfl, _⟩ := hg
    exact ⟨g, c, rfl, ⟨h0, h1, h2, h3, h4, h5⟩, hb⟩)
  have HPA := Lib.hid (show ∀ W, Tabs W → Calls Tryz.prog 13 #[.string ⟨#[45, 97]⟩] W fun e w' => ∃ a c, e = .returned (.tuple #[.slice a 0 c, .int .i64 230]) ∧ Below W.heap.size W w' from fun W ht => by
    refine (parse_any ⟨#[45, 97]⟩ W ht (by decide)).mono ?_
    rintro e w' ⟨v, rfl, hcl, hb⟩
    have hp : parseP (⟨#[45, 97]⟩ : ByteArray).data.toList = ([], 230) := ex_parse2
    rw [hp] at hcl ⊢
    obtain ⟨a, c, rfl, _⟩ := hcl
    exact ⟨a, c, rfl, hb⟩)
  have HCO := Lib.hid (show ∀ b W, FinderIs W b (wordsLL exT exX) → Tabs W → Calls Tryz.prog 10 #[.pointer (some ⟨b, 0, none⟩), .string ⟨#[65, 80, 80, 76, 69, 83]⟩] W fun e w' => e = .returned (.int .i64 2) ∧ Below W.heap.size W w' from fun b W hf ht => by
    have := count_any (wordsLL exT exX) b ⟨#[65, 80, 80, 76, 69, 83]⟩ W ht (by decide) hf (by decide) (spots_small ex_small (by decide))
    have hc : countW (wordsLL exT exX) (words (⟨#[65, 80, 80, 76, 69, 83]⟩ : ByteArray).data.toList) = 2 := ex_count
    rw [hc] at this
    exact this)
  have HBE := Lib.hid (show ∀ b W, FinderIs W b (wordsLL exT exX) → Tabs W → Calls Tryz.prog 11 #[.pointer (some ⟨b, 0, none⟩), .string ⟨#[114, 101]⟩] W fun e w' => ∃ a c, e = .returned (.slice a 1 c) ∧ Below W.heap.size W w' from fun b W hf ht => by
    refine (begin_any (wordsLL exT exX) b ⟨#[114, 101]⟩ W ht (by decide) hf ex_keys (keys_many ex_small (by decide))).mono ?_
    rintro e w' ⟨v, R, rfl, hn, hm, _, hsl, hb⟩
    have hs : Find.start (⟨#[114, 101]⟩ : ByteArray).data.toList = [114, 101] := ex_start
    rw [hs] at hm
    have hl := ex_begin hn hm
    obtain ⟨a, c, rfl, _⟩ := hsl
    rw [hl]
    exact ⟨a, c, rfl, hb⟩)
  have HWO := Lib.hid (show ∀ W, Tabs W → Calls Tryz.prog 14 #[.string ⟨#[97, 45, 98]⟩] W fun e w' => ∃ a c, e = .returned (.slice a 2 c) ∧ Below W.heap.size W w' from fun W ht => by
    refine (words_any ⟨#[97, 45, 98]⟩ W ht (by decide)).mono ?_
    rintro e w' ⟨v, rfl, hr, hb⟩
    obtain ⟨a, c, rfl⟩ := slice_form hr
    have hw : (words (⟨#[97, 45, 98]⟩ : ByteArray).data.toList).length = 2 := ex_words
    rw [hw]
    exact ⟨a, c, rfl, hb⟩)
  have hz4 : Tryz.prog.cellsOf 56 = 3 := by kernel_rfl
  go_enter Tryz.func4, Tryz.ntmps4
  go_wp2_with (first
    | (go_at_call 12; refine HNEW.out.mono ?_; rintro e w1 ⟨b, rfl, hf1, hb1⟩; have HF1 := Lib.hid hf1; have HB1 := Lib.hid (HB0.out.trans (hb1.mono HB0.out.size)); have HT1 := Lib.hid (HT.out.below HB1.out); clear hf1 hb1)
    | (go_at_call 7; refine (HSE.out _ _ HF1.out HT1.out).mono ?_; rintro e w2 ⟨g2, c2, rfl, ⟨m0, m1, m2, m3, m4, m5⟩, hb2⟩; have HB2 := Lib.hid (HB1.out.trans (hb2.mono HB1.out.size)); have HT2 := Lib.hid (HT.out.below HB2.out); have HF2 := Lib.hid (HF1.out.new hb2); clear hb2)
    | (go_at_call 13; refine (HPA.out _ HT2.out).mono ?_; rintro e w3 ⟨a3, c3, rfl, hb3⟩; have HB3 := Lib.hid (HB2.out.trans (hb3.mono HB2.out.size)); have HT3 := Lib.hid (HT.out.below HB3.out); have HF3 := Lib.hid (HF2.out.new hb3); clear hb3)
    | (go_at_call 10; refine (HCO.out _ _ HF3.out HT3.out).mono ?_; rintro e w4 ⟨rfl, hb4⟩; have HB4 := Lib.hid (HB3.out.trans (hb4.mono HB3.out.size)); have HT4 := Lib.hid (HT.out.below HB4.out); have HF4 := Lib.hid (HF3.out.new hb4); clear hb4)
    | (go_at_call 11; refine (HBE.out _ _ HF4.out HT4.out).mono ?_; rintro e w5 ⟨a5, c5, rfl, hb5⟩; have HB5 := Lib.hid (HB4.out.trans (hb5.mono HB4.out.size)); have HT5 := Lib.hid (HT.out.below HB5.out); clear hb5)
    | (go_at_call 14; refine (HWO.out _ HT5.out).mono ?_; rintro e w6 ⟨a6, c6, rfl, hb6⟩; have HB6 := Lib.hid (HB5.out.trans (hb6.mono HB5.out.size)); clear hb6))
  go_ret
  exact ⟨rfl, HB6.out⟩
end Go.Proofs.YthpbdeiphagkiaaGreatDoor
