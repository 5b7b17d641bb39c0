/- (*find.Finder).Search; find.New where there is none; awake. -/
import Derived.Test.YthpbdeiphagkiaaDoorAwakeF
namespace Go.Proofs.YthpbdeiphagkiaaDoor
open Go.RowKit Find

theorem parseF_len : ∀ (f : Nat) (s : Wd), (parseF f s).length ≤ s.length ∧ ∀ c ∈ parseF f s, c.words.length ≤ 5 * s.length + 1
  | 0, s => by simp [parseF]
  | _ + 1, [] => by simp [parseF]
  | f + 1, c :: s => by
    unfold parseF
    by_cases hc : c = 32
    · rw [if_pos hc]
      have ih := parseF_len f s
      exact ⟨by rw [List.length_cons]; omega, fun x hx => by have := ih.2 x hx; rw [List.length_cons]; omega⟩
    · rw [if_neg hc]
      have hl := clauseF_len (c :: s) (by simp) (by simp [hc])
      have hw := clauseF_words (c :: s)
      have ih := parseF_len f (clauseF (c :: s)).2
      split
      · exact ⟨by omega, fun x hx => by have := ih.2 x hx; omega⟩
      · refine ⟨by rw [List.length_cons]; omega, fun x hx => ?_⟩
        rcases List.mem_cons.1 hx with rfl | hx
        · exact hw
        · have := ih.2 x hx; omega
theorem parseP_len (s : Wd) : (parseP s).1.length ≤ 500 ∧ ∀ c ∈ (parseP s).1, c.words.length ≤ 2501 := by
  unfold parseP
  split
  · simp
  · rename_i hl
    split
    · simp
    · split
      · simp
      · have := parseF_len s.length s
        exact ⟨by simp only; omega, fun c hc => by have := this.2 c hc; omega⟩
theorem parseP_code (s : Wd) : (parseP s).2 = 0 ∨ (parseP s).2 = 2 ∨ (parseP s).2 = 230 := by
  unfold parseP
  split
  · right; left; rfl
  · split
    · right; right; rfl
    · split
      · right; right; rfl
      · left; rfl

/-- What Search tells. -/
def SearchPost (LL : Lists) (s : Wd) (w : World) (e : Ending) (w' : World) : Prop :=
  ∃ a c R, e = .returned (.tuple #[.slice a R.length c, .int .i64 (parseP s).2]) ∧ ((parseP s).2 = 0 → Find.Told LL (parseP s).1 R) ∧ ((parseP s).2 ≠ 0 → R = []) ∧ FndSl w' (.slice a R.length c) R ∧ Below w.heap.size w w'
set_option maxHeartbeats 4000000 in
theorem search_any (LL : Lists) (b : Nat) (s : ByteArray) (w : World) (hT : Tabs w) (hs : s.size ≤ 1099511627776) (hf : FinderIs w b LL) (hN : ∀ p ∈ LL, p.1.length ≤ 5242881 ∧ p.2.length ≤ 5242881) (hLn : LL.length ≤ 1000) :
    Calls Tryd.prog 21 #[.pointer (some ⟨b, 0, none⟩), .string s] w (SearchPost LL s.data.toList w) := by
  have hp := parse_any s w hT hs
  unfold ParsePost at hp
  have hlen := parseP_len s.data.toList
  unfold SearchPost
  obtain ⟨cs, hcs⟩ : ∃ l, l = (parseP s.data.toList).1 := ⟨_, rfl⟩
  obtain ⟨code, hcode⟩ : ∃ l, l = (parseP s.data.toList).2 := ⟨_, rfl⟩
  have hcd := parseP_code s.data.toList
  rw [← hcs, ← hcode] at hp ⊢
  rw [← hcode] at hcd
  rw [← hcs] at hlen
  clear hcs hcode
  have HP := Lib.hid hp
  have HF := Lib.hid hf
  have HN := Lib.hid hN
  have HL := Lib.hid hlen
  clear hp hf hT hN hlen
  by_cases h0 : code = 0
  · subst h0
    go_enter Tryd.func21, Tryd.ntmps21
    go_wp2_with (first | (go_at_call 22; refine HP.out.mono ?_; rintro e w1 ⟨v, rfl, ⟨av, cv, rfl, hcl⟩, hb1⟩; have HA := Lib.hid (ask_any LL cs b av cv w1 (HF.out.new hb1) ⟨av, cv, rfl, hcl⟩ (by have := HL.out.1; omega) HN.out (fun c hc => by have := HL.out.2 c hc; omega) hLn); have HB1 := Lib.hid hb1; clear hcl hb1) | (go_at_call 14; refine HA.out.mono ?_; rintro e w2 ⟨v2, R, rfl, hto, hfn, hb2⟩; have HTO := Lib.hid hto; have HFN := Lib.hid hfn; have HB2 := Lib.hid hb2; clear hto hfn hb2))
    go_ret2
    obtain ⟨a, c, hv, _⟩ := HFN.out
    subst hv
    exact ⟨a, c, R, rfl, fun _ => HTO.out, fun h => absurd rfl h, HFN.out, HB1.out.trans (HB2.out.mono HB1.out.size)⟩
  · have hc0 : (code != 0) = true := by simpa using h0
    have H0 := Lib.hid h0
    clear h0
    go_enter Tryd.func21, Tryd.ntmps21
    go_wp2_with (go_at_call 22; refine HP.out.mono ?_; rintro e w1 ⟨v, rfl, _, hb1⟩)
    go_ret2
    exact ⟨none, 0, [], rfl, fun h => absurd h H0.out, fun _ => rfl, ⟨none, 0, rfl, fun k hk => absurd hk (Nat.not_lt_zero _)⟩, hb1⟩

set_option maxHeartbeats 2000000 in
set_option maxRecDepth 100000 in
/-- New: numbers that differ, or more topics than there may be: none, and an error. -/
theorem new_bad (at_ ax : Option Addr) (n m ct cx : Nat) (w : World) (hn : n ≤ 1099511627776) (hm : m ≤ 1099511627776) (h : n ≠ m ∨ 1000 < n) :
    Calls Tryd.prog 8 #[.slice at_ n ct, .slice ax m cx] w fun e w' => ∃ code : Int, e = .returned (.tuple #[.pointer none, .int .i64 code]) ∧ code ≠ 0 ∧ Below w.heap.size w w' := by
  by_cases hnm : n = m
  · subst hnm
    have hb : ((n : Int) != (n : Int)) = false := by simp
    have hb2 : (n != n) = false := by simp
    have hlong : (1000 : Int) < (n : Int) := by omega
    clear h
    go_enter Tryd.func8, Tryd.ntmps8
    go_wp2
    go_ret2
    exact ⟨_, rfl, by decide, Below.refl _ _⟩
  · have hb : ((n : Int) != (m : Int)) = true := by rw [bne_iff_ne]; omega
    have hb2 : (n != m) = true := by rw [bne_iff_ne]; exact hnm
    clear h hnm
    go_enter Tryd.func8, Tryd.ntmps8
    go_wp2
    go_ret2
    exact ⟨_, rfl, by decide, Below.refl _ _⟩
end Go.Proofs.YthpbdeiphagkiaaDoor
