/- Plain: small letters, bases, folds, searched words. -/
import Derived.Test.YthpbdeiphagkiaaGreatDoorChars
namespace Go.Proofs.YthpbdeiphagkiaaGreatDoor.Find
open Go

/-- The small letter of a character. -/
def small (r : Int) : Int :=
  if (65 ≤ r ∧ r ≤ 90) ∨ (192 ≤ r ∧ r ≤ 222 ∧ r ≠ 215) ∨ (913 ≤ r ∧ r ≤ 937 ∧ r ≠ 930) ∨ (1040 ≤ r ∧ r ≤ 1071) then r + 32
  else if 1024 ≤ r ∧ r ≤ 1039 then r + 80 else r

/-- The base of a small letter. -/
def baseS (r : Int) : List UInt8 :=
  if 224 ≤ r ∧ r ≤ 229 then [97]
  else if r = 230 then [97, 101]
  else if r = 231 then [99]
  else if 232 ≤ r ∧ r ≤ 235 then [101]
  else if 236 ≤ r ∧ r ≤ 239 then [105]
  else if r = 240 then [100]
  else if r = 241 then [110]
  else if (242 ≤ r ∧ r ≤ 246) ∨ r = 248 then [111]
  else if 249 ≤ r ∧ r ≤ 252 then [117]
  else if r = 253 ∨ r = 255 then [121]
  else if r = 254 then [116, 104]
  else if r = 223 then [115, 115]
  else Lib.encodeRune r
def base (r : Int) : List UInt8 := baseS (small r)

/-- What a character gives to a fold. -/
def foldCh (c : Ch) : List UInt8 := if badCh c then c.2 else Lib.encodeRune (small c.1)
def foldF (waits : Bool) (acc : List UInt8) : List Ch → List UInt8
  | [] => acc
  | c :: l => if c.1 = 32 then foldF (!acc.isEmpty) acc l else foldF false ((if waits then acc ++ [32] else acc) ++ foldCh c) l
def fold (s : List UInt8) : List UInt8 := foldF false [] (chars s)

def countsR (r : Int) : Bool := (48 ≤ r && r ≤ 57) || (97 ≤ r && r ≤ 122) || (192 ≤ r && r != 215 && r != 247)
def countsCh (c : Ch) : Bool := !badCh c && countsR c.1

abbrev Wd := List UInt8
def wordsF (acc : Wd) : List Ch → List Wd
  | [] => if acc.isEmpty then [] else [acc]
  | c :: l => if countsCh c then wordsF (acc ++ base c.1) l else if acc.isEmpty then wordsF [] l else acc :: wordsF [] l
def words (s : List UInt8) : List Wd := wordsF [] (chars (fold s))
/-- The beginning that is looked for. -/
def start (s : List UInt8) : List UInt8 := (chars (fold s)).flatMap fun c => base c.1

theorem small_small (r : Int) : small (small r) = small r := by
  unfold small; repeat' split
  all_goals omega
theorem small_valid {r : Int} (h : Utf8.valid r = true) : Utf8.valid (small r) = true := by
  rw [valid_iff] at *; unfold small; repeat' split
  all_goals omega
theorem small_nat (r : Nat) : ∃ k : Nat, small r = k := ⟨(small r).toNat, by unfold small; repeat' split <;> omega⟩

/-- A character that folds, small letters and bases leave as it is. -/
def Fixed (r : Nat) : Prop := Utf8.valid r = true ∧ r ≠ 32 ∧ small r = r ∧ base r = Lib.encodeRune r ∧ countsR r = true

theorem enc_ascii (r : Nat) (h : r < 128) : Lib.encodeRune r = [r.toUInt8] := by
  unfold Lib.encodeRune; rw [Lib.encodeRuneZ_one (by omega) (by omega)]; simp

theorem fixed_letter (r : Nat) (h : 97 ≤ r ∧ r ≤ 122) : Fixed r := by
  refine ⟨by rw [valid_iff]; omega, by omega, ?_, ?_, ?_⟩
  · unfold small; rw [if_neg (by omega), if_neg (by omega)]
  · have hs : small (r : Int) = r := by unfold small; rw [if_neg (by omega), if_neg (by omega)]
    unfold base; rw [hs]; unfold baseS
    repeat rw [if_neg (by omega)]
  · simp [countsR]; omega

theorem ite_ok {P : List UInt8 → Prop} {c : Prop} [Decidable c] {a b : List UInt8} (h1 : c → P a) (h2 : ¬ c → P b) : P (if c then a else b) := by
  by_cases h : c
  · rw [if_pos h]; exact h1 h
  · rw [if_neg h]; exact h2 h
/-- The base of a counted small letter is a row of fixed characters. -/
theorem base_fixed (r : Nat) (hv : Utf8.valid r = true) (hs : small r = r) (hc : countsR r = true) : ∃ rs : List Nat, rs ≠ [] ∧ (∀ x ∈ rs, Fixed x) ∧ base r = rs.flatMap fun (x : Nat) => Lib.encodeRune x := by
  have hc' : (48 ≤ r ∧ r ≤ 57) ∨ (97 ≤ r ∧ r ≤ 122) ∨ (192 ≤ r ∧ r ≠ 215 ∧ r ≠ 247) := by
    simp only [countsR, Bool.or_eq_true, Bool.and_eq_true, decide_eq_true_eq, bne_iff_ne] at hc; omega
  have one : ∀ k : Nat, 97 ≤ k ∧ k ≤ 122 → ∃ rs : List Nat, rs ≠ [] ∧ (∀ x ∈ rs, Fixed x) ∧ [k.toUInt8] = rs.flatMap fun (x : Nat) => Lib.encodeRune x := fun k hk =>
    ⟨[k], by simp, by simpa using fixed_letter k hk, by simp only [List.flatMap_cons, List.flatMap_nil, List.append_nil]; rw [enc_ascii k (by omega)]⟩
  have two : ∀ k j : Nat, 97 ≤ k ∧ k ≤ 122 → 97 ≤ j ∧ j ≤ 122 → ∃ rs : List Nat, rs ≠ [] ∧ (∀ x ∈ rs, Fixed x) ∧ [k.toUInt8, j.toUInt8] = rs.flatMap fun (x : Nat) => Lib.encodeRune x := fun k j hk hj =>
    ⟨[k, j], by simp, by simpa using ⟨fixed_letter k hk, fixed_letter j hj⟩, by simp only [List.flatMap_cons, List.flatMap_nil, List.append_nil]; rw [enc_ascii k (by omega), enc_ascii j (by omega)]; rfl⟩
  unfold base; rw [hs]
  by_cases hlow : 223 ≤ r ∧ r ≤ 255 ∧ r ≠ 247
  · unfold baseS
    refine ite_ok (P := fun l => ∃ rs : List Nat, rs ≠ [] ∧ (∀ x ∈ rs, Fixed x) ∧ l = rs.flatMap fun (x : Nat) => Lib.encodeRune x) (fun _ => one 97 (by omega)) fun n0 => ?_
    refine ite_ok (P := fun l => ∃ rs : List Nat, rs ≠ [] ∧ (∀ x ∈ rs, Fixed x) ∧ l = rs.flatMap fun (x : Nat) => Lib.encodeRune x) (fun _ => two 97 101 (by omega) (by omega)) fun n1 => ?_
    refine ite_ok (P := fun l => ∃ rs : List Nat, rs ≠ [] ∧ (∀ x ∈ rs, Fixed x) ∧ l = rs.flatMap fun (x : Nat) => Lib.encodeRune x) (fun _ => one 99 (by omega)) fun n2 => ?_
    refine ite_ok (P := fun l => ∃ rs : List Nat, rs ≠ [] ∧ (∀ x ∈ rs, Fixed x) ∧ l = rs.flatMap fun (x : Nat) => Lib.encodeRune x) (fun _ => one 101 (by omega)) fun n3 => ?_
    refine ite_ok (P := fun l => ∃ rs : List Nat, rs ≠ [] ∧ (∀ x ∈ rs, Fixed x) ∧ l = rs.flatMap fun (x : Nat) => Lib.encodeRune x) (fun _ => one 105 (by omega)) fun n4 => ?_
    refine ite_ok (P := fun l => ∃ rs : List Nat, rs ≠ [] ∧ (∀ x ∈ rs, Fixed x) ∧ l = rs.flatMap fun (x : Nat) => Lib.encodeRune x) (fun _ => one 100 (by omega)) fun n5 => ?_
    refine ite_ok (P := fun l => ∃ rs : List Nat, rs ≠ [] ∧ (∀ x ∈ rs, Fixed x) ∧ l = rs.flatMap fun (x : Nat) => Lib.encodeRune x) (fun _ => one 110 (by omega)) fun n6 => ?_
    refine ite_ok (P := fun l => ∃ rs : List Nat, rs ≠ [] ∧ (∀ x ∈ rs, Fixed x) ∧ l = rs.flatMap fun (x : Nat) => Lib.encodeRune x) (fun _ => one 111 (by omega)) fun n7 => ?_
    refine ite_ok (P := fun l => ∃ rs : List Nat, rs ≠ [] ∧ (∀ x ∈ rs, Fixed x) ∧ l = rs.flatMap fun (x : Nat) => Lib.encodeRune x) (fun _ => one 117 (by omega)) fun n8 => ?_
    refine ite_ok (P := fun l => ∃ rs : List Nat, rs ≠ [] ∧ (∀ x ∈ rs, Fixed x) ∧ l = rs.flatMap fun (x : Nat) => Lib.encodeRune x) (fun _ => one 121 (by omega)) fun n9 => ?_
    refine ite_ok (P := fun l => ∃ rs : List Nat, rs ≠ [] ∧ (∀ x ∈ rs, Fixed x) ∧ l = rs.flatMap fun (x : Nat) => Lib.encodeRune x) (fun _ => two 116 104 (by omega) (by omega)) fun n10 => ?_
    refine ite_ok (P := fun l => ∃ rs : List Nat, rs ≠ [] ∧ (∀ x ∈ rs, Fixed x) ∧ l = rs.flatMap fun (x : Nat) => Lib.encodeRune x) (fun _ => two 115 115 (by omega) (by omega)) fun n11 => ?_
    exfalso; omega
  · have hb : baseS (r : Int) = Lib.encodeRune r := by
      have : ¬ (192 ≤ r ∧ r ≤ 222) := by
        intro h
        unfold small at hs
        rw [if_pos (by omega)] at hs; omega
      unfold baseS
      repeat rw [if_neg (by omega)]
    rw [hb]
    refine ⟨[r], by simp, ?_, by simp⟩
    intro x hx
    obtain rfl : x = r := by simpa using hx
    exact ⟨hv, by omega, hs, by unfold base; rw [hs, hb], hc⟩

/-- Likewise of any counted character. -/
theorem base_fixed' (r : Nat) (hv : Utf8.valid r = true) (hc : countsR r = true) : ∃ rs : List Nat, rs ≠ [] ∧ (∀ x ∈ rs, Fixed x) ∧ base r = rs.flatMap fun (x : Nat) => Lib.encodeRune x := by
  obtain ⟨k, hk⟩ := small_nat r
  have h1 := small_valid hv
  have h2 := small_small r
  rw [hk] at h1 h2
  have hc' : (48 ≤ r ∧ r ≤ 57) ∨ (97 ≤ r ∧ r ≤ 122) ∨ (192 ≤ r ∧ r ≠ 215 ∧ r ≠ 247) := by
    simp only [countsR, Bool.or_eq_true, Bool.and_eq_true, decide_eq_true_eq, bne_iff_ne] at hc; omega
  have h3 : countsR k = true := by
    simp only [countsR, Bool.or_eq_true, Bool.and_eq_true, decide_eq_true_eq, bne_iff_ne]
    unfold small at hk
    split at hk
    · omega
    · split at hk <;> omega
  obtain ⟨rs, r1, r2, r3⟩ := base_fixed k h1 h2 h3
  refine ⟨rs, r1, r2, ?_⟩
  rw [← r3]; unfold base; rw [h2, hk]

/-- A word: fixed characters, at least one. -/
def IsWord (w : Wd) : Prop := ∃ rs : List Nat, rs ≠ [] ∧ (∀ x ∈ rs, Fixed x) ∧ w = rs.flatMap fun (x : Nat) => Lib.encodeRune x

theorem wordsF_word : ∀ (l : List Ch) (acc : Wd), (∀ c ∈ l, Utf8.valid c.1 = true) → (acc = [] ∨ IsWord acc) → ∀ w ∈ wordsF acc l, IsWord w
  | [], acc, _, ha, w, hw => by
    unfold wordsF at hw
    split at hw
    · simp at hw
    · rename_i h
      rcases ha with rfl | ha
      · simp at h
      · rw [List.mem_singleton.1 hw]; exact ha
  | c :: l, acc, hv, ha, w, hw => by
    unfold wordsF at hw
    split at hw
    · rename_i h
      refine wordsF_word l _ (fun x hx => hv x (by simp [hx])) (.inr ?_) w hw
      simp only [countsCh, Bool.and_eq_true] at h
      obtain ⟨rs, r1, r2, r3⟩ := base_fixed' c.1 (hv c (by simp)) h.2
      rcases ha with rfl | ⟨ss, s1, s2, rfl⟩
      · exact ⟨rs, r1, r2, by rw [r3]; rfl⟩
      · exact ⟨ss ++ rs, by simp [s1], fun x hx => (List.mem_append.1 hx).elim (s2 x) (r2 x), by rw [r3, List.flatMap_append]⟩
    · split at hw
      · exact wordsF_word l _ (fun x hx => hv x (by simp [hx])) (.inl rfl) w hw
      · rename_i h
        rcases List.mem_cons.1 hw with rfl | hw
        · rcases ha with rfl | ha
          · simp at h
          · exact ha
        · exact wordsF_word l _ (fun x hx => hv x (by simp [hx])) (.inl rfl) w hw

theorem chars_valid : ∀ (n : Nat) (l : List UInt8), l.length ≤ n → ∀ c ∈ chars l, Utf8.valid c.1 = true
  | 0, l, h => by
    have : l = [] := List.eq_nil_of_length_eq_zero (by omega)
    subst this; simp [chars_nil]
  | n + 1, l, h => by
    by_cases hl : l = []
    · subst hl; simp [chars_nil]
    · have := decL_pos l
      rw [chars_cons l hl]
      intro c hc
      rcases List.mem_cons.1 hc with rfl | hc
      · exact decL_valid l
      · exact chars_valid n _ (by simp; omega) c hc

/-- What is told of a text are words. -/
theorem words_word (s : List UInt8) : ∀ w ∈ words s, IsWord w := wordsF_word _ _ (chars_valid _ _ (Nat.le_refl _)) (.inl rfl)

theorem foldF_fixed : ∀ (rs : List Nat) (acc : List UInt8), (∀ x ∈ rs, Fixed x) → foldF false acc (rs.map fun (r : Nat) => (r, Lib.encodeRune r)) = acc ++ rs.flatMap fun (x : Nat) => Lib.encodeRune x
  | [], acc, _ => by simp [foldF]
  | r :: rs, acc, h => by
    obtain ⟨f1, f2, f3, f4, f5⟩ := h r (by simp)
    have hb : badCh (r, Lib.encodeRune r) = false := by
      unfold badCh
      rw [Bool.and_eq_false_iff]
      by_cases hr : r = 65533
      · right; subst hr; rfl
      · left; simpa using hr
    rw [List.map_cons]
    unfold foldF
    rw [if_neg f2, foldF_fixed rs _ (fun x hx => h x (by simp [hx]))]
    simp [foldCh, hb, f3, List.flatMap_cons]

theorem IsWord.fold {w : Wd} (h : IsWord w) : fold w = w := by
  obtain ⟨rs, _, h2, rfl⟩ := h
  unfold Find.fold
  rw [chars_encs rs (fun x hx => (h2 x hx).1), foldF_fixed rs _ h2, List.nil_append]

/-- A word begins with itself. -/
theorem IsWord.start {w : Wd} (h : IsWord w) : start w = w := by
  have hf := h.fold
  obtain ⟨rs, h1, h2, rfl⟩ := h
  clear h1
  unfold Find.start
  rw [hf, chars_encs rs (fun x hx => (h2 x hx).1)]
  clear hf
  induction rs with
  | nil => rfl
  | cons r rs ih =>
    rw [List.map_cons, List.flatMap_cons, List.flatMap_cons, ih (fun x hx => h2 x (by simp [hx])), (h2 r (by simp)).2.2.2.1]
end Go.Proofs.YthpbdeiphagkiaaGreatDoor.Find
