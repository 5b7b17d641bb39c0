/- Plain: the characters of a text, by the model's own decode, over lists of bytes. -/
import GoSem.Core.Utf8
import Derived.Lib.RuneBytes
namespace Go.Proofs.YthpbdeiphagkiaaGreatDoor.Find
open Go

/-- The first character of a text: its number, how many bytes. -/
def decL (l : List UInt8) : Nat × Nat :=
  let g (k : Nat) : Nat := (l.getD k 0).toNat
  let cont (k : Nat) : Bool := decide (k < l.length) && g k / 64 == 2
  let b0 := g 0
  if b0 < 0x80 then (b0, 1)
  else if b0 / 32 == 6 && cont 1 then
    let c := (b0 % 32) * 64 + g 1 % 64
    if c ≥ 0x80 then (c, 2) else (0xFFFD, 1)
  else if b0 / 16 == 14 && cont 1 && cont 2 then
    let c := (b0 % 16) * 4096 + (g 1 % 64) * 64 + g 2 % 64
    if c ≥ 0x800 && Utf8.valid c then (c, 3) else (0xFFFD, 1)
  else if b0 / 8 == 30 && cont 1 && cont 2 && cont 3 then
    let c := (b0 % 8) * 262144 + (g 1 % 64) * 4096 + (g 2 % 64) * 64 + g 3 % 64
    if c ≥ 0x10000 && Utf8.valid c then (c, 4) else (0xFFFD, 1)
  else (0xFFFD, 1)

theorem get_drop (s : ByteArray) (i k : Nat) : s.get! (i + k) = (s.data.toList.drop i).getD k 0 := by
  show s.data[i + k]! = _
  rw [List.getD_eq_getElem?_getD, List.getElem?_drop, getElem!_def]
  by_cases h : i + k < s.data.size
  · rw [Array.getElem?_eq_getElem h, List.getElem?_eq_getElem (by simpa using h)]; simp
  · rw [Array.getElem?_eq_none (by omega), List.getElem?_eq_none (by rw [Array.length_toList]; omega)]; rfl

theorem decode_eq (s : ByteArray) (i : Nat) : Utf8.decode s i = decL (s.data.toList.drop i) := by
  unfold Utf8.decode decL
  have hc : ∀ k, decide (i + k < s.size) = decide (k < (s.data.toList.drop i).length) := fun k => by
    have h1 : s.size = s.data.toList.length := by show s.data.size = _; simp
    rw [decide_eq_decide, List.length_drop, h1]; omega
  simp only [get_drop, hc, Utf8.runeError]

abbrev Ch := Nat × List UInt8
def charsF : Nat → List UInt8 → List Ch
  | 0, _ => []
  | f + 1, l => if l = [] then [] else ((decL l).1, l.take (decL l).2) :: charsF f (l.drop (decL l).2)
def chars (l : List UInt8) : List Ch := charsF l.length l

theorem decL_pos (l : List UInt8) : 1 ≤ (decL l).2 := by
  unfold decL
  simp only
  repeat' split
  all_goals simp

theorem decL_len (l : List UInt8) (h : l ≠ []) : (decL l).2 ≤ l.length := by
  have h0 : 0 < l.length := List.length_pos_iff.2 h
  unfold decL
  simp only [Bool.and_eq_true, decide_eq_true_eq]
  repeat' split
  all_goals first | omega | (simp only; omega)

theorem decL_small (l : List UInt8) (h : (decL l).1 < 128) : (decL l).2 = 1 := by
  unfold decL at *
  simp only at *
  split at h
  · rename_i c; rw [if_pos c]
  · rename_i c; rw [if_neg c]
    split at h
    · rename_i c; rw [if_pos c]
      split at h
      · rename_i c; simp only at h; omega
      · simp only at h; omega
    · rename_i c; rw [if_neg c]
      split at h
      · rename_i c; rw [if_pos c]
        split at h
        · rename_i c; simp only [Bool.and_eq_true, decide_eq_true_eq] at c h; omega
        · simp only at h; omega
      · rename_i c; rw [if_neg c]
        split at h
        · rename_i c; rw [if_pos c]
          split at h
          · rename_i c; simp only [Bool.and_eq_true, decide_eq_true_eq] at c h; omega
          · simp only at h; omega
        · simp only at h; omega

theorem charsF_more : ∀ (f g : Nat) (l : List UInt8), l.length ≤ f → f ≤ g → charsF g l = charsF f l
  | 0, g, l, h, _ => by
    have : l = [] := List.eq_nil_of_length_eq_zero (by omega)
    subst this
    cases g <;> simp [charsF]
  | f + 1, 0, l, h, h' => by omega
  | f + 1, g + 1, l, h, h' => by
    by_cases hl : l = []
    · simp [charsF, hl]
    · have := decL_pos l
      have hd : (l.drop (decL l).2).length ≤ f := by simp; omega
      simp only [charsF, if_neg hl]
      rw [charsF_more f g _ hd (by omega)]

theorem chars_nil : chars [] = [] := rfl
theorem chars_cons (l : List UInt8) (h : l ≠ []) : chars l = ((decL l).1, l.take (decL l).2) :: chars (l.drop (decL l).2) := by
  obtain ⟨n, hn⟩ : ∃ n, l.length = n + 1 := ⟨l.length - 1, by have := List.length_pos_iff.2 h; omega⟩
  have hp := decL_pos l
  unfold chars
  rw [hn]
  simp only [charsF, if_neg h]
  rw [charsF_more (l.drop (decL l).2).length n _ (Nat.le_refl _) (by simp; omega)]

/-- A character that is no good byte. -/
def badCh (c : Ch) : Bool := c.1 == 0xFFFD && c.2.length == 1

theorem chars_flat : ∀ (n : Nat) (l : List UInt8), l.length ≤ n → (chars l).flatMap (·.2) = l
  | 0, l, h => by
    have : l = [] := List.eq_nil_of_length_eq_zero (by omega)
    subst this; rfl
  | n + 1, l, h => by
    by_cases hl : l = []
    · subst hl; rfl
    · have := decL_pos l
      rw [chars_cons l hl, List.flatMap_cons, chars_flat n _ (by simp; omega), List.take_append_drop]

theorem valid_iff (r : Int) : Utf8.valid r = true ↔ (0 ≤ r ∧ r < 55296) ∨ (57344 ≤ r ∧ r ≤ 1114111) := by
  simp [Utf8.valid]

theorem decL_valid (l : List UInt8) : Utf8.valid (decL l).1 = true := by
  have hb : ∀ k, (l.getD k 0).toNat < 256 := fun k => UInt8.toNat_lt _
  have h0 := hb 0
  have h1 := hb 1
  unfold decL
  generalize (l.getD 0 0).toNat = a at *
  generalize (l.getD 1 0).toNat = b at *
  simp only [Bool.and_eq_true, decide_eq_true_eq]
  split
  · simp only [valid_iff]; omega
  split
  · split
    · simp only [valid_iff]; omega
    · rfl
  split
  · split
    · rename_i h; exact h.2
    · rfl
  split
  · split
    · rename_i h; exact h.2
    · rfl
  · rfl

theorem toU8 {x : Int} (h0 : 0 ≤ x) (h1 : x < 256) : (x.toNat.toUInt8).toNat = x.toNat := by
  rw [Nat.toUInt8, UInt8.toNat_ofNat']; omega

theorem decL_enc (r : Nat) (h : Utf8.valid r = true) (l : List UInt8) : decL (Lib.encodeRune r ++ l) = (r, (Lib.encodeRune r).length) := by
  rw [valid_iff] at h
  by_cases h1 : r < 128
  · have e : Lib.encodeRune r = [((r : Int).toNat.toUInt8)] := by
      unfold Lib.encodeRune; rw [Lib.encodeRuneZ_one (by omega) (by omega)]; rfl
    rw [e]
    have hx : (((r : Int).toNat.toUInt8)).toNat = r := by rw [toU8 (by omega) (by omega)]; omega
    simp only [decL, List.cons_append, List.getD_cons_zero, hx, if_pos h1, List.length_singleton]
  by_cases h2 : r < 2048
  · have e : Lib.encodeRune r = [((192 + (r : Int) / 64).toNat.toUInt8), ((128 + (r : Int) % 64).toNat.toUInt8)] := by
      unfold Lib.encodeRune; rw [Lib.encodeRuneZ_two (by omega) (by omega)]; rfl
    rw [e]
    have x0 : ((192 + (r : Int) / 64).toNat.toUInt8).toNat = 192 + r / 64 := by rw [toU8 (by omega) (by omega)]; omega
    have x1 : ((128 + (r : Int) % 64).toNat.toUInt8).toNat = 128 + r % 64 := by rw [toU8 (by omega) (by omega)]; omega
    simp only [decL, List.cons_append, List.nil_append, List.getD_cons_zero, List.getD_cons_succ, x0, x1, List.length_cons, List.length_nil]
    rw [if_neg (by omega), if_pos (by simp; omega), if_pos (by omega)]
    congr 1; omega
  by_cases h3 : r < 65536
  · have e : Lib.encodeRune r = [((224 + (r : Int) / 4096).toNat.toUInt8), ((128 + (r : Int) / 64 % 64).toNat.toUInt8), ((128 + (r : Int) % 64).toNat.toUInt8)] := by
      unfold Lib.encodeRune; rw [Lib.encodeRuneZ_three (by omega)]; rfl
    rw [e]
    have x0 : ((224 + (r : Int) / 4096).toNat.toUInt8).toNat = 224 + r / 4096 := by rw [toU8 (by omega) (by omega)]; omega
    have x1 : ((128 + (r : Int) / 64 % 64).toNat.toUInt8).toNat = 128 + r / 64 % 64 := by rw [toU8 (by omega) (by omega)]; omega
    have x2 : ((128 + (r : Int) % 64).toNat.toUInt8).toNat = 128 + r % 64 := by rw [toU8 (by omega) (by omega)]; omega
    simp only [decL, List.cons_append, List.nil_append, List.getD_cons_zero, List.getD_cons_succ, x0, x1, x2, List.length_cons, List.length_nil]
    have hc : (224 + r / 4096) % 16 * 4096 + (128 + r / 64 % 64) % 64 * 64 + (128 + r % 64) % 64 = r := by omega
    rw [if_neg (by omega), if_neg (by simp; omega), if_pos (by simp; omega), hc, if_pos (by simp [valid_iff]; omega)]
  · have e : Lib.encodeRune r = [((240 + (r : Int) / 262144).toNat.toUInt8), ((128 + (r : Int) / 4096 % 64).toNat.toUInt8), ((128 + (r : Int) / 64 % 64).toNat.toUInt8), ((128 + (r : Int) % 64).toNat.toUInt8)] := by
      unfold Lib.encodeRune; rw [Lib.encodeRuneZ_four (by omega) (by omega)]; rfl
    rw [e]
    have x0 : ((240 + (r : Int) / 262144).toNat.toUInt8).toNat = 240 + r / 262144 := by rw [toU8 (by omega) (by omega)]; omega
    have x1 : ((128 + (r : Int) / 4096 % 64).toNat.toUInt8).toNat = 128 + r / 4096 % 64 := by rw [toU8 (by omega) (by omega)]; omega
    have x2 : ((128 + (r : Int) / 64 % 64).toNat.toUInt8).toNat = 128 + r / 64 % 64 := by rw [toU8 (by omega) (by omega)]; omega
    have x3 : ((128 + (r : Int) % 64).toNat.toUInt8).toNat = 128 + r % 64 := by rw [toU8 (by omega) (by omega)]; omega
    simp only [decL, List.cons_append, List.nil_append, List.getD_cons_zero, List.getD_cons_succ, x0, x1, x2, x3, List.length_cons, List.length_nil]
    have hc : (240 + r / 262144) % 8 * 262144 + (128 + r / 4096 % 64) % 64 * 4096 + (128 + r / 64 % 64) % 64 * 64 + (128 + r % 64) % 64 = r := by omega
    rw [if_neg (by omega), if_neg (by simp; omega), if_neg (by simp; omega), if_pos (by simp; omega), hc, if_pos (by simp [valid_iff]; omega)]

theorem u8eq (n : Nat) (z : Int) (h : z.toNat = n) : UInt8.ofNat n = z.toNat.toUInt8 := by rw [h]; try rfl
/-- The model's own encoding of a character is the kit's. -/
theorem encode_eq (r : Int) : Utf8.encode r = ⟨(Lib.encodeRune r).toArray⟩ := by
  have key : ∀ c : Nat, Utf8.valid c = true → (if c < 0x80 then (⟨#[UInt8.ofNat c]⟩ : ByteArray) else if c < 0x800 then ⟨#[UInt8.ofNat (0xC0 + c / 64), UInt8.ofNat (0x80 + c % 64)]⟩
      else if c < 0x10000 then ⟨#[UInt8.ofNat (0xE0 + c / 4096), UInt8.ofNat (0x80 + c / 64 % 64), UInt8.ofNat (0x80 + c % 64)]⟩
      else ⟨#[UInt8.ofNat (0xF0 + c / 262144), UInt8.ofNat (0x80 + c / 4096 % 64), UInt8.ofNat (0x80 + c / 64 % 64), UInt8.ofNat (0x80 + c % 64)]⟩) = ⟨(Lib.encodeRune (c : Int)).toArray⟩ := by
    intro c hc
    rw [valid_iff] at hc
    by_cases h1 : c < 128
    · rw [if_pos h1, Lib.encodeRune, Lib.encodeRuneZ_one (by omega) (by omega), u8eq c (c : Int) (by omega)]; rfl
    rw [if_neg h1]
    by_cases h2 : c < 2048
    · rw [if_pos h2, Lib.encodeRune, Lib.encodeRuneZ_two (by omega) (by omega), u8eq _ (192 + (c : Int) / 64) (by omega), u8eq _ (128 + (c : Int) % 64) (by omega)]; rfl
    rw [if_neg h2]
    by_cases h3 : c < 65536
    · rw [if_pos h3, Lib.encodeRune, Lib.encodeRuneZ_three (by omega), u8eq _ (224 + (c : Int) / 4096) (by omega), u8eq _ (128 + (c : Int) / 64 % 64) (by omega), u8eq _ (128 + (c : Int) % 64) (by omega)]; rfl
    · rw [if_neg h3, Lib.encodeRune, Lib.encodeRuneZ_four (by omega) (by omega), u8eq _ (240 + (c : Int) / 262144) (by omega), u8eq _ (128 + (c : Int) / 4096 % 64) (by omega), u8eq _ (128 + (c : Int) / 64 % 64) (by omega), u8eq _ (128 + (c : Int) % 64) (by omega)]; rfl
  by_cases hv : Utf8.valid r = true
  · have h0 : 0 ≤ r := by rw [valid_iff] at hv; omega
    obtain ⟨n, rfl⟩ := Int.eq_ofNat_of_zero_le h0
    have := key n hv
    unfold Utf8.encode
    rw [if_pos hv]
    exact this
  · have h := key 65533 rfl
    unfold Utf8.encode
    rw [if_neg hv]
    refine Eq.trans h ?_
    rw [valid_iff] at hv
    congr 2
    unfold Lib.encodeRune
    rw [Lib.encodeRuneZ_bad (r := r) (by omega)]
    rfl

theorem enc_pos (r : Int) : 1 ≤ (Lib.encodeRune r).length := by
  have := Lib.runeCells_le r; rw [Lib.runeCells_length] at this; exact this.1

/-- A good character ahead of a text is its first. -/
theorem chars_enc (r : Nat) (h : Utf8.valid r = true) (l : List UInt8) : chars (Lib.encodeRune r ++ l) = (r, Lib.encodeRune r) :: chars l := by
  have h1 := enc_pos r
  have hne : Lib.encodeRune r ++ l ≠ [] := by
    intro e; rw [List.append_eq_nil_iff] at e; rw [e.1] at h1; simp at h1
  rw [chars_cons _ hne, decL_enc r h]
  simp

theorem chars_encs : ∀ (rs : List Nat), (∀ r ∈ rs, Utf8.valid r = true) → chars (rs.flatMap fun (r : Nat) => Lib.encodeRune r) = rs.map fun (r : Nat) => (r, Lib.encodeRune r)
  | [], _ => rfl
  | r :: rs, h => by
    rw [List.flatMap_cons, chars_enc r (h r (by simp)), chars_encs rs (fun x hx => h x (by simp [hx])), List.map_cons]
end Go.Proofs.YthpbdeiphagkiaaGreatDoor.Find
