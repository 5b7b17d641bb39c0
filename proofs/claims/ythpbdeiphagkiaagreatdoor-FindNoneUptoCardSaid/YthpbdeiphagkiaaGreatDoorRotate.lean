/- slices.rotateCmpFunc. -/
import Derived.Test.YthpbdeiphagkiaaGreatDoorRowF
namespace Go.Proofs.YthpbdeiphagkiaaGreatDoor
open Go.RowKit Find

/-- Where a turn of two pieces stands: what is behind it, before it, and what is left to turn. -/
structure RotSt (f0 f : RowF) (a m b i j : Nat) : Prop where
  hi : 0 < i
  hj : 0 < j
  him : i ≤ m - a
  hjm : j ≤ b - m
  row : seg f a (m - i) ++ (seg f m (m + j) ++ seg f (m - i) m) ++ seg f (m + j) b = seg f0 m b ++ seg f0 a m
  out : Out f0 f a b
theorem swap_seg_a (f : RowF) (a b n : Nat) : seg (swapF f a b n) a (a + n) = seg f b (b + n) := seg_shift fun i hi => swapF_a f a b n i hi
theorem swap_seg_b (f : RowF) (a b n : Nat) (hab : a + n ≤ b) : seg (swapF f a b n) b (b + n) = seg f a (a + n) := seg_shift fun i hi => swapF_b f a b n i hi hab
theorem swap_seg_o (f : RowF) (a b n c d : Nat) (h : ∀ k, c ≤ k → k < d → ¬ (a ≤ k ∧ k < a + n) ∧ ¬ (b ≤ k ∧ k < b + n)) : seg (swapF f a b n) c d = seg f c d := seg_congr fun k h1 h2 => swapF_out f a b n k (h k h1 h2).1 (h k h1 h2).2
theorem RotSt.start (f : RowF) {a m b : Nat} (h1 : a < m) (h2 : m < b) : RotSt f f a m b (m - a) (b - m) :=
  ⟨by omega, by omega, Nat.le_refl _, Nat.le_refl _, by
    rw [show m - (m - a) = a by omega, show m + (b - m) = b by omega, seg_nil f (Nat.le_refl a), seg_nil f (Nat.le_refl b), List.nil_append, List.append_nil], Out.refl _ _ _⟩
theorem RotSt.big {f0 f : RowF} {a m b i j : Nat} (h : RotSt f0 f a m b i j) (hij : j < i) (ham : a < m) (hmb : m < b) : RotSt f0 (swapF f (m - i) m j) a m b (i - j) j := by
  obtain ⟨hi, hj, him, hjm, hs, ho⟩ := h
  refine ⟨by omega, hj, by omega, hjm, ?_, ho.trans fun k hk => swapF_out _ _ _ _ _ (by omega) (by omega)⟩
  rw [← hs]
  have e1 : seg (swapF f (m - i) m j) m (m + j) = seg f (m - i) (m - i + j) := swap_seg_b f _ _ _ (by omega)
  have e2 : seg (swapF f (m - i) m j) (m - i) (m - i + j) = seg f m (m + j) := swap_seg_a f _ _ _
  have e3 : seg (swapF f (m - i) m j) a (m - i) = seg f a (m - i) := swap_seg_o f _ _ _ _ _ fun k h1 h2 => by omega
  have e4 : seg (swapF f (m - i) m j) (m - i + j) m = seg f (m - i + j) m := swap_seg_o f _ _ _ _ _ fun k h1 h2 => by omega
  have e5 : seg (swapF f (m - i) m j) (m + j) b = seg f (m + j) b := swap_seg_o f _ _ _ _ _ fun k h1 h2 => by omega
  rw [show m - (i - j) = m - i + j by omega, ← seg_app (swapF f (m - i) m j) (show a ≤ m - i by omega) (show m - i ≤ m - i + j by omega), e1, e2, e3, e4, e5, ← seg_app f (show m - i ≤ m - i + j by omega) (show m - i + j ≤ m by omega)]
  simp only [List.append_assoc]
theorem RotSt.small {f0 f : RowF} {a m b i j : Nat} (h : RotSt f0 f a m b i j) (hij : i < j) (ham : a < m) (hmb : m < b) : RotSt f0 (swapF f (m - i) (m + j - i) i) a m b i (j - i) := by
  obtain ⟨hi, hj, him, hjm, hs, ho⟩ := h
  refine ⟨hi, by omega, him, by omega, ?_, ho.trans fun k hk => swapF_out _ _ _ _ _ (by omega) (by omega)⟩
  rw [← hs]
  have e1 : seg (swapF f (m - i) (m + j - i) i) (m + j - i) (m + j) = seg f (m - i) m := by
    have := swap_seg_b f (m - i) (m + j - i) i (by omega)
    rwa [show m + j - i + i = m + j by omega, show m - i + i = m by omega] at this
  have e2 : seg (swapF f (m - i) (m + j - i) i) (m - i) m = seg f (m + j - i) (m + j) := by
    have := swap_seg_a f (m - i) (m + j - i) i
    rwa [show m + j - i + i = m + j by omega, show m - i + i = m by omega] at this
  have e3 : seg (swapF f (m - i) (m + j - i) i) a (m - i) = seg f a (m - i) := swap_seg_o f _ _ _ _ _ fun k h1 h2 => by omega
  have e4 : seg (swapF f (m - i) (m + j - i) i) m (m + j - i) = seg f m (m + j - i) := swap_seg_o f _ _ _ _ _ fun k h1 h2 => by omega
  have e5 : seg (swapF f (m - i) (m + j - i) i) (m + j) b = seg f (m + j) b := swap_seg_o f _ _ _ _ _ fun k h1 h2 => by omega
  rw [show m + (j - i) = m + j - i by omega, ← seg_app (swapF f (m - i) (m + j - i) i) (show m + j - i ≤ m + j by omega) (show m + j ≤ b by omega), e1, e2, e3, e4, e5, ← seg_app f (show m ≤ m + j - i by omega) (show m + j - i ≤ m + j by omega)]
  simp only [List.append_assoc]
theorem RotSt.last {f0 f : RowF} {a m b i : Nat} (h : RotSt f0 f a m b i i) (ham : a < m) (hmb : m < b) : seg (swapF f (m - i) m i) a b = seg f0 m b ++ seg f0 a m ∧ Out f0 (swapF f (m - i) m i) a b := by
  obtain ⟨hi, hj, him, hjm, hs, ho⟩ := h
  refine ⟨?_, ho.trans fun k hk => swapF_out _ _ _ _ _ (by omega) (by omega)⟩
  rw [← hs]
  have e1 : seg (swapF f (m - i) m i) m (m + i) = seg f (m - i) m := by
    have := swap_seg_b f (m - i) m i (by omega)
    rwa [show m - i + i = m by omega] at this
  have e2 : seg (swapF f (m - i) m i) (m - i) m = seg f m (m + i) := by
    have := swap_seg_a f (m - i) m i
    rwa [show m - i + i = m by omega] at this
  have e3 : seg (swapF f (m - i) m i) a (m - i) = seg f a (m - i) := swap_seg_o f _ _ _ _ _ fun k h1 h2 => by omega
  have e5 : seg (swapF f (m - i) m i) (m + i) b = seg f (m + i) b := swap_seg_o f _ _ _ _ _ fun k h1 h2 => by omega
  rw [← seg_app (swapF f (m - i) m i) (show a ≤ m - i by omega) (show m - i ≤ b by omega), ← seg_app (swapF f (m - i) m i) (show m - i ≤ m by omega) (show m ≤ b by omega), ← seg_app (swapF f (m - i) m i) (show m ≤ m + i by omega) (show m + i ≤ b by omega), e1, e2, e3, e5]
  simp only [List.append_assoc]

set_option maxHeartbeats 4000000 in
set_option maxRecDepth 100000 in
theorem rotate_any (f : RowF) (g n cap a m b : Nat) (cv : Value) (w : World) (h : FR w g n f) (ham : a < m) (hmb : m < b) (hb : b ≤ n) (hn : n ≤ 1099511627776) :
    Calls Tryz.prog 94 #[.slice (some ⟨g, 0, none⟩) n cap, .int .i64 a, .int .i64 m, .int .i64 b, cv] w fun e w' => e = .returned (.tuple #[]) ∧ ∃ f', FR w' g n f' ∧ seg f' a b = seg f m b ++ seg f a m ∧ Out f f' a b ∧ Below g w w' := by
  have H := Lib.hid h
  clear h
  go_enter Tryz.func94, Tryz.ntmps94
  go_wp2
  go_loopw [10, 11] (fun p q wr => ∃ (i j : Nat) (fr : RowF), p = .int .i64 i ∧ q = .int .i64 j ∧ RotSt f fr a m b i j ∧ FR wr g n fr ∧ Below g w wr) (fun p q _ => (intOf p).toNat + (intOf q).toNat)
  case atStart => exact ⟨m - a, b - m, f, by go_num, by go_num, RotSt.start f ham hmb, H.out, Below.refl _ _⟩
  case round =>
    obtain ⟨i, j, fr, rfl, rfl, hs, hf, hbw⟩ := hrel
    have h1 := hs.hi
    have h2 := hs.hj
    have h3 := hs.him
    have h4 := hs.hjm
    have HF := Lib.hid hf
    have HB := Lib.hid hbw
    have HS := Lib.hid hs
    clear hf hbw hs
    rcases Nat.lt_trichotomy i j with hij | hij | hij
    · have hne : ((i : Int) != (j : Int)) = true := by simp; omega
      have hc := Lib.hid (swap_any fr g n cap (m - i) (m + j - i) i cv wr HF.out (by omega) (by omega) hn)
      rw [show ((m - i : Nat) : Int) = (m : Int) - (i : Int) by omega, show ((m + j - i : Nat) : Int) = (m : Int) + (j : Int) - (i : Int) by omega] at hc
      go_wp2_with (go_at_call 108; refine hc.out.mono ?_; rintro e w1 ⟨rfl, hf1, hb1⟩)
      go_roundw
      case rel => exact ⟨i, j - i, _, rfl, by go_num, HS.out.small hij ham hmb, hf1, HB.out.trans hb1⟩
      case measure => simp [intOf] <;> omega
    · subst hij
      have hne : ((i : Int) != (i : Int)) = false := by simp
      have hc := Lib.hid (swap_any fr g n cap (m - i) m i cv wr HF.out (by omega) (by omega) hn)
      rw [show ((m - i : Nat) : Int) = (m : Int) - (i : Int) by omega] at hc
      go_wp2_with (go_at_call 108; refine hc.out.mono ?_; rintro e w1 ⟨rfl, hf1, hb1⟩)
      go_end0
      exact ⟨rfl, _, hf1, (HS.out.last ham hmb).1, (HS.out.last ham hmb).2, HB.out.trans hb1⟩
    · have hne : ((i : Int) != (j : Int)) = true := by simp; omega
      have hc := Lib.hid (swap_any fr g n cap (m - i) m j cv wr HF.out (by omega) (by omega) hn)
      rw [show ((m - i : Nat) : Int) = (m : Int) - (i : Int) by omega] at hc
      go_wp2_with (go_at_call 108; refine hc.out.mono ?_; rintro e w1 ⟨rfl, hf1, hb1⟩)
      go_roundw
      case rel => exact ⟨i - j, j, _, by go_num, rfl, HS.out.big hij ham hmb, hf1, HB.out.trans hb1⟩
      case measure => simp [intOf] <;> omega
end Go.Proofs.YthpbdeiphagkiaaGreatDoor
