/- Plain: a row as a function; pieces of it; moving one element; the parts of a merge in place. -/
import Derived.Test.YthpbdeiphagkiaaGreatDoorAsks
namespace Go.Proofs.YthpbdeiphagkiaaGreatDoor.Find

abbrev RowF := Nat → Fnd
def seg (f : RowF) (a b : Nat) : List Fnd := (List.range' a (b - a)).map f
theorem seg_nil (f : RowF) {a b : Nat} (h : b ≤ a) : seg f a b = [] := by unfold seg; rw [show b - a = 0 by omega]; rfl
theorem seg_app (f : RowF) {a m b : Nat} (h1 : a ≤ m) (h2 : m ≤ b) : seg f a m ++ seg f m b = seg f a b := by
  unfold seg
  rw [← List.map_append, show b - a = (m - a) + (b - m) by omega, ← List.range'_append_1, show a + (m - a) = m by omega]
theorem seg_one (f : RowF) (a : Nat) : seg f a (a + 1) = [f a] := by unfold seg; rw [show a + 1 - a = 1 by omega]; rfl
theorem seg_len (f : RowF) (a b : Nat) : (seg f a b).length = b - a := by simp [seg]
theorem mem_seg {f : RowF} {a b : Nat} {x : Fnd} : x ∈ seg f a b ↔ ∃ k, a ≤ k ∧ k < b ∧ f k = x := by
  simp only [seg, List.mem_map, List.mem_range'_1]
  constructor
  · rintro ⟨k, ⟨h1, h2⟩, h3⟩; exact ⟨k, h1, by omega, h3⟩
  · rintro ⟨k, h1, h2, h3⟩; exact ⟨k, ⟨h1, by omega⟩, h3⟩
theorem seg_shift {f f' : RowF} {a a' n : Nat} (h : ∀ i, i < n → f' (a' + i) = f (a + i)) : seg f' a' (a' + n) = seg f a (a + n) := by
  unfold seg
  rw [show a' + n - a' = n by omega, show a + n - a = n by omega]
  apply List.ext_getElem
  · simp
  · intro i h1 h2
    simp only [List.getElem_map, List.getElem_range', Nat.one_mul]
    exact h i (by simpa using h1)
theorem seg_congr {f f' : RowF} {a b : Nat} (h : ∀ k, a ≤ k → k < b → f' k = f k) : seg f' a b = seg f a b := by
  by_cases hab : a ≤ b
  · have := seg_shift (f := f) (f' := f') (a := a) (a' := a) (n := b - a) fun i hi => h _ (by omega) (by omega)
    rwa [show a + (b - a) = b by omega] at this
  · rw [seg_nil f (by omega), seg_nil f' (by omega)]
theorem seg_getElem (f : RowF) (a b i : Nat) (h : i < (seg f a b).length) : (seg f a b)[i] = f (a + i) := by
  simp [seg]
theorem eq_of_seg {f f' : RowF} {a b : Nat} (h : seg f' a b = seg f a b) {k : Nat} (h1 : a ≤ k) (h2 : k < b) : f' k = f k := by
  have l : k - a < (seg f a b).length := by rw [seg_len]; omega
  have l' : k - a < (seg f' a b).length := by rw [seg_len]; omega
  have e1 := seg_getElem f a b (k - a) l
  have e2 := seg_getElem f' a b (k - a) l'
  rw [show a + (k - a) = k by omega] at e1 e2
  rw [← e1, ← e2]
  exact getElem_congr h rfl _

/-- A piece in order. -/
def Srt (f : RowF) (a b : Nat) : Prop := (seg f a b).Pairwise Ahead
theorem srt_iff {f : RowF} {a b : Nat} : Srt f a b ↔ ∀ i j, a ≤ i → i < j → j < b → Ahead (f i) (f j) := by
  unfold Srt
  rw [List.pairwise_iff_getElem]
  simp only [seg_getElem, seg_len]
  constructor
  · intro h i j h1 h2 h3
    have := h (i - a) (j - a) (by omega) (by omega) (by omega)
    rwa [show a + (i - a) = i by omega, show a + (j - a) = j by omega] at this
  · intro h i j h1 h2 h3
    exact h _ _ (by omega) (by omega) (by omega)
theorem Srt.part {f : RowF} {a b c d : Nat} (h : Srt f a b) (h1 : a ≤ c) (h2 : d ≤ b) : Srt f c d := by
  rw [srt_iff] at h ⊢
  exact fun i j h3 h4 h5 => h i j (by omega) h4 (by omega)
theorem Srt.score {f : RowF} {a b : Nat} (h : Srt f a b) {i j : Nat} (h1 : a ≤ i) (h2 : i ≤ j) (h3 : j < b) : (f j).score ≤ (f i).score := by
  rcases Nat.eq_or_lt_of_le h2 with e | e
  · rw [e]; exact Int.le_refl _
  · have := srt_iff.1 h i j h1 e h3
    unfold Ahead at this; omega

/-- The same outside a piece. -/
def Out (f f' : RowF) (a b : Nat) : Prop := ∀ k, k < a ∨ b ≤ k → f' k = f k
theorem Out.trans {f f' f'' : RowF} {a b : Nat} (h : Out f f' a b) (h' : Out f' f'' a b) : Out f f'' a b := fun k hk => (h' k hk).trans (h k hk)
theorem Out.wide {f f' : RowF} {a b c d : Nat} (h : Out f f' a b) (h1 : c ≤ a) (h2 : b ≤ d) : Out f f' c d := fun k hk => h k (by omega)
theorem Out.refl (f : RowF) (a b : Nat) : Out f f a b := fun _ _ => rfl

/-- What swaps of two pieces leave. -/
def swapF (f : RowF) (a b n : Nat) : RowF := fun k => if a ≤ k ∧ k < a + n then f (b + (k - a)) else if b ≤ k ∧ k < b + n then f (a + (k - b)) else f k
theorem swapF_zero (f : RowF) (a b : Nat) : swapF f a b 0 = f := by
  funext k; unfold swapF; rw [if_neg (by omega), if_neg (by omega)]
def setF (f : RowF) (k : Nat) (x : Fnd) : RowF := fun i => if i = k then x else f i
theorem swapF_succ (f : RowF) {a b n : Nat} (h : a + n < b) : setF (setF (swapF f a b n) (a + n) (swapF f a b n (b + n))) (b + n) (swapF f a b n (a + n)) = swapF f a b (n + 1) := by
  have e1 : swapF f a b n (b + n) = f (b + n) := by unfold swapF; rw [if_neg (by omega), if_neg (by omega)]
  have e2 : swapF f a b n (a + n) = f (a + n) := by unfold swapF; rw [if_neg (by omega), if_neg (by omega)]
  rw [e1, e2]
  funext k
  unfold setF
  by_cases h1 : k = b + n
  · rw [if_pos h1]; unfold swapF; rw [if_neg (by omega), if_pos (by omega)]; congr 1; omega
  · rw [if_neg h1]
    by_cases h2 : k = a + n
    · rw [if_pos h2]; unfold swapF; rw [if_pos (by omega)]; congr 1; omega
    · rw [if_neg h2]; unfold swapF
      by_cases h3 : a ≤ k ∧ k < a + n
      · rw [if_pos h3, if_pos (show a ≤ k ∧ k < a + (n + 1) by omega)]
      · rw [if_neg h3, if_neg (show ¬ (a ≤ k ∧ k < a + (n + 1)) by omega)]
        by_cases h4 : b ≤ k ∧ k < b + n
        · rw [if_pos h4, if_pos (show b ≤ k ∧ k < b + (n + 1) by omega)]
        · rw [if_neg h4, if_neg (show ¬ (b ≤ k ∧ k < b + (n + 1)) by omega)]
theorem swapF_out (f : RowF) (a b n k : Nat) (h1 : ¬ (a ≤ k ∧ k < a + n)) (h2 : ¬ (b ≤ k ∧ k < b + n)) : swapF f a b n k = f k := by unfold swapF; rw [if_neg h1, if_neg h2]
theorem swapF_a (f : RowF) (a b n i : Nat) (h : i < n) : swapF f a b n (a + i) = f (b + i) := by unfold swapF; rw [if_pos (by omega)]; congr 1; omega
theorem swapF_b (f : RowF) (a b n i : Nat) (h : i < n) (hab : a + n ≤ b) : swapF f a b n (b + i) = f (a + i) := by unfold swapF; rw [if_neg (by omega), if_pos (by omega)]; congr 1; omega

/-- An element moved: to the left, to the right. -/
def mvL (s : RowF) (p q : Nat) : RowF := fun k => if k = q then s p else if q < k ∧ k ≤ p then s (k - 1) else s k
def mvR (s : RowF) (p q : Nat) : RowF := fun k => if k = q then s p else if p ≤ k ∧ k < q then s (k + 1) else s k
theorem mvL_self (s : RowF) (p : Nat) : mvL s p p = s := by
  funext k; unfold mvL; by_cases h : k = p
  · rw [if_pos h, h]
  · rw [if_neg h, if_neg (by omega)]
theorem mvR_self (s : RowF) (p : Nat) : mvR s p p = s := by
  funext k; unfold mvR; by_cases h : k = p
  · rw [if_pos h, h]
  · rw [if_neg h, if_neg (by omega)]
theorem mvL_step (s : RowF) {p q : Nat} (h : q < p) : setF (setF (mvL s p (q + 1)) (q + 1) (mvL s p (q + 1) q)) q (mvL s p (q + 1) (q + 1)) = mvL s p q := by
  have e1 : mvL s p (q + 1) (q + 1) = s p := by unfold mvL; rw [if_pos rfl]
  have e2 : mvL s p (q + 1) q = s q := by unfold mvL; rw [if_neg (by omega), if_neg (by omega)]
  rw [e1, e2]
  funext k; unfold setF mvL
  by_cases h1 : k = q
  · rw [if_pos h1, if_pos h1]
  · rw [if_neg h1, if_neg h1]
    by_cases h2 : k = q + 1
    · rw [if_pos h2, if_pos (by omega)]; congr 1; omega
    · rw [if_neg h2, if_neg h2]
      by_cases h3 : q + 1 < k ∧ k ≤ p
      · rw [if_pos h3, if_pos (by omega)]
      · rw [if_neg h3, if_neg (by omega)]
theorem mvR_step (s : RowF) {p q : Nat} (h : p ≤ q) : setF (setF (mvR s p q) q (mvR s p q (q + 1))) (q + 1) (mvR s p q q) = mvR s p (q + 1) := by
  have e1 : mvR s p q q = s p := by unfold mvR; rw [if_pos rfl]
  have e2 : mvR s p q (q + 1) = s (q + 1) := by unfold mvR; rw [if_neg (by omega), if_neg (by omega)]
  rw [e1, e2]
  funext k; unfold setF mvR
  by_cases h1 : k = q + 1
  · rw [if_pos h1, if_pos h1]
  · rw [if_neg h1, if_neg h1]
    by_cases h2 : k = q
    · rw [if_pos h2, if_pos (by omega), h2]
    · rw [if_neg h2, if_neg h2]
      by_cases h3 : p ≤ k ∧ k < q
      · rw [if_pos h3, if_pos (by omega)]
      · rw [if_neg h3, if_neg (by omega)]
theorem mvL_seg (s : RowF) {a p q b : Nat} (h1 : a ≤ q) (h2 : q ≤ p) (h3 : p < b) : seg (mvL s p q) a b = seg s a q ++ (s p :: (seg s q p ++ seg s (p + 1) b)) := by
  rw [← seg_app (mvL s p q) h1 (show q ≤ b by omega), ← seg_app (mvL s p q) (show q ≤ q + 1 by omega) (show q + 1 ≤ b by omega), ← seg_app (mvL s p q) (show q + 1 ≤ p + 1 by omega) (show p + 1 ≤ b by omega), seg_one]
  have e1 : seg (mvL s p q) a q = seg s a q := seg_congr fun k _ hk => by unfold mvL; rw [if_neg (by omega), if_neg (by omega)]
  have e2 : mvL s p q q = s p := by unfold mvL; rw [if_pos rfl]
  have e3 : seg (mvL s p q) (q + 1) (p + 1) = seg s q p := by
    have := seg_shift (f := s) (f' := mvL s p q) (a := q) (a' := q + 1) (n := p - q) fun i hi => by
      unfold mvL; rw [if_neg (by omega), if_pos (by omega)]; congr 1; omega
    rwa [show q + 1 + (p - q) = p + 1 by omega, show q + (p - q) = p by omega] at this
  have e4 : seg (mvL s p q) (p + 1) b = seg s (p + 1) b := seg_congr fun k hk _ => by unfold mvL; rw [if_neg (by omega), if_neg (by omega)]
  rw [e1, e2, e3, e4]; rfl
theorem mvR_seg (s : RowF) {a p q b : Nat} (h1 : a ≤ p) (h2 : p ≤ q) (h3 : q < b) : seg (mvR s p q) a b = seg s a p ++ (seg s (p + 1) (q + 1) ++ (s p :: seg s (q + 1) b)) := by
  rw [← seg_app (mvR s p q) h1 (show p ≤ b by omega), ← seg_app (mvR s p q) h2 (show q ≤ b by omega), ← seg_app (mvR s p q) (show q ≤ q + 1 by omega) (show q + 1 ≤ b by omega), seg_one]
  have e1 : seg (mvR s p q) a p = seg s a p := seg_congr fun k _ hk => by unfold mvR; rw [if_neg (by omega), if_neg (by omega)]
  have e2 : mvR s p q q = s p := by unfold mvR; rw [if_pos rfl]
  have e3 : seg (mvR s p q) p q = seg s (p + 1) (q + 1) := by
    have := seg_shift (f := s) (f' := mvR s p q) (a := p + 1) (a' := p) (n := q - p) fun i hi => by
      unfold mvR; rw [if_neg (by omega), if_pos (by omega)]; congr 1; omega
    rwa [show p + (q - p) = q by omega, show p + 1 + (q - p) = q + 1 by omega] at this
  have e4 : seg (mvR s p q) (q + 1) b = seg s (q + 1) b := seg_congr fun k hk _ => by unfold mvR; rw [if_neg (by omega), if_neg (by omega)]
  rw [e1, e2, e3, e4]; rfl
theorem mvL_perm (s : RowF) {a p q b : Nat} (h1 : a ≤ q) (h2 : q ≤ p) (h3 : p < b) : (seg (mvL s p q) a b).Perm (seg s a b) := by
  rw [mvL_seg s h1 h2 h3, ← seg_app s h1 (show q ≤ b by omega), ← seg_app s h2 (show p ≤ b by omega), ← seg_app s (show p ≤ p + 1 by omega) (show p + 1 ≤ b by omega), seg_one]
  refine List.Perm.append_left _ ?_
  rw [List.singleton_append]
  exact List.perm_middle.symm
theorem mvR_perm (s : RowF) {a p q b : Nat} (h1 : a ≤ p) (h2 : p ≤ q) (h3 : q < b) : (seg (mvR s p q) a b).Perm (seg s a b) := by
  rw [mvR_seg s h1 h2 h3, ← seg_app s h1 (show p ≤ b by omega), ← seg_app s (show p ≤ p + 1 by omega) (show p + 1 ≤ b by omega), ← seg_app s (show p + 1 ≤ q + 1 by omega) (show q + 1 ≤ b by omega), seg_one]
  refine List.Perm.append_left _ ?_
  rw [List.singleton_append]
  exact List.perm_middle
theorem mvL_out (s : RowF) {a p q b : Nat} (h1 : a ≤ q) (h2 : p < b) (h3 : q ≤ p) : Out s (mvL s p q) a b := fun k hk => by
  unfold mvL; rw [if_neg (by omega), if_neg (by omega)]
theorem mvR_out (s : RowF) {a p q b : Nat} (h1 : a ≤ p) (h2 : q < b) (h3 : p ≤ q) : Out s (mvR s p q) a b := fun k hk => by
  unfold mvR; rw [if_neg (by omega), if_neg (by omega)]

/-- All topics of the first piece lie below all of the second. -/
def Low (f : RowF) (a m b : Nat) : Prop := ∀ x ∈ seg f a m, ∀ y ∈ seg f m b, x.topic < y.topic
/-- One element put into its place, from behind. -/
theorem mvL_srt {s : RowF} {a p q : Nat} (h1 : a ≤ q) (h2 : q ≤ p) (hs : Srt s a p) (hlow : ∀ k, a ≤ k → k < p → (s k).topic < (s p).topic) (hR : ∀ k, q ≤ k → k < p → (s k).score < (s p).score) (hL : ∀ k, a ≤ k → k < q → (s p).score ≤ (s k).score) : Srt (mvL s p q) a (p + 1) := by
  unfold Srt
  rw [mvL_seg s h1 h2 (Nat.lt_succ_self p), seg_nil s (Nat.le_refl (p + 1)), List.append_nil]
  have hs' : (seg s a q ++ seg s q p).Pairwise Ahead := by rw [seg_app s h1 h2]; exact hs
  obtain ⟨g1, g2, g3⟩ := List.pairwise_append.1 hs'
  refine List.pairwise_append.2 ⟨g1, List.pairwise_cons.2 ⟨fun y hy => ?_, g2⟩, fun x hx y hy => ?_⟩
  · obtain ⟨k, k1, k2, rfl⟩ := mem_seg.1 hy
    exact .inl (hR k k1 k2)
  · obtain ⟨k, k1, k2, rfl⟩ := mem_seg.1 hx
    rcases List.mem_cons.1 hy with rfl | hy
    · have t1 := hL k k1 k2
      have t2 := hlow k k1 (by omega)
      unfold Ahead; omega
    · exact g3 _ hx _ hy
/-- .. from before. -/
theorem mvR_srt {s : RowF} {p q b : Nat} (h2 : p ≤ q) (h3 : q < b) (hs : Srt s (p + 1) b) (hlow : ∀ k, p < k → k < b → (s p).topic < (s k).topic) (hL : ∀ k, p < k → k ≤ q → (s p).score < (s k).score) (hR : ∀ k, q < k → k < b → (s k).score ≤ (s p).score) : Srt (mvR s p q) p b := by
  unfold Srt
  rw [mvR_seg s (Nat.le_refl p) h2 h3, seg_nil s (Nat.le_refl p), List.nil_append]
  have hs' : (seg s (p + 1) (q + 1) ++ seg s (q + 1) b).Pairwise Ahead := by rw [seg_app s (by omega) (by omega)]; exact hs
  obtain ⟨g1, g2, g3⟩ := List.pairwise_append.1 hs'
  refine List.pairwise_append.2 ⟨g1, List.pairwise_cons.2 ⟨fun y hy => ?_, g2⟩, fun x hx y hy => ?_⟩
  · obtain ⟨k, k1, k2, rfl⟩ := mem_seg.1 hy
    have t1 := hR k (by omega) k2
    have t2 := hlow k (by omega) k2
    unfold Ahead; omega
  · obtain ⟨k, k1, k2, rfl⟩ := mem_seg.1 hx
    rcases List.mem_cons.1 hy with rfl | hy
    · exact .inl (hL k (by omega) (by omega))
    · exact g3 _ hx _ hy

/-- What a merge in place leaves. -/
structure Merged (f f' : RowF) (a b : Nat) : Prop where
  srt : Srt f' a b
  perm : (seg f' a b).Perm (seg f a b)
  out : Out f f' a b
theorem Merged.low {f f' : RowF} {a b c : Nat} (h : Merged f f' a b) : (∀ x, x ∈ seg f' a b ↔ x ∈ seg f a b) := fun x => h.perm.mem_iff

/-- The parting of a merge: where the ends decide. -/
theorem merge_join {f f1 f2 f3 : RowF} {a s m e mid b : Nat} (h0 : a ≤ s) (h1 : s ≤ m) (h2 : m ≤ e) (h3 : e ≤ b) (hmid : mid + m = s + e) (sA : Srt f a m) (sB : Srt f m b)
    (e1 : a < s → e < b → Ahead (f (s - 1)) (f e)) (e2 : m < e → s < m → Ahead (f (e - 1)) (f s))
    (hrot : seg f1 s e = seg f m e ++ seg f s m) (ho1 : Out f f1 s e)
    (hX : Merged f1 f2 a mid) (hY : Merged f2 f3 mid b) : Merged f f3 a b := by
  have hm1 : s ≤ mid := by omega
  have hm2 : mid ≤ e := by omega
  -- the pieces behind the turn
  have q0 : seg f1 s mid ++ seg f1 mid e = seg f m e ++ seg f s m := by rw [seg_app f1 hm1 hm2, hrot]
  obtain ⟨q1, q2⟩ := List.append_inj q0 (by rw [seg_len, seg_len]; omega)
  have pa : seg f1 a mid = seg f a s ++ seg f m e := by
    rw [← seg_app f1 h0 hm1, q1]; congr 1; exact seg_congr fun k _ hk => ho1 k (by omega)
  have pb : seg f1 mid b = seg f s m ++ seg f e b := by
    rw [← seg_app f1 hm2 h3, q2]; congr 1; exact seg_congr fun k hk _ => ho1 k (by omega)
  have yb : seg f2 mid b = seg f1 mid b := seg_congr fun k hk _ => hX.out k (by omega)
  have ya : seg f3 a mid = seg f2 a mid := seg_congr fun k _ hk => hY.out k (by omega)
  have hA : (seg f a s ++ seg f s m).Pairwise Ahead := by rw [seg_app f h0 h1]; exact sA
  have hB : (seg f m e ++ seg f e b).Pairwise Ahead := by rw [seg_app f h2 h3]; exact sB
  have last : ∀ {f : RowF} {a b : Nat} {x : Fnd}, x ∈ (seg f a b).getLast? → a < b ∧ x = f (b - 1) := fun {f a b x} hx => by
    by_cases hab : a < b
    · refine ⟨hab, ?_⟩
      rw [show seg f a b = seg f a (b - 1) ++ [f (b - 1)] by rw [← seg_one f (b - 1), show b - 1 + 1 = b by omega, seg_app f (by omega) (by omega)], List.getLast?_concat] at hx
      simpa using hx.symm
    · rw [seg_nil f (by omega)] at hx; cases hx
  have hd : ∀ {f : RowF} {a b : Nat} {x : Fnd}, x ∈ (seg f a b).head? → a < b ∧ x = f a := fun {f a b x} hx => by
    by_cases hab : a < b
    · refine ⟨hab, ?_⟩
      rw [← seg_app f (show a ≤ a + 1 by omega) (show a + 1 ≤ b by omega), seg_one] at hx
      simpa using hx.symm
    · rw [seg_nil f (by omega)] at hx; cases hx
  obtain ⟨r1, r2⟩ := merge_parts (T := Ahead) (fun {x y z} => Ahead.trans) (X := seg f3 a mid) (Y := seg f3 mid b) hA hB
    (fun x hx y hy => by
      obtain ⟨hx1, rfl⟩ := last hx
      obtain ⟨hy1, rfl⟩ := hd hy
      exact e1 hx1 hy1)
    (fun x hx y hy => by
      obtain ⟨hx1, rfl⟩ := last hx
      obtain ⟨hy1, rfl⟩ := hd hy
      exact e2 hx1 hy1)
    (by rw [ya, ← pa]; exact hX.perm) (by rw [← pb, ← yb]; exact hY.perm) (by rw [ya]; exact hX.srt) hY.srt
  rw [seg_app f3 (show a ≤ mid by omega) (show mid ≤ b by omega)] at r1 r2
  rw [seg_app f h0 h1, seg_app f h2 h3, seg_app f (show a ≤ m by omega) (show m ≤ b by omega)] at r2
  exact ⟨r1, r2, ((ho1.wide h0 h3).trans (hX.out.wide (Nat.le_refl _) (by omega))).trans (hY.out.wide (by omega) (Nat.le_refl _))⟩
end Go.Proofs.YthpbdeiphagkiaaGreatDoor.Find
