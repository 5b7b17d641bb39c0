/- slices.symMergeCmpFunc whole, slices.stableCmpFunc, slices.SortStableFunc. -/
import Derived.Test.YthpbdeiphagkiaaGreatDoorSymMain
namespace Go.Proofs.YthpbdeiphagkiaaGreatDoor
open Go.RowKit Find

theorem sym_any (g n cap : Nat) (hn : n ≤ 1099511627776) : ∀ (D : Nat) (f : RowF) (a m b : Nat) (w : World), b - a < D → a < m → m < b → b ≤ n → FR w g n f → ScOk f n → Srt f a m → Srt f m b → (∀ i j, a ≤ i → i < m → m ≤ j → j < b → (f i).topic < (f j).topic) →
      Calls Tryz.prog 71 #[.slice (some ⟨g, 0, none⟩) n cap, .int .i64 a, .int .i64 m, .int .i64 b, .func (.func 25) #[] #[]] w fun e w' => e = .returned (.tuple #[]) ∧ ∃ f', FR w' g n f' ∧ Merged f f' a b ∧ Below g w w'
  | 0, f, a, m, b, w, hd, _, _, _, _, _, _, _, _ => absurd hd (by omega)
  | D + 1, f, a, m, b, w, hd, ham, hmb, hb, hf, hs, sA, sB, hl => by
    by_cases h1 : m = a + 1
    · exact sym_one f g n cap a m b w hf ham hmb hb hn hs sA sB hl h1
    · by_cases h2 : b = m + 1
      · exact sym_last f g n cap a m b w hf ham hmb hb hn hs sA sB hl h1 h2
      · exact sym_main f g n cap a m b w hf ham hmb hb hn hs sA sB hl h1 h2 fun f' a' m' b' w' hd' => sym_any g n cap hn D f' a' m' b' w' (by omega)
/-- Blocks from a place on: each in order, each of the elements that stood there. -/
inductive Chain (f0 f : RowF) (bs n : Nat) : Nat → Prop
  | fin (a : Nat) (h : n ≤ a) : Chain f0 f bs n a
  | blk (a : Nat) (h : a < n) (p : (seg f a (min (a + bs) n)).Perm (seg f0 a (min (a + bs) n))) (s : Srt f a (min (a + bs) n)) (r : Chain f0 f bs n (a + bs)) : Chain f0 f bs n a
/-- Blocks up to a place. -/
inductive Pre (f0 f : RowF) (bs n : Nat) : Nat → Prop
  | zero : Pre f0 f bs n 0
  | more (a : Nat) (h : a + bs ≤ n) (hp : 0 < bs) (p : (seg f a (a + bs)).Perm (seg f0 a (a + bs))) (s : Srt f a (a + bs)) (r : Pre f0 f bs n a) : Pre f0 f bs n (a + bs)
theorem Chain.congr {f0 f f' : RowF} {bs n a : Nat} (h : Chain f0 f bs n a) (e : ∀ k, a ≤ k → f' k = f k) : Chain f0 f' bs n a := by
  induction h with
  | fin a h => exact .fin a h
  | blk a h p s r ih => exact .blk a h (by rw [seg_congr fun k k1 _ => e k k1]; exact p) (srt_congr s fun k k1 _ => e k k1) (ih fun k k1 => e k (by omega))
theorem Pre.congr {f0 f f' : RowF} {bs n a : Nat} (h : Pre f0 f bs n a) (e : ∀ k, k < a → f' k = f k) : Pre f0 f' bs n a := by
  induction h with
  | zero => exact .zero
  | more a h hp p s r ih => exact .more a h hp (by rw [seg_congr fun k _ k2 => e k k2]; exact p) (srt_congr s fun k _ k2 => e k k2) (ih fun k k1 => e k (by omega))
theorem Pre.chain {f0 f : RowF} {bs n a : Nat} (h : Pre f0 f bs n a) (c : Chain f0 f bs n a) : Chain f0 f bs n 0 := by
  induction h with
  | zero => exact c
  | more a h hp p s r ih =>
    refine ih (.blk a (by omega) ?_ ?_ c)
    · rw [Nat.min_eq_left h]; exact p
    · rw [Nat.min_eq_left h]; exact s
theorem Chain.first {f0 f : RowF} {bs n a : Nat} (h : Chain f0 f bs n a) (ha : a < n) : (seg f a (min (a + bs) n)).Perm (seg f0 a (min (a + bs) n)) ∧ Srt f a (min (a + bs) n) ∧ Chain f0 f bs n (a + bs) := by
  cases h with
  | fin _ h => omega
  | blk _ h p s r => exact ⟨p, s, r⟩
/-- Two blocks that follow each other. -/
theorem low_of {f0 f : RowF} {a m b n : Nat} (ht : Tup f0 0 n) (hb : b ≤ n) (p1 : (seg f a m).Perm (seg f0 a m)) (p2 : (seg f m b).Perm (seg f0 m b)) : ∀ i j, a ≤ i → i < m → m ≤ j → j < b → (f i).topic < (f j).topic := by
  intro i j i1 i2 j1 j2
  obtain ⟨k, k1, k2, k3⟩ := mem_seg.1 (p1.mem_iff.1 (mem_seg.2 ⟨i, i1, i2, rfl⟩))
  obtain ⟨l, l1, l2, l3⟩ := mem_seg.1 (p2.mem_iff.1 (mem_seg.2 ⟨j, j1, j2, rfl⟩))
  rw [← k3, ← l3]
  exact ht k l (Nat.zero_le _) (by omega) (by omega)
theorem perm_two {f0 f f' : RowF} {a m b : Nat} (h1 : a ≤ m) (h2 : m ≤ b) (p1 : (seg f a m).Perm (seg f0 a m)) (p2 : (seg f m b).Perm (seg f0 m b)) (h : Merged f f' a b) : (seg f' a b).Perm (seg f0 a b) := by
  refine h.perm.trans ?_
  rw [← seg_app f h1 h2, ← seg_app f0 h1 h2]
  exact p1.append p2

set_option maxHeartbeats 8000000 in
set_option maxRecDepth 100000 in
theorem stable_any (f : RowF) (g n cap : Nat) (w : World) (h : FR w g n f) (hn : n ≤ 1099511627776) (hs : ScOk f n) (ht : Tup f 0 n) :
    Calls Tryz.prog 44 #[.slice (some ⟨g, 0, none⟩) n cap, .int .i64 n, .func (.func 25) #[] #[]] w fun e w' => e = .returned (.tuple #[]) ∧ ∃ f', FR w' g n f' ∧ Srt f' 0 n ∧ (seg f' 0 n).Perm (seg f 0 n) ∧ Below g w w' := by
  have H := Lib.hid h
  have HSC := Lib.hid hs
  have HTU := Lib.hid ht
  clear h hs ht
  go_enter Tryz.func44, Tryz.ntmps44
  go_wp2
  go_loopw [7, 8] (fun p q wr => ∃ (a : Nat) (fr : RowF), p = .int .i64 a ∧ q = .int .i64 ((a : Int) + 20) ∧ a ≤ n ∧ FR wr g n fr ∧ Pre f fr 20 n a ∧ (∀ k, a ≤ k → fr k = f k) ∧ ScOk fr n ∧ Below g w wr) (fun p _ _ => n - (intOf p).toNat)
  case atStart => exact ⟨0, f, rfl, rfl, Nat.zero_le _, H.out, .zero, fun _ _ => rfl, HSC.out, Below.refl _ _⟩
  case round =>
    obtain ⟨a, fr, rfl, rfl, ha, hf, hp, hsame, hsc, hbw⟩ := hrel
    have HF := Lib.hid hf
    have HP := Lib.hid hp
    have HSA := Lib.hid hsame
    have HSR := Lib.hid hsc
    have HB := Lib.hid hbw
    clear hf hp hsame hsc hbw
    by_cases hlt : a + 20 ≤ n
    · have hlz : (a : Int) + 20 ≤ (n : Int) := by omega
      have hc := Lib.hid (insert_any fr g n cap a (a + 20) wr HF.out (by omega) hlt hn HSR.out (fun i j h1 h2 h3 => by rw [HSA.out i h1, HSA.out j (by omega)]; exact HTU.out i j (Nat.zero_le _) h2 (by omega)))
      rw [show ((a + 20 : Nat) : Int) = (a : Int) + 20 by omega] at hc
      go_wp2_with (go_at_call 70; refine hc.out.mono ?_; rintro e w1 ⟨rfl, f1, hf1, hm1, hb1⟩)
      go_roundw
      case rel => exact ⟨a + 20, f1, by go_num, by go_num, hlt, hf1, .more a hlt (by omega) (hm1.perm.trans (by rw [seg_congr fun k k1 _ => HSA.out k k1])) hm1.srt (HP.out.congr fun k hk => hm1.out k (by omega)), fun k hk => (hm1.out k (by omega)).trans (HSA.out k (by omega)), HSR.out.of_perm hm1 hlt, HB.out.trans hb1⟩
      case measure => simp [intOf] <;> omega
    · have hlz : ¬ (a : Int) + 20 ≤ (n : Int) := by omega
      have hc := Lib.hid (insert_any fr g n cap a n wr HF.out ha (Nat.le_refl _) hn HSR.out (fun i j h1 h2 h3 => by rw [HSA.out i h1, HSA.out j (by omega)]; exact HTU.out i j (Nat.zero_le _) h2 (by omega)))
      go_upto_region 6 with fail
      go_cut [6] (fun q wx => q = .int .i64 20 ∧ ∃ f1, FR wx g n f1 ∧ Chain f f1 20 n 0 ∧ ScOk f1 n ∧ Below g w wx)
      case first =>
        go_wp2_with (go_at_call 70; refine hc.out.mono ?_; rintro e w1 ⟨rfl, f1, hf1, hm1, hb1⟩)
        go_meet
        refine ⟨rfl, f1, hf1, (HP.out.congr fun k hk => hm1.out k (by omega)).chain ?_, HSR.out.of_perm hm1 (Nat.le_refl _), HB.out.trans hb1⟩
        by_cases han : a < n
        · refine .blk a han ?_ ?_ (.fin _ (by omega))
          · rw [Nat.min_eq_right (by omega)]; exact hm1.perm.trans (by rw [seg_congr fun k k1 _ => HSA.out k k1])
          · rw [Nat.min_eq_right (by omega)]; exact hm1.srt
        · exact .fin a (by omega)
      case rest =>
        obtain ⟨rfl, f1, hf1, hc1, hs1, hb1⟩ := hcut
        have H1 := Lib.hid hf1
        have H2 := Lib.hid hc1
        have H3 := Lib.hid hs1
        have H4 := Lib.hid hb1
        clear hf1 hc1 hs1 hb1 hc
        go_wp2
        go_loopw [6] (fun q w2 => ∃ (bs : Nat) (f2 : RowF), q = .int .i64 bs ∧ 0 < bs ∧ bs ≤ 4398046511104 ∧ FR w2 g n f2 ∧ Chain f f2 bs n 0 ∧ ScOk f2 n ∧ Below g w w2) (fun q _ => n - (intOf q).toNat)
        case atStart => exact ⟨20, f1, rfl, by omega, by omega, H1.out, H2.out, H3.out, H4.out⟩
        case round =>
          clear H1 H2 H3 H4 HF HP HSA HSR HB
          obtain ⟨bs, f2, rfl, hb0, hb2, hf2, hc2, hs2, hbw⟩ := hrel
          have HF := Lib.hid hf2
          have HCH := Lib.hid hc2
          have HSR := Lib.hid hs2
          have HB := Lib.hid hbw
          clear hf2 hc2 hs2 hbw
          by_cases hbn : bs < n
          · go_wp2
            go_loopw [7, 8] (fun p q w3 => ∃ (a : Nat) (f3 : RowF), p = .int .i64 a ∧ q = .int .i64 ((a : Int) + 2 * (bs : Int)) ∧ a ≤ n ∧ FR w3 g n f3 ∧ Pre f f3 (2 * bs) n a ∧ Chain f f3 bs n a ∧ ScOk f3 n ∧ Below g w w3) (fun p _ _ => n - (intOf p).toNat)
            case atStart => exact ⟨0, f2, rfl, by go_num, Nat.zero_le _, HF.out, .zero, HCH.out, HSR.out, HB.out⟩
            case round =>
              clear HF HCH HSR HB
              obtain ⟨a, f3, rfl, rfl, ha, hf, hp, hc, hsc, hbw⟩ := hrel
              have HF := Lib.hid hf
              have HP := Lib.hid hp
              have HCH := Lib.hid hc
              have HSR := Lib.hid hsc
              have HB := Lib.hid hbw
              clear hf hp hc hsc hbw
              by_cases hlt : a + 2 * bs ≤ n
              · obtain ⟨p1, s1, r1⟩ := HCH.out.first (show a < n by omega)
                obtain ⟨p2, s2, r2⟩ := r1.first (show a + bs < n by omega)
                rw [Nat.min_eq_left (show a + bs ≤ n by omega)] at p1 s1
                rw [Nat.min_eq_left (show a + bs + bs ≤ n by omega), show a + bs + bs = a + 2 * bs by omega] at p2 s2
                rw [show a + bs + bs = a + 2 * bs by omega] at r2
                have HPS := Lib.hid (And.intro p1 (And.intro p2 r2))
                have hcl := sym_any g n cap hn (2 * bs + 1) f3 a (a + bs) (a + 2 * bs) wr (by omega) (by omega) (by omega) hlt HF.out HSR.out s1 s2 (low_of HTU.out hlt p1 p2)
                rw [show ((a + bs : Nat) : Int) = (a : Int) + (bs : Int) by omega, show ((a + 2 * bs : Nat) : Int) = (a : Int) + 2 * (bs : Int) by omega] at hcl
                have HCL := Lib.hid hcl
                clear p1 s1 r1 p2 s2 r2 hcl
                go_wp2_with (go_at_call 71; refine HCL.out.mono ?_; rintro e w1 ⟨rfl, f1, hf1, hm1, hb1⟩)
                go_roundw
                case rel => exact ⟨a + 2 * bs, f1, by go_num, by go_num, hlt, hf1, .more a hlt (by omega) (perm_two (by omega) (by omega) HPS.out.1 HPS.out.2.1 hm1) hm1.srt (HP.out.congr fun k hk => hm1.out k (by omega)), HPS.out.2.2.congr fun k hk => hm1.out k (by omega), HSR.out.of_perm hm1 hlt, HB.out.trans hb1⟩
                case measure => simp [intOf] <;> omega
              · by_cases hmn : a + bs < n
                · obtain ⟨p1, s1, r1⟩ := HCH.out.first (show a < n by omega)
                  obtain ⟨p2, s2, r2⟩ := r1.first hmn
                  rw [Nat.min_eq_left (show a + bs ≤ n by omega)] at p1 s1
                  rw [Nat.min_eq_right (show n ≤ a + bs + bs by omega)] at p2 s2
                  have HPS := Lib.hid (And.intro p1 p2)
                  have hcl := sym_any g n cap hn (2 * bs + 1) f3 a (a + bs) n wr (by omega) (by omega) hmn (Nat.le_refl _) HF.out HSR.out s1 s2 (low_of HTU.out (Nat.le_refl _) p1 p2)
                  rw [show ((a + bs : Nat) : Int) = (a : Int) + (bs : Int) by omega] at hcl
                  have HCL := Lib.hid hcl
                  clear p1 s1 r1 p2 s2 r2 hcl
                  go_wp2_with (go_at_call 71; refine HCL.out.mono ?_; rintro e w1 ⟨rfl, f1, hf1, hm1, hb1⟩)
                  go_roundw
                  case rel =>
                    refine ⟨2 * bs, f1, by go_num, by omega, by omega, hf1, (HP.out.congr fun k hk => hm1.out k (by omega)).chain (.blk a (by omega) ?_ ?_ (.fin _ (by omega))), HSR.out.of_perm hm1 (Nat.le_refl _), HB.out.trans hb1⟩
                    · rw [Nat.min_eq_right (by omega)]; exact perm_two (by omega) (by omega) HPS.out.1 HPS.out.2 hm1
                    · rw [Nat.min_eq_right (by omega)]; exact hm1.srt
                  case measure => simp [intOf] <;> omega
                · go_wp2
                  go_roundw
                  case rel =>
                    refine ⟨2 * bs, f3, by go_num, by omega, by omega, HF.out, HP.out.chain ?_, HSR.out, HB.out⟩
                    by_cases han : a < n
                    · obtain ⟨p1, s1, r1⟩ := HCH.out.first han
                      rw [Nat.min_eq_right (show n ≤ a + bs by omega)] at p1 s1
                      refine .blk a han ?_ ?_ (.fin _ (by omega))
                      · rw [Nat.min_eq_right (by omega)]; exact p1
                      · rw [Nat.min_eq_right (by omega)]; exact s1
                    · exact .fin a (by omega)
                  case measure => simp [intOf] <;> omega
          · go_wp2
            go_end0
            refine ⟨rfl, f2, HF.out, ?_⟩
            by_cases h0 : 0 < n
            · obtain ⟨p1, s1, _⟩ := HCH.out.first h0
              rw [Nat.min_eq_right (show n ≤ 0 + bs by omega)] at p1 s1
              exact ⟨s1, p1, HB.out⟩
            · refine ⟨srt_iff.2 fun i j h1 h2 h3 => by omega, ?_, HB.out⟩
              rw [seg_nil _ (by omega), seg_nil _ (by omega)]

set_option maxRecDepth 100000 in
/-- The stable sort of what is found. -/
theorem sort_any (f : RowF) (g n cap : Nat) (w : World) (h : FR w g n f) (hn : n ≤ 1099511627776) (hs : ScOk f n) (ht : Tup f 0 n) :
    Calls Tryz.prog 24 #[.slice (some ⟨g, 0, none⟩) n cap, .func (.func 25) #[] #[]] w fun e w' => e = .returned (.tuple #[]) ∧ ∃ f', FR w' g n f' ∧ Srt f' 0 n ∧ (seg f' 0 n).Perm (seg f 0 n) ∧ Below g w w' := by
  have H := Lib.hid (stable_any f g n cap w h hn hs ht)
  clear h hs ht
  go_enter Tryz.func24, Tryz.ntmps24
  go_wp2_with (go_at_call 44; refine H.out.mono ?_; rintro e w1 ⟨rfl, f1, hf1, hm1, hp1, hb1⟩)
  go_end0
  exact ⟨rfl, f1, hf1, hm1, hp1, hb1⟩
end Go.Proofs.YthpbdeiphagkiaaGreatDoor
