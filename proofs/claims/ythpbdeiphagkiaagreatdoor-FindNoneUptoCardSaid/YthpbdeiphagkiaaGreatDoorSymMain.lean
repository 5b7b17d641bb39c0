/- slices.symMergeCmpFunc, the great case. Printed by gen_symmain.py. -/
import Derived.Test.YthpbdeiphagkiaaGreatDoorSym
namespace Go.Proofs.YthpbdeiphagkiaaGreatDoor
open Go.RowKit Find

theorem srt_congr {f f' : RowF} {a b : Nat} (h : Srt f a b) (e : ∀ k, a ≤ k → k < b → f' k = f k) : Srt f' a b := by
  unfold Srt; rw [seg_congr e]; exact h
/-- What the turn leaves, for the two merges behind it. -/
structure Piece (f1 : RowF) (a s mid e b n : Nat) : Prop where
  s1 : Srt f1 a s
  s2 : Srt f1 s mid
  low1 : ∀ i j, a ≤ i → i < s → s ≤ j → j < mid → (f1 i).topic < (f1 j).topic
  s3 : Srt f1 mid e
  s4 : Srt f1 e b
  low2 : ∀ i j, mid ≤ i → i < e → e ≤ j → j < b → (f1 i).topic < (f1 j).topic
  ok : ScOk f1 n
theorem piece_of {f f1 : RowF} {a s m e mid b n : Nat} (h0 : a ≤ s) (h1 : s ≤ m) (h2 : m ≤ e) (h3 : e ≤ b) (hn : b ≤ n) (hmid : mid + m = s + e) (sA : Srt f a m) (sB : Srt f m b)
    (hlow : ∀ i j, a ≤ i → i < m → m ≤ j → j < b → (f i).topic < (f j).topic) (hs : ScOk f n) (hrot : seg f1 s e = seg f m e ++ seg f s m) (ho1 : Out f f1 s e) : Piece f1 a s mid e b n := by
  have hm1 : s ≤ mid := by omega
  have hm2 : mid ≤ e := by omega
  have q0 : seg f1 s mid ++ seg f1 mid e = seg f m e ++ seg f s m := by rw [seg_app f1 hm1 hm2, hrot]
  obtain ⟨q1, q2⟩ := List.append_inj q0 (by rw [seg_len, seg_len]; omega)
  have b1 : ∀ j, s ≤ j → j < mid → ∃ k, m ≤ k ∧ k < e ∧ f k = f1 j := fun j j1 j2 => by
    have : f1 j ∈ seg f1 s mid := mem_seg.2 ⟨j, j1, j2, rfl⟩
    rw [q1] at this; exact mem_seg.1 this
  have b2 : ∀ j, mid ≤ j → j < e → ∃ k, s ≤ k ∧ k < m ∧ f k = f1 j := fun j j1 j2 => by
    have : f1 j ∈ seg f1 mid e := mem_seg.2 ⟨j, j1, j2, rfl⟩
    rw [q2] at this; exact mem_seg.1 this
  refine ⟨srt_congr (sA.part (Nat.le_refl _) h1) fun k _ k2 => ho1 k (by omega), by unfold Srt; rw [q1]; exact sB.part (Nat.le_refl _) h3, ?_, by unfold Srt; rw [q2]; exact sA.part h0 (Nat.le_refl _), srt_congr (sB.part h2 (Nat.le_refl _)) fun k k1 _ => ho1 k (by omega), ?_, ?_⟩
  · intro i j i1 i2 j1 j2
    obtain ⟨k, k1, k2, k3⟩ := b1 j j1 j2
    rw [ho1 i (by omega), ← k3]; exact hlow i k i1 (by omega) k1 (by omega)
  · intro i j i1 i2 j1 j2
    obtain ⟨k, k1, k2, k3⟩ := b2 i i1 i2
    rw [ho1 j (by omega), ← k3]; exact hlow k j (by omega) k2 (by omega) j2
  · intro k hk
    by_cases c1 : s ≤ k ∧ k < e
    · by_cases c2 : k < mid
      · obtain ⟨i, i1, i2, i3⟩ := b1 k c1.1 c2; rw [← i3]; exact hs i (by omega)
      · obtain ⟨i, i1, i2, i3⟩ := b2 k (by omega) c1.2; rw [← i3]; exact hs i (by omega)
    · rw [ho1 k (by omega)]; exact hs k hk
/-- .. behind the first of the two. -/
theorem Piece.behind {f1 f2 : RowF} {a s mid e b n : Nat} (h : Piece f1 a s mid e b n) (hX : Merged f1 f2 a mid) (h1 : mid ≤ e) (h2 : e ≤ b) (hn : mid ≤ n) : Srt f2 mid e ∧ Srt f2 e b ∧ (∀ i j, mid ≤ i → i < e → e ≤ j → j < b → (f2 i).topic < (f2 j).topic) ∧ ScOk f2 n :=
  ⟨srt_congr h.s3 fun k k1 _ => hX.out k (by omega), srt_congr h.s4 fun k k1 _ => hX.out k (by omega), fun i j i1 i2 j1 j2 => by rw [hX.out i (by omega), hX.out j (by omega)]; exact h.low2 i j i1 i2 j1 j2, h.ok.of_perm hX hn⟩
theorem merged_self {f : RowF} {a b : Nat} (h : Srt f a b) : Merged f f a b := ⟨h, List.Perm.refl _, Out.refl _ _ _⟩
theorem rot_nil1 (f : RowF) (m e : Nat) : seg f m e = seg f m e ++ seg f m m := by rw [seg_nil f (Nat.le_refl m), List.append_nil]
theorem rot_nil2 (f : RowF) (s m : Nat) : seg f s m = seg f m m ++ seg f s m := by rw [seg_nil f (Nat.le_refl m), List.nil_append]

set_option maxHeartbeats 8000000 in
set_option maxRecDepth 100000 in
theorem sym_main (f : RowF) (g n cap a m b : Nat) (w : World) (h : FR w g n f) (ham : a < m) (hmb : m < b) (hb : b ≤ n) (hn : n ≤ 1099511627776) (hs : ScOk f n) (sA : Srt f a m) (sB : Srt f m b) (hlow : ∀ i j, a ≤ i → i < m → m ≤ j → j < b → (f i).topic < (f j).topic) (h1 : ¬ m = a + 1) (h2 : ¬ b = m + 1)
    (hih : ∀ (f : RowF) (a' m' b' : Nat) (w : World), b' - a' < b - a → a' < m' → m' < b' → b' ≤ n → FR w g n f → ScOk f n → Srt f a' m' → Srt f m' b' → (∀ i j, a' ≤ i → i < m' → m' ≤ j → j < b' → (f i).topic < (f j).topic) →
      Calls Tryz.prog 71 #[.slice (some ⟨g, 0, none⟩) n cap, .int .i64 a', .int .i64 m', .int .i64 b', .func (.func 25) #[] #[]] w fun e w' => e = .returned (.tuple #[]) ∧ ∃ f', FR w' g n f' ∧ Merged f f' a' b' ∧ Below g w w') :
    Calls Tryz.prog 71 #[.slice (some ⟨g, 0, none⟩) n cap, .int .i64 a, .int .i64 m, .int .i64 b, .func (.func 25) #[] #[]] w fun e w' => e = .returned (.tuple #[]) ∧ ∃ f', FR w' g n f' ∧ Merged f f' a b ∧ Below g w w' := by
  have hz4 : Tryz.prog.cellsOf 56 = 3 := by kernel_rfl
  have H := Lib.hid h
  have HSC := Lib.hid hs
  have HSA := Lib.hid sA
  have HSB := Lib.hid sB
  have HLO := Lib.hid hlow
  clear h hs sA sB hlow
  have hone : ((m : Int) - (a : Int) == 1) = false := by rw [beq_eq_false_iff_ne]; omega
  have hone2 : ((b : Int) - (m : Int) == 1) = false := by rw [beq_eq_false_iff_ne]; omega
  have HIH := Lib.hid hih
  clear hih
  obtain ⟨mid, hmd⟩ : ∃ c, c = (a + b) / 2 := ⟨_, rfl⟩
  have hhalf : ((a : Int) + (b : Int)) / 2 = (mid : Int) := by omega
  have hmd1 : 2 * mid ≤ a + b := by omega
  have hmd2 : a + b < 2 * mid + 2 := by omega
  have HMD := Lib.hid hmd
  clear hmd
  obtain ⟨N, hN⟩ : ∃ N, N = mid + m := ⟨_, rfl⟩
  have hNI : (mid : Int) + (m : Int) = (N : Int) := by omega
  have hN1 : N ≤ mid + m := by omega
  have hN2 : mid + m ≤ N := by omega
  clear hN
  obtain ⟨P, hP⟩ : ∃ P, P = N - 1 := ⟨_, rfl⟩
  have hPI : (N : Int) - 1 = (P : Int) := by omega
  have hP1 : P + 1 ≤ N := by omega
  have hP2 : N ≤ P + 1 := by omega
  clear hP
  go_enter Tryz.func71, Tryz.ntmps71
  by_cases hmm : mid < m
  · obtain ⟨S0, hS0⟩ : ∃ s, s = N - b := ⟨_, rfl⟩
    have hSI : (N : Int) - (b : Int) = (S0 : Int) := by omega
    have hS1 : S0 + b ≤ N := by omega
    have hS2 : N ≤ S0 + b := by omega
    obtain ⟨R0, hR0⟩ : ∃ r, r = mid := ⟨_, rfl⟩
    have hR1 : R0 ≤ mid := by omega
    have hR2 : mid ≤ R0 := by omega
    have HR0 := Lib.hid hR0
    clear hS0 hR0
    go_wp2
    go_loopw [20, 21] (fun p q wr => ∃ i j : Nat, p = .int .i64 i ∧ q = .int .i64 j ∧ S0 ≤ i ∧ i ≤ j ∧ j ≤ R0 ∧ (∀ k, S0 ≤ k → k < i → (f (N - 1 - k)).score ≤ (f k).score) ∧ (∀ k, j ≤ k → k < R0 → (f k).score < (f (N - 1 - k)).score) ∧ FR wr g n f ∧ Below g w wr) (fun p q _ => (intOf q).toNat - (intOf p).toNat)
    case atStart => exact ⟨S0, R0, by go_num, by rw [HR0.out], Nat.le_refl _, by omega, Nat.le_refl _, fun k k1 k2 => by omega, fun k k1 k2 => by omega, H.out, Below.refl _ _⟩
    case round =>
      obtain ⟨i, j, rfl, rfl, hi, hij, hj, hL, hR, hf, hbw⟩ := hrel
      have HF := Lib.hid hf
      have HB := Lib.hid hbw
      have HLR := Lib.hid (And.intro hL hR)
      clear hf hbw hL hR
      by_cases hlt : i < j
      · obtain ⟨c, hc⟩ : ∃ c, c = (i + j) / 2 := ⟨_, rfl⟩
        have hhalf2 : ((i : Int) + (j : Int)) / 2 = (c : Int) := by omega
        have hc1 : i ≤ c := by omega
        have hc2 : c < j := by omega
        have HC := Lib.hid hc
        clear hc
        obtain ⟨pc, hpc⟩ : ∃ pc, pc = P - c := ⟨_, rfl⟩
        have hpcI : (P : Int) - (c : Int) = (pc : Int) := by omega
        have hpc1 : m ≤ pc := by omega
        have hpc2 : pc < b := by omega
        have HPC := Lib.hid (show pc = N - 1 - c by omega)
        clear hpc
        have p0 := HF.out.c0 (show pc < n by omega)
        have p1 := HF.out.c1 (show pc < n by omega)
        have p2 := HF.out.c2 (show pc < n by omega)
        have q0 := HF.out.c0 (show c < n by omega)
        have q1 := HF.out.c1 (show c < n by omega)
        have q2 := HF.out.c2 (show c < n by omega)
        have hcm := fun w' => cmp_any (f (pc)) (f (c)) w' (by have := HSC.out (pc) (by omega); omega) (by have := HSC.out (pc) (by omega); omega) (by have := HSC.out (c) (by omega); omega) (by have := HSC.out (c) (by omega); omega)
        obtain ⟨x, hx⟩ : ∃ x, x = f (pc) := ⟨_, rfl⟩
        obtain ⟨y, hy⟩ : ∃ x, x = f (c) := ⟨_, rfl⟩
        rw [← hx] at p0 p1 p2
        rw [← hy] at q0 q1 q2
        rw [← hx, ← hy] at hcm
        have HCM := Lib.hid hcm
        have HX := Lib.hid (And.intro hx hy)
        clear hx hy hcm
        have hlg := HF.out.lt
        go_upto_region 35 with fail
        go_cut [171] (fun s wx => s = .bool (!decide (cmpF x y < 0)) ∧ Below wr.heap.size wr wx)
        case first =>
          have jz1 : ((pc : Nat) : Int) < (n : Int) := by omega
          have jz2 : ((c : Nat) : Int) < (n : Int) := by omega
          have hwp : IntKind.i64.wrap (pc : Int) = (pc : Int) := by rw [IntKind.wrap_i64]; omega
          refine wp_region_still_tail 11 (by kernel_rfl) (by kernel_rfl) ?_
          simp only [List.take_succ_cons, List.take_zero, List.drop_succ_cons, List.drop_zero]
          generalize hwd : ({ wr with drawn := wr.drawn + 1 } : World) = wd
          have d0 : wd.cell? ⟨g, (pc) * 3, none⟩ = some (.int .i64 x.topic) := by rw [← hwd]; exact p0
          have d1 : wd.cell? ⟨g, (pc) * 3 + 1, none⟩ = some (.int .i64 x.score) := by rw [← hwd]; exact p1
          have d2 : wd.cell? ⟨g, (pc) * 3 + 2, none⟩ = some (.int .i64 x.place) := by rw [← hwd]; exact p2
          have d3 : wd.cell? ⟨g, (c) * 3, none⟩ = some (.int .i64 y.topic) := by rw [← hwd]; exact q0
          have d4 : wd.cell? ⟨g, (c) * 3 + 1, none⟩ = some (.int .i64 y.score) := by rw [← hwd]; exact q1
          have d5 : wd.cell? ⟨g, (c) * 3 + 2, none⟩ = some (.int .i64 y.place) := by rw [← hwd]; exact q2
          have hbd : Below wr.heap.size wr wd := by rw [← hwd]; exact (Below.refl _ _).drew
          have HBD := Lib.hid hbd
          clear hwd p0 p1 p2 q0 q1 q2 hbd
          repeat still_step
          refine wpStill_nil ?_
          go_wp2_with (go_at_call 25; refine (HCM.out _).mono ?_; rintro e w1 ⟨rfl, hb1⟩)
          go_meet
          exact ⟨rfl, HBD.out.trans (hb1.mono HBD.out.size)⟩
        case rest =>
          obtain ⟨rfl, hbc⟩ := hcut
          have HF3 := Lib.hid (HF.out.same (hbc.block _ hlg))
          have HB3 := Lib.hid (HB.out.trans (hbc.mono (Nat.le_of_lt hlg)))
          clear p0 p1 p2 q0 q1 q2 hbc
          by_cases hcp : cmpF x y < 0
          · have hcc : (f c).score < (f pc).score := by
              unfold cmpF at hcp; rw [HX.out.1, HX.out.2] at hcp; omega
            have HCC := Lib.hid hcc
            rw [decide_eq_true hcp]
            clear hcp hcc
            go_wp2
            go_roundw
            case rel =>
              refine ⟨i, c, rfl, rfl, hi, hc1, by omega, HLR.out.1, fun k k1 k2 => ?_, HF3.out, HB3.out⟩
              have e1 := HCC.out
              have e2 := HSA.out.score (show a ≤ c by omega) k1 (by omega)
              have e3 := HSB.out.score (i := N - 1 - k) (j := pc) (by omega) (by have := HPC.out; omega) hpc2
              omega
            case measure => simp [intOf] <;> omega
          · have hcc : (f pc).score ≤ (f c).score := by
              unfold cmpF at hcp; rw [HX.out.1, HX.out.2] at hcp; omega
            have HCC := Lib.hid hcc
            rw [decide_eq_false hcp]
            clear hcp hcc
            go_wp2
            go_roundw
            case rel =>
              refine ⟨c + 1, j, by go_num, rfl, by omega, by omega, hj, fun k k1 k2 => ?_, HLR.out.2, HF3.out, HB3.out⟩
              have e1 := HCC.out
              have e2 := HSA.out.score (show a ≤ k by omega) (show k ≤ c by omega) (by omega)
              have e3 := HSB.out.score (i := pc) (j := N - 1 - k) hpc1 (by have := HPC.out; omega) (by omega)
              omega
            case measure => simp [intOf] <;> omega
      · skip
        have hji : j = i := by omega
        subst hji
        obtain ⟨s, hs⟩ : ∃ s, s = j := ⟨_, rfl⟩
        rw [← hs]
        rw [← hs] at hi hj HLR
        clear hs
        obtain ⟨e0, he0⟩ : ∃ e, e = N - s := ⟨_, rfl⟩
        have heI : (N : Int) - (s : Int) = (e0 : Int) := by omega
        have has : a ≤ s := by omega
        have hsm0 : s ≤ m := by omega
        have hme0 : m ≤ e0 := by omega
        have heb : e0 ≤ b := by omega
        have hmid : mid + m = s + e0 := by omega
        have hE1 : a < s → e0 < b → Ahead (f (s - 1)) (f e0) := fun h1 h2 => by
          have hlow := HLO.out (s - 1) e0 (by omega) (by omega) hme0 h2
          have hsc := HLR.out.1 (s - 1) (by omega) (by omega)
          rw [show N - 1 - (s - 1) = e0 by omega] at hsc
          unfold Ahead; omega
        have hE2 : m < e0 → s < m → Ahead (f (e0 - 1)) (f s) := fun h1 h2 => by
          have hsc := HLR.out.2 s (by omega) (by omega)
          rw [show N - 1 - s = e0 - 1 by omega] at hsc
          exact .inl hsc
        have HE := Lib.hid (And.intro hE1 hE2)
        have HNE := Lib.hid he0
        have he1 : e0 + s ≤ N := by omega
        have he2 : N ≤ e0 + s := by omega
        clear hE1 hE2 he0
        by_cases hsm : s < m
        · by_cases hme : m < e0
          · have hc2 : s < mid := by omega
            have hc3 : mid < e0 := by omega
            by_cases hc1 : a < s
            · by_cases hc4 : e0 < b
              · skip
                go_wp2_with (first
                  | (go_at_call 94; refine (rotate_any f g n cap s m e0 _ _ HF.out hsm hme (by omega) hn).mono ?_; rintro e1 w1 ⟨rfl, f1, hf1, hrot, ho1, hb1⟩; have HP := Lib.hid (piece_of has (Nat.le_of_lt hsm) (Nat.le_of_lt hme) heb hb hmid HSA.out HSB.out HLO.out HSC.out hrot ho1); have HR := Lib.hid (And.intro hrot ho1); have HF1 := Lib.hid hf1; have HB1 := Lib.hid hb1; clear hrot ho1 hf1 hb1)
                  | (go_at_call_of 71 (Value.int IntKind.i64 (s : Int)); refine (HIH.out f1 a s mid _ (by omega) hc1 hc2 (by omega) HF1.out HP.out.ok HP.out.s1 HP.out.s2 HP.out.low1).mono ?_; rintro e2 w2 ⟨rfl, f2, hf2, hm2, hb2⟩; have HF2 := Lib.hid hf2; have HM2 := Lib.hid hm2; have HB2 := Lib.hid hb2; clear hf2 hm2 hb2)
                  | (go_at_call_of 71 (Value.int IntKind.i64 (e0 : Int)); refine (HIH.out f2 mid e0 b _ (by omega) hc3 hc4 hb HF2.out (HP.out.behind HM2.out (by omega) heb (by omega)).2.2.2 (HP.out.behind HM2.out (by omega) heb (by omega)).1 (HP.out.behind HM2.out (by omega) heb (by omega)).2.1 (HP.out.behind HM2.out (by omega) heb (by omega)).2.2.1).mono ?_; rintro e3 w3 ⟨rfl, f3, hf3, hm3, hb3⟩; have HF3 := Lib.hid hf3; have HM3 := Lib.hid hm3; have HB3 := Lib.hid hb3; clear hf3 hm3 hb3))
                go_end0
                exact ⟨rfl, f3, HF3.out, merge_join has (by omega) (by omega) heb hmid HSA.out HSB.out HE.out.1 HE.out.2 HR.out.1 HR.out.2 HM2.out HM3.out, (((HB.out.trans HB1.out).trans HB2.out).trans HB3.out)⟩
              · skip
                go_wp2_with (first
                  | (go_at_call 94; refine (rotate_any f g n cap s m e0 _ _ HF.out hsm hme (by omega) hn).mono ?_; rintro e1 w1 ⟨rfl, f1, hf1, hrot, ho1, hb1⟩; have HP := Lib.hid (piece_of has (Nat.le_of_lt hsm) (Nat.le_of_lt hme) heb hb hmid HSA.out HSB.out HLO.out HSC.out hrot ho1); have HR := Lib.hid (And.intro hrot ho1); have HF1 := Lib.hid hf1; have HB1 := Lib.hid hb1; clear hrot ho1 hf1 hb1)
                  | (go_at_call_of 71 (Value.int IntKind.i64 (s : Int)); refine (HIH.out f1 a s mid _ (by omega) hc1 hc2 (by omega) HF1.out HP.out.ok HP.out.s1 HP.out.s2 HP.out.low1).mono ?_; rintro e2 w2 ⟨rfl, f2, hf2, hm2, hb2⟩; have HF2 := Lib.hid hf2; have HM2 := Lib.hid hm2; have HB2 := Lib.hid hb2; clear hf2 hm2 hb2))
                have HM3 := Lib.hid (merged_self (show Srt f2 mid b from by first | (have := (HP.out.behind HM2.out (by omega) heb (by omega)).1; rwa [show e0 = b by omega] at this) | (have := (HP.out.behind HM2.out (by omega) heb (by omega)).2.1; rwa [show e0 = mid by omega] at this)))
                have HF3 := Lib.hid HF2.out
                go_end0
                exact ⟨rfl, f2, HF3.out, merge_join has (by omega) (by omega) heb hmid HSA.out HSB.out HE.out.1 HE.out.2 HR.out.1 HR.out.2 HM2.out HM3.out, ((HB.out.trans HB1.out).trans HB2.out)⟩
            · by_cases hc4 : e0 < b
              · skip
                go_wp2_with (first
                  | (go_at_call 94; refine (rotate_any f g n cap s m e0 _ _ HF.out hsm hme (by omega) hn).mono ?_; rintro e1 w1 ⟨rfl, f1, hf1, hrot, ho1, hb1⟩; have HP := Lib.hid (piece_of has (Nat.le_of_lt hsm) (Nat.le_of_lt hme) heb hb hmid HSA.out HSB.out HLO.out HSC.out hrot ho1); have HR := Lib.hid (And.intro hrot ho1); have HF1 := Lib.hid hf1; have HB1 := Lib.hid hb1; clear hrot ho1 hf1 hb1; have HM2 := Lib.hid (merged_self (show Srt f1 a mid from by first | (have := HP.out.s2; rwa [show s = a by omega] at this) | (have := HP.out.s1; rwa [show s = mid by omega] at this))); have HF2 := Lib.hid HF1.out)
                  | (go_at_call_of 71 (Value.int IntKind.i64 (e0 : Int)); refine (HIH.out f1 mid e0 b _ (by omega) hc3 hc4 hb HF2.out (HP.out.behind HM2.out (by omega) heb (by omega)).2.2.2 (HP.out.behind HM2.out (by omega) heb (by omega)).1 (HP.out.behind HM2.out (by omega) heb (by omega)).2.1 (HP.out.behind HM2.out (by omega) heb (by omega)).2.2.1).mono ?_; rintro e3 w3 ⟨rfl, f3, hf3, hm3, hb3⟩; have HF3 := Lib.hid hf3; have HM3 := Lib.hid hm3; have HB3 := Lib.hid hb3; clear hf3 hm3 hb3))
                go_end0
                exact ⟨rfl, f3, HF3.out, merge_join has (by omega) (by omega) heb hmid HSA.out HSB.out HE.out.1 HE.out.2 HR.out.1 HR.out.2 HM2.out HM3.out, ((HB.out.trans HB1.out).trans HB3.out)⟩
              · skip
                go_wp2_with (first
                  | (go_at_call 94; refine (rotate_any f g n cap s m e0 _ _ HF.out hsm hme (by omega) hn).mono ?_; rintro e1 w1 ⟨rfl, f1, hf1, hrot, ho1, hb1⟩; have HP := Lib.hid (piece_of has (Nat.le_of_lt hsm) (Nat.le_of_lt hme) heb hb hmid HSA.out HSB.out HLO.out HSC.out hrot ho1); have HR := Lib.hid (And.intro hrot ho1); have HF1 := Lib.hid hf1; have HB1 := Lib.hid hb1; clear hrot ho1 hf1 hb1; have HM2 := Lib.hid (merged_self (show Srt f1 a mid from by first | (have := HP.out.s2; rwa [show s = a by omega] at this) | (have := HP.out.s1; rwa [show s = mid by omega] at this))); have HF2 := Lib.hid HF1.out))
                have HM3 := Lib.hid (merged_self (show Srt f1 mid b from by first | (have := (HP.out.behind HM2.out (by omega) heb (by omega)).1; rwa [show e0 = b by omega] at this) | (have := (HP.out.behind HM2.out (by omega) heb (by omega)).2.1; rwa [show e0 = mid by omega] at this)))
                have HF3 := Lib.hid HF2.out
                go_end0
                exact ⟨rfl, f1, HF3.out, merge_join has (by omega) (by omega) heb hmid HSA.out HSB.out HE.out.1 HE.out.2 HR.out.1 HR.out.2 HM2.out HM3.out, (HB.out.trans HB1.out)⟩
          · have hem : e0 = m := by omega
            have hsmid : s = mid := by omega
            have HR := Lib.hid (And.intro (show seg f s e0 = seg f m e0 ++ seg f s m by rw [hem]; exact rot_nil2 f s m) (Out.refl f s e0))
            have HP := Lib.hid (piece_of has hsm0 hme0 heb hb hmid HSA.out HSB.out HLO.out HSC.out HR.out.1 HR.out.2)
            have hc2 : ¬ s < mid := by omega
            have hc1 : a < s := by omega
            have hc3 : mid < e0 := by omega
            have hc4 : e0 < b := by omega
            have HEM := Lib.hid (And.intro hem hsmid)
            clear hem hsmid
            have HF1 := Lib.hid HF.out
            have HM2 := Lib.hid (merged_self (show Srt f a mid from by first | (have := HP.out.s2; rwa [show s = a by omega] at this) | (have := HP.out.s1; rwa [show s = mid by omega] at this))); have HF2 := Lib.hid HF1.out
            go_wp2_with (first
              | (go_at_call_of 71 (Value.int IntKind.i64 (e0 : Int)); refine (HIH.out f mid e0 b _ (by omega) hc3 hc4 hb HF2.out (HP.out.behind HM2.out (by omega) heb (by omega)).2.2.2 (HP.out.behind HM2.out (by omega) heb (by omega)).1 (HP.out.behind HM2.out (by omega) heb (by omega)).2.1 (HP.out.behind HM2.out (by omega) heb (by omega)).2.2.1).mono ?_; rintro e3 w3 ⟨rfl, f3, hf3, hm3, hb3⟩; have HF3 := Lib.hid hf3; have HM3 := Lib.hid hm3; have HB3 := Lib.hid hb3; clear hf3 hm3 hb3))
            go_end0
            exact ⟨rfl, f3, HF3.out, merge_join has (by omega) (by omega) heb hmid HSA.out HSB.out HE.out.1 HE.out.2 HR.out.1 HR.out.2 HM2.out HM3.out, (HB.out.trans HB3.out)⟩
        · have hsm2 : s = m := by omega
          have hemid : e0 = mid := by omega
          have HR := Lib.hid (And.intro (show seg f s e0 = seg f m e0 ++ seg f s m by rw [hsm2]; exact rot_nil1 f m e0) (Out.refl f s e0))
          have HP := Lib.hid (piece_of has hsm0 hme0 heb hb hmid HSA.out HSB.out HLO.out HSC.out HR.out.1 HR.out.2)
          have hc1 : a < s := by omega
          have hc3 : ¬ mid < e0 := by omega
          have HEM := Lib.hid (And.intro hsm2 hemid)
          clear hsm2 hemid
          by_cases hc2 : s < mid
          · skip
            exfalso; omega
          · skip
            exfalso; omega
  · obtain ⟨S0, hS0⟩ : ∃ s, s = a := ⟨_, rfl⟩
    obtain ⟨R0, hR0⟩ : ∃ r, r = m := ⟨_, rfl⟩
    have hS1 : S0 ≤ a := by omega
    have hS2 : a ≤ S0 := by omega
    have hR1 : R0 ≤ m := by omega
    have hR2 : m ≤ R0 := by omega
    have HS0 := Lib.hid hS0
    have HR0 := Lib.hid hR0
    clear hS0 hR0
    go_wp2
    go_loopw [20, 21] (fun p q wr => ∃ i j : Nat, p = .int .i64 i ∧ q = .int .i64 j ∧ S0 ≤ i ∧ i ≤ j ∧ j ≤ R0 ∧ (∀ k, S0 ≤ k → k < i → (f (N - 1 - k)).score ≤ (f k).score) ∧ (∀ k, j ≤ k → k < R0 → (f k).score < (f (N - 1 - k)).score) ∧ FR wr g n f ∧ Below g w wr) (fun p q _ => (intOf q).toNat - (intOf p).toNat)
    case atStart => exact ⟨S0, R0, by rw [HS0.out], by rw [HR0.out], Nat.le_refl _, by omega, Nat.le_refl _, fun k k1 k2 => by omega, fun k k1 k2 => by omega, H.out, Below.refl _ _⟩
    case round =>
      obtain ⟨i, j, rfl, rfl, hi, hij, hj, hL, hR, hf, hbw⟩ := hrel
      have HF := Lib.hid hf
      have HB := Lib.hid hbw
      have HLR := Lib.hid (And.intro hL hR)
      clear hf hbw hL hR
      by_cases hlt : i < j
      · obtain ⟨c, hc⟩ : ∃ c, c = (i + j) / 2 := ⟨_, rfl⟩
        have hhalf2 : ((i : Int) + (j : Int)) / 2 = (c : Int) := by omega
        have hc1 : i ≤ c := by omega
        have hc2 : c < j := by omega
        have HC := Lib.hid hc
        clear hc
        obtain ⟨pc, hpc⟩ : ∃ pc, pc = P - c := ⟨_, rfl⟩
        have hpcI : (P : Int) - (c : Int) = (pc : Int) := by omega
        have hpc1 : m ≤ pc := by omega
        have hpc2 : pc < b := by omega
        have HPC := Lib.hid (show pc = N - 1 - c by omega)
        clear hpc
        have p0 := HF.out.c0 (show pc < n by omega)
        have p1 := HF.out.c1 (show pc < n by omega)
        have p2 := HF.out.c2 (show pc < n by omega)
        have q0 := HF.out.c0 (show c < n by omega)
        have q1 := HF.out.c1 (show c < n by omega)
        have q2 := HF.out.c2 (show c < n by omega)
        have hcm := fun w' => cmp_any (f (pc)) (f (c)) w' (by have := HSC.out (pc) (by omega); omega) (by have := HSC.out (pc) (by omega); omega) (by have := HSC.out (c) (by omega); omega) (by have := HSC.out (c) (by omega); omega)
        obtain ⟨x, hx⟩ : ∃ x, x = f (pc) := ⟨_, rfl⟩
        obtain ⟨y, hy⟩ : ∃ x, x = f (c) := ⟨_, rfl⟩
        rw [← hx] at p0 p1 p2
        rw [← hy] at q0 q1 q2
        rw [← hx, ← hy] at hcm
        have HCM := Lib.hid hcm
        have HX := Lib.hid (And.intro hx hy)
        clear hx hy hcm
        have hlg := HF.out.lt
        go_upto_region 35 with fail
        go_cut [171] (fun s wx => s = .bool (!decide (cmpF x y < 0)) ∧ Below wr.heap.size wr wx)
        case first =>
          have jz1 : ((pc : Nat) : Int) < (n : Int) := by omega
          have jz2 : ((c : Nat) : Int) < (n : Int) := by omega
          have hwp : IntKind.i64.wrap (pc : Int) = (pc : Int) := by rw [IntKind.wrap_i64]; omega
          refine wp_region_still_tail 11 (by kernel_rfl) (by kernel_rfl) ?_
          simp only [List.take_succ_cons, List.take_zero, List.drop_succ_cons, List.drop_zero]
          generalize hwd : ({ wr with drawn := wr.drawn + 1 } : World) = wd
          have d0 : wd.cell? ⟨g, (pc) * 3, none⟩ = some (.int .i64 x.topic) := by rw [← hwd]; exact p0
          have d1 : wd.cell? ⟨g, (pc) * 3 + 1, none⟩ = some (.int .i64 x.score) := by rw [← hwd]; exact p1
          have d2 : wd.cell? ⟨g, (pc) * 3 + 2, none⟩ = some (.int .i64 x.place) := by rw [← hwd]; exact p2
          have d3 : wd.cell? ⟨g, (c) * 3, none⟩ = some (.int .i64 y.topic) := by rw [← hwd]; exact q0
          have d4 : wd.cell? ⟨g, (c) * 3 + 1, none⟩ = some (.int .i64 y.score) := by rw [← hwd]; exact q1
          have d5 : wd.cell? ⟨g, (c) * 3 + 2, none⟩ = some (.int .i64 y.place) := by rw [← hwd]; exact q2
          have hbd : Below wr.heap.size wr wd := by rw [← hwd]; exact (Below.refl _ _).drew
          have HBD := Lib.hid hbd
          clear hwd p0 p1 p2 q0 q1 q2 hbd
          repeat still_step
          refine wpStill_nil ?_
          go_wp2_with (go_at_call 25; refine (HCM.out _).mono ?_; rintro e w1 ⟨rfl, hb1⟩)
          go_meet
          exact ⟨rfl, HBD.out.trans (hb1.mono HBD.out.size)⟩
        case rest =>
          obtain ⟨rfl, hbc⟩ := hcut
          have HF3 := Lib.hid (HF.out.same (hbc.block _ hlg))
          have HB3 := Lib.hid (HB.out.trans (hbc.mono (Nat.le_of_lt hlg)))
          clear p0 p1 p2 q0 q1 q2 hbc
          by_cases hcp : cmpF x y < 0
          · have hcc : (f c).score < (f pc).score := by
              unfold cmpF at hcp; rw [HX.out.1, HX.out.2] at hcp; omega
            have HCC := Lib.hid hcc
            rw [decide_eq_true hcp]
            clear hcp hcc
            go_wp2
            go_roundw
            case rel =>
              refine ⟨i, c, rfl, rfl, hi, hc1, by omega, HLR.out.1, fun k k1 k2 => ?_, HF3.out, HB3.out⟩
              have e1 := HCC.out
              have e2 := HSA.out.score (show a ≤ c by omega) k1 (by omega)
              have e3 := HSB.out.score (i := N - 1 - k) (j := pc) (by omega) (by have := HPC.out; omega) hpc2
              omega
            case measure => simp [intOf] <;> omega
          · have hcc : (f pc).score ≤ (f c).score := by
              unfold cmpF at hcp; rw [HX.out.1, HX.out.2] at hcp; omega
            have HCC := Lib.hid hcc
            rw [decide_eq_false hcp]
            clear hcp hcc
            go_wp2
            go_roundw
            case rel =>
              refine ⟨c + 1, j, by go_num, rfl, by omega, by omega, hj, fun k k1 k2 => ?_, HLR.out.2, HF3.out, HB3.out⟩
              have e1 := HCC.out
              have e2 := HSA.out.score (show a ≤ k by omega) (show k ≤ c by omega) (by omega)
              have e3 := HSB.out.score (i := pc) (j := N - 1 - k) hpc1 (by have := HPC.out; omega) (by omega)
              omega
            case measure => simp [intOf] <;> omega
      · skip
        have hji : j = i := by omega
        subst hji
        obtain ⟨s, hs⟩ : ∃ s, s = j := ⟨_, rfl⟩
        rw [← hs]
        rw [← hs] at hi hj HLR
        clear hs
        obtain ⟨e0, he0⟩ : ∃ e, e = N - s := ⟨_, rfl⟩
        have heI : (N : Int) - (s : Int) = (e0 : Int) := by omega
        have has : a ≤ s := by omega
        have hsm0 : s ≤ m := by omega
        have hme0 : m ≤ e0 := by omega
        have heb : e0 ≤ b := by omega
        have hmid : mid + m = s + e0 := by omega
        have hE1 : a < s → e0 < b → Ahead (f (s - 1)) (f e0) := fun h1 h2 => by
          have hlow := HLO.out (s - 1) e0 (by omega) (by omega) hme0 h2
          have hsc := HLR.out.1 (s - 1) (by omega) (by omega)
          rw [show N - 1 - (s - 1) = e0 by omega] at hsc
          unfold Ahead; omega
        have hE2 : m < e0 → s < m → Ahead (f (e0 - 1)) (f s) := fun h1 h2 => by
          have hsc := HLR.out.2 s (by omega) (by omega)
          rw [show N - 1 - s = e0 - 1 by omega] at hsc
          exact .inl hsc
        have HE := Lib.hid (And.intro hE1 hE2)
        have HNE := Lib.hid he0
        have he1 : e0 + s ≤ N := by omega
        have he2 : N ≤ e0 + s := by omega
        clear hE1 hE2 he0
        by_cases hsm : s < m
        · by_cases hme : m < e0
          · have hc2 : s < mid := by omega
            have hc3 : mid < e0 := by omega
            by_cases hc1 : a < s
            · by_cases hc4 : e0 < b
              · skip
                go_wp2_with (first
                  | (go_at_call 94; refine (rotate_any f g n cap s m e0 _ _ HF.out hsm hme (by omega) hn).mono ?_; rintro e1 w1 ⟨rfl, f1, hf1, hrot, ho1, hb1⟩; have HP := Lib.hid (piece_of has (Nat.le_of_lt hsm) (Nat.le_of_lt hme) heb hb hmid HSA.out HSB.out HLO.out HSC.out hrot ho1); have HR := Lib.hid (And.intro hrot ho1); have HF1 := Lib.hid hf1; have HB1 := Lib.hid hb1; clear hrot ho1 hf1 hb1)
                  | (go_at_call_of 71 (Value.int IntKind.i64 (s : Int)); refine (HIH.out f1 a s mid _ (by omega) hc1 hc2 (by omega) HF1.out HP.out.ok HP.out.s1 HP.out.s2 HP.out.low1).mono ?_; rintro e2 w2 ⟨rfl, f2, hf2, hm2, hb2⟩; have HF2 := Lib.hid hf2; have HM2 := Lib.hid hm2; have HB2 := Lib.hid hb2; clear hf2 hm2 hb2)
                  | (go_at_call_of 71 (Value.int IntKind.i64 (e0 : Int)); refine (HIH.out f2 mid e0 b _ (by omega) hc3 hc4 hb HF2.out (HP.out.behind HM2.out (by omega) heb (by omega)).2.2.2 (HP.out.behind HM2.out (by omega) heb (by omega)).1 (HP.out.behind HM2.out (by omega) heb (by omega)).2.1 (HP.out.behind HM2.out (by omega) heb (by omega)).2.2.1).mono ?_; rintro e3 w3 ⟨rfl, f3, hf3, hm3, hb3⟩; have HF3 := Lib.hid hf3; have HM3 := Lib.hid hm3; have HB3 := Lib.hid hb3; clear hf3 hm3 hb3))
                go_end0
                exact ⟨rfl, f3, HF3.out, merge_join has (by omega) (by omega) heb hmid HSA.out HSB.out HE.out.1 HE.out.2 HR.out.1 HR.out.2 HM2.out HM3.out, (((HB.out.trans HB1.out).trans HB2.out).trans HB3.out)⟩
              · skip
                go_wp2_with (first
                  | (go_at_call 94; refine (rotate_any f g n cap s m e0 _ _ HF.out hsm hme (by omega) hn).mono ?_; rintro e1 w1 ⟨rfl, f1, hf1, hrot, ho1, hb1⟩; have HP := Lib.hid (piece_of has (Nat.le_of_lt hsm) (Nat.le_of_lt hme) heb hb hmid HSA.out HSB.out HLO.out HSC.out hrot ho1); have HR := Lib.hid (And.intro hrot ho1); have HF1 := Lib.hid hf1; have HB1 := Lib.hid hb1; clear hrot ho1 hf1 hb1)
                  | (go_at_call_of 71 (Value.int IntKind.i64 (s : Int)); refine (HIH.out f1 a s mid _ (by omega) hc1 hc2 (by omega) HF1.out HP.out.ok HP.out.s1 HP.out.s2 HP.out.low1).mono ?_; rintro e2 w2 ⟨rfl, f2, hf2, hm2, hb2⟩; have HF2 := Lib.hid hf2; have HM2 := Lib.hid hm2; have HB2 := Lib.hid hb2; clear hf2 hm2 hb2))
                have HM3 := Lib.hid (merged_self (show Srt f2 mid b from by first | (have := (HP.out.behind HM2.out (by omega) heb (by omega)).1; rwa [show e0 = b by omega] at this) | (have := (HP.out.behind HM2.out (by omega) heb (by omega)).2.1; rwa [show e0 = mid by omega] at this)))
                have HF3 := Lib.hid HF2.out
                go_end0
                exact ⟨rfl, f2, HF3.out, merge_join has (by omega) (by omega) heb hmid HSA.out HSB.out HE.out.1 HE.out.2 HR.out.1 HR.out.2 HM2.out HM3.out, ((HB.out.trans HB1.out).trans HB2.out)⟩
            · by_cases hc4 : e0 < b
              · skip
                go_wp2_with (first
                  | (go_at_call 94; refine (rotate_any f g n cap s m e0 _ _ HF.out hsm hme (by omega) hn).mono ?_; rintro e1 w1 ⟨rfl, f1, hf1, hrot, ho1, hb1⟩; have HP := Lib.hid (piece_of has (Nat.le_of_lt hsm) (Nat.le_of_lt hme) heb hb hmid HSA.out HSB.out HLO.out HSC.out hrot ho1); have HR := Lib.hid (And.intro hrot ho1); have HF1 := Lib.hid hf1; have HB1 := Lib.hid hb1; clear hrot ho1 hf1 hb1; have HM2 := Lib.hid (merged_self (show Srt f1 a mid from by first | (have := HP.out.s2; rwa [show s = a by omega] at this) | (have := HP.out.s1; rwa [show s = mid by omega] at this))); have HF2 := Lib.hid HF1.out)
                  | (go_at_call_of 71 (Value.int IntKind.i64 (e0 : Int)); refine (HIH.out f1 mid e0 b _ (by omega) hc3 hc4 hb HF2.out (HP.out.behind HM2.out (by omega) heb (by omega)).2.2.2 (HP.out.behind HM2.out (by omega) heb (by omega)).1 (HP.out.behind HM2.out (by omega) heb (by omega)).2.1 (HP.out.behind HM2.out (by omega) heb (by omega)).2.2.1).mono ?_; rintro e3 w3 ⟨rfl, f3, hf3, hm3, hb3⟩; have HF3 := Lib.hid hf3; have HM3 := Lib.hid hm3; have HB3 := Lib.hid hb3; clear hf3 hm3 hb3))
                go_end0
                exact ⟨rfl, f3, HF3.out, merge_join has (by omega) (by omega) heb hmid HSA.out HSB.out HE.out.1 HE.out.2 HR.out.1 HR.out.2 HM2.out HM3.out, ((HB.out.trans HB1.out).trans HB3.out)⟩
              · skip
                go_wp2_with (first
                  | (go_at_call 94; refine (rotate_any f g n cap s m e0 _ _ HF.out hsm hme (by omega) hn).mono ?_; rintro e1 w1 ⟨rfl, f1, hf1, hrot, ho1, hb1⟩; have HP := Lib.hid (piece_of has (Nat.le_of_lt hsm) (Nat.le_of_lt hme) heb hb hmid HSA.out HSB.out HLO.out HSC.out hrot ho1); have HR := Lib.hid (And.intro hrot ho1); have HF1 := Lib.hid hf1; have HB1 := Lib.hid hb1; clear hrot ho1 hf1 hb1; have HM2 := Lib.hid (merged_self (show Srt f1 a mid from by first | (have := HP.out.s2; rwa [show s = a by omega] at this) | (have := HP.out.s1; rwa [show s = mid by omega] at this))); have HF2 := Lib.hid HF1.out))
                have HM3 := Lib.hid (merged_self (show Srt f1 mid b from by first | (have := (HP.out.behind HM2.out (by omega) heb (by omega)).1; rwa [show e0 = b by omega] at this) | (have := (HP.out.behind HM2.out (by omega) heb (by omega)).2.1; rwa [show e0 = mid by omega] at this)))
                have HF3 := Lib.hid HF2.out
                go_end0
                exact ⟨rfl, f1, HF3.out, merge_join has (by omega) (by omega) heb hmid HSA.out HSB.out HE.out.1 HE.out.2 HR.out.1 HR.out.2 HM2.out HM3.out, (HB.out.trans HB1.out)⟩
          · have hem : e0 = m := by omega
            have hsmid : s = mid := by omega
            have HR := Lib.hid (And.intro (show seg f s e0 = seg f m e0 ++ seg f s m by rw [hem]; exact rot_nil2 f s m) (Out.refl f s e0))
            have HP := Lib.hid (piece_of has hsm0 hme0 heb hb hmid HSA.out HSB.out HLO.out HSC.out HR.out.1 HR.out.2)
            have hc2 : ¬ s < mid := by omega
            have hc1 : a < s := by omega
            have hc3 : mid < e0 := by omega
            have hc4 : e0 < b := by omega
            have HEM := Lib.hid (And.intro hem hsmid)
            clear hem hsmid
            have HF1 := Lib.hid HF.out
            have HM2 := Lib.hid (merged_self (show Srt f a mid from by first | (have := HP.out.s2; rwa [show s = a by omega] at this) | (have := HP.out.s1; rwa [show s = mid by omega] at this))); have HF2 := Lib.hid HF1.out
            go_wp2_with (first
              | (go_at_call_of 71 (Value.int IntKind.i64 (e0 : Int)); refine (HIH.out f mid e0 b _ (by omega) hc3 hc4 hb HF2.out (HP.out.behind HM2.out (by omega) heb (by omega)).2.2.2 (HP.out.behind HM2.out (by omega) heb (by omega)).1 (HP.out.behind HM2.out (by omega) heb (by omega)).2.1 (HP.out.behind HM2.out (by omega) heb (by omega)).2.2.1).mono ?_; rintro e3 w3 ⟨rfl, f3, hf3, hm3, hb3⟩; have HF3 := Lib.hid hf3; have HM3 := Lib.hid hm3; have HB3 := Lib.hid hb3; clear hf3 hm3 hb3))
            go_end0
            exact ⟨rfl, f3, HF3.out, merge_join has (by omega) (by omega) heb hmid HSA.out HSB.out HE.out.1 HE.out.2 HR.out.1 HR.out.2 HM2.out HM3.out, (HB.out.trans HB3.out)⟩
        · have hsm2 : s = m := by omega
          have hemid : e0 = mid := by omega
          have HR := Lib.hid (And.intro (show seg f s e0 = seg f m e0 ++ seg f s m by rw [hsm2]; exact rot_nil1 f m e0) (Out.refl f s e0))
          have HP := Lib.hid (piece_of has hsm0 hme0 heb hb hmid HSA.out HSB.out HLO.out HSC.out HR.out.1 HR.out.2)
          have hc1 : a < s := by omega
          have hc3 : ¬ mid < e0 := by omega
          have HEM := Lib.hid (And.intro hsm2 hemid)
          clear hsm2 hemid
          by_cases hc2 : s < mid
          · skip
            have HF1 := Lib.hid HF.out
            go_wp2_with (first
              | (go_at_call_of 71 (Value.int IntKind.i64 (s : Int)); refine (HIH.out f a s mid _ (by omega) hc1 hc2 (by omega) HF1.out HP.out.ok HP.out.s1 HP.out.s2 HP.out.low1).mono ?_; rintro e2 w2 ⟨rfl, f2, hf2, hm2, hb2⟩; have HF2 := Lib.hid hf2; have HM2 := Lib.hid hm2; have HB2 := Lib.hid hb2; clear hf2 hm2 hb2))
            have HM3 := Lib.hid (merged_self (show Srt f2 mid b from by first | (have := (HP.out.behind HM2.out (by omega) heb (by omega)).1; rwa [show e0 = b by omega] at this) | (have := (HP.out.behind HM2.out (by omega) heb (by omega)).2.1; rwa [show e0 = mid by omega] at this)))
            have HF3 := Lib.hid HF2.out
            go_end0
            exact ⟨rfl, f2, HF3.out, merge_join has (by omega) (by omega) heb hmid HSA.out HSB.out HE.out.1 HE.out.2 HR.out.1 HR.out.2 HM2.out HM3.out, (HB.out.trans HB2.out)⟩
          · skip
            have HF1 := Lib.hid HF.out
            have HM2 := Lib.hid (merged_self (show Srt f a mid from by first | (have := HP.out.s2; rwa [show s = a by omega] at this) | (have := HP.out.s1; rwa [show s = mid by omega] at this))); have HF2 := Lib.hid HF1.out
            go_wp2_with fail
            have HM3 := Lib.hid (merged_self (show Srt f mid b from by first | (have := (HP.out.behind HM2.out (by omega) heb (by omega)).1; rwa [show e0 = b by omega] at this) | (have := (HP.out.behind HM2.out (by omega) heb (by omega)).2.1; rwa [show e0 = mid by omega] at this)))
            have HF3 := Lib.hid HF2.out
            go_end0
            exact ⟨rfl, f, HF3.out, merge_join has (by omega) (by omega) heb hmid HSA.out HSB.out HE.out.1 HE.out.2 HR.out.1 HR.out.2 HM2.out HM3.out, HB.out⟩

end Go.Proofs.YthpbdeiphagkiaaGreatDoor
