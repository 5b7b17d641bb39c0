/- slices.symMergeCmpFunc. Printed by gen_sym.py. -/
import Derived.Test.YthpbdeiphagkiaaGreatDoorInsert
namespace Go.Proofs.YthpbdeiphagkiaaGreatDoor
open Go.RowKit Find

def symF : Nat := 71
abbrev cbF : Value := .func (.func 25) #[] #[]
set_option maxHeartbeats 8000000 in
set_option maxRecDepth 100000 in
theorem sym_one (f : RowF) (g n cap a m b : Nat) (w : World) (h : FR w g n f) (ham : a < m) (hmb : m < b) (hb : b ≤ n) (hn : n ≤ 1099511627776) (hs : ScOk f n) (sA : Srt f a m) (sB : Srt f m b) (hlow : ∀ i j, a ≤ i → i < m → m ≤ j → j < b → (f i).topic < (f j).topic) (h1 : m = a + 1) :
    Calls Tryz.prog 71 #[.slice (some ⟨g, 0, none⟩) n cap, .int .i64 a, .int .i64 m, .int .i64 b, .func (.func 25) #[] #[]] w fun e w' => e = .returned (.tuple #[]) ∧ ∃ f', FR w' g n f' ∧ Merged f f' a b ∧ Below g w w' := by
  have hz4 : Tryz.prog.cellsOf 56 = 3 := by kernel_rfl
  have H := Lib.hid h
  have HSC := Lib.hid hs
  have HSA := Lib.hid sA
  have HSB := Lib.hid sB
  have HLO := Lib.hid hlow
  clear h hs sA sB hlow
  have hone : ((m : Int) - (a : Int) == 1) = true := by rw [beq_iff_eq]; omega
  have HM1 := Lib.hid h1
  clear h1
  go_enter Tryz.func71, Tryz.ntmps71
  go_wp2
  go_loopw [10, 11] (fun p q wr => ∃ i j : Nat, p = .int .i64 i ∧ q = .int .i64 j ∧ m ≤ i ∧ i ≤ j ∧ j ≤ b ∧ (∀ k, m ≤ k → k < i → (f a).score < (f k).score) ∧ (∀ k, j ≤ k → k < b → (f k).score ≤ (f a).score) ∧ FR wr g n f ∧ Below g w wr) (fun p q _ => (intOf q).toNat - (intOf p).toNat)
  case atStart => exact ⟨m, b, rfl, rfl, Nat.le_refl _, by omega, Nat.le_refl _, fun k k1 k2 => by omega, fun k k1 k2 => by omega, H.out, Below.refl _ _⟩
  case round =>
    obtain ⟨i, j, rfl, rfl, hi, hij, hj, hL, hR, hf, hbw⟩ := hrel
    have HF := Lib.hid hf
    have HB := Lib.hid hbw
    have HLR := Lib.hid (And.intro hL hR)
    clear hf hbw hL hR
    by_cases hlt : i < j
    · obtain ⟨c, hc⟩ : ∃ c, c = (i + j) / 2 := ⟨_, rfl⟩
      have hhalf : ((i : Int) + (j : Int)) / 2 = (c : Int) := by omega
      have hc1 : i ≤ c := by omega
      have hc2 : c < j := by omega
      have HC := Lib.hid hc
      clear hc
      have p0 := HF.out.c0 (show c < n by omega)
      have p1 := HF.out.c1 (show c < n by omega)
      have p2 := HF.out.c2 (show c < n by omega)
      have q0 := HF.out.c0 (show a < n by omega)
      have q1 := HF.out.c1 (show a < n by omega)
      have q2 := HF.out.c2 (show a < n by omega)
      have hcm := fun w' => cmp_any (f (c)) (f (a)) w' (by have := HSC.out (c) (by omega); omega) (by have := HSC.out (c) (by omega); omega) (by have := HSC.out (a) (by omega); omega) (by have := HSC.out (a) (by omega); omega)
      obtain ⟨x, hx⟩ : ∃ x, x = f (c) := ⟨_, rfl⟩
      obtain ⟨y, hy⟩ : ∃ x, x = f (a) := ⟨_, rfl⟩
      rw [← hx] at p0 p1 p2
      rw [← hy] at q0 q1 q2
      rw [← hx, ← hy] at hcm
      have HCM := Lib.hid hcm
      have HX := Lib.hid (And.intro hx hy)
      clear hx hy hcm
      have hlg := HF.out.lt
      go_upto_region 5 with fail
      go_cut [50] (fun s wx => s = .bool (decide (cmpF x y < 0)) ∧ Below wr.heap.size wr wx)
      case first =>
        have jz1 : ((c : Nat) : Int) < (n : Int) := by omega
        have jz2 : ((a : Nat) : Int) < (n : Int) := by omega
        refine wp_region_still_tail 9 (by kernel_rfl) (by kernel_rfl) ?_
        simp only [List.take_succ_cons, List.take_zero, List.drop_succ_cons, List.drop_zero]
        generalize hwd : ({ wr with drawn := wr.drawn + 1 } : World) = wd
        have d0 : wd.cell? ⟨g, (c) * 3, none⟩ = some (.int .i64 x.topic) := by rw [← hwd]; exact p0
        have d1 : wd.cell? ⟨g, (c) * 3 + 1, none⟩ = some (.int .i64 x.score) := by rw [← hwd]; exact p1
        have d2 : wd.cell? ⟨g, (c) * 3 + 2, none⟩ = some (.int .i64 x.place) := by rw [← hwd]; exact p2
        have d3 : wd.cell? ⟨g, (a) * 3, none⟩ = some (.int .i64 y.topic) := by rw [← hwd]; exact q0
        have d4 : wd.cell? ⟨g, (a) * 3 + 1, none⟩ = some (.int .i64 y.score) := by rw [← hwd]; exact q1
        have d5 : wd.cell? ⟨g, (a) * 3 + 2, none⟩ = some (.int .i64 y.place) := by rw [← hwd]; exact q2
        have hbd : Below wr.heap.size wr wd := by rw [← hwd]; exact (Below.refl _ _).drew
        have HBD := Lib.hid hbd
        clear hwd p0 p1 p2 q0 q1 q2 hbd
        repeat still_step
        refine wpStill_nil ?_
        go_wp2_with (go_at_call 25; refine (HCM.out _).mono ?_; rintro e w1 ⟨rfl, hb1⟩)
        go_meet
        exact ⟨rfl, HBD.out.trans (hb1.mono HBD.out.size)⟩
      case rest =>
        obtain ⟨rfl, hbc⟩ := hcut
        have HF3 := Lib.hid (HF.out.same (hbc.block _ hlg))
        have HB3 := Lib.hid (HB.out.trans (hbc.mono (Nat.le_of_lt hlg)))
        clear p0 p1 p2 q0 q1 q2 hbc
        by_cases hcp : cmpF x y < 0
        · have hcc : (f a).score < (f c).score := by
            unfold cmpF at hcp; rw [HX.out.1, HX.out.2] at hcp; omega
          have HCC := Lib.hid hcc
          rw [decide_eq_true hcp]
          clear hcp hcc
          go_wp2
          go_roundw
          case rel =>
            refine ⟨c + 1, j, by go_num, rfl, by omega, by omega, hj, fun k k1 k2 => ?_, HLR.out.2, HF3.out, HB3.out⟩
            have := HCC.out
            have := HSB.out.score k1 (show k ≤ c by omega) (by omega)
            omega
          case measure => simp [intOf] <;> omega
        · have hcc : (f c).score ≤ (f a).score := by
            unfold cmpF at hcp; rw [HX.out.1, HX.out.2] at hcp; omega
          have HCC := Lib.hid hcc
          rw [decide_eq_false hcp]
          clear hcp hcc
          go_wp2
          go_roundw
          case rel =>
            refine ⟨i, c, rfl, rfl, hi, hc1, by omega, HLR.out.1, fun k k1 k2 => ?_, HF3.out, HB3.out⟩
            have := HCC.out
            have := HSB.out.score (show m ≤ c by omega) k1 k2
            omega
          case measure => simp [intOf] <;> omega
    · have hji : j = i := by omega
      subst hji
      obtain ⟨ip, rfl⟩ : ∃ ip, j = ip + 1 := ⟨j - 1, by omega⟩
      go_wp2
      go_loopw [13] (fun q w2 => ∃ k : Nat, q = .int .i64 k ∧ a ≤ k ∧ k ≤ ip ∧ FR w2 g n (mvR f a k) ∧ Below g w w2) (fun q _ => ip - (intOf q).toNat)
      case atStart => exact ⟨a, rfl, Nat.le_refl _, by omega, by rw [mvR_self]; exact HF.out, HB.out⟩
      case round =>
        obtain ⟨k, rfl, hk, hki, hf2, hbw⟩ := hrel
        have HF2 := Lib.hid hf2
        have HB2 := Lib.hid hbw
        clear hf2 hbw
        by_cases hkl : k < ip
        · have p0 := HF2.out.c0 (show k < n by omega)
          have p1 := HF2.out.c1 (show k < n by omega)
          have p2 := HF2.out.c2 (show k < n by omega)
          have q0 := HF2.out.c0 (show k + 1 < n by omega)
          have q1 := HF2.out.c1 (show k + 1 < n by omega)
          have q2 := HF2.out.c2 (show k + 1 < n by omega)
          have fz := HF2.out.frozen
          obtain ⟨x, hx⟩ : ∃ x, x = mvR f a k k := ⟨_, rfl⟩
          obtain ⟨y, hy⟩ : ∃ x, x = mvR f a k (k + 1) := ⟨_, rfl⟩
          rw [← hx] at p0 p1 p2
          rw [← hy] at q0 q1 q2
          have HX := Lib.hid (And.intro hx hy)
          clear hx hy
          go_wp2
          go_region
          all_goals
            go_wp2
            go_roundw
            case rel =>
              have h2 := (HF2.out.put (show k < n by omega) y).put (show k + 1 < n by omega) x
              have h3 : FR (put3 (put3 wr g k y) g (k + 1) x) g n (mvR f a (k + 1)) := by
                rw [← mvR_step f hk, ← HX.out.1, ← HX.out.2]; exact h2
              have h4 := h3.drew
              have h5 := (below_put3 (below_put3 HB2.out (Nat.le_refl g) y (k := k)) (Nat.le_refl g) x (k := k + 1)).drew
              unfold put3 at h4 h5
              exact ⟨k + 1, by go_num, by omega, by omega, h4, h5⟩
            case measure => simp [intOf] <;> omega
        · have hke : k = ip := by omega
          subst hke
          go_wp2
          refine bodyPost_ret (results_none rfl _ _ _) rfl ?_
          refine ⟨rfl, _, HF2.out, ⟨mvR_srt hk (by omega) (by have := HSB.out; rwa [HM1.out] at this) (fun k2 h1 h2 => HLO.out a k2 (Nat.le_refl _) ham (by have := HM1.out; omega) h2) (fun k2 h1 h2 => HLR.out.1 k2 (by have := HM1.out; omega) (by omega)) (fun k2 h1 h2 => HLR.out.2 k2 (by omega) h2), mvR_perm f (Nat.le_refl a) hk (by omega), mvR_out f (Nat.le_refl a) (by omega) hk⟩, HB2.out⟩
set_option maxHeartbeats 8000000 in
set_option maxRecDepth 100000 in
theorem sym_last (f : RowF) (g n cap a m b : Nat) (w : World) (h : FR w g n f) (ham : a < m) (hmb : m < b) (hb : b ≤ n) (hn : n ≤ 1099511627776) (hs : ScOk f n) (sA : Srt f a m) (sB : Srt f m b) (hlow : ∀ i j, a ≤ i → i < m → m ≤ j → j < b → (f i).topic < (f j).topic) (h1 : ¬ m = a + 1) (h2 : b = m + 1) :
    Calls Tryz.prog 71 #[.slice (some ⟨g, 0, none⟩) n cap, .int .i64 a, .int .i64 m, .int .i64 b, .func (.func 25) #[] #[]] w fun e w' => e = .returned (.tuple #[]) ∧ ∃ f', FR w' g n f' ∧ Merged f f' a b ∧ Below g w w' := by
  have hz4 : Tryz.prog.cellsOf 56 = 3 := by kernel_rfl
  have H := Lib.hid h
  have HSC := Lib.hid hs
  have HSA := Lib.hid sA
  have HSB := Lib.hid sB
  have HLO := Lib.hid hlow
  clear h hs sA sB hlow
  have hone : ((m : Int) - (a : Int) == 1) = false := by rw [beq_eq_false_iff_ne]; omega
  have hone2 : ((b : Int) - (m : Int) == 1) = true := by rw [beq_iff_eq]; omega
  have HM1 := Lib.hid h2
  clear h1 h2
  go_enter Tryz.func71, Tryz.ntmps71
  go_wp2
  go_loopw [14, 15] (fun p q wr => ∃ i j : Nat, p = .int .i64 i ∧ q = .int .i64 j ∧ a ≤ i ∧ i ≤ j ∧ j ≤ m ∧ (∀ k, a ≤ k → k < i → (f m).score ≤ (f k).score) ∧ (∀ k, j ≤ k → k < m → (f k).score < (f m).score) ∧ FR wr g n f ∧ Below g w wr) (fun p q _ => (intOf q).toNat - (intOf p).toNat)
  case atStart => exact ⟨a, m, rfl, rfl, Nat.le_refl _, by omega, Nat.le_refl _, fun k k1 k2 => by omega, fun k k1 k2 => by omega, H.out, Below.refl _ _⟩
  case round =>
    obtain ⟨i, j, rfl, rfl, hi, hij, hj, hL, hR, hf, hbw⟩ := hrel
    have HF := Lib.hid hf
    have HB := Lib.hid hbw
    have HLR := Lib.hid (And.intro hL hR)
    clear hf hbw hL hR
    by_cases hlt : i < j
    · obtain ⟨c, hc⟩ : ∃ c, c = (i + j) / 2 := ⟨_, rfl⟩
      have hhalf : ((i : Int) + (j : Int)) / 2 = (c : Int) := by omega
      have hc1 : i ≤ c := by omega
      have hc2 : c < j := by omega
      have HC := Lib.hid hc
      clear hc
      have p0 := HF.out.c0 (show m < n by omega)
      have p1 := HF.out.c1 (show m < n by omega)
      have p2 := HF.out.c2 (show m < n by omega)
      have q0 := HF.out.c0 (show c < n by omega)
      have q1 := HF.out.c1 (show c < n by omega)
      have q2 := HF.out.c2 (show c < n by omega)
      have hcm := fun w' => cmp_any (f (m)) (f (c)) w' (by have := HSC.out (m) (by omega); omega) (by have := HSC.out (m) (by omega); omega) (by have := HSC.out (c) (by omega); omega) (by have := HSC.out (c) (by omega); omega)
      obtain ⟨x, hx⟩ : ∃ x, x = f (m) := ⟨_, rfl⟩
      obtain ⟨y, hy⟩ : ∃ x, x = f (c) := ⟨_, rfl⟩
      rw [← hx] at p0 p1 p2
      rw [← hy] at q0 q1 q2
      rw [← hx, ← hy] at hcm
      have HCM := Lib.hid hcm
      have HX := Lib.hid (And.intro hx hy)
      clear hx hy hcm
      have hlg := HF.out.lt
      go_upto_region 17 with fail
      go_cut [103] (fun s wx => s = .bool (!decide (cmpF x y < 0)) ∧ Below wr.heap.size wr wx)
      case first =>
        have jz1 : ((m : Nat) : Int) < (n : Int) := by omega
        have jz2 : ((c : Nat) : Int) < (n : Int) := by omega
        refine wp_region_still_tail 9 (by kernel_rfl) (by kernel_rfl) ?_
        simp only [List.take_succ_cons, List.take_zero, List.drop_succ_cons, List.drop_zero]
        generalize hwd : ({ wr with drawn := wr.drawn + 1 } : World) = wd
        have d0 : wd.cell? ⟨g, (m) * 3, none⟩ = some (.int .i64 x.topic) := by rw [← hwd]; exact p0
        have d1 : wd.cell? ⟨g, (m) * 3 + 1, none⟩ = some (.int .i64 x.score) := by rw [← hwd]; exact p1
        have d2 : wd.cell? ⟨g, (m) * 3 + 2, none⟩ = some (.int .i64 x.place) := by rw [← hwd]; exact p2
        have d3 : wd.cell? ⟨g, (c) * 3, none⟩ = some (.int .i64 y.topic) := by rw [← hwd]; exact q0
        have d4 : wd.cell? ⟨g, (c) * 3 + 1, none⟩ = some (.int .i64 y.score) := by rw [← hwd]; exact q1
        have d5 : wd.cell? ⟨g, (c) * 3 + 2, none⟩ = some (.int .i64 y.place) := by rw [← hwd]; exact q2
        have hbd : Below wr.heap.size wr wd := by rw [← hwd]; exact (Below.refl _ _).drew
        have HBD := Lib.hid hbd
        clear hwd p0 p1 p2 q0 q1 q2 hbd
        repeat still_step
        refine wpStill_nil ?_
        go_wp2_with (go_at_call 25; refine (HCM.out _).mono ?_; rintro e w1 ⟨rfl, hb1⟩)
        go_meet
        exact ⟨rfl, HBD.out.trans (hb1.mono HBD.out.size)⟩
      case rest =>
        obtain ⟨rfl, hbc⟩ := hcut
        have HF3 := Lib.hid (HF.out.same (hbc.block _ hlg))
        have HB3 := Lib.hid (HB.out.trans (hbc.mono (Nat.le_of_lt hlg)))
        clear p0 p1 p2 q0 q1 q2 hbc
        by_cases hcp : cmpF x y < 0
        · have hcc : (f c).score < (f m).score := by
            unfold cmpF at hcp; rw [HX.out.1, HX.out.2] at hcp; omega
          have HCC := Lib.hid hcc
          rw [decide_eq_true hcp]
          clear hcp hcc
          go_wp2
          go_roundw
          case rel =>
            refine ⟨i, c, rfl, rfl, hi, hc1, by omega, HLR.out.1, fun k k1 k2 => ?_, HF3.out, HB3.out⟩
            have := HCC.out
            have := HSA.out.score (show a ≤ c by omega) k1 k2
            omega
          case measure => simp [intOf] <;> omega
        · have hcc : (f m).score ≤ (f c).score := by
            unfold cmpF at hcp; rw [HX.out.1, HX.out.2] at hcp; omega
          have HCC := Lib.hid hcc
          rw [decide_eq_false hcp]
          clear hcp hcc
          go_wp2
          go_roundw
          case rel =>
            refine ⟨c + 1, j, by go_num, rfl, by omega, by omega, hj, fun k k1 k2 => ?_, HLR.out.2, HF3.out, HB3.out⟩
            have := HCC.out
            have := HSA.out.score k1 (show k ≤ c by omega) (by omega)
            omega
          case measure => simp [intOf] <;> omega
    · have hji : j = i := by omega
      subst hji
      go_wp2
      go_loopw [17] (fun q w2 => ∃ k : Nat, q = .int .i64 k ∧ j ≤ k ∧ k ≤ m ∧ FR w2 g n (mvL f m k) ∧ Below g w w2) (fun q _ => (intOf q).toNat)
      case atStart => exact ⟨m, rfl, by omega, Nat.le_refl _, by rw [mvL_self]; exact HF.out, HB.out⟩
      case round =>
        obtain ⟨k, rfl, hk, hki, hf2, hbw⟩ := hrel
        have HF2 := Lib.hid hf2
        have HB2 := Lib.hid hbw
        clear hf2 hbw
        by_cases hkl : j < k
        · obtain ⟨kp, rfl⟩ : ∃ kp, k = kp + 1 := ⟨k - 1, by omega⟩
          have p0 := HF2.out.c0 (show kp + 1 < n by omega)
          have p1 := HF2.out.c1 (show kp + 1 < n by omega)
          have p2 := HF2.out.c2 (show kp + 1 < n by omega)
          have q0 := HF2.out.c0 (show kp < n by omega)
          have q1 := HF2.out.c1 (show kp < n by omega)
          have q2 := HF2.out.c2 (show kp < n by omega)
          have fz := HF2.out.frozen
          obtain ⟨x, hx⟩ : ∃ x, x = mvL f m (kp + 1) (kp + 1) := ⟨_, rfl⟩
          obtain ⟨y, hy⟩ : ∃ x, x = mvL f m (kp + 1) kp := ⟨_, rfl⟩
          rw [← hx] at p0 p1 p2
          rw [← hy] at q0 q1 q2
          have HX := Lib.hid (And.intro hx hy)
          clear hx hy
          go_wp2
          go_region
          all_goals
            go_wp2
            go_roundw
            case rel =>
              have h2 := (HF2.out.put (show kp + 1 < n by omega) y).put (show kp < n by omega) x
              have h3 : FR (put3 (put3 wr g (kp + 1) y) g kp x) g n (mvL f m kp) := by
                rw [← mvL_step f (show kp < m by omega), ← HX.out.1, ← HX.out.2]; exact h2
              have h4 := h3.drew
              have h5 := (below_put3 (below_put3 HB2.out (Nat.le_refl g) y (k := kp + 1)) (Nat.le_refl g) x (k := kp)).drew
              unfold put3 at h4 h5
              exact ⟨kp, by go_num, by omega, by omega, h4, h5⟩
            case measure => simp [intOf] <;> omega
        · have hke : k = j := by omega
          subst hke
          go_wp2
          refine bodyPost_ret (results_none rfl _ _ _) rfl ?_
          refine ⟨rfl, _, HF2.out, ⟨?_, ?_, ?_⟩, HB2.out⟩
          · rw [HM1.out]
            exact mvL_srt hi hki HSA.out (fun k2 h1 h2 => HLO.out k2 m h1 h2 (Nat.le_refl _) hmb) (fun k2 h1 h2 => HLR.out.2 k2 h1 h2) (fun k2 h1 h2 => HLR.out.1 k2 h1 h2)
          · exact mvL_perm f hi hki hmb
          · exact mvL_out f hi hmb hki
end Go.Proofs.YthpbdeiphagkiaaGreatDoor
