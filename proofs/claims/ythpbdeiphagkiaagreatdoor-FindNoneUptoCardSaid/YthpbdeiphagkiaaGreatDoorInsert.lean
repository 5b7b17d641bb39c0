/- slices.insertionSortCmpFunc. -/
import Derived.Test.YthpbdeiphagkiaaGreatDoorRotate
import Derived.BigQuiet
import Derived.Deep.QuietTactic
import Derived.StillTailTactics
namespace Go.Proofs.YthpbdeiphagkiaaGreatDoor
open Go.RowKit Find

/-- Topics that rise. -/
def Tup (f : RowF) (a b : Nat) : Prop := ∀ i j, a ≤ i → i < j → j < b → (f i).topic < (f j).topic
theorem Merged.start (f : RowF) (a b : Nat) (h : b ≤ a + 1) : Merged f f a b := ⟨srt_iff.2 fun i j h1 h2 h3 => by omega, List.Perm.refl _, Out.refl _ _ _⟩
theorem ScOk.of_perm {f f' : RowF} {a b n : Nat} (h : ScOk f n) (hp : Merged f f' a b) (hb : b ≤ n) : ScOk f' n := fun k hk => by
  by_cases hab : a ≤ k ∧ k < b
  · obtain ⟨i, h1, h2, h3⟩ := mem_seg.1 (hp.perm.mem_iff.1 (mem_seg.2 ⟨k, hab.1, hab.2, rfl⟩))
    rw [← h3]; exact h i (by omega)
  · rw [hp.out k (by omega)]; exact h k hk
/-- One more element in its place. -/
theorem Merged.more {f fr : RowF} {a b i q : Nat} (h : Merged f fr a i) (ht : Tup f a b) (hib : i < b) (h1 : a ≤ q) (h2 : q ≤ i) (hR : ∀ k, q ≤ k → k < i → (fr k).score < (fr i).score)
    (hL : q = a ∨ (fr i).score ≤ (fr (q - 1)).score) : Merged f (mvL fr i q) a (i + 1) := by
  refine ⟨mvL_srt h1 h2 h.srt (fun k k1 k2 => ?_) hR (fun k k1 k2 => ?_), ?_, ?_⟩
  · obtain ⟨j, j1, j2, j3⟩ := mem_seg.1 (h.perm.mem_iff.1 (mem_seg.2 ⟨k, k1, k2, rfl⟩))
    rw [← j3, h.out i (by omega)]
    exact ht j i j1 j2 hib
  · rcases hL with e | e
    · omega
    · have := h.srt.score k1 (show k ≤ q - 1 by omega) (show q - 1 < i by omega)
      omega
  · refine (mvL_perm fr h1 h2 (Nat.lt_succ_self i)).trans ?_
    rw [← seg_app fr (show a ≤ i by omega) (show i ≤ i + 1 by omega), ← seg_app f (show a ≤ i by omega) (show i ≤ i + 1 by omega), seg_one, seg_one, h.out i (by omega)]
    exact h.perm.append_right _
  · exact (h.out.wide (Nat.le_refl _) (by omega)).trans (mvL_out fr h1 (Nat.lt_succ_self i) h2)
theorem mvL_at (s : RowF) (p q : Nat) : mvL s p q q = s p := by unfold mvL; rw [if_pos rfl]
theorem mvL_before (s : RowF) (p q k : Nat) (h : k < q) : mvL s p q k = s k := by unfold mvL; rw [if_neg (by omega), if_neg (by omega)]

set_option maxHeartbeats 8000000 in
set_option maxRecDepth 100000 in
theorem insert_any (f : RowF) (g n cap a b : Nat) (w : World) (h : FR w g n f) (hab : a ≤ b) (hb : b ≤ n) (hn : n ≤ 1099511627776) (hs : ScOk f n) (ht : Tup f a b) :
    Calls Tryz.prog 70 #[.slice (some ⟨g, 0, none⟩) n cap, .int .i64 a, .int .i64 b, .func (.func 25) #[] #[]] w fun e w' => e = .returned (.tuple #[]) ∧ ∃ f', FR w' g n f' ∧ Merged f f' a b ∧ Below g w w' := by
  have hz4 : Tryz.prog.cellsOf 56 = 3 := by kernel_rfl
  have H := Lib.hid h
  have HSC := Lib.hid hs
  have HTU := Lib.hid ht
  clear h hs ht
  go_enter Tryz.func70, Tryz.ntmps70
  go_wp2
  go_loopw [8] (fun q wr => ∃ (i : Nat) (fr : RowF), a + 1 ≤ i ∧ (i ≤ b ∨ i = a + 1) ∧ q = .int .i64 i ∧ FR wr g n fr ∧ Merged f fr a (min i b) ∧ Below g w wr) (fun q _ => b + 1 - (intOf q).toNat)
  case atStart => exact ⟨a + 1, f, by omega, by omega, by go_num, H.out, Merged.start f a _ (by omega), Below.refl _ _⟩
  case round =>
    obtain ⟨i, fr, hi, hib, rfl, hf, hm, hbw⟩ := hrel
    have HF := Lib.hid hf
    have HM := Lib.hid hm
    have HB := Lib.hid hbw
    clear hf hm hbw
    by_cases hlt : i < b
    · go_wp2
      go_loopw [9] (fun q w2 => ∃ j : Nat, a ≤ j ∧ j ≤ i ∧ q = .int .i64 j ∧ FR w2 g n (mvL fr i j) ∧ (∀ k, j ≤ k → k < i → (fr k).score < (fr i).score) ∧ Below g w w2) (fun q _ => (intOf q).toNat)
      case atStart => exact ⟨i, by omega, Nat.le_refl _, rfl, by rw [mvL_self]; exact HF.out, fun k k1 k2 => by omega, HB.out⟩
      case round =>
        obtain ⟨j, haj, hji, rfl, hf2, hsc, hbw⟩ := hrel
        have HF2 := Lib.hid hf2
        have HSL := Lib.hid hsc
        have HB2 := Lib.hid hbw
        clear hf2 hsc hbw
        have hmi : min i b = i := by omega
        by_cases hja : a < j
        · obtain ⟨jp, rfl⟩ : ∃ jp, j = jp + 1 := ⟨j - 1, by omega⟩
          have HMI := Lib.hid hmi
          clear hmi
          have hd1 : decide ((a : Int) < (jp : Int) + 1) = true := decide_eq_true (by omega)
          have p0 := HF2.out.c0 (show jp + 1 < n by omega)
          have p1 := HF2.out.c1 (show jp + 1 < n by omega)
          have p2 := HF2.out.c2 (show jp + 1 < n by omega)
          have q0 := HF2.out.c0 (show jp < n by omega)
          have q1 := HF2.out.c1 (show jp < n by omega)
          have q2 := HF2.out.c2 (show jp < n by omega)
          have fz := HF2.out.frozen
          rw [mvL_at] at p0 p1 p2
          rw [mvL_before fr i (jp + 1) jp (by omega)] at q0 q1 q2
          have hcm := fun w' => cmp_any (fr i) (fr jp) w' (by have := (HSC.out.of_perm HM.out (by omega)) i (by omega); omega) (by have := (HSC.out.of_perm HM.out (by omega)) i (by omega); omega) (by have := (HSC.out.of_perm HM.out (by omega)) jp (by omega); omega) (by have := (HSC.out.of_perm HM.out (by omega)) jp (by omega); omega)
          have hstop : ¬ cmpF (fr i) (fr jp) < 0 → Merged f (mvL fr i (jp + 1)) a (i + 1) := fun h => by
            have hm := HM.out
            rw [HMI.out] at hm
            exact Merged.more hm HTU.out hlt (by omega) hji HSL.out (.inr (by unfold cmpF at h; simp only [Nat.add_sub_cancel]; omega))
          have HST := Lib.hid hstop
          obtain ⟨x, hx⟩ : ∃ x, x = fr i := ⟨_, rfl⟩
          obtain ⟨y, hy⟩ : ∃ x, x = fr jp := ⟨_, rfl⟩
          rw [← hx] at p0 p1 p2
          rw [← hy] at q0 q1 q2
          rw [← hx, ← hy] at hcm hstop
          have HCM := Lib.hid hcm
          have HX := Lib.hid (And.intro hx hy)
          have HST := Lib.hid hstop
          clear hx hy hcm hstop
          have hlg := HF2.out.lt
          go_upto_region 4 with fail
          go_cut [34] (fun s wx => s = .bool (decide (cmpF x y < 0)) ∧ Below wr.heap.size wr wx)
          case first =>
            have jz : (jp : Int) + 1 < (n : Int) := by omega
            have jz1 : (jp : Int) < (n : Int) := by omega
            have jz2 : (0 : Int) ≤ (jp : Int) + 1 := by omega
            have e0 : ((jp : Int) + 1).toNat = jp + 1 := by omega
            have hwp : IntKind.i64.wrap (jp : Int) = (jp : Int) := by rw [IntKind.wrap_i64]; omega
            refine wp_region_still_tail 14 (by kernel_rfl) (by kernel_rfl) ?_
            simp only [List.take_succ_cons, List.take_zero, List.drop_succ_cons, List.drop_zero]
            generalize hwd : ({ wr with drawn := wr.drawn + 1 } : World) = wd
            have d0 : wd.cell? ⟨g, (jp + 1) * 3, none⟩ = some (.int .i64 x.topic) := by rw [← hwd]; exact p0
            have d1 : wd.cell? ⟨g, (jp + 1) * 3 + 1, none⟩ = some (.int .i64 x.score) := by rw [← hwd]; exact p1
            have d2 : wd.cell? ⟨g, (jp + 1) * 3 + 2, none⟩ = some (.int .i64 x.place) := by rw [← hwd]; exact p2
            have d3 : wd.cell? ⟨g, jp * 3, none⟩ = some (.int .i64 y.topic) := by rw [← hwd]; exact q0
            have d4 : wd.cell? ⟨g, jp * 3 + 1, none⟩ = some (.int .i64 y.score) := by rw [← hwd]; exact q1
            have d5 : wd.cell? ⟨g, jp * 3 + 2, none⟩ = some (.int .i64 y.place) := by rw [← hwd]; exact q2
            have hbd : Below wr.heap.size wr wd := by rw [← hwd]; exact (Below.refl _ _).drew
            have HBD := Lib.hid hbd
            clear hwd p0 p1 p2 q0 q1 q2 hbd
            repeat still_step
            refine wpStill_nil ?_
            go_wp2_with (go_at_call 25; refine (HCM.out _).mono ?_; rintro e w1 ⟨rfl, hb1⟩)
            go_meet
            exact ⟨rfl, HBD.out.trans (hb1.mono HBD.out.size)⟩
          case rest =>
            obtain ⟨rfl, hbc⟩ := hcut
            have HF3 := Lib.hid (HF2.out.same (hbc.block _ hlg))
            have HB3 := Lib.hid (HB2.out.trans (hbc.mono (Nat.le_of_lt hlg)))
            clear p0 p1 p2 q0 q1 q2 fz hbc
            have p0 := HF3.out.c0 (show jp + 1 < n by omega)
            have p1 := HF3.out.c1 (show jp + 1 < n by omega)
            have p2 := HF3.out.c2 (show jp + 1 < n by omega)
            have q0 := HF3.out.c0 (show jp < n by omega)
            have q1 := HF3.out.c1 (show jp < n by omega)
            have q2 := HF3.out.c2 (show jp < n by omega)
            have fz := HF3.out.frozen
            rw [mvL_at, ← HX.out.1] at p0 p1 p2
            rw [mvL_before fr i (jp + 1) jp (by omega), ← HX.out.2] at q0 q1 q2
            by_cases hc : cmpF x y < 0
            · have hd := decide_eq_true hc
              rw [hd]
              have HC := Lib.hid hc
              clear hc hd
              go_wp2
              go_region
              all_goals
                go_wp2
                go_roundw
                case rel =>
                  have h2 := (HF3.out.put (show jp + 1 < n by omega) y).put (show jp < n by omega) x
                  have ey : y = mvL fr i (jp + 1) jp := by rw [mvL_before fr i (jp + 1) jp (by omega)]; exact HX.out.2
                  have ex : x = mvL fr i (jp + 1) (jp + 1) := by rw [mvL_at]; exact HX.out.1
                  have h3 : FR (put3 (put3 wc g (jp + 1) y) g jp x) g n (mvL fr i jp) := by
                    rw [← mvL_step fr (show jp < i by omega), ← ey, ← ex]; exact h2
                  have h4 := h3.drew
                  have h5 := (below_put3 (below_put3 HB3.out (Nat.le_refl g) y (k := jp + 1)) (Nat.le_refl g) x (k := jp)).drew
                  unfold put3 at h4 h5
                  refine ⟨jp, by omega, by omega, by go_num, h4, fun k k1 k2 => ?_, h5⟩
                  by_cases hk : k = jp
                  · subst hk
                    have := HC.out
                    unfold cmpF at this
                    rw [← HX.out.1, ← HX.out.2]; omega
                  · exact HSL.out k (by omega) k2
                case measure => simp [intOf] <;> omega
            · have hd := decide_eq_false hc
              rw [hd]
              have HC := Lib.hid hc
              clear hc hd
              go_wp2
              go_roundw
              case rel => exact ⟨i + 1, _, by omega, by omega, by go_num, HF3.out, by rw [show min (i + 1) b = i + 1 by omega]; exact HST.out HC.out, HB3.out⟩
              case measure => simp [intOf] <;> omega
        · have hja' : j = a := by omega
          have HJA := Lib.hid hja'
          clear hja'
          have hd1 : decide (a < j) = false := decide_eq_false hja
          go_wp2
          go_quiet (fail)
          go_wp2
          go_roundw
          case rel =>
            refine ⟨i + 1, _, by omega, by omega, by go_num, HF2.out, ?_, below_drewN HB2.out nq⟩
            rw [show min (i + 1) b = i + 1 by omega]
            have hm := HM.out
            rw [hmi] at hm
            exact Merged.more hm HTU.out hlt haj hji HSL.out (.inl HJA.out)
          case measure => simp [intOf] <;> omega
    · have hmi : min i b = b := by omega
      have hm := HM.out
      rw [hmi] at hm
      have HM2 := Lib.hid hm
      clear hm hmi
      go_wp2
      go_end0
      exact ⟨rfl, fr, HF.out, HM2.out, HB.out⟩
end Go.Proofs.YthpbdeiphagkiaaGreatDoor
