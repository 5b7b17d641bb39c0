/- The filler of package table: tabbed, leap. -/
import Derived.Test.YtepacocajnobgaaWord
import Derived.Deep.LoopGhost
namespace Go.Proofs.Ytepacocajnobgaa
open Go.RowKit

theorem putsS_rep (n : Nat) (g : Gl) (s : St) : putsS (List.replicate (n + 1) g) s = putS g (putsS (List.replicate n g) s) := by
  rw [List.replicate_succ', putsS_snoc]
theorem sumW_rep (n : Nat) (g : Gl) : sumW (List.replicate n g) = n * g.wide := by simp [sumW, List.map_replicate]

set_option maxRecDepth 100000 in
set_option maxHeartbeats 3200000 in
theorem tabbed_any (B p : Nat) (wide : Int) (s : St) (F : Nat → Prop) (g : Gl) (w : World) (H : FilP w B p wide s F) (hB : B ≤ w.heap.size) (N : Nat) (ok : Ok N s)
    (hn : N ≤ 4000000000000) (hw : 1 ≤ wide) (hw' : wide ≤ 200) :
    Calls Try.prog 46 #[.pointer (some ⟨p, 0, none⟩), g.val] w fun e w' => e = .returned (.tuple #[]) ∧ FilPost B p wide (tabS wide g s) F w w' := by
  obtain ⟨vout, al, cl, aw, c0, c1, c2, c3, c4, cf, lp, hn1, hn2⟩ := H.cells
  have HH := Lib.hid H
  have hat0 := ok.len
  have hat1 := ok.hi
  have hst := stopAt_bd s.at_ (by omega)
  have h8 : (s.at_ / 8 + 1) * 8 = stopAt s.at_ := rfl
  have Front := Lib.hid H.drop
  clear hn1 hn2 H
  by_cases hov : wide ≤ stopAt s.at_
  · have hov' : wide ≤ (s.at_ / 8 + 1) * 8 := hov
    clear h8
    go_enter Try.func46, Try.ntmps46
    go_wp2_with fail
    obtain ⟨F0, hf0, he0⟩ := Front.out
    refine (end_any B p wide (dropS s) F0 _ (hf0.alloc _) (Nat.le_trans hB (Nat.le_trans he0.size (by simp))) (by have := ok.out; simp [dropS]; omega)).mono ?_
    rintro e w0 ⟨rfl, hpost⟩
    go_wp2
    refine bodyPost_ret (results_none rfl _ _ _) rfl ⟨rfl, ?_⟩
    unfold tabS; rw [if_pos hov]
    exact FilPost.trans (he0.alloc _) hpost
  · have hov' : (s.at_ / 8 + 1) * 8 < wide := by omega
    clear h8
    go_enter Try.func46, Try.ntmps46
    go_wp2_with fail
    obtain ⟨F0, hf0, he0⟩ := Front.out
    obtain ⟨w0, hw0⟩ : ∃ w0, w0 = (w.setCell ⟨p, 4, none⟩ (.slice none 0 0)).alloc (.cells #[.string ⟨#[32]⟩, .int .i64 1, .int .i64 g.attr, .int .i64 g.color, .int .i64 g.link] 49) := ⟨_, rfl⟩
    rw [← hw0]
    have Hf0 := Lib.hid (show FilP w0 B p wide (dropS s) F0 by rw [hw0]; exact hf0.alloc _)
    have He0 := Lib.hid (show Ev F w F0 w0 by rw [hw0]; exact he0.alloc _)
    have hsz : (w.setCell ⟨p, 4, none⟩ (.slice none 0 0)).heap.size = w.heap.size := by simp [World.setCell]
    have Hblk := Lib.hid (show w0.heap[w.heap.size]? = some (.cells #[.string ⟨#[32]⟩, .int .i64 1, .int .i64 g.attr, .int .i64 g.color, .int .i64 g.link] 49 (0, 0)) by
      rw [hw0, ← hsz]; exact heap_alloc_new _ _)
    have Hnb := Lib.hid (show ∀ j, F0 j → j ≠ w.heap.size from fun j hj e => by
      obtain ⟨_, _, _, _, _, hf⟩ := hf0
      have := hf.dom j hj; rw [hsz] at this; omega)
    have hlb : w.heap.size < w0.heap.size := by rw [hw0]; simp [hsz]
    have hB0 : B ≤ w0.heap.size := by omega
    clear hw0 hf0 he0 hsz c0 c1 c2 c3 c4 cf
    have e8 : (s.at_ / 8 + 1) * 8 = stopAt s.at_ := rfl
    go_loopg [] (stopAt s.at_ - s.at_).toNat (fun k wr => k ≤ (stopAt s.at_ - s.at_).toNat ∧ ∃ Fk, FilP wr B p wide (padS ((stopAt s.at_ - s.at_).toNat - k) g (dropS s)) Fk ∧ Ev F0 w0 Fk wr)
    case atStart => exact ⟨Nat.le_refl _, F0, by rw [Nat.sub_self]; exact Hf0.out, Ev.refl _ _⟩
    case round =>
      obtain ⟨hk, Fk, hfil, hevk⟩ := hrel
      have hat : (padS ((stopAt s.at_ - s.at_).toNat - gk) g (dropS s)).at_ = stopAt s.at_ - gk := by
        unfold padS; rw [putsS_at, sumW_blank]; simp [dropS]; omega
      have hln : (padS ((stopAt s.at_ - s.at_).toNat - gk) g (dropS s)).line.length ≤ 2000 := by
        unfold padS; rw [putsS_line]; simp [dropS]; omega
      obtain ⟨st, hst⟩ : ∃ st, st = padS ((stopAt s.at_ - s.at_).toNat - gk) g (dropS s) := ⟨_, rfl⟩
      rw [← hst] at hfil hat hln
      have Hst := Lib.hid hst
      have Hf := Lib.hid hfil
      have He := Lib.hid hevk
      clear hst hfil hevk
      obtain ⟨_, _, _, _, c0, c1, c2, c3, c4, cf, lpr, _, _⟩ := Hf.out.cells
      have hblk : wr.heap[w.heap.size]? = some (.cells #[.string ⟨#[32]⟩, .int .i64 1, .int .i64 g.attr, .int .i64 g.color, .int .i64 g.link] 49 (0, 0)) :=
        (He.out.block _ hlb (fun h => Hnb.out _ h rfl)).trans Hblk.out
      have k0 : wr.cell? ⟨w.heap.size, 0, none⟩ = some (.string ⟨#[32]⟩) := by simp [World.cell?, hblk]
      have k1 : wr.cell? ⟨w.heap.size, 1, none⟩ = some (.int .i64 1) := by simp [World.cell?, hblk]
      have k2 : wr.cell? ⟨w.heap.size, 2, none⟩ = some (.int .i64 g.attr) := by simp [World.cell?, hblk]
      have k3 : wr.cell? ⟨w.heap.size, 3, none⟩ = some (.int .i64 g.color) := by simp [World.cell?, hblk]
      have k4 : wr.cell? ⟨w.heap.size, 4, none⟩ = some (.int .i64 g.link) := by simp [World.cell?, hblk]
      have hBr : B ≤ wr.heap.size := Nat.le_trans hB0 He.out.size
      clear hblk
      by_cases hlt : 0 < gk
      · have hless : st.at_ < (s.at_ / 8 + 1) * 8 := by omega
        have a1 : 0 ≤ st.at_ := by omega
        have a2 : st.at_ ≤ 1000000 := by omega
        have Hat := Lib.hid hat
        clear hat e8
        go_wp2_with fail
        refine (put_any B p wide st Fk (blankOf g) _ Hf.out hBr (by omega) a1 a2 (by simp [blankOf]) (by simp [blankOf])).mono ?_
        rintro e w4 ⟨rfl, hpost⟩
        obtain ⟨F4, hf4, he4⟩ := hpost
        go_wp2
        go_roundg (gk - 1)
        case rel => exact ⟨by omega, F4, by
          rw [show (stopAt s.at_ - s.at_).toNat - (gk - 1) = (stopAt s.at_ - s.at_).toNat - gk + 1 by omega]
          unfold padS; rw [putsS_rep]; rw [Hst.out] at hf4; exact hf4, He.out.trans he4⟩
        case measure => omega
      · have hless : (s.at_ / 8 + 1) * 8 ≤ st.at_ := by omega
        have Hat := Lib.hid hat
        clear hat e8
        go_wp2
        go_end0
        have hg0 : gk = 0 := by omega
        subst hg0
        refine ⟨rfl, Fk, ?_, He0.out.trans He.out⟩
        unfold tabS; rw [if_neg (by omega)]
        rw [Nat.sub_zero] at Hst
        rw [← Hst.out]; exact Hf.out

set_option maxRecDepth 100000 in
set_option maxHeartbeats 3200000 in
theorem leap_any (B p : Nat) (wide : Int) (s : St) (F : Nat → Prop) (g : Gl) (w : World) (H : FilP w B p wide s F) (hB : B ≤ w.heap.size) (N : Nat) (ok : Ok N s)
    (hn : N ≤ 4000000000000) (hw : 1 ≤ wide) (hw' : wide ≤ 200) :
    Calls Try.prog 34 #[.pointer (some ⟨p, 0, none⟩), g.val] w fun e w' => e = .returned (.tuple #[]) ∧ FilPost B p wide (leapS wide g s) F w w' := by
  have HH := Lib.hid (H.alloc (.cells #[.string g.text, .int .i64 g.wide, .int .i64 g.attr, .int .i64 g.color, .int .i64 g.link] 49))
  have HE := Lib.hid ((Ev.refl F w).alloc (.cells #[.string g.text, .int .i64 g.wide, .int .i64 g.attr, .int .i64 g.color, .int .i64 g.link] 49))
  clear H
  go_enter Try.func34, Try.ntmps34
  go_wp2_with fail
  refine (kind_any g _).mono ?_
  rintro e w1 ⟨rfl, hb1⟩
  have HH1 := Lib.hid (HH.out.below hb1)
  have HE1 := Lib.hid (HE.out.below hb1)
  obtain ⟨hc1, _⟩ := bcell hb1
  have hz := hb1.size
  simp at hz
  clear hb1
  by_cases hk : g.kind = 1
  · have hk' : (g.kind == 1) = true := by simp [hk]
    have Hk := Lib.hid hk
    clear hk
    go_wp2_with fail
    refine (tabbed_any B p wide s F g _ HH1.out (by omega) N ok hn hw hw').mono ?_
    rintro e w2 ⟨rfl, hpost⟩
    go_wp2
    refine bodyPost_ret (results_none rfl _ _ _) rfl ⟨rfl, ?_⟩
    unfold leapS; rw [if_pos Hk.out]
    exact FilPost.trans HE1.out hpost
  · have hk' : (g.kind == 1) = false := by simp [hk]
    have Hk := Lib.hid hk
    clear hk
    go_wp2_with fail
    refine (end_any B p wide s F _ HH1.out (by omega) (by have := ok.out; omega)).mono ?_
    rintro e w2 ⟨rfl, hpost⟩
    go_wp2
    go_end0
    refine ⟨rfl, ?_⟩
    unfold leapS; rw [if_neg Hk.out]
    exact FilPost.trans HE1.out hpost
end Go.Proofs.Ytepacocajnobgaa
