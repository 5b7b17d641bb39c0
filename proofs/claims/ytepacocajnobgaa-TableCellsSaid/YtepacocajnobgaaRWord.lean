/- The filler of the reference: word. -/
import Derived.Test.YtepacocajnobgaaRTab
import Derived.Deep.LoopGhost
namespace Go.Proofs.Ytepacocajnobgaa
open Go.RowKit
attribute [local go_sem ↓] Go.wp_at_zero Go.wp_at_succ


theorem puts_split (ws : List Gl) (s : St) : putsS ws (dropS (putsS s.waits s)) = dropS (putsS (s.waits ++ ws) s) := by
  have h : ∀ (ws : List Gl) (s : St), putsS ws (dropS s) = dropS (putsS ws s) := by
    intro ws
    induction ws with
    | nil => intro s; rfl
    | cons g ws ih => intro s; exact ih (putS g s)
  rw [h]
  simp [putsS, List.foldl_append]

set_option maxRecDepth 100000 in
set_option maxHeartbeats 3200000 in
theorem word_oneR (B p : Nat) (wide : Int) (s : St) (F : Nat → Prop) (w : World) (H : FilR w B p wide s F) (hB : B ≤ w.heap.size) (N : Nat) (ok : Ok N s)
    (b off cap : Nat) (ws : List Gl) (hat : GlAt w b off ws) (hbF : ∀ j, F j → j ≠ b) (hfit : Fits wide ws) (h0 : 0 < ws.length) (hl : ws.length ≤ 3000000000000) (hn : N + ws.length ≤ 4000000000000) (hw : 1 ≤ wide) (hw' : wide ≤ 200)
    (hc : s.at_ + (s.waits.length : Int) + wideOf ws ≤ wide) :
    Calls Try.prog 38 #[.pointer (some ⟨p, 0, none⟩), .slice (some ⟨b, off, none⟩) ws.length cap] w fun e w' => e = .returned (.tuple #[]) ∧ FilPostR B p wide (dropS (putsS (s.waits ++ ws) s)) F w w' := by
  obtain ⟨vout, al, cl, aw, c0, c1, c2, c3, c4, cf, lp, hn1, hn2⟩ := H.cells
  have HH := Lib.hid H
  clear H
  have hwl : (ws.length : Int) ≤ wideOf ws ∧ wideOf ws ≤ 2 * ws.length := by
    rw [wideOf_snoc_of ws (fits_two hfit) (by omega)]; have := sumW_bd ws (fits_two hfit); omega
  have hat0 := ok.len
  have hone := ok.one
  obtain ⟨hwl1, hwl2⟩ := hwl
  have hblt := hat.lt h0
  have Hat := Lib.hid hat
  have hsum0 : s.at_ + (s.waits.length : Int) + sumW ws ≤ wide := by
    rw [wideOf_snoc_of ws (fits_two hfit) (by omega)] at hc; exact hc
  have Hsum0 := Lib.hid hsum0
  have e1 : IntKind.i64.wrap (s.at_ + (s.waits.length : Int)) = s.at_ + (s.waits.length : Int) := IntWalk.i64_in _ (by omega)
  have e2 : IntKind.i64.wrap (s.at_ + (s.waits.length : Int) + wideOf ws) = s.at_ + (s.waits.length : Int) + wideOf ws := IntWalk.i64_in _ (by omega)
  clear hat hsum0
  go_enter Try.func38, Try.ntmps38
  go_wp2_with fail
  refine (rwide_any _ ws _ (by omega) (.inr ⟨b, off, cap, rfl, Hat.out⟩)).mono ?_
  rintro e w1 ⟨rfl, hw1⟩
  obtain rfl : w = w1 := hw1.symm
  go_wp2_with fail
  go_quiet (fail)
  clear e1 e2
  have HH1 := Lib.hid (HH.out.below (below_drewN (Below.refl _ _) nq))
  have HE1 := Lib.hid ((Ev.refl F w).below (below_drewN (Below.refl w.heap.size w) nq))
  obtain ⟨s1, hs1⟩ : ∃ s1, s1 = dropS (putsS s.waits s) := ⟨_, rfl⟩
  have Hs1 := Lib.hid hs1
  have hs1a : s1.at_ = s.at_ + s.waits.length ∧ s1.line.length ≤ s.line.length + 1 ∧ (s1.line.length : Int) ≤ s1.at_ := by
    rw [hs1]
    have := putsS_at s.waits s
    have h2 := putsS_line s.waits s
    rw [waits_sum ok] at this
    refine ⟨this, ?_, ?_⟩
    · show (putsS s.waits s).line.length ≤ _; rw [h2, List.length_append]; omega
    · show ((putsS s.waits s).line.length : Int) ≤ (putsS s.waits s).at_; rw [this, h2, List.length_append]; omega
  obtain ⟨b1, b2, b3⟩ := hs1a
  clear hs1
  by_cases hw0 : 0 < s.waits.length
  · obtain ⟨g0, hg0⟩ : ∃ g0, s.waits = [g0] := by
      match hm : s.waits, hone, hw0 with
      | [g0], _, _ => exact ⟨g0, rfl⟩
    obtain ⟨bb, rfl⟩ : ∃ bb, aw = some ⟨bb, 0, none⟩ := by
      cases aw with
      | none => rw [hn1 rfl] at hw0; simp at hw0
      | some a =>
        obtain ⟨_, h1, h2⟩ := hn2 a rfl
        obtain ⟨a1, a2, a3⟩ := a
        simp at h1 h2; subst h1 h2
        exact ⟨a1, rfl⟩
    obtain ⟨⟨hbl, hcl⟩, _⟩ := hn2 _ rfl
    have k0 : w.cell? ⟨bb, 0, none⟩ = some (.string g0.text) := by have := hcl 0 _ (by rw [hg0]; rfl); rwa [add_none] at this
    have k1 : w.cell? ⟨bb, 1, none⟩ = some (.int .i64 g0.wide) := by have := hcl 1 _ (by rw [hg0]; rfl); rwa [add_none] at this
    have k2 : w.cell? ⟨bb, 2, none⟩ = some (.int .i64 g0.attr) := by have := hcl 2 _ (by rw [hg0]; rfl); rwa [add_none] at this
    have k3 : w.cell? ⟨bb, 3, none⟩ = some (.int .i64 g0.color) := by have := hcl 3 _ (by rw [hg0]; rfl); rwa [add_none] at this
    have k4 : w.cell? ⟨bb, 4, none⟩ = some (.int .i64 g0.link) := by have := hcl 4 _ (by rw [hg0]; rfl); rwa [add_none] at this
    have g0w : g0.wide = 1 := ok.w1 g0 (by rw [hg0]; simp)
    have hint : (0 : Int) < (s.waits.length : Int) := by omega
    have Hg0 := Lib.hid hg0
    have g0a : 0 ≤ g0.wide := by omega
    have g0b : g0.wide ≤ 1000000 := by omega
    clear hg0 hcl hn1 hn2 g0w
    go_wp2_with fail
    refine (put_anyR B p wide s F g0 _ HH1.out (by simpa using hB) (by omega) (by omega) (by omega) g0a g0b).mono ?_
    rintro e w2 ⟨rfl, hpost⟩
    obtain ⟨F2, hf2, he2⟩ := hpost
    obtain ⟨_, _, _, _, d0, d1, d2, d3, d4, df, _, _, _⟩ := hf2.cells
    obtain ⟨F3, hf3, he3⟩ := hf2.drop
    have Hf3 := Lib.hid (show FilR _ B p wide s1 F3 by rw [Hs1.out, Hg0.out]; exact hf3)
    have He3 := Lib.hid ((HE1.out.trans he2).trans he3)
    clear hf2 he2 hf3 he3 k0 k1 k2 k3 k4 c0 c1 c2 c3 c4 cf hint
    go_wp2_with fail
    go_loopw [5] (fun i wr => ∃ k : Nat, k ≤ ws.length ∧ i = .int .i64 k ∧ ∃ Fk, FilR wr B p wide (putsS (ws.take k) s1) Fk ∧ Ev F w Fk wr) (fun i _ => ws.length - (intOf i).toNat)
    case atStart => exact ⟨0, Nat.zero_le _, rfl, _, Hf3.out, He3.out⟩
    case round =>
      obtain ⟨k, hk, rfl, Fk, hfil, hevk⟩ := hrel
      have Hf := Lib.hid hfil
      have He := Lib.hid hevk
      clear hfil hevk
      have hBk : B ≤ wr.heap.size := Nat.le_trans hB He.out.size
      by_cases hlt : k < ws.length
      · obtain ⟨k0, k1, k2, k3, k4⟩ := (Hat.out.same (He.out.block b hblt (fun h => hbF b h rfl))) k hlt
        obtain ⟨v1, v2, v3⟩ := hfit _ (List.getElem_mem hlt)
        have Hts := Lib.hid (putsS_take ws s1 k hlt)
        obtain ⟨u1, u2, u3⟩ := puts_bd ws s1 k (fits_two hfit) (by omega) (by have := Hsum0.out; omega) b3
        generalize hgk : ws[k] = g at *
        have Hgk := Lib.hid hgk
        clear hgk
        go_wp2_with fail
        refine (put_anyR B p wide _ Fk g _ Hf.out hBk u1 u2 u3 (by omega) (by omega)).mono ?_
        rintro e w4 ⟨rfl, hpost⟩
        obtain ⟨F4, hf4, he4⟩ := hpost
        go_wp2
        go_roundw
        case rel => exact ⟨k + 1, by omega, by go_num, F4, by rw [Hts.out]; exact hf4, He.out.trans he4⟩
        case measure => simp [intOf]; omega
      · go_wp2
        refine bodyPost_ret (results_none rfl _ _ _) rfl ⟨rfl, Fk, ?_, He.out⟩
        rw [List.take_of_length_le (by omega)] at Hf
        rw [← puts_split, ← Hs1.out]; exact Hf.out
  · have hw00 : s.waits = [] := List.eq_nil_of_length_eq_zero (by omega)
    have hs1s : s1 = s := by rw [Hs1.out, hw00]; show dropS s = s; unfold dropS; rw [← hw00]
    have Hf3 := Lib.hid (show FilR _ B p wide s1 F by rw [hs1s]; exact HH1.out)
    have He3 := HE1
    clear c0 c1 hn1 hn2 hw00 hs1s
    go_wp2_with fail
    clear c2 c3 c4 cf
    go_loopw [5] (fun i wr => ∃ k : Nat, k ≤ ws.length ∧ i = .int .i64 k ∧ ∃ Fk, FilR wr B p wide (putsS (ws.take k) s1) Fk ∧ Ev F w Fk wr) (fun i _ => ws.length - (intOf i).toNat)
    case atStart => exact ⟨0, Nat.zero_le _, rfl, _, Hf3.out, He3.out⟩
    case round =>
      obtain ⟨k, hk, rfl, Fk, hfil, hevk⟩ := hrel
      have Hf := Lib.hid hfil
      have He := Lib.hid hevk
      clear hfil hevk
      have hBk : B ≤ wr.heap.size := Nat.le_trans hB He.out.size
      by_cases hlt : k < ws.length
      · obtain ⟨k0, k1, k2, k3, k4⟩ := (Hat.out.same (He.out.block b hblt (fun h => hbF b h rfl))) k hlt
        obtain ⟨v1, v2, v3⟩ := hfit _ (List.getElem_mem hlt)
        have Hts := Lib.hid (putsS_take ws s1 k hlt)
        obtain ⟨u1, u2, u3⟩ := puts_bd ws s1 k (fits_two hfit) (by omega) (by have := Hsum0.out; omega) b3
        generalize hgk : ws[k] = g at *
        have Hgk := Lib.hid hgk
        clear hgk
        go_wp2_with fail
        refine (put_anyR B p wide _ Fk g _ Hf.out hBk u1 u2 u3 (by omega) (by omega)).mono ?_
        rintro e w4 ⟨rfl, hpost⟩
        obtain ⟨F4, hf4, he4⟩ := hpost
        go_wp2
        go_roundw
        case rel => exact ⟨k + 1, by omega, by go_num, F4, by rw [Hts.out]; exact hf4, He.out.trans he4⟩
        case measure => simp [intOf]; omega
      · go_wp2
        refine bodyPost_ret (results_none rfl _ _ _) rfl ⟨rfl, Fk, ?_, He.out⟩
        rw [List.take_of_length_le (by omega)] at Hf
        rw [← puts_split, ← Hs1.out]; exact Hf.out

set_option maxRecDepth 100000 in
set_option maxHeartbeats 3200000 in
theorem word_moreR (B p : Nat) (wide : Int) (s : St) (F : Nat → Prop) (w : World) (H : FilR w B p wide s F) (hB : B ≤ w.heap.size) (N : Nat) (ok : Ok N s)
    (b off cap : Nat) (ws : List Gl) (hat : GlAt w b off ws) (hbF : ∀ j, F j → j ≠ b) (hfit : Fits wide ws) (h0 : 0 < ws.length) (hl : ws.length ≤ 3000000000000) (hn : N + ws.length ≤ 4000000000000) (hw : 1 ≤ wide) (hw' : wide ≤ 200)
    (hc : ¬ s.at_ + (s.waits.length : Int) + wideOf ws ≤ wide) :
    Calls Try.prog 38 #[.pointer (some ⟨p, 0, none⟩), .slice (some ⟨b, off, none⟩) ws.length cap] w fun e w' => e = .returned (.tuple #[]) ∧ FilPostR B p wide (ws.foldl (stepS wide) (startS s)) F w w' := by
  obtain ⟨vout, al, cl, aw, c0, c1, c2, c3, c4, cf, lp, hn1, hn2⟩ := H.cells
  have HH := Lib.hid H
  clear H
  have hwl : (ws.length : Int) ≤ wideOf ws ∧ wideOf ws ≤ 2 * ws.length := by
    rw [wideOf_snoc_of ws (fits_two hfit) (by omega)]; have := sumW_bd ws (fits_two hfit); omega
  have hat0 := ok.len
  have hat1 := ok.hi
  have hone := ok.one
  obtain ⟨hwl1, hwl2⟩ := hwl
  have hblt := hat.lt h0
  have Hat := Lib.hid hat
  have e1 : IntKind.i64.wrap (s.at_ + (s.waits.length : Int)) = s.at_ + (s.waits.length : Int) := IntWalk.i64_in _ (by omega)
  have e2 : IntKind.i64.wrap (s.at_ + (s.waits.length : Int) + wideOf ws) = s.at_ + (s.waits.length : Int) + wideOf ws := IntWalk.i64_in _ (by omega)
  clear hat hn1 hn2
  go_enter Try.func38, Try.ntmps38
  go_wp2_with fail
  refine (rwide_any _ ws _ (by omega) (.inr ⟨b, off, cap, rfl, Hat.out⟩)).mono ?_
  rintro e w1 ⟨rfl, hw1⟩
  obtain rfl : w = w1 := hw1.symm
  go_wp2_with fail
  go_quiet (fail)
  clear e1 e2
  have HH1 := Lib.hid (HH.out.below (below_drewN (Below.refl _ _) nq))
  have HE1 := Lib.hid ((Ev.refl F w).below (below_drewN (Below.refl w.heap.size w) nq))
  by_cases hpos : 0 < s.line.length
  · go_wp2_with fail
    refine (end_anyR B p wide s F _ HH1.out (by simpa using hB) (by have := ok.out; omega)).mono ?_
    rintro e w2 ⟨rfl, hpost⟩
    obtain ⟨F2, hf2, he2⟩ := hpost
    obtain ⟨_, _, _, _, d0, d1, d2, d3, d4, df, _, _, _⟩ := hf2.cells
    obtain ⟨F3, hf3, he3⟩ := hf2.drop
    have Hf9 := Lib.hid (show FilR _ B p wide (startS s) F3 by unfold startS; rw [if_pos hpos]; exact hf3)
    have He9 := Lib.hid ((HE1.out.trans he2).trans he3)
    clear hf2 he2 hf3 he3
    go_wp2_with fail
    clear d0 d1 d2 d3 d4 df
    clear c0 c1 c2 c3 c4 cf hat0 hat1 hone hwl1 hwl2
    go_loopw [6] (fun i wr => ∃ k : Nat, k ≤ ws.length ∧ i = .int .i64 k ∧ ∃ Fk, FilR wr B p wide ((ws.take k).foldl (stepS wide) (startS s)) Fk ∧ Ev F w Fk wr) (fun i _ => ws.length - (intOf i).toNat)
    case atStart => exact ⟨0, Nat.zero_le _, rfl, _, Hf9.out, He9.out⟩
    case round =>
      obtain ⟨k, hk, rfl, Fk, hfil, hevk⟩ := hrel
      have okk := Lib.hid (Ok.steps hw' (ws.take k) ok.start fun g hg => hfit g (List.mem_of_mem_take hg))
      have hts := stepS_take wide ws (startS s) k
      obtain ⟨st, hst⟩ : ∃ st, st = (ws.take k).foldl (stepS wide) (startS s) := ⟨_, rfl⟩
      rw [← hst] at hfil okk hts
      have Hst := Lib.hid hst
      have Hts := Lib.hid hts
      clear hst hts
      have Hf := Lib.hid hfil
      have He := Lib.hid hevk
      clear hfil hevk
      obtain ⟨_, _, _, _, c0, c1, c2, c3, c4, cf, lpr, _, _⟩ := Hf.out.cells
      have g1 := okk.out.len
      have g2 := okk.out.hi
      have g3 := okk.out.out
      have g4 : (ws.take k).length ≤ k := List.length_take_le _ _
      have hBk : B ≤ wr.heap.size := Nat.le_trans hB He.out.size
      have hbk : b < wr.heap.size := Nat.lt_of_lt_of_le hblt He.out.size
      by_cases hlt : k < ws.length
      · have hgat : GlAt wr b off ws := Hat.out.same (He.out.block b hblt (fun h => hbF b h rfl))
        have Hgat := Lib.hid hgat
        obtain ⟨k0, k1, k2, k3, k4⟩ := hgat k hlt
        obtain ⟨v1, v2, v3⟩ := hfit _ (List.getElem_mem hlt)
        clear hgat
        generalize hgk : ws[k] = g at *
        have Hgk := Lib.hid hgk
        clear hgk
        have e1 : IntKind.i64.wrap (st.at_ + g.wide) = st.at_ + g.wide := IntWalk.i64_in _ (by omega)
        have i1 : (0 : Int) ≤ (k : Int) := by omega
        have i2 : (k : Int) < (ws.length : Int) := by omega
        go_wp2_with fail
        go_quiet (fail)
        clear e1
        have Hf1 := Lib.hid (Hf.out.below (below_drewN (Below.refl wr.heap.size wr) nq))
        have He1 := Lib.hid (He.out.below (below_drewN (Below.refl wr.heap.size wr) nq))
        by_cases hov : wide < st.at_ + g.wide
        · go_wp2_with fail
          refine (end_anyR B p wide st Fk _ Hf1.out (by simpa using hBk) (by omega)).mono ?_
          rintro e w3 ⟨rfl, hpost⟩
          obtain ⟨F3, hf3, he3⟩ := hpost
          have Hf3 := Lib.hid hf3
          have He3 := Lib.hid (He1.out.trans he3)
          have hz3 : B ≤ w3.heap.size := Nat.le_trans hB He3.out.size
          obtain ⟨m0, m1, m2, m3, m4⟩ := (Hat.out.same (He3.out.block b hblt (fun h => hbF b h rfl))) k hlt
          rw [Hgk.out] at m0 m1 m2 m3 m4
          clear hf3 he3
          go_wp2_with fail
          refine (put_anyR B p wide (endS st) F3 g _ Hf3.out hz3 (by simp [endS]) (by simp [endS]) (by simp [endS]) (by omega) (by omega)).mono ?_
          rintro e w4 ⟨rfl, hpost⟩
          obtain ⟨F4, hf4, he4⟩ := hpost
          go_wp2
          go_roundw
          case rel => exact ⟨k + 1, by omega, by go_num, F4, by rw [Hts.out hlt, Hgk.out]; unfold stepS; rw [if_pos hov]; exact hf4, He3.out.trans he4⟩
          case measure => simp [intOf]; omega
        · go_wp2_with fail
          refine (put_anyR B p wide st Fk g _ Hf1.out (by simpa using hBk) (by omega) (by omega) (by omega) (by omega) (by omega)).mono ?_
          rintro e w4 ⟨rfl, hpost⟩
          obtain ⟨F4, hf4, he4⟩ := hpost
          go_wp2
          go_roundw
          case rel => exact ⟨k + 1, by omega, by go_num, F4, by rw [Hts.out hlt, Hgk.out]; unfold stepS; rw [if_neg (by omega)]; exact hf4, He1.out.trans he4⟩
          case measure => simp [intOf]; omega
      · go_wp2
        go_end0
        refine ⟨rfl, Fk, ?_, He.out⟩
        rw [List.take_of_length_le (by omega)] at Hst
        rw [← Hst.out]; exact Hf.out
  · obtain ⟨F3, hf3, he3⟩ := HH1.out.drop
    have Hf9 := Lib.hid (show FilR _ B p wide (startS s) F3 by unfold startS; rw [if_neg hpos]; exact hf3)
    have He9 := Lib.hid (HE1.out.trans he3)
    clear hf3 he3
    go_wp2_with fail
    clear c0 c1 c2 c3 c4 cf hat0 hat1 hone hwl1 hwl2
    go_loopw [6] (fun i wr => ∃ k : Nat, k ≤ ws.length ∧ i = .int .i64 k ∧ ∃ Fk, FilR wr B p wide ((ws.take k).foldl (stepS wide) (startS s)) Fk ∧ Ev F w Fk wr) (fun i _ => ws.length - (intOf i).toNat)
    case atStart => exact ⟨0, Nat.zero_le _, rfl, _, Hf9.out, He9.out⟩
    case round =>
      obtain ⟨k, hk, rfl, Fk, hfil, hevk⟩ := hrel
      have okk := Lib.hid (Ok.steps hw' (ws.take k) ok.start fun g hg => hfit g (List.mem_of_mem_take hg))
      have hts := stepS_take wide ws (startS s) k
      obtain ⟨st, hst⟩ : ∃ st, st = (ws.take k).foldl (stepS wide) (startS s) := ⟨_, rfl⟩
      rw [← hst] at hfil okk hts
      have Hst := Lib.hid hst
      have Hts := Lib.hid hts
      clear hst hts
      have Hf := Lib.hid hfil
      have He := Lib.hid hevk
      clear hfil hevk
      obtain ⟨_, _, _, _, c0, c1, c2, c3, c4, cf, lpr, _, _⟩ := Hf.out.cells
      have g1 := okk.out.len
      have g2 := okk.out.hi
      have g3 := okk.out.out
      have g4 : (ws.take k).length ≤ k := List.length_take_le _ _
      have hBk : B ≤ wr.heap.size := Nat.le_trans hB He.out.size
      have hbk : b < wr.heap.size := Nat.lt_of_lt_of_le hblt He.out.size
      by_cases hlt : k < ws.length
      · have hgat : GlAt wr b off ws := Hat.out.same (He.out.block b hblt (fun h => hbF b h rfl))
        have Hgat := Lib.hid hgat
        obtain ⟨k0, k1, k2, k3, k4⟩ := hgat k hlt
        obtain ⟨v1, v2, v3⟩ := hfit _ (List.getElem_mem hlt)
        clear hgat
        generalize hgk : ws[k] = g at *
        have Hgk := Lib.hid hgk
        clear hgk
        have e1 : IntKind.i64.wrap (st.at_ + g.wide) = st.at_ + g.wide := IntWalk.i64_in _ (by omega)
        have i1 : (0 : Int) ≤ (k : Int) := by omega
        have i2 : (k : Int) < (ws.length : Int) := by omega
        go_wp2_with fail
        go_quiet (fail)
        clear e1
        have Hf1 := Lib.hid (Hf.out.below (below_drewN (Below.refl wr.heap.size wr) nq))
        have He1 := Lib.hid (He.out.below (below_drewN (Below.refl wr.heap.size wr) nq))
        by_cases hov : wide < st.at_ + g.wide
        · go_wp2_with fail
          refine (end_anyR B p wide st Fk _ Hf1.out (by simpa using hBk) (by omega)).mono ?_
          rintro e w3 ⟨rfl, hpost⟩
          obtain ⟨F3, hf3, he3⟩ := hpost
          have Hf3 := Lib.hid hf3
          have He3 := Lib.hid (He1.out.trans he3)
          have hz3 : B ≤ w3.heap.size := Nat.le_trans hB He3.out.size
          obtain ⟨m0, m1, m2, m3, m4⟩ := (Hat.out.same (He3.out.block b hblt (fun h => hbF b h rfl))) k hlt
          rw [Hgk.out] at m0 m1 m2 m3 m4
          clear hf3 he3
          go_wp2_with fail
          refine (put_anyR B p wide (endS st) F3 g _ Hf3.out hz3 (by simp [endS]) (by simp [endS]) (by simp [endS]) (by omega) (by omega)).mono ?_
          rintro e w4 ⟨rfl, hpost⟩
          obtain ⟨F4, hf4, he4⟩ := hpost
          go_wp2
          go_roundw
          case rel => exact ⟨k + 1, by omega, by go_num, F4, by rw [Hts.out hlt, Hgk.out]; unfold stepS; rw [if_pos hov]; exact hf4, He3.out.trans he4⟩
          case measure => simp [intOf]; omega
        · go_wp2_with fail
          refine (put_anyR B p wide st Fk g _ Hf1.out (by simpa using hBk) (by omega) (by omega) (by omega) (by omega) (by omega)).mono ?_
          rintro e w4 ⟨rfl, hpost⟩
          obtain ⟨F4, hf4, he4⟩ := hpost
          go_wp2
          go_roundw
          case rel => exact ⟨k + 1, by omega, by go_num, F4, by rw [Hts.out hlt, Hgk.out]; unfold stepS; rw [if_neg (by omega)]; exact hf4, He1.out.trans he4⟩
          case measure => simp [intOf]; omega
      · go_wp2
        go_end0
        refine ⟨rfl, Fk, ?_, He.out⟩
        rw [List.take_of_length_le (by omega)] at Hst
        rw [← Hst.out]; exact Hf.out

theorem word_anyR (B p : Nat) (wide : Int) (s : St) (F : Nat → Prop) (w : World) (H : FilR w B p wide s F) (hB : B ≤ w.heap.size) (N : Nat) (ok : Ok N s)
    (v : Value) (ws : List Gl) (hv : GlSl w v ws) (hbF : ∀ j b, F j → v.ownBlock = some b → j ≠ b) (hfit : Fits wide ws) (h0 : 0 < ws.length) (hl : ws.length ≤ 3000000000000) (hn : N + ws.length ≤ 4000000000000) (hw : 1 ≤ wide) (hw' : wide ≤ 200) :
    Calls Try.prog 38 #[.pointer (some ⟨p, 0, none⟩), v] w fun e w' => e = .returned (.tuple #[]) ∧ FilPostR B p wide (wordS wide ws s) F w w' := by
  rcases hv with ⟨_, rfl⟩ | ⟨b, off, cap, rfl, hat⟩
  · simp at h0
  · unfold wordS
    by_cases hc : s.at_ + (s.waits.length : Int) + wideOf ws ≤ wide
    · rw [if_pos hc]; exact word_oneR B p wide s F w H hB N ok b off cap ws hat (fun j hj => hbF j b hj rfl) hfit h0 hl hn hw hw' hc
    · rw [if_neg hc]; exact word_moreR B p wide s F w H hB N ok b off cap ws hat (fun j hj => hbF j b hj rfl) hfit h0 hl hn hw hw' hc
end Go.Proofs.Ytepacocajnobgaa
