/- The filler of package table: word. -/
import Derived.Test.YtepacocajnobgaaFil
namespace Go.Proofs.Ytepacocajnobgaa
open Go.RowKit
attribute [local go_sem ↓] Go.wp_at_zero Go.wp_at_succ

theorem FilP.drop {w : World} {B p : Nat} {wide : Int} {s : St} {F : Nat → Prop} (H : FilP w B p wide s F) : FilPost B p wide (dropS s) F w (w.setCell ⟨p, 4, none⟩ (.slice none 0 0)) := by
  obtain ⟨vout, vline, vwaits, vs, hp, hF⟩ := H
  exact ⟨F, ⟨vout, vline, .slice none 0 0, vs, by rw [setCell_heap hp]; rfl, (hF.setp _ _).noWait⟩, (Ev.refl F w).setCell (.inl hF.base.2.1) _⟩
theorem FilPost.trans {w w1 w2 : World} {B p : Nat} {wide : Int} {s' : St} {F F1 : Nat → Prop} (h1 : Ev F w F1 w1) (h2 : FilPost B p wide s' F1 w1 w2) : FilPost B p wide s' F w w2 := by
  obtain ⟨F2, h3, h4⟩ := h2
  exact ⟨F2, h3, h1.trans h4⟩
theorem FilP.alloc {w : World} {B p : Nat} {wide : Int} {s : St} {F : Nat → Prop} (H : FilP w B p wide s F) (o : Obj) : FilP (w.alloc o) B p wide s F := by
  obtain ⟨vout, vline, vwaits, vs, hp, hF⟩ := H
  exact ⟨vout, vline, vwaits, vs, by rw [Below.heap_alloc _ _ _ hF.base.2.2]; exact hp, hF.alloc o⟩
theorem FilP.below {w w' : World} {B p : Nat} {wide : Int} {s : St} {F : Nat → Prop} (H : FilP w B p wide s F) (hb : Below w.heap.size w w') : FilP w' B p wide s F := by
  obtain ⟨vout, vline, vwaits, vs, hp, hF⟩ := H
  exact ⟨vout, vline, vwaits, vs, by rw [hb.block _ hF.base.2.2]; exact hp, hF.below hb⟩
/-- The struct's cells, for a walk. -/
theorem FilP.cells {w : World} {B p : Nat} {wide : Int} {s : St} {F : Nat → Prop} (H : FilP w B p wide s F) :
    ∃ vout al cl aw, w.cell? ⟨p, 0, none⟩ = some (.int .i64 wide) ∧ w.cell? ⟨p, 1, none⟩ = some vout ∧ w.cell? ⟨p, 2, none⟩ = some (.slice al s.line.length cl) ∧ w.cell? ⟨p, 3, none⟩ = some (.int .i64 s.at_) ∧
      w.cell? ⟨p, 4, none⟩ = some (.slice aw s.waits.length s.waits.length) ∧ (∀ i, w.frozen? ⟨p, i, none⟩ = false) ∧ p < w.heap.size ∧ (aw = none → s.waits = []) ∧ (∀ b, aw = some b → (b.block < w.heap.size ∧ ∀ j u, (glCells s.waits)[j]? = some u → w.cell? (b.add j) = some u) ∧ b.off = 0 ∧ b.spot = none) := by
  obtain ⟨vout, vline, vwaits, vs, hp, hF⟩ := H
  obtain ⟨ao, rfl, h1, h2⟩ := hF.waitsO
  obtain ⟨al, cl, rfl⟩ : ∃ al cl, vline = .slice al s.line.length cl := by
    rcases hF.lineO.2 with ⟨rfl, h0⟩ | ⟨g, cap, cur, rfl, _⟩
    · exact ⟨none, 0, by rw [h0]⟩
    · exact ⟨_, _, rfl⟩
  refine ⟨vout, al, cl, ao, ?_, ?_, ?_, ?_, ?_, fun i => ?_, hF.base.2.2, h1, h2⟩ <;> simp [World.cell?, World.frozen?, hp]

set_option maxRecDepth 100000 in
set_option maxHeartbeats 3200000 in
theorem word_one (B p : Nat) (wide : Int) (s : St) (F : Nat → Prop) (w : World) (H : FilP w B p wide s F) (hB : B ≤ w.heap.size) (N : Nat) (ok : Ok N s)
    (b off cap : Nat) (ws : List Gl) (hat : GlAt w b off ws) (hfit : Fits wide ws) (h0 : 0 < ws.length) (hl : ws.length ≤ 3000000000000) (_hn : N ≤ 4000000000000) (hw : 1 ≤ wide) (hw' : wide ≤ 200)
    (hc : s.at_ + (s.waits.length : Int) + wideOf ws ≤ wide) :
    Calls Try.prog 32 #[.pointer (some ⟨p, 0, none⟩), .slice (some ⟨b, off, none⟩) ws.length cap] w fun e w' => e = .returned (.tuple #[]) ∧ FilPost B p wide (dropS (putsS (s.waits ++ ws) s)) F w w' := by
  obtain ⟨i0, hi0, hz0, hz1, hz2⟩ := info_parts info49
  obtain ⟨vout, al, cl, aw, c0, c1, c2, c3, c4, cf, lp, hn1, hn2⟩ := H.cells
  have HH := Lib.hid H
  clear H
  have hwl : (ws.length : Int) ≤ wideOf ws ∧ wideOf ws ≤ 2 * ws.length := by
    rw [wideOf_snoc_of ws (fits_two hfit) (by omega)]; have := sumW_bd ws (fits_two hfit); omega
  have hat0 := ok.len
  have hone := ok.one
  obtain ⟨hwl1, hwl2⟩ := hwl
  have e1 : IntKind.i64.wrap (s.at_ + (s.waits.length : Int)) = s.at_ + (s.waits.length : Int) := IntWalk.i64_in _ (by omega)
  have e2 : IntKind.i64.wrap (s.at_ + (s.waits.length : Int) + wideOf ws) = s.at_ + (s.waits.length : Int) + wideOf ws := IntWalk.i64_in _ (by omega)
  go_enter Try.func32, Try.ntmps32
  go_wp2_with fail
  go_region_held3 (fun w' => w'.cell? ⟨p, 0, none⟩ = some (.int .i64 wide) ∧ w'.cell? ⟨p, 3, none⟩ = some (.int .i64 s.at_) ∧ w'.cell? ⟨p, 4, none⟩ = some (.slice aw s.waits.length s.waits.length))
    (first | (go_keep; done) | (have q := fun i => hb1.cell (p := ⟨p, i, none⟩) (by simpa using lp); simp at q; simp [q, c0, c3, c4]; done))
    ((go_at_call 25; refine (pwide_any _ ws _ (by omega) (.inr ⟨b, off, cap, rfl, hat.same (by rfl)⟩)).mono ?_; rintro e w1 ⟨rfl, hb1⟩))
  clear e1 e2
  obtain ⟨d0, d3, d4⟩ := ‹_ ∧ _ ∧ _›
  have hb2 : Below w.heap.size w w1 := ((Below.refl w.heap.size w).drew).trans hb1
  clear hb1
  have HH1 := Lib.hid (FilP.below HH.out hb2)
  have hat1 := hat.same (w' := w1) (hb2.block b (hat.lt h0))
  have hz : w.heap.size ≤ w1.heap.size := hb2.size
  have ha := Lib.hid (show aw = none → s.waits.length = 0 ∧ s.waits.length = 0 from fun e => by simp [hn1 e])
  have hb := Lib.hid (show ∀ a, aw = some a → ∀ j u, (glCells s.waits)[j]? = some u → w1.cell? (a.add j) = some u from fun a e j u hu => by
    obtain ⟨⟨q1, q2⟩, _⟩ := hn2 a e
    have hblk : (a.add j).block = a.block := by unfold Addr.add; split <;> rfl
    rw [World.cell?_of_block (w := w) (by rw [hblk]; exact hb2.block _ q1)]; exact q2 j u hu)
  clear hn1 hn2
  go_wp2_with (at_builtin; go_loud (refine wpList_append_grows _ rfl (.tmp 29) (.tmp 30) 22 rfl 49 i0 _ 5 48 Try.underlying22 hi0 hz0 hz1 hz2 rfl (by omega) aw s.waits.length s.waits.length (glCells s.waits) rfl ha.out (glCells_length _) hb.out ⟨b, off, none⟩ ws.length cap (glCells ws) rfl (glCells_length _) hat1.adds (glCells_one _) (by omega) (by unfold maxLen; omega) (by omega) ?_); intro v2 w2 hown hgrow; obtain ⟨gg, cap2, rfl, hgg, hggl⟩ := hown.form (by omega))
  obtain ⟨ll, hll⟩ : ∃ ll, ll = s.waits ++ ws := ⟨_, rfl⟩
  have hlen : s.waits.length + ws.length = ll.length := by rw [hll]; simp
  have hgat : GlAt w2 gg 0 ll := by
    rcases glSl_of_owns (l := ll) (by rw [← hlen, hll, glCells_append]; exact hown) with ⟨_, h⟩ | ⟨b', o', c', h, h'⟩
    · exfalso; have h2 := congrArg List.length h; rw [← hlen, List.length_nil] at h2; omega
    · simp at h; obtain ⟨⟨rfl, rfl⟩, _⟩ := h; exact h'
  have hgF : ∀ k, F k → k ≠ gg := fun k hk e => by
    obtain ⟨_, _, _, _, _, hf⟩ := HH.out
    have := hf.dom k hk; omega
  have hgFc := Lib.hid hgF
  clear hgF hown hat1 hat ha hb HH1 c0 c1 c2 c3 c4
  have hev : Ev F w F w2 := ((Ev.refl F w).below hb2).grown hgrow fun k hk => by cases hk
  have hHF : FilP w2 B p wide s F := FilP.below (FilP.below HH.out hb2) ⟨hgrow.os, hgrow.tape, hgrow.output, hgrow.size, fun k hk => hgrow.block k hk (by simp)⟩
  have hll5 : ll.length ≤ 1000 := by omega
  have hsum : s.at_ + sumW ll ≤ 1000 := by
    rw [hll, sumW_append, waits_sum ok]
    rw [wideOf_snoc_of ws (fits_two hfit) (by omega)] at hc
    omega
  have htwo : ∀ g ∈ ll, 1 ≤ g.wide ∧ g.wide ≤ 2 := by rw [hll]; exact both_two ok hfit
  have hbd := fun k => puts_bd ll s k htwo (by omega) hsum hat0
  have Hbd := Lib.hid hbd
  have Htwo := Lib.hid htwo
  have Hll := Lib.hid hll
  have hle1 : s.waits.length + ws.length ≤ ll.length := by omega
  have hle2 : ll.length ≤ s.waits.length + ws.length := by omega
  rw [hlen]
  clear hbd htwo hll hsum hc hwl1 hwl2 hlen
  have HEv := Lib.hid hev
  have HHF := Lib.hid hHF
  have Hgat := Lib.hid hgat
  clear hev hHF hgat d0 d3 d4 hgrow
  go_loopw [33] (fun i wr => ∃ k : Nat, k ≤ ll.length ∧ i = .int .i64 k ∧ GlAt wr gg 0 ll ∧ gg < wr.heap.size ∧ ∃ Fk, (∀ j, Fk j → j ≠ gg) ∧ FilP wr B p wide (putsS (ll.take k) s) Fk ∧ Ev F w Fk wr) (fun i _ => ll.length - (intOf i).toNat)
  case atStart => exact ⟨0, Nat.zero_le _, rfl, Hgat.out, hggl, F, hgFc.out, HHF.out, HEv.out⟩
  case round =>
    obtain ⟨k, hk, rfl, hgat, hgl, Fk, hFk, hfil, hevk⟩ := hrel
    have Hk := Lib.hid hFk
    have Hf := Lib.hid hfil
    have He := Lib.hid hevk
    clear hFk hfil hevk
    by_cases hlt : k < ll.length
    · obtain ⟨c0, c1, c2, c3, c4⟩ := hgat k hlt
      simp only [Nat.zero_add] at c0 c1 c2 c3 c4
      have Hg := Lib.hid hgat
      clear hgat
      obtain ⟨u1, u2, u3⟩ := Hbd.out k
      have hv := Htwo.out _ (List.getElem_mem hlt)
      obtain ⟨hv1, hv2⟩ := hv
      have hBk := Lib.hid (show B ≤ wr.heap.size from Nat.le_trans hB He.out.size)
      go_wp2_with (go_at_call 45; go_loud (refine (put_any B p wide (putsS (ll.take k) s) Fk ll[k] _ (Hf.out.alloc _) (by simp; have := hBk.out; omega) u1 u2 u3 (by omega) (by omega)).mono ?_); rintro e w3 ⟨rfl, hpost⟩)
      obtain ⟨Fk', hf', he'⟩ := hpost
      go_roundw
      case rel =>
        refine ⟨k + 1, by omega, by go_num, Hg.out.same ?_, Nat.lt_of_lt_of_le hgl (Nat.le_trans (by simp) he'.size), Fk', fun j hj e => ?_, ?_, (He.out.alloc _).trans he'⟩
        · rw [he'.block gg (by simp; omega) (fun h => Hk.out _ h rfl)]; exact Below.heap_alloc _ _ _ hgl
        · rcases he'.foot j hj with h | h
          · exact Hk.out j h e
          · simp at h; omega
        · rw [putsS_take ll s k hlt]; exact hf'
      case measure => simp [intOf]; omega
    · have hkl : k = ll.length := by omega
      subst hkl
      obtain ⟨_, _, _, _, c0, c1, c2, c3, c4, cf, _, _, _⟩ := Hf.out.cells
      go_wp2
      refine bodyPost_ret (results_none rfl _ _ _) rfl ?_
      rw [List.take_length] at Hf
      refine ⟨rfl, ?_⟩
      rw [← Hll.out]
      exact FilPost.trans He.out Hf.out.drop

theorem FilPost.refl {w : World} {B p : Nat} {wide : Int} {s : St} {F : Nat → Prop} (H : FilP w B p wide s F) : FilPost B p wide s F w w := ⟨F, H, Ev.refl F w⟩

set_option maxRecDepth 100000 in
set_option maxHeartbeats 3200000 in
theorem word_more (B p : Nat) (wide : Int) (s : St) (F : Nat → Prop) (w : World) (H : FilP w B p wide s F) (hB : B ≤ w.heap.size) (N : Nat) (ok : Ok N s)
    (b off cap : Nat) (ws : List Gl) (hat : GlAt w b off ws) (hbF : ∀ j, F j → j ≠ b) (hfit : Fits wide ws) (h0 : 0 < ws.length) (hl : ws.length ≤ 3000000000000) (hn : N + ws.length ≤ 4000000000000) (hw : 1 ≤ wide) (hw' : wide ≤ 200)
    (hc : ¬ s.at_ + (s.waits.length : Int) + wideOf ws ≤ wide) :
    Calls Try.prog 32 #[.pointer (some ⟨p, 0, none⟩), .slice (some ⟨b, off, none⟩) ws.length cap] w fun e w' => e = .returned (.tuple #[]) ∧ FilPost B p wide (ws.foldl (stepS wide) (startS s)) F w w' := by
  obtain ⟨vout, al, cl, aw, c0, c1, c2, c3, c4, cf, lp, hn1, hn2⟩ := H.cells
  have HH := Lib.hid H
  have hwl : (ws.length : Int) ≤ wideOf ws ∧ wideOf ws ≤ 2 * ws.length := by
    rw [wideOf_snoc_of ws (fits_two hfit) (by omega)]; have := sumW_bd ws (fits_two hfit); omega
  have hat0 := ok.len
  have hat1 := ok.hi
  have hone := ok.one
  obtain ⟨hwl1, hwl2⟩ := hwl
  have e1 : IntKind.i64.wrap (s.at_ + (s.waits.length : Int)) = s.at_ + (s.waits.length : Int) := IntWalk.i64_in _ (by omega)
  have e2 : IntKind.i64.wrap (s.at_ + (s.waits.length : Int) + wideOf ws) = s.at_ + (s.waits.length : Int) + wideOf ws := IntWalk.i64_in _ (by omega)
  have hblt := hat.lt h0
  go_enter Try.func32, Try.ntmps32
  go_wp2_with fail
  go_region_held3 (fun w' => w'.cell? ⟨p, 0, none⟩ = some (.int .i64 wide) ∧ w'.cell? ⟨p, 2, none⟩ = some (.slice al s.line.length cl) ∧ w'.cell? ⟨p, 3, none⟩ = some (.int .i64 s.at_) ∧ w'.cell? ⟨p, 4, none⟩ = some (.slice aw s.waits.length s.waits.length))
    (first | (go_keep; done) | (have q := fun i => hb1.cell (p := ⟨p, i, none⟩) (by simpa using lp); simp at q; simp [q, c0, c2, c3, c4]; done))
    ((go_at_call 25; refine (pwide_any _ ws _ (by omega) (.inr ⟨b, off, cap, rfl, hat.same (by rfl)⟩)).mono ?_; rintro e w1 ⟨rfl, hb1⟩))
  clear e1 e2
  obtain ⟨d0, d2, d3, d4⟩ := ‹_ ∧ _ ∧ _›
  have hb2 : Below w.heap.size w w1 := ((Below.refl w.heap.size w).drew).trans hb1
  clear hb1
  have HH1 := Lib.hid (FilP.below HH.out hb2)
  have Hat1 := Lib.hid (hat.same (w' := w1) (hb2.block b hblt))
  have hz : w.heap.size ≤ w1.heap.size := hb2.size
  have d4f : w1.frozen? ⟨p, 4, none⟩ = false := by rw [hb2.frozen (p := ⟨p, 4, none⟩) (by simpa using lp)]; exact cf 4
  have HEv := Lib.hid ((Ev.refl F w).below hb2)
  -- the start: what waits is dropped, the line is ended if it is not empty
  have Front := Lib.hid (FilPost.trans HEv.out HH1.out.drop)
  have h35 := Lib.hid (fun F0 w0 (h : FilP w0 B p wide (dropS s) F0) (hB0 : B ≤ w0.heap.size) => end_any B p wide (dropS s) F0 w0 h hB0 (by have := ok.out; simp [dropS]; omega))
  have c2' : w1.cell? ⟨p, 2, none⟩ = some (.slice al s.line.length cl) := d2
  by_cases hpos : 0 < s.line.length
  · go_wp2_with fail
    obtain ⟨F0, hf0, he0⟩ := Front.out
    refine (h35.out F0 _ hf0 (Nat.le_trans hB he0.size)).mono ?_
    rintro e w0 ⟨rfl, hpost⟩
    have hend : FilPost B p wide (startS s) F w w0 := by unfold startS; rw [if_pos hpos]; exact FilPost.trans he0 hpost
    obtain ⟨F9, hf9, he9⟩ := hend
    have Hf9 := Lib.hid hf9
    have He9 := Lib.hid he9
    clear hf9 he9 hf0 he0 hpost
    go_wp2_with fail
    clear c0 c1 c2 c3 c4 cf hn1 hn2 hat0 hat1 hone hwl1 hwl2 d0 d2 d3 d4 d4f c2' H
    go_loopw [57] (fun i wr => ∃ k : Nat, k ≤ ws.length ∧ i = .int .i64 k ∧ ∃ Fk, FilP wr B p wide ((ws.take k).foldl (stepS wide) (startS s)) Fk ∧ Ev F w Fk wr) (fun i _ => ws.length - (intOf i).toNat)
    case atStart => exact ⟨0, Nat.zero_le _, rfl, F9, Hf9.out, He9.out⟩
    case round =>
      obtain ⟨k, hk, rfl, Fk, hfil, hevk⟩ := hrel
      have okk := Lib.hid (Ok.steps hw' (ws.take k) ok.start fun g hg => hfit g (List.mem_of_mem_take hg))
      have hts := stepS_take wide ws (startS s) k
      obtain ⟨st, hst⟩ : ∃ st, st = (ws.take k).foldl (stepS wide) (startS s) := ⟨_, rfl⟩
      rw [← hst] at hfil okk hts
      have Hst := Lib.hid hst
      have Hts := Lib.hid hts
      clear hst hts
      have Hf := Lib.hid hfil
      have He := Lib.hid hevk
      clear hfil hevk
      obtain ⟨_, _, _, _, c0, c1, c2, c3, c4, cf, lpr, _, _⟩ := Hf.out.cells
      have g1 := okk.out.len
      have g2 := okk.out.hi
      have g3 := okk.out.out
      have g4 : (ws.take k).length ≤ k := List.length_take_le _ _
      have hBk : B ≤ wr.heap.size := Nat.le_trans hB He.out.size
      have hbk : b < wr.heap.size := Nat.lt_of_lt_of_le hblt He.out.size
      by_cases hlt : k < ws.length
      · have hgat : GlAt wr b off ws := hat.same (He.out.block b hblt (fun h => hbF b h rfl))
        obtain ⟨k0, k1, k2, k3, k4⟩ := hgat k hlt
        obtain ⟨v1, v2, v3⟩ := hfit _ (List.getElem_mem hlt)
        clear hgat
        generalize hgk : ws[k] = g at *
        have Hgk := Lib.hid hgk
        clear hgk
        have e1 : IntKind.i64.wrap (st.at_ + g.wide) = st.at_ + g.wide := IntWalk.i64_in _ (by omega)
        go_wp2_with fail
        go_quiet (fail)
        clear e1
        have Hf1 := Lib.hid ((Hf.out.alloc (.cells #[.string g.text, .int .i64 g.wide, .int .i64 g.attr, .int .i64 g.color, .int .i64 g.link] 49)).below (w' := (wr.alloc (.cells #[.string g.text, .int .i64 g.wide, .int .i64 g.attr, .int .i64 g.color, .int .i64 g.link] 49)).drewN nq) (below_drewN (Below.refl _ _) nq))
        have He1 := Lib.hid ((He.out.alloc (.cells #[.string g.text, .int .i64 g.wide, .int .i64 g.attr, .int .i64 g.color, .int .i64 g.link] 49)).below (w' := (wr.alloc (.cells #[.string g.text, .int .i64 g.wide, .int .i64 g.attr, .int .i64 g.color, .int .i64 g.link] 49)).drewN nq) (below_drewN (Below.refl _ _) nq))
        by_cases hov : wide < st.at_ + g.wide
        · go_wp2_with fail
          refine (end_any B p wide st Fk _ Hf1.out (by simp; omega) (by omega)).mono ?_
          rintro e w3 ⟨rfl, hpost⟩
          obtain ⟨F3, hf3, he3⟩ := hpost
          have Hf3 := Lib.hid hf3
          have He3 := Lib.hid he3
          obtain ⟨hc3, hz3⟩ : (∀ i, w3.cell? ⟨wr.heap.size, i, none⟩ = ((wr.alloc (.cells #[.string g.text, .int .i64 g.wide, .int .i64 g.attr, .int .i64 g.color, .int .i64 g.link] 49)).drewN nq).cell? ⟨wr.heap.size, i, none⟩) ∧ B ≤ w3.heap.size :=
            ⟨fun i => World.cell?_of_block (he3.block _ (by simp) (fun h => by obtain ⟨_, _, _, _, _, hf⟩ := Hf.out; exact absurd (hf.dom _ h) (Nat.lt_irrefl _))), Nat.le_trans hBk (Nat.le_trans (by simp) he3.size)⟩
          clear hf3 he3
          go_wp2_with fail
          refine (put_any B p wide (endS st) F3 g _ Hf3.out hz3 (by simp [endS]) (by simp [endS]) (by simp [endS]) (by omega) (by omega)).mono ?_
          rintro e w4 ⟨rfl, hpost⟩
          obtain ⟨F4, hf4, he4⟩ := hpost
          go_wp2
          go_roundw
          case rel => exact ⟨k + 1, by omega, by go_num, F4, by rw [Hts.out hlt, Hgk.out]; unfold stepS; rw [if_pos hov]; exact hf4, (He1.out.trans He3.out).trans he4⟩
          case measure => simp [intOf]; omega
        · go_wp2_with fail
          refine (put_any B p wide st Fk g _ Hf1.out (by simp; omega) (by omega) (by omega) (by omega) (by omega) (by omega)).mono ?_
          rintro e w4 ⟨rfl, hpost⟩
          obtain ⟨F4, hf4, he4⟩ := hpost
          go_wp2
          go_roundw
          case rel => exact ⟨k + 1, by omega, by go_num, F4, by rw [Hts.out hlt, Hgk.out]; unfold stepS; rw [if_neg (by omega)]; exact hf4, He1.out.trans he4⟩
          case measure => simp [intOf]; omega
      · go_wp2
        go_end0
        refine ⟨rfl, Fk, ?_, He.out⟩
        rw [List.take_of_length_le (by omega)] at Hst
        rw [← Hst.out]; exact Hf.out
  · go_wp2_with fail
    obtain ⟨F9, hf9, he9⟩ := Front.out
    have Hf9 := Lib.hid (show FilP _ B p wide (startS s) F9 by unfold startS; rw [if_neg hpos]; exact hf9)
    have He9 := Lib.hid he9
    clear hf9 he9
    clear c0 c1 c2 c3 c4 cf hn1 hn2 hat0 hat1 hone hwl1 hwl2 d0 d2 d3 d4 d4f c2' H
    go_loopw [57] (fun i wr => ∃ k : Nat, k ≤ ws.length ∧ i = .int .i64 k ∧ ∃ Fk, FilP wr B p wide ((ws.take k).foldl (stepS wide) (startS s)) Fk ∧ Ev F w Fk wr) (fun i _ => ws.length - (intOf i).toNat)
    case atStart => exact ⟨0, Nat.zero_le _, rfl, F9, Hf9.out, He9.out⟩
    case round =>
      obtain ⟨k, hk, rfl, Fk, hfil, hevk⟩ := hrel
      have okk := Lib.hid (Ok.steps hw' (ws.take k) ok.start fun g hg => hfit g (List.mem_of_mem_take hg))
      have hts := stepS_take wide ws (startS s) k
      obtain ⟨st, hst⟩ : ∃ st, st = (ws.take k).foldl (stepS wide) (startS s) := ⟨_, rfl⟩
      rw [← hst] at hfil okk hts
      have Hst := Lib.hid hst
      have Hts := Lib.hid hts
      clear hst hts
      have Hf := Lib.hid hfil
      have He := Lib.hid hevk
      clear hfil hevk
      obtain ⟨_, _, _, _, c0, c1, c2, c3, c4, cf, lpr, _, _⟩ := Hf.out.cells
      have g1 := okk.out.len
      have g2 := okk.out.hi
      have g3 := okk.out.out
      have g4 : (ws.take k).length ≤ k := List.length_take_le _ _
      have hBk : B ≤ wr.heap.size := Nat.le_trans hB He.out.size
      have hbk : b < wr.heap.size := Nat.lt_of_lt_of_le hblt He.out.size
      by_cases hlt : k < ws.length
      · have hgat : GlAt wr b off ws := hat.same (He.out.block b hblt (fun h => hbF b h rfl))
        obtain ⟨k0, k1, k2, k3, k4⟩ := hgat k hlt
        obtain ⟨v1, v2, v3⟩ := hfit _ (List.getElem_mem hlt)
        clear hgat
        generalize hgk : ws[k] = g at *
        have Hgk := Lib.hid hgk
        clear hgk
        have e1 : IntKind.i64.wrap (st.at_ + g.wide) = st.at_ + g.wide := IntWalk.i64_in _ (by omega)
        go_wp2_with fail
        go_quiet (fail)
        clear e1
        have Hf1 := Lib.hid ((Hf.out.alloc (.cells #[.string g.text, .int .i64 g.wide, .int .i64 g.attr, .int .i64 g.color, .int .i64 g.link] 49)).below (w' := (wr.alloc (.cells #[.string g.text, .int .i64 g.wide, .int .i64 g.attr, .int .i64 g.color, .int .i64 g.link] 49)).drewN nq) (below_drewN (Below.refl _ _) nq))
        have He1 := Lib.hid ((He.out.alloc (.cells #[.string g.text, .int .i64 g.wide, .int .i64 g.attr, .int .i64 g.color, .int .i64 g.link] 49)).below (w' := (wr.alloc (.cells #[.string g.text, .int .i64 g.wide, .int .i64 g.attr, .int .i64 g.color, .int .i64 g.link] 49)).drewN nq) (below_drewN (Below.refl _ _) nq))
        by_cases hov : wide < st.at_ + g.wide
        · go_wp2_with fail
          refine (end_any B p wide st Fk _ Hf1.out (by simp; omega) (by omega)).mono ?_
          rintro e w3 ⟨rfl, hpost⟩
          obtain ⟨F3, hf3, he3⟩ := hpost
          have Hf3 := Lib.hid hf3
          have He3 := Lib.hid he3
          obtain ⟨hc3, hz3⟩ : (∀ i, w3.cell? ⟨wr.heap.size, i, none⟩ = ((wr.alloc (.cells #[.string g.text, .int .i64 g.wide, .int .i64 g.attr, .int .i64 g.color, .int .i64 g.link] 49)).drewN nq).cell? ⟨wr.heap.size, i, none⟩) ∧ B ≤ w3.heap.size :=
            ⟨fun i => World.cell?_of_block (he3.block _ (by simp) (fun h => by obtain ⟨_, _, _, _, _, hf⟩ := Hf.out; exact absurd (hf.dom _ h) (Nat.lt_irrefl _))), Nat.le_trans hBk (Nat.le_trans (by simp) he3.size)⟩
          clear hf3 he3
          go_wp2_with fail
          refine (put_any B p wide (endS st) F3 g _ Hf3.out hz3 (by simp [endS]) (by simp [endS]) (by simp [endS]) (by omega) (by omega)).mono ?_
          rintro e w4 ⟨rfl, hpost⟩
          obtain ⟨F4, hf4, he4⟩ := hpost
          go_wp2
          go_roundw
          case rel => exact ⟨k + 1, by omega, by go_num, F4, by rw [Hts.out hlt, Hgk.out]; unfold stepS; rw [if_pos hov]; exact hf4, (He1.out.trans He3.out).trans he4⟩
          case measure => simp [intOf]; omega
        · go_wp2_with fail
          refine (put_any B p wide st Fk g _ Hf1.out (by simp; omega) (by omega) (by omega) (by omega) (by omega) (by omega)).mono ?_
          rintro e w4 ⟨rfl, hpost⟩
          obtain ⟨F4, hf4, he4⟩ := hpost
          go_wp2
          go_roundw
          case rel => exact ⟨k + 1, by omega, by go_num, F4, by rw [Hts.out hlt, Hgk.out]; unfold stepS; rw [if_neg (by omega)]; exact hf4, He1.out.trans he4⟩
          case measure => simp [intOf]; omega
      · go_wp2
        go_end0
        refine ⟨rfl, Fk, ?_, He.out⟩
        rw [List.take_of_length_le (by omega)] at Hst
        rw [← Hst.out]; exact Hf.out

theorem word_any (B p : Nat) (wide : Int) (s : St) (F : Nat → Prop) (w : World) (H : FilP w B p wide s F) (hB : B ≤ w.heap.size) (N : Nat) (ok : Ok N s)
    (v : Value) (ws : List Gl) (hv : GlSl w v ws) (hbF : ∀ j b, F j → v.ownBlock = some b → j ≠ b) (hfit : Fits wide ws) (h0 : 0 < ws.length) (hl : ws.length ≤ 3000000000000) (hn : N + ws.length ≤ 4000000000000) (hw : 1 ≤ wide) (hw' : wide ≤ 200) :
    Calls Try.prog 32 #[.pointer (some ⟨p, 0, none⟩), v] w fun e w' => e = .returned (.tuple #[]) ∧ FilPost B p wide (wordS wide ws s) F w w' := by
  rcases hv with ⟨_, rfl⟩ | ⟨b, off, cap, rfl, hat⟩
  · simp at h0
  · unfold wordS
    by_cases hc : s.at_ + (s.waits.length : Int) + wideOf ws ≤ wide
    · rw [if_pos hc]; exact word_one B p wide s F w H hB N ok b off cap ws hat hfit h0 hl (by omega) hw hw' hc
    · rw [if_neg hc]; exact word_more B p wide s F w H hB N ok b off cap ws hat (fun j hj => hbF j b hj rfl) hfit h0 hl hn hw hw' hc
end Go.Proofs.Ytepacocajnobgaa
