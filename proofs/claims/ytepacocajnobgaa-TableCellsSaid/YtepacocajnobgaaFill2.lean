/- Fill of package table: the loop. -/
import Derived.Test.YtepacocajnobgaaFill
namespace Go.Proofs.Ytepacocajnobgaa
open Go.RowKit
attribute [local go_sem ↓] Go.wp_at_zero Go.wp_at_succ

/-- Rows that are new, from block B on. -/
def RowsNew (w : World) (B : Nat) (v : Value) (ll : List (List Gl)) : Prop := ∃ vs, w.ownsRow B 22 1 v ll.length vs ∧ Lines w (fun b => B ≤ b) vs ll
/-- What a call of Fill answers. -/
def FillRes (k : IntKind) (x : List (List Gl) × Int) (w : World) (e : Ending) (w' : World) : Prop :=
  ∃ v, e = .returned (.tuple #[v, .int k x.2]) ∧ RowsNew w' w.heap.size v x.1 ∧ Below w.heap.size w w'

theorem FilP.rows {w : World} {B p : Nat} {wide : Int} {s : St} {F : Nat → Prop} (H : FilP w B p wide s F) : ∃ vo, w.cell? ⟨p, 1, none⟩ = some vo ∧ RowsNew w B vo s.out := by
  obtain ⟨vout, vline, vwaits, vs, hp, hF⟩ := H
  exact ⟨vout, by simp [World.cell?, hp], vs, hF.outO, hF.fin.same (Nat.le_refl _) (fun _ _ _ => rfl) fun b hb _ => hb.2.1⟩


theorem fst_start (B : Nat) (w1 : World) (hB : B ≤ w1.heap.size) (wide : Int) :
    Fst (((w1.alloc (.cells #[.int .i64 wide, .slice none 0 0, .slice none 0 0, .int .i64 0, .slice none 0 0] 65)).alloc (.cells #[.pointer (some ⟨w1.heap.size, 0, none⟩)] 63)).alloc (.cells #[.slice none 0 0] 22))
      B (w1.heap.size + 1) (w1.heap.size + 1 + 1) w1.heap.size wide (initS, []) (.slice none 0 0) (fun b => b = w1.heap.size) := by
  have hn : ∀ b, (Value.slice none 0 0).ownBlock = some b → False := fun b hb => by simp [Value.ownBlock] at hb
  refine ⟨?_, ?_, ⟨.slice none 0 0, .slice none 0 0, .slice none 0 0, [], ?_, ?_⟩, World.ownsRow_nil _ _ _ _, ⟨by omega, by omega⟩, ⟨by omega, by omega⟩, fun b hb => (hn b hb).elim, fun b hb => by omega, by omega⟩
  · rw [Below.heap_alloc _ _ _ (by simp)]; exact two_new _ _ _
  · have := heap_alloc_new ((w1.alloc (.cells #[.int .i64 wide, .slice none 0 0, .slice none 0 0, .int .i64 0, .slice none 0 0] 65)).alloc (.cells #[.pointer (some ⟨w1.heap.size, 0, none⟩)] 63)) (.cells #[.slice none 0 0] 22)
    simpa using this
  · rw [Below.heap_alloc _ _ _ (by simp; omega), Below.heap_alloc _ _ _ (by simp)]; exact heap_alloc_new _ _
  · exact ⟨⟨hB, rfl, by simp; omega⟩, World.ownsRow_nil _ _ _ _, fun b hb => (hn b hb).elim, World.ownsRow_nil _ _ _ _, fun b hb => (hn b hb).elim, trivial, Wait.nil _, fun b hb => (hn b hb).elim, fun b hb => (hn b hb).elim, fun b hb => by simp; omega⟩

theorem newblk (w w' : World) (o : Obj) (h : w'.heap.size = w.heap.size) : (w'.alloc o).heap[w.heap.size]? = some o := by rw [← h]; exact heap_alloc_new _ _
def fixed (g : Gl) : Gl := { g with text := ⟨#[63]⟩, wide := 1 }

section
variable {w w1 : World} {B bf bw p : Nat} {wide : Int} {x : St × List Gl} {vw : Value} {F : Nat → Prop}
/-- Behind an append to the word. -/
theorem Fst.app {n gg cap : Nat} {g : Gl} (H : Fst w B bf bw p wide x vw F) (hg : w.grownBy w1 vw.ownBlock) (hn : n = x.2.length + 1)
    (hown : w1.ownsRow B 49 5 (.slice (some ⟨gg, 0, none⟩) n cap) n (glCells x.2 ++ g.cells)) (hat : vw.ownBlock = some gg ∨ w.heap.size ≤ gg) :
    Fst (w1.setCell ⟨bw, 0, none⟩ (.slice (some ⟨gg, 0, none⟩) n cap)) B bf bw p wide (x.1, x.2 ++ [g]) (.slice (some ⟨gg, 0, none⟩) n cap) F := by
  have keep : ∀ b, (∀ c, vw.ownBlock = some c → b ≠ c) → b < w.heap.size → w1.heap[b]? = w.heap[b]? := fun b h1 h2 => hg.block b h2 fun e => h1 b e.symm rfl
  obtain ⟨vout, vline, vwaits, vs, hp, hF⟩ := H.fil
  have kF : ∀ b, F b → w1.heap[b]? = w.heap[b]? := fun b hb => keep b (fun c hc e => (H.vwF c hc).1 (e ▸ hb)) (hF.dom b hb)
  have H1 : Fst w1 B bf bw p wide (x.1, []) vw F → Fst (w1.setCell ⟨bw, 0, none⟩ (.slice (some ⟨gg, 0, none⟩) n cap)) B bf bw p wide (x.1, x.2 ++ [g]) (.slice (some ⟨gg, 0, none⟩) n cap) F := fun h => by
    have := h.setw (l := x.2 ++ [g]) (v := .slice (some ⟨gg, 0, none⟩) n cap) (by
      rw [show (x.2 ++ [g]).length = n by simp [hn], glCells_append, show glCells [g] = g.cells by simp [glCells]]; exact hown) (fun b hb => by
      simp [Value.ownBlock] at hb
      subst hb
      rcases hat with h1 | h1
      · exact H.vwF _ h1
      · refine ⟨fun h2 => ?_, ?_, ?_⟩
        · have := hF.dom _ h2; omega
        · have := heap_lt H.fv; omega
        · have := heap_lt H.wv; omega)
    exact this
  refine ⟨?_, ?_, ?_, ?_, H.bfF, H.bwF, ?_, H.base, H.ne⟩
  · rw [Below.heap_setCell _ _ _ _ H.ne, keep _ (fun c hc e => (H.vwF c hc).2.1 e.symm) (heap_lt H.fv)]; exact H.fv
  · rw [setCell_heap ((keep _ (fun c hc e => (H.vwF c hc).2.2 e.symm) (heap_lt H.wv)).trans H.wv)]; rfl
  · refine ⟨vout, vline, vwaits, vs, ?_, hF.same (Nat.le_trans hg.size (by simp [World.setCell])) fun b hb _ _ => ?_⟩
    · rw [Below.heap_setCell _ _ _ _ (show p ≠ bw from fun e => H.bwF.1 (e ▸ hF.base.2.1)), kF _ hF.base.2.1]; exact hp
    · rw [Below.heap_setCell _ _ _ _ (show b ≠ bw from fun e => H.bwF.1 (e ▸ hb)), kF _ hb]
  · rw [show (x.1, x.2 ++ [g]).2.length = n by simp [hn], glCells_append, show glCells [g] = g.cells by simp [glCells]]
    refine bget_block hown fun b hb => Below.heap_setCell _ _ _ _ fun e => ?_
    simp [Value.ownBlock] at hb
    subst hb; subst e
    rcases hat with h1 | h1
    · exact (H.vwF _ h1).2.2 rfl
    · have := heap_lt H.wv; omega
  · intro b hb
    simp [Value.ownBlock] at hb
    subst hb
    rcases hat with h1 | h1
    · exact H.vwF _ h1
    · refine ⟨fun h2 => ?_, ?_, ?_⟩
      · have := hF.dom _ h2; omega
      · have := heap_lt H.fv; omega
      · have := heap_lt H.wv; omega
/-- A block apart is written. -/
theorem Fst.box {c : Nat} (H : Fst w B bf bw p wide x vw F) (hF : ∀ b, F b → b ≠ c) (h1 : bf ≠ c) (h2 : bw ≠ c) (h3 : ∀ b, vw.ownBlock = some b → b ≠ c) (i : Nat) (u : Value) : Fst (w.setCell ⟨c, i, none⟩ u) B bf bw p wide x vw F := by
  have keep : ∀ b, b ≠ c → (w.setCell ⟨c, i, none⟩ u).heap[b]? = w.heap[b]? := fun b h => Below.heap_setCell _ _ _ _ h
  obtain ⟨vout, vline, vwaits, vs, hp, hFl⟩ := H.fil
  exact ⟨(keep _ h1).trans H.fv, (keep _ h2).trans H.wv, ⟨vout, vline, vwaits, vs, (keep _ (hF _ hFl.base.2.1)).trans hp, hFl.same (by simp [World.setCell]) fun b hb _ _ => keep b (hF b hb)⟩,
    bget_block H.own fun b hb => keep b (h3 b hb), H.bfF, H.bwF, H.vwF, H.base, H.ne⟩
/-- Behind 'what waits' having been set to one glyph in a new block. -/
theorem Fst.waits {g : Gl} (H : Fst w B bf bw p wide x vw F) (hB : B ≤ w.heap.size) :
    Fst ((w.setCell ⟨p, 4, none⟩ (.slice (some ⟨w.heap.size, 0, none⟩) 1 1)).alloc (.cells g.cells.toArray 49)) B bf bw p wide ({ x.1 with waits := [g] }, x.2) vw (fun b => F b ∨ b = w.heap.size) := by
  obtain ⟨vout, vline, vwaits, vs, hp, hF⟩ := H.fil
  have hpl := hF.base.2.2
  have keep : ∀ b, b < w.heap.size → b ≠ p → ((w.setCell ⟨p, 4, none⟩ (.slice (some ⟨w.heap.size, 0, none⟩) 1 1)).alloc (.cells g.cells.toArray 49)).heap[b]? = w.heap[b]? := fun b h1 h2 => by
    rw [Below.heap_alloc _ _ _ (by simp [World.setCell]; exact h1), Below.heap_setCell _ _ _ _ h2]
  have hbf := heap_lt H.fv
  have hbw := heap_lt H.wv
  have nf : bf ≠ p := fun e => H.bfF.1 (e ▸ hF.base.2.1)
  have nw : bw ≠ p := fun e => H.bwF.1 (e ▸ hF.base.2.1)
  refine ⟨(keep _ hbf nf).trans H.fv, (keep _ hbw nw).trans H.wv, ⟨vout, vline, .slice (some ⟨w.heap.size, 0, none⟩) 1 1, vs, ?_, ?_⟩,
    bget_block H.own fun b hb => keep b (H.own.lt b hb).2 fun e => (H.vwF b hb).1 (e ▸ hF.base.2.1), ⟨fun h => ?_, H.bfF.2⟩, ⟨fun h => ?_, H.bwF.2⟩, fun b hb => ⟨fun h => ?_, (H.vwF b hb).2⟩, fun b hb => ?_, H.ne⟩
  · rw [Below.heap_alloc _ _ _ (by simp [World.setCell]; exact hpl), setCell_heap hp]; rfl
  · have hF1 := (hF.setp 4 (.slice (some ⟨w.heap.size, 0, none⟩) 1 1)).alloc (.cells g.cells.toArray 49)
    have hblk : ((w.setCell ⟨p, 4, none⟩ (.slice (some ⟨w.heap.size, 0, none⟩) 1 1)).alloc (.cells g.cells.toArray 49)).heap[w.heap.size]? = some (.cells g.cells.toArray 49 (0, 0)) := by
      exact newblk _ _ _ (by simp [World.setCell])
    have hsz : w.heap.size < ((w.setCell ⟨p, 4, none⟩ (.slice (some ⟨w.heap.size, 0, none⟩) 1 1)).alloc (.cells g.cells.toArray 49)).heap.size := by simp [World.setCell]
    refine ⟨⟨hF1.base.1, .inl hF1.base.2.1, hF1.base.2.2⟩, hF1.lineO, fun b hb => ⟨.inl (hF1.lineF b hb).1, (hF1.lineF b hb).2⟩, hF1.outO, fun b hb => ⟨.inl (hF1.outF b hb).1, (hF1.outF b hb).2⟩,
      hF1.fin.same (Nat.le_refl _) (fun _ _ _ => rfl) (fun b hb _ => ⟨.inl hb.1, hb.2⟩), ?_, fun b hb => ?_, hF1.apart, ?_⟩
    · refine ⟨some ⟨w.heap.size, 0, none⟩, rfl, (fun h => by cases h), fun b hb => ?_⟩
      cases hb
      refine ⟨⟨hsz, fun j u hu => ?_⟩, rfl, rfl⟩
      rw [add_none, cell_of_row _ _ _ _ _ _ hblk]
      simpa [glCells] using hu
    · simp [Value.ownBlock] at hb
      subst hb
      refine ⟨.inr rfl, by omega, fun e => ?_, fun e => ?_⟩
      · have := (hF.lineO.lt _ e).2; omega
      · have := (hF.outO.lt _ e).2; omega
    · rintro b (hb | rfl)
      · exact hF1.dom b hb
      · exact hsz
  · rcases h with h | h
    · exact H.bfF.1 h
    · omega
  · rcases h with h | h
    · exact H.bwF.1 h
    · omega
  · rcases h with h | h
    · exact (H.vwF b hb).1 h
    · have := (H.own.lt b hb).2; omega
  · rcases hb with h | h
    · exact H.base b h
    · omega
end

set_option maxRecDepth 100000 in
set_option maxHeartbeats 4000000 in
theorem fill_good (v : Value) (l : List Gl) (wide : Int) (w : World) (hv : GlSl w v l) (hl : l.length ≤ 2932031007317) (hck : checkOf l = 0) (hw : 1 ≤ wide) (hw' : wide ≤ 200) :
    Calls Try.prog 11 #[v, .int .i64 wide] w fun e w' => FillRes .i64 (fillS wide l, 0) w e w' := by
  have hlv : ∃ a c, v = .slice a l.length c := by
    rcases hv with ⟨⟨a, c, rfl, _⟩, rfl⟩ | ⟨b, off, cap, rfl, _⟩
    · exact ⟨a, c, rfl⟩
    · exact ⟨_, _, rfl⟩
  obtain ⟨a, c, rfl⟩ := hlv
  have Hv := Lib.hid hv
  have Hck := Lib.hid hck
  clear hv hck
  go_enter Try.func11, Try.ntmps11
  go_wp2_with fail
  go_step3
  go_wp2_with fail
  refine (check_any _ l _ (by omega) Hv.out).mono ?_
  rintro e w1 ⟨rfl, hb1⟩
  rw [Hck.out]
  have hz := hb1.size
  have Hb1 := Lib.hid hb1
  clear hb1
  go_wp2_with fail
  obtain ⟨n, hn⟩ : ∃ n, n = w1.heap.size := ⟨_, rfl⟩
  have hst := fst_start w.heap.size w1 hz wide
  have hbs := ((Hb1.out.alloc hz (.cells #[.int .i64 wide, .slice none 0 0, .slice none 0 0, .int .i64 0, .slice none 0 0] 65)).alloc (by simp; omega) (.cells #[.pointer (some ⟨w1.heap.size, 0, none⟩)] 63)).alloc (by simp; omega) (.cells #[.slice none 0 0] 22)
  rw [← hn] at hst hbs hz
  rw [← hn]
  have Hst := Lib.hid hst
  have Hbs := Lib.hid hbs
  clear hst hbs hn
  have hgood := Inv.eats hw hw' l (by
    have h := Hck.out
    unfold checkOf at h
    split at h
    · cases h
    · rename_i h1; simpa using h1) (by omega)
  have Hgood := Lib.hid hgood
  clear hgood
  go_step3
  go_wp2_with fail
  go_loopw [29] (fun i wr => ∃ k : Nat, k ≤ l.length ∧ i = .int .i64 k ∧ ∃ vw F, Fst wr w.heap.size (n + 1) (n + 1 + 1) n wide ((l.take k).foldl (eatS wide) (initS, [])) vw F ∧ Below w.heap.size w wr) (fun i _ => l.length - (intOf i).toNat)
  case atStart => exact ⟨0, Nat.zero_le _, rfl, _, _, Hst.out, Hbs.out⟩
  case round =>
    obtain ⟨k, hk, rfl, vw, F, hf, hb⟩ := hrel
    have inv := Hgood.out k
    have het := eatS_take wide l (initS, []) k
    have hlk : (l.take k).length = k := by simp; omega
    rw [hlk] at inv
    clear hlk
    obtain ⟨x, hx⟩ : ∃ x, x = (l.take k).foldl (eatS wide) (initS, []) := ⟨_, rfl⟩
    rw [← hx] at hf inv het
    have Hx := Lib.hid hx
    have Het := Lib.hid het
    have Inv' := Lib.hid inv
    have Hf := Lib.hid hf
    have Hb := Lib.hid hb
    clear hx het inv hf hb
    have hwr : w.heap.size ≤ wr.heap.size := Hb.out.size
    by_cases hlt : k < l.length
    · obtain ⟨b, off, ha, hat⟩ : ∃ b off, a = some ⟨b, off, none⟩ ∧ GlAt w b off l := by
        rcases Hv.out with ⟨_, h⟩ | ⟨b, off, cap, h, hat⟩
        · rw [h] at hlt; simp at hlt
        · injection h with h1 h2 h3; exact ⟨b, off, h1, hat⟩
      subst ha
      obtain ⟨c0, c1, c2, c3, c4⟩ := (hat.same (Hb.out.block b (hat.lt (by omega)))) k hlt
      have Hat := Lib.hid hat
      clear hat
      have Hgk := Lib.hid (show l[k].bad = false by
        have h := Hck.out
        unfold checkOf at h
        split at h
        · cases h
        · rename_i h1
          have := List.any_eq_false.1 (by simpa using h1) l[k] (List.getElem_mem hlt)
          simpa using this)
      have Het' := Lib.hid (Het.out hlt)
      clear Het
      generalize l[k] = g at *
      go_wp2_with fail
      refine (kind_any g _).mono ?_
      rintro e w2 ⟨rfl, hb2⟩
      have HB2 := Lib.hid (((Below.refl wr.heap.size wr).alloc (Nat.le_refl _) (.cells #[.string g.text, .int .i64 g.wide, .int .i64 g.attr, .int .i64 g.color, .int .i64 g.link] 49)).trans (hb2.mono (by simp)))
      have Hf2 := Lib.hid (Hf.out.below HB2.out)
      obtain ⟨b0, b1, b2f, _, _, av, cv, hvw⟩ := Hf2.out.cells
      obtain ⟨_, _, _, m1, m2, _⟩ := Hf.out.cells
      subst hvw
      obtain ⟨hc2, hfz2⟩ := bcell hb2
      have d0 : w2.cell? ⟨wr.heap.size, 0, none⟩ = some (.string g.text) := by rw [hc2 _ _ (by simp)]; simp
      have d1 : w2.cell? ⟨wr.heap.size, 1, none⟩ = some (.int .i64 g.wide) := by rw [hc2 _ _ (by simp)]; simp
      have d2 : w2.cell? ⟨wr.heap.size, 2, none⟩ = some (.int .i64 g.attr) := by rw [hc2 _ _ (by simp)]; simp
      have d3 : w2.cell? ⟨wr.heap.size, 3, none⟩ = some (.int .i64 g.color) := by rw [hc2 _ _ (by simp)]; simp
      have d4 : w2.cell? ⟨wr.heap.size, 4, none⟩ = some (.int .i64 g.link) := by rw [hc2 _ _ (by simp)]; simp
      have df : ∀ i, w2.frozen? ⟨wr.heap.size, i, none⟩ = false := fun i => by rw [hfz2 _ _ (by simp)]; simp
      have hz2 : wr.heap.size < w2.heap.size := by have := hb2.size; simp at this; omega
      clear hc2 hfz2 hb2 c0 c1 c2 c3 c4
      by_cases k3 : g.kind = 3
      · have K3 : (g.kind == 3) = true := by simp [k3]
        have Hk3 := Lib.hid k3
        clear k3
        obtain ⟨i0, hi0, hz0, hz1, hz2⟩ := info_parts info49
        have hxl : x.2.length ≤ k := by obtain ⟨N, _, _, h⟩ := Inv'.out; omega
        by_cases hgt : wide < g.wide
        · have BW := Lib.hid (((Hb.out.trans (HB2.out.mono hwr)).setCell (p := ⟨wr.heap.size, 0, none⟩) hwr (.string ⟨#[63]⟩)).setCell (p := ⟨wr.heap.size, 1, none⟩) hwr (.int .i64 1))
          have HW := Lib.hid (Hf.out.below ((HB2.out.setCell (p := ⟨wr.heap.size, 0, none⟩) (Nat.le_refl _) (.string ⟨#[63]⟩)).setCell (p := ⟨wr.heap.size, 1, none⟩) (Nat.le_refl _) (.int .i64 1)))
          go_wp2_with (at_builtin; go_loud (refine wpList_append_lies _ rfl (.tmp 49) (.tmp 51) 22 rfl w.heap.size 49 i0 _ 5 48 Try.underlying22 hi0 hz0 hz1 hz2 rfl (by omega) (.slice av x.2.length cv) x.2.length (glCells x.2) rfl (HW.out.alloc _).own ⟨w2.heap.size, 0, none⟩ 1 1 (fixed g).cells rfl rfl (World.news_of_block (cs := (fixed g).cells.toArray) (t := 49) (fr := (0, 0)) (newblk _ _ _ (by simp [World.setCell]))) (by simp [Value.oneCell', Gl.cells]) (by omega) (by unfold maxLen; omega) (by omega) (by simp; omega) (w2.heap.size + 1) (by simp [World.setCell]) ?_); intro gg cap w3 hown hgrow hat3 hlt3; have q1 := hgrow.cell_far ⟨n + 1 + 1, 0, none⟩ (by simp [World.setCell]; try omega) (fun e => (HW.out.vwF _ e.symm).2.2 rfl); have q2 := hgrow.frozen_far ⟨n + 1 + 1, 0, none⟩ (by simp [World.setCell]; try omega) (fun e => (HW.out.vwF _ e.symm).2.2 rfl); (try simp [b1, b2f] at q1 q2); have Hg := Lib.hid hgrow; clear hgrow; have Ho := Lib.hid hown; clear hown)
          go_roundw
          case rel =>
            refine ⟨k + 1, by omega, by go_num, .slice (some ⟨gg, 0, none⟩) (x.2.length + 1) cap, F, ?_, ?_⟩
            · rw [Het'.out, show eatS wide x g = (x.1, x.2 ++ [fixed g]) by unfold eatS fixG; rw [if_pos Hk3.out, if_pos hgt]; rfl]
              exact (HW.out.alloc _).app Hg.out rfl Ho.out (by rcases hat3 with h | h; exact .inl h; right; rw [h]; simp [World.setCell])
            · exact ((BW.out.alloc (by first | omega | (simp [World.setCell]; omega)) _).grown Hg.out (by simp [World.setCell]; omega) (fun j hj => (HW.out.own.lt j hj).1)).setCell HW.out.bwF.2 _
          case measure => simp [intOf]; omega
        · have BW := Lib.hid (Hb.out.trans (HB2.out.mono hwr))
          have HW := Hf2
          go_wp2_with (at_builtin; go_loud (refine wpList_append_lies _ rfl (.tmp 49) (.tmp 51) 22 rfl w.heap.size 49 i0 _ 5 48 Try.underlying22 hi0 hz0 hz1 hz2 rfl (by omega) (.slice av x.2.length cv) x.2.length (glCells x.2) rfl (HW.out.alloc _).own ⟨w2.heap.size, 0, none⟩ 1 1 g.cells rfl rfl (World.news_of_block (cs := g.cells.toArray) (t := 49) (fr := (0, 0)) (newblk _ _ _ (by simp))) (by simp [Value.oneCell', Gl.cells]) (by omega) (by unfold maxLen; omega) (by omega) (by simp; omega) (w2.heap.size + 1) (by simp) ?_); intro gg cap w3 hown hgrow hat3 hlt3; have q1 := hgrow.cell_far ⟨n + 1 + 1, 0, none⟩ (by simp; try omega) (fun e => (HW.out.vwF _ e.symm).2.2 rfl); have q2 := hgrow.frozen_far ⟨n + 1 + 1, 0, none⟩ (by simp; try omega) (fun e => (HW.out.vwF _ e.symm).2.2 rfl); (try simp [b1, b2f] at q1 q2); have Hg := Lib.hid hgrow; clear hgrow; have Ho := Lib.hid hown; clear hown)
          go_roundw
          case rel =>
            refine ⟨k + 1, by omega, by go_num, .slice (some ⟨gg, 0, none⟩) (x.2.length + 1) cap, F, ?_, ?_⟩
            · rw [Het'.out, show eatS wide x g = (x.1, x.2 ++ [g]) by unfold eatS fixG; rw [if_pos Hk3.out, if_neg (by omega)]]
              exact (HW.out.alloc _).app Hg.out rfl Ho.out (by rcases hat3 with h | h; exact .inl h; right; rw [h]; simp)
            · exact ((BW.out.alloc (by first | omega | (simp [World.setCell]; omega)) _).grown Hg.out (by simp; omega) (fun j hj => (HW.out.own.lt j hj).1)).setCell HW.out.bwF.2 _
          case measure => simp [intOf]; omega
      · have K3 : (g.kind == 3) = false := by simp [k3]
        have Hk3 := Lib.hid k3
        clear k3
        have hxb : ∀ b, (F b ∨ b = n + 1 + 1) → b ≠ wr.heap.size := fun b hb e => by
          rcases hb with h | h
          · obtain ⟨_, _, _, _, _, hfil⟩ := Hf.out.fil
            have := hfil.dom b h; omega
          · omega
        have Hxb := Lib.hid hxb
        clear hxb
        have hB2 : w.heap.size ≤ w2.heap.size := by omega
        -- flush, and what the box of g holds behind it
        have HF := Lib.hid (flush_any w.heap.size (n + 1) (n + 1 + 1) n wide x (.slice av x.2.length cv) F w2 Hf2.out hB2 k (by omega) Inv'.out hw hw')
        have Hbox := Lib.hid (fun (F' : Nat → Prop) (w3 : World) (he : Ev (fun b => F b ∨ b = n + 1 + 1) w2 F' w3) =>
          (⟨fun i => World.cell?_of_block (a := ⟨wr.heap.size, i, none⟩) (he.block _ hz2 fun h => Hxb.out _ h rfl), fun i => World.frozen?_of_block (a := ⟨wr.heap.size, i, none⟩) (he.block _ hz2 fun h => Hxb.out _ h rfl)⟩ :
            (∀ i, w3.cell? ⟨wr.heap.size, i, none⟩ = w2.cell? ⟨wr.heap.size, i, none⟩) ∧ ∀ i, w3.frozen? ⟨wr.heap.size, i, none⟩ = w2.frozen? ⟨wr.heap.size, i, none⟩))
        have hok := Lib.hid (Inv'.out.flush hw' (by omega))
        by_cases k0 : g.kind = 0
        · have K0 : (g.kind == 0) = true := by simp [k0]
          have Hk0 := Lib.hid k0
          clear k0
          go_wp2_with fail
          refine HF.out.mono ?_
          rintro e w3 ⟨rfl, vw3, F3, hf3, hv3, he3, hb3⟩
          obtain ⟨x0, x1⟩ := Hbox.out _ _ he3
          have r0 := (x0 0).trans d0
          have r1 := (x0 1).trans d1
          have r2 := (x0 2).trans d2
          have r3 := (x0 3).trans d3
          have r4 := (x0 4).trans d4
          have rf : ∀ i, w3.frozen? ⟨wr.heap.size, i, none⟩ = false := fun i => (x1 i).trans (df i)
          have hz3 : wr.heap.size < w3.heap.size := Nat.lt_of_lt_of_le hz2 he3.size
          have HB3 := Lib.hid ((Hb.out.trans (HB2.out.mono hwr)).trans hb3)
          have Het2 := Lib.hid (show eatS wide x g = (waitS g (flushS wide x), []) by unfold eatS; rw [if_neg Hk3.out, if_pos Hk0.out])
          obtain ⟨s2, hs2⟩ : ∃ s2, s2 = flushS wide x := ⟨_, rfl⟩
          rw [← hs2] at hf3 hok Het2
          obtain ⟨y0, y1, y2, l1, l2, _⟩ := hf3.cells
          obtain ⟨vo, al, cl, aw, e0, e1, e2, e3, e4, ef, lp, _, _⟩ := hf3.fil.cells
          have HnF := Lib.hid (show ∀ b, F3 b → b ≠ wr.heap.size from fun b hb e => by
            rcases he3.foot b (.inl hb) with h | h
            · exact Hxb.out b h e
            · omega)
          have Hv3 := Lib.hid (show ∀ b, vw3.ownBlock = some b → b ≠ wr.heap.size from fun b hb => Nat.ne_of_lt (Hf.out.own.lt b (hv3 b hb)).2)
          have Hf3 := Lib.hid hf3
          clear hv3 x0 x1 he3 hb3 hf3 hs2 d0 d1 d2 d3 d4 df b0 b1 b2f HF Hbox
          by_cases hp1 : 0 < s2.line.length
          · by_cases hp2 : s2.waits.length = 0
            · have hp2' : ((s2.waits.length : Int) == 0) = true := by simp [hp2]
              have Hp2 := Lib.hid hp2
              clear hp2
              go_wp2
              go_roundw
              case rel =>
                refine ⟨k + 1, by omega, by go_num, vw3, (fun b => F3 b ∨ b = (w3.setCell ⟨wr.heap.size, 1, none⟩ (.int .i64 1)).heap.size), ?_, ?_⟩
                · rw [Het'.out, Het2.out, show waitS g s2 = { s2 with waits := [{ g with wide := 1 }] } by unfold waitS; rw [if_pos ⟨hp1, Hp2.out⟩]]
                  have := (Hf3.out.box HnF.out (by omega) (by omega) Hv3.out 1 (.int .i64 1)).waits (g := { g with wide := 1 }) (by simp [World.setCell]; exact HB3.out.size)
                  simp only [World.setCell, Array.size_modify] at this ⊢
                  exact this
                · exact (((HB3.out.setCell (p := ⟨wr.heap.size, 1, none⟩) hwr (.int .i64 1)).setCell (p := ⟨n, 4, none⟩) hz _).alloc (by simp [World.setCell]; exact HB3.out.size) _)
              case measure => simp [intOf]; omega
            · have hp2' : ((s2.waits.length : Int) == 0) = false := by rw [beq_eq_false_iff_ne]; omega
              have Hp2 := Lib.hid hp2
              clear hp2
              go_wp2
              go_roundw
              case rel =>
                refine ⟨k + 1, by omega, by go_num, vw3, F3, ?_, HB3.out⟩
                rw [Het'.out, Het2.out, show waitS g s2 = s2 by unfold waitS; rw [if_neg (fun h => Hp2.out h.2)]]
                exact Hf3.out
              case measure => simp [intOf]; omega
          · go_wp2
            go_roundw
            case rel =>
              refine ⟨k + 1, by omega, by go_num, vw3, F3, ?_, HB3.out⟩
              rw [Het'.out, Het2.out, show waitS g s2 = s2 by unfold waitS; rw [if_neg (fun h => hp1 h.1)]]
              exact Hf3.out
            case measure => simp [intOf]; omega
        · have K0 : (g.kind == 0) = false := by simp [k0]
          have Hk0 := Lib.hid k0
          clear k0
          rcases (show g.kind = 1 ∨ g.kind = 2 by have := kind_cases g; have := Hk3.out; have := Hk0.out; omega) with k1 | k1
          · have K1 : (g.kind == 1) = true := by simp [k1]
            clear k1
            go_wp2_with fail
            refine HF.out.mono ?_
            rintro e w3 ⟨rfl, vw3, F3, hf3, hv3, he3, hb3⟩
            obtain ⟨x0, x1⟩ := Hbox.out _ _ he3
            have r0 := (x0 0).trans d0
            have r1 := (x0 1).trans d1
            have r2 := (x0 2).trans d2
            have r3 := (x0 3).trans d3
            have r4 := (x0 4).trans d4
            have HB3 := Lib.hid ((Hb.out.trans (HB2.out.mono hwr)).trans hb3)
            have Het2 := Lib.hid (show eatS wide x g = (leapS wide g (flushS wide x), []) by unfold eatS; rw [if_neg Hk3.out, if_neg Hk0.out])
            obtain ⟨s2, hs2⟩ : ∃ s2, s2 = flushS wide x := ⟨_, rfl⟩
            rw [← hs2] at hf3 hok Het2
            obtain ⟨y0, y1, y2, l1, l2, _⟩ := hf3.cells
            have Hf3 := Lib.hid hf3
            clear x0 x1 he3 hb3 hf3 hs2 d0 d1 d2 d3 d4 df b0 b1 b2f HF Hbox
            go_wp2_with fail
            refine (leap_any w.heap.size n wide s2 F3 g _ Hf3.out.fil HB3.out.size k hok.out (by omega) hw hw').mono ?_
            rintro e w4 ⟨rfl, hpost⟩
            obtain ⟨F4, hf4, _, hb4⟩ := Hf3.out.post HB3.out.size hpost
            have Hf4 := Lib.hid hf4
            have Hb4 := Lib.hid (HB3.out.trans hb4)
            clear hf4 hb4 hpost
            go_wp2
            go_roundw
            case rel =>
              refine ⟨k + 1, by omega, by go_num, vw3, F4, ?_, Hb4.out⟩
              rw [Het'.out, Het2.out]
              exact Hf4.out
            case measure => simp [intOf]; omega
          · have K1 : (g.kind == 1) = false := by simp [k1]
            have K2 : (g.kind == 2) = true := by simp [k1]
            clear k1
            go_wp2_with fail
            refine HF.out.mono ?_
            rintro e w3 ⟨rfl, vw3, F3, hf3, hv3, he3, hb3⟩
            obtain ⟨x0, x1⟩ := Hbox.out _ _ he3
            have r0 := (x0 0).trans d0
            have r1 := (x0 1).trans d1
            have r2 := (x0 2).trans d2
            have r3 := (x0 3).trans d3
            have r4 := (x0 4).trans d4
            have HB3 := Lib.hid ((Hb.out.trans (HB2.out.mono hwr)).trans hb3)
            have Het2 := Lib.hid (show eatS wide x g = (leapS wide g (flushS wide x), []) by unfold eatS; rw [if_neg Hk3.out, if_neg Hk0.out])
            obtain ⟨s2, hs2⟩ : ∃ s2, s2 = flushS wide x := ⟨_, rfl⟩
            rw [← hs2] at hf3 hok Het2
            obtain ⟨y0, y1, y2, l1, l2, _⟩ := hf3.cells
            have Hf3 := Lib.hid hf3
            clear x0 x1 he3 hb3 hf3 hs2 d0 d1 d2 d3 d4 df b0 b1 b2f HF Hbox
            go_wp2_with fail
            refine (leap_any w.heap.size n wide s2 F3 g _ Hf3.out.fil HB3.out.size k hok.out (by omega) hw hw').mono ?_
            rintro e w4 ⟨rfl, hpost⟩
            obtain ⟨F4, hf4, _, hb4⟩ := Hf3.out.post HB3.out.size hpost
            have Hf4 := Lib.hid hf4
            have Hb4 := Lib.hid (HB3.out.trans hb4)
            clear hf4 hb4 hpost
            go_wp2
            go_roundw
            case rel =>
              refine ⟨k + 1, by omega, by go_num, vw3, F4, ?_, Hb4.out⟩
              rw [Het'.out, Het2.out]
              exact Hf4.out
            case measure => simp [intOf]; omega
    · have hkl : l.take k = l := List.take_of_length_le (by omega)
      rw [hkl] at Hx
      go_wp2_with fail
      refine (flush_any w.heap.size (n + 1) (n + 1 + 1) n wide x vw F wr Hf.out hwr k (by omega) Inv'.out hw hw').mono ?_
      rintro e w2 ⟨rfl, vw2, F2, hf2, _, _, hb2⟩
      have Hb2 := Lib.hid (Hb.out.trans hb2)
      have hok := (Inv'.out.flush hw' (by omega)).out
      have hfin : doneS wide x = if 0 < (flushS wide x).line.length then endS (flushS wide x) else flushS wide x := rfl
      have Hfin := Lib.hid hfin
      clear hfin
      have Hdone := Lib.hid (show fillS wide l = (doneS wide x).out by rw [Hx.out]; rfl)
      obtain ⟨s2, hs2⟩ : ∃ s2, s2 = flushS wide x := ⟨_, rfl⟩
      rw [← hs2] at hf2 hok Hfin
      clear hs2
      obtain ⟨d0, d1, d2, m1, m2, _⟩ := hf2.cells
      obtain ⟨vo, al, cl, aw, e0, e1, e2, e3, e4, ef, lp, _, _⟩ := hf2.fil.cells
      have Hf2 := Lib.hid hf2
      clear hf2 hb2
      have hB2 : w.heap.size ≤ w2.heap.size := Hb2.out.size
      by_cases hpos : 0 < s2.line.length
      · go_wp2_with fail
        refine (end_any w.heap.size n wide s2 F2 _ Hf2.out.fil hB2 (by omega)).mono ?_
        rintro e w3 ⟨rfl, hpost⟩
        obtain ⟨F3, hf3, _, hb3⟩ := Hf2.out.post hB2 hpost
        obtain ⟨d0', _, _, _, _, _⟩ := hf3.cells
        obtain ⟨vo3, hvo, hrows⟩ := hf3.fil.rows
        have Hr := Lib.hid hrows
        have Hb3 := Lib.hid (Hb2.out.trans hb3)
        clear d0 d1 d2 e0 e1 e2 e3 e4 hrows hb3 hf3 hpost
        go_wp2
        rw [Exit.noGoto_ret]
        go_ret2
        exact ⟨vo3, rfl, by rw [show (fillS wide l, (0 : Int)).1 = _ from Hdone.out, Hfin.out, if_pos hpos]; exact Hr.out, Hb3.out⟩
      · obtain ⟨vo3, hvo, hrows⟩ := Hf2.out.fil.rows
        have Hr := Lib.hid hrows
        clear hrows e1
        go_wp2
        rw [Exit.noGoto_ret]
        go_ret2
        exact ⟨vo3, rfl, by rw [show (fillS wide l, (0 : Int)).1 = _ from Hdone.out, Hfin.out, if_neg hpos]; exact Hr.out, Hb2.out⟩

set_option maxHeartbeats 400000 in
theorem fill_range (v : Value) (wide : Int) (w : World) (h : wide < 1 ∨ 200 < wide) :
    Calls Try.prog 11 #[v, .int .i64 wide] w fun e w' => FillRes .i64 ([], 1) w e w' := by
  rcases h with h | h
  · go_enter Try.func11, Try.ntmps11
    go_wp2_with fail
    go_step3
    go_wp2
    rw [Exit.noGoto_ret]
    go_ret2
    exact ⟨_, rfl, ⟨[], World.ownsRow_nil _ _ _ _, trivial⟩, Below.refl _ _⟩
  · have h1 : ¬ wide < 1 := by omega
    go_enter Try.func11, Try.ntmps11
    go_wp2_with fail
    go_step3
    go_wp2
    rw [Exit.noGoto_ret]
    go_ret2
    exact ⟨_, rfl, ⟨[], World.ownsRow_nil _ _ _ _, trivial⟩, Below.refl _ _⟩
theorem checkOf_cases (l : List Gl) : checkOf l = 0 ∨ checkOf l = 120 := by unfold checkOf; split <;> simp

set_option maxHeartbeats 400000 in
theorem fill_bad (v : Value) (l : List Gl) (wide : Int) (w : World) (hv : GlSl w v l) (hl : l.length ≤ 2932031007317) (hck : checkOf l = 120) (hw : 1 ≤ wide) (hw' : wide ≤ 200) :
    Calls Try.prog 11 #[v, .int .i64 wide] w fun e w' => FillRes .i64 ([], checkOf l) w e w' := by
  have Hv := Lib.hid hv
  have Hck := Lib.hid hck
  clear hv hck
  go_enter Try.func11, Try.ntmps11
  go_wp2_with fail
  go_step3
  go_wp2_with fail
  refine (check_any _ l _ (by omega) Hv.out).mono ?_
  rintro e w1 ⟨rfl, hb1⟩
  rw [Hck.out]
  have Hb1 := Lib.hid hb1
  clear hb1
  go_wp2
  rw [Exit.noGoto_ret]
  go_ret2
  exact ⟨.slice none 0 0, by rw [Hck.out]; rfl, ⟨[], World.ownsRow_nil _ _ _ _, trivial⟩, Hb1.out⟩

/-- FILL. -/
theorem fill_any (v : Value) (l : List Gl) (wide : Int) (w : World) (hv : GlSl w v l) (hl : l.length ≤ 2932031007317) :
    Calls Try.prog 11 #[v, .int .i64 wide] w fun e w' => FillRes .i64 (fillOf l wide) w e w' := by
  unfold fillOf
  by_cases h : wide < 1 ∨ 200 < wide
  · rw [if_pos h]; exact fill_range v wide w h
  · rw [if_neg h]
    rcases checkOf_cases l with h1 | h1
    · rw [if_neg (by simp [h1])]; exact fill_good v l wide w hv hl h1 (by omega) (by omega)
    · rw [if_pos (by simp [h1])]; exact fill_bad v l wide w hv hl h1 (by omega) (by omega)
end Go.Proofs.Ytepacocajnobgaa
