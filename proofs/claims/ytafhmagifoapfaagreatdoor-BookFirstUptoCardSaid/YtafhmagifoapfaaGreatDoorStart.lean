/- mark: put, flush, settle, wait, token. -/
import Derived.Test.YtafhmagifoapfaaGreatDoorMem
import Derived.Test.YtafhmagifoapfaaGreatDoorShelf
import Derived.Shelf.Strings.SlTrimAscii
import Derived.Lib.ReplaceLaws
import Derived.Lib.SplitLaws
import Derived.Lib.IndexBytes
import Derived.Lib.Bytealg
import Derived.Test.YtafhmagifoapfaaGreatDoorPlain
namespace Go.Proofs.YtafhmagifoapfaaGreatDoor
open Go.RowKit Find Bk
attribute [local go_sem ↓] Go.wp_at_zero Go.wp_at_succ
/-- What a call on the lexer leaves. -/
def LexPost (B b : Nat) (s' : LS) (w : World) (e : Ending) (w' : World) : Prop := e = .returned (.tuple #[]) ∧ LexAt B w' b s' ∧ Below B w w'
theorem app_str (l m : Wd) : (⟨l.toArray⟩ : ByteArray) ++ ⟨m.toArray⟩ = ⟨(l ++ m).toArray⟩ := by
  have : ∀ a b : ByteArray, a.data.toList = b.data.toList → a = b := fun a b h => by
    cases a; cases b
    simp only at h
    congr 1
    exact Array.ext' h
  apply this
  simp
set_option maxHeartbeats 1600000 in
set_option maxRecDepth 100000 in
theorem put_any (B b : Nat) (s : LS) (x : Wd) (l c : Nat) (w : World) (h : LexAt B w b s) (hx : x.length ≤ 4000000) (ht : s.run.text.length ≤ 4000000) :
    Calls Tryz.prog 213 #[.pointer (some ⟨b, 0, none⟩), .string ⟨x.toArray⟩, .int .i64 l, .int .i64 c] w (LexPost B b (s.put x l c) w) := by
  obtain ⟨vo, vp, h⟩ := h
  obtain ⟨c0, c1, c2, c3, c4, c5, c6, c7, c8, c9, c10, c11, cf⟩ := lex_cells h
  have hbase := h.base
  have HX := Lib.hid h
  clear h
  by_cases he : s.run.text = []
  · have hs2 : (⟨s.run.text.toArray⟩ : ByteArray).data.toList.isEmpty = true := by rw [he]; rfl
    have HP := Lib.hid (show s.put x l c = { s with run := ⟨6, [], x, l, c⟩ } from by unfold LS.put; rw [if_pos he])
    rw [he] at c5
    clear he hs2
    go_enter Tryz.func213, Tryz.ntmps213
    go_wp2
    go_end0
    refine ⟨rfl, ?_, ?_⟩
    · rw [HP.out]
      refine ⟨vo, vp, ?_⟩
      have := (((((HX.out.set 3 (by omega) (.int .i64 6)).set 4 (by omega) (.string ⟨#[]⟩)).set 5 (by omega) (.string ⟨#[]⟩)).set 6 (by omega) (.int .i64 l)).set 7 (by omega) (.int .i64 c)).set 5 (by omega) (.string (⟨#[]⟩ ++ ⟨x.toArray⟩))
      rw [show (⟨#[]⟩ : ByteArray) ++ ⟨x.toArray⟩ = ⟨x.toArray⟩ from app_str [] x] at this ⊢
      exact this
    · exact ((((((Below.refl _ _).setCell hbase _).setCell hbase _).setCell hbase _).setCell hbase _).setCell hbase _).setCell hbase _
  · have hs1 : ¬ (⟨s.run.text.toArray⟩ : ByteArray) = ⟨#[]⟩ := fun e => he (by have := congrArg (fun a : ByteArray => a.data.toList) e; simpa using this)
    have hs2 : s.run.text.isEmpty = false := by simpa using he
    have HP := Lib.hid (show s.put x l c = { s with run := { s.run with text := s.run.text ++ x } } from by unfold LS.put; rw [if_neg he])
    clear he
    go_enter Tryz.func213, Tryz.ntmps213
    go_wp2
    go_end0
    refine ⟨rfl, ?_, (Below.refl _ _).setCell hbase _⟩
    rw [HP.out]
    refine ⟨vo, vp, ?_⟩
    have := HX.out.set 5 (by omega) (.string (⟨s.run.text.toArray⟩ ++ ⟨x.toArray⟩))
    rw [app_str] at this ⊢
    exact this
set_option maxHeartbeats 3200000 in
set_option maxRecDepth 100000 in
theorem flush_any (B b : Nat) (s : LS) (w : World) (h : LexAt B w b s) (hB : B ≤ w.heap.size) (hn : s.out.length ≤ 4000000) :
    Calls Tryz.prog 84 #[.pointer (some ⟨b, 0, none⟩)] w (LexPost B b s.flush w) := by
  obtain ⟨i0, hi0, hz0, hz1, hz2⟩ := info_parts info_tok
  obtain ⟨vo, vp, h⟩ := h
  obtain ⟨c0, c1, c2, c3, c4, c5, c6, c7, c8, c9, c10, c11, cf⟩ := lex_cells h
  have hbase := h.base
  have hlt := h.lt
  have HX := Lib.hid h
  by_cases he : s.run.text = []
  · have hs2 : (⟨s.run.text.toArray⟩ : ByteArray).data.toList.isEmpty = true := by rw [he]; rfl
    have HP := Lib.hid (show s.flush = { s with run := Tok.zero } from by unfold LS.flush; rw [if_pos he])
    rw [he] at c5
    clear he hs2 h
    go_enter Tryz.func84, Tryz.ntmps84
    go_wp2
    go_end0
    refine ⟨rfl, ?_, (((((Below.refl _ _).setCell hbase _).setCell hbase _).setCell hbase _).setCell hbase _).setCell hbase _⟩
    rw [HP.out]
    exact ⟨vo, vp, ((((HX.out.set 3 (by omega) (.int .i64 0)).set 4 (by omega) (.string ⟨#[]⟩)).set 5 (by omega) (.string ⟨#[]⟩)).set 6 (by omega) (.int .i64 0)).set 7 (by omega) (.int .i64 0)⟩
  · have hs1 : ¬ (⟨s.run.text.toArray⟩ : ByteArray) = ⟨#[]⟩ := fun e => he (by have := congrArg (fun a : ByteArray => a.data.toList) e; simpa using this)
    have hs2 : s.run.text.isEmpty = false := by simpa using he
    have HP := Lib.hid (show s.flush = { s with out := s.out ++ [s.run], run := Tok.zero } from by unfold LS.flush; rw [if_neg he])
    have hown := h.toks
    have ag := h.far.1
    clear he h
    go_enter Tryz.func84, Tryz.ntmps84
    go_wp2_with fail
    go_region_law
      ((refine step_append_lies _ (by rfl) _ _ _ (by rfl) B 59 i0 _ 5 56 Tryz.underlying45 hi0 hz0 hz1 hz2 rfl (by omega) vo s.out.length (toksC s.out) (by rfl) ((hown.drew).alloc _)
          ⟨w.heap.size, 0, none⟩ 1 1 (tokC s.run) (by rfl) (by rfl) (World.news_of_block (cs := (tokC s.run).toArray) (t := 59) (fr := (0, 0)) (heap_alloc_new w _)) (by simp [Value.oneCell', tokC])
          (by omega) (by unfold maxLen; omega) (by omega) (by simp; omega) (w.heap.size + 1) (by simp) ?_; intro gg cap w1 hown1 hgrow hat hlt1; have q2 := hgrow.cell_far ⟨b, 0, none⟩ (by simp; omega) ag; have q2f := hgrow.frozen_far ⟨b, 0, none⟩ (by simp; omega) ag; simp at q2 q2f))
    all_goals
      have hk1 : w1.heap[b]? = some (.cells (lexC vo vp s) 81 (0, 0)) := by rw [hgrow.block b (by simp; omega) ag]; exact (HX.out.drew.alloc _).blk
      have q3 : w1.cell? ⟨b, 3, none⟩ = some (.int .i64 s.run.kind) := by rw [cell_of_heap hk1]; rfl
      have q4 : w1.cell? ⟨b, 4, none⟩ = some (.string ⟨s.run.name.toArray⟩) := by rw [cell_of_heap hk1]; rfl
      have q5 : w1.cell? ⟨b, 5, none⟩ = some (.string ⟨s.run.text.toArray⟩) := by rw [cell_of_heap hk1]; rfl
      have q6 : w1.cell? ⟨b, 6, none⟩ = some (.int .i64 s.run.line) := by rw [cell_of_heap hk1]; rfl
      have q7 : w1.cell? ⟨b, 7, none⟩ = some (.int .i64 s.run.col) := by rw [cell_of_heap hk1]; rfl
      have qf : ∀ i, w1.frozen? ⟨b, i, none⟩ = false := fun i => free_of_heap hk1
      clear hk1
      have HB : Hid (Below B w w1) := Lib.hid ((((Below.refl B w).drew).alloc hB _).grown hgrow (by simp; omega) fun k hk => (HX.out.toks.lt k hk).1)
      have Hg := Lib.hid hgrow
      have Ho := Lib.hid hown1
      clear hgrow hown1
      go_wp2
      go_end0
      refine ⟨rfl, ?_, ((((((HB.out.setCell hbase _).setCell hbase _).setCell hbase _).setCell hbase _).setCell hbase _).setCell hbase _)⟩
      rw [HP.out]
      have := (HX.out.drew.alloc _).told (t := s.run) rfl Hg.out Ho.out
      exact ⟨_, vp, ((((this.set 3 (by omega) (.int .i64 0)).set 4 (by omega) (.string ⟨#[]⟩)).set 5 (by omega) (.string ⟨#[]⟩)).set 6 (by omega) (.int .i64 0)).set 7 (by omega) (.int .i64 0)⟩
theorem eq2 (w : World) (a b : Nat) : (Op.equalIn 10000 79 (.agg #[.int .i64 a, .int .i64 b]) (.agg #[.int .i64 0, .int .i64 0])).run Tryz.prog w = .ok (decide (a = 0 ∧ b = 0)) w := by
  cases a with
  | zero => cases b with
    | zero => kernel_rfl
    | succ b => rw [show decide (0 = 0 ∧ b + 1 = 0) = false from by simp]; kernel_rfl
  | succ a => rw [show decide (a + 1 = 0 ∧ b = 0) = false from by simp]; kernel_rfl
set_option maxHeartbeats 1600000 in
set_option maxRecDepth 100000 in
theorem wait_any (B b : Nat) (s : LS) (c : Nat) (w : World) (h : LexAt B w b s) :
    Calls Tryz.prog 151 #[.pointer (some ⟨b, 0, none⟩), .int .i64 c] w (LexPost B b (s.wait c) w) := by
  obtain ⟨vo, vp, h⟩ := h
  obtain ⟨c0, c1, c2, c3, c4, c5, c6, c7, c8, c9, c10, c11, cf⟩ := lex_cells h
  have hbase := h.base
  have HX := Lib.hid h
  clear h
  by_cases hf : s.fresh = 0
  · have hq := fun w => eq2 w s.b0 s.b1
    have hf' : ((s.fresh : Int) == 0) = true := by rw [hf]; rfl
    by_cases hb : s.b0 = 0 ∧ s.b1 = 0
    · have HP := Lib.hid (show s.wait c = { s with b0 := s.line, b1 := c } from by unfold LS.wait; rw [if_pos ⟨hf, hb⟩])
      rw [show decide (s.b0 = 0 ∧ s.b1 = 0) = true from decide_eq_true hb] at hq
      clear hf hb
      go_enter Tryz.func151, Tryz.ntmps151
      go_wp2
      go_end0
      refine ⟨rfl, ?_, ((Below.refl _ _).setCell hbase _).setCell hbase _⟩
      rw [HP.out]
      exact ⟨vo, vp, (HX.out.set 8 (by omega) (.int .i64 s.line)).set 9 (by omega) (.int .i64 c)⟩
    · have HP := Lib.hid (show s.wait c = s from by unfold LS.wait; rw [if_neg fun h => hb h.2])
      rw [show decide (s.b0 = 0 ∧ s.b1 = 0) = false from decide_eq_false hb] at hq
      clear hf hb
      go_enter Tryz.func151, Tryz.ntmps151
      go_wp2
      go_end0
      refine ⟨rfl, ?_, Below.refl _ _⟩
      rw [HP.out]
      exact ⟨vo, vp, HX.out⟩
  · have HP := Lib.hid (show s.wait c = s from by unfold LS.wait; rw [if_neg fun h => hf h.1])
    have hf' : ((s.fresh : Int) == 0) = false := by rw [beq_eq_false_iff_ne]; omega
    clear hf
    go_enter Tryz.func151, Tryz.ntmps151
    go_wp2
    go_end0
    refine ⟨rfl, ?_, Below.refl _ _⟩
    rw [HP.out]
    exact ⟨vo, vp, HX.out⟩
set_option maxHeartbeats 3200000 in
set_option maxRecDepth 100000 in
theorem settle_any (B b : Nat) (s : LS) (w : World) (h : LexAt B w b s) (ht : s.run.text.length ≤ 4000000) :
    Calls Tryz.prog 212 #[.pointer (some ⟨b, 0, none⟩)] w (LexPost B b s.settle w) := by
  obtain ⟨vo, vp, h⟩ := h
  obtain ⟨c0, c1, c2, c3, c4, c5, c6, c7, c8, c9, c10, c11, cf⟩ := lex_cells h
  have hbase := h.base
  have HX := Lib.hid h
  clear h
  have hq := fun w => eq2 w s.b0 s.b1
  by_cases hb : s.b0 = 0 ∧ s.b1 = 0
  · have HP := Lib.hid (show s.settle = { s with fresh := 0 } from by unfold LS.settle; rw [if_pos hb])
    rw [show decide (s.b0 = 0 ∧ s.b1 = 0) = true from decide_eq_true hb] at hq
    clear hb
    go_enter Tryz.func212, Tryz.ntmps212
    go_wp2
    go_end0
    refine ⟨rfl, ?_, (Below.refl _ _).setCell hbase _⟩
    rw [HP.out]
    exact ⟨vo, vp, HX.out.set 10 (by omega) (.int .i64 0)⟩
  · have HP := Lib.hid (show s.settle = { s.put [32] s.b0 s.b1 with b0 := 0, b1 := 0, fresh := 0 } from by unfold LS.settle; rw [if_neg hb])
    rw [show decide (s.b0 = 0 ∧ s.b1 = 0) = false from decide_eq_false hb] at hq
    clear hb
    go_enter Tryz.func212, Tryz.ntmps212
    go_wp2_with fail
    go_still_tail 11, (by kernel_rfl)
    go_wp2_with (go_at_call 213; refine (put_any B b s [32] s.b0 s.b1 _ ⟨vo, vp, HX.out.drew⟩ (by decide) ht).mono ?_; rintro e w1 ⟨rfl, ⟨vo1, vp1, hx1⟩, hb1⟩; obtain ⟨d0, d1, d2, d3, d4, d5, d6, d7, d8, d9, d10, d11, df⟩ := lex_cells hx1; have HX1 := Lib.hid hx1; have HB1 := Lib.hid (((Below.refl B w).drew).trans hb1); clear hx1 hb1)
    go_end0
    refine ⟨rfl, ?_, ((HB1.out.setCell hbase _).setCell hbase _).setCell hbase _⟩
    rw [HP.out]
    exact ⟨vo1, vp1, ((HX1.out.set 8 (by omega) (.int .i64 0)).set 9 (by omega) (.int .i64 0)).set 10 (by omega) (.int .i64 0)⟩
theorem Bk.LS.put_out (s : LS) (x : Wd) (l c : Nat) : (s.put x l c).out = s.out ∧ (s.put x l c).opn = s.opn ∧ (s.put x l c).line = s.line ∧ (s.put x l c).ins = s.ins := by unfold LS.put; split <;> exact ⟨rfl, rfl, rfl, rfl⟩
theorem Bk.LS.settle_out (s : LS) : s.settle.out = s.out ∧ s.settle.opn = s.opn ∧ s.settle.line = s.line ∧ s.settle.ins = s.ins := by unfold LS.settle; split <;> first | exact ⟨rfl, rfl, rfl, rfl⟩ | exact s.put_out _ _ _
theorem Bk.LS.put_text (s : LS) (x : Wd) (l c : Nat) : (s.put x l c).run.text.length = s.run.text.length + x.length := by unfold LS.put; split <;> simp_all
theorem Bk.LS.settle_text (s : LS) : s.settle.run.text.length ≤ s.run.text.length + 1 := by
  unfold LS.settle
  split
  · simp
  · show (s.put [32] s.b0 s.b1).run.text.length ≤ _
    rw [s.put_text]; simp
theorem Bk.LS.flush_out (s : LS) : s.flush.out.length ≤ s.out.length + 1 ∧ s.flush.opn = s.opn ∧ s.flush.line = s.line ∧ s.flush.ins = s.ins ∧ s.flush.run = Tok.zero := by unfold LS.flush; split <;> simp
set_option maxHeartbeats 3200000 in
set_option maxRecDepth 100000 in
theorem token_any (B b : Nat) (s : LS) (kind : Nat) (nm : Wd) (c : Nat) (w : World) (h : LexAt B w b s) (hB : B ≤ w.heap.size) (ht : s.run.text.length ≤ 4000000) (hn : s.out.length ≤ 3000000) :
    Calls Tryz.prog 211 #[.pointer (some ⟨b, 0, none⟩), .int .i64 kind, .string ⟨nm.toArray⟩, .int .i64 c] w (LexPost B b (s.token kind nm c) w) := by
  obtain ⟨i0, hi0, hz0, hz1, hz2⟩ := info_parts info_tok
  have HL := Lib.hid h
  have hs1 := s.settle_out
  have hs2 := s.settle.flush_out
  rw [hs1.1, hs1.2.2.1] at hs2
  have hsl := hs2.2.2.1
  have hso := hs2.1
  have HSL := Lib.hid hsl
  have HP := Lib.hid (show s.token kind nm c = s.settle.flush.push ⟨kind, nm, [], s.line, c⟩ from rfl)
  clear hs1 hs2 hsl h
  go_enter Tryz.func211, Tryz.ntmps211
  go_wp2_with (first
    | (go_at_call 212; refine (settle_any B b s w HL.out ht).mono ?_; rintro e w1 ⟨rfl, hx1, hb1⟩; have HX1 := Lib.hid hx1; have HB1 := Lib.hid hb1; have hy1 := hb1.size; clear hx1 hb1)
    | (go_at_call 84; refine (flush_any B b s.settle w1 HX1.out (by omega) (by rw [s.settle_out.1]; omega)).mono ?_; rintro e w2 ⟨rfl, ⟨vo, vp, hx2⟩, hb2⟩; obtain ⟨c0, c1, c2, c3, c4, c5, c6, c7, c8, c9, c10, c11, cf⟩ := lex_cells hx2; have hown := hx2.toks; have ag := hx2.far.1; have hlt := hx2.lt; have hbase := hx2.base; have HX := Lib.hid hx2; have HB2 := Lib.hid (HB1.out.trans hb2); have hy2 := hb2.size; clear hx2 hb2))
  rw [HSL.out] at c11
  go_region_law
      ((refine step_append_lies _ (by rfl) _ _ _ (by rfl) B 59 i0 _ 5 56 Tryz.underlying45 hi0 hz0 hz1 hz2 rfl (by omega) vo s.settle.flush.out.length (toksC s.settle.flush.out) (by rfl) ((hown.drew).alloc _)
          ⟨w2.heap.size, 0, none⟩ 1 1 (tokC ⟨kind, nm, [], s.line, c⟩) (by rfl) (by rfl) (World.news_of_block (cs := (tokC ⟨kind, nm, [], s.line, c⟩).toArray) (t := 59) (fr := (0, 0)) (heap_alloc_new w2 _)) (by simp [Value.oneCell', tokC])
          (by omega) (by unfold maxLen; omega) (by omega) (by simp; omega) (w2.heap.size + 1) (by simp) ?_; intro gg cap w3 hown1 hgrow hat hlt1; have q2 := hgrow.cell_far ⟨b, 0, none⟩ (by simp; omega) ag; have q2f := hgrow.frozen_far ⟨b, 0, none⟩ (by simp; omega) ag; simp at q2 q2f))
  all_goals
    have HB : Hid (Below B w w3) := Lib.hid ((((HB2.out).drew).alloc (show B ≤ w2.heap.size by omega) _).grown hgrow (by simp; omega) fun k hk => (HX.out.toks.lt k hk).1)
    have Hg := Lib.hid hgrow
    have Ho := Lib.hid hown1
    clear hgrow hown1
    go_wp2
    go_end0
    refine ⟨rfl, ?_, HB.out.setCell hbase _⟩
    rw [HP.out]
    exact ⟨_, vp, (HX.out.drew.alloc _).told (t := ⟨kind, nm, [], s.line, c⟩) rfl Hg.out Ho.out⟩
end Go.Proofs.YtafhmagifoapfaaGreatDoor
namespace Go.Proofs.YtafhmagifoapfaaGreatDoor
open Go.RowKit Find Bk
theorem cell_lt {w : World} {a : Addr} {v : Value} (h : w.cell? a = some v) : a.block < w.heap.size := World.block_lt_of_cell? w _ h
/-- What the library's variables hold. -/
structure Glb (w : World) : Prop where
  tabs : Lib.Utf8Tabs 2 3 w
  max : ∃ m : Int, w.cell? ⟨1, 0, none⟩ = some (.int .i64 m)
  err : w.cell? ⟨0, 0, none⟩ = some (.iface 208 (.agg #[.pointer (some ⟨9, 30, none⟩)]))
theorem Glb.size {w : World} (h : Glb w) : 4 ≤ w.heap.size := by
  have := cell_lt (h.tabs.2 0 (by omega)).1
  show 3 < _
  exact this
theorem Glb.of {B : Nat} {w w' : World} (h : Glb w) (hb : Below B w w') (hB : 4 ≤ B) : Glb w' := by
  have hc : ∀ k o, k < 4 → w'.cell? ⟨k, o, none⟩ = w.cell? ⟨k, o, none⟩ := fun k o hk => hb.cell (p := ⟨k, o, none⟩) (by show k < B; omega)
  refine ⟨⟨fun c hcc => (hc 2 _ (by omega)).trans (h.tabs.1 c hcc), fun i hi => ⟨(hc 3 _ (by omega)).trans (h.tabs.2 i hi).1, (hc 3 _ (by omega)).trans (h.tabs.2 i hi).2⟩⟩, ?_, (hc 0 _ (by omega)).trans h.err⟩
  obtain ⟨m, hm⟩ := h.max
  exact ⟨m, (hc 1 _ (by omega)).trans hm⟩
theorem Glb.below {w w' : World} (h : Glb w) (hb : Below w.heap.size w w') : Glb w' := h.of hb h.size
theorem below_drewN {B : Nat} {a w : World} (h : Below B a w) (n : Nat) : Below B a (w.drewN n) := ⟨h.os, h.tape, h.output, h.size, h.block⟩
theorem size_list (s : ByteArray) : s.size = s.data.toList.length := by show s.data.size = _; rw [Array.length_toList]
theorem size_mk (l : Wd) : (⟨l.toArray⟩ : ByteArray).size = l.length := by rw [size_list]
theorem ba_ext {a b : ByteArray} (h : a.data.toList = b.data.toList) : a = b := by
  cases a; cases b
  simp only at h
  congr 1
  exact Array.ext' h
theorem ext_mk (l : Wd) (i j : Nat) : (⟨l.toArray⟩ : ByteArray).extract i j = ⟨((l.drop i).take (j - i)).toArray⟩ := by
  apply ba_ext
  simp [List.take_drop]
theorem ext_to_end (l : Wd) (i : Nat) : (⟨l.toArray⟩ : ByteArray).extract i l.length = ⟨(l.drop i).toArray⟩ := by
  rw [ext_mk, List.take_of_length_le (by simp)]
theorem cut_nl (l : Wd) (w : World) (hg : Glb w) (hl : l.length ≤ 1000000) :
    Calls Tryz.prog 23 #[.string ⟨l.toArray⟩, .string ⟨#[10]⟩] w fun e w' => e = .returned (.tuple #[.string ⟨(cutLn l).1.toArray⟩, .string ⟨(cutLn l).2.1.toArray⟩, .bool (cutLn l).2.2]) ∧ Below w.heap.size w w' := by
  obtain ⟨m, hm⟩ := hg.max
  refine (Tryz.strings_Cut ⟨l.toArray⟩ ⟨#[10]⟩ m w (by rw [size_mk]; omega) hm).mono ?_
  rintro e w' ⟨rfl, n, rfl⟩
  exact ⟨rfl, below_drewN (Below.refl _ _) n⟩
theorem cr_any (l : Wd) (w : World) (hl : l.length ≤ 1000000) :
    Calls Tryz.prog 24 #[.string ⟨l.toArray⟩, .string ⟨#[13]⟩] w fun e w' => e = .returned (.string ⟨(chopCR l).toArray⟩) ∧ w = w' :=
  (Tryz.strings_TrimSuffix ⟨l.toArray⟩ ⟨#[13]⟩ w (by rw [size_mk]; omega)).mono fun e w' ⟨h1, h2⟩ => ⟨h1, h2.symm⟩
theorem hash_any (l : Wd) (w : World) :
    Calls Tryz.prog 80 #[.string ⟨l.toArray⟩, .string ⟨#[35]⟩] w fun e w' => e = .returned (.bool (Lib.hasPrefix l [35])) ∧ w = w' :=
  (Tryz.strings_HasPrefix ⟨l.toArray⟩ ⟨#[35]⟩ w).mono fun _e _w' ⟨h1, h2⟩ => ⟨h1, h2.symm⟩
theorem trim_any (l : Wd) (w : World) (hl : l.length ≤ 1000000) :
    Calls Tryz.prog 81 #[.string ⟨l.toArray⟩, .string ⟨#[32, 9]⟩] w fun e w' => e = .returned (.string ⟨(trimB l).toArray⟩) ∧ Below w.heap.size w w' :=
  Any.strings_Trim_laid Tryz.lays160 (by kernel_rfl) ⟨l.toArray⟩ ⟨#[32, 9]⟩ w (by rw [size_mk]; omega) (by decide) (ascii_of_all (by decide))
theorem untab_any (l : Wd) (w : World) (hg : Glb w) (hl : l.length ≤ 1000000) :
    Calls Tryz.prog 139 #[.string ⟨l.toArray⟩, .string ⟨#[9]⟩, .string ⟨#[32]⟩] w fun e w' => e = .returned (.string ⟨(untab l).toArray⟩) ∧ Below w.heap.size w w' := by
  obtain ⟨m, hm⟩ := hg.max
  have hc := Lib.countB_le ⟨#[9]⟩ (by decide) (⟨l.toArray⟩ : ByteArray).size ⟨l.toArray⟩ (Nat.le_refl _)
  rw [size_mk] at hc
  exact Tryz.strings_ReplaceAll ⟨l.toArray⟩ ⟨#[9]⟩ ⟨#[32]⟩ m w (by rw [size_mk]; omega) hm (by decide) (by rw [size_mk]; show _ + _ * 1 ≤ _; omega)
theorem dec_any (l : Wd) (w : World) (hg : Glb w) (hl : l ≠ []) :
    Calls Tryz.prog 188 #[.string ⟨l.toArray⟩] w fun e w' => e = .returned (.tuple #[.int .i32 (decL l).1, .int .i64 (decL l).2]) ∧ Below w.heap.size w w' := by
  have hd : Lib.decodeGo ⟨l.toArray⟩ = decL l := by
    unfold Lib.decodeGo
    rw [if_neg (by rw [size_mk]; exact fun e => hl (List.length_eq_zero_iff.1 e)), decode_eq, List.drop_zero]
  have := Tryz.utf8_DecodeRuneInString ⟨l.toArray⟩ w hg.tabs
  rw [hd] at this
  exact this
theorem decL_hi (l : List UInt8) : (decL l).1 ≤ 1114111 ∧ 1 ≤ (decL l).2 := ⟨by have := decL_valid l; rw [valid_iff] at this; omega, decL_pos l⟩
theorem decL_four (l : List UInt8) : (decL l).2 ≤ 4 := by
  unfold decL
  simp only
  repeat' split
  all_goals simp
def ctl (r : Int) : Bool := decide (r < 32) || (decide (127 ≤ r) && decide (r ≤ 159))
theorem plainAt_more : ∀ (f g : Nat) (l : Wd) (i : Nat), l.length ≤ f → l.length ≤ g → plainAt f l i = plainAt g l i
  | 0, 0, l, i, _, _ => rfl
  | 0, g + 1, l, i, h, _ => by
    have : l = [] := List.length_eq_zero_iff.1 (by omega)
    subst this; rfl
  | f + 1, 0, l, i, _, h => by
    have : l = [] := List.length_eq_zero_iff.1 (by omega)
    subst this; rfl
  | f + 1, g + 1, l, i, h, k => by
    unfold plainAt
    by_cases e : l = []
    · rw [if_pos e, if_pos e]
    · rw [if_neg e, if_neg e]
      have h1 := decL_pos l
      split
      · rfl
      · exact plainAt_more f g _ _ (by rw [List.length_drop]; omega) (by rw [List.length_drop]; omega)
def plainA (l : Wd) (i : Nat) : Option Nat := plainAt l.length l i
theorem plainA_cons (l : Wd) (i : Nat) (h : l ≠ []) : plainA l i = if badC (decL l).1 (decL l).2 then some i else plainA (l.drop (decL l).2) (i + (decL l).2) := by
  have hp := List.length_pos_iff.2 h
  have h1 := decL_pos l
  unfold plainA
  rw [plainAt_more l.length (l.length - 1 + 1) l i (Nat.le_refl _) (by omega)]
  show (if l = [] then none else if badC (decL l).1 (decL l).2 then some i else plainAt (l.length - 1) (l.drop (decL l).2) (i + (decL l).2)) = _
  rw [if_neg h]
  split
  · rfl
  · exact plainAt_more (l.length - 1) (l.drop (decL l).2).length _ _ (by rw [List.length_drop]; omega) (Nat.le_refl _)
set_option maxHeartbeats 1000000 in
theorem control_any (r : Int) (w : World) (h0 : -2147483648 ≤ r) (h1 : r ≤ 2147483647) :
    Calls Tryz.prog 203 #[.int .i32 r] w fun e w' => e = .returned (.bool (ctl r)) ∧ w = w' := by
  go_enter Tryz.func203, Tryz.ntmps203
  go_wp2
  all_goals
    go_ret
    refine ⟨ret_bool ?_, rfl⟩
    unfold ctl
    rw [Bool.eq_iff_iff]
    simp
    try omega
set_option maxHeartbeats 1000000 in
theorem bad_any (l : Wd) (i : Nat) (w : World) (hT : Glb w) (hi : i < l.length) :
    Calls Tryz.prog 204 #[.string ⟨l.toArray⟩, .int .i64 i] w fun e w' => e = .returned (.bool (decide ((decL (l.drop i)).1 = 65533 ∧ (decL (l.drop i)).2 = 1))) ∧ Below w.heap.size w w' := by
  have hd := dec_any (l.drop i) w hT (by intro e; have := congrArg List.length e; rw [List.length_drop] at this; simp at this; omega)
  rw [← ext_to_end] at hd
  obtain ⟨hr1, hr2⟩ := decL_hi (l.drop i)
  generalize (decL (l.drop i)).1 = r at *
  generalize (decL (l.drop i)).2 = n at *
  have HD := Lib.hid hd
  clear hd
  by_cases h1 : r = 65533
  · subst h1
    have hb1 : (((65533 : Nat) : Int) == 65533) = true := rfl
    by_cases h2 : n = 1
    · subst h2
      go_enter Tryz.func204, Tryz.ntmps204
      go_wp2_with (go_at_call 188; refine HD.out.mono ?_; rintro e w1 ⟨rfl, hb1⟩)
      go_ret
      exact ⟨rfl, hb1⟩
    · have hb2 : ((n : Int) == 1) = false := by rw [beq_eq_false_iff_ne]; omega
      have HN := Lib.hid h2
      clear h2
      go_enter Tryz.func204, Tryz.ntmps204
      go_wp2_with (go_at_call 188; refine HD.out.mono ?_; rintro e w1 ⟨rfl, hb1⟩)
      go_ret
      exact ⟨ret_bool (by simp [HN.out]), hb1⟩
  · have hb1 : ((r : Int) == 65533) = false := by rw [beq_eq_false_iff_ne]; omega
    have HN := Lib.hid h1
    clear h1
    go_enter Tryz.func204, Tryz.ntmps204
    go_wp2_with (go_at_call 188; refine HD.out.mono ?_; rintro e w1 ⟨rfl, hb1⟩)
    go_ret
    exact ⟨ret_bool (by simp [HN.out]), hb1⟩
/-- What Plain tells. -/
def PlainPost (l : Wd) (w : World) (e : Ending) (w' : World) : Prop := (match plainA l 0 with
  | some i => e = .returned (.tuple #[.int .i64 i, .bool false])
  | none => e = .returned (.tuple #[.int .i64 0, .bool true])) ∧ Below w.heap.size w w'
set_option maxHeartbeats 4000000 in
theorem plain_any (l : Wd) (w : World) (hT : Glb w) (hs : l.length ≤ 1099511627776) :
    Calls Tryz.prog 138 #[.string ⟨l.toArray⟩] w (PlainPost l w) := by
  have HT := Lib.hid hT
  clear hT
  obtain ⟨s, hse⟩ : ∃ s : ByteArray, s = ⟨l.toArray⟩ := ⟨_, rfl⟩
  have hsl : s.data.toList = l := by rw [hse]
  rw [← hse]
  have hsz : s.size = l.length := by rw [hse, size_mk]
  have HSE := Lib.hid hse
  have HSL := Lib.hid hsl
  have HSZ := Lib.hid hsz
  have hsz2 : s.size ≤ 1099511627776 := by omega
  clear hse hsl hsz
  go_enter Tryz.func138, Tryz.ntmps138
  go_wp2
  go_loopw [] (fun wr => ∃ pos : Nat, pos ≤ s.size ∧ wr.heap[w.heap.size]? = some (.stringIter s pos) ∧ Hid (plainA l 0 = plainA (l.drop pos) pos) ∧ Below w.heap.size w wr) (fun wr => s.size - wr.iterPos w.heap.size)
  case atStart => exact ⟨0, Nat.zero_le _, World.iter_heap w s 0, Lib.hid (by rw [List.drop_zero]), (Below.refl _ _).alloc (Nat.le_refl _) _⟩
  case round =>
    obtain ⟨pos, hpos, hit, hpl, hb⟩ := hrel
    have HB := Lib.hid hb
    have HIT := Lib.hid hit
    clear hb
    by_cases hp : pos < s.size
    · have hnx : ∀ ty, (Instr.next (.pointer (some ⟨w.heap.size, 0, none⟩)) true ty).run Tryz.prog wr = _ := fun ty => Lib.run_next_any_at wr w.heap.size s pos ty hit hp
      rw [decode_eq, HSL.out] at hnx
      have hne : l.drop pos ≠ [] := by intro e; have := congrArg List.length e; rw [List.length_drop, ← HSZ.out] at this; simp at this; omega
      obtain ⟨hr1, hr2⟩ := decL_hi (l.drop pos)
      have hn := decL_len (l.drop pos) hne
      rw [List.length_drop, ← HSZ.out] at hn
      have hIT := Lib.iterAt_heap wr w.heap.size s pos (pos + (decL (l.drop pos)).2) hit
      have hBI := Lib.below_iterAt HB.out (Nat.le_refl _) s (pos + (decL (l.drop pos)).2)
      have hbd := bad_any l pos (wr.iterAt w.heap.size s (pos + (decL (l.drop pos)).2)) (HT.out.below hBI) (by rw [← HSZ.out]; exact hp)
      rw [← HSE.out] at hbd
      have hpl2 := plainA_cons (l.drop pos) pos hne
      rw [List.drop_drop] at hpl2
      have hcl := control_any (decL (l.drop pos)).1 (wr.iterAt w.heap.size s (pos + (decL (l.drop pos)).2)) (by omega) (by omega)
      generalize hr : (decL (l.drop pos)).1 = r at *
      generalize hnn : (decL (l.drop pos)).2 = n at *
      have hct : badC r n = (ctl (r : Int) || (r == 65533 && n == 1)) := by
        unfold badC ctl
        have e1 : decide ((r : Int) < 32) = decide (r < 32) := by rw [decide_eq_decide]; omega
        have e2 : decide (127 ≤ (r : Int)) = decide (127 ≤ r) := by rw [decide_eq_decide]; omega
        have e3 : decide ((r : Int) ≤ 159) = decide (r ≤ 159) := by rw [decide_eq_decide]; omega
        rw [e1, e2, e3]
      rw [hct] at hpl2
      clear hr hnn hit hct hne
      have HPL := Lib.hid hpl2
      have HBD := Lib.hid hbd
      have HI2 := Lib.hid hIT
      have HB2 := Lib.hid hBI
      have HCL := Lib.hid hcl
      clear hpl2 hbd hIT hBI hcl
      cases hc : ctl (r : Int) with
      | true =>
        have HC1 := Lib.hid (show Calls Tryz.prog 203 #[.int .i32 r] (wr.iterAt w.heap.size s (pos + n)) fun e w' => e = .returned (.bool true) ∧ wr.iterAt w.heap.size s (pos + n) = w' from by rw [← hc]; exact HCL.out)
        have HE := Lib.hid (show plainA l 0 = some pos from by rw [hpl.out, HPL.out, hc]; rfl)
        clear hc
        go_wp2_with (go_at_call 203; refine HC1.out.mono ?_; rintro e w9 ⟨rfl, rfl⟩)
        go_ret2
        refine ⟨?_, HB2.out⟩
        rw [HE.out]; first | done | exact rfl
      | false =>
        have HC1 := Lib.hid (show Calls Tryz.prog 203 #[.int .i32 r] (wr.iterAt w.heap.size s (pos + n)) fun e w' => e = .returned (.bool false) ∧ wr.iterAt w.heap.size s (pos + n) = w' from by rw [← hc]; exact HCL.out)
        have HCF := Lib.hid hc
        clear hc
        by_cases h1 : r = 65533
        · subst h1
          have hb1 : (((65533 : Nat) : Int) == 65533) = true := rfl
          by_cases h2 : n = 1
          · have HB3 := Lib.hid (show Calls Tryz.prog 204 #[.string s, .int .i64 pos] (wr.iterAt w.heap.size s (pos + n)) fun e w' => e = .returned (.bool true) ∧ Below (wr.iterAt w.heap.size s (pos + n)).heap.size (wr.iterAt w.heap.size s (pos + n)) w' from by have := HBD.out; simpa [h2] using this)
            have HE := Lib.hid (show plainA l 0 = some pos from by rw [hpl.out, HPL.out]; simp [h2])
            clear h2
            go_wp2_with (first | (go_at_call 203; refine HC1.out.mono ?_; rintro e w9 ⟨rfl, rfl⟩) | (go_at_call 204; refine HB3.out.mono ?_; rintro e w9 ⟨rfl, hb9⟩))
            go_ret2
            refine ⟨?_, HB2.out.trans (hb9.mono HB2.out.size)⟩
            rw [HE.out]; first | done | exact rfl
          · have HB3 := Lib.hid (show Calls Tryz.prog 204 #[.string s, .int .i64 pos] (wr.iterAt w.heap.size s (pos + n)) fun e w' => e = .returned (.bool false) ∧ Below (wr.iterAt w.heap.size s (pos + n)).heap.size (wr.iterAt w.heap.size s (pos + n)) w' from by have := HBD.out; simpa [h2] using this)
            have HE := Lib.hid (show plainA l 0 = plainA (l.drop (pos + n)) (pos + n) from by rw [hpl.out, HPL.out, HCF.out]; simp [h2])
            clear h2
            go_wp2_with (first | (go_at_call 203; refine HC1.out.mono ?_; rintro e w9 ⟨rfl, rfl⟩) | (go_at_call 204; refine HB3.out.mono ?_; rintro e w9 ⟨rfl, hb9⟩))
            go_roundw
            case rel => exact ⟨pos + n, by omega, (hb9.block _ (lt_of_heap HI2.out)).trans HI2.out, HE, HB2.out.trans (hb9.mono HB2.out.size)⟩
            case measure => simp only [World.iterPos, (hb9.block _ (lt_of_heap HI2.out)).trans HI2.out, HIT.out]; omega
        · have hb1 : ((r : Int) == 65533) = false := by rw [beq_eq_false_iff_ne]; omega
          have HE := Lib.hid (show plainA l 0 = plainA (l.drop (pos + n)) (pos + n) from by rw [hpl.out, HPL.out, HCF.out]; simp [h1])
          clear h1
          go_wp2_with (go_at_call 203; refine HC1.out.mono ?_; rintro e w9 ⟨rfl, rfl⟩)
          go_roundw
          case rel => exact ⟨pos + n, by omega, HI2.out, HE, HB2.out⟩
          case measure => simp only [World.iterPos, HI2.out, HIT.out]; omega
    · have hnx : ∀ ty, (Instr.next (.pointer (some ⟨w.heap.size, 0, none⟩)) true ty).run Tryz.prog wr = _ := fun ty => Lib.run_next_end_at wr w.heap.size s pos ty hit hp
      have HE := Lib.hid (show plainA l 0 = none from by
        rw [hpl.out, List.drop_eq_nil_of_le (by rw [← HSZ.out]; omega)]; rfl)
      clear hit
      go_wp2
      go_ret2
      refine ⟨?_, HB.out⟩
      rw [HE.out]; first | done | exact rfl
end Go.Proofs.YtafhmagifoapfaaGreatDoor
namespace Go.Proofs.YtafhmagifoapfaaGreatDoor
open Go.RowKit Find Bk
attribute [local go_sem ↓] Go.wp_at_zero Go.wp_at_succ
/-- An error that New made. -/
def FltV (w : World) (v : Value) (f : Flt) : Prop := ∃ g, v = .iface 68 (.pointer (some ⟨g, 0, none⟩)) ∧
  w.heap[g]? = some (.cells #[.int .i64 1, .int .i64 f.code, .int .i64 0, .int .i64 f.line, .int .i64 f.col, .string ⟨f.word.toArray⟩, .slice none 0 0] 260 (0, 0))
theorem FltV.new {w w' : World} {v : Value} {f : Flt} (h : FltV w v f) (hb : Below w.heap.size w w') : FltV w' v f := by
  obtain ⟨g, hv, hg⟩ := h
  exact ⟨g, hv, by rw [hb.block g (lt_of_heap hg)]; exact hg⟩
def WrongPost (f : Flt) (w : World) (e : Ending) (w' : World) : Prop := ∃ v, e = .returned v ∧ FltV w' v f ∧ Below w.heap.size w w'
set_option maxHeartbeats 1600000 in
set_option maxRecDepth 100000 in
theorem new_any (c l k : Nat) (x : Wd) (w : World) (hc : c ≠ 0) :
    Calls Tryz.prog 74 #[.int .i64 c, .int .i64 0, .int .i64 l, .int .i64 k, .string ⟨x.toArray⟩] w (WrongPost ⟨c, l, k, x⟩ w) := by
  have hc0 : ((c : Int) == 0) = false := by rw [beq_eq_false_iff_ne]; omega
  clear hc
  go_enter Tryz.func74, Tryz.ntmps74
  go_wp2
  go_ret
  exact ⟨_, rfl, ⟨_, rfl, heap_alloc_new _ _⟩, (Below.refl _ _).alloc (Nat.le_refl _) _⟩
set_option maxHeartbeats 1600000 in
set_option maxRecDepth 100000 in
theorem wrong_any (c l k : Nat) (x : Wd) (w : World) (hc : c ≠ 0) :
    Calls Tryz.prog 22 #[.int .i64 c, .int .i64 l, .int .i64 k, .string ⟨x.toArray⟩] w (WrongPost ⟨c, l, k, x⟩ w) := by
  go_enter Tryz.func22, Tryz.ntmps22
  go_wp2_with (go_at_call 74; refine (new_any c l k x w hc).mono ?_; rintro e w1 ⟨v, rfl, hf, hb⟩)
  go_ret
  exact ⟨v, rfl, hf, hb⟩
set_option maxHeartbeats 1600000 in
theorem blanked_any (c : UInt8) (w : World) :
    Calls Tryz.prog 149 #[.int .u8 c.toNat] w fun e w' => e = .returned (.bool (blk c)) ∧ w = w' := by
  have h9 : (((c.toNat : Int)) == 9) = (c == 9) := by
    rw [Bool.eq_iff_iff]; simp only [beq_iff_eq]
    exact ⟨fun h => UInt8.toNat_inj.1 (by show c.toNat = 9; omega), fun h => by rw [h]; rfl⟩
  have h32 : (((c.toNat : Int)) == 32) = (c == 32) := by
    rw [Bool.eq_iff_iff]; simp only [beq_iff_eq]
    exact ⟨fun h => UInt8.toNat_inj.1 (by show c.toNat = 32; omega), fun h => by rw [h]; rfl⟩
  unfold blk
  generalize (c == 9) = x at *
  generalize (c == 32) = y at *
  cases x <;> cases y <;>
    (go_enter Tryz.func149, Tryz.ntmps149
     go_wp2
     go_ret
     exact ⟨rfl, rfl⟩)
theorem nameF_at (l : Wd) (k : Nat) (h : k < l.length) : nameF (l.drop k) = if 97 ≤ (l[k].toNat : Int) ∧ (l[k].toNat : Int) ≤ 122 then nameF (l.drop (k + 1)) + 1 else 0 := by
  rw [List.drop_eq_getElem_cons h, nameF]
  have e : (97 ≤ l[k] ∧ l[k] ≤ 122) ↔ (97 ≤ (l[k].toNat : Int) ∧ (l[k].toNat : Int) ≤ 122) := by
    rw [UInt8.le_iff_toNat_le, UInt8.le_iff_toNat_le]
    show 97 ≤ _ ∧ _ ≤ 122 ↔ _
    omega
  by_cases h : 97 ≤ l[k] ∧ l[k] ≤ 122
  · rw [if_pos h, if_pos (e.1 h)]
  · rw [if_neg h, if_neg (fun x => h (e.2 x))]
theorem nameF_le : ∀ l : Wd, nameF l ≤ l.length
  | [] => Nat.le_refl _
  | c :: l => by
    have := nameF_le l
    unfold nameF
    split <;> simp <;> omega
set_option maxHeartbeats 1600000 in
set_option maxRecDepth 100000 in
theorem name_any (s : ByteArray) (w : World) (hs : s.size ≤ 1000000) :
    Calls Tryz.prog 148 #[.string s] w fun e w' => e = .returned (.int .i64 (nameF s.data.toList : Nat)) ∧ w = w' := by
  go_enter Tryz.func148, Tryz.ntmps148
  go_wp2
  go_loop [3] (fun i => ∃ k : Nat, k ≤ s.size ∧ i = .int .i64 k ∧ Hid (nameF s.data.toList = k + nameF (s.data.toList.drop k))) (fun i => s.size - (intOf i).toNat)
  case atStart => exact ⟨0, Nat.zero_le _, rfl, Lib.hid (by simp)⟩
  case round =>
    obtain ⟨k, hk, rfl, heq⟩ := hrel
    by_cases hlt : k < s.size
    · have hstep := nameF_at s.data.toList k (by rw [← size_list]; exact hlt)
      have he : s.data.toList[k]'(by rw [← size_list]; exact hlt) = s[k] := by simp; rfl
      rw [he] at hstep
      have HST := Lib.hid hstep
      clear hstep he
      go_wp2
      all_goals
        first
        | (go_round
           case rel => exact ⟨k + 1, by omega, by go_num, Lib.hid (by rw [heq.out, HST.out, if_pos ⟨by assumption, by assumption⟩]; omega)⟩
           case measure => simp [intOf]; omega)
        | (go_ret
           refine ⟨ret_int ?_, rfl⟩
           rw [heq.out, HST.out, if_neg (by omega)]; simp)
    · go_wp2
      go_ret
      refine ⟨ret_int ?_, rfl⟩
      rw [heq.out, List.drop_eq_nil_of_le (by rw [← size_list]; omega)]
      simp [nameF]
end Go.Proofs.YtafhmagifoapfaaGreatDoor
namespace Go.Proofs.YtafhmagifoapfaaGreatDoor
open Go.RowKit Find Bk
def wtS (l : List (Nat × Nat)) : Nat := (l.map fun x => x.2 - x.1 + 1).sum
theorem wtS_snoc (l : List (Nat × Nat)) (a b : Nat) : wtS (l ++ [(a, b)]) = wtS l + (b - a + 1) := by simp [wtS]
theorem spans_wt (p : Nat → Bool) (s : ByteArray) : ∀ (f pos : Nat) (st : Option Nat) (acc : List (Nat × Nat)), wtS acc ≤ s.size → wtS acc ≤ pos → (∀ a, st = some a → wtS acc ≤ a ∧ a ≤ pos ∧ a < s.size) →
    wtS (Lib.spansFromP p s f pos st acc).1 ≤ s.size ∧ ∀ a, (Lib.spansFromP p s f pos st acc).2 = some a → wtS (Lib.spansFromP p s f pos st acc).1 ≤ a ∧ a < s.size
  | 0, pos, st, acc, h1, h2, h3 => ⟨h1, fun a ha => ⟨(h3 a ha).1, (h3 a ha).2.2⟩⟩
  | f + 1, pos, st, acc, h1, h2, h3 => by
    unfold Lib.spansFromP
    have hd : 1 ≤ (Utf8.decode s pos).2 := by rw [decode_eq]; exact decL_pos _
    split
    · rename_i hlt
      split
      · cases st with
        | some a =>
          obtain ⟨k1, k2, k3⟩ := h3 a rfl
          have hw := wtS_snoc acc a pos
          exact spans_wt p s f _ none _ (by omega) (by omega) (fun a ha => by cases ha)
        | none => exact spans_wt p s f _ none _ h1 (by omega) (fun a ha => by cases ha)
      · cases st with
        | some a =>
          obtain ⟨k1, k2, k3⟩ := h3 a rfl
          exact spans_wt p s f _ (some a) _ h1 (by omega) (fun b hb => by cases hb; exact ⟨k1, by omega, k3⟩)
        | none => exact spans_wt p s f _ (some pos) _ h1 (by omega) (fun b hb => by cases hb; exact ⟨h2, by omega, hlt⟩)
    · exact ⟨h1, fun a ha => ⟨(h3 a ha).1, (h3 a ha).2.2⟩⟩
theorem spansOf_wt (p : Nat → Bool) (s : ByteArray) : wtS (Lib.spansOfP p s) ≤ s.size + 1 := by
  obtain ⟨h1, h2⟩ := spans_wt p s s.size 0 none [] (Nat.zero_le _) (Nat.zero_le _) (fun a ha => by cases ha)
  unfold Lib.spansOfP Lib.closeSpans
  cases hc : (Lib.spansFromP p s s.size 0 none []).2 with
  | some a =>
    have := h2 a hc
    rw [wtS_snoc]
    omega
  | none => exact Nat.le_succ_of_le h1
theorem joinTail_len (l : List Wd) : (Lib.joinTail [32] l).length = (l.map fun x => x.length + 1).sum := by
  induction l with
  | nil => rfl
  | cons x l ih =>
    unfold Lib.joinTail at ih ⊢
    simp only [List.map_cons, List.flatten_cons, List.length_append, List.length_singleton, List.sum_cons]
    omega
theorem join_len : ∀ l : List Wd, (Lib.join l [32]).length ≤ (l.map fun x => x.length + 1).sum - 1
  | [] => by rw [Lib.join_nil]; simp
  | x :: l => by
    rw [Lib.join_cons, List.length_append, joinTail_len]
    simp only [List.map_cons, List.sum_cons]
    omega
theorem fields_sum (s : ByteArray) : ∀ l : List (Nat × Nat), (((l.map fun x => s.extract x.1 x.2).map (·.data.toList)).map fun x => x.length + 1).sum ≤ wtS l
  | [] => by simp
  | x :: l => by
    have ih := fields_sum s l
    unfold wtS at ih ⊢
    simp only [List.map_cons, List.sum_cons]
    have : (s.extract x.1 x.2).data.toList.length ≤ x.2 - x.1 := by
      rw [← size_list, ByteArray.size_extract]; omega
    omega
theorem fields_len (p : Nat → Bool) (s : ByteArray) : (Lib.goFieldsP p s).length ≤ s.size + 1 := by
  have h := spansOf_wt p s
  have : ∀ l : List (Nat × Nat), l.length ≤ wtS l := fun l => by
    induction l with
    | nil => simp
    | cons x l ih => unfold wtS at ih ⊢; simp only [List.map_cons, List.sum_cons, List.length_cons]; omega
  unfold Lib.goFieldsP
  rw [List.length_map]
  exact Nat.le_trans (this _) h
theorem tidy_len (s : Wd) : (tidyF s).length ≤ s.length := by
  unfold tidyF
  have h1 := join_len ((Lib.goFieldsP sepR ⟨s.toArray⟩).map (·.data.toList))
  have h2 := fields_sum ⟨s.toArray⟩ (Lib.spansOfP sepR ⟨s.toArray⟩)
  have h3 := spansOf_wt sepR ⟨s.toArray⟩
  rw [size_mk] at h3
  unfold Lib.goFieldsP at h1 ⊢
  exact Nat.le_trans h1 (Nat.le_trans (Nat.sub_le_sub_right h2 1) (by omega))
theorem cutW_len (s by_ : Wd) : (Lib.cut s by_).1.length ≤ s.length ∧ (Lib.cut s by_).2.1.length ≤ s.length := by
  unfold Lib.cut
  split
  · exact ⟨List.length_take_le' _ _, by simp⟩
  · exact ⟨Nat.le_refl _, Nat.zero_le _⟩
end Go.Proofs.YtafhmagifoapfaaGreatDoor
namespace Go.Proofs.YtafhmagifoapfaaGreatDoor
open Go.RowKit Find Bk
attribute [local go_sem ↓] Go.wp_at_zero Go.wp_at_succ
/-- A fault is thrown. -/
def StopPost (f : Flt) (w : World) (e : Ending) (w' : World) : Prop := ∃ v, e = .panicked [{ v := .iface 50 (.agg #[v]), recovered := false }] ∧ FltV w' v f ∧ Below w.heap.size w w'
set_option maxHeartbeats 1600000 in
set_option maxRecDepth 100000 in
theorem stop_any (c l k : Nat) (x : Wd) (w : World) (hc : c ≠ 0) :
    Calls Tryz.prog 56 #[.int .i64 c, .int .i64 l, .int .i64 k, .string ⟨x.toArray⟩] w (StopPost ⟨c, l, k, x⟩ w) := by
  go_enter Tryz.func56, Tryz.ntmps56
  go_wp2_with (go_at_call 74; refine (new_any c l k x w hc).mono ?_; rintro e w1 ⟨v, rfl, ⟨g, rfl, hg⟩, hb⟩)
  exact ⟨rfl, _, rfl, ⟨g, rfl, hg⟩, hb⟩
/-- A token as a value. -/
abbrev tokV (t : Tok) : Value := .agg #[.int .i64 t.kind, .string ⟨t.name.toArray⟩, .string ⟨t.text.toArray⟩, .int .i64 t.line, .int .i64 t.col]
set_option maxHeartbeats 1600000 in
set_option maxRecDepth 100000 in
theorem swrong_any (c : Nat) (t : Tok) (w : World) (hc : c ≠ 0) :
    Calls Tryz.prog 52 #[.int .i64 c, tokV t] w (StopPost (t.flt c) w) := by
  have H := stop_any c t.line t.col t.name
  go_enter Tryz.func52, Tryz.ntmps52
  go_wp2_with (go_at_call 56; refine (H _ hc).mono ?_; rintro e w1 ⟨v, rfl, hf, hb⟩)
  exact ⟨rfl, v, rfl, hf, ((Below.refl _ _).alloc (Nat.le_refl _) _).trans (hb.mono (by simp))⟩
end Go.Proofs.YtafhmagifoapfaaGreatDoor
