/- find.New: the finder of titles and texts, in new memory. -/
import Derived.Test.YthpbdeiphagkiaaGreatDoorFinder
import Derived.Test.YthpbdeiphagkiaaGreatDoorFWords
import Derived.Test.YthpbdeiphagkiaaGreatDoorSpots
import Derived.Deep.RegionHeld3
import Derived.Deep.RegionLaw
import Derived.Deep.DeepCutAuto
namespace Go.Proofs.YthpbdeiphagkiaaGreatDoor
open Go.RowKit Find

/-- A slice that reads as texts. -/
def StrSl (w : World) (v : Value) (l : List Wd) : Prop := ∃ a c, v = .slice a l.length c ∧ ∀ (k : Nat) (h : k < l.length), ∃ g o, a = some ⟨g, o, none⟩ ∧ w.cell? ⟨g, o + k, none⟩ = some (st l[k])
theorem StrSl.lt {w : World} {v : Value} {l : List Wd} (h : StrSl w v l) : ∀ g, v.ownBlock = some g → 0 < l.length → g < w.heap.size := by
  obtain ⟨a, c, rfl, hc⟩ := h
  intro g hg h0
  obtain ⟨g', o, rfl, hcell⟩ := hc 0 h0
  simp [Value.ownBlock] at hg; subst hg
  exact World.block_lt_of_cell? w _ hcell
theorem StrSl.new {w w' : World} {v : Value} {l : List Wd} (h : StrSl w v l) (hb : Below w.heap.size w w') : StrSl w' v l := by
  obtain ⟨a, c, rfl, hc⟩ := h
  refine ⟨a, c, rfl, fun k hk => ?_⟩
  obtain ⟨g, o, rfl, hcell⟩ := hc k hk
  exact ⟨g, o, rfl, (hb.cell (p := ⟨g, o + k, none⟩) (World.block_lt_of_cell? w _ hcell)).trans hcell⟩
theorem add_none (b o j : Nat) : (⟨b, o, none⟩ : Addr).add j = ⟨b, o + j, none⟩ := by unfold Addr.add; split <;> simp_all
theorem StrRow.sl {w : World} {v : Value} {l : List Wd} (h : StrRow w v l) : StrSl w v l := by
  obtain ⟨a, c, rfl⟩ := slice_form h
  refine ⟨a, c, rfl, fun k hk => ?_⟩
  obtain ⟨g, hg⟩ := owns_some h (by omega)
  rcases h.2 with ⟨h0, _⟩ | ⟨g', cap, cur, h0, _⟩
  · simp at h0; omega
  · simp at h0
    obtain ⟨rfl, rfl⟩ := h0
    refine ⟨g', 0, rfl, ?_⟩
    have := h.cells (g := g') rfl k (st l[k]) (by simp [List.getElem?_eq_getElem hk])
    rw [add_none] at this
    exact this

theorem cell_swap {w : World} {o : Obj} {p : Addr} {v : Value} (h : (w.alloc o).cell? p = some v) (hp : p.block < w.heap.size) (o' : Obj) : (w.alloc o').cell? p = some v :=
  cell_al ((World.cell?_of_block (Below.heap_alloc _ _ _ hp)).symm.trans h) o'
theorem Tabs.swap {w : World} {o : Obj} (h : Tabs (w.alloc o)) (h1 : 2 < w.heap.size) (o' : Obj) : Tabs (w.alloc o') :=
  ⟨fun c hc => cell_swap (h.1 c hc) (by simp; omega) o', fun i hi => ⟨cell_swap (h.2 i hi).1 (by simp; omega) o', cell_swap (h.2 i hi).2 (by simp; omega) o'⟩⟩
theorem info_pair : (Tryz.prog.info? 96).map (fun i => (i.zero, i.size, i.bytes)) = some (some (.agg #[.slice none 0 0, .slice none 0 0]), 2, 48) := by kernel_rfl
theorem pairCells_append (a b : List (Value × Value)) : pairCells (a ++ b) = pairCells a ++ pairCells b := by simp [pairCells]
/-- The lists with one more pair. -/
theorem ListsIs.snoc {B : Nat} {w w' : World} {vl' v0 v1 : Value} {LL : Lists} {l : List Wd × List Wd} {prs : List (Value × Value)} (hp : prs.length = LL.length)
    (hs : ∀ (i : Nat) (p : Value × Value) (l : List Wd × List Wd), prs[i]? = some p → LL[i]? = some l → StrRow w p.1 l.1 ∧ StrRow w p.2 l.2)
    (hown : w'.ownsRow B 96 2 vl' (LL.length + 1) (pairCells prs ++ [v0, v1])) (hk : ∀ (g : Nat) (c : Array Value), w.heap[g]? = some (.cells c 9 (0, 0)) → w'.heap[g]? = w.heap[g]?)
    (h0 : StrRow w v0 l.1) (h1 : StrRow w v1 l.2) : ListsIs B w' vl' (LL ++ [l]) := by
  have keep : ∀ {v : Value} {x : List Wd}, StrRow w v x → StrRow w' v x := fun {v x} h => owns_keep h fun g hg => by
    obtain ⟨c, hc⟩ := owns_kind h g hg; exact hk g c hc
  refine ⟨prs ++ [(v0, v1)], by simp [hp], by rw [List.length_append, pairCells_append]; exact hown, fun i p q hpi hqi => ?_⟩
  by_cases hi : i < LL.length
  · rw [List.getElem?_append_left (by omega)] at hpi hqi
    obtain ⟨q1, q2⟩ := hs i p q hpi hqi
    exact ⟨keep q1, keep q2⟩
  · rw [List.getElem?_append_right (by omega)] at hpi hqi
    have e1 : i = LL.length := by
      by_cases e : i - LL.length = 0
      · omega
      · rw [List.getElem?_eq_none (by simp; omega)] at hqi; cases hqi
    subst e1
    rw [hp, Nat.sub_self] at hpi
    rw [Nat.sub_self] at hqi
    cases hpi; cases hqi
    exact ⟨keep h0, keep h1⟩
/-- What the append of a pair leaves. -/
theorem lists_step {B k n b m pb gg cap : Nat} {w wc W0 w1 : World} {al : Option Addr} {cl : Nat} {v0 v1 : Value} {LL : Lists} {l : List Wd × List Wd} {prs : List (Value × Value)} {S : Wd → List Spot}
    (hbk : wc.heap[b]? = some (.cells #[.int .i64 n, .slice al k cl, .map (some m)] 30 (0, 0))) (hlo : wc.ownsRow B 96 2 (.slice al k cl) k (pairCells prs)) (hll : LL.length = k) (hp : prs.length = LL.length)
    (hs : ∀ (i : Nat) (p : Value × Value) (l : List Wd × List Wd), prs[i]? = some p → LL[i]? = some l → StrRow wc p.1 l.1 ∧ StrRow wc p.2 l.2) (hsp : SpotsIs B wc m S)
    (hpb : wc.heap[pb]? = some (.cells #[v0, v1] 96 (0, 0))) (hpr : ∀ g, Value.ownBlock (.slice al k cl) = some g → g ≠ pb) (h0 : StrRow wc v0 l.1) (h1 : StrRow wc v1 l.2) (hbw : Below B w wc) (hB : B ≤ b) {X : Obj} (hW : W0.heap = (wc.alloc X).heap) (hW2 : W0.os = wc.os ∧ W0.tape = wc.tape ∧ W0.output = wc.output)
    (hgrow : W0.grownBy w1 (Value.ownBlock (.slice al k cl))) (hown : w1.ownsRow B 96 2 (.slice (some ⟨gg, 0, none⟩) (k + 1) cap) (k + 1) (pairCells prs ++ [v0, v1])) :
    ∃ al' cl', (w1.setCell ⟨b, 1, none⟩ (.slice (some ⟨gg, 0, none⟩) (k + 1) cap)).heap[b]? = some (.cells #[.int .i64 n, .slice al' (k + 1) cl', .map (some m)] 30 (0, 0)) ∧ ListsIs B (w1.setCell ⟨b, 1, none⟩ (.slice (some ⟨gg, 0, none⟩) (k + 1) cap)) (.slice al' (k + 1) cl') (LL ++ [l]) ∧
      SpotsIs B (w1.setCell ⟨b, 1, none⟩ (.slice (some ⟨gg, 0, none⟩) (k + 1) cap)) m S ∧ (w1.setCell ⟨b, 1, none⟩ (.slice (some ⟨gg, 0, none⟩) (k + 1) cap)).heap[pb]? = some (.cells #[v0, v1] 96 (0, 0)) ∧
      StrRow (w1.setCell ⟨b, 1, none⟩ (.slice (some ⟨gg, 0, none⟩) (k + 1) cap)) v0 l.1 ∧ StrRow (w1.setCell ⟨b, 1, none⟩ (.slice (some ⟨gg, 0, none⟩) (k + 1) cap)) v1 l.2 ∧ Below B w (w1.setCell ⟨b, 1, none⟩ (.slice (some ⟨gg, 0, none⟩) (k + 1) cap)) := by
  have hkind := owns_kind hlo
  have key : ∀ g : Nat, g < wc.heap.size → Value.ownBlock (.slice al k cl) ≠ some g → w1.heap[g]? = wc.heap[g]? := fun g hg hne => by
    rw [hgrow.block g (by rw [hW]; simp; omega) (fun e => hne e.symm), hW]
    exact Below.heap_alloc _ _ _ hg
  have hbr : Value.ownBlock (.slice al k cl) ≠ some b := fun e => by obtain ⟨c, hc⟩ := hkind b e; rw [hbk] at hc; cases hc
  have hb1 : w1.heap[b]? = some (.cells #[.int .i64 n, .slice al k cl, .map (some m)] 30 (0, 0)) := (key b (lt_of_heap hbk) hbr).trans hbk
  have far : ∀ (g : Nat) (o : Obj), wc.heap[g]? = some o → g ≠ b → Value.ownBlock (.slice al k cl) ≠ some g → (w1.setCell ⟨b, 1, none⟩ (.slice (some ⟨gg, 0, none⟩) (k + 1) cap)).heap[g]? = wc.heap[g]? := fun g o hg hgb hne => by
    rw [setCell_heap_ne (Ne.symm hgb)]; exact key g (lt_of_heap hg) hne
  have farT : ∀ (g : Nat) (c : Array Value) (t : TypeId), wc.heap[g]? = some (.cells c t (0, 0)) → t ≠ 30 → t ≠ 96 → (w1.setCell ⟨b, 1, none⟩ (.slice (some ⟨gg, 0, none⟩) (k + 1) cap)).heap[g]? = wc.heap[g]? := fun g c t hg h1 h2 =>
    far g _ hg (fun e => by rw [e, hbk] at hg; simp at hg; exact h1 hg.2.symm) (fun e => by obtain ⟨c', hc'⟩ := hkind g e; rw [hg] at hc'; simp at hc'; exact h2 hc'.2)
  have keepS : ∀ {v : Value} {x : List Wd}, StrRow wc v x → StrRow (w1.setCell ⟨b, 1, none⟩ (.slice (some ⟨gg, 0, none⟩) (k + 1) cap)) v x := fun {v x} h => owns_keep h fun g hg => by
    obtain ⟨c, hc⟩ := owns_kind h g hg; exact farT g c _ hc (by decide) (by decide)
  refine ⟨some ⟨gg, 0, none⟩, cap, by rw [setCell_heap hb1]; rfl, ?_, ?_, ?_, keepS h0, keepS h1, ?_⟩
  · refine ListsIs.snoc (w := wc) hp hs ?_ (fun g c hg => farT g c _ hg (by decide) (by decide)) h0 h1
    rw [hll]
    refine owns_keep hown fun g hg => ?_
    simp [Value.ownBlock] at hg; subst hg
    refine setCell_heap_ne (fun e => ?_) _
    obtain ⟨c, hc⟩ := owns_kind hown gg rfl
    rw [← e, hb1] at hc; cases hc
  · refine hsp.keep ?_ fun g c hg => farT g c _ hg (by decide) (by decide)
    obtain ⟨M, ⟨es, cl', hm, _⟩, _⟩ := hsp
    exact far m _ hm (fun e => by rw [e, hbk] at hm; cases hm) (fun e => by obtain ⟨c, hc⟩ := hkind m e; rw [hm] at hc; cases hc)
  · rw [far pb _ hpb (fun e => by rw [e, hbk] at hpb; cases hpb) (fun e => hpr pb e rfl)]; exact hpb
  · refine hbw.trans ?_
    refine Below.setCell (p := ⟨b, 1, none⟩) ⟨hgrow.os.trans hW2.1, hgrow.tape.trans hW2.2.1, hgrow.output.trans hW2.2.2, ?_, fun g hg => ?_⟩ hB _
    · have := hgrow.size; rw [hW] at this; simp at this; omega
    · rcases Nat.lt_or_ge g wc.heap.size with h | h
      · exact key g h fun e => by have := (hlo.lt g e).1; omega
      · exfalso
        have := lt_of_heap hbk
        omega
theorem info_spot : (Tryz.prog.info? 91).map (fun i => (i.zero, i.size, i.bytes)) = some (some (.agg #[.int .i64 0, .int .i64 0, .int .i64 0]), 3, 24) := by kernel_rfl
theorem put_cell {w : World} {g o m : Nat} {v : Value} {x : Obj} (h : w.cell? ⟨g, o, none⟩ = some v) (hne : g ≠ m) : (w.putObj m x).cell? ⟨g, o, none⟩ = some v := by
  rw [World.cell?_of_block (w := w) (a := ⟨g, o, none⟩) (World.putObj_heap_other hne)]; exact h
/-- What stays while a topic's words go into the map. -/
structure NewZ (B b m n k : Nat) (w : World) (v0 v1 : Value) (T X : List Wd) (LL1 : Lists) (al : Option Addr) (cl : Nat) (wr : World) : Prop where
  fin : wr.heap[b]? = some (.cells #[.int .i64 n, .slice al (k + 1) cl, .map (some m)] 30 (0, 0))
  lists : ListsIs B wr (.slice al (k + 1) cl) LL1
  r0 : StrRow wr v0 T
  r1 : StrRow wr v1 X
  below : Below B w wr
theorem NewZ.step {B b m n k : Nat} {w : World} {v0 v1 : Value} {T X : List Wd} {LL1 : Lists} {al : Option Addr} {cl : Nat} {wr W0 w1 : World} {S : Wd → List Spot} {v : Value} {ns : Nat} {xs : List Value} (h : NewZ B b m n k w v0 v1 T X LL1 al cl wr) (hS : SpotsIs B wr m S) {Y : Obj} (hW : W0.heap = (wr.alloc Y).heap) (hW2 : W0.os = wr.os ∧ W0.tape = wr.tape ∧ W0.output = wr.output)
    (hgrow : W0.grownBy w1 v.ownBlock) (hown : wr.ownsRow B 91 3 v ns xs) (hm : B ≤ m) (o : Obj) : NewZ B b m n k w v0 v1 T X LL1 al cl (w1.putObj m o) := by
  obtain ⟨M, ⟨es, clk, hmm, _⟩, _⟩ := hS
  have key : ∀ (g : Nat) (c : Array Value) (t : TypeId) (fr : Nat × Nat), wr.heap[g]? = some (.cells c t fr) → t ≠ 91 → (w1.putObj m o).heap[g]? = wr.heap[g]? := fun g c t fr hg ht => by
    rw [World.putObj_heap_other (fun e => by rw [e, hmm] at hg; cases hg), hgrow.block g (by rw [hW]; have := lt_of_heap hg; simp; omega) (fun e => by obtain ⟨c', hc'⟩ := owns_kind hown g e.symm; rw [hg] at hc'; simp at hc'; exact ht hc'.2.1), hW]
    exact Below.heap_alloc _ _ _ (lt_of_heap hg)
  refine ⟨(key b _ _ _ h.fin (by decide)).trans h.fin, h.lists.keep fun g c t ht hg => key g c t _ hg (by rcases ht with rfl | rfl <;> decide), owns_keep h.r0 fun g hg => ?_, owns_keep h.r1 fun g hg => ?_, ?_⟩
  · obtain ⟨c, hc⟩ := owns_kind h.r0 g hg; exact key g c _ _ hc (by decide)
  · obtain ⟨c, hc⟩ := owns_kind h.r1 g hg; exact key g c _ _ hc (by decide)
  · refine h.below.trans ⟨hgrow.os.trans hW2.1, hgrow.tape.trans hW2.2.1, hgrow.output.trans hW2.2.2, ?_, fun g hg => ?_⟩
    · have := hgrow.size; rw [hW] at this; simp [World.putObj] at this ⊢; omega
    · rw [World.putObj_heap_other (by omega), hgrow.block g (by rw [hW]; have := lt_of_heap h.fin; have := lt_of_heap hmm; simp; omega) (fun e => by have := (hown.lt g e.symm).1; omega), hW]
      exact Below.heap_alloc _ _ _ (by have := lt_of_heap hmm; omega)
theorem pair_put {w : World} {b : Nat} {z0 z1 : Value} {t : TypeId} {fr : Nat × Nat} (h : w.heap[b]? = some (.cells #[z0, z1] t fr)) (v0 v1 : Value) : ((w.setCell ⟨b, 0, none⟩ v0).setCell ⟨b, 1, none⟩ v1).heap[b]? = some (.cells #[v0, v1] t fr) := by
  have h1 := setCell_heap (i := 0) h v0
  rw [setCell_heap (i := 1) h1 v1]; rfl
def wordsLL (TT XX : List Wd) : Lists := (TT.zip XX).map fun p => (words p.1, words p.2)

set_option maxHeartbeats 4000000 in
set_option maxRecDepth 100000 in
theorem new_any (TT XX : List Wd) (at_ ax : Option Addr) (ct cx : Nat) (w : World) (hT : Tabs w) (hlen : TT.length = XX.length) (hmany : TT.length ≤ 1000)
    (hst : ∀ x ∈ TT, x.length ≤ 1048576) (hsx : ∀ x ∈ XX, x.length ≤ 1048576) (h1 : StrSl w (.slice at_ TT.length ct) TT) (h2 : StrSl w (.slice ax XX.length cx) XX) :
    Calls Tryz.prog 12 #[.slice at_ TT.length ct, .slice ax XX.length cx] w fun e w' => ∃ b, e = .returned (.tuple #[.pointer (some ⟨b, 0, none⟩), .int .i64 0]) ∧ FinderIs w' b (wordsLL TT XX) ∧ Below w.heap.size w w' := by
  have HT := Lib.hid hT
  have H1 := Lib.hid h1
  have H2 := Lib.hid h2
  clear hT h1 h2
  have hmm := @run_makeMap Tryz.prog
  obtain ⟨n, hn⟩ : ∃ n, n = TT.length := ⟨_, rfl⟩
  have hxn : XX.length = n := by omega
  rw [hxn, ← hn]
  have HN := Lib.hid (And.intro hn hxn)
  have hmany' : n ≤ 1000 := by omega
  have hz3 : Tryz.prog.cellsOf 30 = 3 := by kernel_rfl
  clear hn hxn hmany hlen
  have hne : ((n : Int) != (n : Int)) = false := by simp
  go_enter Tryz.func12, Tryz.ntmps12
  go_wp2_with fail
  have hl : (wordsLL TT XX).length = n := by
    unfold wordsLL; rw [List.length_map, List.length_zip]; have := HN.out; omega
  have HL := Lib.hid hl
  clear hl
  go_loopw [28] (fun q wr => ∃ (k : Nat) (vl : Value), k ≤ n ∧ q = .int .i64 k ∧ wr.heap[w.heap.size + 1]? = some (.cells #[.int .i64 n, vl, .map (some w.heap.size)] 30 (0, 0)) ∧ ListsIs w.heap.size wr vl ((wordsLL TT XX).take k) ∧ SpotsIs w.heap.size wr w.heap.size (spotsOf ((wordsLL TT XX).take k)) ∧ Below w.heap.size w wr) (fun q _ => n - (intOf q).toNat)
  case atStart =>
    have hba := ((Below.refl w.heap.size w).alloc (Nat.le_refl _) (.map #[] 0)).alloc (by simp) (.cells #[.int .i64 n, .slice none 0 0, .map (some w.heap.size)] 30)
    refine ⟨0, .slice none 0 0, Nat.zero_le _, rfl, ?_, ⟨[], by simp, World.ownsRow_nil _ _ _ _, by simp⟩, ?_, hba⟩
    · have := heap_alloc_new (w.alloc (.map #[] 0)) (.cells #[.int .i64 n, .slice none 0 0, .map (some w.heap.size)] 30)
      rw [World.size_alloc] at this
      exact this
    · exact ((SpotsIs.made w.heap.size w).new ((Below.refl _ _).alloc (Nat.le_refl _) _)).congr fun z => by simp [spotsOf]
  case round =>
    obtain ⟨k, vl, hk, rfl, hbk, hli, hsp, hbw⟩ := hrel
    have HB := Lib.hid hbk
    have HLI := Lib.hid hli
    have HSP := Lib.hid hsp
    have HW := Lib.hid hbw
    clear hbk hli hsp hbw
    have h3 := HT.out.lt
    have h3' := HW.out.size
    by_cases hlt : k < n
    · have hk1 : k < TT.length := by have := HN.out; omega
      have hk2 : k < XX.length := by have := HN.out; omega
      obtain ⟨gt, ot, hat, hc1⟩ : ∃ g o, at_ = some ⟨g, o, none⟩ ∧ wr.cell? ⟨g, o + k, none⟩ = some (st TT[k]) := by
        obtain ⟨a, c, he, hc⟩ := H1.out
        obtain ⟨g, o, rfl, hcell⟩ := hc k hk1
        obtain ⟨rfl, _⟩ : at_ = some ⟨g, o, none⟩ ∧ True := ⟨by simpa using congrArg (fun v => match v with | Value.slice a _ _ => a | _ => none) he, trivial⟩
        exact ⟨g, o, rfl, (HW.out.cell (p := ⟨g, o + k, none⟩) (World.block_lt_of_cell? w _ hcell)).trans hcell⟩
      obtain ⟨gx, ox, hax, hc2⟩ : ∃ g o, ax = some ⟨g, o, none⟩ ∧ wr.cell? ⟨g, o + k, none⟩ = some (st XX[k]) := by
        obtain ⟨a, c, he, hc⟩ := H2.out
        obtain ⟨g, o, rfl, hcell⟩ := hc k hk2
        obtain ⟨rfl, _⟩ : ax = some ⟨g, o, none⟩ ∧ True := ⟨by simpa using congrArg (fun v => match v with | Value.slice a _ _ => a | _ => none) he, trivial⟩
        exact ⟨g, o, rfl, (HW.out.cell (p := ⟨g, o + k, none⟩) (World.block_lt_of_cell? w _ hcell)).trans hcell⟩
      subst hat hax
      have HTw := Lib.hid (HT.out.below HW.out)
      have hs1 := hst TT[k] (List.getElem_mem hk1)
      have hs2 := hsx XX[k] (List.getElem_mem hk2)
      have e1 : ∀ w, Tabs w → Calls Tryz.prog 14 #[st TT[k]] w fun e w' => ∃ a c, e = .returned (.slice a (words TT[k]).length c) ∧ StrRow w' (.slice a (words TT[k]).length c) (words TT[k]) ∧ Below w.heap.size w w' := fun w hw => by
        refine (words_any ⟨TT[k].toArray⟩ w hw (by rw [size_list]; simp only; omega)).mono ?_
        rintro e w' ⟨v, rfl, ho, hb⟩
        obtain ⟨a, c, rfl⟩ := slice_form ho
        exact ⟨a, c, rfl, owns_zero ho, hb⟩
      have e2 : ∀ w, Tabs w → Calls Tryz.prog 14 #[st XX[k]] w fun e w' => ∃ a c, e = .returned (.slice a (words XX[k]).length c) ∧ StrRow w' (.slice a (words XX[k]).length c) (words XX[k]) ∧ Below w.heap.size w w' := fun w hw => by
        refine (words_any ⟨XX[k].toArray⟩ w hw (by rw [size_list]; simp only; omega)).mono ?_
        rintro e w' ⟨v, rfl, ho, hb⟩
        obtain ⟨a, c, rfl⟩ := slice_form ho
        exact ⟨a, c, rfl, owns_zero ho, hb⟩
      have E1 := Lib.hid e1
      have E2 := Lib.hid e2
      clear e1 e2
      have lg1 := World.block_lt_of_cell? wr _ hc1
      have lg2 := World.block_lt_of_cell? wr _ hc2
      simp only at lg1 lg2
      generalize hx0 : TT[k] = x0 at *
      generalize hx1 : XX[k] = x1 at *
      have HX := Lib.hid (And.intro hx0 hx1)
      clear hx0 hx1
      go_upto_region 9 with fail
      go_cut [8] (fun s8 wx => ∃ (pb : Nat) (a0 : Option Addr) (c0 : Nat) (a1 : Option Addr) (c1 : Nat), s8 = .pointer (some ⟨pb, 0, none⟩) ∧ wx.heap[pb]? = some (.cells #[.slice a0 (words x0).length c0, .slice a1 (words x1).length c1] 96 (0, 0)) ∧ StrRow wx (.slice a0 (words x0).length c0) (words x0) ∧ StrRow wx (.slice a1 (words x1).length c1) (words x1) ∧ Below wr.heap.size wr wx ∧ wr.heap.size ≤ pb)
      case first =>
        go_region_held3 (fun w' => w'.cell? ⟨gt, ot + k, none⟩ = some (st x0) ∧ w'.cell? ⟨gx, ox + k, none⟩ = some (st x1) ∧ Hid (Tabs w'))
          ((refine ⟨?_, ?_, ?_⟩ <;> go_split_ands <;> first | assumption | exact cell_swap (by assumption) (by simp only; omega) _ | exact Lib.hid (Tabs.swap (Hid.out (by assumption)) (by omega) _) | exact cell_al (by assumption) _ | exact cell_set (cell_set (by assumption) (by omega) _) (by omega) _ | exact (hb2.cell (p := ⟨gt, ot + k, none⟩) (by first | omega | (simp; omega))).trans (by first | assumption | (go_simp; done)) | exact (hb2.cell (p := ⟨gx, ox + k, none⟩) (by first | omega | (simp; omega))).trans (by first | assumption | (go_simp; done)) | exact (hb1.cell (p := ⟨gt, ot + k, none⟩) (by first | omega | (simp; omega))).trans (by first | assumption | (go_simp; done)) | exact (hb1.cell (p := ⟨gx, ox + k, none⟩) (by first | omega | (simp; omega))).trans (by first | assumption | (go_simp; done)) | (go_simp; done) | (go_simp; assumption) | exact HTw | exact Lib.hid (Tabs.below (Hid.out (by assumption)) hb2) | exact Lib.hid (Tabs.below (Hid.out (by assumption)) hb1) | exact Lib.hid (Tabs.alloc (Hid.out (by assumption)) _) | exact Lib.hid (Tabs.setCell (Tabs.setCell (Hid.out (by assumption)) (by omega) (by omega) _) (by omega) (by omega) _)))
          (first
            | (go_at_call_of 14 (st x0); refine (E1.out _ (Hid.out (by go_split_ands; assumption))).mono ?_; rintro e w1 ⟨a0, c0, rfl, hr0, hb1⟩; obtain ⟨hq1, hf1⟩ := bcell hb1; have hz1 := hb1.size; try simp only [World.size_drew, World.size_alloc] at hq1 hf1 hz1; try (have hy1 := Nat.lt_of_succ_le hz1))
            | (go_at_call_of 14 (st x1); refine (E2.out _ (Hid.out (by go_split_ands; assumption))).mono ?_; rintro e w2 ⟨a1, c1, rfl, hr1, hb2⟩; obtain ⟨hq2, hf2⟩ := bcell hb2; have hz2 := hb2.size; try simp only [World.size_drew, World.size_alloc] at hq2 hf2 hz2; try (have hy2 := Nat.lt_of_succ_le hz2)))
        · go_wp2_with fail
          go_meet
          exact ⟨w2.heap.size, a0, c0, a1, c1, rfl, heap_alloc_new _ _, owns_new (owns_new hr0 hb2) ((Below.refl _ _).alloc (Nat.le_refl _) _), owns_new hr1 ((Below.refl _ _).alloc (Nat.le_refl _) _),
            (((Below.refl wr.heap.size wr).drew.trans hb1).trans (hb2.mono hz1)).alloc (by omega) _, by omega⟩
        · go_wp2_with fail
          go_meet
          have hp2 : w2.heap[w1.heap.size]? = some (.cells #[.slice none 0 0, .slice none 0 0] 96 (0, 0)) := (hb2.block w1.heap.size (by simp)).trans (heap_alloc_new w1 _)
          have hr0' : StrRow w2 (.slice a0 (words x0).length c0) (words x0) := owns_new (owns_new hr0 ((Below.refl _ _).alloc (Nat.le_refl _) (.cells #[.slice none 0 0, .slice none 0 0] 96))) hb2
          have hk0 : ∀ g, Value.ownBlock (.slice a0 (words x0).length c0) = some g → w1.heap.size ≠ g := fun g hg e => by
            obtain ⟨c, hc⟩ := owns_kind hr0' g hg; rw [← e, hp2] at hc; cases hc
          have hk1' : ∀ g, Value.ownBlock (.slice a1 (words x1).length c1) = some g → w1.heap.size ≠ g := fun g hg e => by
            obtain ⟨c, hc⟩ := owns_kind hr1 g hg; rw [← e, hp2] at hc; cases hc
          exact ⟨w1.heap.size, a0, c0, a1, c1, rfl, pair_put hp2 _ _, owns_keep hr0' (fun g hg => by rw [setCell_heap_ne (hk0 g hg), setCell_heap_ne (hk0 g hg)]), owns_keep hr1 (fun g hg => by rw [setCell_heap_ne (hk1' g hg), setCell_heap_ne (hk1' g hg)]),
            (((((Below.refl wr.heap.size wr).drew.trans hb1).alloc hz1 _).trans (hb2.mono (by simp; omega))).setCell (p := ⟨w1.heap.size, 0, none⟩) hz1 _).setCell (p := ⟨w1.heap.size, 1, none⟩) hz1 _, hz1⟩
        · go_wp2_with fail
          go_meet
          have hp1 : w1.heap[wr.heap.size]? = some (.cells #[.slice none 0 0, .slice none 0 0] 96 (0, 0)) := (hb1.block wr.heap.size (by simp)).trans (heap_alloc_new wr _)
          have hp2 : w2.heap[wr.heap.size]? = some (.cells #[.slice none 0 0, .slice none 0 0] 96 (0, 0)) := (hb2.block _ (lt_of_heap hp1)).trans hp1
          have hr0' : StrRow w2 (.slice a0 (words x0).length c0) (words x0) := owns_new hr0 hb2
          have hk0 : ∀ g, Value.ownBlock (.slice a0 (words x0).length c0) = some g → wr.heap.size ≠ g := fun g hg e => by
            obtain ⟨c, hc⟩ := owns_kind hr0' g hg; rw [← e, hp2] at hc; cases hc
          have hk1' : ∀ g, Value.ownBlock (.slice a1 (words x1).length c1) = some g → wr.heap.size ≠ g := fun g hg e => by
            obtain ⟨c, hc⟩ := owns_kind hr1 g hg; rw [← e, hp2] at hc; cases hc
          exact ⟨wr.heap.size, a0, c0, a1, c1, rfl, pair_put hp2 _ _, owns_keep hr0' (fun g hg => by rw [setCell_heap_ne (hk0 g hg), setCell_heap_ne (hk0 g hg)]), owns_keep hr1 (fun g hg => by rw [setCell_heap_ne (hk1' g hg), setCell_heap_ne (hk1' g hg)]),
            (((((Below.refl wr.heap.size wr).alloc (Nat.le_refl _) _).drew.trans (hb1.mono (by simp))).trans (hb2.mono (by omega))).setCell (p := ⟨wr.heap.size, 0, none⟩) (Nat.le_refl _) _).setCell (p := ⟨wr.heap.size, 1, none⟩) (Nat.le_refl _) _, Nat.le_refl _⟩
      case rest =>
        obtain ⟨pb, a0, c0, a1, c1, rfl, hpb, hr0, hr1, hbc, hpb1⟩ := hcut
        have hbk' := (hbc.block _ (lt_of_heap HB.out)).trans HB.out
        obtain ⟨prs, hpl, hlo, hls⟩ := HLI.out.new hbc
        have hsp' := HSP.out.new hbc
        have hlk : ((wordsLL TT XX).take k).length = k := by rw [List.length_take]; have := HL.out; omega
        rw [hlk] at hlo
        obtain ⟨al, cl, rfl⟩ := slice_form hlo
        have q0 : wc.cell? ⟨pb, 0, none⟩ = some (.slice a0 (words x0).length c0) := by rw [Lib.cell_of_heap hpb]; rfl
        have q1 : wc.cell? ⟨pb, 1, none⟩ = some (.slice a1 (words x1).length c1) := by rw [Lib.cell_of_heap hpb]; rfl
        have cb : wc.cell? ⟨w.heap.size + 1, 1, none⟩ = some (.slice al k cl) := by rw [Lib.cell_of_heap hbk']; rfl
        have fb : wc.frozen? ⟨w.heap.size + 1, 1, none⟩ = false := Lib.frozen_of_heap hbk' 1
        have HBK := Lib.hid hbk'
        have HSP' := Lib.hid hsp'
        have HLO := Lib.hid hlo
        have HLS := Lib.hid (And.intro hlk (And.intro hpl hls))
        have HPB := Lib.hid hpb
        have HR := Lib.hid (And.intro hr0 hr1)
        have HBC := Lib.hid hbc
        have hbz := hbc.size
        have lb := lt_of_heap hbk'
        have lpb := lt_of_heap hpb
        clear hbk' hsp' hlo hls hpl hlk hpb hr0 hr1 hbc
        obtain ⟨i0, hi0, hz0, hz1, hz2⟩ := info_parts info_pair
        have htk : (wordsLL TT XX).take (k + 1) = (wordsLL TT XX).take k ++ [(words x0, words x1)] := by
          have hkl : k < (wordsLL TT XX).length := by have := HL.out; omega
          rw [List.take_succ_eq_append_getElem hkl]
          simp only [wordsLL, List.getElem_map, List.getElem_zip, HX.out.1, HX.out.2]
        have hpr : ∀ g, Value.ownBlock (.slice al k cl) = some g → g ≠ pb := fun g hg e => by
          obtain ⟨prs', _, hlo', _⟩ := HLI.out
          have := (hlo'.lt g hg).2
          omega
        have hbw' : Below w.heap.size w wc := HW.out.trans (HBC.out.mono HW.out.size)
        have HBW := Lib.hid hbw'
        clear hbw'
        go_upto_region 10 with fail
        go_cut [] (fun wx => ∃ (al' : Option Addr) (cl' : Nat), wx.heap[w.heap.size + 1]? = some (.cells #[.int .i64 n, .slice al' (k + 1) cl', .map (some w.heap.size)] 30 (0, 0)) ∧ ListsIs w.heap.size wx (.slice al' (k + 1) cl') ((wordsLL TT XX).take (k + 1)) ∧ SpotsIs w.heap.size wx w.heap.size (spotsOf ((wordsLL TT XX).take k)) ∧ wx.heap[pb]? = some (.cells #[.slice a0 (words x0).length c0, .slice a1 (words x1).length c1] 96 (0, 0)) ∧ StrRow wx (.slice a0 (words x0).length c0) (words x0) ∧ StrRow wx (.slice a1 (words x1).length c1) (words x1) ∧ Below w.heap.size w wx)
        case first =>
          go_region_law
            ((refine step_append_lies _ (by rfl) _ _ _ (by rfl) w.heap.size 96 i0 _ 2 48 Tryz.underlying27 hi0 hz0 hz1 hz2 rfl (by omega) (.slice al k cl) k (pairCells prs) (by rfl) ((HLO.out.alloc _)) ⟨wc.heap.size, 0, none⟩ 1 1 [.slice a0 (words x0).length c0, .slice a1 (words x1).length c1] (by rfl) (by rfl) (World.news_of_block (cs := #[.slice a0 (words x0).length c0, .slice a1 (words x1).length c1]) (t := 96) (fr := (0, 0)) (heap_alloc_new wc _)) (by simp [Value.oneCell']) (by omega) (by unfold maxLen; omega) (by omega) (by simp; omega) (wc.heap.size + 1) (by simp) ?_; intro gg cap w1 hown1 hgrow hat hlt1; have hrow := owns_kind HLO.out; have hbn : some (w.heap.size + 1) ≠ Value.ownBlock (.slice al k cl) := (fun e => (by obtain ⟨c, hc⟩ := hrow _ e.symm; rw [HBK.out] at hc; cases hc)); have d1 : w1.cell? ⟨w.heap.size + 1, 1, none⟩ = some (.slice al k cl) := (hgrow.cell_far ⟨w.heap.size + 1, 1, none⟩ (by simp; omega) hbn).trans (cell_al cb _); have f1 : w1.frozen? ⟨w.heap.size + 1, 1, none⟩ = false := (hgrow.frozen_far ⟨w.heap.size + 1, 1, none⟩ (by simp; omega) hbn).trans (by go_simp)))
          all_goals
            go_wp2_with fail
            go_meet
            rw [htk]
            exact lists_step (W0 := (wc.alloc (.cells #[.slice a0 (words x0).length c0, .slice a1 (words x1).length c1] 96)).drew) HBK.out HLO.out HLS.out.1 HLS.out.2.1 HLS.out.2.2 HSP'.out HPB.out hpr HR.out.1 HR.out.2 HBW.out (by omega) (X := .cells #[.slice a0 (words x0).length c0, .slice a1 (words x1).length c1] 96) rfl ⟨rfl, rfl, rfl⟩ hgrow hown1
        case rest =>
          obtain ⟨al', cl', g1, g2, g3, g4, g5, g6, g7⟩ := hcut
          have HZ0 := Lib.hid (show NewZ w.heap.size (w.heap.size + 1) w.heap.size n k w (.slice a0 (words x0).length c0) (.slice a1 (words x1).length c1) (words x0) (words x1) ((wordsLL TT XX).take (k + 1)) al' cl' wc from ⟨g1, g2, g5, g6, g7⟩)
          have HS0 := Lib.hid (show SpotsIs w.heap.size wc w.heap.size (spotsUp (wordsLL TT XX) k (words x0) (words x1) 0 0) from g3.congr fun z => (spotsUp_start _ _ _ _ z).symm)
          have q0 : wc.cell? ⟨pb, 0, none⟩ = some (.slice a0 (words x0).length c0) := by rw [Lib.cell_of_heap g4]; rfl
          have q1 : wc.cell? ⟨pb, 1, none⟩ = some (.slice a1 (words x1).length c1) := by rw [Lib.cell_of_heap g4]; rfl
          have HLK := Lib.hid (show (wordsLL TT XX)[k]? = some (words x0, words x1) by
            have hkl : k < (wordsLL TT XX).length := by have := HL.out; omega
            rw [List.getElem?_eq_getElem hkl]
            simp only [wordsLL, List.getElem_map, List.getElem_zip, HX.out.1, HX.out.2])
          have HN6 := Lib.hid (show (∀ p ∈ wordsLL TT XX, p.1.length ≤ 5242881 ∧ p.2.length ≤ 5242881) ∧ (words x0).length ≤ 5242881 ∧ (words x1).length ≤ 5242881 by
            refine ⟨fun p hp => ?_, ?_, ?_⟩
            · obtain ⟨q, hq, rfl⟩ := List.mem_map.1 hp
              have z1 := hst q.1 (List.of_mem_zip hq).1
              have z2 := hsx q.2 (List.of_mem_zip hq).2
              have z3 := (words_len q.1).1
              have z4 := (words_len q.2).1
              simp only; omega
            · have := (words_len x0).1; omega
            · have := (words_len x1).1; omega)
          have hwl0 := HN6.out.2.1
          have hwl1 := HN6.out.2.2
          clear g1 g2 g3 g4 g5 g6 g7 hst hsx hmm lg1 lg2 lb lpb hpr hbz hpb1 hs1 hs2 hc1 hc2 HX hk1 hk2 cb fb hne hz3 i0 hi0 hz0 hz1 hz2
          clear HLI HSP HB HBK HSP' HLO HLS HPB HR HBC HBW htk E1 E2
          go_wp2_with fail
          go_loopw [53] (fun q w2 => ∃ kk : Nat, kk ≤ 2 ∧ q = .int .i64 kk ∧ NewZ w.heap.size (w.heap.size + 1) w.heap.size n k w (.slice a0 (words x0).length c0) (.slice a1 (words x1).length c1) (words x0) (words x1) ((wordsLL TT XX).take (k + 1)) al' cl' w2 ∧ (kk < 2 → SpotsIs w.heap.size w2 w.heap.size (spotsUp (wordsLL TT XX) k (words x0) (words x1) kk 0)) ∧ (kk = 2 → SpotsIs w.heap.size w2 w.heap.size (spotsOf ((wordsLL TT XX).take (k + 1))))) (fun q _ => 2 - (intOf q).toNat)
          case atStart => exact ⟨0, by omega, rfl, HZ0.out, fun _ => HS0.out, fun h => by omega⟩
          case round =>
          obtain ⟨kk, hkk, rfl, hz, hsA, hsB⟩ := hrel
          have HZ := Lib.hid hz
          have HSA := Lib.hid hsA
          have HSB := Lib.hid hsB
          clear hz hsA hsB
          rcases (by omega : kk = 0 ∨ kk = 1 ∨ kk = 2) with rfl | rfl | rfl
          · have HS := Lib.hid (HSA.out (by omega))
            skip
            have hix : ∀ ww : World, (Instr.index 96 (.agg #[.slice a0 (words x0).length c0, .slice a1 (words x1).length c1]) (.int .i64 0)).run Tryz.prog ww = .ok (.slice a0 (words x0).length c0) ww := fun _ => by kernel_rfl
            go_wp2_with fail
            go_loopw [59] (fun q wi => ∃ j : Nat, j ≤ (words x0).length ∧ q = .int .i64 j ∧ NewZ w.heap.size (w.heap.size + 1) w.heap.size n k w (.slice a0 (words x0).length c0) (.slice a1 (words x1).length c1) (words x0) (words x1) ((wordsLL TT XX).take (k + 1)) al' cl' wi ∧ SpotsIs w.heap.size wi w.heap.size (spotsUp (wordsLL TT XX) k (words x0) (words x1) 0 j)) (fun q _ => (words x0).length - (intOf q).toNat)
            case atStart => exact ⟨0, Nat.zero_le _, rfl, HZ.out, HS.out⟩
            case round =>
              obtain ⟨j, hj, rfl, hz, hs⟩ := hrel
              have HZ := Lib.hid hz
              have HS := Lib.hid hs
              clear hz hs
              by_cases hjl : j < (words x0).length
              · obtain ⟨v, hlook, hown, hback⟩ := HS.out.at_ (words x0)[j]
                obtain ⟨av, cv, rfl⟩ := slice_form hown
                have hcell : ∃ g, a0 = some ⟨g, 0, none⟩ ∧ wr.cell? ⟨g, 0 + j, none⟩ = some (st (words x0)[j]) := by
                  have hr := HZ.out.r0
                  obtain ⟨g, hg⟩ := owns_some hr (by omega)
                  rcases hr.2 with ⟨h0, _⟩ | ⟨g', cap, cur, h0, _⟩
                  · simp at h0; omega
                  · simp at h0
                    obtain ⟨rfl, rfl⟩ := h0
                    have := hr.cells (g := g') rfl j (st (words x0)[j]) (by simp [List.getElem?_eq_getElem hjl])
                    rw [add_none] at this
                    exact ⟨g', rfl, this⟩
                obtain ⟨gr, rfl, hc0⟩ := hcell
                have cb2 : wr.cell? ⟨w.heap.size + 1, 2, none⟩ = some (.map (some w.heap.size)) := by rw [Lib.cell_of_heap HZ.out.fin]; rfl
                have lb := lt_of_heap HZ.out.fin
                have hsl := spotsUp_len (wordsLL TT XX) k (words x0) (words x1) 0 j (words x0)[j] 5242881 HN6.out.1 HN6.out.2.1 HN6.out.2.2 (by omega)
                obtain ⟨xw, hxw⟩ : ∃ xw, xw = (words x0)[j] := ⟨_, rfl⟩
                rw [← hxw] at hlook hown hback hsl hc0
                have HXW := Lib.hid hxw
                clear hxw
                obtain ⟨ns, hns⟩ : ∃ ns, ns = (spotsUp (wordsLL TT XX) k (words x0) (words x1) 0 j xw).length := ⟨_, rfl⟩
                rw [← hns] at hown hsl hlook hback
                have hl1 := hlook wr.drew rfl
                have hl2 := hlook (wr.alloc (.cells #[.int .i64 k, .int .i64 0, .int .i64 j] 91)).drew (Below.heap_alloc _ _ _ HS.out.lt)
                have HOWN := Lib.hid hown
                have HBACK := Lib.hid hback
                have HNS := Lib.hid hns
                clear hlook hown hback hns
                obtain ⟨s0, hs0, sz0, sz1, sz2⟩ := info_parts info_spot
                simp only [Nat.zero_add] at hc0
                go_upto_region 17 with fail
                go_region_held3 (fun w' => w'.cell? ⟨w.heap.size + 1, 2, none⟩ = some (.map (some w.heap.size)))
                  (first | assumption | exact cell_al (by assumption) _ | exact (hgrow.cell_far ⟨w.heap.size + 1, 2, none⟩ (by simp; omega) hbn).trans (cell_al cb2 _) | exact put_cell (by assumption) (by omega))
                  ((refine step_append_lies _ (by rfl) _ _ _ (by rfl) w.heap.size 91 s0 _ 3 24 Tryz.underlying89 hs0 sz0 sz1 sz2 rfl (by omega) (.slice av ns cv) ns (spotCells (spotsUp (wordsLL TT XX) k (words x0) (words x1) 0 j xw)) (by rfl) (HOWN.out.alloc _) ⟨wr.heap.size, 0, none⟩ 1 1 [.int .i64 k, .int .i64 0, .int .i64 j] (by rfl) (by rfl) (World.news_of_block (cs := #[.int .i64 k, .int .i64 0, .int .i64 j]) (t := 91) (fr := (0, 0)) (heap_alloc_new wr _)) (by simp [Value.oneCell']) (by omega) (by unfold maxLen; omega) (by omega) (by simp; omega) (wr.heap.size + 1) (by simp) ?_; intro gg cap w1 hown1 hgrow hat hlt1; have hbn : some (w.heap.size + 1) ≠ Value.ownBlock (.slice av ns cv) := (fun e => (by obtain ⟨c, hc⟩ := owns_kind HOWN.out _ e.symm; rw [HZ.out.fin] at hc; cases hc)); obtain ⟨o, hup, hsp2⟩ := HBACK.out w1 (k, 0, j) gg cap (fun g hg hne => (hgrow.block g (by simp; omega) (fun e => hne e.symm)).trans (Below.heap_alloc _ _ _ hg)) (by rw [spotCells_append]; exact hown1) (hat.imp_right fun e => by omega); have HSP2 := Lib.hid hsp2; clear hsp2))
                all_goals
                  have HZ3 := Lib.hid (NewZ.step (W0 := (wr.alloc (.cells #[.int .i64 k, .int .i64 0, .int .i64 j] 91)).drew) (Y := .cells #[.int .i64 k, .int .i64 0, .int .i64 j] 91) HZ.out HS.out rfl ⟨rfl, rfl, rfl⟩ hgrow HOWN.out (Nat.le_refl _) o)
                  have HS3 := Lib.hid (show SpotsIs w.heap.size (w1.putObj w.heap.size o) w.heap.size (spotsUp (wordsLL TT XX) k (words x0) (words x1) 0 (j + 1)) from HSP2.out.congr fun z => by rw [HXW.out]; exact spotsUp_step0 _ _ _ _ _ hjl z)
                  clear hl1 hl2
                  go_wp2_with fail
                  go_roundw
                  case rel =>
                    repeat apply Exists.intro
                    refine ⟨⟨j + 1, by omega, by go_num, HZ3.out, HS3.out⟩, ?_⟩
                    rfl
                  case measure => simp [intOf] <;> omega
              · have hjl2 : j = (words x0).length := by omega
                have HJ := Lib.hid hjl2
                clear hjl2
                go_wp2_with fail
                go_roundw
                case rel => exact ⟨1, by omega, by go_num, HZ.out, fun _ => HS.out.congr fun z => by rw [HJ.out, spotsUp_mid], fun h => by omega⟩
                case measure => simp [intOf] <;> omega
          · have HS := Lib.hid (HSA.out (by omega))
            skip
            have hix : ∀ ww : World, (Instr.index 96 (.agg #[.slice a0 (words x0).length c0, .slice a1 (words x1).length c1]) (.int .i64 1)).run Tryz.prog ww = .ok (.slice a1 (words x1).length c1) ww := fun _ => by kernel_rfl
            go_wp2_with fail
            go_loopw [59] (fun q wi => ∃ j : Nat, j ≤ (words x1).length ∧ q = .int .i64 j ∧ NewZ w.heap.size (w.heap.size + 1) w.heap.size n k w (.slice a0 (words x0).length c0) (.slice a1 (words x1).length c1) (words x0) (words x1) ((wordsLL TT XX).take (k + 1)) al' cl' wi ∧ SpotsIs w.heap.size wi w.heap.size (spotsUp (wordsLL TT XX) k (words x0) (words x1) 1 j)) (fun q _ => (words x1).length - (intOf q).toNat)
            case atStart => exact ⟨0, Nat.zero_le _, rfl, HZ.out, HS.out⟩
            case round =>
              obtain ⟨j, hj, rfl, hz, hs⟩ := hrel
              have HZ := Lib.hid hz
              have HS := Lib.hid hs
              clear hz hs
              by_cases hjl : j < (words x1).length
              · obtain ⟨v, hlook, hown, hback⟩ := HS.out.at_ (words x1)[j]
                obtain ⟨av, cv, rfl⟩ := slice_form hown
                have hcell : ∃ g, a1 = some ⟨g, 0, none⟩ ∧ wr.cell? ⟨g, 0 + j, none⟩ = some (st (words x1)[j]) := by
                  have hr := HZ.out.r1
                  obtain ⟨g, hg⟩ := owns_some hr (by omega)
                  rcases hr.2 with ⟨h0, _⟩ | ⟨g', cap, cur, h0, _⟩
                  · simp at h0; omega
                  · simp at h0
                    obtain ⟨rfl, rfl⟩ := h0
                    have := hr.cells (g := g') rfl j (st (words x1)[j]) (by simp [List.getElem?_eq_getElem hjl])
                    rw [add_none] at this
                    exact ⟨g', rfl, this⟩
                obtain ⟨gr, rfl, hc0⟩ := hcell
                have cb2 : wr.cell? ⟨w.heap.size + 1, 2, none⟩ = some (.map (some w.heap.size)) := by rw [Lib.cell_of_heap HZ.out.fin]; rfl
                have lb := lt_of_heap HZ.out.fin
                have hsl := spotsUp_len (wordsLL TT XX) k (words x0) (words x1) 1 j (words x1)[j] 5242881 HN6.out.1 HN6.out.2.1 HN6.out.2.2 (by omega)
                obtain ⟨xw, hxw⟩ : ∃ xw, xw = (words x1)[j] := ⟨_, rfl⟩
                rw [← hxw] at hlook hown hback hsl hc0
                have HXW := Lib.hid hxw
                clear hxw
                obtain ⟨ns, hns⟩ : ∃ ns, ns = (spotsUp (wordsLL TT XX) k (words x0) (words x1) 1 j xw).length := ⟨_, rfl⟩
                rw [← hns] at hown hsl hlook hback
                have hl1 := hlook wr.drew rfl
                have hl2 := hlook (wr.alloc (.cells #[.int .i64 k, .int .i64 1, .int .i64 j] 91)).drew (Below.heap_alloc _ _ _ HS.out.lt)
                have HOWN := Lib.hid hown
                have HBACK := Lib.hid hback
                have HNS := Lib.hid hns
                clear hlook hown hback hns
                obtain ⟨s0, hs0, sz0, sz1, sz2⟩ := info_parts info_spot
                simp only [Nat.zero_add] at hc0
                go_upto_region 17 with fail
                go_region_held3 (fun w' => w'.cell? ⟨w.heap.size + 1, 2, none⟩ = some (.map (some w.heap.size)))
                  (first | assumption | exact cell_al (by assumption) _ | exact (hgrow.cell_far ⟨w.heap.size + 1, 2, none⟩ (by simp; omega) hbn).trans (cell_al cb2 _) | exact put_cell (by assumption) (by omega))
                  ((refine step_append_lies _ (by rfl) _ _ _ (by rfl) w.heap.size 91 s0 _ 3 24 Tryz.underlying89 hs0 sz0 sz1 sz2 rfl (by omega) (.slice av ns cv) ns (spotCells (spotsUp (wordsLL TT XX) k (words x0) (words x1) 1 j xw)) (by rfl) (HOWN.out.alloc _) ⟨wr.heap.size, 0, none⟩ 1 1 [.int .i64 k, .int .i64 1, .int .i64 j] (by rfl) (by rfl) (World.news_of_block (cs := #[.int .i64 k, .int .i64 1, .int .i64 j]) (t := 91) (fr := (0, 0)) (heap_alloc_new wr _)) (by simp [Value.oneCell']) (by omega) (by unfold maxLen; omega) (by omega) (by simp; omega) (wr.heap.size + 1) (by simp) ?_; intro gg cap w1 hown1 hgrow hat hlt1; have hbn : some (w.heap.size + 1) ≠ Value.ownBlock (.slice av ns cv) := (fun e => (by obtain ⟨c, hc⟩ := owns_kind HOWN.out _ e.symm; rw [HZ.out.fin] at hc; cases hc)); obtain ⟨o, hup, hsp2⟩ := HBACK.out w1 (k, 1, j) gg cap (fun g hg hne => (hgrow.block g (by simp; omega) (fun e => hne e.symm)).trans (Below.heap_alloc _ _ _ hg)) (by rw [spotCells_append]; exact hown1) (hat.imp_right fun e => by omega); have HSP2 := Lib.hid hsp2; clear hsp2))
                all_goals
                  have HZ3 := Lib.hid (NewZ.step (W0 := (wr.alloc (.cells #[.int .i64 k, .int .i64 1, .int .i64 j] 91)).drew) (Y := .cells #[.int .i64 k, .int .i64 1, .int .i64 j] 91) HZ.out HS.out rfl ⟨rfl, rfl, rfl⟩ hgrow HOWN.out (Nat.le_refl _) o)
                  have HS3 := Lib.hid (show SpotsIs w.heap.size (w1.putObj w.heap.size o) w.heap.size (spotsUp (wordsLL TT XX) k (words x0) (words x1) 1 (j + 1)) from HSP2.out.congr fun z => by rw [HXW.out]; exact spotsUp_step1 _ _ _ _ _ hjl z)
                  clear hl1 hl2
                  go_wp2_with fail
                  go_roundw
                  case rel =>
                    repeat apply Exists.intro
                    refine ⟨⟨j + 1, by omega, by go_num, HZ3.out, HS3.out⟩, ?_⟩
                    rfl
                  case measure => simp [intOf] <;> omega
              · have hjl2 : j = (words x1).length := by omega
                have HJ := Lib.hid hjl2
                clear hjl2
                go_wp2_with fail
                go_roundw
                case rel => exact ⟨2, by omega, by go_num, HZ.out, fun h => by omega, fun _ => HS.out.congr fun z => by rw [HJ.out, spotsUp_end _ _ _ _ HLK.out]⟩
                case measure => simp [intOf] <;> omega
          · have HS := Lib.hid (HSB.out rfl)
            go_wp2_with fail
            go_roundw
            case rel => exact ⟨k + 1, _, by omega, by go_num, HZ.out.fin, HZ.out.lists, HS.out, HZ.out.below⟩
            case measure => simp [intOf] <;> omega
    · have hkn : k = n := by omega
      subst hkn
      go_wp2
      refine bodyPost_ret (v := .tuple #[.pointer (some ⟨w.heap.size + 1, 0, none⟩), .int .i64 0]) (by simp [results, Tryz.results12, go_sem]) rfl ⟨_, rfl, ⟨vl, w.heap.size, ?_, ?_, ?_⟩, HW.out⟩
      · rw [HL.out]; exact HB.out
      · have := HLI.out.zero; rwa [List.take_of_length_le (by rw [HL.out]; exact Nat.le_refl _)] at this
      · have := HSP.out.zero; rwa [List.take_of_length_le (by rw [HL.out]; exact Nat.le_refl _)] at this
end Go.Proofs.YthpbdeiphagkiaaGreatDoor
