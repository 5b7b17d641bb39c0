/- TableFresh: what is told is new memory, what is handed in is left as it is: the walk. -/
import Derived.Test.YtepacocajnobgaaRows5
import Derived.Test.YtepacocajnobgaaTwins2
namespace Go.Proofs.Ytepacocajnobgaa
open Go.ChangeShapes Go.WideShapes Go.ChangeAt Go.RowKit

/-- Only blocks from A on, but below B, have turned. -/
structure Mid (A B : Nat) (w w' : World) : Prop where
  os : w'.os = w.os
  tape : w'.tape = w.tape
  output : w'.output = w.output
  size : w.heap.size ≤ w'.heap.size
  block : ∀ k, k < w.heap.size → (k < A ∨ B ≤ k) → w'.heap[k]? = w.heap[k]?
theorem Mid.refl (A B : Nat) (w : World) : Mid A B w w := ⟨rfl, rfl, rfl, Nat.le_refl _, fun _ _ _ => rfl⟩
theorem Mid.set {A B : Nat} {w w' : World} (h : Mid A B w w') {b : Nat} (hb : A ≤ b ∧ b < B) (o : Nat) (u : Value) : Mid A B w (w'.setCell ⟨b, o, none⟩ u) :=
  ⟨h.os, h.tape, h.output, by simp only [World.setCell, Array.size_modify]; exact h.size, fun k hk hor => (Below.heap_setCell _ _ _ _ (show k ≠ b by omega)).trans (h.block k hk hor)⟩
theorem owns_set {w : World} {A : Nat} {v : Value} {n : Nat} (h : ∃ xs, w.ownsRow A 49 5 v n xs) (b o : Nat) (u : Value) : ∃ xs, (w.setCell ⟨b, o, none⟩ u).ownsRow A 49 5 v n xs := by
  obtain ⟨xs, hl, h⟩ := h
  rcases h with ⟨rfl, rfl⟩ | ⟨g, cap, cur, rfl, hb, hg, h1, h2, h3, h4⟩
  · exact ⟨[], World.ownsRow_nil _ _ _ _⟩
  · by_cases e : g = b
    · subst e
      refine ⟨(cur.setIfInBounds o u).toList.take (n * 5), ?_, .inr ⟨g, cap, cur.setIfInBounds o u, rfl, hb, setCell_heap hg u, h1, h2, by simpa using h3, rfl⟩⟩
      have hc : n * 5 ≤ cap * 5 := Nat.mul_le_mul_right 5 h1
      rw [List.length_take]
      simp only [Array.length_toList, Array.size_setIfInBounds, h3]
      omega
    · exact ⟨xs, hl, .inr ⟨g, cap, cur, rfl, hb, (Below.heap_setCell _ _ _ _ e).trans hg, h1, h2, h3, h4⟩⟩
theorem LinesO.set {w : World} {A : Nat} {vs : List Value} {ll : List (List Gl)} (h : LinesO w A vs ll) (b o : Nat) (u : Value) : LinesO (w.setCell ⟨b, o, none⟩ u) A vs ll := fun k h1 h2 => owns_set (h k h1 h2) b o u
/-- The rows that are written. -/
structure FS (A B : Nat) (gv : Value) (vs : List Value) (ll : List (List Gl)) (w8 w : World) : Prop where
  row : w.ownsRow A 22 1 gv ll.length vs
  lines : LinesO w A vs ll
  lt : ∀ k (h : k < vs.length) b, vs[k].ownBlock = some b → b < B
  mid : Mid A B w8 w
theorem owns_ne {w : World} {A A' : Nat} {v : Value} {n m g cap : Nat} {xs ys : List Value} (h : w.ownsRow A 22 1 v n xs) (h' : w.ownsRow A' 49 5 (.slice (some ⟨g, 0, none⟩) m cap) m ys) : v.ownBlock ≠ some g := by
  intro e
  rcases h.2 with ⟨rfl, _⟩ | ⟨g1, c1, cur1, rfl, _, hg1, _⟩
  · simp [Value.ownBlock] at e
  · simp [Value.ownBlock] at e
    subst e
    rcases h'.2 with ⟨h2, _⟩ | ⟨g2, c2, cur2, h2, _, hg2, _⟩
    · cases h2
    · injection h2 with h2
      injection h2 with h2
      injection h2 with h2
      subst h2
      rw [hg1] at hg2
      cases hg2
theorem FS.set {A B : Nat} {gv : Value} {vs : List Value} {ll : List (List Gl)} {w8 w : World} (h : FS A B gv vs ll w8 w) {b m cap : Nat} {ys : List Value} (hb : w.ownsRow A 49 5 (.slice (some ⟨b, 0, none⟩) m cap) m ys) (hB : b < B) (o : Nat) (u : Value) :
    FS A B gv vs ll w8 (w.setCell ⟨b, o, none⟩ u) :=
  ⟨bget_block h.row fun b' hb' => Below.heap_setCell _ _ _ _ (fun e => owns_ne h.row hb (by rw [hb', e])), h.lines.set b o u, h.lt, h.mid.set ⟨(hb.lt b rfl).1, hB⟩ o u⟩

theorem FS.set5 {A B : Nat} {gv : Value} {vs : List Value} {ll : List (List Gl)} {w8 w : World} (h : FS A B gv vs ll w8 w) {b m cap : Nat} {ys : List Value} (hb : w.ownsRow A 49 5 (.slice (some ⟨b, 0, none⟩) m cap) m ys) (hB : b < B) (o0 o1 o2 o3 o4 : Nat) (u0 u1 u2 u3 u4 : Value) :
    FS A B gv vs ll w8 (((((w.setCell ⟨b, o0, none⟩ u0).setCell ⟨b, o1, none⟩ u1).setCell ⟨b, o2, none⟩ u2).setCell ⟨b, o3, none⟩ u3).setCell ⟨b, o4, none⟩ u4) := by
  obtain ⟨_, h1⟩ := owns_set ⟨_, hb⟩ b o0 u0
  obtain ⟨_, h2⟩ := owns_set ⟨_, h1⟩ b o1 u1
  obtain ⟨_, h3⟩ := owns_set ⟨_, h2⟩ b o2 u2
  obtain ⟨_, h4⟩ := owns_set ⟨_, h3⟩ b o3 u3
  exact ((((h.set hb hB o0 u0).set h1 hB o1 u1).set h2 hB o2 u2).set h3 hB o3 u3).set h4 hB o4 u4
theorem RowsNew.keep {w w' : World} {B : Nat} {v : Value} {ll : List (List Gl)} (h : RowsNew w B v ll) (hs : w.heap.size ≤ w'.heap.size) (hb : ∀ b, B ≤ b → b < w.heap.size → w'.heap[b]? = w.heap[b]?) : RowsNew w' B v ll := by
  obtain ⟨vs, h1, h2⟩ := h
  exact ⟨vs, bget_block h1 fun b hb' => hb b (h1.lt b hb').1 (h1.lt b hb').2, h2.same hs (fun b h3 hlt => hb b h3 hlt) fun _ h _ => h⟩
theorem FS.cells {A B : Nat} {ga : Option Addr} {gc n : Nat} {vs : List Value} {ll : List (List Gl)} {w8 w : World} (h : FS A B (.slice ga n gc) vs ll w8 w) (k : Nat) (h1 : k < vs.length) (h2 : k < ll.length) :
    ∃ g a c, ga = some ⟨g, 0, none⟩ ∧ w.cell? ⟨g, k, none⟩ = some (.slice a ll[k].length c) ∧ vs[k] = .slice a ll[k].length c ∧ ∀ j, j < ll[k].length → ∃ b ys, a = some ⟨b, 0, none⟩ ∧ b < B ∧
      w.ownsRow A 49 5 (.slice (some ⟨b, 0, none⟩) ll[k].length c) ll[k].length ys ∧ ∀ i, i < 5 → (∃ u, w.cell? ⟨b, j * 5 + i, none⟩ = some u) ∧ w.frozen? ⟨b, j * 5 + i, none⟩ = false := by
  obtain ⟨ys, hy⟩ := h.lines k h1 h2
  have hsh : ∃ a c, vs[k] = .slice a ll[k].length c := by
    rcases hy.2 with ⟨e, h0⟩ | ⟨g, cap, cur, e, _⟩
    · exact ⟨none, 0, by rw [e, h0]⟩
    · exact ⟨_, _, e⟩
  obtain ⟨a, c, hs⟩ := hsh
  rcases h.row.2 with ⟨_, h0⟩ | ⟨g, cap, cur, e, _, hg, _⟩
  · omega
  · injection e with e1 e2 e3
    refine ⟨g, a, c, e1, ?_, hs, fun j hj => ?_⟩
    · have := h.row.cells (g := g) (by rw [e1]; rfl) k _ (List.getElem?_eq_getElem h1)
      rw [add_none, Nat.zero_add] at this
      rw [this, hs]
    · have hlt := h.lt k h1
      rw [hs] at hy hlt
      rcases hy.2 with ⟨_, h0⟩ | ⟨b, cap', cur', e', _, hb, hc1, hc2, hc3, hc4⟩
      · omega
      · injection e' with e1' e2' e3'
        subst e1' e3'
        refine ⟨b, ys, rfl, hlt b rfl, hy, fun i hi => ⟨?_, ?_⟩⟩
        · have hlen : j * 5 + i < cur'.size := by rw [hc3]; omega
          exact ⟨cur'[j * 5 + i], by simp [World.cell?, hb, hlen]⟩
        · simp [World.frozen?, hb]

set_option maxRecDepth 100000 in
set_option maxHeartbeats 8000000 in
theorem fresh_walk (v : Value) (l : List Gl) (wide : Int) (u : Value) (cs : List (Int × Int)) (x : Value) (flows : List (List Gl)) (w : World) (hv : GlSl w v l) (hl : l.length ≤ 2932031007317) (_ : ∀ g ∈ l, -9223372036854775808 ≤ g.wide ∧ g.wide ≤ 9223372036854775807)
    (_ : -9223372036854775808 ≤ wide ∧ wide ≤ 9223372036854775807) (hu : ColSl w u cs) (_ : NilOk u) (hcl : cs.length ≤ 8796093021952) (hx : RowsSl w x flows) (_ : NilOk x) (hfl : flows.length ≤ 5864062014634)
    (hf : ∀ l ∈ flows, l.length ≤ 2932031007317 ∧ ∀ g ∈ l, -9223372036854775808 ≤ g.wide ∧ g.wide ≤ 9223372036854775807) :
    Calls Try.prog 6 #[v, .int .i64 wide, u, x] w fun e w' => e = .returned (.bool true) ∧ Below w.heap.size w w' := by
  have Hv := Lib.hid hv
  have Hu := Lib.hid hu
  have Hx := Lib.hid hx
  have Hf := Lib.hid (fun l hl => (hf l hl).1)
  have HlenR := Lib.hid (rowOf_len cs flows (fun l hl => (hf l hl).1))
  have HlenF := Lib.hid (fillOf_len l wide (by omega))
  have hfn := (fillOf_fits l wide (by omega)).2
  clear hv hu hx hf
  obtain ⟨k0, hk0, kz0, kz1, kz2⟩ := info_parts info22
  go_enter Try.func6, Try.ntmps6
  go_wp2_with fail
  refine (twin_any _ l _ (by omega) Hv.out).mono ?_
  rintro e w1 ⟨v1, rfl, hown1, hb1⟩
  have Hown1 := Lib.hid hown1
  have Hb1 := Lib.hid hb1
  clear hown1 hb1
  go_wp2_with fail
  refine (twins2_any _ flows _ (by omega) (fun l hl => by have := Hf.out l hl; omega) (Hx.out.new Hb1.out)).mono ?_
  rintro e w2 ⟨v2, vs2, rfl, hrow2, hlines2, hlo2, hb2⟩
  have Hrow2 := Lib.hid hrow2
  have Hlines2 := Lib.hid hlines2
  have Hlo2 := Lib.hid hlo2
  have Hr2 := Lib.hid (RowsSl.of_new (B := w1.heap.size) ⟨vs2, hrow2, hlines2⟩)
  have Hb2 := Lib.hid (Hb1.out.trans (hb2.mono Hb1.out.size))
  have Hown1b := Lib.hid (bget_block Hown1.out fun b hb => hb2.block b (Hown1.out.lt b hb).2)
  have hw1 : w.heap.size ≤ w1.heap.size := Hb1.out.size
  have hw2 : w1.heap.size ≤ w2.heap.size := hb2.size
  clear hrow2 hlines2 hlo2 hb2 Hown1
  go_wp2_with fail
  refine (fill_any _ l wide _ (glSl_of_owns Hown1b.out) hl).mono ?_
  rintro e w3 ⟨v3, rfl, hnew3, hb3⟩
  have Hnew3 := Lib.hid hnew3
  have Hb3 := Lib.hid hb3
  have hw3 : w2.heap.size ≤ w3.heap.size := hb3.size
  clear hnew3 hb3
  go_wp2_with fail
  refine (row_any _ _ cs flows _ (Hu.out.new (Hb2.out.trans (Hb3.out.mono Hb2.out.size))) (Hr2.out.new Hb3.out) Hf.out (by omega) (by omega)).mono ?_
  rintro e w4 ⟨v4, rfl, hnew4, hb4⟩
  have Hnew4 := Lib.hid (hnew4.mono hw3)
  have Hb4 := Lib.hid (Hb3.out.trans (hb4.mono hw3))
  have Hnew3b := Lib.hid (show RowsNew w4 w2.heap.size v3 (fillOf l wide).1 by
    obtain ⟨vs, h1, h2⟩ := Hnew3.out
    exact ⟨vs, bget_block h1 fun b hb => hb4.block b (h1.lt b hb).2, h2.same hb4.size (fun b _ hlt => hb4.block b hlt) fun _ h _ => h⟩)
  have hw4 : w3.heap.size ≤ w4.heap.size := hb4.size
  clear hnew4 hb4 Hnew3 Hb3
  go_wp2_with fail
  refine (same_any _ _ l _ (by omega) ((glSl_of_owns Hown1b.out).new Hb4.out) (Hv.out.new (Hb2.out.trans (Hb4.out.mono Hb2.out.size)))).mono ?_
  rintro e w5 ⟨rfl, n5, hw5⟩
  have Hb5 := Lib.hid (show Below w4.heap.size w4 w5 by rw [hw5]; exact below_drewN (Below.refl _ _) _)
  have hz5 : w4.heap.size ≤ w5.heap.size := Hb5.out.size
  clear hw5
  go_wp2_with fail
  refine (sameAll_any _ _ flows _ (by omega) (fun l hl => by have := Hf.out l hl; omega) ((Hr2.out.new Hb4.out).new Hb5.out) (((Hx.out.new Hb2.out).new Hb4.out).new Hb5.out)).mono ?_
  rintro e w6 ⟨rfl, n6, hw6⟩
  have Hb6 := Lib.hid (show Below w4.heap.size w4 w6 by rw [hw6]; exact below_drewN Hb5.out _)
  clear hw6
  go_wp2_with fail
  refine (awake_any _).mono ?_
  rintro e w7 ⟨rfl, hb7⟩
  have Hb47 := Lib.hid (Hb6.out.trans (hb7.mono Hb6.out.size))
  have Hb27 := Lib.hid (Hb4.out.trans (Hb47.out.mono (Nat.le_trans hw3 hw4)))
  have hw7 : w4.heap.size ≤ w7.heap.size := Hb47.out.size
  clear hb7 Hb5 Hb6
  have Hrow7 := Lib.hid (owns_base (bget_block Hrow2.out fun b hb => Hb27.out.block b (Hrow2.out.lt b hb).2) hw1)
  have hs1 : ∃ a c, v1 = .slice a l.length c := (glSl_of_owns Hown1b.out).shape
  obtain ⟨a1, c1, hs1⟩ := hs1
  subst hs1
  have hs2 : ∃ a c, v2 = .slice a flows.length c := by obtain ⟨a, c, h, _⟩ := Hr2.out.shape; exact ⟨a, c, h⟩
  obtain ⟨a2, c2, hs2⟩ := hs2
  subst hs2
  go_wp2_with (at_builtin; go_loud (refine wpList_append_lies _ rfl (.tmp 51) (.tmp 53) 23 rfl w.heap.size 22 k0 _ 1 24 Try.underlying23 hk0 kz0 kz1 kz2 rfl (by omega) (.slice a2 flows.length c2) flows.length vs2 rfl (Hrow7.out.alloc _) ⟨w7.heap.size, 0, none⟩ 1 1 [.slice a1 l.length c1] rfl rfl (World.news_of_block (cs := #[.slice a1 l.length c1]) (t := 22) (fr := (0, 0)) (heap_alloc_new w7 _)) (by simp [Value.oneCell']) (by omega) (by unfold maxLen; omega) (by omega) (by simp; omega) (w7.heap.size + 1) (by simp) ?_); intro gg cap w8 hown hgrow hat3 hlt3; have Hg3 := Lib.hid hgrow; clear hgrow; have Ho := Lib.hid hown; clear hown)
  have hlv : vs2.length = flows.length := by have := Hrow2.out.1; simpa using this
  have hw8 : w7.heap.size ≤ w8.heap.size := by have := Hg3.out.size; simp at this; omega
  have hv2lt : ∀ b, (Value.slice a2 flows.length c2).ownBlock = some b → w.heap.size ≤ b ∧ b < w2.heap.size := fun b hb => by
    have := Hrow2.out.lt b hb; omega
  have Hv2lt := Lib.hid hv2lt
  clear hv2lt
  have Hkeep8 := Lib.hid (show ∀ b, b < w7.heap.size → (Value.slice a2 flows.length c2).ownBlock ≠ some b → w8.heap[b]? = w7.heap[b]? from fun b hb hne =>
    (Hg3.out.block b (by simp; omega) (fun e => hne e.symm)).trans (Below.heap_alloc _ _ _ hb))
  have Hb08 := Lib.hid (show Below w.heap.size w w8 from ((Hb2.out.trans (Hb27.out.mono Hb2.out.size)).alloc (by omega) _).grown Hg3.out (by simp; omega) fun m hm => (Hv2lt.out m hm).1)
  have Hfs := Lib.hid (show FS w.heap.size w2.heap.size (.slice (some ⟨gg, 0, none⟩) (flows.length + 1) cap) (vs2 ++ [.slice a1 l.length c1]) (flows ++ [l]) w8 w8 from by
    have own8 : ∀ {vv : Value} {n : Nat}, (∃ xs, w2.ownsRow w.heap.size 49 5 vv n xs) → ∃ xs, w8.ownsRow w.heap.size 49 5 vv n xs := fun ⟨xs, hx⟩ =>
      ⟨xs, bget_block hx fun b hb => by
        have hb2 := (hx.lt b hb).2
        refine (Hkeep8.out b (by omega) fun e => ?_).trans (Hb27.out.block b hb2)
        rcases hx.2 with ⟨rfl, _⟩ | ⟨g, cp, cur, rfl, _⟩
        · simp [Value.ownBlock] at hb
        · simp [Value.ownBlock] at hb
          subst hb
          exact owns_ne (owns_base Hrow2.out hw1) hx e⟩
    refine ⟨by rw [show (flows ++ [l]).length = flows.length + 1 by simp]; exact Ho.out, fun k h1 h2 => ?_, fun k h1 b hb => ?_, Mid.refl _ _ _⟩
    · by_cases hk : k < flows.length
      · rw [List.getElem_append_left (by omega), List.getElem_append_left hk]
        obtain ⟨xs, hx⟩ := Hlo2.out k (by omega) hk
        exact own8 ⟨xs, owns_base hx hw1⟩
      · have hk2 : k = flows.length := by simp at h2; omega
        subst hk2
        rw [List.getElem_append_right (by omega), List.getElem_append_right (by omega)]
        simp only [hlv, Nat.sub_self, List.getElem_cons_zero]
        exact own8 ⟨_, Hown1b.out⟩
    · by_cases hk : k < flows.length
      · rw [List.getElem_append_left (by omega)] at hb
        obtain ⟨xs, hx⟩ := Hlo2.out k (by omega) hk
        exact (hx.lt b hb).2
      · have hk2 : k = flows.length := by simp at h1; omega
        subst hk2
        rw [List.getElem_append_right (by omega)] at hb
        simp only [hlv, Nat.sub_self, List.getElem_cons_zero] at hb
        exact (Hown1b.out.lt b hb).2)
  obtain ⟨VS, hVS⟩ : ∃ VS, VS = vs2 ++ [.slice a1 l.length c1] := ⟨_, rfl⟩
  obtain ⟨LL, hLL⟩ : ∃ LL, LL = flows ++ [l] := ⟨_, rfl⟩
  rw [← hVS, ← hLL] at Hfs
  have hVl : VS.length = flows.length + 1 := by rw [hVS]; simp [hlv]
  have hLl : LL.length = flows.length + 1 := by rw [hLL]; simp
  have Hbl := Lib.hid (show ∀ k (h : k < LL.length), LL[k].length ≤ 2932031007317 from fun k h => by
    have hm := List.getElem_mem h
    generalize LL[k] = y at *
    rw [hLL] at hm
    rcases List.mem_append.1 hm with h1 | h1
    · exact Hf.out _ h1
    · simp at h1; rw [h1]; exact hl)
  have HVl := Lib.hid hVl
  have HLl := Lib.hid hLl
  clear hVS hLL hVl hLl hlv
  go_loopw [15] (fun i wr => ∃ k : Nat, k ≤ flows.length + 1 ∧ i = .int .i64 k ∧ FS w.heap.size w2.heap.size (.slice (some ⟨gg, 0, none⟩) (flows.length + 1) cap) VS LL w8 wr) (fun i _ => flows.length + 1 - (intOf i).toNat)
  case atStart => exact ⟨0, Nat.zero_le _, rfl, Hfs.out⟩
  case round =>
    obtain ⟨k, hk, rfl, hfs⟩ := hrel
    have Hfs := Lib.hid hfs
    clear hfs
    by_cases hlt : k < flows.length + 1
    · have h1 : k < VS.length := by rw [HVl.out]; exact hlt
      have h2 : k < LL.length := by rw [HLl.out]; exact hlt
      have hbl := Hbl.out k h2
      have Hsl := Lib.hid (show ∀ (w' : World), FS w.heap.size w2.heap.size (.slice (some ⟨gg, 0, none⟩) (flows.length + 1) cap) VS LL w8 w' → _ from fun w' h => h.cells k h1 h2)
      obtain ⟨g1, a, c, hg1, _, hs, _⟩ := Hsl.out wr Hfs.out
      have Hs := Lib.hid hs
      clear hs hg1
      generalize hn : LL[k].length = n at *
      clear hn
      have hki : (k : Int) < (flows.length : Int) + 1 := by omega
      obtain ⟨wo, rfl⟩ : ∃ wo : World, wo = wr := ⟨_, rfl⟩
      go_wp2_with fail
      go_loopw [16] (fun i wr => ∃ j : Nat, j ≤ n ∧ i = .int .i64 j ∧ FS w.heap.size w2.heap.size (.slice (some ⟨gg, 0, none⟩) (flows.length + 1) cap) VS LL w8 wr) (fun i _ => n - (intOf i).toNat)
      case atStart => exact ⟨0, Nat.zero_le _, rfl, Hfs.out⟩
      case round =>
        obtain ⟨j, hj, rfl, hfs⟩ := hrel
        have Hfs := Lib.hid hfs
        clear hfs
        obtain ⟨g2, a', c', hg2, hc, hs', hcells⟩ := Hsl.out wr Hfs.out
        have ha : a' = a ∧ c' = c := by
          rw [Hs.out] at hs'; injection hs' with e1 e2 e3; exact ⟨e1.symm, e3.symm⟩
        obtain ⟨rfl, rfl⟩ := ha
        injection hg2 with hg2
        injection hg2 with hg2
        subst hg2
        clear hs'
        by_cases hjn : j < n
        · obtain ⟨b, ys, ha, hbB, hown, hcf⟩ := hcells j hjn
          subst ha
          obtain ⟨⟨u0, d0'⟩, f0'⟩ := hcf 0 (by omega)
          have d0 : wr.cell? ⟨b, j * 5, none⟩ = some u0 := d0'
          have f0 : wr.frozen? ⟨b, j * 5, none⟩ = false := f0'
          clear d0' f0'
          obtain ⟨⟨u1, d1⟩, f1⟩ := hcf 1 (by omega)
          obtain ⟨⟨u2, d2⟩, f2⟩ := hcf 2 (by omega)
          obtain ⟨⟨u3, d3⟩, f3⟩ := hcf 3 (by omega)
          obtain ⟨⟨u4, d4⟩, f4⟩ := hcf 4 (by omega)
          have Hown := Lib.hid hown
          clear hcells hcf hown
          go_wp2_with fail
          go_roundw
          case rel => exact ⟨j + 1, by omega, by go_num, Hfs.out.set5 Hown.out hbB _ _ _ _ _ _ _ _ _ _⟩
          case measure => simp [intOf]; omega
        · clear hcells
          go_wp2_with fail
          go_roundw
          case rel => exact ⟨k + 1, by omega, by go_num, Hfs.out⟩
          case measure => simp [intOf]; omega
    · have hmid := Hfs.out.mid
      have Hb09 := Lib.hid (show Below w.heap.size w wr from Hb08.out.trans ⟨hmid.os, hmid.tape, hmid.output, by have := hmid.size; have := Hb08.out.size; omega, fun q hq => hmid.block q (Nat.lt_of_lt_of_le hq Hb08.out.size) (.inl hq)⟩)
      have Hkeep9 := Lib.hid (show ∀ b, w2.heap.size ≤ b → b < w4.heap.size → wr.heap[b]? = w4.heap[b]? from fun b h1 h2 =>
        (hmid.block b (by omega) (.inr h1)).trans ((Hkeep8.out b (by omega) (fun e => by have := (Hv2lt.out b e).2; omega)).trans (Hb47.out.block b h2)))
      have hs49 : w4.heap.size ≤ wr.heap.size := by have := hmid.size; omega
      have Hr3 := Lib.hid (RowsSl.of_new (Hnew3b.out.keep hs49 Hkeep9.out))
      have Hr4 := Lib.hid (RowsSl.of_new (Hnew4.out.keep hs49 Hkeep9.out))
      clear hmid
      go_wp2_with fail
      refine (rfill_any _ l wide _ (Hv.out.new Hb09.out) hl).mono ?_
      rintro e w10 ⟨v10, rfl, hnew10, hb10⟩
      have Hr10 := Lib.hid (RowsSl.of_new hnew10)
      have Hb10 := Lib.hid hb10
      clear hnew10 hb10
      go_wp2_with fail
      refine (rrow_any _ _ cs flows _ (Hu.out.new (Hb09.out.trans (Hb10.out.mono Hb09.out.size))) (Hx.out.new (Hb09.out.trans (Hb10.out.mono Hb09.out.size))) Hf.out (by omega) (by omega)).mono ?_
      rintro e w11 ⟨v11, rfl, hnew11, hb11⟩
      have Hr11 := Lib.hid (RowsSl.of_new hnew11)
      have Hr10b := Lib.hid (Hr10.out.new hb11)
      have Hb11 := Lib.hid (Hb10.out.trans (hb11.mono Hb10.out.size))
      clear hnew11 hb11
      go_wp2_with fail
      refine (sameAll_any _ _ (fillOf l wide).1 _ (by omega) (fun x hx => by have := HlenF.out x hx; omega) (Hr3.out.new Hb11.out) Hr10b.out).mono ?_
      rintro e w12 ⟨rfl, n12, hw12⟩
      have Hb12 := Lib.hid (show Below wr.heap.size wr w12 by rw [hw12]; exact below_drewN Hb11.out _)
      have Hr11b := Lib.hid (Hr11.out.new (show Below w11.heap.size w11 w12 by rw [hw12]; exact below_drewN (Below.refl _ _) _))
      clear hw12
      go_wp2_with fail
      refine (sameAll_any _ _ (rowOf cs flows).1 _ (by have := HlenR.out.1; omega) (fun x hx => by have := HlenR.out.2 x hx; omega) (Hr4.out.new Hb12.out) Hr11b.out).mono ?_
      rintro e w13 ⟨rfl, n13, hw13⟩
      have Hb13 := Lib.hid (show Below wr.heap.size wr w13 by rw [hw13]; exact below_drewN Hb12.out _)
      clear hw13
      go_wp2
      go_ret
      exact ⟨rfl, Hb09.out.trans (Hb13.out.mono Hb09.out.size)⟩
end Go.Proofs.Ytepacocajnobgaa
