/- fault.Told: the way to a fault. -/
import Derived.Test.YtafhmagifoapfaaGreatDoorBook
import Derived.Test.YtafhmagifoapfaaGreatDoorPiecesAll
import Derived.Deep.RegionLawGrows
import Derived.Test.YtafhmagifoapfaaGreatDoorMem
import Derived.Deep.RegionWith
namespace Go.Proofs.YtafhmagifoapfaaGreatDoor
open Go.RowKit Find Bk
attribute [local go_sem ↓] Go.wp_at_zero Go.wp_at_succ
abbrev Stp := Wd × Nat
def stpC (x : Stp) : List Value := [.string ⟨x.1.toArray⟩, .int .i64 x.2]
def stpsC (l : List Stp) : List Value := l.flatMap stpC
theorem stpsC_len : ∀ l : List Stp, (stpsC l).length = l.length * 2
  | [] => rfl
  | t :: l => by have := stpsC_len l; simp only [stpsC, List.flatMap_cons, List.length_append, List.length_cons] at *; rw [this]; simp [stpC]; omega
/-- A slice reads as steps. -/
def StpAt (w : World) (v : Value) (l : List Stp) : Prop := (l = [] ∧ v = .slice none 0 0) ∨ ∃ g c, v = .slice (some ⟨g, 0, none⟩) l.length c ∧ l ≠ [] ∧ l.length ≤ c ∧ g < w.heap.size ∧ ∀ j u, (stpsC l)[j]? = some u → w.cell? ⟨g, j, none⟩ = some u
theorem StpAt.below {w w' : World} {v : Value} {l : List Stp} (h : StpAt w v l) (hb : Below w.heap.size w w') : StpAt w' v l := by
  rcases h with h | ⟨g, c, h1, h2, h3, h4, h5⟩
  · exact .inl h
  · exact .inr ⟨g, c, h1, h2, h3, Nat.lt_of_lt_of_le h4 hb.size, fun j u hj => (hb.cell (p := ⟨g, j, none⟩) h4).trans (h5 j u hj)⟩
theorem StpAt.of_row {w : World} {B n : Nat} {v : Value} {l : List Stp} (h : w.ownsRow B 44 2 v n (stpsC l)) (hn : l.length = n) (hne : l ≠ []) : StpAt w v l := by
  right
  have hp := List.length_pos_iff.2 hne
  have hl := stpsC_len l
  rcases h.2 with ⟨_, h0⟩ | ⟨g, cap, cur, rfl, h1, h2, h3, h4, h5⟩
  · omega
  · refine ⟨g, cap, by rw [hn], hne, by omega, lt_of_heap h2, fun j u hj => ?_⟩
    rw [h.cellAt j (by have := (List.getElem?_eq_some_iff.1 hj).1; omega)]; exact hj
theorem info_stp : (Tryz.prog.info? 44).map (fun i => (i.zero, i.size, i.bytes)) = some (some (.agg #[.string ⟨#[]⟩, .int .i64 0]), 2, 24) := by kernel_rfl
theorem info_flt : (Tryz.prog.info? 39).map (fun i => (i.zero, i.size, i.bytes)) = some (some (.agg #[.int .i64 0, .int .i64 0, .int .i64 0, .int .i64 0, .string ⟨#[]⟩, .slice none 0 0]), 6, 72) := by kernel_rfl
/-! ### Which kind an error is -/
theorem ta_yes {t : TypeId} {d : TypeDesc} (hu : Tryz.prog.underlying t = some d) (hd : (match d with | .interface _ => true | _ => false) = false) (x : Value) (w : World) : (Instr.typeAssert (.iface t x) 30 t true).run Tryz.prog w = .ok (.tuple #[x, .bool true]) w := by
  unfold Instr.typeAssert
  simp only [Sem.run_bind, run_underlying hu, Result.andThen_ok]
  cases d <;> simp_all
theorem ta_no {t t2 : TypeId} {e : TypeId} (hu : Tryz.prog.underlying t = some (.pointer e)) (hz : ∀ w, (zeroValue t).run Tryz.prog w = .ok (.pointer none) w) (hne : t2 ≠ t) (x : Value) (w : World) : (Instr.typeAssert (.iface t2 x) 30 t true).run Tryz.prog w = .ok (.tuple #[.pointer none, .bool false]) w := by
  unfold Instr.typeAssert
  simp only [Sem.run_bind, run_underlying hu, Result.andThen_ok, hne, if_false, if_true, hz]
  rfl
theorem ta_EE (x : Value) (w : World) : (Instr.typeAssert (.iface 68 x) 30 68 true).run Tryz.prog w = .ok (.tuple #[x, .bool true]) w := ta_yes Tryz.underlying68 rfl x w
theorem ta_UE (x : Value) (w : World) : (Instr.typeAssert (.iface 87 x) 30 68 true).run Tryz.prog w = .ok (.tuple #[.pointer none, .bool false]) w := ta_no Tryz.underlying68 (fun w => by kernel_rfl) (by decide) x w
theorem ta_UU (x : Value) (w : World) : (Instr.typeAssert (.iface 87 x) 30 87 true).run Tryz.prog w = .ok (.tuple #[x, .bool true]) w := ta_yes Tryz.underlying87 rfl x w
theorem ta_IE (x : Value) (w : World) : (Instr.typeAssert (.iface 261 x) 30 68 true).run Tryz.prog w = .ok (.tuple #[.pointer none, .bool false]) w := ta_no Tryz.underlying68 (fun w => by kernel_rfl) (by decide) x w
theorem ta_IU (x : Value) (w : World) : (Instr.typeAssert (.iface 261 x) 30 87 true).run Tryz.prog w = .ok (.tuple #[.pointer none, .bool false]) w := ta_no Tryz.underlying87 (fun w => by kernel_rfl) (by decide) x w
theorem ta_II (x : Value) (w : World) : (Instr.typeAssert (.iface 261 x) 30 261 true).run Tryz.prog w = .ok (.tuple #[x, .bool true]) w := ta_yes Tryz.underlying261 rfl x w
set_option maxHeartbeats 1600000 in
theorem is_any (g : Nat) (w : World) (h : w.cell? ⟨g, 0, none⟩ = some (.int .i64 1)) : Calls Tryz.prog 135 #[.pointer (some ⟨g, 0, none⟩)] w fun e w' => e = .returned (.bool true) ∧ w' = w := by
  go_enter Tryz.func135, Tryz.ntmps135
  go_wp2
  go_ret
  exact ⟨rfl, rfl⟩
/-- How gathering ends. -/
def GatPost (f : Flt) (src : Nat) (tr : List Stp) (w : World) (e : Ending) (w' : World) : Prop := Below w.heap.size w w' ∧ ∃ A c tv, e = .returned (.slice (some ⟨A, 0, none⟩) 1 c) ∧ A < w'.heap.size ∧ (∀ j u, ([.int .i64 f.code, .int .i64 src, .int .i64 f.line, .int .i64 f.col, .string ⟨f.word.toArray⟩, tv] : List Value)[j]? = some u → w'.cell? ⟨A, j, none⟩ = some u) ∧ StpAt w' tv tr
theorem cells_nl {w : World} {g : Nat} {l : List Value} (h : ∀ j u, l[j]? = some u → w.cell? ⟨g, j, none⟩ = some u) : ∀ j u, l[j]? = some u → w.cell? ((⟨g, 0, none⟩ : Addr).add j) = some u := fun j u hj => by
  have := h j u hj
  cases j with
  | zero => exact this
  | succ j => simpa [Addr.add] using this
set_option maxHeartbeats 6400000 in
set_option maxRecDepth 100000 in
theorem gather_error (g : Nat) (f : Flt) (src : Nat) (tr : List Stp) (tv : Value) (w : World) (hF : FltV w (.iface 68 (.pointer (some ⟨g, 0, none⟩))) f) (hS : StpAt w tv tr) (hne : tr ≠ []) (hlen : tr.length ≤ 10) :
    Calls Tryz.prog 75 #[.iface 68 (.pointer (some ⟨g, 0, none⟩)), .agg #[.int .i64 1, .int .i64 src, tv], .slice none 0 0] w (GatPost f src tr w) := by
  obtain ⟨i0, hi0, hz0, hz1, hz2⟩ := info_parts info_stp
  obtain ⟨j0, hj0, hy0, hy1, hy2⟩ := info_parts info_flt
  obtain ⟨g', he, hg⟩ := hF
  cases he
  have c0 : w.cell? ⟨g, 0, none⟩ = some (.int .i64 1) := by rw [cell_of_heap hg]; rfl
  have c1 : w.cell? ⟨g, 1, none⟩ = some (.int .i64 f.code) := by rw [cell_of_heap hg]; rfl
  have c2 : w.cell? ⟨g, 2, none⟩ = some (.int .i64 0) := by rw [cell_of_heap hg]; rfl
  have c3 : w.cell? ⟨g, 3, none⟩ = some (.int .i64 f.line) := by rw [cell_of_heap hg]; rfl
  have c4 : w.cell? ⟨g, 4, none⟩ = some (.int .i64 f.col) := by rw [cell_of_heap hg]; rfl
  have c5 : w.cell? ⟨g, 5, none⟩ = some (.string ⟨f.word.toArray⟩) := by rw [cell_of_heap hg]; rfl
  have c6 : w.cell? ⟨g, 6, none⟩ = some (.slice none 0 0) := by rw [cell_of_heap hg]; rfl
  have hgl := lt_of_heap hg
  rcases hS with ⟨h0, _⟩ | ⟨tg, tc, rfl, _, htc, htg, hcl⟩
  · exact (hne h0).elim
  have HIS := Lib.hid (fun (W : World) (h : W.cell? ⟨g, 0, none⟩ = some (.int .i64 1)) => is_any g W h)
  have hEE := ta_EE
  have HCL := Lib.hid hcl
  have hnl := List.length_pos_iff.2 hne
  have HNE := Lib.hid hne
  clear hg hcl hne
  go_enter Tryz.func75, Tryz.ntmps75
  go_upto_region 10 with (first
    | (go_at_call 135; refine (HIS.out _ (cell_alP c0 _)).mono ?_; rintro e w1 ⟨rfl, rfl⟩)
    | fail)
  obtain ⟨W2, hW2⟩ : ∃ W, (w.alloc (.cells #[.int .i64 1, .int .i64 src, .slice (some ⟨tg, 0, none⟩) tr.length tc] 167)).alloc (.cells #[.int .i64 f.code, .int .i64 src, .int .i64 f.line, .int .i64 f.col, .string ⟨f.word.toArray⟩, .slice none 0 0] 39) = W := ⟨_, rfl⟩
  obtain ⟨t1, t2⟩ := two_blocks w (.cells #[.int .i64 1, .int .i64 src, .slice (some ⟨tg, 0, none⟩) tr.length tc] 167) (.cells #[.int .i64 f.code, .int .i64 src, .int .i64 f.line, .int .i64 f.col, .string ⟨f.word.toArray⟩, .slice none 0 0] 39)
  have hb2 : Below w.heap.size w W2 := by rw [← hW2]; exact ((Below.refl _ _).alloc (Nat.le_refl _) _).alloc (by simp) _
  have hz2' : W2.heap.size = w.heap.size + 2 := by rw [← hW2]; simp
  rw [hW2] at t1 t2 ⊢
  have x2 : W2.cell? ⟨w.heap.size, 2, none⟩ = some (.slice (some ⟨tg, 0, none⟩) tr.length tc) := by rw [cell_of_heap t1]; rfl
  have HB2 := Lib.hid hb2
  have HT2 := Lib.hid t2
  have htg2 : tg < W2.heap.size := by omega
  have HNW : Hid (∀ j u, (stpsC tr)[j]? = some u → W2.cell? ((⟨tg, 0, none⟩ : Addr).add j) = some u) := Lib.hid (cells_nl fun j u hj => (hb2.cell (p := ⟨tg, j, none⟩) htg).trans (HCL.out j u hj))
  have HON : Hid (∀ u ∈ stpsC tr, u.oneCell' = true) := Lib.hid (fun u hu => by
    unfold stpsC at hu
    obtain ⟨x, _, hx⟩ := List.mem_flatMap.1 hu
    simp only [stpC, List.mem_cons, List.mem_nil_iff, or_false] at hx
    rcases hx with rfl | rfl <;> rfl)
  obtain ⟨n, hn⟩ : ∃ n, tr.length = n := ⟨_, rfl⟩
  have HLN : Hid ((stpsC tr).length = n * 2) := Lib.hid (by rw [stpsC_len, hn])
  have HN := Lib.hid hn
  obtain ⟨xs, hxs⟩ : ∃ xs, stpsC tr = xs := ⟨_, rfl⟩
  have HXS := Lib.hid hxs
  rw [hxs] at HNW HON HLN
  rw [hn] at x2 hnl hlen htc
  simp only [hn]
  clear hb2 t1 t2 hW2 c0 c1 c2 c3 c4 c5 c6 hn hxs
  go_upto_region 11 with (first
    | (at_builtin; go_loud (refine wpList_append_lies _ rfl _ _ 37 rfl w.heap.size 44 i0 _ 2 24 Tryz.underlying37 hi0 hz0 hz1 hz2 rfl (by omega) (.slice none 0 0) 0 [] rfl (World.ownsRow_nil _ _ _ _) ⟨tg, 0, none⟩ n tc xs rfl HLN.out HNW.out HON.out hnl (by unfold maxLen; omega) (by omega) (by omega) W2.heap.size rfl ?_; intro g3 cap3 w3 hown3 hgrow3 hat3 hlt3; have hbk3 : w3.heap[w.heap.size + 1]? = some (.cells #[.int .i64 f.code, .int .i64 src, .int .i64 f.line, .int .i64 f.col, .string ⟨f.word.toArray⟩, .slice none 0 0] 39 (0, 0)) := (hgrow3.block _ (by omega) (by simp [Value.ownBlock])).trans HT2.out; have y5 : w3.cell? ⟨w.heap.size + 1, 5, none⟩ = some (.slice none 0 0) := (by rw [cell_of_heap hbk3]; rfl); have yf : (∀ i, w3.frozen? ⟨w.heap.size + 1, i, none⟩ = false) := (fun i => free_of_heap hbk3); have HB3 : Hid (Below w.heap.size w w3) := Lib.hid (HB2.out.grown hgrow3 (by omega) fun k hk => by simp [Value.ownBlock] at hk); have HBK3 := Lib.hid hbk3; have HO3 := Lib.hid hown3; clear hown3 hgrow3 hat3 hbk3))
    | fail)
  have hO3 := HO3.out
  rw [Nat.zero_add, List.nil_append] at hO3
  have HO3' := Lib.hid hO3
  obtain ⟨w4, hw4⟩ : ∃ W, w3.setCell ⟨w.heap.size + 1, 5, none⟩ (.slice (some ⟨g3, 0, none⟩) n cap3) = W := ⟨_, rfl⟩
  have hbk4 : w4.heap[w.heap.size + 1]? = some (.cells #[.int .i64 f.code, .int .i64 src, .int .i64 f.line, .int .i64 f.col, .string ⟨f.word.toArray⟩, .slice (some ⟨g3, 0, none⟩) n cap3] 39 (0, 0)) := by rw [← hw4, setCell_heap' HBK3.out]; rfl
  have hst4 : StpAt w4 (.slice (some ⟨g3, 0, none⟩) n cap3) tr := by
    have h1 : w4.ownsRow w.heap.size 44 2 (.slice (some ⟨g3, 0, none⟩) n cap3) n xs := by rw [← hw4]; exact owns_chg hO3 (Chg.setCell HBK3.out _) (by decide)
    rw [← HXS.out] at h1
    exact StpAt.of_row h1 HN.out HNE.out
  have hb4 : Below w.heap.size w w4 := by rw [← hw4]; exact HB3.out.setCell (Nat.le_succ _) _
  rw [hw4]
  have z0 : w4.cell? ⟨w.heap.size + 1, 0, none⟩ = some (.int .i64 f.code) := by rw [cell_of_heap hbk4]; rfl
  have z1 : w4.cell? ⟨w.heap.size + 1, 1, none⟩ = some (.int .i64 src) := by rw [cell_of_heap hbk4]; rfl
  have z2 : w4.cell? ⟨w.heap.size + 1, 2, none⟩ = some (.int .i64 f.line) := by rw [cell_of_heap hbk4]; rfl
  have z3 : w4.cell? ⟨w.heap.size + 1, 3, none⟩ = some (.int .i64 f.col) := by rw [cell_of_heap hbk4]; rfl
  have z4 : w4.cell? ⟨w.heap.size + 1, 4, none⟩ = some (.string ⟨f.word.toArray⟩) := by rw [cell_of_heap hbk4]; rfl
  have z5 : w4.cell? ⟨w.heap.size + 1, 5, none⟩ = some (.slice (some ⟨g3, 0, none⟩) n cap3) := by rw [cell_of_heap hbk4]; rfl
  have HST4 := Lib.hid hst4
  have HB4 := Lib.hid hb4
  have hz4 := hb4.size
  clear hbk4 hst4 hb4 hw4 hO3 y5 yf
  go_wp2_with (first
    | (at_builtin; go_loud (refine wpList_append_lies _ rfl _ _ 74 rfl w.heap.size 39 j0 _ 6 72 Tryz.underlying74 hj0 hy0 hy1 hy2 rfl (by omega) (.slice none 0 0) 0 [] rfl (World.ownsRow_nil _ _ _ _) ⟨w4.heap.size, 0, none⟩ 1 1 [.int .i64 f.code, .int .i64 src, .int .i64 f.line, .int .i64 f.col, .string ⟨f.word.toArray⟩, .slice (some ⟨g3, 0, none⟩) n cap3] rfl rfl (World.news_of_block (cs := #[.int .i64 f.code, .int .i64 src, .int .i64 f.line, .int .i64 f.col, .string ⟨f.word.toArray⟩, .slice (some ⟨g3, 0, none⟩) n cap3]) (t := 39) (fr := (0, 0)) (heap_alloc_new w4 _)) (by simp [Value.oneCell']) (by omega) (by unfold maxLen; omega) (by omega) (by rw [World.size_alloc]; omega) (w4.heap.size + 1) (by rw [World.size_alloc]) ?_; intro g5 cap5 w5 hown5 hgrow5 hat5 hlt5; have HB5 : Hid (Below w4.heap.size w4 w5) := Lib.hid (((Below.refl w4.heap.size w4).alloc (Nat.le_refl _) _).grown hgrow5 (by rw [World.size_alloc]; omega) fun k hk => by simp [Value.ownBlock] at hk); have HO5 := Lib.hid hown5; have hlt5' := hlt5; clear hown5 hgrow5 hat5 hlt5))
    | fail)
  go_ret
  refine ⟨HB4.out.trans (HB5.out.mono hz4), g5, cap5, .slice (some ⟨g3, 0, none⟩) n cap3, rfl, hlt5', fun j u hj => ?_, HST4.out.below HB5.out⟩
  have hO := HO5.out
  rw [Nat.zero_add, List.nil_append] at hO
  have hj6 := (List.getElem?_eq_some_iff.1 hj).1
  simp only [List.length_cons, List.length_nil] at hj6
  rw [hO.cellAt j (by omega)]
  exact hj
theorem slice_full (g o n c : Nat) (hc : n ≤ c) (W : World) : (Instr.slice 37 (.slice (some ⟨g, o, none⟩) n c) none (some (.int .i64 n)) (some (.int .i64 n))).run Tryz.prog W = .ok (.slice (some ⟨g, o, none⟩) n n) W := by
  have hu : Tryz.prog.underlying 37 = some (.slice 44) := by kernel_rfl
  have hsz : (sizeOf 44).run Tryz.prog W = .ok 2 W := by kernel_rfl
  have h1 : (0 : Int) ≤ (n : Int) ∧ (n : Int) ≤ (n : Int) := by omega
  have h2 : (0 : Int) ≤ (n : Int) ∧ (n : Int) ≤ (c : Int) := by omega
  unfold Instr.slice
  simp only [Sem.run_bind, run_underlying hu, Result.andThen_ok, Instr.sliceBounds, Instr.sliceBound, asIntOf, Sem.run_pure, h1, h2, if_true, and_self]
  simp [Addr.add]
theorem slice_nil (W : World) : (Instr.slice 37 (.slice none 0 0) none (some (.int .i64 0)) (some (.int .i64 0))).run Tryz.prog W = .ok (.slice none 0 0) W := by
  have hu : Tryz.prog.underlying 37 = some (.slice 44) := by kernel_rfl
  have hsz : (sizeOf 44).run Tryz.prog W = .ok 2 W := by kernel_rfl
  unfold Instr.slice
  simp only [Sem.run_bind, run_underlying hu, Result.andThen_ok, Instr.sliceBounds, Instr.sliceBound, asIntOf, Sem.run_pure]
  simp
/-- A trail, whatever it is. -/
theorem StpAt.open_ {w : World} {v : Value} {l : List Stp} (h : StpAt w v l) : ∃ ao n c, v = .slice ao n c ∧ n = l.length ∧ (ao = none → n = 0 ∧ n = 0) ∧ (∀ W, (Instr.slice 37 (.slice ao n c) none (some (.int .i64 n)) (some (.int .i64 n))).run Tryz.prog W = .ok (.slice ao n n) W) ∧
    ∀ b, ao = some b → b.block < w.heap.size ∧ ∀ j u, (stpsC l)[j]? = some u → w.cell? (b.add j) = some u := by
  rcases h with ⟨rfl, rfl⟩ | ⟨g, c, rfl, h2, h3, h4, h5⟩
  · exact ⟨none, 0, 0, rfl, rfl, fun _ => ⟨rfl, rfl⟩, slice_nil, fun b hb => by cases hb⟩
  · exact ⟨_, _, c, rfl, rfl, (fun e => by cases e), slice_full g 0 _ c h3, fun b hb => by cases hb; exact ⟨h4, cells_nl h5⟩⟩
set_option maxHeartbeats 6400000 in
set_option maxRecDepth 100000 in
theorem gather_under (v u : Value) (nm : Wd) (k : Nat) (f : Flt) (sd src src' : Nat) (tr trF : List Stp) (tv : Value) (w : World) (hM : MarkV w v nm k u) (hS : StpAt w tv tr) (hlen : tr.length ≤ 8) (hu : ∃ τ p, u = .iface τ (.pointer p))
    (H : ∀ (W : World) (tv' : Value), Below w.heap.size w W → StpAt W tv' (tr ++ [(nm, k)]) → Calls Tryz.prog 75 #[u, .agg #[.int .i64 sd, .int .i64 src, tv'], .slice none 0 0] W (GatPost f src' trF W)) :
    Calls Tryz.prog 75 #[v, .agg #[.int .i64 sd, .int .i64 src, tv], .slice none 0 0] w (GatPost f src' trF w) := by
  obtain ⟨i0, hi0, hz0, hz1, hz2⟩ := info_parts info_stp
  obtain ⟨τ, pp, rfl⟩ := hu
  obtain ⟨b, rfl, hb⟩ := hM
  obtain ⟨ao, n, tc, rfl, hn, hnone, hsl, hcl⟩ := hS.open_
  have c0 : w.cell? ⟨b, 0, none⟩ = some (.string ⟨nm.toArray⟩) := by rw [cell_of_heap hb]; rfl
  have c1 : w.cell? ⟨b, 1, none⟩ = some (.int .i64 k) := by rw [cell_of_heap hb]; rfl
  have c2 : w.cell? ⟨b, 2, none⟩ = some (.iface τ (.pointer pp)) := by rw [cell_of_heap hb]; rfl
  have hbl := lt_of_heap hb
  have hUE := ta_UE
  have hUU := ta_UU
  have HH := Lib.hid H
  have HCL := Lib.hid hcl
  have HNN := Lib.hid hnone
  have HN := Lib.hid hn
  have hn8 : n ≤ 8 := by omega
  clear hb hS hcl hnone hn hlen H
  go_enter Tryz.func75, Tryz.ntmps75
  go_wp2_with fail
  obtain ⟨W1, hW1⟩ : ∃ W, w.alloc (.cells #[.int .i64 sd, .int .i64 src, .slice ao n tc] 167) = W := ⟨_, rfl⟩
  have hb1 : Below w.heap.size w W1 := by rw [← hW1]; exact (Below.refl _ _).alloc (Nat.le_refl _) _
  have hwy : W1.heap[w.heap.size]? = some (.cells #[.int .i64 sd, .int .i64 src, .slice ao n tc] 167 (0, 0)) := by rw [← hW1]; exact heap_alloc_new _ _
  have hzz : W1.heap.size = w.heap.size + 1 := by rw [← hW1]; simp
  rw [hW1]
  obtain ⟨wb, hwb⟩ : ∃ n, w.heap.size = n := ⟨_, rfl⟩
  rw [hwb] at hwy hzz hbl ⊢
  have HB1 := Lib.hid hb1
  have HWY := Lib.hid hwy
  have HWB := Lib.hid hwb
  have y0 : W1.cell? ⟨wb, 0, none⟩ = some (.int .i64 sd) := by rw [cell_of_heap hwy]; rfl
  have y1 : W1.cell? ⟨wb, 1, none⟩ = some (.int .i64 src) := by rw [cell_of_heap hwy]; rfl
  have y2 : W1.cell? ⟨wb, 2, none⟩ = some (.slice ao n tc) := by rw [cell_of_heap hwy]; rfl
  have yf : ∀ i, W1.frozen? ⟨wb, i, none⟩ = false := fun i => free_of_heap hwy
  have d0 : W1.cell? ⟨b, 0, none⟩ = some (.string ⟨nm.toArray⟩) := (hb1.cell (p := ⟨b, 0, none⟩) (by rw [hwb]; exact hbl)).trans c0
  have d1 : W1.cell? ⟨b, 1, none⟩ = some (.int .i64 k) := (hb1.cell (p := ⟨b, 1, none⟩) (by rw [hwb]; exact hbl)).trans c1
  have d2 : W1.cell? ⟨b, 2, none⟩ = some (.iface τ (.pointer pp)) := (hb1.cell (p := ⟨b, 2, none⟩) (by rw [hwb]; exact hbl)).trans c2
  have hbl1 : b < W1.heap.size := by omega
  have hwl1 : wb < W1.heap.size := by omega
  have HOLD : Hid (∀ bb, ao = some bb → ∀ j x, (stpsC tr)[j]? = some x → W1.cell? (bb.add j) = some x) := Lib.hid fun bb hbb j x hj => (hb1.cell (p := bb.add j) (by obtain ⟨q1, _⟩ := HCL.out bb hbb; unfold Addr.add; split <;> exact q1)).trans ((HCL.out bb hbb).2 j x hj)
  have HLEN : Hid ((stpsC tr).length = n * 2) := Lib.hid (by rw [stpsC_len, HN.out])
  obtain ⟨xs, hxs⟩ : ∃ xs, stpsC tr = xs := ⟨_, rfl⟩
  have HXS := Lib.hid hxs
  rw [hxs] at HOLD HLEN
  clear hb1 hwy hzz hwb hW1 hxs c0 c1 c2 HCL
  have hS0 : W1.drew.cell? ⟨wb, 2, none⟩ = some (.slice ao n tc) ∧ W1.drew.cell? ⟨b, 0, none⟩ = some (.string ⟨nm.toArray⟩) ∧ W1.drew.cell? ⟨b, 1, none⟩ = some (.int .i64 k) := ⟨y2, d0, d1⟩
  refine region_anyT (fun w' => w'.cell? ⟨wb, 2, none⟩ = some (.slice ao n tc) ∧ w'.cell? ⟨b, 0, none⟩ = some (.string ⟨nm.toArray⟩) ∧ w'.cell? ⟨b, 1, none⟩ = some (.int .i64 k)) 16 (by kernel_rfl) ?_
  refine anyT_take (i := 0) (oi := { dst := some 44, op := Op.fieldAddr 167 (Operand.tmp 4) 2, type := 0, pos := "fault.go:151", after := #[], guard := none }) (v := ?kv0) rfl rfl (by kernel_rfl) (by kernel_rfl) (by kernel_rfl) (by kernel_rfl) (fun _ _ _ h => h) (Or.inl ⟨by rfl, ?kh0⟩) (by assumption) ?_
  case kh0 => (intro w hSw; obtain ⟨s1, s2, s3⟩ := hSw; go_simp; (try with_reducible rfl))
  simp only [Act.put, List.setIfInBounds_toArray, List.set_cons_succ, List.set_cons_zero]
  refine anyT_take (i := 1) (oi := { dst := some 45, op := Op.load 37 (Operand.tmp 44), type := 37, pos := "fault.go:151", after := #[{ on := 0, ground := Ground.data }], guard := none }) (v := ?kv1) rfl rfl (by kernel_rfl) (by kernel_rfl) (by kernel_rfl) (by kernel_rfl) (fun _ _ _ h => h) (Or.inl ⟨by rfl, ?kh1⟩) (by assumption) ?_
  case kh1 => (intro w hSw; obtain ⟨s1, s2, s3⟩ := hSw; go_simp; (try with_reducible rfl))
  simp only [Act.put, List.setIfInBounds_toArray, List.set_cons_succ, List.set_cons_zero]
  refine anyT_take (i := 2) (oi := { dst := some 46, op := Op.fieldAddr 167 (Operand.tmp 4) 2, type := 0, pos := "fault.go:151", after := #[], guard := none }) (v := ?kv2) rfl rfl (by kernel_rfl) (by kernel_rfl) (by kernel_rfl) (by kernel_rfl) (fun _ _ _ h => h) (Or.inl ⟨by rfl, ?kh2⟩) (by assumption) ?_
  case kh2 => (intro w hSw; obtain ⟨s1, s2, s3⟩ := hSw; go_simp; (try with_reducible rfl))
  simp only [Act.put, List.setIfInBounds_toArray, List.set_cons_succ, List.set_cons_zero]
  refine anyT_take (i := 3) (oi := { dst := some 47, op := Op.load 37 (Operand.tmp 46), type := 37, pos := "fault.go:151", after := #[{ on := 2, ground := Ground.data }], guard := none }) (v := ?kv3) rfl rfl (by kernel_rfl) (by kernel_rfl) (by kernel_rfl) (by kernel_rfl) (fun _ _ _ h => h) (Or.inl ⟨by rfl, ?kh3⟩) (by assumption) ?_
  case kh3 => (intro w hSw; obtain ⟨s1, s2, s3⟩ := hSw; go_simp; (try with_reducible rfl))
  simp only [Act.put, List.setIfInBounds_toArray, List.set_cons_succ, List.set_cons_zero]
  refine anyT_take (i := 4) (oi := { dst := some 48, op := Op.call { callee := Callee.builtin Builtin.len, args := #[Operand.tmp 47], argTypes := #[37] }, type := 3, pos := "fault.go:151", after := #[{ on := 3, ground := Ground.data }], guard := none }) (v := ?kv4) rfl rfl (by kernel_rfl) (by kernel_rfl) (by kernel_rfl) (by kernel_rfl) (fun _ _ _ h => h) (Or.inl ⟨by rfl, ?kh4⟩) (by assumption) ?_
  case kh4 => (intro w hSw; obtain ⟨s1, s2, s3⟩ := hSw; go_simp; (try with_reducible rfl))
  simp only [Act.put, List.setIfInBounds_toArray, List.set_cons_succ, List.set_cons_zero]
  refine anyT_take (i := 5) (oi := { dst := some 49, op := Op.fieldAddr 167 (Operand.tmp 4) 2, type := 0, pos := "fault.go:151", after := #[], guard := none }) (v := ?kv5) rfl rfl (by kernel_rfl) (by kernel_rfl) (by kernel_rfl) (by kernel_rfl) (fun _ _ _ h => h) (Or.inl ⟨by rfl, ?kh5⟩) (by assumption) ?_
  case kh5 => (intro w hSw; obtain ⟨s1, s2, s3⟩ := hSw; go_simp; (try with_reducible rfl))
  simp only [Act.put, List.setIfInBounds_toArray, List.set_cons_succ, List.set_cons_zero]
  refine anyT_take (i := 6) (oi := { dst := some 50, op := Op.load 37 (Operand.tmp 49), type := 37, pos := "fault.go:151", after := #[{ on := 5, ground := Ground.data }], guard := none }) (v := ?kv6) rfl rfl (by kernel_rfl) (by kernel_rfl) (by kernel_rfl) (by kernel_rfl) (fun _ _ _ h => h) (Or.inl ⟨by rfl, ?kh6⟩) (by assumption) ?_
  case kh6 => (intro w hSw; obtain ⟨s1, s2, s3⟩ := hSw; go_simp; (try with_reducible rfl))
  simp only [Act.put, List.setIfInBounds_toArray, List.set_cons_succ, List.set_cons_zero]
  refine anyT_take (i := 7) (oi := { dst := some 51, op := Op.call { callee := Callee.builtin Builtin.len, args := #[Operand.tmp 50], argTypes := #[37] }, type := 3, pos := "fault.go:151", after := #[{ on := 6, ground := Ground.data }], guard := none }) (v := ?kv7) rfl rfl (by kernel_rfl) (by kernel_rfl) (by kernel_rfl) (by kernel_rfl) (fun _ _ _ h => h) (Or.inl ⟨by rfl, ?kh7⟩) (by assumption) ?_
  case kh7 => (intro w hSw; obtain ⟨s1, s2, s3⟩ := hSw; go_simp; (try with_reducible rfl))
  simp only [Act.put, List.setIfInBounds_toArray, List.set_cons_succ, List.set_cons_zero]
  refine anyT_take (i := 8) (oi := { dst := some 52, op := Op.slice 37 (Operand.tmp 45) none (some (Operand.tmp 48)) (some (Operand.tmp 51)), type := 37, pos := "fault.go:151", after := #[{ on := 1, ground := Ground.data }, { on := 4, ground := Ground.data }, { on := 7, ground := Ground.data }], guard := none }) (v := ?kv8) rfl rfl (by kernel_rfl) (by kernel_rfl) (by kernel_rfl) (by kernel_rfl) (fun _ _ _ h => h) (Or.inl ⟨by rfl, ?kh8⟩) (by assumption) ?_
  case kh8 => (intro w hSw; obtain ⟨s1, s2, s3⟩ := hSw; go_simp; (try with_reducible rfl))
  simp only [Act.put, List.setIfInBounds_toArray, List.set_cons_succ, List.set_cons_zero]
  refine anyT_take (i := 9) (oi := { dst := some 53, op := Op.move (Operand.tmp 10), type := 87, pos := "fault.go:151", after := #[], guard := none }) (v := ?kv9) rfl rfl (by kernel_rfl) (by kernel_rfl) (by kernel_rfl) (by kernel_rfl) (fun _ _ _ h => h) (Or.inl ⟨by rfl, ?kh9⟩) (by assumption) ?_
  case kh9 => (intro w hSw; obtain ⟨s1, s2, s3⟩ := hSw; go_simp; (try with_reducible rfl))
  simp only [Act.put, List.setIfInBounds_toArray, List.set_cons_succ, List.set_cons_zero]
  refine anyT_take (i := 10) (oi := { dst := some 54, op := Op.nilCheck (Operand.tmp 53), type := 0, pos := "fault.go:151", after := #[{ on := 9, ground := Ground.data }], guard := none }) (v := ?kv10) rfl rfl (by kernel_rfl) (by kernel_rfl) (by kernel_rfl) (by kernel_rfl) (fun _ _ _ h => h) (Or.inl ⟨by rfl, ?kh10⟩) (by assumption) ?_
  case kh10 => (intro w hSw; obtain ⟨s1, s2, s3⟩ := hSw; go_simp; (try with_reducible rfl))
  simp only [Act.put, List.setIfInBounds_toArray, List.set_cons_succ, List.set_cons_zero]
  refine anyT_take (i := 11) (oi := { dst := some 55, op := Op.fieldAddr 89 (Operand.tmp 54) 0, type := 0, pos := "fault.go:151", after := #[{ on := 10, ground := Ground.data }], guard := none }) (v := ?kv11) rfl rfl (by kernel_rfl) (by kernel_rfl) (by kernel_rfl) (by kernel_rfl) (fun _ _ _ h => h) (Or.inl ⟨by rfl, ?kh11⟩) (by assumption) ?_
  case kh11 => (intro w hSw; obtain ⟨s1, s2, s3⟩ := hSw; go_simp; (try with_reducible rfl))
  simp only [Act.put, List.setIfInBounds_toArray, List.set_cons_succ, List.set_cons_zero]
  refine anyT_take (i := 12) (oi := { dst := some 56, op := Op.load 44 (Operand.tmp 55), type := 44, pos := "fault.go:151", after := #[{ on := 11, ground := Ground.data }], guard := none }) (v := ?kv12) rfl rfl (by kernel_rfl) (by kernel_rfl) (by kernel_rfl) (by kernel_rfl) (fun _ _ _ h => h) (Or.inl ⟨by rfl, ?kh12⟩) (by assumption) ?_
  case kh12 => (intro w hSw; obtain ⟨s1, s2, s3⟩ := hSw; go_simp; (try with_reducible rfl))
  simp only [Act.put, List.setIfInBounds_toArray, List.set_cons_succ, List.set_cons_zero]
  refine anyT_one (j := 13) (o := { dst := some 57, op := Op.buildSlice 37 1 #[(0, Operand.tmp 56)], type := 37, pos := "fault.go:151", after := #[{ on := 12, ground := Ground.data }], guard := none }) (by kernel_rfl) rfl (fun K hK => ?_)
  have HK := Lib.hid hK
  clear hK
  go_simp
  refine HK.out _ _ ⟨fun _ => ⟨cell_alP y2 _, cell_alP d0 _, cell_alP d1 _⟩, ?_⟩
  try simp only [Act.put, List.setIfInBounds_toArray, List.set_cons_succ, List.set_cons_zero]
  refine anyT_one (j := 14) (o := { dst := some 58, op := Op.call { callee := Callee.builtin Builtin.append, args := #[Operand.tmp 52, Operand.tmp 57], argTypes := #[37, 37] }, type := 37, pos := "fault.go:151", after := #[{ on := 8, ground := Ground.data }, { on := 13, ground := Ground.data }], guard := none }) (by kernel_rfl) rfl (fun K2 hK2 => ?_)
  have HK2 := Lib.hid hK2
  clear hK2 HK
  refine step_append_grows rfl (.tmp 52) (.tmp 57) 37 rfl 44 i0 _ 2 24 Tryz.underlying37 hi0 hz0 hz1 hz2 rfl (by decide) ao n n xs (by rfl) HNN.out HLEN.out (fun bb hbb j x hj => cell_alP (HOLD.out bb hbb j x hj) _) ⟨W1.heap.size, 0, none⟩ 1 1 [.string ⟨nm.toArray⟩, .int .i64 k] (by rfl) (by rfl) (World.news_of_block (cs := #[.string ⟨nm.toArray⟩, .int .i64 k]) (t := 44) (fr := (0, 0)) (heap_alloc_new W1 _)) (by simp [Value.oneCell']) (by omega) (by unfold maxLen; omega) (by omega) ?_
  intro v3 w3 hown3 hgrow3
  obtain ⟨g3, cap3, rfl⟩ : ∃ g3 cap3, v3 = .slice (some ⟨g3, 0, none⟩) (n + 1) cap3 := (by rcases hown3.2 with ⟨_, h0⟩ | ⟨g, cap, cur, h, _⟩; (omega); exact ⟨g, cap, h⟩)
  have hN3 : ∀ k, k < W1.heap.size → w3.heap[k]? = W1.heap[k]? := fun k hk => by
    rw [hgrow3.block k (by show k < (W1.alloc _).heap.size; rw [World.size_alloc]; omega) (by simp)]
    exact ((Below.refl W1.heap.size W1).alloc (Nat.le_refl _) _).block k hk
  have hwy3 : w3.heap[wb]? = some (.cells #[.int .i64 sd, .int .i64 src, .slice ao n tc] 167 (0, 0)) := (hN3 wb hwl1).trans HWY.out
  have q2 : w3.cell? ⟨wb, 2, none⟩ = some (.slice ao n tc) := by rw [cell_of_heap hwy3]; rfl
  have q2f : ∀ i, w3.frozen? ⟨wb, i, none⟩ = false := fun i => free_of_heap hwy3
  have hcb : ∀ j v, W1.cell? ⟨b, j, none⟩ = some v → w3.cell? ⟨b, j, none⟩ = some v := fun j v h => by
    unfold World.cell? at h ⊢
    rw [hN3 b hbl1]; exact h
  have HB3 : Hid (Below W1.heap.size W1 w3) := Lib.hid ((((Below.refl W1.heap.size W1).alloc (Nat.le_refl _) _).drew).grown hgrow3 (by show W1.heap.size ≤ (W1.alloc _).heap.size; rw [World.size_alloc]; omega) (fun k hk => by cases hk))
  have HO3 := Lib.hid hown3
  have HW3 := Lib.hid hwy3
  have HCB := Lib.hid hcb
  have HSZ : Hid (W1.heap.size ≤ (W1.alloc (.cells #[.string ⟨nm.toArray⟩, .int .i64 k] 44)).heap.size) := Lib.hid (by rw [World.size_alloc]; omega)
  refine HK2.out _ _ ⟨fun _ => ⟨q2, hcb 0 _ d0, hcb 1 _ d1⟩, ?_⟩
  have hS3 : w3.cell? ⟨wb, 2, none⟩ = some (.slice ao n tc) ∧ w3.cell? ⟨b, 0, none⟩ = some (.string ⟨nm.toArray⟩) ∧ w3.cell? ⟨b, 1, none⟩ = some (.int .i64 k) := ⟨q2, hcb 0 _ d0, hcb 1 _ d1⟩
  clear hown3 hgrow3 hN3 hwy3 hcb HK2 K2
  try simp only [Act.put, List.setIfInBounds_toArray, List.set_cons_succ, List.set_cons_zero]
  refine anyT_take (i := 15) (oi := { dst := some 59, op := Op.fieldAddr 167 (Operand.tmp 4) 2, type := 0, pos := "fault.go:151", after := #[{ on := 0, ground := Ground.phase }, { on := 1, ground := Ground.phase }, { on := 2, ground := Ground.phase }, { on := 3, ground := Ground.phase }, { on := 4, ground := Ground.phase }, { on := 5, ground := Ground.phase }, { on := 6, ground := Ground.phase }, { on := 7, ground := Ground.phase }, { on := 8, ground := Ground.phase }, { on := 9, ground := Ground.phase }, { on := 10, ground := Ground.phase }, { on := 11, ground := Ground.phase }, { on := 12, ground := Ground.phase }, { on := 13, ground := Ground.phase }, { on := 14, ground := Ground.phase }], guard := none }) (v := ?kv15) rfl rfl (by kernel_rfl) (by kernel_rfl) (by kernel_rfl) (by kernel_rfl) (fun _ _ _ h => h) (Or.inl ⟨by rfl, ?kh15⟩) (by assumption) ?_
  case kh15 => (intro w hSw; obtain ⟨s1, s2, s3⟩ := hSw; go_simp; (try with_reducible rfl))
  simp only [Act.put, List.setIfInBounds_toArray, List.set_cons_succ, List.set_cons_zero]
  refine anyT_one (j := 16) (o := { dst := none, op := Op.store 37 (Operand.tmp 59) (Operand.tmp 58), type := 0, pos := "fault.go:151", after := #[{ on := 15, ground := Ground.data }, { on := 14, ground := Ground.data }, { on := 14, ground := Ground.chain }, { on := 0, ground := Ground.phase }, { on := 1, ground := Ground.phase }, { on := 2, ground := Ground.phase }, { on := 3, ground := Ground.phase }, { on := 4, ground := Ground.phase }, { on := 5, ground := Ground.phase }, { on := 6, ground := Ground.phase }, { on := 7, ground := Ground.phase }, { on := 8, ground := Ground.phase }, { on := 9, ground := Ground.phase }, { on := 10, ground := Ground.phase }, { on := 11, ground := Ground.phase }, { on := 12, ground := Ground.phase }, { on := 13, ground := Ground.phase }, { on := 14, ground := Ground.phase }], guard := none }) (by kernel_rfl) rfl (fun K3 hK3 => ?_)
  have HK3 := Lib.hid hK3
  clear hK3
  go_simp
  refine HK3.out _ _ ⟨fun h => absurd rfl h, ?_⟩
  clear HK3 K3 K
  try simp only [Act.put, List.setIfInBounds_toArray, List.set_cons_succ, List.set_cons_zero]
  refine anyT_done (by kernel_rfl) ?_ _
  obtain ⟨W5, hW5⟩ : ∃ W, w3.setCell ⟨wb, 2, none⟩ (.slice (some ⟨g3, 0, none⟩) (n + 1) cap3) = W := ⟨_, rfl⟩
  have hwy5 : W5.heap[wb]? = some (.cells #[.int .i64 sd, .int .i64 src, .slice (some ⟨g3, 0, none⟩) (n + 1) cap3] 167 (0, 0)) := by rw [← hW5, setCell_heap' HW3.out]; rfl
  have hrow5 : StpAt W5 (.slice (some ⟨g3, 0, none⟩) (n + 1) cap3) (tr ++ [(nm, k)]) := by
    have h1 := owns_chg HO3.out (Chg.setCell (i := 2) HW3.out (.slice (some ⟨g3, 0, none⟩) (n + 1) cap3)) (by decide)
    rw [hW5, ← HXS.out, show stpsC tr ++ [.string ⟨nm.toArray⟩, .int .i64 k] = stpsC (tr ++ [(nm, k)]) from by simp [stpsC, stpC]] at h1
    exact StpAt.of_row h1 (by rw [List.length_append, HN.out]; rfl) (by simp)
  have e2 : W5.cell? ⟨b, 2, none⟩ = some (.iface τ (.pointer pp)) := by
    have h := HCB.out 2 _ d2
    have : W5.heap[b]? = w3.heap[b]? := by rw [← hW5, setCell_heap_ne' (by omega)]
    unfold World.cell? at h ⊢
    rw [this]; exact h
  have hb5 : Below wb w W5 := by
    have h1 : Below wb w W1 := by rw [← HWB.out]; exact HB1.out
    rw [← hW5]
    exact (h1.trans (HB3.out.mono (by omega))).setCell (Nat.le_refl _) _
  rw [hW5]
  have z0 : W5.cell? ⟨wb, 0, none⟩ = some (.int .i64 sd) := by rw [cell_of_heap hwy5]; rfl
  have z1 : W5.cell? ⟨wb, 1, none⟩ = some (.int .i64 src) := by rw [cell_of_heap hwy5]; rfl
  have z2 : W5.cell? ⟨wb, 2, none⟩ = some (.slice (some ⟨g3, 0, none⟩) (n + 1) cap3) := by rw [cell_of_heap hwy5]; rfl
  have HB5 := Lib.hid hb5
  have HC := Lib.hid (HH.out W5.drew _ (by rw [HWB.out]; exact hb5.drew) (hrow5.below ((Below.refl _ _).drew)))
  clear hwy5 hrow5 hb5 hW5 y0 y1 y2 yf d0 d1 d2 q2 q2f hS3 hS0 HW3 HO3 HCB HB3 HB1 HWY
  go_wp2_with fail
  go_region_with (first
    | (go_at_call 75; refine HC.out.mono ?_; rintro e w6 ⟨hb6, A, c, tv3, rfl, hA, hcl, hst⟩; have HB6 := Lib.hid hb6; have HCL6 := Lib.hid hcl; have HST6 := Lib.hid hst; clear hb6 hcl hst)
    | fail)
  all_goals
    go_wp2_with fail
    go_ret
    have hsz := HB5.out.drew.size
    exact ⟨(by have := HB5.out.drew; rw [← HWB.out] at this; exact this.trans (HB6.out.mono hsz)), A, c, tv3, rfl, hA, HCL6.out, HST6.out⟩
set_option maxHeartbeats 6400000 in
set_option maxRecDepth 100000 in
theorem gather_in (v u : Value) (i : Nat) (f : Flt) (src0 : Nat) (tr tr' : List Stp) (tv : Value) (w : World) (hM : InV w v i u) (hS : StpAt w tv tr) (hu : ∃ τ p, u = .iface τ (.pointer p)) (htv : ∃ a n c, tv = .slice a n c)
    (H : ∀ (W : World), Below w.heap.size w W → StpAt W tv tr → Calls Tryz.prog 75 #[u, .agg #[.int .i64 1, .int .i64 i, tv], .slice none 0 0] W (GatPost f i tr' W)) :
    Calls Tryz.prog 75 #[v, .agg #[.int .i64 0, .int .i64 src0, tv], .slice none 0 0] w (GatPost f i tr' w) := by
  obtain ⟨τ, pp, rfl⟩ := hu
  obtain ⟨b, rfl, hb⟩ := hM
  obtain ⟨ta, tn, tc, rfl⟩ := htv
  have c0 : w.cell? ⟨b, 0, none⟩ = some (.int .i64 i) := by rw [cell_of_heap hb]; rfl
  have c1 : w.cell? ⟨b, 1, none⟩ = some (.iface τ (.pointer pp)) := by rw [cell_of_heap hb]; rfl
  have hbl := lt_of_heap hb
  have hIE := ta_IE
  have hIU := ta_IU
  have hII := ta_II
  have HH := Lib.hid H
  have HS := Lib.hid hS
  clear hb hS H
  go_enter Tryz.func75, Tryz.ntmps75
  go_upto_region 18 with fail
  obtain ⟨W1, hW1⟩ : ∃ W, w.alloc (.cells #[.int .i64 0, .int .i64 src0, .slice ta tn tc] 167) = W := ⟨_, rfl⟩
  have hb1 : Below w.heap.size w W1 := by rw [← hW1]; exact (Below.refl _ _).alloc (Nat.le_refl _) _
  have hwy : W1.heap[w.heap.size]? = some (.cells #[.int .i64 0, .int .i64 src0, .slice ta tn tc] 167 (0, 0)) := by rw [← hW1]; exact heap_alloc_new _ _
  rw [hW1]
  have y0 : W1.cell? ⟨w.heap.size, 0, none⟩ = some (.int .i64 0) := by rw [cell_of_heap hwy]; rfl
  have y1 : W1.cell? ⟨w.heap.size, 1, none⟩ = some (.int .i64 src0) := by rw [cell_of_heap hwy]; rfl
  have y2 : W1.cell? ⟨w.heap.size, 2, none⟩ = some (.slice ta tn tc) := by rw [cell_of_heap hwy]; rfl
  have yf : ∀ i, W1.frozen? ⟨w.heap.size, i, none⟩ = false := fun i => free_of_heap hwy
  have d0 : W1.cell? ⟨b, 0, none⟩ = some (.int .i64 i) := (hb1.cell (p := ⟨b, 0, none⟩) hbl).trans c0
  have d1 : W1.cell? ⟨b, 1, none⟩ = some (.iface τ (.pointer pp)) := (hb1.cell (p := ⟨b, 1, none⟩) hbl).trans c1
  have hbl1 : b < W1.heap.size := Nat.lt_of_lt_of_le hbl hb1.size
  have hwl1 : w.heap.size < W1.heap.size := lt_of_heap hwy
  have HB1 := Lib.hid hb1
  have HWY := Lib.hid hwy
  clear hb1 hwy hW1 c0 c1
  go_wp2_with fail
  go_region
  all_goals
    go_upto_region 20 with fail
    obtain ⟨W3, hW3⟩ : ∃ W, ((W1.setCell ⟨w.heap.size, 0, none⟩ (.int .i64 1)).setCell ⟨w.heap.size, 1, none⟩ (.int .i64 i)).drew = W := ⟨_, rfl⟩
    have hb3 : Below w.heap.size w W3 := by rw [← hW3]; exact ((HB1.out.setCell (Nat.le_refl _) _).setCell (Nat.le_refl _) _).drew
    have hwy3 : W3.heap[w.heap.size]? = some (.cells #[.int .i64 1, .int .i64 i, .slice ta tn tc] 167 (0, 0)) := by
      rw [← hW3]
      show ((W1.setCell ⟨w.heap.size, 0, none⟩ (.int .i64 1)).setCell ⟨w.heap.size, 1, none⟩ (.int .i64 i)).heap[w.heap.size]? = _
      rw [setCell_heap' (setCell_heap' HWY.out _) _]; rfl
    have hd1 : W3.cell? ⟨b, 1, none⟩ = some (.iface τ (.pointer pp)) := by
      have : W3.heap[b]? = W1.heap[b]? := by
        rw [← hW3]
        show ((W1.setCell ⟨w.heap.size, 0, none⟩ (.int .i64 1)).setCell ⟨w.heap.size, 1, none⟩ (.int .i64 i)).heap[b]? = _
        rw [setCell_heap_ne' (by omega), setCell_heap_ne' (by omega)]
      unfold World.cell? at d1 ⊢
      rw [this]; exact d1
    rw [hW3]
    have z0 : W3.cell? ⟨w.heap.size, 0, none⟩ = some (.int .i64 1) := by rw [cell_of_heap hwy3]; rfl
    have z1 : W3.cell? ⟨w.heap.size, 1, none⟩ = some (.int .i64 i) := by rw [cell_of_heap hwy3]; rfl
    have z2 : W3.cell? ⟨w.heap.size, 2, none⟩ = some (.slice ta tn tc) := by rw [cell_of_heap hwy3]; rfl
    have HB3 := Lib.hid hb3
    have HC := Lib.hid (HH.out W3.drew hb3.drew (HS.out.below hb3.drew))
    clear hwy3 hb3 hW3 y0 y1 y2 yf d0 d1 hbl1 hwl1 HWY HB1
    go_region_with (first
      | (go_at_call 75; refine HC.out.mono ?_; rintro e w6 ⟨hb6, A, c, tv3, rfl, hA, hcl, hst⟩; have HB6 := Lib.hid hb6; have HCL6 := Lib.hid hcl; have HST6 := Lib.hid hst; clear hb6 hcl hst)
      | fail)
    all_goals
      go_wp2_with fail
      go_ret
      exact ⟨HB3.out.drew.trans (HB6.out.mono HB3.out.drew.size), A, c, tv3, rfl, hA, HCL6.out, HST6.out⟩
/-- The trail of a source's fault. -/
def trailF : Bool → List Stp
  | true => [([98, 111, 111, 107], 2), ([109, 97, 114, 107], 0)]
  | false => [([98, 111, 111, 107], 2)]
theorem StpAt.set {w w' : World} {v : Value} {l : List Stp} {s : Nat} {x : Int} (h : StpAt w v l) (hs : w.cell? ⟨s, 0, none⟩ = some (.int .i64 x)) (ho : ∀ k, k ≠ s → w'.heap[k]? = w.heap[k]?) (hz : w.heap.size ≤ w'.heap.size) : StpAt w' v l := by
  rcases h with h | ⟨g, c, h1, h2, h3, h4, h5⟩
  · exact .inl h
  · right
    have hne : g ≠ s := fun e => by
      subst e
      cases l with
      | nil => exact h2 rfl
      | cons a r =>
        have := h5 0 (.string ⟨a.1.toArray⟩) (by simp [stpsC, stpC])
        rw [hs] at this
        cases this
    refine ⟨g, c, h1, h2, h3, Nat.lt_of_lt_of_le h4 hz, fun j u hj => ?_⟩
    have := h5 j u hj
    unfold World.cell? at this ⊢
    rw [ho g hne]; exact this
/-- A fault as a value. -/
def fltVal (f : Flt) (i : Nat) (tv : Value) : Value := .agg #[.int .i64 f.code, .int .i64 i, .int .i64 f.line, .int .i64 f.col, .string ⟨f.word.toArray⟩, tv]
theorem gather_book (w : World) (v : Value) (i : Nat) (f : Flt) (m : Bool) (h : BookV w v i f m) :
    Calls Tryz.prog 75 #[v, .agg #[.int .i64 0, .int .i64 0, .slice none 0 0], .slice none 0 0] w (GatPost f i (trailF m) w) := by
  obtain ⟨u, u2, h1, h2, h3⟩ := h
  have hu : ∃ τ p, u = .iface τ (.pointer p) := by obtain ⟨b, hb, _⟩ := h2; exact ⟨_, _, hb⟩
  have hu2 := h3.form
  -- the source's mark, and what is within
  have key : ∀ (W : World) (tv : Value), Below w.heap.size w W → StpAt W tv [([98, 111, 111, 107], 2)] → Calls Tryz.prog 75 #[u, .agg #[.int .i64 0, .int .i64 0, tv], .slice none 0 0] W (GatPost f i (trailF m) W) := by
    intro W tv hW hS
    have htv : ∃ a n c, tv = .slice a n c := by
      obtain ⟨ao, n, c, e, _⟩ := hS.open_
      exact ⟨ao, n, c, e⟩
    refine gather_in u u2 i f 0 _ (trailF m) tv W (h2.new hW) hS hu2 htv ?_
    intro W2 hW2 hS2
    have hev := (h3.new hW).new hW2
    cases m with
    | false =>
      obtain ⟨g, rfl, hg⟩ := hev
      exact gather_error g f i _ tv W2 ⟨g, rfl, hg⟩ hS2 (by simp [trailF]) (by simp [trailF])
    | true =>
      obtain ⟨u3, hm3, hf3⟩ := hev
      refine gather_under u2 u3 [109, 97, 114, 107] 0 f 1 i i [([98, 111, 111, 107], 2)] (trailF true) tv W2 hm3 hS2 (by simp) (by obtain ⟨g, hg, _⟩ := hf3; exact ⟨_, _, hg⟩) ?_
      intro W3 tv3 hW3 hS3
      obtain ⟨g, rfl, hg⟩ := hf3.new hW3
      exact gather_error g f i _ tv3 W3 ⟨g, rfl, hg⟩ hS3 (by simp [trailF]) (by simp [trailF])
  exact gather_under v u [98, 111, 111, 107] 2 f 0 0 i [] (trailF m) (.slice none 0 0) w h1 (.inl ⟨rfl, rfl⟩) (by simp) hu (fun W tv hW hS => key W tv hW hS)
set_option maxHeartbeats 3200000 in
set_option maxRecDepth 100000 in
theorem all_any (w : World) (v : Value) (i : Nat) (f : Flt) (m : Bool) (h : BookV w v i f m) : Calls Tryz.prog 21 #[v] w (GatPost f i (trailF m) w) := by
  have HGA := Lib.hid (gather_book w v i f m h)
  obtain ⟨pb, rfl⟩ : ∃ pb, v = .iface 87 (.pointer (some ⟨pb, 0, none⟩)) := (by obtain ⟨u, u2, ⟨pb, h, _⟩, _⟩ := h; exact ⟨pb, h⟩)
  clear h
  go_enter Tryz.func21, Tryz.ntmps21
  go_wp2_with (first
    | (go_at_call 75; refine HGA.out.mono ?_; rintro e w6 ⟨hb6, A, c, tv3, rfl, hA, hcl, hst⟩; have HB6 := Lib.hid hb6; have HCL6 := Lib.hid hcl; have HST6 := Lib.hid hst; clear hb6 hcl hst)
    | fail)
  go_ret
  exact ⟨HB6.out, A, c, tv3, rfl, hA, HCL6.out, HST6.out⟩
/-- What is told of an error. -/
def ToldPost (f : Flt) (i : Nat) (m : Bool) (w : World) (e : Ending) (w' : World) : Prop := Below w.heap.size w w' ∧ ∃ tv, e = .returned (fltVal f i tv) ∧ StpAt w' tv (trailF m)
set_option maxHeartbeats 3200000 in
set_option maxRecDepth 100000 in
theorem told_any (w : World) (v : Value) (i : Nat) (f : Flt) (m : Bool) (h : BookV w v i f m) : Calls Tryz.prog 8 #[v] w (ToldPost f i m w) := by
  have hba := (Below.refl w.heap.size w).alloc (Nat.le_refl _) (.cells #[.int .i64 0, .int .i64 0, .int .i64 0, .int .i64 0, .string ⟨#[]⟩, .slice none 0 0] 39)
  have HAL := Lib.hid (all_any (w.alloc (.cells #[.int .i64 0, .int .i64 0, .int .i64 0, .int .i64 0, .string ⟨#[]⟩, .slice none 0 0] 39)) v i f m (h.new hba))
  have HBA := Lib.hid hba
  clear h hba
  go_enter Tryz.func8, Tryz.ntmps8
  go_wp2_with (first
    | (go_at_call 21
       refine HAL.out.mono ?_
       rintro e w6 ⟨hb6, A, c, tv, rfl, hA, hcl, hst⟩
       obtain ⟨ta, tn, tc, rfl⟩ : ∃ a n c, tv = .slice a n c := (by obtain ⟨ao, n, c, e, _⟩ := hst.open_; exact ⟨ao, n, c, e⟩)
       have hr6 : w6.heap[w.heap.size]? = some (.cells #[.int .i64 0, .int .i64 0, .int .i64 0, .int .i64 0, .string ⟨#[]⟩, .slice none 0 0] 39 (0, 0)) := (hb6.block _ (by simp)).trans (heap_alloc_new w _)
       have x0 : w6.cell? ⟨A, 0, none⟩ = some (.int .i64 f.code) := hcl 0 _ rfl
       have x1 : w6.cell? ⟨A, 1, none⟩ = some (.int .i64 i) := hcl 1 _ rfl
       have x2 : w6.cell? ⟨A, 2, none⟩ = some (.int .i64 f.line) := hcl 2 _ rfl
       have x3 : w6.cell? ⟨A, 3, none⟩ = some (.int .i64 f.col) := hcl 3 _ rfl
       have x4 : w6.cell? ⟨A, 4, none⟩ = some (.string ⟨f.word.toArray⟩) := hcl 4 _ rfl
       have x5 : w6.cell? ⟨A, 5, none⟩ = some (.slice ta tn tc) := hcl 5 _ rfl
       have y0 : w6.cell? ⟨w.heap.size, 0, none⟩ = some (.int .i64 0) := (by rw [cell_of_heap hr6]; rfl)
       have y1 : w6.cell? ⟨w.heap.size, 1, none⟩ = some (.int .i64 0) := (by rw [cell_of_heap hr6]; rfl)
       have y2 : w6.cell? ⟨w.heap.size, 2, none⟩ = some (.int .i64 0) := (by rw [cell_of_heap hr6]; rfl)
       have y3 : w6.cell? ⟨w.heap.size, 3, none⟩ = some (.int .i64 0) := (by rw [cell_of_heap hr6]; rfl)
       have y4 : w6.cell? ⟨w.heap.size, 4, none⟩ = some (.string ⟨#[]⟩) := (by rw [cell_of_heap hr6]; rfl)
       have y5 : w6.cell? ⟨w.heap.size, 5, none⟩ = some (.slice none 0 0) := (by rw [cell_of_heap hr6]; rfl)
       have yf : ∀ i, w6.frozen? ⟨w.heap.size, i, none⟩ = false := (fun i => free_of_heap hr6)
       have HB6 := Lib.hid hb6
       have HST6 := Lib.hid hst
       have HR6 := Lib.hid hr6
       clear hb6 hcl hst hr6)
    | fail)
  obtain ⟨W7, hW7⟩ : ∃ W, (((((w6.setCell ⟨w.heap.size, 0, none⟩ (.int .i64 f.code)).setCell ⟨w.heap.size, 1, none⟩ (.int .i64 i)).setCell ⟨w.heap.size, 2, none⟩ (.int .i64 f.line)).setCell ⟨w.heap.size, 3, none⟩ (.int .i64 f.col)).setCell ⟨w.heap.size, 4, none⟩ (.string ⟨f.word.toArray⟩)).setCell ⟨w.heap.size, 5, none⟩ (.slice ta tn tc) = W := ⟨_, rfl⟩
  have hold : ∀ k, k ≠ w.heap.size → W7.heap[k]? = w6.heap[k]? := fun k hk => by
    rw [← hW7, setCell_heap_ne' (Ne.symm hk), setCell_heap_ne' (Ne.symm hk), setCell_heap_ne' (Ne.symm hk), setCell_heap_ne' (Ne.symm hk), setCell_heap_ne' (Ne.symm hk), setCell_heap_ne' (Ne.symm hk)]
  have hnew : W7.heap[w.heap.size]? = some (.cells #[.int .i64 f.code, .int .i64 i, .int .i64 f.line, .int .i64 f.col, .string ⟨f.word.toArray⟩, .slice ta tn tc] 39 (0, 0)) := by
    rw [← hW7, setCell_heap' (setCell_heap' (setCell_heap' (setCell_heap' (setCell_heap' (setCell_heap' HR6.out _) _) _) _) _) _]; rfl
  have hb7 : Below w.heap.size w W7 := by
    rw [← hW7]
    exact ((((((HBA.out.trans (HB6.out.mono (by simp))).setCell (Nat.le_refl _) _).setCell (Nat.le_refl _) _).setCell (Nat.le_refl _) _).setCell (Nat.le_refl _) _).setCell (Nat.le_refl _) _).setCell (Nat.le_refl _) _
  have hz7 : w6.heap.size ≤ W7.heap.size := by rw [← hW7]; simp
  rw [hW7]
  refine ⟨rfl, fltVal f i (.slice ta tn tc), ?_, hb7, .slice ta tn tc, rfl, HST6.out.set y0 hold hz7⟩
  have q0 : W7.cell? ⟨w.heap.size, 0, none⟩ = some (.int .i64 f.code) := by rw [cell_of_heap hnew]; rfl
  have q1 : W7.cell? ⟨w.heap.size, 1, none⟩ = some (.int .i64 i) := by rw [cell_of_heap hnew]; rfl
  have q2 : W7.cell? ⟨w.heap.size, 2, none⟩ = some (.int .i64 f.line) := by rw [cell_of_heap hnew]; rfl
  have q3 : W7.cell? ⟨w.heap.size, 3, none⟩ = some (.int .i64 f.col) := by rw [cell_of_heap hnew]; rfl
  have q4 : W7.cell? ⟨w.heap.size, 4, none⟩ = some (.string ⟨f.word.toArray⟩) := by rw [cell_of_heap hnew]; rfl
  have q5 : W7.cell? ⟨w.heap.size, 5, none⟩ = some (.slice ta tn tc) := by rw [cell_of_heap hnew]; rfl
  simp [results, Tryz.results8, go_sem, q0, q1, q2, q3, q4, q5, fltVal]
theorem StpAt.cell {w : World} {v : Value} {l : List Stp} (h : StpAt w v l) (hne : l ≠ []) : ∃ g c, v = .slice (some ⟨g, 0, none⟩) l.length c ∧ g < w.heap.size ∧ ∀ k x, l[k]? = some x → w.cell? ⟨g, k * 2, none⟩ = some (.string ⟨x.1.toArray⟩) ∧ w.cell? ⟨g, k * 2 + 1, none⟩ = some (.int .i64 x.2) := by
  rcases h with ⟨h0, _⟩ | ⟨g, c, h1, h2, h3, h4, h5⟩
  · exact (hne h0).elim
  · refine ⟨g, c, h1, h4, fun k x hk => ⟨h5 _ _ ?_, h5 _ _ ?_⟩⟩
    · have := flat_at stpC 2 (fun _ => rfl) l k x hk 0 (by omega)
      simpa [stpsC, stpC] using this
    · have := flat_at stpC 2 (fun _ => rfl) l k x hk 1 (by omega)
      simpa [stpsC, stpC] using this
set_option maxHeartbeats 6400000 in
set_option maxRecDepth 100000 in
theorem same_any (f : Flt) (i : Nat) (tr : List Stp) (va vb : Value) (w : World) (ha : StpAt w va tr) (hb : StpAt w vb tr) (hne : tr ≠ []) (hlen : tr.length ≤ 10) :
    Calls Tryz.prog 9 #[fltVal f i va, fltVal f i vb] w fun e w' => e = .returned (.bool true) ∧ Below w.heap.size w w' := by
  obtain ⟨ga, ca, rfl, hga, hca⟩ := ha.cell hne
  obtain ⟨gb, cb, rfl, hgb, hcb⟩ := hb.cell hne
  have HA := Lib.hid hca
  have HB := Lib.hid hcb
  obtain ⟨n, hn⟩ : ∃ n, tr.length = n := ⟨_, rfl⟩
  have HN := Lib.hid hn
  rw [hn] at hlen ⊢
  unfold fltVal
  have e1 : (((f.code : Int)) != (f.code : Int)) = false := by simp
  have e2 : (((f.line : Int)) != (f.line : Int)) = false := by simp
  have e3 : (((f.col : Int)) != (f.col : Int)) = false := by simp
  have e4 : (((i : Int)) != (i : Int)) = false := by simp
  have e5 : (((n : Int)) != (n : Int)) = false := by simp
  have HBW : Hid (∀ o1 o2, Below w.heap.size w ((w.alloc o1).alloc o2)) := Lib.hid fun o1 o2 => ((Below.refl _ _).alloc (Nat.le_refl _) _).alloc (by simp) _
  clear hca hcb ha hb hn hne
  go_enter Tryz.func9, Tryz.ntmps9
  go_wp2
  obtain ⟨W2, hW2⟩ : ∃ W, (w.alloc (.cells #[.int .i64 f.code, .int .i64 i, .int .i64 f.line, .int .i64 f.col, .string ⟨f.word.toArray⟩, .slice (some ⟨ga, 0, none⟩) n ca] 39)).alloc (.cells #[.int .i64 f.code, .int .i64 i, .int .i64 f.line, .int .i64 f.col, .string ⟨f.word.toArray⟩, .slice (some ⟨gb, 0, none⟩) n cb] 39) = W := ⟨_, rfl⟩
  obtain ⟨t1, t2⟩ := two_blocks w (.cells #[.int .i64 f.code, .int .i64 i, .int .i64 f.line, .int .i64 f.col, .string ⟨f.word.toArray⟩, .slice (some ⟨ga, 0, none⟩) n ca] 39) (.cells #[.int .i64 f.code, .int .i64 i, .int .i64 f.line, .int .i64 f.col, .string ⟨f.word.toArray⟩, .slice (some ⟨gb, 0, none⟩) n cb] 39)
  have hb2 : Below w.heap.size w W2 := by rw [← hW2]; exact HBW.out _ _
  rw [hW2] at t1 t2 ⊢
  have ya : W2.cell? ⟨w.heap.size, 5, none⟩ = some (.slice (some ⟨ga, 0, none⟩) n ca) := by rw [cell_of_heap t1]; rfl
  have yb : W2.cell? ⟨w.heap.size + 1, 5, none⟩ = some (.slice (some ⟨gb, 0, none⟩) n cb) := by rw [cell_of_heap t2]; rfl
  have HB2 := Lib.hid hb2
  clear hb2 t1 t2 hW2 HBW e1 e2 e3 e4 e5
  go_loopw [51] (fun s51 wr => ∃ (k N : Nat), s51 = .int .i64 k ∧ k ≤ n ∧ wr = W2.drewN N) (fun s51 _ => n - (intOf s51).toNat)
  case atStart => exact ⟨0, 0, rfl, Nat.zero_le _, rfl⟩
  case round =>
    obtain ⟨k, N, rfl, hk, rfl⟩ := hrel
    by_cases hkn : k < n
    · have hkd : (k : Int) < (n : Int) := by omega
      obtain ⟨x, hx⟩ : ∃ x, tr[k]? = some x := ⟨_, List.getElem?_eq_getElem (by rw [HN.out]; exact hkn)⟩
      have xa : W2.cell? ⟨ga, k * 2, none⟩ = some (.string ⟨x.1.toArray⟩) := (HB2.out.cell (p := ⟨ga, k * 2, none⟩) hga).trans (HA.out k x hx).1
      have xa1 : W2.cell? ⟨ga, k * 2 + 1, none⟩ = some (.int .i64 x.2) := (HB2.out.cell (p := ⟨ga, k * 2 + 1, none⟩) hga).trans (HA.out k x hx).2
      have xb : W2.cell? ⟨gb, k * 2, none⟩ = some (.string ⟨x.1.toArray⟩) := (HB2.out.cell (p := ⟨gb, k * 2, none⟩) hgb).trans (HB.out k x hx).1
      have xb1 : W2.cell? ⟨gb, k * 2 + 1, none⟩ = some (.int .i64 x.2) := (HB2.out.cell (p := ⟨gb, k * 2 + 1, none⟩) hgb).trans (HB.out k x hx).2
      clear hx
      go_wp2_with fail
      go_quiet (fail)
      go_wp2_with fail
      go_roundw
      case rel => exact ⟨k + 1, _, by go_num, by omega, rfl⟩
      case measure => simp [intOf]; omega
    · have hke : k = n := by omega
      subst hke
      clear hkn
      go_wp2_with fail
      go_ret
      exact ⟨rfl, below_drewM HB2.out _⟩
end Go.Proofs.YtafhmagifoapfaaGreatDoor
