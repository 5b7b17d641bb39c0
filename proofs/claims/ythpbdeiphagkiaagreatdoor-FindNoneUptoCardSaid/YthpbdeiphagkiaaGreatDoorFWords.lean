/- find.Words: a new slice that owns the words. -/
import Derived.Test.YthpbdeiphagkiaaGreatDoorIter
import Derived.Maps.AppendAt
import Derived.Test.YthpbdeiphagkiaaGreatDoorMap
namespace Go.Proofs.YthpbdeiphagkiaaGreatDoor
open Go.RowKit Find
attribute [local go_sem] Oper.semAt_some

theorem info_str : (Tryz.prog.info? 9).map (fun i => (i.zero, i.size, i.bytes)) = some (some (.string ⟨#[]⟩), 1, 16) := by kernel_rfl

set_option maxHeartbeats 800000 in
theorem words_mk (s : ByteArray) (w : World) : CallsIn Fence.wide 4 Tryz.prog 34 #[.string s] w fun e w' => e = .returned (.func (.func 60) #[] #[.pointer (some ⟨w.heap.size, 0, none⟩)]) ∧ w' = w.alloc (.cells #[.string s] 9) := by
  refine callsIn_of_wp Tryz.func34 rfl trivial ?_ rfl
  simp only [Tryz.ntmps34, List.size_toArray, List.length_cons, List.length_nil, Nat.reduceAdd, Nat.reduceSub, Array.replicate_succ, Array.replicate_zero, List.push_toArray, List.append_toArray, List.nil_append, List.cons_append]
  gi_wp2
  go_ret
  exact ⟨rfl, rfl⟩

theorem words_stops (n : Nat) (hn : 1 ≤ n) (Bn : Nat) (s : ByteArray) (hs : s.size ≤ 1099511627776) (w : World) (hBn : Bn < w.heap.size) (hc : w.cell? ⟨Bn, 0, none⟩ = some (.string s)) (hT : Tabs w) :
    SeqE Fence.wide n Tryz.prog 60 #[.pointer (some ⟨Bn, 0, none⟩)] (fun x : Wd => #[st x]) okW KpW (fun ys => ys = words s.data.toList) (fun _ => True) (words s.data.toList).length w :=
  fun l J Jx W hW hJ hJx hY h0 => words1_in n hn l Bn s hs J Jx W hJ hJx hY ((hW.cell (p := ⟨Bn, 0, none⟩) hBn).trans hc) (hT.below hW) h0

/-- What the loop's variable is worth between two rounds. -/
def Coll (B : Nat) (w : World) (pre : List Wd) (W : World) : Prop := (∃ v, Boxed W B 35 v ∧ W.ownsRow B 9 1 v pre.length (pre.map st)) ∧ Below B w W

theorem coll_own (B B' : Nat) (w : World) (hB : B < B') (hw : B ≤ w.heap.size) : OwnE okW B' (fun pre W => Coll B w pre W) := by
  rintro pre A C F F' ⟨⟨v, hv, hr⟩, hb⟩ hev hF
  refine ⟨⟨v, ?_, hr.1, ?_⟩, ?_⟩
  · exact (hev.block B hv.lt (fun h => by have := (hF _ h).1; omega)).trans hv
  · rcases hr.2 with h0 | ⟨g, cap, cur, rfl, h1, h2, h3⟩
    · exact .inl h0
    · refine .inr ⟨g, cap, cur, rfl, h1, ?_, h3⟩
      rw [hev.block g (lt_of_heap h2) (fun h => by
        rcases (hF _ h).2 _ h2 with h | h
        · cases h
        · cases h.1)]
      exact h2
  · refine hb.trans ⟨hev.os, hev.tape, hev.output, hev.size, fun k hk => hev.block k (Nat.lt_of_lt_of_le hk (Nat.le_trans hw hb.size)) (fun h => by have := (hF _ h).1; omega)⟩

set_option maxRecDepth 100000 in
set_option maxHeartbeats 2000000 in
theorem words_any (s : ByteArray) (w : World) (hT : Tabs w) (hs : s.size ≤ 1099511627776) :
    Calls Tryz.prog 14 #[.string s] w fun e w' => ∃ v, e = .returned v ∧ w'.ownsRow w.heap.size 9 1 v (words s.data.toList).length ((words s.data.toList).map st) ∧ Below w.heap.size w w' := by
  obtain ⟨i0, hi, hz0, hz1, hz2⟩ := info_parts info_str
  refine (callsIn_wide (n := 5)).1 ?_
  refine callsIn_of_wp_marks Tryz.func14 rfl trivial ?_ rfl
  simp only [Tryz.ntmps14, List.size_toArray, List.length_cons, List.length_nil, Nat.reduceAdd, Nat.reduceSub, Array.replicate_succ, Array.replicate_zero, List.push_toArray, List.append_toArray, List.nil_append, List.cons_append]
  gi_wp2_with (refine ⟨trivial, ?_⟩; gi_at_call 34; refine (words_mk _ _).mono ?_; rintro e w' ⟨rfl, rfl⟩)
  have bO := Boxed.new w 35 (.slice none 0 0)
  have bN := Boxed.new (w.alloc (.cells #[.slice none 0 0] 35)) 9 (.string s)
  rw [World.size_alloc] at bN
  have hB0 : Below w.heap.size w ((w.alloc (.cells #[.slice none 0 0] 35)).alloc (.cells #[.string s] 9)) := ((Below.refl _ w).alloc (Nat.le_refl _) _).alloc (by simp) _
  have hwl := (words_len s.data.toList).1
  rw [← size_list] at hwl
  have h3 := hT.lt
  refine wpIn_rangeFunc_E rfl (by omega) (gf := 60) (lb := #[.pointer (some ⟨w.heap.size + 1, 0, none⟩)]) rfl trivial (enters_of Tryz.func60 (by kernel_rfl) rfl)
    (words_stops 4 (by omega) (w.heap.size + 1) s hs _ (by simp) bN.cell (hT.below hB0)) KpW.t ?kb (Below.refl _ _) (fun _ => rfl)
    (fun pre W => Coll w.heap.size w pre W)
    (fun _ _ _ => False)
    (coll_own _ _ w (by simp; omega) (Nat.le_refl _))
    (fun _ _ _ _ _ _ hs _ _ => hs)
    ⟨⟨_, bO.alloc _, World.ownsRow_nil _ _ _ _⟩, hB0⟩
    (fun x => { tmps := #[.string s, undef, .slice none 0 0, .pointer (some ⟨w.heap.size, 0, none⟩), st x, .string s, .func (.func 60) #[] #[.pointer (some ⟨w.heap.size + 1, 0, none⟩)], st x, undef, undef, undef, undef, undef], defers := [] }) ?assign ?body ?done ?stop
  case kb =>
    intro W l o o' hl ho hc hw
    refine ⟨by simp [World.putObj], fun k q hk hq => ?_, fun ht => ht.ev (ev_putObj W l o') (by simp at hl; omega) (by simp at hl; omega)⟩
    rw [World.putObj_heap_other (fun e => by
      subst e
      rw [ho] at hk; cases hk
      unfold okW at hq
      rw [hw] at hq
      cases o <;> simp_all [Obj.isCells])]
    exact hk
  case assign =>
    intro l x W K hK
    gi_wp2
    exact hK
  case body =>
    rintro l pre x W ⟨⟨v, hv, hrow⟩, hB⟩ hlt
    have hc := hv.cell
    have HEV := Lib.hid (show ∀ (w1 : World) (v' : Value) (tmp : Obj), (W.alloc tmp).grownBy w1 v.ownBlock → KpW W (w1.setCell ⟨w.heap.size, 0, none⟩ v') from fun w1 v' tmp hg => by
      have hev : Ev (fun k => k = w.heap.size ∨ v.ownBlock = some k) W (fun k => k = w.heap.size ∨ v.ownBlock = some k) (w1.setCell ⟨w.heap.size, 0, none⟩ v') :=
        (((Ev.refl _ W).alloc tmp).grown hg (fun k hk => .inl (.inr hk))).setCell (p := ⟨w.heap.size, 0, none⟩) (.inl (.inl rfl)) v'
      have hkind : ∀ k o, (k = w.heap.size ∨ v.ownBlock = some k) → W.heap[k]? = some o → okW o = false := by
        rintro k o (rfl | hk) ho
        · rw [show W.heap[w.heap.size]? = _ from hv] at ho; cases ho; rfl
        · rcases hrow.2 with ⟨rfl, _⟩ | ⟨g, cap, cur, rfl, _, h2, _⟩
          · cases hk
          · simp [Value.ownBlock] at hk; subst hk
            rw [h2] at ho; cases ho; rfl
      have hge : ∀ k, (k = w.heap.size ∨ v.ownBlock = some k) → w.heap.size ≤ k := by
        rintro k (rfl | hk)
        · exact Nat.le_refl _
        · exact (hrow.lt k hk).1
      exact ⟨hev.size, fun k o ho hk => by
        rw [hev.block k (lt_of_heap ho) (fun h => by rw [hkind k o h ho] at hk; cases hk)]; exact ho,
        fun ht => ht.ev hev (fun h => by have := hge _ h; omega) (fun h => by have := hge _ h; omega)⟩)
    gi_wp2_with (gi_at_builtin; refine wpListIn_append_own _ rfl _ _ 35 rfl w.heap.size 9 i0 (.string ⟨#[]⟩) 1 16 Tryz.underlying35 hi hz0 hz1 hz2 rfl (by decide) _ _ _ rfl (hrow.alloc _) ⟨W.heap.size, 0, none⟩ 1 1 [st x] rfl rfl (cell_one_new _ _ _) (by simp [Value.oneCell']) (by unfold maxLen; omega) (by omega) (by have := hB.size; simp; omega) ?_; intro v' w1 hown' hgrow _; obtain ⟨g', cap', rfl⟩ := ownsRow_succ hown'; obtain ⟨hv1, hv2, hr2, hk2, hb2⟩ := hv.appended (by decide) hrow hB.size (Nat.le_refl _) hown' hgrow; have hc1 := hv1.cell; have hf1 := hv1.frozen)
    exact ⟨hk2, HEV.out _ _ _ hgrow, ⟨_, hv2, by simpa using hr2⟩, hB.trans hb2⟩
  case done =>
    rintro D ys W hD rfl ⟨⟨v, hv, hrow⟩, hB⟩ hK
    have hc := hv.cell
    gi_wp2
    refine ⟨by simp, .inl ⟨_, _, rfl, run_takeDeferred hK, ?_⟩⟩
    exact ⟨_, results_tmp rfl _ _ _, v, rfl, ownsRow_putObj hrow _ hK rfl, hB.trans (belowK_b (w := w) (Nat.le_refl _) W D _ _ (by simp at hD; omega) hK rfl rfl)⟩
  case stop =>
    rintro D c pre W _ _ h _
    exact h.elim
end Go.Proofs.YthpbdeiphagkiaaGreatDoor
