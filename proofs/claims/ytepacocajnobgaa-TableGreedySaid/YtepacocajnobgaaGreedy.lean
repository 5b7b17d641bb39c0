/- TableGreedy: no other way to part words into lines has fewer; no line could take the first word of the next one: the walk. -/
import Derived.Test.YtepacocajnobgaaOpen
import Derived.Test.YtepacocajnobgaaColumns
import Derived.Test.YtepacocajnobgaaParts
namespace Go.Proofs.Ytepacocajnobgaa
open Go.ChangeShapes Go.WideShapes Go.ChangeAt Go.RowKit

theorem owns_apart {w : World} {A A' : Nat} {e e' : TypeId} {s s' n n' : Nat} {v v' : Value} {xs xs' : List Value} (hne : e ≠ e') (h : w.ownsRow A e s v n xs) (h' : w.ownsRow A' e' s' v' n' xs') : ∀ b, v.ownBlock = some b → v'.ownBlock ≠ some b := by
  intro b hb hb'
  rcases h.2 with ⟨rfl, _⟩ | ⟨g1, c1, cur1, rfl, _, hg1, _⟩
  · simp [Value.ownBlock] at hb
  · rcases h'.2 with ⟨rfl, _⟩ | ⟨g2, c2, cur2, rfl, _, hg2, _⟩
    · simp [Value.ownBlock] at hb'
    · simp [Value.ownBlock] at hb hb'
      subst hb hb'
      rw [hg1] at hg2
      injection hg2 with hg2
      injection hg2 with _ h3
      exact hne h3
theorem flowU_app (ns : List Nat) (n i : Nat) (h : i ≤ ns.length) : flowU (ns ++ [n]) i = flowU ns i := by
  induction i with
  | zero => rfl
  | succ i ih =>
    simp only [flowU]
    rw [ih (by omega), gD_left _ _ _ _ (by omega)]
theorem flowU_next (ns : List Nat) (n : Nat) : flowU (ns ++ [n]) (ns.length + 1) = (if 0 < ns.length then flowU ns ns.length ++ [sG] else flowU ns ns.length) ++ List.replicate n aG := by
  simp only [flowU]
  rw [flowU_app ns n ns.length (Nat.le_refl _), gD_right _ _ _ _ (Nat.le_refl _), Nat.sub_self]
  rfl
theorem flowU_check (ns : List Nat) (k : Nat) : checkOf (flowU ns k) = 0 := by
  refine checkOf_good _ ?_
  induction k with
  | zero => rfl
  | succ k ih =>
    have ha : aG.bad = false := by kernel_rfl
    have hs : sG.bad = false := by kernel_rfl
    have hr : (List.replicate (ns.getD k 0) aG).any Gl.bad = false := by
      rw [List.any_eq_false]; intro g hg; rw [List.eq_of_mem_replicate hg, ha]; simp
    simp only [flowU]
    split
    · rw [List.any_append, List.any_append, ih, hr]; simp [hs]
    · rw [List.any_append, ih, hr]; rfl
theorem flowU_len (ns : List Nat) (h : ∀ i, i < ns.length → ns.getD i 0 ≤ 200) (k : Nat) (hk : k ≤ ns.length) : (flowU ns k).length ≤ k * 201 := by
  induction k with
  | zero => simp [flowU]
  | succ k ih =>
    have h1 := ih (by omega)
    have h2 := h k (by omega)
    simp only [flowU]
    split
    · simp only [List.length_append, List.length_replicate, List.length_cons, List.length_nil]; omega
    · simp only [List.length_append, List.length_replicate]; omega

theorem glCells_single (g : Gl) : glCells [g] = g.cells := by simp [glCells]
theorem long_word (z : Int) (W : Nat) (h1 : 1 ≤ (W : Int)) (h2 : (W : Int) ≤ 200) : ∃ n : Nat, wrap64 (1 + wrap64 ((IntKind.u64.wrap z).tmod W)) = (n : Int) ∧ 0 < n ∧ n ≤ W := by
  have hu : 0 ≤ IntKind.u64.wrap z := by simp only [IntKind.wrap_u64]; omega
  have h3 : (IntKind.u64.wrap z).tmod W = IntKind.u64.wrap z % W := Int.tmod_eq_emod_of_nonneg hu
  have h4 := Int.emod_nonneg (IntKind.u64.wrap z) (b := (W : Int)) (by omega)
  have h5 := Int.emod_lt_of_pos (IntKind.u64.wrap z) (b := (W : Int)) (by omega)
  have h6 : wrap64 (IntKind.u64.wrap z % W) = IntKind.u64.wrap z % W := IntWalk.wrap64_in _ (by omega)
  rw [h3, h6, IntWalk.wrap64_in _ (by omega)]
  exact ⟨(1 + IntKind.u64.wrap z % W).toNat, by omega, by omega, by omega⟩

set_option maxRecDepth 100000 in
set_option maxHeartbeats 16000000 in
theorem greedy_walk (v : Value) (ws : List Int) (wide : Int) (u : Value) (es : List Int) (w : World) (hv : IntSl w v ws) (_ : NilOk v) (hl : ws.length ≤ 17592186043904) (hz : ∀ z ∈ ws, -9223372036854775808 ≤ z ∧ z ≤ 9223372036854775807) (hwb : -9223372036854775808 ≤ wide ∧ wide ≤ 9223372036854775807)
    (hu : IntSl w u es) (_ : NilOk u) (hel : es.length ≤ 17592186043904) (_ : ∀ z ∈ es, -9223372036854775808 ≤ z ∧ z ≤ 9223372036854775807) :
    Calls Try.prog 8 #[v, .int .i64 wide, u] w fun e w' => e = .returned (.bool true) ∧ Below w.heap.size w w' := by
  have Hu := Lib.hid hu
  obtain ⟨a, c, rfl, hat⟩ := hv
  have Hat := Lib.hid hat
  have Hz := Lib.hid (show ∀ k, k < ws.length → -9223372036854775808 ≤ ws.getD k 0 ∧ ws.getD k 0 ≤ 9223372036854775807 from fun k hk => by
    rw [List.getD_eq_getElem?_getD, List.getElem?_eq_getElem hk]; exact hz _ (List.getElem_mem hk))
  clear hat hz hu
  by_cases hr : wide < 1 ∨ 200 < wide
  · have hfo : fillOf [] wide = ([], 1) := by unfold fillOf; rw [if_pos hr]
    have Hfo := Lib.hid hfo
    clear hfo
    have Hgl := Lib.hid (show ∀ w : World, GlSl w (.slice none 0 0) [] from fun w => .inl ⟨⟨none, 0, rfl, fun _ => rfl⟩, rfl⟩)
    by_cases h1 : wide < 1
    all_goals
      first | (have h2 : 200 < wide := by omega) | skip
      clear hr
      go_enter Try.func8, Try.ntmps8
      go_wp2_with fail
      refine (awake_any _).mono ?_
      rintro e w0 ⟨rfl, hb0⟩
      have Hb0 := Lib.hid hb0
      clear hb0
      go_wp2_with fail
      refine (fill_any _ [] wide _ (Hgl.out _) (by simp)).mono ?_
      rw [Hfo.out]
      rintro e w1 ⟨v1, rfl, _, hb1⟩
      have Hb1 := Lib.hid (Hb0.out.trans (hb1.mono Hb0.out.size))
      clear hb1
      go_wp2
      go_ret
      exact ⟨rfl, Hb1.out⟩
  · have hw1 : 1 ≤ wide := by omega
    have hw2 : wide ≤ 200 := by omega
    clear hr hwb
    obtain ⟨W, rfl⟩ := Int.eq_ofNat_of_zero_le (show 0 ≤ wide by omega)
    obtain ⟨i0, hi0, hz0, hz1, hz2⟩ := info_parts info3
    obtain ⟨j0, hj0, jz0, jz1, jz2⟩ := info_parts info49
    go_enter Try.func8, Try.ntmps8
    go_wp2_with fail
    refine (awake_any _).mono ?_
    rintro e w0 ⟨rfl, hb0⟩
    have Hb0 := Lib.hid hb0
    have hw0 : w.heap.size ≤ w0.heap.size := hb0.size
    clear hb0
    go_wp2_with fail
    go_loopw [9, 10, 11] (fun lo fl i wr => ∃ (k : Nat) (ns : List Nat), ns.length = k ∧ k ≤ ws.length ∧ k ≤ 300 ∧ i = .int .i64 k ∧ (∀ j, j < ns.length → 0 < ns.getD j 0 ∧ ns.getD j 0 ≤ W) ∧
        (∃ la lc, lo = .slice la k lc ∧ wr.ownsRow w0.heap.size 3 1 (.slice la k lc) k ((ns.map fun (n : Nat) => (n : Int)).map (Value.int .i64))) ∧
        (∃ fa fc, fl = .slice fa (flowU ns k).length fc ∧ wr.ownsRow w0.heap.size 49 5 (.slice fa (flowU ns k).length fc) (flowU ns k).length (glCells (flowU ns k))) ∧ Below w0.heap.size w0 wr) (fun _ _ i _ => 300 - (intOf i).toNat)
    case atStart => exact ⟨0, [], rfl, Nat.zero_le _, Nat.zero_le _, rfl, by simp, ⟨none, 0, rfl, World.ownsRow_nil _ _ _ _⟩, ⟨none, 0, rfl, World.ownsRow_nil _ _ _ _⟩, Below.refl _ _⟩
    case round =>
      obtain ⟨k, ns, hnl, hk, hk3, rfl, hp, ⟨la, lc, rfl, hlo⟩, ⟨fa, fc, rfl, hfo⟩, hbel⟩ := hrel
      have Hlo := Lib.hid hlo
      have Hfo := Lib.hid hfo
      have Hbel := Lib.hid hbel
      have Hp := Lib.hid hp
      have Hnl := Lib.hid hnl
      have hwr : w0.heap.size ≤ wr.heap.size := hbel.size
      have hfl := flowU_len ns (fun i hi => by have := (hp i hi).2; omega) k (by omega)
      have Hne := Lib.hid (owns_apart (show (3 : Nat) ≠ 49 by decide) hlo hfo)
      clear hlo hfo hbel hp hnl
      by_cases hlt : k < ws.length ∧ k < 300
      · obtain ⟨hlt, hlt3⟩ := hlt
        obtain ⟨b, off, ha, hia⟩ := Hat.out k hlt
        subst ha
        have hbw := hia.lt (by omega)
        have c0 : wr.cell? ⟨b, off + k, none⟩ = some (.int .i64 (ws.getD k 0)) := by
          rw [Hbel.out.cell (p := ⟨b, off + k, none⟩) (by show b < _; omega), Hb0.out.cell (p := ⟨b, off + k, none⟩) hbw]; exact hia k hlt
        have hzz := Hz.out k hlt
        clear hia
        generalize ws.getD k 0 = z at *
        obtain ⟨z1, z2⟩ := hzz
        obtain ⟨n, hnE, hn0, hnW⟩ := long_word z W hw1 hw2
        by_cases hk0 : 0 < k
        · go_wp2_with (first | (at_builtin; refine wpList_append_lies _ rfl (.tmp 55) (.tmp 57) 33 rfl w0.heap.size 3 i0 _ 1 8 Try.underlying33 hi0 hz0 hz1 hz2 rfl (by omega) (.slice la k lc) k ((ns.map fun (n : Nat) => (n : Int)).map (Value.int .i64)) rfl (Hlo.out.alloc _) ⟨wr.heap.size, 0, none⟩ 1 1 [.int .i64 (n : Int)] rfl rfl (World.news_of_block (cs := #[.int .i64 (n : Int)]) (t := 3) (fr := (0, 0)) (heap_alloc_new wr _)) (by simp [Value.oneCell']) (by omega) (by unfold maxLen; omega) (by omega) (by simp; omega) (wr.heap.size + 1) (by simp) ?_; intro gg1 cap1 w5 hown5 hgrow5 hat5 hlt5; have Hb5 := Lib.hid ((Hbel.out.alloc hwr _).grown hgrow5 (by simp; omega) fun m hm => (Hlo.out.lt m hm).1); have Hfo5 := Lib.hid (bget_block Hfo.out fun b hb => (hgrow5.block b (by have := (Hfo.out.lt b hb).2; simp; omega) (fun e => Hne.out b e.symm hb)).trans (Below.heap_alloc _ _ _ (Hfo.out.lt b hb).2)); have Ho5 := Lib.hid hown5; have hw5 : w0.heap.size ≤ w5.heap.size := Hb5.out.size; clear hgrow5 hown5) | (at_builtin; refine wpList_append_lies _ rfl (.tmp 61) (.tmp 63) 22 rfl w0.heap.size 49 j0 _ 5 48 Try.underlying22 hj0 jz0 jz1 jz2 rfl (by omega) (.slice fa (flowU ns k).length fc) (flowU ns k).length (glCells (flowU ns k)) rfl (Hfo5.out.alloc _) ⟨w5.heap.size, 0, none⟩ 1 1 sG.cells rfl rfl (World.news_of_block (cs := sG.cells.toArray) (t := 49) (fr := (0, 0)) (heap_alloc_new w5 _)) (by simp [Value.oneCell', Gl.cells]) (by omega) (by unfold maxLen; omega) (by omega) (by simp; omega) (w5.heap.size + 1) (by simp) ?_; intro gg2 cap2 w6 hown6 hgrow6 hat6 hlt6; have Hb6 := Lib.hid ((Hb5.out.alloc hw5 _).grown hgrow6 (by simp; omega) fun m hm => (Hfo5.out.lt m hm).1); have Hlo6 := Lib.hid (bget_block Ho5.out fun b hb => (hgrow6.block b (by have := (Ho5.out.lt b hb).2; simp; omega) (fun e => owns_apart (show (3 : Nat) ≠ 49 by decide) Ho5.out Hfo5.out b hb e.symm)).trans (Below.heap_alloc _ _ _ (Ho5.out.lt b hb).2)); have Ho6 := Lib.hid hown6; have hw6 : w0.heap.size ≤ w6.heap.size := Hb6.out.size; clear hgrow6 hown6))
          clear hnE c0
          obtain ⟨wo, rfl⟩ : ∃ wo : World, wo = w6 := ⟨_, rfl⟩
          go_loopw [10, 13] (fun fl j wj => ∃ j' : Nat, j' ≤ n ∧ j = .int .i64 j' ∧ (∃ xa xc, fl = .slice xa (((flowU ns k).length + 1) + j') xc ∧ wj.ownsRow w0.heap.size 49 5 (.slice xa (((flowU ns k).length + 1) + j') xc) (((flowU ns k).length + 1) + j') (glCells ((flowU ns k ++ [sG]) ++ List.replicate j' aG))) ∧
              wj.ownsRow w0.heap.size 3 1 (.slice (some ⟨gg1, 0, none⟩) (k + 1) cap1) (k + 1) ((ns.map fun (n : Nat) => (n : Int)).map (Value.int .i64) ++ [.int .i64 (n : Int)]) ∧ Below w0.heap.size w0 wj) (fun _ j _ => n - (intOf j).toNat)
          case atStart => exact ⟨0, Nat.zero_le _, rfl, ⟨some ⟨gg2, 0, none⟩, cap2, rfl, by simpa [glCells_append, glCells_single] using Ho6.out⟩, Hlo6.out, Hb6.out⟩
          case round =>
            obtain ⟨j, hj, rfl, ⟨xa, xc, rfl, hfo⟩, hlo, hbj⟩ := hrel
            have Hfj := Lib.hid hfo
            have Hlj := Lib.hid hlo
            have Hbj := Lib.hid hbj
            have hwj : w0.heap.size ≤ wr.heap.size := hbj.size
            clear hfo hlo hbj
            by_cases hjn : j < n
            · go_wp2_with (at_builtin; go_loud (refine wpList_append_lies _ rfl (.tmp 70) (.tmp 72) 22 rfl w0.heap.size 49 j0 _ 5 48 Try.underlying22 hj0 jz0 jz1 jz2 rfl (by omega) (.slice xa (((flowU ns k).length + 1) + j) xc) (((flowU ns k).length + 1) + j) (glCells ((flowU ns k ++ [sG]) ++ List.replicate j aG)) rfl (Hfj.out.alloc _) ⟨wr.heap.size, 0, none⟩ 1 1 aG.cells rfl rfl (World.news_of_block (cs := aG.cells.toArray) (t := 49) (fr := (0, 0)) (heap_alloc_new wr _)) (by simp [Value.oneCell', Gl.cells]) (by omega) (by unfold maxLen; omega) (by omega) (by simp; omega) (wr.heap.size + 1) (by simp) ?_); intro gg3 cap3 w8 hown8 hgrow8 hat8 hlt8)
              have Hb8 := Lib.hid ((Hbj.out.alloc hwj _).grown hgrow8 (by simp; omega) fun m hm => (Hfj.out.lt m hm).1)
              have Hl8 := Lib.hid (bget_block Hlj.out fun b hb => (hgrow8.block b (by have := (Hlj.out.lt b hb).2; simp; omega) (fun e => owns_apart (show (3 : Nat) ≠ 49 by decide) Hlj.out Hfj.out b hb e.symm)).trans (Below.heap_alloc _ _ _ (Hlj.out.lt b hb).2))
              have Ho8 := Lib.hid hown8
              clear hgrow8 hown8
              go_roundw
              case rel =>
                refine ⟨j + 1, by omega, by go_num, ⟨some ⟨gg3, 0, none⟩, cap3, rfl, ?_⟩, Hl8.out, Hb8.out⟩
                rw [List.replicate_succ', ← List.append_assoc, glCells_append, show glCells [aG] = aG.cells by simp [glCells]]
                exact Ho8.out
              case measure => simp [intOf]; omega
            · obtain rfl : j = n := by omega
              go_wp2_with fail
              go_roundw
              case rel =>
                have hx : flowU (ns ++ [j]) (k + 1) = (flowU ns k ++ [sG]) ++ List.replicate j aG := by
                  have h1 := flowU_next ns j
                  rw [Hnl.out] at h1
                  rw [h1, if_pos hk0]
                have hxl : (flowU (ns ++ [j]) (k + 1)).length = ((flowU ns k).length + 1) + j := by rw [hx, List.length_append, List.length_replicate]; try rw [List.length_append]; try rfl
                refine ⟨k + 1, ns ++ [j], by simp [Hnl.out], by omega, by omega, by go_num, fun i hi => ?_, ⟨some ⟨gg1, 0, none⟩, cap1, rfl, by simpa using Hlj.out⟩, ⟨xa, xc, by rw [hxl], by rw [hxl, hx]; exact Hfj.out⟩, Hbj.out⟩
                simp only [List.length_append, List.length_cons, List.length_nil] at hi
                by_cases hi2 : i < ns.length
                · rw [gD_left _ _ _ _ hi2]; exact Hp.out i hi2
                · rw [gD_right _ _ _ _ (by omega), show i - ns.length = 0 by omega]
                  show 0 < j ∧ j ≤ W
                  omega
              case measure => simp [intOf]; omega
        · go_wp2_with (first | (at_builtin; refine wpList_append_lies _ rfl (.tmp 55) (.tmp 57) 33 rfl w0.heap.size 3 i0 _ 1 8 Try.underlying33 hi0 hz0 hz1 hz2 rfl (by omega) (.slice la k lc) k ((ns.map fun (n : Nat) => (n : Int)).map (Value.int .i64)) rfl (Hlo.out.alloc _) ⟨wr.heap.size, 0, none⟩ 1 1 [.int .i64 (n : Int)] rfl rfl (World.news_of_block (cs := #[.int .i64 (n : Int)]) (t := 3) (fr := (0, 0)) (heap_alloc_new wr _)) (by simp [Value.oneCell']) (by omega) (by unfold maxLen; omega) (by omega) (by simp; omega) (wr.heap.size + 1) (by simp) ?_; intro gg1 cap1 w5 hown5 hgrow5 hat5 hlt5; have Hb5 := Lib.hid ((Hbel.out.alloc hwr _).grown hgrow5 (by simp; omega) fun m hm => (Hlo.out.lt m hm).1); have Hfo5 := Lib.hid (bget_block Hfo.out fun b hb => (hgrow5.block b (by have := (Hfo.out.lt b hb).2; simp; omega) (fun e => Hne.out b e.symm hb)).trans (Below.heap_alloc _ _ _ (Hfo.out.lt b hb).2)); have Ho5 := Lib.hid hown5; have hw5 : w0.heap.size ≤ w5.heap.size := Hb5.out.size; clear hgrow5 hown5))
          clear hnE c0
          obtain ⟨wo, rfl⟩ : ∃ wo : World, wo = w5 := ⟨_, rfl⟩
          go_loopw [10, 13] (fun fl j wj => ∃ j' : Nat, j' ≤ n ∧ j = .int .i64 j' ∧ (∃ xa xc, fl = .slice xa ((flowU ns k).length + j') xc ∧ wj.ownsRow w0.heap.size 49 5 (.slice xa ((flowU ns k).length + j') xc) ((flowU ns k).length + j') (glCells ((flowU ns k) ++ List.replicate j' aG))) ∧
              wj.ownsRow w0.heap.size 3 1 (.slice (some ⟨gg1, 0, none⟩) (k + 1) cap1) (k + 1) ((ns.map fun (n : Nat) => (n : Int)).map (Value.int .i64) ++ [.int .i64 (n : Int)]) ∧ Below w0.heap.size w0 wj) (fun _ j _ => n - (intOf j).toNat)
          case atStart => exact ⟨0, Nat.zero_le _, rfl, ⟨fa, fc, rfl, by simpa [glCells_append, glCells_single] using Hfo5.out⟩, Ho5.out, Hb5.out⟩
          case round =>
            obtain ⟨j, hj, rfl, ⟨xa, xc, rfl, hfo⟩, hlo, hbj⟩ := hrel
            have Hfj := Lib.hid hfo
            have Hlj := Lib.hid hlo
            have Hbj := Lib.hid hbj
            have hwj : w0.heap.size ≤ wr.heap.size := hbj.size
            clear hfo hlo hbj
            by_cases hjn : j < n
            · go_wp2_with (at_builtin; go_loud (refine wpList_append_lies _ rfl (.tmp 70) (.tmp 72) 22 rfl w0.heap.size 49 j0 _ 5 48 Try.underlying22 hj0 jz0 jz1 jz2 rfl (by omega) (.slice xa ((flowU ns k).length + j) xc) ((flowU ns k).length + j) (glCells ((flowU ns k) ++ List.replicate j aG)) rfl (Hfj.out.alloc _) ⟨wr.heap.size, 0, none⟩ 1 1 aG.cells rfl rfl (World.news_of_block (cs := aG.cells.toArray) (t := 49) (fr := (0, 0)) (heap_alloc_new wr _)) (by simp [Value.oneCell', Gl.cells]) (by omega) (by unfold maxLen; omega) (by omega) (by simp; omega) (wr.heap.size + 1) (by simp) ?_); intro gg3 cap3 w8 hown8 hgrow8 hat8 hlt8)
              have Hb8 := Lib.hid ((Hbj.out.alloc hwj _).grown hgrow8 (by simp; omega) fun m hm => (Hfj.out.lt m hm).1)
              have Hl8 := Lib.hid (bget_block Hlj.out fun b hb => (hgrow8.block b (by have := (Hlj.out.lt b hb).2; simp; omega) (fun e => owns_apart (show (3 : Nat) ≠ 49 by decide) Hlj.out Hfj.out b hb e.symm)).trans (Below.heap_alloc _ _ _ (Hlj.out.lt b hb).2))
              have Ho8 := Lib.hid hown8
              clear hgrow8 hown8
              go_roundw
              case rel =>
                refine ⟨j + 1, by omega, by go_num, ⟨some ⟨gg3, 0, none⟩, cap3, rfl, ?_⟩, Hl8.out, Hb8.out⟩
                rw [List.replicate_succ', ← List.append_assoc, glCells_append, show glCells [aG] = aG.cells by simp [glCells]]
                exact Ho8.out
              case measure => simp [intOf]; omega
            · obtain rfl : j = n := by omega
              go_wp2_with fail
              go_roundw
              case rel =>
                have hx : flowU (ns ++ [j]) (k + 1) = (flowU ns k) ++ List.replicate j aG := by
                  have h1 := flowU_next ns j
                  rw [Hnl.out] at h1
                  rw [h1, if_neg hk0]
                have hxl : (flowU (ns ++ [j]) (k + 1)).length = (flowU ns k).length + j := by rw [hx, List.length_append, List.length_replicate]; try rw [List.length_append]; try rfl
                refine ⟨k + 1, ns ++ [j], by simp [Hnl.out], by omega, by omega, by go_num, fun i hi => ?_, ⟨some ⟨gg1, 0, none⟩, cap1, rfl, by simpa using Hlj.out⟩, ⟨xa, xc, by rw [hxl], by rw [hxl, hx]; exact Hfj.out⟩, Hbj.out⟩
                simp only [List.length_append, List.length_cons, List.length_nil] at hi
                by_cases hi2 : i < ns.length
                · rw [gD_left _ _ _ _ hi2]; exact Hp.out i hi2
                · rw [gD_right _ _ _ _ (by omega), show i - ns.length = 0 by omega]
                  show 0 < j ∧ j ≤ W
                  omega
              case measure => simp [intOf]; omega
      · have HW := Lib.hid (show (∀ i, i < ns.length → 0 < ns.getD i 0) from fun i hi => (Hp.out i hi).1)
        have hfill := fill_words (wide := W) (by omega) (by omega) (fun i hi => Hp.out i hi)
        have hck : checkOf (flowU ns ns.length) = 0 := flowU_check ns ns.length
        have Hfill := Lib.hid (show fillOf (flowU ns k) W = ((groups W ns).map rl, 0) by
          rw [← Hnl.out]
          unfold fillOf
          rw [if_neg (by omega), if_neg (by rw [hck]; simp), hfill])
        have Hleast := Lib.hid (fun L g h => groups_least (wide := W) (es := es) HW.out L g h)
        have hadj := groups_adj (wide := W) HW.out
        have Hadj := Lib.hid hadj.1
        have Hpos := Lib.hid hadj.2
        have Hgl := Lib.hid (fillOf_len (flowU ns k) W (by omega))
        have hgn := (fillOf_fits (flowU ns k) W (by omega)).2
        rw [Hfill.out] at hgn
        simp only [List.length_map] at hgn
        clear hfill hck hadj
        obtain rfl : ns.length = k := Hnl.out
        obtain ⟨GS, hGS⟩ : ∃ GS, GS = groups W ns := ⟨_, rfl⟩
        rw [← hGS] at Hfill Hleast Hadj Hpos hgn
        clear hGS
        have hex : ns.length < ws.length → ¬ ns.length < 300 := fun h1 h2 => hlt ⟨h1, h2⟩
        have Hex := Lib.hid hex
        clear hlt hex
        have Hi := Lib.hid (show IntSl wr (.slice la ns.length lc) (ns.map fun (n : Nat) => (n : Int)) from by
          have := intSl_of_owns (zs := ns.map fun (n : Nat) => (n : Int)) (by rw [List.length_map]; exact Hlo.out)
          exact this)
        have Hu2 := Lib.hid (Hu.out.new (Hb0.out.trans (Hbel.out.mono hw0)))
        by_cases hlw : ns.length < ws.length
        all_goals
          first | (have h300 : ¬ ns.length < 300 := Hex.out hlw) | skip
          go_wp2_with fail
          refine (fill_any _ (flowU ns ns.length) W _ (glSl_of_owns Hfo.out) (by omega)).mono ?_
          rw [Hfill.out]
          rintro e w2 ⟨v2, rfl, hnew2, hb2⟩
          have Hr2 := Lib.hid (RowsSl.of_new hnew2)
          obtain ⟨ga, gc, hgs, hrows⟩ := (RowsSl.of_new hnew2).shape
          have Hrows := Lib.hid (show ∀ k, k < GS.length → ∃ b off u, ga = some ⟨b, off, none⟩ ∧ b < w2.heap.size ∧ w2.cell? ⟨b, off + k, none⟩ = some u ∧ GlSl w2 u (rl (GS.getD k [])) from fun k hk => by
            obtain ⟨b, off, u, h1, h2, h3, h4⟩ := hrows k (by simpa using hk)
            refine ⟨b, off, u, h1, h2, h3, ?_⟩
            simp only [List.getD_eq_getElem?_getD, List.getElem?_map, List.getElem?_eq_getElem hk, Option.map_some, Option.getD_some] at h4 ⊢
            exact h4)
          have Hb2 := Lib.hid (Hb0.out.trans ((Hbel.out.trans (hb2.mono hwr)).mono hw0))
          have Hi2 := Lib.hid (Hi.out.new hb2)
          have Hu3 := Lib.hid (Hu2.out.new hb2)
          clear hnew2 hb2 hrows
          simp only [List.length_map] at hgs
          subst hgs
          go_wp2_with fail
          refine (parts_any _ _ ns es W _ Hi2.out Hu3.out (by omega) hel (fun i hi => ⟨(Hp.out i hi).1, by have := (Hp.out i hi).2; omega⟩) hw1 hw2).mono ?_
          rintro e w3 ⟨rfl, hw3⟩
          subst hw3
          have hy : (ptR (ptU W ns es ns.length)).2 = true → (GS.length : Int) ≤ (ptR (ptU W ns es ns.length)).1 := fun h => by
            cases hU : ptU W ns es ns.length with
            | none => rw [hU] at h; cases h
            | some y => exact Hleast.out y.1 y.2 hU
          generalize ptR (ptU W ns es ns.length) = y at *
          obtain ⟨r1, r2⟩ := y
          have Hy := Lib.hid hy
          clear hy
          have Hlr := Lib.hid (show ∀ k, k < GS.length → (rl (GS.getD k [])).length ≤ 200 from fun k hk => Hgl.out _ (by
            rw [Hfill.out, List.getD_eq_getElem?_getD, List.getElem?_eq_getElem hk]; exact List.mem_map.2 ⟨_, List.getElem_mem hk, rfl⟩))
          have Hgk := Lib.hid (show ∀ k, k < GS.length → GS.getD k [] ≠ [] ∧ ∀ n ∈ GS.getD k [], 0 < n from fun k hk => by
            rw [List.getD_eq_getElem?_getD, List.getElem?_eq_getElem hk]; exact Hpos.out _ (List.getElem_mem hk))
          cases r2
          all_goals
            first | (have e1 : decide (r1 < (GS.length : Int)) = false := by have := Hy.out rfl; simp only at this; simp; omega) | skip
            simp only
            go_wp2_with fail
            go_loop [18] (fun i => ∃ q : Nat, i = .int .i64 q ∧ q ≤ GS.length) (fun i => GS.length - (intOf i).toNat)
            case atStart => exact ⟨0, rfl, Nat.zero_le _⟩
            case round =>
              obtain ⟨q, rfl, hq⟩ := hrel
              by_cases hq1 : q + 1 < GS.length
              · obtain ⟨b, off, u1, ha, hbw, c0, gl0⟩ := Hrows.out q (by omega)
                obtain ⟨b', off', u2, ha', _, c1, gl1⟩ := Hrows.out (q + 1) hq1
                rw [ha] at ha'
                injection ha' with ha'
                injection ha' with ha' ha''
                subst ha' ha'' ha
                have hA := Hadj.out q hq1
                have hl1 := Hlr.out (q + 1) hq1
                obtain ⟨hne, hpos⟩ := Hgk.out (q + 1) hq1
                obtain ⟨n, hn0, hh, hhd⟩ : ∃ n, 0 < n ∧ Heads n (rl (GS.getD (q + 1) [])) ∧ (GS.getD (q + 1) []).headD 0 = n := by
                  cases h : GS.getD (q + 1) [] with
                  | nil => exact absurd h hne
                  | cons n t => exact ⟨n, hpos n (by rw [h]; simp), rl_heads n (hpos n (by rw [h]; simp)) t, rfl⟩
                rw [hhd] at hA
                have hl0 := Hlr.out q (by omega)
                have HwO := Lib.hid (wideOf_rl (Hgk.out q (by omega)).2 hl0)
                obtain ⟨hg1, hg2, hg3⟩ := hh.get
                have Hg2 := Lib.hid hg2
                have Hg3 := Lib.hid hg3
                obtain ⟨ua, uc, hue⟩ := gl1.shape
                subst hue
                obtain ⟨va, vc, hve⟩ := gl0.shape
                subst hve
                have hWd : (Wd (GS.getD q []) : Int) ≤ 1000 := by
                  have := wideOf_rl (Hgk.out q (by omega)).2 hl0
                  have h2 := sumW_bd _ (rl_wide (GS.getD q []))
                  have h3 := rl_sum (Hgk.out q (by omega)).2
                  omega
                have Hgl0 := Lib.hid gl0
                have Hgl1 := Lib.hid gl1
                clear hne hpos hh hhd hg2 hg3 gl0 gl1
                generalize rl (GS.getD (q + 1) []) = R1 at *
                generalize rl (GS.getD q []) = R0 at *
                generalize Wd (GS.getD q []) = D at *
                have hqi : (q : Int) + 1 < (GS.length : Int) := by omega
                go_wp2_with fail
                go_loop [19] (fun f => ∃ j : Nat, f = .int .i64 j ∧ j ≤ n) (fun f => n - (intOf f).toNat)
                case atStart => exact ⟨0, rfl, Nat.zero_le _⟩
                case round =>
                  obtain ⟨j, rfl, hj⟩ := hrel
                  by_cases hjl : j < R1.length
                  · obtain ⟨b2, o2, he, hga⟩ : ∃ b2 o2, ua = some ⟨b2, o2, none⟩ ∧ GlAt w3 b2 o2 R1 := by
                      rcases Hgl1.out with ⟨_, h⟩ | ⟨b', o', c', h, h'⟩
                      · rw [h] at hjl; simp at hjl
                      · injection h with h1 h2 h3; exact ⟨b', o', h1, h'⟩
                    subst he
                    obtain ⟨d0, _⟩ := hga j hjl
                    clear hga
                    by_cases hjn : j < n
                    · rw [Hg2.out j hjl hjn] at d0
                      replace d0 : w3.cell? ⟨b2, o2 + j * 5, none⟩ = some (.string ⟨#[97]⟩) := d0
                      go_wp2
                      go_round
                      case rel => exact ⟨j + 1, by go_num, by omega⟩
                      case measure => simp [intOf]; omega
                    · have hjn2 : j = n := by omega
                      subst hjn2
                      rw [Hg3.out hjl] at d0
                      replace d0 : w3.cell? ⟨b2, o2 + j * 5, none⟩ = some (.string ⟨#[32]⟩) := d0
                      go_wp2_with fail
                      refine (rwide_any _ R0 _ (by omega) Hgl0.out).mono ?_
                      rintro e w9 ⟨rfl, hw9⟩
                      subst hw9
                      rw [HwO.out]
                      go_wp2
                      go_round
                      case rel => exact ⟨q + 1, by go_num, by omega⟩
                      case measure => simp [intOf]; omega
                  · have hjn2 : j = n := by omega
                    subst hjn2
                    go_wp2_with fail
                    refine (rwide_any _ R0 _ (by omega) Hgl0.out).mono ?_
                    rintro e w9 ⟨rfl, hw9⟩
                    subst hw9
                    rw [HwO.out]
                    go_wp2
                    go_round
                    case rel => exact ⟨q + 1, by go_num, by omega⟩
                    case measure => simp [intOf]; omega
              · go_wp2
                go_ret
                exact ⟨rfl, Hb2.out⟩
end Go.Proofs.Ytepacocajnobgaa
