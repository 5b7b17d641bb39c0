/- signs of the law: the signs of lines, one behind the other. -/
import Derived.Test.YtepacocajnobgaaAwake
namespace Go.Proofs.Ytepacocajnobgaa
open Go.RowKit

/-- The signs of the first i lines and of the first k glyphs of the next one. -/
def sgU (ll : List (List Gl)) (i k : Nat) : List Gl := ((ll.take i).flatten ++ (ll.getD i []).take k).filter Gl.isSign
theorem sgU_len (ll : List (List Gl)) (i k : Nat) : (sgU ll i k).length ≤ (ll.flatten.filter Gl.isSign).length := by
  refine List.Sublist.length_le (List.Sublist.filter _ ?_)
  rw [List.getD_eq_getElem?_getD]
  by_cases h : i < ll.length
  · rw [List.getElem?_eq_getElem h]
    have e : ll = ll.take i ++ ll[i] :: ll.drop (i + 1) := by rw [← List.drop_eq_getElem_cons h, List.take_append_drop]
    have h1 : ll.flatten = (ll.take i).flatten ++ (ll[i] ++ (ll.drop (i + 1)).flatten) := (congrArg List.flatten e).trans (by rw [List.flatten_append, List.flatten_cons])
    rw [h1]
    exact List.Sublist.append (List.Sublist.refl _) ((List.take_sublist _ _).trans (List.sublist_append_left _ _))
  · rw [List.getElem?_eq_none (by omega), List.take_of_length_le (by omega)]; simp
theorem sgU_next (ll : List (List Gl)) (i : Nat) (h : i < ll.length) : sgU ll (i + 1) 0 = sgU ll i (ll.getD i []).length := by
  simp only [sgU, List.take_zero, List.append_nil, List.take_length]
  rw [List.take_succ_eq_append_getElem h, List.getD_eq_getElem?_getD, List.getElem?_eq_getElem h, List.flatten_append, List.flatten_cons, List.flatten_nil, List.append_nil]
  rfl
theorem sgU_step (ll : List (List Gl)) (i k : Nat) (h : k < (ll.getD i []).length) : sgU ll i (k + 1) = if (ll.getD i [])[k].isSign then sgU ll i k ++ [(ll.getD i [])[k]] else sgU ll i k := by
  unfold sgU
  rw [List.take_succ_eq_append_getElem h, ← List.append_assoc, List.filter_append]
  generalize (ll.getD i [])[k] = g
  cases hs : g.isSign <;> simp [hs]
theorem sgU_all (ll : List (List Gl)) : sgU ll ll.length 0 = ll.flatten.filter Gl.isSign := by simp [sgU]

set_option maxRecDepth 100000 in
set_option maxHeartbeats 4000000 in
theorem signs_any (v : Value) (ll : List (List Gl)) (w : World) (hv : RowsSl w v ll) (hb : ll.length ≤ 5864062014805) (hbl : ∀ l ∈ ll, l.length ≤ 2932031007402) (hs : (ll.flatten.filter Gl.isSign).length ≤ 2932031007317) :
    Calls Try.prog 26 #[v] w fun e w' => TwinRes (ll.flatten.filter Gl.isSign) w e w' := by
  obtain ⟨a, c, rfl, hat⟩ := hv.shape
  have Hat := Lib.hid hat
  have Hbl := Lib.hid hbl
  have Hlen := Lib.hid (fun i k => sgU_len ll i k)
  clear hat hv hbl
  obtain ⟨j0, hj0, jz0, jz1, jz2⟩ := info_parts info49
  go_enter Try.func26, Try.ntmps26
  go_wp2_with fail
  go_loopw [3, 4] (fun v i wr => ∃ k : Nat, k ≤ ll.length ∧ i = .int .i64 k ∧ (∃ av cv, v = .slice av (sgU ll k 0).length cv ∧ wr.ownsRow w.heap.size 49 5 (.slice av (sgU ll k 0).length cv) (sgU ll k 0).length (glCells (sgU ll k 0))) ∧ Below w.heap.size w wr) (fun _ i _ => ll.length - (intOf i).toNat)
  case atStart => exact ⟨0, Nat.zero_le _, rfl, ⟨none, 0, rfl, World.ownsRow_nil _ _ _ _⟩, Below.refl _ _⟩
  case round =>
    obtain ⟨k, hk, rfl, ⟨av, cv, rfl, hown⟩, hbel⟩ := hrel
    have Hown := Lib.hid hown
    have Hbel := Lib.hid hbel
    clear hown hbel
    by_cases hlt : k < ll.length
    · obtain ⟨b, off, u, ha, hbw, c0, gl⟩ := Hat.out k hlt
      subst ha
      have hll := Hbl.out (ll.getD k []) (by rw [List.getD_eq_getElem?_getD, List.getElem?_eq_getElem hlt]; exact List.getElem_mem hlt)
      have Hn := Lib.hid (sgU_next ll k hlt)
      have Hst := Lib.hid (fun j h => sgU_step ll k j h)
      have Hlk := Lib.hid (Hlen.out k)
      obtain ⟨ua, uc, hue⟩ := gl.shape
      subst hue
      have Hgl := Lib.hid gl
      have Hc0 := Lib.hid c0
      clear gl c0
      generalize hl : ll.getD k [] = l at *
      have Hl := Lib.hid hl
      clear hl
      obtain ⟨wo, rfl⟩ : ∃ wo : World, wo = wr := ⟨_, rfl⟩
      go_wp2_with fail
      go_loopw [3, 5] (fun v i wr => ∃ j : Nat, j ≤ l.length ∧ i = .int .i64 j ∧ (∃ av cv, v = .slice av (sgU ll k j).length cv ∧ wr.ownsRow w.heap.size 49 5 (.slice av (sgU ll k j).length cv) (sgU ll k j).length (glCells (sgU ll k j))) ∧ Below w.heap.size w wr) (fun _ i _ => l.length - (intOf i).toNat)
      case atStart => exact ⟨0, Nat.zero_le _, rfl, ⟨av, cv, rfl, Hown.out⟩, Hbel.out⟩
      case round =>
        obtain ⟨j, hj, rfl, ⟨av, cv, rfl, hown⟩, hbel⟩ := hrel
        have Hown := Lib.hid hown
        have Hbel := Lib.hid hbel
        have hwr : w.heap.size ≤ wr.heap.size := hbel.size
        have hsl := Hlk.out j
        have hsl2 : (sgU ll k j).length ≤ 2932031007317 := by omega
        have c0 : wr.cell? ⟨b, off + k, none⟩ = some (.slice ua l.length uc) := by rw [Hbel.out.cell (p := ⟨b, off + k, none⟩) hbw]; exact Hc0.out
        clear hown hbel hsl
        by_cases hjl : j < l.length
        · obtain ⟨b2, o2, he, hga⟩ : ∃ b2 o2, ua = some ⟨b2, o2, none⟩ ∧ GlAt w b2 o2 l := by
            rcases Hgl.out with ⟨_, h⟩ | ⟨b', o', c', h, h'⟩
            · rw [h] at hjl; simp at hjl
            · injection h with h1 h2 h3; exact ⟨b', o', h1, h'⟩
          subst he
          obtain ⟨d0, d1, d2, d3, d4⟩ := (hga.same (Hbel.out.block b2 (hga.lt (by omega)))) j hjl
          have hb2 : b2 < wr.heap.size := Nat.lt_of_lt_of_le (hga.lt (by omega)) hwr
          have Hnx := Lib.hid (Hst.out j hjl)
          clear hga
          generalize l[j] = g at *
          go_wp2_with fail
          refine (sign_any g _).mono ?_
          rintro e w2 ⟨rfl, hb⟩
          have q0 : w2.cell? ⟨b, off + k, none⟩ = some (.slice (some ⟨b2, o2, none⟩) l.length uc) := (hb.cell (p := ⟨b, off + k, none⟩) (Nat.lt_of_lt_of_le hbw hwr)).trans c0
          have r0 := (hb.cell (p := ⟨b2, o2 + j * 5, none⟩) hb2).trans d0
          have r1 := (hb.cell (p := ⟨b2, o2 + j * 5 + 1, none⟩) hb2).trans d1
          have r2 := (hb.cell (p := ⟨b2, o2 + j * 5 + 2, none⟩) hb2).trans d2
          have r3 := (hb.cell (p := ⟨b2, o2 + j * 5 + 3, none⟩) hb2).trans d3
          have r4 := (hb.cell (p := ⟨b2, o2 + j * 5 + 4, none⟩) hb2).trans d4
          have Hb2 := Lib.hid (Hbel.out.trans (hb.mono hwr))
          have Hown2 := Lib.hid (bget_block Hown.out fun b' hb' => hb.block b' (Hown.out.lt b' hb').2)
          have hw2 : w.heap.size ≤ w2.heap.size := Hb2.out.size
          clear hb c0 d0 d1 d2 d3 d4
          cases hsg : g.isSign
          · rw [hsg] at Hnx
            have Hnx2 := Lib.hid (show sgU ll k (j + 1) = sgU ll k j from Hnx.out)
            clear Hnx hsg
            go_wp2_with fail
            go_roundw
            case rel => exact ⟨j + 1, by omega, by go_num, ⟨av, cv, by rw [Hnx2.out], by rw [Hnx2.out]; exact Hown2.out⟩, Hb2.out⟩
            case measure => simp [intOf]; omega
          · rw [hsg] at Hnx
            have Hnx2 := Lib.hid (show sgU ll k (j + 1) = sgU ll k j ++ [g] from Hnx.out)
            clear Hnx hsg
            go_wp2_with (at_builtin; go_loud (refine wpList_append_lies _ rfl (.tmp 29) (.tmp 37) 22 rfl w.heap.size 49 j0 _ 5 48 Try.underlying22 hj0 jz0 jz1 jz2 rfl (by omega) (.slice av (sgU ll k j).length cv) (sgU ll k j).length (glCells (sgU ll k j)) rfl (Hown2.out.alloc _) ⟨w2.heap.size, 0, none⟩ 1 1 g.cells rfl rfl (World.news_of_block (cs := g.cells.toArray) (t := 49) (fr := (0, 0)) (heap_alloc_new w2 _)) (by simp [Value.oneCell', Gl.cells]) (by omega) (by unfold maxLen; omega) (by omega) (by simp; omega) (w2.heap.size + 1) (by simp) ?_); intro gg cap w6 hown hgrow hat3 hlt3; have Hg3 := Lib.hid hgrow; clear hgrow; have Ho := Lib.hid hown; clear hown)
            go_roundw
            case rel =>
              refine ⟨j + 1, by omega, by go_num, ⟨some ⟨gg, 0, none⟩, cap, ?_, ?_⟩, (Hb2.out.alloc hw2 _).grown Hg3.out (by simp; omega) fun m hm => (Hown2.out.lt m hm).1⟩
              · rw [Hnx2.out]; simp
              · rw [Hnx2.out, glCells_append, show glCells [g] = g.cells by simp [glCells], show (sgU ll k j ++ [g]).length = (sgU ll k j).length + 1 by simp]
                exact Ho.out
            case measure => simp [intOf]; omega
        · have hjn : j = l.length := by omega
          have Hjn := Lib.hid hjn
          clear hjn
          go_wp2_with fail
          go_roundw
          case rel =>
            have hx : sgU ll (k + 1) 0 = sgU ll k j := by rw [Hn.out, Hjn.out]
            exact ⟨k + 1, by omega, by go_num, ⟨av, cv, by rw [hx], by rw [hx]; exact Hown.out⟩, Hbel.out⟩
          case measure => simp [intOf]; omega
    · have hkn : k = ll.length := by omega
      subst hkn
      go_wp2
      go_ret
      have h := Hown.out
      rw [sgU_all] at h ⊢
      exact ⟨_, rfl, h, Hbel.out⟩
end Go.Proofs.Ytepacocajnobgaa
