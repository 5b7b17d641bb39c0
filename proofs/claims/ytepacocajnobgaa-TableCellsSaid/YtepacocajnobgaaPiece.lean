/- trimmed and piece of the law. -/
import Derived.Test.YtepacocajnobgaaCellsSpec
import Derived.Test.YtepacocajnobgaaAwake
namespace Go.Proofs.Ytepacocajnobgaa
open Go.RowKit

/-- A slice that reads as glyphs; the world below as it was. -/
def GlRes (l : List Gl) (w : World) (e : Ending) (w' : World) : Prop := ∃ v, e = .returned v ∧ GlSl w' v l ∧ Below w.heap.size w w'

theorem GlSl.take {w : World} {a : Option Addr} {c : Nat} {l : List Gl} (h : GlSl w (.slice a l.length c) l) (k : Nat) (hk : k ≤ l.length) : GlSl w (.slice a k c) (l.take k) := by
  rcases h with ⟨⟨a', c', he, hac⟩, h0⟩ | ⟨b, off, cap, he, hat⟩
  · injection he with e1 e2 e3
    subst e1 e3
    have hk0 : k = 0 := by rw [h0] at hk; simpa using hk
    subst hk0
    exact .inl ⟨⟨a, c, rfl, hac⟩, rfl⟩
  · injection he with e1 e2 e3
    subst e1 e3
    have hl : (l.take k).length = k := by simp; omega
    refine .inr ⟨b, off, c, by rw [hl], fun j hj => ?_⟩
    have := hat j (by omega)
    simp only [List.getElem_take]
    exact this
set_option maxRecDepth 100000 in
set_option maxHeartbeats 1000000 in
theorem trimmed_any (v : Value) (l : List Gl) (w : World) (hv : GlSl w v l) (hl : l.length ≤ 4611686018427387904) (hcap : ∀ a n c, v = .slice a n c → n ≤ c ∧ c ≤ 9223372036854775807) :
    Calls Try.prog 28 #[v] w fun e w' => GlRes (trim l) w e w' := by
  obtain ⟨a, c, rfl⟩ := hv.shape
  obtain ⟨hc1, hc2⟩ := hcap _ _ _ rfl
  have Hv := Lib.hid hv
  clear hv hcap
  go_enter Try.func28, Try.ntmps28
  go_wp2_with fail
  go_loop [0] (fun s => ∃ k : Nat, k ≤ l.length ∧ s = .slice a k c ∧ trimN l k = trimN l l.length) (fun s => match s with | .slice _ n _ => n | _ => 0)
  case atStart => exact ⟨l.length, Nat.le_refl _, rfl, rfl⟩
  case round =>
    obtain ⟨k, hk, rfl, htr⟩ := hrel
    have Htr := Lib.hid htr
    clear htr
    by_cases hk0 : 0 < k
    · obtain ⟨b, off, he, hga⟩ : ∃ b off, a = some ⟨b, off, none⟩ ∧ GlAt w b off l := by
        rcases Hv.out with ⟨_, h⟩ | ⟨b', o', c', h, h'⟩
        · rw [h] at hk; simp at hk; omega
        · injection h with h1 h2 h3; exact ⟨b', o', h1, h'⟩
      subst he
      obtain ⟨j, rfl⟩ : ∃ j, k = j + 1 := ⟨k - 1, by omega⟩
      obtain ⟨d0, _⟩ := hga j (by omega)
      have hst : trimN l (j + 1) = if (l.getD j plainG).isBlank then trimN l j else j + 1 := rfl
      rw [List.getD_eq_getElem?_getD, List.getElem?_eq_getElem (show j < l.length by omega), Option.getD_some] at hst
      have Hst := Lib.hid hst
      clear hga hst
      generalize hb : l[j].isBlank = bl at *
      have hb2 : (l[j].text.toList == [32]) = bl := hb
      clear hb
      generalize l[j] = g at *
      have i1 : (0 : Int) ≤ (j : Int) := by omega
      cases bl
      · have hfin : trim l = l.take (j + 1) := by unfold trim; rw [← Htr.out, Hst.out]; rfl
        have Hfin := Lib.hid hfin
        clear hfin
        go_wp2_with fail
        go_ret
        exact ⟨_, rfl, by rw [Hfin.out]; exact Hv.out.take (j + 1) (by omega), Below.refl _ _⟩
      · go_wp2_with fail
        go_round
        case rel => exact ⟨j, by omega, by simp, by rw [← Htr.out, Hst.out]; rfl⟩
        case measure => simp
    · have hk00 : k = 0 := by omega
      subst hk00
      have hfin : trim l = l.take 0 := by unfold trim; rw [← Htr.out]; rfl
      have Hfin := Lib.hid hfin
      clear hfin
      go_wp2_with fail
      go_ret
      exact ⟨_, rfl, by rw [Hfin.out]; exact Hv.out.take 0 (by omega), Below.refl _ _⟩

theorem cut_snoc (at_ wide : Int) (l : List Gl) (g : Gl) : cut at_ wide 0 (l ++ [g]) = cut at_ wide 0 l ++ (if at_ ≤ sumW l ∧ sumW l < at_ + wide then [g] else []) := by
  rw [cut_app]; simp [cut]
theorem cut_len (at_ wide : Int) : ∀ (l : List Gl) (col : Int), (cut at_ wide col l).length ≤ l.length := by
  intro l
  induction l with
  | nil => intro col; simp [cut]
  | cons g l ih =>
    intro col
    have := ih (col + g.wide)
    simp only [cut, List.length_append, List.length_cons]
    split <;> simp <;> omega

set_option maxRecDepth 100000 in
set_option maxHeartbeats 4000000 in
theorem piece_any (v : Value) (l : List Gl) (at_ wide : Int) (w : World) (hv : GlSl w v l) (hl : l.length ≤ 200) (hw : ∀ g ∈ l, 1 ≤ g.wide ∧ g.wide ≤ 2) (ha : 0 ≤ at_ ∧ at_ ≤ 200) (hwd : 1 ≤ wide ∧ wide ≤ 200) :
    Calls Try.prog 29 #[v, .int .i64 at_, .int .i64 wide] w fun e w' => GlRes (trim (cut at_ wide 0 l)) w e w' := by
  obtain ⟨a, c, rfl⟩ := hv.shape
  have Hv := Lib.hid hv
  have Hw := Lib.hid hw
  obtain ⟨ha1, ha2⟩ := ha
  obtain ⟨hw1, hw2⟩ := hwd
  clear hv hw
  obtain ⟨j0, hj0, jz0, jz1, jz2⟩ := info_parts info49
  go_enter Try.func29, Try.ntmps29
  go_wp2_with fail
  go_loopw [7, 8, 9] (fun o co i wr => ∃ k : Nat, k ≤ l.length ∧ i = .int .i64 k ∧ co = .int .i64 (sumW (l.take k)) ∧ (∃ oa oc, o = .slice oa (cut at_ wide 0 (l.take k)).length oc ∧ wr.ownsRow w.heap.size 49 5 (.slice oa (cut at_ wide 0 (l.take k)).length oc) (cut at_ wide 0 (l.take k)).length (glCells (cut at_ wide 0 (l.take k)))) ∧ Below w.heap.size w wr) (fun _ _ i _ => l.length - (intOf i).toNat)
  case atStart => exact ⟨0, Nat.zero_le _, rfl, rfl, ⟨none, 0, rfl, World.ownsRow_nil _ _ _ _⟩, Below.refl _ _⟩
  case round =>
    obtain ⟨k, hk, rfl, rfl, ⟨oa, oc, rfl, hown⟩, hbel⟩ := hrel
    have Hown := Lib.hid hown
    have Hbel := Lib.hid hbel
    have hwr : w.heap.size ≤ wr.heap.size := hbel.size
    have hs := sumW_bd (l.take k) fun g hg => Hw.out g (List.mem_of_mem_take hg)
    have hlk : (l.take k).length ≤ k := List.length_take_le _ _
    have hcl := cut_len at_ wide (l.take k) 0
    clear hown hbel
    by_cases hlt : k < l.length
    · obtain ⟨b, off, he, hga⟩ : ∃ b off, a = some ⟨b, off, none⟩ ∧ GlAt w b off l := by
        rcases Hv.out with ⟨_, h⟩ | ⟨b', o', c', h, h'⟩
        · rw [h] at hlt; simp at hlt
        · injection h with h1 h2 h3; exact ⟨b', o', h1, h'⟩
      subst he
      have Hlow := Lib.hid (hga.lt (by omega))
      obtain ⟨c0, c1, c2, c3, c4⟩ := (hga.same (Hbel.out.block b (hga.lt (by omega)))) k hlt
      have hbr : b < wr.heap.size := Nat.lt_of_lt_of_le (hga.lt (by omega)) hwr
      have hgw := Hw.out l[k] (List.getElem_mem hlt)
      have hts := List.take_succ_eq_append_getElem hlt
      have Hcs := Lib.hid (show cut at_ wide 0 (l.take (k + 1)) = cut at_ wide 0 (l.take k) ++ (if at_ ≤ sumW (l.take k) ∧ sumW (l.take k) < at_ + wide then [l[k]] else []) by rw [hts, cut_snoc])
      have Hss := Lib.hid (show sumW (l.take (k + 1)) = sumW (l.take k) + l[k].wide by rw [hts, sumW_snoc])
      clear hts hga
      generalize l[k] = g at *
      generalize cut at_ wide 0 (l.take k) = C at *
      generalize hsk : sumW (l.take k) = S at *
      clear hsk
      obtain ⟨g1, g2⟩ := hgw
      by_cases h1 : at_ ≤ S
      · by_cases h2 : S < at_ + wide
        · have Hc2 := Lib.hid (show cut at_ wide 0 (l.take (k + 1)) = C ++ [g] by rw [Hcs.out, if_pos ⟨h1, h2⟩])
          clear Hcs
          go_wp2_with (at_builtin; go_loud (refine wpList_append_lies _ rfl (.tmp 26) (.tmp 31) 22 rfl w.heap.size 49 j0 _ 5 48 Try.underlying22 hj0 jz0 jz1 jz2 rfl (by omega) (.slice oa C.length oc) C.length (glCells C) rfl (Hown.out.alloc _) ⟨wr.heap.size, 0, none⟩ 1 1 g.cells rfl rfl (World.news_of_block (cs := g.cells.toArray) (t := 49) (fr := (0, 0)) (heap_alloc_new wr _)) (by simp [Value.oneCell', Gl.cells]) (by omega) (by unfold maxLen; omega) (by omega) (by simp; omega) (wr.heap.size + 1) (by simp) ?_); intro gg cap w6 hown hgrow hat3 hlt3; have Hb6 := Lib.hid ((Hbel.out.alloc hwr _).grown hgrow (by simp; omega) fun m hm => (Hown.out.lt m hm).1); have hd1 : w6.cell? ⟨b, off + k * 5 + 1, none⟩ = some (.int .i64 g.wide) := (by rw [World.cell?_of_block (w := wr) (a := ⟨b, off + k * 5 + 1, none⟩) ((hgrow.block b (by simp; omega) (fun e => by have := (Hown.out.lt b e.symm).1; have := Hlow.out; omega)).trans (Below.heap_alloc _ _ _ hbr))]; exact c1); clear hgrow; have Ho := Lib.hid hown; clear hown)
          go_roundw
          case rel =>
            refine ⟨k + 1, by omega, by go_num, by rw [Hss.out], ⟨some ⟨gg, 0, none⟩, cap, ?_, ?_⟩, Hb6.out⟩
            · rw [Hc2.out]; simp
            · rw [Hc2.out, glCells_append, show glCells [g] = g.cells by simp [glCells], List.length_append]
              exact Ho.out
          case measure => simp [intOf]; omega
        · have Hc2 := Lib.hid (show cut at_ wide 0 (l.take (k + 1)) = C by rw [Hcs.out, if_neg (fun h => h2 h.2), List.append_nil])
          clear Hcs
          go_wp2_with fail
          go_roundw
          case rel => exact ⟨k + 1, by omega, by go_num, by rw [Hss.out], ⟨oa, oc, by rw [Hc2.out], by rw [Hc2.out]; exact Hown.out⟩, Hbel.out⟩
          case measure => simp [intOf]; omega
      · have Hc2 := Lib.hid (show cut at_ wide 0 (l.take (k + 1)) = C by rw [Hcs.out, if_neg (fun h => h1 h.1), List.append_nil])
        clear Hcs
        go_wp2_with fail
        go_roundw
        case rel => exact ⟨k + 1, by omega, by go_num, by rw [Hss.out], ⟨oa, oc, by rw [Hc2.out], by rw [Hc2.out]; exact Hown.out⟩, Hbel.out⟩
        case measure => simp [intOf]; omega
    · obtain rfl : k = l.length := by omega
      rw [List.take_length] at Hown hcl ⊢
      go_wp2_with fail
      refine (trimmed_any _ (cut at_ wide 0 l) _ (glSl_of_owns Hown.out) (by omega) ?_).mono ?_
      · intro a' n' c' he
        have h := Hown.out
        rw [he] at h
        rcases h.2 with ⟨h1, h2⟩ | ⟨g, cap, cur, h1, _, _, h2, h3, _⟩
        · injection h1 with e1 e2 e3; subst e2 e3; exact ⟨Nat.le_refl _, by omega⟩
        · injection h1 with e1 e2 e3; subst e2 e3; unfold maxLen at h3; exact ⟨h2, h3⟩
      rintro e w5 ⟨v5, rfl, hg5, hb5⟩
      have Hg5 := Lib.hid hg5
      have Hb5 := Lib.hid (Hbel.out.trans (hb5.mono hwr))
      clear hg5 hb5
      go_wp2_with fail
      go_ret
      exact ⟨_, rfl, Hg5.out, Hb5.out⟩
end Go.Proofs.Ytepacocajnobgaa
