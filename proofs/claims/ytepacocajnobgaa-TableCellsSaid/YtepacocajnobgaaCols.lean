/- Columns of package table. -/
import Derived.Test.YtepacocajnobgaaShared
namespace Go.Proofs.Ytepacocajnobgaa
open Go.RowKit
attribute [local go_sem ↓] Go.wp_at_zero Go.wp_at_succ

theorem info59 : (Try.prog.info? 59).map (fun i => (i.zero, i.size, i.bytes)) = some (some (.agg #[.int .i64 0, .int .i64 0]), 2, 16) := by kernel_rfl
def colCells (l : List (Int × Int)) : List Value := l.flatMap fun c => [.int .i64 c.1, .int .i64 c.2]
theorem colCells_append (a b : List (Int × Int)) : colCells (a ++ b) = colCells a ++ colCells b := by simp [colCells]
theorem colCells_length (l : List (Int × Int)) : (colCells l).length = l.length * 2 := by
  induction l with
  | nil => rfl
  | cons c l ih => show ([Value.int .i64 c.1, .int .i64 c.2] ++ colCells l).length = _; rw [List.length_append, ih]; simp; omega
/-- A slice value that reads as a list of integers. -/
def IntSl (w : World) (v : Value) (zs : List Int) : Prop := ∃ a c, v = .slice a zs.length c ∧ ∀ k, k < zs.length → ∃ b off, a = some ⟨b, off, none⟩ ∧ IntAt w b off zs
/-- What Columns answers. -/
def ColRes (x : List (Int × Int) × Int) (w : World) (e : Ending) (w' : World) : Prop :=
  ∃ v, e = .returned (.tuple #[v, .int .i64 x.2]) ∧ w'.ownsRow w.heap.size 59 2 v x.1.length (colCells x.1) ∧ Below w.heap.size w w'

set_option maxRecDepth 100000 in
set_option maxHeartbeats 400000 in
theorem cols_range (a : Option Addr) (n : Nat) (c : Nat) (wide : Int) (w : World) (hn : n ≤ 9223372036854775807) (h : wide < 10 ∨ 200 < wide ∨ n < 1 ∨ 8 < n) :
    Calls Try.prog 16 #[.slice a n c, .int .i64 wide] w fun e w' => ColRes ([], 1) w e w' := by
  by_cases h1 : wide < 10
  · go_enter Try.func16, Try.ntmps16
    go_wp2
    go_ret2
    exact ⟨_, rfl, World.ownsRow_nil _ _ _ _, Below.refl _ _⟩
  · by_cases h2 : 200 < wide
    · go_enter Try.func16, Try.ntmps16
      go_wp2
      go_ret2
      exact ⟨_, rfl, World.ownsRow_nil _ _ _ _, Below.refl _ _⟩
    · by_cases h3 : n < 1
      · go_enter Try.func16, Try.ntmps16
        go_wp2
        go_ret2
        exact ⟨_, rfl, World.ownsRow_nil _ _ _ _, Below.refl _ _⟩
      · have h4 : 8 < n := by omega
        go_enter Try.func16, Try.ntmps16
        go_wp2
        go_ret2
        exact ⟨_, rfl, World.ownsRow_nil _ _ _ _, Below.refl _ _⟩

theorem badW_succ (ws : List Int) (k : Nat) (hk : k < ws.length) : badW (ws.take (k + 1)) = (badW (ws.take k) || (decide (ws.getD k 0 < 0) || decide (200 < ws.getD k 0))) := by
  unfold badW
  rw [List.take_succ_eq_append_getElem hk, List.any_append]
  simp [List.getD_eq_getElem?_getD, hk]
theorem badW_take {ws : List Int} {k : Nat} (h : badW (ws.take k) = false) : ∀ j, j < k → 0 ≤ ws.getD j 0 ∧ ws.getD j 0 ≤ 200 := fun j hj => by
  have := badW_get h j
  rw [List.getD_eq_getElem?_getD, List.getElem?_take, if_pos hj] at this
  rwa [List.getD_eq_getElem?_getD]
theorem sb_bd' {ws : List Int} (k : Nat) (h : ∀ j, j < k → 0 ≤ ws.getD j 0 ∧ ws.getD j 0 ≤ 200) : 0 ≤ sb ws k ∧ sb ws k ≤ 200 * k := by
  induction k with
  | zero => simp [sb]
  | succ k ih => have := ih (fun j hj => h j (by omega)); have := h k (by omega); simp only [sb]; omega

set_option maxRecDepth 100000 in
set_option maxHeartbeats 2000000 in
theorem cols_any (v : Value) (ws : List Int) (wide : Int) (w : World) (hv : IntSl w v ws) (hl : ws.length ≤ 9223372036854775807) :
    Calls Try.prog 16 #[v, .int .i64 wide] w fun e w' => ColRes (columnsOf ws wide) w e w' := by
  obtain ⟨a, c, rfl, hat⟩ := hv
  by_cases hr : wide < 10 ∨ 200 < wide ∨ ws.length < 1 ∨ 8 < ws.length
  · unfold columnsOf; rw [if_pos hr]; exact cols_range a ws.length c wide w hl hr
  have h10 : 10 ≤ wide := by omega
  have h200 : wide ≤ 200 := by omega
  have h1 : 1 ≤ ws.length := by omega
  have h8 : ws.length ≤ 8 := by omega
  obtain ⟨b, off, ha, hat1⟩ := hat 0 (by omega)
  subst ha
  have Hr := Lib.hid hr
  have Hat := Lib.hid hat1
  have hbw := IntAt.lt hat1 (by omega)
  obtain ⟨i0, hi0, hz0, hz1, hz2⟩ := info_parts info59
  clear hr hat hat1
  go_enter Try.func16, Try.ntmps16
  go_wp2
  go_loop [7, 8, 36] (fun fi fr i => ∃ k : Nat, k ≤ ws.length ∧ i = .int .i64 k ∧ fi = .int .i64 (sb ws k) ∧ fr = .int .i64 (zb ws k) ∧ badW (ws.take k) = false) (fun _ _ i => ws.length - (intOf i).toNat)
  case atStart => exact ⟨0, Nat.zero_le _, rfl, rfl, rfl, rfl⟩
  case round =>
    obtain ⟨k, hk, rfl, rfl, rfl, hbad⟩ := hrel
    have hsb := sb_bd' k (badW_take hbad)
    have hzk := zb_le ws k
    have Hbad := Lib.hid hbad
    clear hbad
    by_cases hlt : k < ws.length
    · have c0 := Hat.out k hlt
      have Hsucc := Lib.hid (badW_succ ws k hlt)
      have Hsb := Lib.hid (show sb ws (k + 1) = sb ws k + ws.getD k 0 from rfl)
      have Hzb := Lib.hid (show zb ws (k + 1) = if ws.getD k 0 = 0 then zb ws k + 1 else zb ws k from rfl)
      have Hwhole := Lib.hid (show ws.getD k 0 < 0 ∨ 200 < ws.getD k 0 → badW ws = true from fun h => by
        cases hb : badW ws with
        | true => rfl
        | false => have := badW_get hb k; omega)
      generalize ws.getD k 0 = x at *
      obtain ⟨sb1, sb2⟩ := hsb
      generalize sb ws k = s at *
      generalize zb ws k = z at *
      by_cases hx1 : x < 0
      · go_wp2
        go_ret2
        refine ⟨.slice none 0 0, ?_, ?_, Below.refl _ _⟩ <;> (unfold columnsOf; rw [if_neg Hr.out, if_pos (Hwhole.out (.inl hx1))])
        · rfl
        · exact World.ownsRow_nil _ _ _ _
      · by_cases hx2 : 200 < x
        · go_wp2
          go_ret2
          refine ⟨.slice none 0 0, ?_, ?_, Below.refl _ _⟩ <;> (unfold columnsOf; rw [if_neg Hr.out, if_pos (Hwhole.out (.inr hx2))])
          · rfl
          · exact World.ownsRow_nil _ _ _ _
        · have Hnb := Lib.hid (show badW (ws.take (k + 1)) = false by rw [Hsucc.out, Hbad.out]; simp; omega)
          by_cases hx0 : x = 0
          · have hb0 : (x == 0) = true := by simp [hx0]
            have Hx0 := Lib.hid hx0
            clear hx0
            go_wp2
            go_round
            case rel => exact ⟨k + 1, by omega, by go_num, by rw [Hsb.out], by rw [Hzb.out, if_pos Hx0.out]; go_num, Hnb.out⟩
            case measure => simp [intOf]; omega
          · have hb0 : (x == 0) = false := by simp [hx0]
            have Hx0 := Lib.hid hx0
            clear hx0
            go_wp2
            go_round
            case rel => exact ⟨k + 1, by omega, by go_num, by rw [Hsb.out], by rw [Hzb.out, if_neg Hx0.out], Hnb.out⟩
            case measure => simp [intOf]; omega
    · have hkn : k = ws.length := by omega
      subst hkn
      rw [List.take_length] at Hbad
      obtain ⟨rm1, rm2, gp1, gp2⟩ := roomOf_bd h1 h8 h10 h200
      have hgap : ((if wide - ((ws.length : Int) - 1) < ws.length then 0 else 1 : Int)) = gapOf ws.length wide := rfl
      have Hcol := Lib.hid (show columnsOf ws wide = (colsP (gapOf ws.length wide) (shareOf ws (roomOf ws.length wide)) ws.length, 0) by unfold columnsOf; rw [if_neg Hr.out, if_neg (by rw [Hbad.out]; simp)])
      have Hsh := Lib.hid (shared_any b off c ws (roomOf ws.length wide) (sb ws ws.length) (zb ws ws.length) w Hat.out h1 h8 (badW_get Hbad.out) rm1 rm2 rfl rfl)
      have Hshb := Lib.hid (shareOf_bd (badW_get Hbad.out) h8 rm1 rm2)
      have Hshl := Lib.hid (shareOf_length ws (roomOf ws.length wide))
      have Hroom := Lib.hid (show roomOf ws.length wide = wide - gapOf ws.length wide * ((ws.length : Int) - 1) from rfl)
      have Hgap := Lib.hid (show gapOf ws.length wide = if wide - ((ws.length : Int) - 1) < ws.length then 0 else 1 from rfl)
      clear hgap hsb hzk
      generalize gapOf ws.length wide = gap at *
      generalize roomOf ws.length wide = room at *
      generalize shareOf ws room = l at *
      generalize sb ws ws.length = s at *
      generalize zb ws ws.length = z at *
      by_cases hg : wide - ((ws.length : Int) - 1) < ws.length
      · have hg0 : gap = 0 := by have := Hgap.out; rw [if_pos hg] at this; exact this
        have hrm : room = wide := by have := Hroom.out; rw [hg0] at this; omega
        subst hg0 hrm
        go_wp2_with fail
        refine Hsh.out.mono ?_
        rintro e w2 ⟨v2, rfl, hown, hb2⟩
        obtain ⟨gg, cap2, rfl, _, hgl⟩ := World.ownsRow.form hown (by rw [Hshl.out]; omega)
        rw [Hshl.out] at hown ⊢
        have Hb2 := Lib.hid hb2
        have Hown := Lib.hid hown
        have hz2' : w.heap.size ≤ w2.heap.size := hb2.size
        clear hown hb2
        go_wp2_with fail
        go_loopw [14, 15, 73] (fun o at_ i wr => ∃ j : Nat, j ≤ ws.length ∧ i = .int .i64 j ∧ at_ = .int .i64 (atOf 0 l j) ∧ (∃ av cv, o = .slice av j cv ∧ wr.ownsRow w2.heap.size 59 2 (.slice av j cv) j (colCells (colsP 0 l j))) ∧ Below w2.heap.size w2 wr) (fun _ _ i _ => ws.length - (intOf i).toNat)
        case atStart => exact ⟨0, Nat.zero_le _, rfl, rfl, ⟨none, 0, rfl, World.ownsRow_nil _ _ _ _⟩, Below.refl _ _⟩
        case round =>
          obtain ⟨j, hj, rfl, rfl, ⟨av, cv, rfl, hrow⟩, hbel⟩ := hrel
          have Hrow := Lib.hid hrow
          have Hbel := Lib.hid hbel
          have hwr : w2.heap.size ≤ wr.heap.size := hbel.size
          clear hrow hbel
          by_cases hlt : j < ws.length
          · have c0 : wr.cell? ⟨gg, j, none⟩ = some (.int .i64 (l.getD j 0)) := by rw [Hbel.out.cell (p := ⟨gg, j, none⟩) hgl]; exact OwnI.cell Hown.out Hshl.out.symm j hlt
            have hx := Hshb.out j
            have hat := atOf_bd (gap := 0) (by omega) Hshb.out j
            have Hnext := Lib.hid (show colsP 0 l (j + 1) = colsP 0 l j ++ [(atOf 0 l j, l.getD j 0)] from rfl)
            have Hnat := Lib.hid (show atOf 0 l (j + 1) = atOf 0 l j + (l.getD j 0 + 0) from rfl)
            have Hlen := Lib.hid (colsP_length 0 l j)
            generalize atOf 0 l j = at_ at *
            generalize l.getD j 0 = x at *
            generalize colsP 0 l j = cs at *
            obtain ⟨x1, x2⟩ := hx
            obtain ⟨at1, at2⟩ := hat
            have at3 : -20000 ≤ at_ := by omega
            have at4 : at_ ≤ 20000 := by omega
            go_wp2_with (at_builtin; go_loud (refine wpList_append_lies _ rfl (.tmp 77) (.tmp 81) 34 rfl w2.heap.size 59 i0 _ 2 16 Try.underlying34 hi0 hz0 hz1 hz2 rfl (by omega) (.slice av j cv) j (colCells cs) rfl (Hrow.out.alloc _) ⟨wr.heap.size, 0, none⟩ 1 1 [.int .i64 at_, .int .i64 x] rfl rfl (World.news_of_block (cs := #[.int .i64 at_, .int .i64 x]) (t := 59) (fr := (0, 0)) (heap_alloc_new wr _)) (by simp [Value.oneCell']) (by omega) (by unfold maxLen; omega) (by omega) (by simp; omega) (wr.heap.size + 1) (by simp) ?_); intro gg3 cap3 w3 hown hgrow hat3 hlt3; have Hg3 := Lib.hid hgrow; clear hgrow; have Ho := Lib.hid hown; clear hown)
            go_roundw
            case rel =>
              refine ⟨j + 1, by omega, by go_num, (by rw [Hnat.out]; try (first | rfl | (congr 1; omega))), ⟨some ⟨gg3, 0, none⟩, cap3, rfl, ?_⟩, (Hbel.out.alloc hwr _).grown Hg3.out (by simp; omega) fun m hm => (Hrow.out.lt m hm).1⟩
              rw [Hnext.out, colCells_append]; exact Ho.out
            case measure => simp [intOf]; omega
          · go_wp2
            go_ret2
            have hjn : j = ws.length := by omega
            subst hjn
            refine ⟨_, by rw [Hcol.out]; rfl, ?_, Hb2.out.trans (Hbel.out.mono hz2')⟩
            rw [Hcol.out]
            have h := Hrow.out
            refine ⟨?_, ?_⟩
            · rw [colsP_length]; exact h.1
            · rw [colsP_length]
              rcases h.2 with h' | ⟨g, cap, cur, e1, e2, e3⟩
              · exact .inl h'
              · exact .inr ⟨g, cap, cur, e1, by omega, e3⟩
      · have hg0 : gap = 1 := by have := Hgap.out; rw [if_neg hg] at this; exact this
        have hrm : room = wide - ((ws.length : Int) - 1) := by have := Hroom.out; rw [hg0] at this; omega
        subst hg0 hrm
        go_wp2_with fail
        refine Hsh.out.mono ?_
        rintro e w2 ⟨v2, rfl, hown, hb2⟩
        obtain ⟨gg, cap2, rfl, _, hgl⟩ := World.ownsRow.form hown (by rw [Hshl.out]; omega)
        rw [Hshl.out] at hown ⊢
        have Hb2 := Lib.hid hb2
        have Hown := Lib.hid hown
        have hz2' : w.heap.size ≤ w2.heap.size := hb2.size
        clear hown hb2
        go_wp2_with fail
        go_loopw [14, 15, 73] (fun o at_ i wr => ∃ j : Nat, j ≤ ws.length ∧ i = .int .i64 j ∧ at_ = .int .i64 (atOf 1 l j) ∧ (∃ av cv, o = .slice av j cv ∧ wr.ownsRow w2.heap.size 59 2 (.slice av j cv) j (colCells (colsP 1 l j))) ∧ Below w2.heap.size w2 wr) (fun _ _ i _ => ws.length - (intOf i).toNat)
        case atStart => exact ⟨0, Nat.zero_le _, rfl, rfl, ⟨none, 0, rfl, World.ownsRow_nil _ _ _ _⟩, Below.refl _ _⟩
        case round =>
          obtain ⟨j, hj, rfl, rfl, ⟨av, cv, rfl, hrow⟩, hbel⟩ := hrel
          have Hrow := Lib.hid hrow
          have Hbel := Lib.hid hbel
          have hwr : w2.heap.size ≤ wr.heap.size := hbel.size
          clear hrow hbel
          by_cases hlt : j < ws.length
          · have c0 : wr.cell? ⟨gg, j, none⟩ = some (.int .i64 (l.getD j 0)) := by rw [Hbel.out.cell (p := ⟨gg, j, none⟩) hgl]; exact OwnI.cell Hown.out Hshl.out.symm j hlt
            have hx := Hshb.out j
            have hat := atOf_bd (gap := 1) (by omega) Hshb.out j
            have Hnext := Lib.hid (show colsP 1 l (j + 1) = colsP 1 l j ++ [(atOf 1 l j, l.getD j 0)] from rfl)
            have Hnat := Lib.hid (show atOf 1 l (j + 1) = atOf 1 l j + (l.getD j 0 + 1) from rfl)
            have Hlen := Lib.hid (colsP_length 1 l j)
            generalize atOf 1 l j = at_ at *
            generalize l.getD j 0 = x at *
            generalize colsP 1 l j = cs at *
            obtain ⟨x1, x2⟩ := hx
            obtain ⟨at1, at2⟩ := hat
            have at3 : -20000 ≤ at_ := by omega
            have at4 : at_ ≤ 20000 := by omega
            go_wp2_with (at_builtin; go_loud (refine wpList_append_lies _ rfl (.tmp 77) (.tmp 81) 34 rfl w2.heap.size 59 i0 _ 2 16 Try.underlying34 hi0 hz0 hz1 hz2 rfl (by omega) (.slice av j cv) j (colCells cs) rfl (Hrow.out.alloc _) ⟨wr.heap.size, 0, none⟩ 1 1 [.int .i64 at_, .int .i64 x] rfl rfl (World.news_of_block (cs := #[.int .i64 at_, .int .i64 x]) (t := 59) (fr := (0, 0)) (heap_alloc_new wr _)) (by simp [Value.oneCell']) (by omega) (by unfold maxLen; omega) (by omega) (by simp; omega) (wr.heap.size + 1) (by simp) ?_); intro gg3 cap3 w3 hown hgrow hat3 hlt3; have Hg3 := Lib.hid hgrow; clear hgrow; have Ho := Lib.hid hown; clear hown)
            go_roundw
            case rel =>
              refine ⟨j + 1, by omega, by go_num, (by rw [Hnat.out]; try (first | rfl | (congr 1; omega))), ⟨some ⟨gg3, 0, none⟩, cap3, rfl, ?_⟩, (Hbel.out.alloc hwr _).grown Hg3.out (by simp; omega) fun m hm => (Hrow.out.lt m hm).1⟩
              rw [Hnext.out, colCells_append]; exact Ho.out
            case measure => simp [intOf]; omega
          · go_wp2
            go_ret2
            have hjn : j = ws.length := by omega
            subst hjn
            refine ⟨_, by rw [Hcol.out]; rfl, ?_, Hb2.out.trans (Hbel.out.mono hz2')⟩
            rw [Hcol.out]
            have h := Hrow.out
            refine ⟨?_, ?_⟩
            · rw [colsP_length]; exact h.1
            · rw [colsP_length]
              rcases h.2 with h' | ⟨g, cap, cur, e1, e2, e3⟩
              · exact .inl h'
              · exact .inr ⟨g, cap, cur, e1, by omega, e3⟩
end Go.Proofs.Ytepacocajnobgaa
