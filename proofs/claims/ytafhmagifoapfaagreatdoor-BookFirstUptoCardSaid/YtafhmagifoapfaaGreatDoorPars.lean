/- src: directive, all names. -/
import Derived.Test.YtafhmagifoapfaaGreatDoorDirs
import Derived.Test.YtafhmagifoapfaaGreatDoorLexE
import Derived.Test.YtafhmagifoapfaaGreatDoorOver
import Derived.Test.YtafhmagifoapfaaGreatDoorInls
import Derived.Test.YtafhmagifoapfaaGreatDoorBeside
import Derived.Test.YtafhmagifoapfaaGreatDoorPiecesAll
import Derived.Test.YtafhmagifoapfaaGreatDoorParts
import Derived.Deep.RegionWith
namespace Go.Proofs.YtafhmagifoapfaaGreatDoor
open Go.RowKit Find Bk
theorem dirH0 (B : Nat) (s : PS) (p : PV) (t : Tok) (m : Nat) (hI : s.Inv m) (_hm6 : m ≤ 1000000) (hal : t.text.length ≤ 1000000) (hn : t.name = [115, 116, 121, 108, 101]) : DirH B s p t 0 27 29 := by
  have hta : (tidyF t.text).length ≤ 1000000 := Nat.le_trans (tidy_len t.text) hal
  refine ⟨fun W r hW => look_hit t.name 0 _ (by rw [hn]; rfl) W r hW, enters_of Tryz.func27 (by kernel_rfl) rfl, enters_of Tryz.func29 (by kernel_rfl) rfl, fun W hx => (topNone_any B s p W hx).mono fun _ _ h => h.d, fun hm W hx hb hg => ?_, by rw [hn]; rfl, by rw [hn]; rfl, by rw [hn]; rfl, by rw [hn]; rfl⟩
  exact style_any B s p t _ W hx hb (by have := hI.nst; omega)
theorem dirH1 (B : Nat) (s : PS) (p : PV) (t : Tok) (m : Nat) (hI : s.Inv m) (_hm6 : m ≤ 1000000) (hal : t.text.length ≤ 1000000) (hn : t.name = [116, 111, 112, 105, 99]) : DirH B s p t 1 30 31 := by
  have hta : (tidyF t.text).length ≤ 1000000 := Nat.le_trans (tidy_len t.text) hal
  refine ⟨fun W r hW => look_hit t.name 1 _ (by rw [hn]; rfl) W r hW, enters_of Tryz.func30 (by kernel_rfl) rfl, enters_of Tryz.func31 (by kernel_rfl) rfl, fun W hx => (always_any p W).mono fun _ _ h => h.d, fun hm W hx hb hg => ?_, by rw [hn]; rfl, by rw [hn]; rfl, by rw [hn]; rfl, by rw [hn]; rfl⟩
  exact topicD_any B s p t _ W hx hb hg hta (by have := hI.ntop; omega)
theorem dirH2 (B : Nat) (s : PS) (p : PV) (t : Tok) (m : Nat) (hI : s.Inv m) (_hm6 : m ≤ 1000000) (hal : t.text.length ≤ 1000000) (hn : t.name = [110, 111, 116, 101]) : DirH B s p t 2 30 33 := by
  have hta : (tidyF t.text).length ≤ 1000000 := Nat.le_trans (tidy_len t.text) hal
  refine ⟨fun W r hW => look_hit t.name 2 _ (by rw [hn]; rfl) W r hW, enters_of Tryz.func30 (by kernel_rfl) rfl, enters_of Tryz.func33 (by kernel_rfl) rfl, fun W hx => (always_any p W).mono fun _ _ h => h.d, fun hm W hx hb hg => ?_, by rw [hn]; rfl, by rw [hn]; rfl, by rw [hn]; rfl, by rw [hn]; rfl⟩
  exact noteD_any B s p t _ W hx hb hg hta (by have := hI.ntop; omega)
theorem dirH3 (B : Nat) (s : PS) (p : PV) (t : Tok) (m : Nat) (hI : s.Inv m) (_hm6 : m ≤ 1000000) (hal : t.text.length ≤ 1000000) (hn : t.name = [116, 111, 99]) : DirH B s p t 3 34 36 := by
  have hta : (tidyF t.text).length ≤ 1000000 := Nat.le_trans (tidy_len t.text) hal
  have hc : s.may 3 = true → ∃ tp, s.cur = some tp := fun hm => Option.isSome_iff_exists.1 (fresh_cur (by have h : (s.fresh && _) = true := hm; simp only [Bool.and_eq_true] at h; exact h.1))
  refine ⟨fun W r hW => look_hit t.name 3 _ (by rw [hn]; rfl) W r hW, enters_of Tryz.func34 (by kernel_rfl) rfl, enters_of Tryz.func36 (by kernel_rfl) rfl, fun W hx => (mayToc_any B s p W hx).mono fun _ _ h => h.d, fun hm W hx hb hg => ?_, by rw [hn]; rfl, by rw [hn]; rfl, by rw [hn]; rfl, by rw [hn]; rfl⟩
  obtain ⟨tp, htp⟩ := hc hm; obtain ⟨q1, q2, q3, q4⟩ := hI.cur tp htp; exact contents_any B s p t _ W hx hb tp htp
theorem dirH4 (B : Nat) (s : PS) (p : PV) (t : Tok) (m : Nat) (hI : s.Inv m) (_hm6 : m ≤ 1000000) (hal : t.text.length ≤ 1000000) (hn : t.name = [107, 101, 121]) : DirH B s p t 4 35 37 := by
  have hta : (tidyF t.text).length ≤ 1000000 := Nat.le_trans (tidy_len t.text) hal
  have hc : s.may 4 = true → ∃ tp, s.cur = some tp := fun hm => Option.isSome_iff_exists.1 (fresh_cur hm)
  refine ⟨fun W r hW => look_hit t.name 4 _ (by rw [hn]; rfl) W r hW, enters_of Tryz.func35 (by kernel_rfl) rfl, enters_of Tryz.func37 (by kernel_rfl) rfl, fun W hx => (fresh_any B s p W hx).mono fun _ _ h => h.d, fun hm W hx hb hg => ?_, by rw [hn]; rfl, by rw [hn]; rfl, by rw [hn]; rfl, by rw [hn]; rfl⟩
  obtain ⟨tp, htp⟩ := hc hm; obtain ⟨q1, q2, q3, q4⟩ := hI.cur tp htp; exact key_any B s p t _ W hx hb hg hta tp htp (by omega)
theorem dirH5 (B : Nat) (s : PS) (p : PV) (t : Tok) (m : Nat) (hI : s.Inv m) (_hm6 : m ≤ 1000000) (hal : t.text.length ≤ 1000000) (hn : t.name = [115, 101, 101]) : DirH B s p t 5 35 38 := by
  have hta : (tidyF t.text).length ≤ 1000000 := Nat.le_trans (tidy_len t.text) hal
  have hc : s.may 5 = true → ∃ tp, s.cur = some tp := fun hm => Option.isSome_iff_exists.1 (fresh_cur hm)
  refine ⟨fun W r hW => look_hit t.name 5 _ (by rw [hn]; rfl) W r hW, enters_of Tryz.func35 (by kernel_rfl) rfl, enters_of Tryz.func38 (by kernel_rfl) rfl, fun W hx => (fresh_any B s p W hx).mono fun _ _ h => h.d, fun hm W hx hb hg => ?_, by rw [hn]; rfl, by rw [hn]; rfl, by rw [hn]; rfl, by rw [hn]; rfl⟩
  obtain ⟨tp, htp⟩ := hc hm; obtain ⟨q1, q2, q3, q4⟩ := hI.cur tp htp; exact see_any B s p t _ W hx hb hg hta tp htp (by omega)
theorem dirH6 (B : Nat) (s : PS) (p : PV) (t : Tok) (m : Nat) (_hI : s.Inv m) (_hm6 : m ≤ 1000000) (hal : t.text.length ≤ 1000000) (hn : t.name = [112, 97, 114, 97]) : DirH B s p t 6 39 40 := by
  have hta : (tidyF t.text).length ≤ 1000000 := Nat.le_trans (tidy_len t.text) hal
  refine ⟨fun W r hW => look_hit t.name 6 _ (by rw [hn]; rfl) W r hW, enters_of Tryz.func39 (by kernel_rfl) rfl, enters_of Tryz.func40 (by kernel_rfl) rfl, fun W hx => mayPara_any B s p W hx, fun hm W hx hb hg => ?_, by rw [hn]; rfl, by rw [hn]; rfl, by rw [hn]; rfl, by rw [hn]; rfl⟩
  exact para_any B s p t _ W hx hb hta
theorem dirH7 (B : Nat) (s : PS) (p : PV) (t : Tok) (m : Nat) (hI : s.Inv m) (hm6 : m ≤ 1000000) (hal : t.text.length ≤ 1000000) (hn : t.name = [108, 105, 115, 116]) : DirH B s p t 7 41 42 := by
  have hta : (tidyF t.text).length ≤ 1000000 := Nat.le_trans (tidy_len t.text) hal
  have hc : s.may 7 = true → ∃ tp, s.cur = some tp := fun hm => Option.isSome_iff_exists.1 (by have h : s.mayList = true := hm; unfold PS.mayList at h; simp only [Bool.and_eq_true] at h; exact h.1)
  refine ⟨fun W r hW => look_hit t.name 7 _ (by rw [hn]; rfl) W r hW, enters_of Tryz.func41 (by kernel_rfl) rfl, enters_of Tryz.func42 (by kernel_rfl) rfl, fun W hx => (mayList_any B s p W hx).mono fun _ _ h => h.d, fun hm W hx hb hg => ?_, by rw [hn]; rfl, by rw [hn]; rfl, by rw [hn]; rfl, by rw [hn]; rfl⟩
  obtain ⟨tp, htp⟩ := hc hm; obtain ⟨q1, q2, q3, q4⟩ := hI.cur tp htp; exact list_any B s p t _ W hx hb tp htp (by omega) (by have := hI.opn; omega)
theorem dirH8 (B : Nat) (s : PS) (p : PV) (t : Tok) (m : Nat) (hI : s.Inv m) (hm6 : m ≤ 1000000) (hal : t.text.length ≤ 1000000) (hn : t.name = [105, 116, 101, 109]) : DirH B s p t 8 43 45 := by
  have hta : (tidyF t.text).length ≤ 1000000 := Nat.le_trans (tidy_len t.text) hal
  have hlc : s.may 8 = true → ∃ tp, s.cur = some tp ∧ ∃ l, s.last = some l := fun hm => by
    have hl : ∃ l, s.last = some l := by
      cases hl : s.last with
      | none => unfold PS.may at hm; simp [hl] at hm
      | some l => exact ⟨l, rfl⟩
    obtain ⟨l, hl⟩ := hl
    obtain ⟨tp, htp⟩ := Option.isSome_iff_exists.1 (hI.ink (last_ne hl))
    exact ⟨tp, htp, l, hl⟩
  refine ⟨fun W r hW => look_hit t.name 8 _ (by rw [hn]; rfl) W r hW, enters_of Tryz.func43 (by kernel_rfl) rfl, enters_of Tryz.func45 (by kernel_rfl) rfl, fun W hx => (lastIs0_any B s p W hx).mono fun _ _ h => h.d, fun hm W hx hb hg => ?_, by rw [hn]; rfl, by rw [hn]; rfl, by rw [hn]; rfl, by rw [hn]; rfl⟩
  obtain ⟨tp, htp, l, hl⟩ := hlc hm; obtain ⟨q1, q2, q3, q4⟩ := hI.cur tp htp; obtain ⟨r1, r2, r3⟩ := hI.lv l (last_mem hl); exact item_any B s p t _ W hx hb tp htp l hl (by omega) (by omega)
theorem dirH9 (B : Nat) (s : PS) (p : PV) (t : Tok) (m : Nat) (hI : s.Inv m) (hm6 : m ≤ 1000000) (hal : t.text.length ≤ 1000000) (hn : t.name = [116, 97, 98, 108, 101]) : DirH B s p t 9 46 47 := by
  have hta : (tidyF t.text).length ≤ 1000000 := Nat.le_trans (tidy_len t.text) hal
  have hc : s.may 9 = true → ∃ tp, s.cur = some tp := fun hm => Option.isSome_iff_exists.1 (by have h : (s.cur.isSome && s.last.isNone) = true := hm; simp only [Bool.and_eq_true] at h; exact h.1)
  refine ⟨fun W r hW => look_hit t.name 9 _ (by rw [hn]; rfl) W r hW, enters_of Tryz.func46 (by kernel_rfl) rfl, enters_of Tryz.func47 (by kernel_rfl) rfl, fun W hx => (mayTable_any B s p W hx).mono fun _ _ h => h.d, fun hm W hx hb hg => ?_, by rw [hn]; rfl, by rw [hn]; rfl, by rw [hn]; rfl, by rw [hn]; rfl⟩
  obtain ⟨tp, htp⟩ := hc hm; obtain ⟨q1, q2, q3, q4⟩ := hI.cur tp htp; exact table_any B s p t _ W hx hb tp htp (by omega) (by have := hI.opn; omega) hg hta
theorem dirH10 (B : Nat) (s : PS) (p : PV) (t : Tok) (m : Nat) (hI : s.Inv m) (hm6 : m ≤ 1000000) (hal : t.text.length ≤ 1000000) (hn : t.name = [114, 111, 119]) : DirH B s p t 10 48 49 := by
  have hta : (tidyF t.text).length ≤ 1000000 := Nat.le_trans (tidy_len t.text) hal
  have hlc : s.may 10 = true → ∃ tp, s.cur = some tp ∧ ∃ l, s.last = some l := fun hm => by
    have hl : ∃ l, s.last = some l := by
      cases hl : s.last with
      | none => unfold PS.may at hm; simp [hl] at hm
      | some l => exact ⟨l, rfl⟩
    obtain ⟨l, hl⟩ := hl
    obtain ⟨tp, htp⟩ := Option.isSome_iff_exists.1 (hI.ink (last_ne hl))
    exact ⟨tp, htp, l, hl⟩
  refine ⟨fun W r hW => look_hit t.name 10 _ (by rw [hn]; rfl) W r hW, enters_of Tryz.func48 (by kernel_rfl) rfl, enters_of Tryz.func49 (by kernel_rfl) rfl, fun W hx => (lastIs1_any B s p W hx).mono fun _ _ h => h.d, fun hm W hx hb hg => ?_, by rw [hn]; rfl, by rw [hn]; rfl, by rw [hn]; rfl, by rw [hn]; rfl⟩
  obtain ⟨tp, htp, l, hl⟩ := hlc hm; obtain ⟨q1, q2, q3, q4⟩ := hI.cur tp htp; obtain ⟨r1, r2, r3⟩ := hI.lv l (last_mem hl); exact row_any B s p t _ W hx hb tp htp l hl (by omega) (by omega)
theorem dirH11 (B : Nat) (s : PS) (p : PV) (t : Tok) (m : Nat) (hI : s.Inv m) (hm6 : m ≤ 1000000) (hal : t.text.length ≤ 1000000) (hn : t.name = [101, 110, 100]) : DirH B s p t 11 50 51 := by
  have hta : (tidyF t.text).length ≤ 1000000 := Nat.le_trans (tidy_len t.text) hal
  have hlc : s.may 11 = true → ∃ tp, s.cur = some tp ∧ ∃ l, s.last = some l := fun hm => by
    have hl : ∃ l, s.last = some l := by
      cases hl : s.last with
      | none => unfold PS.may at hm; simp [hl] at hm
      | some l => exact ⟨l, rfl⟩
    obtain ⟨l, hl⟩ := hl
    obtain ⟨tp, htp⟩ := Option.isSome_iff_exists.1 (hI.ink (last_ne hl))
    exact ⟨tp, htp, l, hl⟩
  refine ⟨fun W r hW => look_hit t.name 11 _ (by rw [hn]; rfl) W r hW, enters_of Tryz.func50 (by kernel_rfl) rfl, enters_of Tryz.func51 (by kernel_rfl) rfl, fun W hx => (lastSome_any B s p W hx).mono fun _ _ h => h.d, fun hm W hx hb hg => ?_, by rw [hn]; rfl, by rw [hn]; rfl, by rw [hn]; rfl, by rw [hn]; rfl⟩
  obtain ⟨tp, htp, l, hl⟩ := hlc hm; obtain ⟨q1, q2, q3, q4⟩ := hI.cur tp htp; obtain ⟨r1, r2, r3⟩ := hI.lv l (last_mem hl); exact end_any B s p t _ W hx hb tp htp l hl (by omega)
theorem name_cases (x : Wd) : (∃ i, PS.names.findIdx? (· == x) = some i ∧ PS.names[i]? = some x) ∨ (PS.names.findIdx? (· == x) = none ∧ ∀ y ∈ PS.names, y ≠ x) := by
  cases h : PS.names.findIdx? (· == x) with
  | none =>
    right
    refine ⟨rfl, fun y hy e => ?_⟩
    have := List.findIdx?_eq_none_iff.1 h y hy
    rw [e] at this
    simp at this
  | some i =>
    left
    obtain ⟨hi, h1, h2⟩ := List.findIdx?_eq_some_iff_getElem.1 h
    refine ⟨i, rfl, ?_⟩
    rw [List.getElem?_eq_getElem hi]
    simp only [beq_iff_eq] at h1
    rw [h1]
theorem dirH_all (B : Nat) (s : PS) (p : PV) (t : Tok) (m : Nat) (hI : s.Inv m) (hm6 : m ≤ 1000000) (hal : t.text.length ≤ 1000000) (i : Nat) (hi : PS.names[i]? = some t.name) : ∃ f g, DirH B s p t i f g := by
  have h12 : i < 12 := by
    rcases Nat.lt_or_ge i 12 with h | h
    · exact h
    · rw [List.getElem?_eq_none (show PS.names.length ≤ i from h)] at hi; cases hi
  match i, h12 with
  | 0, _ => exact ⟨_, _, dirH0 B s p t m hI hm6 hal (Option.some.inj hi).symm⟩
  | 1, _ => exact ⟨_, _, dirH1 B s p t m hI hm6 hal (Option.some.inj hi).symm⟩
  | 2, _ => exact ⟨_, _, dirH2 B s p t m hI hm6 hal (Option.some.inj hi).symm⟩
  | 3, _ => exact ⟨_, _, dirH3 B s p t m hI hm6 hal (Option.some.inj hi).symm⟩
  | 4, _ => exact ⟨_, _, dirH4 B s p t m hI hm6 hal (Option.some.inj hi).symm⟩
  | 5, _ => exact ⟨_, _, dirH5 B s p t m hI hm6 hal (Option.some.inj hi).symm⟩
  | 6, _ => exact ⟨_, _, dirH6 B s p t m hI hm6 hal (Option.some.inj hi).symm⟩
  | 7, _ => exact ⟨_, _, dirH7 B s p t m hI hm6 hal (Option.some.inj hi).symm⟩
  | 8, _ => exact ⟨_, _, dirH8 B s p t m hI hm6 hal (Option.some.inj hi).symm⟩
  | 9, _ => exact ⟨_, _, dirH9 B s p t m hI hm6 hal (Option.some.inj hi).symm⟩
  | 10, _ => exact ⟨_, _, dirH10 B s p t m hI hm6 hal (Option.some.inj hi).symm⟩
  | 11, _ => exact ⟨_, _, dirH11 B s p t m hI hm6 hal (Option.some.inj hi).symm⟩
set_option maxHeartbeats 1600000 in
/-- A directive: what it makes of the parser, or its fault. -/
theorem sdirective_any (B : Nat) (s : PS) (p : PV) (t : Tok) (m : Nat) (w : World) (h : ParR B w s p) (hB : B ≤ w.heap.size) (hg : Glb w) (hI : s.Inv m) (hm6 : m ≤ 1000000) (hal : t.text.length ≤ 1000000) :
    Calls Tryz.prog 14 #[parP p, tokV t] w (DoPost B p.b p.vm (s.directive t) w) := by
  cases hp : s.para with
  | some q =>
    rw [show s.directive t = .error (q.flt 53) from by unfold PS.directive; rw [hp]]
    exact directive_open B s p t q w h hB hp
  | none =>
    rcases name_cases t.name with ⟨i, hi, hn⟩ | ⟨hi, hn⟩
    · obtain ⟨f, g, hD⟩ := dirH_all B s p t m hI hm6 hal i hn
      have hd : s.directive t = if s.may i = false then .error (t.flt 50) else if s.shortRow i then .error (t.flt 54) else match (if i = 1 ∨ i = 2 then s.close else .ok s) with
          | .error e => .error e
          | .ok s => s.do_ t (tidyF t.text) i := by
        unfold PS.directive; rw [hp]; simp only [hi]; rfl
      rw [hd]
      cases hm : s.may i with
      | false => rw [if_pos rfl]; exact directive_not B s p t i f g w h hB hp hD hm
      | true =>
        rw [if_neg (by decide)]
        have hq : ∀ t, s.cur = some t → t.blks.length ≤ 4000000 ∧ bytesF t.blks ≤ 4000000000000 := fun t ht => by
          obtain ⟨q1, q2, q3, q4⟩ := hI.cur t ht
          exact ⟨by omega, by omega⟩
        cases hs : s.shortRow i with
        | false => rw [if_neg (by decide)]; exact directive_go B s p t i f g w h hB hg hal hp hD hm hq hs
        | true =>
          rw [if_pos rfl]
          unfold PS.shortRow at hs
          cases hl : s.last with
          | none => rw [hl] at hs; cases hs
          | some l =>
            rw [hl] at hs
            simp only [Bool.and_eq_true, Bool.or_eq_true, beq_iff_eq, decide_eq_true_eq] at hs
            exact directive_short B s p t i f g w h hB hg hal hp hD hm l hl hs.1.1.1 hs.1.2 hs.2 hs.1.1.2
    · rw [show s.directive t = .error (t.flt 50) from by unfold PS.directive; rw [hp]; simp only [hi]]
      exact directive_miss B s p t w h hB hp hn
end Go.Proofs.YtafhmagifoapfaaGreatDoor
namespace Go.Proofs.YtafhmagifoapfaaGreatDoor
open Go.RowKit Find Bk
attribute [local go_sem ↓] Go.wp_at_zero Go.wp_at_succ
theorem owns_base {w : World} {B B' : Nat} {e : TypeId} {size n : Nat} {v : Value} {xs : List Value} (h : w.ownsRow B e size v n xs) (hb : B' ≤ B) : w.ownsRow B' e size v n xs := by
  refine ⟨h.1, ?_⟩
  rcases h.2 with h0 | ⟨g, cap, cur, rfl, h1, h2, h3⟩
  · exact .inl h0
  · exact .inr ⟨g, cap, cur, rfl, Nat.le_trans hb h1, h2, h3⟩
set_option maxHeartbeats 6400000 in
set_option maxRecDepth 100000 in
theorem paragraph_out (w0 : World) (s : PS) (p : PV) (a : Option Addr) (c : Nat) (t : Tok) (r : List Tok) (w : World) (h : ParR w0.heap.size w s p) (hat : ToksAt w0 a c (t :: r)) (hbw : Below w0.heap.size w0 w) (hm : s.mayPara = false) :
    Calls Tryz.prog 15 #[parP p, .slice a (t :: r).length c] w (DoPost w0.heap.size p.b p.vm (.error ⟨if s.inRow then 54 else 52, t.line, t.col, []⟩) w) := by
  have hM := mayPara_any w0.heap.size s p w h
  rw [hm] at hM
  have HM := Lib.hid hM
  have hR := fun k => inRow_any w0.heap.size s p (w.drewN k) (h.drewN k)
  obtain ⟨ir, hir⟩ : ∃ x, s.inRow = x := ⟨_, rfl⟩
  rw [hir] at hR ⊢
  have HR := Lib.hid hR
  obtain ⟨g, o, rfl, hg, e0, e1, e2, e3, e4⟩ := (hat.below hbw).first
  have hc := hat.cap
  rw [List.length_cons] at hc ⊢
  obtain ⟨n, hn⟩ : ∃ n, r.length = n := ⟨_, rfl⟩
  rw [hn] at hc ⊢
  have hi0 : (0 : Int) < ((n + 1 : Nat) : Int) := by omega
  have HE := Lib.hid (fun (k : Nat) (hk : k ≠ 0) w => stop_any k t.line t.col [] w hk)
  have hsz := hbw.size
  have HBW : Hid (∀ k, Below w0.heap.size w (w.drewN k)) := Lib.hid fun k => below_drewM (Below.refl _ _) k
  clear h hat hbw hm hM hR hir hn
  cases ir
  all_goals
    go_enter Tryz.func15, Tryz.ntmps15
    go_wp2_with (first
      | (go_at_call 39; refine HM.out.mono ?_; rintro e w1 ⟨rfl, k1, rfl⟩)
      | (go_at_call 55; refine (HR.out _).mono ?_; rintro e w2 ⟨rfl, rfl⟩)
      | fail)
    go_region_with (first
      | (go_at_call 56
         refine (HE.out _ (by decide) _).mono ?_
         intro e w9 hst
         rcases (show (e = .returned (.tuple #[]) ∧ Hid False) ∨ StopPost _ _ e w9 from .inr hst) with h2 | h2
         rotate_left
         (obtain ⟨v, rfl, hf, hb⟩ := h2
          have hb2 := hb.mono (show w0.heap.size ≤ _ from hsz)
          exact ⟨rfl, (HBW.out _).trans (Below.trans (by first | exact Below.refl _ _ | exact (Below.refl _ _).drew) hb2), v, rfl, hf⟩)
         obtain ⟨rfl, hF⟩ := h2)
      | fail)
    all_goals exact hF.out.elim
/-- What a paragraph makes of the parser. -/
def parOut (s1 : PS) (ir : Bool) : Except Flt (List Pc) → Except Flt PS
  | .error e => .error e
  | .ok b => .ok ((if ir = true then PS.setLast s1 fun l => { l with cells := l.cells + 1 } else s1).add b)
set_option maxHeartbeats 6400000 in
set_option maxRecDepth 100000 in
theorem paragraph_in (w0 : World) (s : PS) (p : PV) (a : Option Addr) (c : Nat) (t : Tok) (r : List Tok) (w : World) (h : ParR w0.heap.size w s p) (hat : ToksAt w0 a c (t :: r)) (hbw : Below w0.heap.size w0 w) (hm : s.mayPara = true) (hx : ∀ x ∈ t :: r, x.text.length ≤ 1000000) (hd : (dep 0 (t :: r)).isSome = true) (hL : (t :: r).length ≤ 1000000)
    (hI : ∀ tp, s.cur = some tp → tp.blks.length ≤ 4000000) (hcl : ∀ l ∈ s.opn, l.cells ≤ 4000000) :
    Calls Tryz.prog 15 #[parP p, .slice a (t :: r).length c] w (DoPost w0.heap.size p.b p.vm (s.paragraph (t :: r)) w) := by
  have hres : s.paragraph (t :: r) = parOut { s with para := none } s.inRow (piecesF (t :: r).length (t :: r) [] [] 0) := by
    unfold PS.paragraph parOut
    simp only [hm, Bool.true_eq_false, if_false]
    split
    · rename_i e he; rw [he]
    · rename_i b hb; rw [hb]; cases s.inRow <;> rfl
  rw [hres]
  have hM := mayPara_any w0.heap.size s p w h
  rw [hm] at hM
  have HM := Lib.hid hM
  have hcur : ∃ tp, s.cur = some tp := by
    unfold PS.mayPara at hm
    simp only [Bool.and_eq_true] at hm
    exact Option.isSome_iff_exists.1 hm.1
  obtain ⟨tp, htp⟩ := hcur
  have hnb := hI tp htp
  have HX := Lib.hid h
  have HAT := Lib.hid hat
  have HBW := Lib.hid hbw
  have hsz := hbw.size
  obtain ⟨g, o, rfl, hg, e0, e1, e2, e3, e4⟩ := (hat.below hbw).first
  have hg0 : g < w0.heap.size := by obtain ⟨g', o', he, hg', _⟩ := hat.first; cases he; exact hg'
  have hc := hat.cap
  have HPC := Lib.hid (fun (W : World) (hb : Below w0.heap.size w0 W) => pieces_any _ c (t :: r) W (hat.below hb) hx hd hL)
  obtain ⟨R, hR⟩ : ∃ R, piecesF (t :: r).length (t :: r) [] [] 0 = R := ⟨_, rfl⟩
  rw [hR] at HPC ⊢
  rw [List.length_cons] at hc ⊢
  simp only [List.length_cons] at HPC
  obtain ⟨n, hn⟩ : ∃ n, r.length = n := ⟨_, rfl⟩
  rw [hn] at hc HPC ⊢
  have hi0 : (0 : Int) < ((n + 1 : Nat) : Int) := by omega
  obtain ⟨c0, c1, c2, c3, c4, c5, cf⟩ := par_cells h
  have hpl := h.lt
  have hpb := h.base
  obtain ⟨pa, pc, hv⟩ := owns_slice h.para
  rw [hv] at c4
  clear c0 c1 c2 c3 c5 hm hM hres hbw hat hn hx hd hL
  -- the block's own style, what waits struck
  obtain ⟨m, hm⟩ : ∃ m, s.para.toList.length = m := ⟨_, rfl⟩
  obtain ⟨bp, hbp⟩ : ∃ b, decide (0 < m) = b := ⟨_, rfl⟩
  have hbi : decide ((0 : Int) < (m : Int)) = bp := by rw [← hbp]; congr 1; simp
  have hpara : (bp = false ∧ s.para = none) ∨ ∃ q gq, bp = true ∧ m = 1 ∧ s.para = some q ∧ pa = some ⟨gq, 0, none⟩ ∧ gq < w.heap.size ∧ w.cell? ⟨gq, 2, none⟩ = some (.string ⟨q.text.toArray⟩) := by
    cases hp : s.para with
    | none => left; rw [hp] at hm; subst hm; subst hbp; exact ⟨rfl, rfl⟩
    | some q =>
      right
      rw [hp] at hm
      have hpa := h.para
      rw [hv, hp] at hpa
      simp only [Option.toList_some, List.length_singleton] at hpa hm
      subst hm; subst hbp
      rcases hpa.2 with ⟨h0, _⟩ | ⟨gq, cap, cur, he, h1, h2, h3, h4, h5⟩
      · cases h0
      · cases he
        exact ⟨q, gq, rfl, rfl, rfl, rfl, lt_of_heap h2, by rw [hpa.cellAt 2 (by omega)]; simp [toksC, tokC]⟩
  have HPARA := Lib.hid hpara
  rw [hm] at c4
  clear hpara hm
  clear h hv
  obtain ⟨s1, hs1⟩ : ∃ s1 : PS, { s with para := none } = s1 := ⟨_, rfl⟩
  have hs1c : s1.cur = some tp := by rw [← hs1]; exact htp
  have hs1r : s1.inRow = s.inRow := by rw [← hs1]; rfl
  have hs1l : s1.last = s.last := by rw [← hs1]; rfl
  have hs1o : s1.opn = s.opn := by rw [← hs1]
  rw [hs1]
  obtain ⟨ir, hir⟩ : ∃ x, s.inRow = x := ⟨_, rfl⟩
  rw [hir]
  obtain ⟨RES, hRES⟩ : ∃ x : Except Flt PS, parOut s1 ir R = x := ⟨_, rfl⟩
  rw [hRES]
  have HRES := Lib.hid hRES
  clear hRES
  have hX1 : ∀ w1, (∃ k, w1 = w.drewN k) → ParR w0.heap.size (w1.setCell ⟨p.b, 4, none⟩ (.slice none 0 0)) s1 { p with vP := .slice none 0 0 } := fun w1 ⟨k, hk⟩ => by
    rw [← hs1, hk]
    exact (HX.out.drewN k).waits (x := none) (World.ownsRow_nil _ _ _ _)
  have hX0 : s.para = none → ∀ w1, (∃ k, w1 = w.drewN k) → ParR w0.heap.size w1 s1 p := fun hp w1 ⟨k, hk⟩ => by
    have : s1 = s := by rw [← hs1]; cases s; simp only at hp; rw [hp]
    rw [this, hk]
    exact HX.out.drewN k
  have HX1 := Lib.hid hX1
  have HX0 := Lib.hid hX0
  have HS := Lib.hid (And.intro hs1c (And.intro hs1r (And.intro hs1l hs1o)))
  have HIR := Lib.hid hir
  have HCL := Lib.hid hcl
  clear hX1 hX0 hs1c hs1r hs1l hs1o hir hs1 hcl
  go_enter Tryz.func15, Tryz.ntmps15
  go_upto_if 31 with (first
    | (go_at_call 39; refine HM.out.mono ?_; rintro e w1 ⟨rfl, k1, hk1⟩; have f3 : w1.cell? ⟨g, o + 3, none⟩ = some (.int .i64 t.line) := (by rw [hk1]; exact e3); have g4 : w1.cell? ⟨p.b, 4, none⟩ = some (.slice pa m pc) := (by rw [hk1]; exact c4); have gf : (∀ i, w1.frozen? ⟨p.b, i, none⟩ = false) := (by rw [hk1]; exact cf); have hz1 : w1.heap.size = w.heap.size := (by rw [hk1]; rfl); have hp1 : p.b < w1.heap.size := (by rw [hz1]; exact hpl); have hw1 : w0.heap.size ≤ w1.heap.size := (by rw [hz1]; exact hsz); have HZ1 := Lib.hid hz1; have HK1 := Lib.hid hk1; clear hk1 hz1 e0 e1 e2 e3 e4 c4 cf hpl)
    | fail)
  go_cut [] (fun wx => ∃ (p1 : PV) (st : ByteArray) (W' : World), Hid (ParR w0.heap.size W' s1 p1 ∧ p1.b = p.b ∧ p1.vm = p.vm ∧ W'.heap.size = w1.heap.size ∧ Below w1.heap.size W' wx ∧ Below w0.heap.size w wx) ∧ wx.heap[w1.heap.size]? = some (.cells #[.int .i64 1, .int .i64 0, .string st, .slice none 0 0, .slice none 0 0, .int .i64 t.line] 114 (0, 0)))
  case first =>
    rcases HPARA.out with ⟨rfl, hpn⟩ | ⟨q, gq, rfl, rfl, hps, rfl, hgq, hq⟩
    · go_wp2_with fail
      go_meet
      exact ⟨p, ⟨#[]⟩, w1, Lib.hid ⟨HX0.out hpn w1 ⟨k1, HK1.out⟩, rfl, rfl, rfl, (Below.refl _ _).alloc (Nat.le_refl _) _, by rw [HK1.out]; exact (below_drewM (Below.refl _ _) k1).alloc hsz _⟩, heap_alloc_new _ _⟩
    · have hq1 : w1.cell? ⟨gq, 2, none⟩ = some (.string ⟨q.text.toArray⟩) := by rw [HK1.out]; exact hq
      rw [← HZ1.out] at hgq
      clear hps hq
      go_wp2_with fail
      go_meet
      have hcm : (w1.alloc (.cells #[.int .i64 1, .int .i64 0, .string ⟨q.text.toArray⟩, .slice none 0 0, .slice none 0 0, .int .i64 t.line] 114)).setCell ⟨p.b, 4, none⟩ (.slice none 0 0) = (w1.setCell ⟨p.b, 4, none⟩ (.slice none 0 0)).alloc (.cells #[.int .i64 1, .int .i64 0, .string ⟨q.text.toArray⟩, .slice none 0 0, .slice none 0 0, .int .i64 t.line] 114) := World.setCell_alloc_past _ _ _ _ hp1
      have hb1 : Below w0.heap.size w (w1.setCell ⟨p.b, 4, none⟩ (.slice none 0 0)) := by rw [HK1.out]; exact (below_drewM (Below.refl _ _) k1).setCell hpb _
      have hzs : (w1.setCell ⟨p.b, 4, none⟩ (.slice none 0 0)).heap.size = w1.heap.size := by simp
      exact ⟨{ p with vP := .slice none 0 0 }, ⟨q.text.toArray⟩, _, Lib.hid ⟨HX1.out w1 ⟨k1, HK1.out⟩, rfl, rfl, hzs, (Below.refl _ _).alloc (by rw [hzs]; exact Nat.le_refl _) _, hb1.alloc (by rw [hzs]; exact hw1) _⟩, by rw [← hzs]; exact heap_alloc_new _ _⟩
  case rest =>
    obtain ⟨w2, hw2⟩ : ∃ W, W = wc := ⟨wc, rfl⟩
    subst hw2
    obtain ⟨p1, st, W', hcut, hblk⟩ := hcut
    have HW := Lib.hid hcut
    have HBLK := Lib.hid hblk
    have b0 : w2.cell? ⟨w1.heap.size, 0, none⟩ = some (.int .i64 1) := by rw [cell_of_heap hblk]; rfl
    have b1 : w2.cell? ⟨w1.heap.size, 1, none⟩ = some (.int .i64 0) := by rw [cell_of_heap hblk]; rfl
    have b2 : w2.cell? ⟨w1.heap.size, 2, none⟩ = some (.string st) := by rw [cell_of_heap hblk]; rfl
    have b3 : w2.cell? ⟨w1.heap.size, 3, none⟩ = some (.slice none 0 0) := by rw [cell_of_heap hblk]; rfl
    have b4 : w2.cell? ⟨w1.heap.size, 4, none⟩ = some (.slice none 0 0) := by rw [cell_of_heap hblk]; rfl
    have b5 : w2.cell? ⟨w1.heap.size, 5, none⟩ = some (.int .i64 t.line) := by rw [cell_of_heap hblk]; rfl
    have bf : ∀ i, w2.frozen? ⟨w1.heap.size, i, none⟩ = false := fun i => free_of_heap hblk
    have hlt2 := lt_of_heap hblk
    have hpc := HPC.out w2 (HBW.out.trans hcut.2.2.2.2.2)
    unfold PiecesPost at hpc
    have hpbb := hcut.2.1
    clear hcut hblk f3 g4 gf hp1 HPARA HX1 HX0 HPC hbi hbp
    cases R with
    | error fe =>
      have HPC := Lib.hid hpc
      have hRe := Lib.hid (show RES = .error fe from HRES.out.symm)
      clear hpc
      go_wp2_with (first
        | (go_at_call 57; refine HPC.out.mono ?_; rintro e w3 ⟨hb3, v, rfl, hf⟩)
        | fail)
      refine ⟨rfl, ?_⟩
      rw [hRe.out]
      exact ⟨HW.out.2.2.2.2.2.trans (hb3.mono (by omega)), v, rfl, hf⟩
    | ok b =>
      have HPC := Lib.hid hpc
      clear hpc
      -- the world behind the pieces
      have hnext : ∀ (w3 : World) (v : Value), Below w2.heap.size w2 w3 → ParR w0.heap.size (w3.setCell ⟨w1.heap.size, 4, none⟩ v) s1 p1 ∧ Below w0.heap.size w (w3.setCell ⟨w1.heap.size, 4, none⟩ v) := fun w3 v hb => by
        obtain ⟨q1, q2, q3, q4, q5, q6⟩ := HW.out
        have hb9 : Below w1.heap.size W' (w3.setCell ⟨w1.heap.size, 4, none⟩ v) := (q5.trans (hb.mono (by omega))).setCell (Nat.le_refl _) _
        exact ⟨q1.new (by rw [q4]; exact hb9), (q6.trans (hb.mono (by omega))).setCell hw1 _⟩
      have HNX := Lib.hid hnext
      clear hnext
      go_upto_region 10 with (first
        | (go_at_call 57; refine HPC.out.mono ?_; rintro e w3 ⟨hb3, v, il, rfl, hil, hrow⟩; obtain ⟨va, vc, rfl⟩ := owns_slice hrow; have hbl3 := (hb3.block w1.heap.size hlt2).trans HBLK.out; have x4 : w3.cell? ⟨w1.heap.size, 4, none⟩ = some (.slice none 0 0) := (by rw [cell_of_heap hbl3]; rfl); have xf : (∀ i, w3.frozen? ⟨w1.heap.size, i, none⟩ = false) := (fun i => free_of_heap hbl3); have HBL3 := Lib.hid hbl3; have HROW := Lib.hid hrow; have HB3 := Lib.hid hb3; have HIL := Lib.hid hil; have hz3 := hb3.size; clear hbl3 hrow hb3 hil b0 b1 b2 b3 b4 b5 bf)
        | fail)
      obtain ⟨w4, hw4⟩ : ∃ W, w3.setCell ⟨w1.heap.size, 4, none⟩ (.slice va il.length vc) = W := ⟨_, rfl⟩
      rw [hw4]
      have hb4 : w4.heap[w1.heap.size]? = some (.cells #[.int .i64 1, .int .i64 0, .string st, .slice none 0 0, .slice va il.length vc, .int .i64 t.line] 114 (0, 0)) := by rw [← hw4, setCell_heap' HBL3.out]; rfl
      have b0 : w4.cell? ⟨w1.heap.size, 0, none⟩ = some (.int .i64 1) := by rw [cell_of_heap hb4]; rfl
      have b1 : w4.cell? ⟨w1.heap.size, 1, none⟩ = some (.int .i64 0) := by rw [cell_of_heap hb4]; rfl
      have b2 : w4.cell? ⟨w1.heap.size, 2, none⟩ = some (.string st) := by rw [cell_of_heap hb4]; rfl
      have b3 : w4.cell? ⟨w1.heap.size, 3, none⟩ = some (.slice none 0 0) := by rw [cell_of_heap hb4]; rfl
      have b4 : w4.cell? ⟨w1.heap.size, 4, none⟩ = some (.slice va il.length vc) := by rw [cell_of_heap hb4]; rfl
      have b5 : w4.cell? ⟨w1.heap.size, 5, none⟩ = some (.int .i64 t.line) := by rw [cell_of_heap hb4]; rfl
      have hP4 : ParR w0.heap.size w4 s1 p1 ∧ Below w0.heap.size w w4 := by rw [← hw4]; exact HNX.out w3 _ HB3.out
      have HP4 := Lib.hid hP4
      have hz4 : w4.heap.size = w3.heap.size := by rw [← hw4]; simp
      have htx : TextR w0.heap.size w4 (.slice va il.length vc) b := ⟨il, HIL.out, owns_base (by rw [← hw4]; exact owns_chg HROW.out (Chg.setCell HBL3.out _) (by decide)) (by omega)⟩
      have HTX := Lib.hid htx
      have hIR := inRow_any w0.heap.size s1 p1 w4 hP4.1
      rw [HS.out.2.1, HIR.out] at hIR
      have hpp : parP p1 = parP p := by unfold parP; rw [hpbb]
      rw [hpp] at hIR
      have HIRW := Lib.hid hIR
      have hpvm := HW.out.2.2.1
      clear hb4 hP4 htx hIR hw4 x4 xf HBL3 HROW HNX
      cases ir with
      | false =>
        have hRe := Lib.hid (show RES = .ok (s1.add b) from HRES.out.symm)
        have hA := add_any w0.heap.size s1 p1 tp 1 0 (.string st) (.slice none 0 0) (.slice va il.length vc) t.line b w4 HP4.out.1 HS.out.1 (by omega) HTX.out hnb ⟨⟨_, rfl⟩, _, _, _, rfl⟩
        rw [hpp, hpbb, hpvm] at hA
        have HA := Lib.hid hA
        clear hA
        go_wp2_with (first
          | (go_at_call 55; refine HIRW.out.mono ?_; rintro e w5 ⟨rfl, rfl⟩)
          | (go_at_call 58; refine HA.out.mono ?_; rintro e w6 ⟨rfl, hb6, hp6⟩; have HB6 := Lib.hid hb6; have HP6 := Lib.hid hp6; clear hb6 hp6)
          | fail)
        go_end0
        rw [hRe.out]
        exact ⟨HP4.out.2.trans HB6.out, rfl, HP6.out⟩
      | true =>
        have hli : ∃ l, s.last = some l := by
          have := HIR.out
          unfold PS.inRow at this
          cases hl : s.last with
          | none => rw [hl] at this; cases this
          | some l => exact ⟨l, rfl⟩
        obtain ⟨l, hl⟩ := hli
        have hl1 : s1.last = some l := HS.out.2.2.1.trans hl
        have hRe := Lib.hid (show RES = .ok ((s1.setLast fun _ => { l with cells := l.cells + 1 }).add b) from by rw [← HRES.out]; unfold parOut; rw [if_pos rfl, setLast_eq hl1])
        have hlc : l.cells ≤ 4000000 := HCL.out l (by rw [← HS.out.2.2.2]; exact last_mem hl1)
        obtain ⟨cap, -, -, d0, d1, d2, d3, d4, d5, d6, d7, d8, d9, df, dq, dB⟩ := lvl_cells HP4.out.1 hl1
        have hqn : p1.q < w1.heap.size := by
          obtain ⟨_, -, -, -, -, -, -, -, -, -, -, -, -, -, q9, -⟩ := lvl_cells HW.out.1 hl1
          rw [← HW.out.2.2.2.1]; exact q9
        have hL := last_any w0.heap.size s1 p1 w4 HP4.out.1
        rw [lastP_some hl1] at hL
        rw [hpp] at hL
        have HL := Lib.hid hL
        have hX5 := HP4.out.1.lvlSet (l' := { l with cells := l.cells + 1 }) hl1 3 (.int .i64 ((l.cells + 1 : Nat) : Int)) rfl
        have hz5 : (w4.setCell ⟨p1.q, p1.r + 3, none⟩ (.int .i64 ((l.cells + 1 : Nat) : Int))).heap.size = w4.heap.size := by simp
        have hA := add_any w0.heap.size (s1.setLast fun _ => { l with cells := l.cells + 1 }) p1 tp 1 0 (.string st) (.slice none 0 0) (.slice va il.length vc) t.line b (w4.setCell ⟨p1.q, p1.r + 3, none⟩ (.int .i64 ((l.cells + 1 : Nat) : Int))) hX5 (by rw [setLast_cur]; exact HS.out.1) (by omega) (by
          obtain ⟨il2, hi2, hr2⟩ := HTX.out
          obtain ⟨cq, hcq⟩ := owns_kind HP4.out.1.opn p1.q (by obtain ⟨cap', h1', _⟩ := HP4.out.1.opq (last_ne hl1); rw [h1']; rfl)
          exact ⟨il2, hi2, owns_chg hr2 (Chg.setCell hcq _) (by decide)⟩) hnb ⟨⟨_, rfl⟩, _, _, _, rfl⟩
        rw [hpp, hpbb, hpvm] at hA
        have HA := Lib.hid hA
        have hne : ¬ p1.q = w1.heap.size := by omega
        clear hA hL d0 d1 d2 d4 d5 d6 d7 d8 d9 hX5 hl hl1
        go_wp2_with (first
          | (go_at_call 55; refine HIRW.out.mono ?_; rintro e w5 ⟨rfl, rfl⟩)
          | (go_at_call 44; refine HL.out.mono ?_; rintro e w5 ⟨rfl, rfl⟩)
          | (go_at_call 58; refine HA.out.mono ?_; rintro e w6 ⟨rfl, hb6, hp6⟩; have HB6 := Lib.hid hb6; have HP6 := Lib.hid hp6; clear hb6 hp6)
          | fail)
        go_end0
        rw [hRe.out]
        exact ⟨(HP4.out.2.setCell dB _).trans HB6.out, rfl, HP6.out⟩
end Go.Proofs.YtafhmagifoapfaaGreatDoor
