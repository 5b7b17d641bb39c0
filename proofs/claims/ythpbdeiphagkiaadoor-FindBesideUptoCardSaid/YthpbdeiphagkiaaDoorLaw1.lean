/- The laws' own small functions over texts and numbers: twin, holds, has, Ints, Rise, topics. -/
import Derived.Test.YthpbdeiphagkiaaDoorParseW
import Derived.Test.YthpbdeiphagkiaaDoorTopics
import Derived.Laws.AppendOwnNone
namespace Go.Proofs.YthpbdeiphagkiaaDoor
open Go.RowKit Find

/-- What twin tells: the same texts in new memory. -/
def TwinPost (l : List Wd) (w : World) (e : Ending) (w' : World) : Prop := ∃ v, e = .returned v ∧ w'.ownsRow w.heap.size 9 1 v l.length (l.map st) ∧ Below w.heap.size w w'
set_option maxHeartbeats 2000000 in
theorem twin_any (l : List Wd) (v : Value) (w : World) (h : StrSl w v l) (hnil : ∀ c, v = .slice none 0 c → c = 0) (hn : l.length ≤ 1099511627776) :
    Calls Tryd.prog 9 #[v] w (TwinPost l w) := by
  obtain ⟨i0, hi0, hz0, hz1, hz2⟩ := info_parts info_str
  obtain ⟨a, c, rfl, hc⟩ := h
  have HC := Lib.hid hc
  clear hc
  by_cases h0 : l.length = 0
  · have hl : l = [] := List.eq_nil_of_length_eq_zero h0
    subst hl
    rw [List.length_nil]
    cases a with
    | none =>
      obtain rfl : c = 0 := hnil c rfl
      · go_enter Tryd.func9, Tryd.ntmps9
        go_wp2_with (at_builtin; refine wpList_append_own_none rfl (.const (.slice none 0 0)) (.tmp 3) 22 rfl w.heap.size 9 i0 1 Tryd.underlying22 hi0 (.slice none 0 0) 0 [] rfl (World.ownsRow_nil _ _ _ _) rfl ?_)
        go_ret
        exact ⟨_, rfl, World.ownsRow_nil _ _ _ _, Below.refl _ _⟩
    | some ad =>
      go_enter Tryd.func9, Tryd.ntmps9
      go_wp2_with (at_builtin; refine wpList_append_own _ rfl (.const (.slice none 0 0)) (.tmp 3) 22 rfl w.heap.size 9 i0 _ 1 16 Tryd.underlying22 hi0 hz0 hz1 hz2 rfl (by omega) (.slice none 0 0) 0 [] rfl (World.ownsRow_nil _ _ _ _) ad 0 c [] rfl (by simp) (by simp) (by simp) (by unfold maxLen; omega) (by omega) (by simp) ?_; intro v' w1 hown hgrow _)
      go_ret
      exact ⟨_, rfl, by simpa using hown, (Below.refl _ _).grown hgrow (by simp) (fun j hj => by cases hj)⟩
  · have hp : 0 < l.length := by omega
    obtain ⟨g, o, rfl, _⟩ := HC.out 0 hp
    have HN := Lib.hid (show ∀ j u, (l.map st)[j]? = some u → w.cell? ((⟨g, o, none⟩ : Addr).add j) = some u from fun j u hu => by
      rw [List.getElem?_map] at hu
      obtain ⟨x, hx, rfl⟩ := Option.map_eq_some_iff.1 hu
      obtain ⟨hj, hxe⟩ := List.getElem?_eq_some_iff.1 hx
      obtain ⟨g', o', he, hcell⟩ := HC.out j hj
      simp only [Option.some.injEq, Addr.mk.injEq] at he
      obtain ⟨rfl, rfl, _⟩ := he
      rw [add_none, hcell, hxe])
    go_enter Tryd.func9, Tryd.ntmps9
    go_wp2_with (at_builtin; refine wpList_append_lies _ rfl (.const (.slice none 0 0)) (.tmp 3) 22 rfl w.heap.size 9 i0 _ 1 16 Tryd.underlying22 hi0 hz0 hz1 hz2 rfl (by omega) (.slice none 0 0) 0 [] rfl (World.ownsRow_nil _ _ _ _) ⟨g, o, none⟩ l.length c (l.map st) rfl (by simp) HN.out (by simp [Value.oneCell']) (by omega) (by unfold maxLen; omega) (by omega) (Nat.le_refl _) (w.heap.size) rfl ?_; intro gg cap w1 hown hgrow hat hlt; simp only [Nat.zero_add, List.nil_append] at hown)
    go_ret
    exact ⟨_, rfl, by simpa using hown, (Below.refl _ _).grown hgrow (Nat.le_refl _) (fun j hj => by cases hj)⟩

set_option maxHeartbeats 1000000 in
theorem holds_any (l : List Wd) (x : Wd) (a : Option Addr) (c : Nat) (w : World) (h : StrSl w (.slice a l.length c) l) (hn : l.length ≤ 1099511627776) :
    Calls Tryd.prog 11 #[.slice a l.length c, st x] w fun e w' => e = .returned (.bool (decide (x ∈ l))) ∧ w = w' := by
  have H := Lib.hid h
  clear h
  go_enter Tryd.func11, Tryd.ntmps11
  go_wp2
  go_loopw [9] (fun q wr => ∃ k : Nat, k ≤ l.length ∧ q = .int .i64 k ∧ Hid (x ∉ l.take k) ∧ w = wr) (fun q _ => l.length - (intOf q).toNat)
  case atStart => exact ⟨0, Nat.zero_le _, rfl, Lib.hid (by simp), rfl⟩
  case round =>
    obtain ⟨k, hk, rfl, hno, rfl⟩ := hrel
    by_cases hlt : k < l.length
    · obtain ⟨g, o, rfl, hcell⟩ : ∃ g o, a = some ⟨g, o, none⟩ ∧ w.cell? ⟨g, o + k, none⟩ = some (st l[k]) := by
        obtain ⟨a', c', he, hc⟩ := H.out
        obtain ⟨g, o, rfl, hcell⟩ := hc k hlt
        exact ⟨g, o, by simpa using congrArg (fun v => match v with | Value.slice a _ _ => a | _ => none) he, hcell⟩
      have htk : l.take (k + 1) = l.take k ++ [l[k]] := List.take_succ_eq_append_getElem hlt
      have hmem : l[k] ∈ l := List.getElem_mem hlt
      generalize l[k] = y at *
      have HTK := Lib.hid htk
      have HM := Lib.hid hmem
      clear htk hmem
      by_cases hxy : y = x
      · subst hxy
        have hb : (y == y) = true := by simp
        go_wp2
        go_ret
        exact ⟨ret_bool (by simp [HM.out]), rfl⟩
      · have hb : (y == x) = false := by simpa using hxy
        go_wp2
        go_roundw
        case rel => exact ⟨k + 1, by omega, by go_num, Lib.hid (by rw [HTK.out]; simp; exact ⟨hno.out, fun e => hxy e.symm⟩), (by first | rfl | trivial)⟩
        case measure => simp [intOf] <;> omega
    · have HN := Lib.hid (show x ∉ l from by have := hno.out; rwa [List.take_of_length_le (by omega)] at this)
      clear hno
      go_wp2
      go_ret
      exact ⟨ret_bool (by simp [HN.out]), rfl⟩

/-- A row of numbers. -/
def intCells (l : List Int) : List Value := l.map (Value.int .i64)
def IntRow (w : World) (v : Value) (l : List Int) : Prop := w.ownsRow 0 3 1 v l.length (intCells l)
theorem IntRow.at_ {w : World} {a : Option Addr} {c : Nat} {l : List Int} (h : IntRow w (.slice a l.length c) l) {k : Nat} (hk : k < l.length) : ∃ g, a = some ⟨g, 0, none⟩ ∧ w.cell? ⟨g, k, none⟩ = some (.int .i64 l[k]) := by
  obtain ⟨g, cap, he, _⟩ := h.form (by omega)
  simp only [Value.slice.injEq] at he
  obtain ⟨rfl, _, rfl⟩ := he
  have := h.cells (g := g) rfl k (.int .i64 l[k]) (by unfold intCells; rw [List.getElem?_map, List.getElem?_eq_getElem hk]; rfl)
  rw [add_none, Nat.zero_add] at this
  exact ⟨g, rfl, this⟩
theorem IntRow.new {w w' : World} {v : Value} {l : List Int} (h : IntRow w v l) (hb : Below w.heap.size w w') : IntRow w' v l := owns_new h hb
theorem IntRow.form {w : World} {v : Value} {l : List Int} (h : IntRow w v l) : ∃ a c, v = .slice a l.length c := slice_form h
set_option maxHeartbeats 1000000 in
theorem hasInt_any (l : List Int) (x : Int) (a : Option Addr) (c : Nat) (w : World) (h : IntRow w (.slice a l.length c) l) (hn : l.length ≤ 1099511627776) :
    Calls Tryd.prog 17 #[.slice a l.length c, .int .i64 x] w fun e w' => e = .returned (.bool (decide (x ∈ l))) ∧ w = w' := by
  have H := Lib.hid h
  clear h
  go_enter Tryd.func17, Tryd.ntmps17
  go_wp2
  go_loop [9] (fun q => ∃ k : Nat, k ≤ l.length ∧ q = .int .i64 k ∧ Hid (x ∉ l.take k)) (fun q => l.length - (intOf q).toNat)
  case atStart => exact ⟨0, Nat.zero_le _, rfl, Lib.hid (by simp)⟩
  case round =>
    obtain ⟨k, hk, rfl, hno⟩ := hrel
    by_cases hlt : k < l.length
    · obtain ⟨g, rfl, hcell⟩ := H.out.at_ hlt
      have htk : l.take (k + 1) = l.take k ++ [l[k]] := List.take_succ_eq_append_getElem hlt
      have hmem : l[k] ∈ l := List.getElem_mem hlt
      generalize l[k] = y at *
      have HTK := Lib.hid htk
      have HM := Lib.hid hmem
      clear htk hmem
      by_cases hxy : y = x
      · subst hxy
        have hb : (y == y) = true := by simp
        go_wp2
        go_ret
        exact ⟨ret_bool (by simp [HM.out]), rfl⟩
      · have hb : (y == x) = false := by simpa using hxy
        go_wp2
        go_round
        case rel => exact ⟨k + 1, by omega, by go_num, Lib.hid (by rw [HTK.out]; simp; exact ⟨hno.out, fun e => hxy e.symm⟩)⟩
        case measure => simp [intOf] <;> omega
    · have HN := Lib.hid (show x ∉ l from by have := hno.out; rwa [List.take_of_length_le (by omega)] at this)
      clear hno
      go_wp2
      go_ret
      exact ⟨ret_bool (by simp [HN.out]), rfl⟩

set_option maxHeartbeats 1000000 in
theorem ints1_any (l m : List Int) (a b : Option Addr) (c d : Nat) (w : World) (h : IntRow w (.slice a l.length c) l) (h' : IntRow w (.slice b m.length d) m) (hn : l.length ≤ 1099511627776) (hm : m.length ≤ 1099511627776) :
    Calls Tryd.prog 24 #[.slice a l.length c, .slice b m.length d] w fun e w' => e = .returned (.bool (decide (l = m))) ∧ Below w.heap.size w w' := by
  have H := Lib.hid h
  have H' := Lib.hid h'
  clear h h'
  by_cases hlen : l.length = m.length
  · have hb : ((l.length : Int) != (m.length : Int)) = false := by rw [hlen]; simp
    have hb2 : (l.length != m.length) = false := by rw [hlen]; simp
    have HL := Lib.hid hlen
    have hle : l.length ≤ m.length := by omega
    clear hlen
    go_enter Tryd.func24, Tryd.ntmps24
    go_wp2
    go_loopw [13] (fun q wr => ∃ k : Nat, k ≤ l.length ∧ q = .int .i64 k ∧ Hid (l.take k = m.take k) ∧ Below w.heap.size w wr ∧ ∃ nq, wr = w.drewN nq) (fun q _ => l.length - (intOf q).toNat)
    case atStart => exact ⟨0, Nat.zero_le _, rfl, Lib.hid (by simp), Below.refl _ _, 0, rfl⟩
    case round =>
      obtain ⟨k, hk, rfl, heq, hbw, nq0, hwr⟩ := hrel
      have HWR := Lib.hid hwr
      have HBW := Lib.hid hbw
      clear hwr hbw
      by_cases hlt : k < l.length
      · have hlt2 : k < m.length := by omega
        obtain ⟨g, rfl, hc1⟩ := (H.out.new HBW.out).at_ hlt
        obtain ⟨g2, rfl, hc2⟩ := (H'.out.new HBW.out).at_ hlt2
        have ht1 : l.take (k + 1) = l.take k ++ [l[k]] := List.take_succ_eq_append_getElem hlt
        have ht2 : m.take (k + 1) = m.take k ++ [m[k]] := List.take_succ_eq_append_getElem hlt2
        have hne : l[k] ≠ m[k] → l ≠ m := fun h e => by subst e; exact h rfl
        have hr1 : ((l[k] : Int) != m[k]) = true ∨ l[k] = m[k] := by
          by_cases e : l[k] = m[k]
          · exact .inr e
          · left; simpa using e
        generalize l[k] = y at *
        generalize m[k] = z at *
        have HT1 := Lib.hid ht1
        have HT2 := Lib.hid ht2
        have HNE := Lib.hid hne
        clear ht1 ht2 hne
        rcases hr1 with hyz | hyz
        · have HF := Lib.hid (HNE.out (by simpa using hyz))
          go_wp2_with fail
          go_quiet (fail)
          go_wp2_with fail
          go_ret
          exact ⟨ret_bool (by simp [HF.out]), below_drewN HBW.out _⟩
        · subst hyz
          have hyy : (y != y) = false := by simp
          go_wp2_with fail
          go_quiet (fail)
          go_wp2_with fail
          go_roundw
          case rel => exact ⟨k + 1, by omega, by go_num, Lib.hid (by rw [HT1.out, HT2.out, heq.out]), below_drewN HBW.out _, _, by rw [HWR.out, World.drewN_drewN]⟩
          case measure => simp [intOf] <;> omega
      · have HE := Lib.hid (show l = m from by
          have := heq.out
          rwa [List.take_of_length_le (by omega), List.take_of_length_le (by have := HL.out; omega)] at this)
        clear heq
        go_wp2
        go_ret
        exact ⟨ret_bool (by simp [HE.out]), HBW.out⟩
  · have hb : ((l.length : Int) != (m.length : Int)) = true := by rw [bne_iff_ne]; omega
    have hb2 : (l.length != m.length) = true := by rw [bne_iff_ne]; exact hlen
    have HL := Lib.hid (show l ≠ m from fun e => hlen (by rw [e]))
    clear hlen
    go_enter Tryd.func24, Tryd.ntmps24
    go_wp2
    go_ret
    exact ⟨ret_bool (by simp [HL.out]), Below.refl _ _⟩
set_option maxHeartbeats 1000000 in
theorem ints_any (l m : List Int) (a b : Option Addr) (c d : Nat) (w : World) (h : IntRow w (.slice a l.length c) l) (h' : IntRow w (.slice b m.length d) m) (hn : l.length ≤ 1099511627776) (hm : m.length ≤ 1099511627776) :
    Calls Tryd.prog 12 #[.slice a l.length c, .slice b m.length d] w fun e w' => e = .returned (.bool (decide (l = m))) ∧ Below w.heap.size w w' := by
  have H := Lib.hid (ints1_any l m a b c d w h h' hn hm)
  clear h h'
  go_enter Tryd.func12, Tryd.ntmps12
  go_wp2_with (go_at_call 24; refine H.out.mono ?_; rintro e w1 ⟨rfl, hb1⟩)
  go_ret
  exact ⟨rfl, hb1⟩
end Go.Proofs.YthpbdeiphagkiaaDoor
