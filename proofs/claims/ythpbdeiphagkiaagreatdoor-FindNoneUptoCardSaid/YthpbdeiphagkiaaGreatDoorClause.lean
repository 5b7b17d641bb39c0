/- find.clause. -/
import Derived.Test.YthpbdeiphagkiaaGreatDoorPlain
import Derived.Test.YthpbdeiphagkiaaGreatDoorFound
import Derived.Deep.DeepCutAuto
import Derived.Deep.RegionHeld3
import Derived.Deep.RegionLaw
namespace Go.Proofs.YthpbdeiphagkiaaGreatDoor
open Go.RowKit Find

def Find.noF (s : Wd) : Bool := s.head? == some 45
def Find.bodyF (s : Wd) : Wd := if noF s then s.tail else s
def Find.quoteF (no : Bool) (t : Wd) : Cl × Wd := (⟨words (cutQ t).1, no, (cutQ t).2.1.head? == some 42⟩, if (cutQ t).2.1.head? == some 42 then (cutQ t).2.1.tail else (cutQ t).2.1)
def Find.nF (t : Wd) : Nat := if Lib.indexAny t [32, 34] < 0 then t.length else (Lib.indexAny t [32, 34]).toNat
def Find.bareF (no : Bool) (t : Wd) : Cl × Wd := (⟨words (t.take (nF t)), no, Lib.hasSuffix (t.take (nF t)) [42] && (nF t == t.length || t.getD (nF t) 0 == 32)⟩, t.drop (nF t))
def Find.clauseF (s : Wd) : Cl × Wd := if (bodyF s).head? == some 34 then quoteF (noF s) (bodyF s).tail else bareF (noF s) (bodyF s)

/-- A text against its list: whether it is empty, its first byte. -/
theorem str_empty {t : ByteArray} (h : t.size = 0) : t.toList.isEmpty = true := by
  rw [Lib.toList_data, List.isEmpty_iff]
  exact List.eq_nil_of_length_eq_zero (by rw [← size_list]; exact h)
theorem str_full {t : ByteArray} (h : 0 < t.size) : t.toList.isEmpty = false := by
  rw [Lib.toList_data, List.isEmpty_eq_false_iff]
  intro e
  rw [size_list, e] at h
  cases h
theorem str_head {t : ByteArray} (h : 0 < t.size) (c : UInt8) : (t.data.toList.head? == some c) = (((t[0]'h).toNat : Int) == (c.toNat : Int)) := by
  have h1 : t.data.toList.head? = some (t[0]'h) := by
    rw [List.head?_eq_getElem?, List.getElem?_eq_getElem (by rw [← size_list]; exact h)]; rfl
  rw [h1, Bool.eq_iff_iff, beq_iff_eq, beq_iff_eq]
  constructor
  · intro e; cases e; rfl
  · intro e
    have : (t[0]'h).toNat = c.toNat := by omega
    rw [Option.some.injEq]; exact UInt8.toNat_inj.1 this
theorem str_tail (t : ByteArray) : t.extract 1 t.size = ⟨t.data.toList.tail.toArray⟩ := by rw [drop_ext, List.drop_one]

/-- What clause tells. -/
def ClausePost (l : Wd) (w : World) (e : Ending) (w' : World) : Prop :=
  ∃ a c, e = .returned (.tuple #[.agg #[.slice a (clauseF l).1.words.length c, .bool (clauseF l).1.no, .bool (clauseF l).1.opn], .string ⟨(clauseF l).2.toArray⟩]) ∧ StrRow w' (.slice a (clauseF l).1.words.length c) (clauseF l).1.words ∧ Below w.heap.size w w'

/-- The two blocks that clause makes: the result, the clause. -/
structure CB (w : World) (v : Value) (no o : Bool) (wx : World) : Prop where
  rb : wx.heap[w.heap.size]? = some (.cells #[.slice none 0 0, .bool false, .bool false] 62 (0, 0))
  cb : wx.heap[w.heap.size + 1]? = some (.cells #[v, .bool no, .bool o] 62 (0, 0))
  below : Below w.heap.size w wx
theorem CB.drew {w wx : World} {v : Value} {no o : Bool} (h : CB w v no o wx) : CB w v no o wx.drew := ⟨h.rb, h.cb, h.below.drew⟩
theorem CB.drewN {w wx : World} {v : Value} {no o : Bool} (h : CB w v no o wx) (n : Nat) : CB w v no o (wx.drewN n) := ⟨h.rb, h.cb, below_drewN h.below n⟩
theorem CB.made (w : World) (no : Bool) : CB w (.slice none 0 0) no false ((w.alloc (.cells #[.slice none 0 0, .bool false, .bool false] 62)).alloc (.cells #[.slice none 0 0, .bool no, .bool false] 62)) := by
  refine ⟨?_, ?_, ((Below.refl _ w).alloc (Nat.le_refl _) _).alloc (by simp) _⟩
  · rw [Below.heap_alloc _ _ _ (by simp)]; exact heap_alloc_new _ _
  · have := heap_alloc_new (w.alloc (.cells #[.slice none 0 0, .bool false, .bool false] 62)) (.cells #[.slice none 0 0, .bool no, .bool false] 62)
    rw [World.size_alloc] at this; exact this
theorem CB.keep {w wx wy : World} {v : Value} {no o : Bool} (h : CB w v no o wx) (hb : Below wx.heap.size wx wy) : CB w v no o wy :=
  ⟨(hb.block _ (lt_of_heap h.rb)).trans h.rb, (hb.block _ (lt_of_heap h.cb)).trans h.cb, h.below.trans (hb.mono h.below.size)⟩
theorem CB.cells {w wx : World} {v : Value} {no o : Bool} (h : CB w v no o wx) : wx.cell? ⟨w.heap.size + 1, 0, none⟩ = some v ∧ wx.cell? ⟨w.heap.size + 1, 1, none⟩ = some (.bool no) ∧ wx.cell? ⟨w.heap.size + 1, 2, none⟩ = some (.bool o) ∧ (∀ i, wx.frozen? ⟨w.heap.size + 1, i, none⟩ = false) ∧
    wx.cell? ⟨w.heap.size, 0, none⟩ = some (.slice none 0 0) ∧ wx.cell? ⟨w.heap.size, 1, none⟩ = some (.bool false) ∧ wx.cell? ⟨w.heap.size, 2, none⟩ = some (.bool false) ∧ (∀ i, wx.frozen? ⟨w.heap.size, i, none⟩ = false) :=
  ⟨by rw [Lib.cell_of_heap h.cb]; rfl, by rw [Lib.cell_of_heap h.cb]; rfl, by rw [Lib.cell_of_heap h.cb]; rfl, fun i => Lib.frozen_of_heap h.cb i, by rw [Lib.cell_of_heap h.rb]; rfl, by rw [Lib.cell_of_heap h.rb]; rfl, by rw [Lib.cell_of_heap h.rb]; rfl, fun i => Lib.frozen_of_heap h.rb i⟩
theorem CB.set0 {w wx : World} {v : Value} {no o : Bool} (h : CB w v no o wx) (u : Value) : CB w u no o (wx.setCell ⟨w.heap.size + 1, 0, none⟩ u) :=
  ⟨by rw [setCell_heap_ne (by omega)]; exact h.rb, by rw [setCell_heap h.cb]; rfl, h.below.setCell (p := ⟨w.heap.size + 1, 0, none⟩) (Nat.le_succ _) u⟩
theorem CB.set1 {w wx : World} {v : Value} {no o : Bool} (h : CB w v no o wx) (u : Bool) : CB w v u o (wx.setCell ⟨w.heap.size + 1, 1, none⟩ (.bool u)) :=
  ⟨by rw [setCell_heap_ne (by omega)]; exact h.rb, by rw [setCell_heap h.cb]; rfl, h.below.setCell (p := ⟨w.heap.size + 1, 1, none⟩) (Nat.le_succ _) _⟩
theorem CB.set2 {w wx : World} {v : Value} {no o : Bool} (h : CB w v no o wx) (u : Bool) : CB w v no u (wx.setCell ⟨w.heap.size + 1, 2, none⟩ (.bool u)) :=
  ⟨by rw [setCell_heap_ne (by omega)]; exact h.rb, by rw [setCell_heap h.cb]; rfl, h.below.setCell (p := ⟨w.heap.size + 1, 2, none⟩) (Nat.le_succ _) _⟩
theorem CB.row {w wx : World} {v : Value} {no o : Bool} (h : CB w v no o wx) {u : Value} {l : List Wd} (hr : StrRow wx u l) (i : Nat) (x : Value) : StrRow (wx.setCell ⟨w.heap.size + 1, i, none⟩ x) u l :=
  owns_keep hr fun g hg => setCell_heap_ne (fun e => by
    obtain ⟨c, hc⟩ := owns_kind hr g hg
    rw [← e, h.cb] at hc
    simp only [Option.some.injEq, Obj.cells.injEq] at hc
    exact absurd hc.2.1 (by decide)) x
/-- The result's block, written whole. -/
theorem CB.res {w wx : World} {v : Value} {no o : Bool} (h : CB w v no o wx) {u : Value} {l : List Wd} (hr : StrRow wx u l) (x y z : Value) :
    (((wx.setCell ⟨w.heap.size, 0, none⟩ x).setCell ⟨w.heap.size, 1, none⟩ y).setCell ⟨w.heap.size, 2, none⟩ z).heap[w.heap.size]? = some (.cells #[x, y, z] 62 (0, 0)) ∧
    StrRow (((wx.setCell ⟨w.heap.size, 0, none⟩ x).setCell ⟨w.heap.size, 1, none⟩ y).setCell ⟨w.heap.size, 2, none⟩ z) u l ∧
    Below w.heap.size w (((wx.setCell ⟨w.heap.size, 0, none⟩ x).setCell ⟨w.heap.size, 1, none⟩ y).setCell ⟨w.heap.size, 2, none⟩ z) := by
  refine ⟨three_put h.rb x y z, owns_keep hr fun g hg => ?_, below_three h.below (Nat.le_refl _) x y z⟩
  have hne : w.heap.size ≠ g := fun e => by
    obtain ⟨c, hc⟩ := owns_kind hr g hg
    rw [← e, h.rb] at hc
    simp only [Option.some.injEq, Obj.cells.injEq] at hc
    exact absurd hc.2.1 (by decide)
  rw [setCell_heap_ne hne, setCell_heap_ne hne, setCell_heap_ne hne]

theorem extract_full (t : ByteArray) : t.extract 0 t.size = t := by
  rw [take_ext]
  apply ba_ext
  simp only
  rw [size_list, List.take_length]
theorem indexAny_lt (l : List UInt8) : Lib.indexAny l [32, 34] < l.length := by
  induction l with
  | nil => show (-1 : Int) < 0; decide
  | cons b l ih =>
    unfold Lib.indexAny
    have hg := Lib.indexAny_ge [32, 34] l
    simp only [List.length_cons]
    repeat' split
    all_goals (push_cast; omega)

set_option maxHeartbeats 8000000 in
set_option maxRecDepth 100000 in
theorem clause_any (s : ByteArray) (w : World) (hT : Tabs w) (h0 : 0 < s.size) (hs : s.size ≤ 1000) :
    Calls Tryz.prog 33 #[.string s] w (ClausePost s.data.toList w) := by
  have hz3 : Tryz.prog.cellsOf 62 = 3 := by kernel_rfl
  have HT := Lib.hid hT
  have hTl := hT.lt
  clear hT
  have hh := str_head h0 45
  rw [show ((45 : UInt8).toNat : Int) = 45 from rfl] at hh
  have HH := Lib.hid hh
  clear hh
  have hl1 : (1 : Int) ≤ (s.size : Int) := by omega
  go_enter Tryz.func33, Tryz.ntmps33
  go_upto_if 11 with fail
  go_cut [0] (fun s0 wx => ∃ t : ByteArray, s0 = .string t ∧ Hid (t.data.toList = bodyF s.data.toList) ∧ t.size ≤ s.size ∧ CB w (.slice none 0 0) (noF s.data.toList) false wx)
  case first =>
    cases hc : ((((s[0]'h0).toNat : Int)) == 45) with
    | true =>
      have HN := Lib.hid (show noF s.data.toList = true from HH.out.trans hc)
      go_wp2_with fail
      go_region
      all_goals
        go_wp2_with fail
        go_meet
        refine ⟨_, rfl, Lib.hid ?_, ?_, ?_⟩
        · rw [str_tail]; show s.data.toList.tail = _; rw [bodyF, HN.out]; rfl
        · rw [str_tail, size_list]; simp only [List.length_tail, ← size_list]; omega
        · rw [HN.out]; exact (CB.made w true).drew
    | false =>
      have HN := Lib.hid (show noF s.data.toList = false from HH.out.trans hc)
      go_wp2_with fail
      go_meet
      exact ⟨s, rfl, Lib.hid (by rw [bodyF, HN.out]; rfl), Nat.le_refl _, by rw [HN.out]; exact CB.made w false⟩
  case rest =>
    obtain ⟨t, rfl, hbody, hts, hcb⟩ := hcut
    generalize hno : noF s.data.toList = no at *
    have HNO := Lib.hid hno
    have HCB := Lib.hid hcb
    have hT2 := HT.out.below hcb.below
    have HT2 := Lib.hid hT2
    have hwc := hcb.below.size
    clear hno hcb hT2 HH
    by_cases hqu : ∃ h : 0 < t.size, (t[0]'h).toNat = 34
    · obtain ⟨ht0, hq⟩ := hqu
      have hfull := str_full ht0
      have hq1 : (((t[0]'ht0).toNat : Int) == 34) = true := by rw [hq]; rfl
      have hl2 : (1 : Int) ≤ (t.size : Int) := by omega
      have HF := Lib.hid (show clauseF s.data.toList = quoteF no t.data.toList.tail from by
        unfold clauseF
        rw [← hbody.out, str_head ht0 34, show ((34 : UInt8).toNat : Int) = 34 from rfl, hq1, if_pos rfl, HNO.out])
      have hk1 : (cutQ t.data.toList.tail).1.length ≤ 1000 := by
        unfold cutQ
        split
        · simp only [List.length_take, List.length_tail, ← size_list]; omega
        · simp only [List.length_tail, ← size_list]; omega
      have HU := Lib.hid (show ∀ W, Calls Tryz.prog 57 #[.string (t.extract 1 t.size), .string ⟨#[34]⟩] W fun e w' => e = .returned (.tuple #[.string ⟨(cutQ t.data.toList.tail).1.toArray⟩, .string ⟨(cutQ t.data.toList.tail).2.1.toArray⟩, .bool (cutQ t.data.toList.tail).2.2]) ∧ Below W.heap.size W w' from fun W => by
        have := cut_any (t.extract 1 t.size) W (by rw [str_tail, size_list]; simp only [List.length_tail, ← size_list]; omega)
        rw [str_tail] at this ⊢
        exact this)
      obtain ⟨k1, hk1e⟩ : ∃ k, k = (cutQ t.data.toList.tail).1 := ⟨_, rfl⟩
      obtain ⟨R, hR⟩ : ∃ R : ByteArray, R = ⟨(cutQ t.data.toList.tail).2.1.toArray⟩ := ⟨_, rfl⟩
      obtain ⟨kb, hkb⟩ : ∃ b, b = (cutQ t.data.toList.tail).2.2 := ⟨_, rfl⟩
      have hRl : R.data.toList = (cutQ t.data.toList.tail).2.1 := by rw [hR]
      have HWD := Lib.hid (show ∀ W, Tabs W → Calls Tryz.prog 14 #[.string ⟨k1.toArray⟩] W fun e w' => ∃ a c, e = .returned (.slice a (words k1).length c) ∧ StrRow w' (.slice a (words k1).length c) (words k1) ∧ Below W.heap.size W w' from fun W hW => by
        refine (words_any ⟨k1.toArray⟩ W hW (by show k1.toArray.size ≤ _; rw [hk1e, List.size_toArray]; omega)).mono ?_
        rintro e w' ⟨v, rfl, ho, hb⟩
        obtain ⟨a, c, rfl⟩ := slice_form ho
        exact ⟨a, c, rfl, owns_zero ho, hb⟩)
      rw [← hk1e, ← hR, ← hkb] at HU
      have HK := Lib.hid hk1e
      have HRL := Lib.hid hRl
      clear hk1e hR hkb hRl hk1 hq
      by_cases hR0 : R.size = 0
      · have hemp := str_empty hR0
        have hnil : R.data.toList = [] := List.eq_nil_of_length_eq_zero (by rw [← size_list]; exact hR0)
        have HX := Lib.hid (show clauseF s.data.toList = (⟨words k1, no, false⟩, []) from by
          rw [HF.out, quoteF, ← HK.out, ← HRL.out, hnil]; rfl)
        have HRN := Lib.hid (show R = ⟨#[]⟩ from ba_ext (by rw [hnil]))
        clear hnil
        clear hR0
        go_wp2_with (first | (go_at_call 57; refine (HU.out _).mono ?_; rintro e w1 ⟨rfl, hb1⟩; have HC1 := Lib.hid (HCB.out.keep hb1); have HT1 := Lib.hid (HT2.out.below hb1); clear hb1) | (go_at_call 14; refine (HWD.out _ HT1.out).mono ?_; rintro e w2 ⟨a, c, rfl, hr, hb2⟩; have HC2 := Lib.hid (HC1.out.keep hb2); have HR2 := Lib.hid hr; clear hr hb2; obtain ⟨c0, c1, c2, cf, r0, r1, r2, rf⟩ := HC2.out.cells))
        obtain ⟨z0, hrz, hbz⟩ := (HC2.out.set0 (.slice a (words k1).length c)).res (HC2.out.row HR2.out 0 (.slice a (words k1).length c)) (.slice a (words k1).length c) (.bool no) (.bool false)
        generalize ((((w2.setCell ⟨w.heap.size + 1, 0, none⟩ (.slice a (words k1).length c)).setCell ⟨w.heap.size, 0, none⟩ (.slice a (words k1).length c)).setCell ⟨w.heap.size, 1, none⟩ (.bool no)).setCell ⟨w.heap.size, 2, none⟩ (.bool false)) = Z at z0 hrz hbz ⊢
        have q0 : Z.cell? ⟨w.heap.size, 0, none⟩ = some (.slice a (words k1).length c) := by rw [Lib.cell_of_heap z0]; rfl
        have q1 : Z.cell? ⟨w.heap.size, 1, none⟩ = some (.bool no) := by rw [Lib.cell_of_heap z0]; rfl
        have q2 : Z.cell? ⟨w.heap.size, 2, none⟩ = some (.bool false) := by rw [Lib.cell_of_heap z0]; rfl
        refine bodyPost_ret (v := .tuple #[.agg #[.slice a (words k1).length c, .bool no, .bool false], .string R]) (by simp [results, Tryz.results33, go_sem, q0, q1, q2, hz3, List.range_succ]) rfl ?_
        unfold ClausePost
        rw [HX.out, HRN.out]
        exact ⟨a, c, rfl, hrz, hbz⟩
      · have hR1 : 0 < R.size := by omega
        have hfr := str_full hR1
        have hhd := str_head hR1 42
        rw [show ((42 : UInt8).toNat : Int) = 42 from rfl] at hhd
        have hl3 : (1 : Int) ≤ (R.size : Int) := by omega
        clear hR0
        cases hst : (((R[0]'hR1).toNat : Int) == 42) with
        | false =>
          have HX := Lib.hid (show clauseF s.data.toList = (⟨words k1, no, false⟩, R.data.toList) from by
            rw [HF.out, quoteF, ← HK.out, ← HRL.out, hhd, hst]; rfl)
          clear hhd
          go_wp2_with (first | (go_at_call 57; refine (HU.out _).mono ?_; rintro e w1 ⟨rfl, hb1⟩; have HC1 := Lib.hid (HCB.out.keep hb1); have HT1 := Lib.hid (HT2.out.below hb1); clear hb1) | (go_at_call 14; refine (HWD.out _ HT1.out).mono ?_; rintro e w2 ⟨a, c, rfl, hr, hb2⟩; have HC2 := Lib.hid (HC1.out.keep hb2); have HR2 := Lib.hid hr; clear hr hb2; obtain ⟨c0, c1, c2, cf, r0, r1, r2, rf⟩ := HC2.out.cells))
          obtain ⟨z0, hrz, hbz⟩ := (HC2.out.set0 (.slice a (words k1).length c)).res (HC2.out.row HR2.out 0 (.slice a (words k1).length c)) (.slice a (words k1).length c) (.bool no) (.bool false)
          generalize ((((w2.setCell ⟨w.heap.size + 1, 0, none⟩ (.slice a (words k1).length c)).setCell ⟨w.heap.size, 0, none⟩ (.slice a (words k1).length c)).setCell ⟨w.heap.size, 1, none⟩ (.bool no)).setCell ⟨w.heap.size, 2, none⟩ (.bool false)) = Z at z0 hrz hbz ⊢
          have q0 : Z.cell? ⟨w.heap.size, 0, none⟩ = some (.slice a (words k1).length c) := by rw [Lib.cell_of_heap z0]; rfl
          have q1 : Z.cell? ⟨w.heap.size, 1, none⟩ = some (.bool no) := by rw [Lib.cell_of_heap z0]; rfl
          have q2 : Z.cell? ⟨w.heap.size, 2, none⟩ = some (.bool false) := by rw [Lib.cell_of_heap z0]; rfl
          refine bodyPost_ret (v := .tuple #[.agg #[.slice a (words k1).length c, .bool no, .bool false], .string R]) (by simp [results, Tryz.results33, go_sem, q0, q1, q2, hz3, List.range_succ]) rfl ?_
          unfold ClausePost
          rw [HX.out]
          exact ⟨a, c, by rw [← show R = ⟨R.data.toList.toArray⟩ from ba_ext rfl], hrz, hbz⟩
        | true =>
          have HX := Lib.hid (show clauseF s.data.toList = (⟨words k1, no, true⟩, R.data.toList.tail) from by
            rw [HF.out, quoteF, ← HK.out, ← HRL.out, hhd, hst]; rfl)
          have HRN := Lib.hid (str_tail R)
          clear hhd
          go_wp2_with (first | (go_at_call 57; refine (HU.out _).mono ?_; rintro e w1 ⟨rfl, hb1⟩; have HC1 := Lib.hid (HCB.out.keep hb1); have HT1 := Lib.hid (HT2.out.below hb1); clear hb1) | (go_at_call 14; refine (HWD.out _ HT1.out).mono ?_; rintro e w2 ⟨a, c, rfl, hr, hb2⟩; have HC2 := Lib.hid (HC1.out.keep hb2); have HR2 := Lib.hid hr; clear hr hb2; obtain ⟨c0, c1, c2, cf, r0, r1, r2, rf⟩ := HC2.out.cells))
          go_region
          all_goals
            go_wp2_with fail
            obtain ⟨z0, hrz, hbz⟩ := ((HC2.out.set0 (.slice a (words k1).length c)).set2 true).res ((HC2.out.set0 (.slice a (words k1).length c)).row (HC2.out.row HR2.out 0 (.slice a (words k1).length c)) 2 (.bool true)) (.slice a (words k1).length c) (.bool no) (.bool true)
            generalize (((((w2.setCell ⟨w.heap.size + 1, 0, none⟩ (.slice a (words k1).length c)).setCell ⟨w.heap.size + 1, 2, none⟩ (.bool true)).setCell ⟨w.heap.size, 0, none⟩ (.slice a (words k1).length c)).setCell ⟨w.heap.size, 1, none⟩ (.bool no)).setCell ⟨w.heap.size, 2, none⟩ (.bool true)) = Z at z0 hrz hbz ⊢
            have q0 : Z.drew.cell? ⟨w.heap.size, 0, none⟩ = some (.slice a (words k1).length c) := by rw [Lib.cell_of_heap (w := Z.drew) z0]; rfl
            have q1 : Z.drew.cell? ⟨w.heap.size, 1, none⟩ = some (.bool no) := by rw [Lib.cell_of_heap (w := Z.drew) z0]; rfl
            have q2 : Z.drew.cell? ⟨w.heap.size, 2, none⟩ = some (.bool true) := by rw [Lib.cell_of_heap (w := Z.drew) z0]; rfl
            have HBZ := Lib.hid hbz.drew
            have HRZ := Lib.hid (show StrRow Z.drew (.slice a (words k1).length c) (words k1) from hrz)
            generalize Z.drew = Z1 at *
            refine bodyPost_ret (v := .tuple #[.agg #[.slice a (words k1).length c, .bool no, .bool true], .string (R.extract 1 R.size)]) (by simp [results, Tryz.results33, go_sem, q0, q1, q2, hz3, List.range_succ]) rfl ?_
            unfold ClausePost
            rw [HX.out, HRN.out]
            exact ⟨a, c, rfl, HRZ.out, HBZ.out⟩
    · have HF := Lib.hid (show clauseF s.data.toList = bareF no t.data.toList from by
        unfold clauseF
        rw [← hbody.out, HNO.out, if_neg]
        intro h
        by_cases ht0 : 0 < t.size
        · rw [str_head ht0 34, beq_iff_eq] at h
          exact hqu ⟨ht0, by rw [show ((34 : UInt8).toNat : Int) = 34 from rfl] at h; omega⟩
        · have : t.data.toList = [] := List.eq_nil_of_length_eq_zero (by rw [← size_list]; omega)
          rw [this] at h; cases h)
      have hia := indexAny_any t wc (by omega)
      have hlt := indexAny_lt t.data.toList
      have hge := Lib.indexAny_ge [32, 34] t.data.toList
      rw [← size_list] at hlt
      have hnf : nF t.data.toList = if Lib.indexAny t.data.toList [32, 34] < 0 then t.size else (Lib.indexAny t.data.toList [32, 34]).toNat := by rw [size_list]; rfl
      generalize Lib.indexAny t.data.toList [32, 34] = k at *
      have HIA := Lib.hid hia
      have HNF := Lib.hid hnf
      clear hia hnf
      have HWD0 := Lib.hid (show ∀ n W, n ≤ t.size → Tabs W → Calls Tryz.prog 14 #[.string (t.extract 0 n)] W fun e w' => ∃ a c, e = .returned (.slice a (words (t.data.toList.take n)).length c) ∧ StrRow w' (.slice a (words (t.data.toList.take n)).length c) (words (t.data.toList.take n)) ∧ Below W.heap.size W w' from fun n W hn hW => by
        rw [take_ext]
        refine (words_any ⟨(t.data.toList.take n).toArray⟩ W hW (by show (t.data.toList.take n).toArray.size ≤ _; rw [List.size_toArray, List.length_take, ← size_list]; omega)).mono ?_
        rintro e w' ⟨v, rfl, ho, hb⟩
        obtain ⟨a, c, rfl⟩ := slice_form ho
        exact ⟨a, c, rfl, owns_zero ho, hb⟩)
      have HSF0 := Lib.hid (show ∀ n W, n ≤ t.size → Calls Tryz.prog 59 #[.string (t.extract 0 n), .string ⟨#[42]⟩] W fun e w' => e = .returned (.bool (Lib.hasSuffix (t.data.toList.take n) [42])) ∧ W = w' from fun n W hn => by
        rw [take_ext]
        exact (Tryz.strings_HasSuffix ⟨(t.data.toList.take n).toArray⟩ ⟨#[42]⟩ W (by show (t.data.toList.take n).toArray.size ≤ _; rw [List.size_toArray, List.length_take, ← size_list]; omega)).mono fun e w' ⟨h1, h2⟩ => ⟨h1, h2.symm⟩)
      have htest : (t.toList.isEmpty = true) ∨ ∃ h : 0 < t.size, t.toList.isEmpty = false ∧ (((t[0]'h).toNat : Int) == 34) = false := by
        by_cases ht0 : 0 < t.size
        · right; exact ⟨ht0, str_full ht0, by rw [beq_eq_false_iff_ne]; intro e; exact hqu ⟨ht0, by omega⟩⟩
        · left; exact str_empty (by omega)
      clear hqu
      by_cases hk : k < 0
      · obtain rfl : k = -1 := by omega
        have HN := Lib.hid (show nF t.data.toList = t.size from by rw [HNF.out, if_pos (by omega)])
        clear hk hlt hge
        obtain ⟨p, hp⟩ : ∃ p, p = t.data.toList.take t.size := ⟨_, rfl⟩
        have hwd := fun W => HWD0.out t.size W (Nat.le_refl _)
        have hsfb := fun W => HSF0.out t.size W (Nat.le_refl _)
        rw [← hp, extract_full] at hwd hsfb
        have HWD := Lib.hid hwd
        have HSFB := Lib.hid hsfb
        clear hwd hsfb
        have HP := Lib.hid hp
        clear hp
        cases hsf : Lib.hasSuffix p [42] with
        | true =>
          have HSF := Lib.hid (show ∀ W, Calls Tryz.prog 59 #[.string t, .string ⟨#[42]⟩] W fun e w' => e = .returned (.bool true) ∧ W = w' from by rw [← hsf]; exact HSFB.out)
          have HX := Lib.hid (show clauseF s.data.toList = (⟨words p, no, true⟩, []) from by
            rw [HF.out, bareF, HN.out, ← HP.out, hsf, ← size_list, List.drop_eq_nil_of_le (by rw [← size_list]; exact Nat.le_refl _)]
            simp)
          clear hsf
          rcases htest with hemp | ⟨ht0, hfull, hq1⟩
          all_goals
            go_upto_region 13 with (go_at_call 58; refine HIA.out.mono ?_; rintro e w1 ⟨rfl, hb1⟩; have HC1 := Lib.hid (HCB.out.keep hb1); have HT1 := Lib.hid (HT2.out.below hb1); clear hb1)
            obtain ⟨k0, k1, k2, kf, _⟩ := HC1.out.cells
            have hlt4 := lt_of_heap HC1.out.cb
            go_cut [] (fun wx => ∃ a c, CB w (.slice a (words p).length c) no true wx ∧ StrRow wx (.slice a (words p).length c) (words p))
            case first =>
              have hT1 := Lib.hid HT1.out
              refine wp_region_noPanic ?_
              refine wp_region_held_drew (S := (fun w' => Hid (Tabs w'))) (by kernel_rfl) ?_ (fun hHeld => ?_)
              · (try dsimp only)
                first | assumption | exact hT1 | exact Lib.hid (Tabs.below (Hid.out (by assumption)) hb2) | exact Lib.hid (Tabs.setCell (Hid.out (by assumption)) (by omega) (by omega) _) | exact Lib.hid (Tabs.setCell (Tabs.setCell (Hid.out (by assumption)) (by omega) (by omega) _) (by omega) (by omega) _)
              refine wpAnyH_take (i := 0) (oi := { dst := some 50, op := Op.move (Operand.tmp 0), type := 9, pos := "find.go:103", after := #[], guard := none }) (v := ?k111v0) rfl (by kernel_rfl) (by kernel_rfl) (by kernel_rfl) (fun _ _ _ h => h) (Or.inl ⟨by rfl, ?k111h0⟩) (by assumption) ?_
              case k111h0 => (intro w hSw; (try dsimp only at hSw); go_simp; (try with_reducible rfl))
              simp only [Act.put, List.setIfInBounds_toArray, List.set_cons_succ, List.set_cons_zero]
              refine wpAnyH_take (i := 1) (oi := { dst := some 51, op := Op.move (Operand.tmp 8), type := 3, pos := "find.go:103", after := #[], guard := none }) (v := ?k111v1) rfl (by kernel_rfl) (by kernel_rfl) (by kernel_rfl) (fun _ _ _ h => h) (Or.inl ⟨by rfl, ?k111h1⟩) (by assumption) ?_
              case k111h1 => (intro w hSw; (try dsimp only at hSw); go_simp; (try with_reducible rfl))
              simp only [Act.put, List.setIfInBounds_toArray, List.set_cons_succ, List.set_cons_zero]
              refine wpAnyH_take (i := 2) (oi := { dst := some 52, op := Op.slice 9 (Operand.tmp 50) none (some (Operand.tmp 51)) none, type := 9, pos := "find.go:103", after := #[{ on := 0, ground := Ground.data }, { on := 1, ground := Ground.data }], guard := none }) (v := ?k111v2) rfl (by kernel_rfl) (by kernel_rfl) (by kernel_rfl) (fun _ _ _ h => h) (Or.inl ⟨by rfl, ?k111h2⟩) (by assumption) ?_
              case k111h2 => (intro w hSw; (try dsimp only at hSw); go_simp; (try with_reducible rfl))
              simp only [Act.put, List.setIfInBounds_toArray, List.set_cons_succ, List.set_cons_zero]
              refine wpAnyH_take (i := 4) (oi := { dst := some 54, op := Op.move (Operand.tmp 0), type := 9, pos := "find.go:103", after := #[], guard := none }) (v := ?k111v4) rfl (by kernel_rfl) (by kernel_rfl) (by kernel_rfl) (fun _ _ _ h => h) (Or.inl ⟨by rfl, ?k111h4⟩) (by assumption) ?_
              case k111h4 => (intro w hSw; (try dsimp only at hSw); go_simp; (try with_reducible rfl))
              simp only [Act.put, List.setIfInBounds_toArray, List.set_cons_succ, List.set_cons_zero]
              refine wpAnyH_take (i := 5) (oi := { dst := some 55, op := Op.move (Operand.tmp 8), type := 3, pos := "find.go:103", after := #[], guard := none }) (v := ?k111v5) rfl (by kernel_rfl) (by kernel_rfl) (by kernel_rfl) (fun _ _ _ h => h) (Or.inl ⟨by rfl, ?k111h5⟩) (by assumption) ?_
              case k111h5 => (intro w hSw; (try dsimp only at hSw); go_simp; (try with_reducible rfl))
              simp only [Act.put, List.setIfInBounds_toArray, List.set_cons_succ, List.set_cons_zero]
              refine wpAnyH_take (i := 6) (oi := { dst := some 56, op := Op.slice 9 (Operand.tmp 54) none (some (Operand.tmp 55)) none, type := 9, pos := "find.go:103", after := #[{ on := 4, ground := Ground.data }, { on := 5, ground := Ground.data }], guard := none }) (v := ?k111v6) rfl (by kernel_rfl) (by kernel_rfl) (by kernel_rfl) (fun _ _ _ h => h) (Or.inl ⟨by rfl, ?k111h6⟩) (by assumption) ?_
              case k111h6 => (intro w hSw; (try dsimp only at hSw); go_simp; (try with_reducible rfl))
              simp only [Act.put, List.setIfInBounds_toArray, List.set_cons_succ, List.set_cons_zero]
              refine wpAnyH_ready (rs := [3]) (by kernel_rfl) (by simp) ?_
              refine AllReadyH.cons (o := { dst := some 53, op := Op.call { callee := Callee.value (Operand.func 14), args := #[Operand.tmp 52], argTypes := #[9] }, type := 35, pos := "find.go:103", after := #[{ on := 2, ground := Ground.data }], guard := none }) rfl (fun K hK => ?_) AllReadyH.nil
              go_simp
              with_reducible refine (HWD.out _ (Hid.out (by assumption))).mono ?_
              rintro e w2 ⟨a, c, rfl, hr0, hb2⟩
              have HC2 := Lib.hid (HC1.out.drew.keep hb2)
              have HR2 := Lib.hid hr0
              obtain ⟨m0, m1, m2, mf, _⟩ := HC2.out.cells
              go_wp2_with fail
              refine hK.out _ _ ?_ (fun hHeld => ?_)
              · (try dsimp only)
                first | assumption | exact hT1 | exact Lib.hid (Tabs.below (Hid.out (by assumption)) hb2) | exact Lib.hid (Tabs.setCell (Hid.out (by assumption)) (by omega) (by omega) _) | exact Lib.hid (Tabs.setCell (Tabs.setCell (Hid.out (by assumption)) (by omega) (by omega) _) (by omega) (by omega) _)
              clear hK K
              try simp only [Act.put, List.setIfInBounds_toArray, List.set_cons_succ, List.set_cons_zero]
              refine wpAnyH_take (i := 20) (oi := { dst := some 70, op := Op.fieldAddr 62 (Operand.tmp 4) 0, type := 0, pos := "find.go:103", after := #[{ on := 0, ground := Ground.phase }, { on := 1, ground := Ground.phase }, { on := 2, ground := Ground.phase }, { on := 3, ground := Ground.phase }, { on := 4, ground := Ground.textOnly Departure.lateStores }, { on := 5, ground := Ground.textOnly Departure.lateStores }, { on := 6, ground := Ground.textOnly Departure.lateStoresUnsure }, { on := 7, ground := Ground.textOnly Departure.lateStoresUnsure }, { on := 8, ground := Ground.textOnly Departure.lateStores }, { on := 9, ground := Ground.textOnly Departure.lateStores }, { on := 10, ground := Ground.textOnly Departure.lateStores }, { on := 11, ground := Ground.textOnly Departure.lateStoresUnsure }, { on := 12, ground := Ground.textOnly Departure.lateStores }, { on := 13, ground := Ground.textOnly Departure.lateStores }, { on := 14, ground := Ground.textOnly Departure.lateStores }, { on := 15, ground := Ground.textOnly Departure.lateStores }, { on := 16, ground := Ground.textOnly Departure.lateStores }, { on := 17, ground := Ground.textOnly Departure.lateStores }, { on := 18, ground := Ground.textOnly Departure.lateStores }, { on := 19, ground := Ground.textOnly Departure.lateStores }], guard := none }) (v := ?k111v20) rfl (by kernel_rfl) (by kernel_rfl) (by kernel_rfl) (fun _ _ _ h => h) (Or.inl ⟨by rfl, ?k111h20⟩) (by assumption) ?_
              case k111h20 => (intro w hSw; (try dsimp only at hSw); go_simp; (try with_reducible rfl))
              simp only [Act.put, List.setIfInBounds_toArray, List.set_cons_succ, List.set_cons_zero]
              refine wpAnyH_ready (rs := [7]) (by kernel_rfl) (by simp) ?_
              refine AllReadyH.cons (o := { dst := some 57, op := Op.call { callee := Callee.value (Operand.func 59), args := #[Operand.tmp 56, Operand.const (Value.string { data := #[42] })], argTypes := #[9, 9] }, type := 4, pos := "find.go:103", after := #[{ on := 6, ground := Ground.data }, { on := 3, ground := Ground.chain }], guard := none }) rfl (fun K hK => ?_) AllReadyH.nil
              go_simp
              with_reducible refine (HSF.out _).mono ?_
              rintro e w9 ⟨rfl, rfl⟩
              go_wp2_with fail
              refine hK.out _ _ ?_ (fun hHeld => ?_)
              · (try dsimp only)
                first | assumption | exact hT1 | exact Lib.hid (Tabs.below (Hid.out (by assumption)) hb2) | exact Lib.hid (Tabs.setCell (Hid.out (by assumption)) (by omega) (by omega) _) | exact Lib.hid (Tabs.setCell (Tabs.setCell (Hid.out (by assumption)) (by omega) (by omega) _) (by omega) (by omega) _)
              clear hK K
              try simp only [Act.put, List.setIfInBounds_toArray, List.set_cons_succ, List.set_cons_zero]
              refine wpAnyH_take (i := 8) (oi := { dst := some 58, op := Op.move (Operand.tmp 57), type := 4, pos := "find.go:103", after := #[{ on := 7, ground := Ground.data }, { on := 7, ground := Ground.chain }], guard := none }) (v := ?k111v8) rfl (by kernel_rfl) (by kernel_rfl) (by kernel_rfl) (fun _ _ _ h => h) (Or.inl ⟨by rfl, ?k111h8⟩) (by assumption) ?_
              case k111h8 => (intro w hSw; (try dsimp only at hSw); go_simp; (try with_reducible rfl))
              simp only [Act.put, List.setIfInBounds_toArray, List.set_cons_succ, List.set_cons_zero]
              refine wpAnyH_take (i := 9) (oi := { dst := some 59, op := Op.move (Operand.tmp 8), type := 3, pos := "find.go:103", after := #[{ on := 8, ground := Ground.guard }], guard := some (8, true) }) (v := ?k111v9) rfl (by kernel_rfl) (by kernel_rfl) (by kernel_rfl) (fun _ _ _ h => h) (Or.inl ⟨by rfl, ?k111h9⟩) (by assumption) ?_
              case k111h9 => (intro w hSw; (try dsimp only at hSw); go_simp; (try with_reducible rfl))
              simp only [Act.put, List.setIfInBounds_toArray, List.set_cons_succ, List.set_cons_zero]
              refine wpAnyH_take (i := 10) (oi := { dst := some 60, op := Op.move (Operand.tmp 0), type := 9, pos := "find.go:103", after := #[{ on := 8, ground := Ground.guard }], guard := some (8, true) }) (v := ?k111v10) rfl (by kernel_rfl) (by kernel_rfl) (by kernel_rfl) (fun _ _ _ h => h) (Or.inl ⟨by rfl, ?k111h10⟩) (by assumption) ?_
              case k111h10 => (intro w hSw; (try dsimp only at hSw); go_simp; (try with_reducible rfl))
              simp only [Act.put, List.setIfInBounds_toArray, List.set_cons_succ, List.set_cons_zero]
              refine wpAnyH_take (i := 11) (oi := { dst := some 61, op := Op.call { callee := Callee.builtin Builtin.len, args := #[Operand.tmp 60], argTypes := #[9] }, type := 3, pos := "find.go:103", after := #[{ on := 10, ground := Ground.data }, { on := 8, ground := Ground.guard }], guard := some (8, true) }) (v := ?k111v11) rfl (by kernel_rfl) (by kernel_rfl) (by kernel_rfl) (fun _ _ _ h => h) (Or.inl ⟨by rfl, ?k111h11⟩) (by assumption) ?_
              case k111h11 => (intro w hSw; (try dsimp only at hSw); go_simp; (try with_reducible rfl))
              simp only [Act.put, List.setIfInBounds_toArray, List.set_cons_succ, List.set_cons_zero]
              refine wpAnyH_take (i := 12) (oi := { dst := some 62, op := Op.binOp BinOp.eql 3 (Operand.tmp 59) (Operand.tmp 61) 3, type := 4, pos := "find.go:103", after := #[{ on := 9, ground := Ground.data }, { on := 11, ground := Ground.data }, { on := 8, ground := Ground.guard }], guard := some (8, true) }) (v := ?k111v12) rfl (by kernel_rfl) (by kernel_rfl) (by kernel_rfl) (fun _ _ _ h => h) (Or.inl ⟨by rfl, ?k111h12⟩) (by assumption) ?_
              case k111h12 => (intro w hSw; (try dsimp only at hSw); go_simp; (try with_reducible rfl))
              simp only [Act.put, List.setIfInBounds_toArray, List.set_cons_succ, List.set_cons_zero]
              refine wpAnyH_take (i := 13) (oi := { dst := some 63, op := Op.move (Operand.tmp 62), type := 4, pos := "find.go:103", after := #[{ on := 12, ground := Ground.data }, { on := 8, ground := Ground.chain }, { on := 8, ground := Ground.guard }], guard := some (8, true) }) (v := ?k111v13) rfl (by kernel_rfl) (by kernel_rfl) (by kernel_rfl) (fun _ _ _ h => h) (Or.inl ⟨by rfl, ?k111h13⟩) (by assumption) ?_
              case k111h13 => (intro w hSw; (try dsimp only at hSw); go_simp; (try with_reducible rfl))
              simp only [Act.put, List.setIfInBounds_toArray, List.set_cons_succ, List.set_cons_zero]
              refine wpAnyH_take (i := 14) (oi := { dst := some 64, op := Op.move (Operand.tmp 0), type := 9, pos := "find.go:103", after := #[{ on := 13, ground := Ground.guard }, { on := 21, ground := Ground.gcOnly Departure.lateStores }], guard := some (13, false) }) (v := undef) rfl (by kernel_rfl) (by kernel_rfl) (by kernel_rfl) (fun _ _ _ h => h) (Or.inr ⟨by rfl, rfl⟩) (by assumption) ?_
              simp only [Act.put, List.setIfInBounds_toArray, List.set_cons_succ, List.set_cons_zero]
              refine wpAnyH_take (i := 15) (oi := { dst := some 65, op := Op.move (Operand.tmp 8), type := 3, pos := "find.go:103", after := #[{ on := 13, ground := Ground.guard }, { on := 21, ground := Ground.gcOnly Departure.lateStores }], guard := some (13, false) }) (v := undef) rfl (by kernel_rfl) (by kernel_rfl) (by kernel_rfl) (fun _ _ _ h => h) (Or.inr ⟨by rfl, rfl⟩) (by assumption) ?_
              simp only [Act.put, List.setIfInBounds_toArray, List.set_cons_succ, List.set_cons_zero]
              refine wpAnyH_take (i := 16) (oi := { dst := some 66, op := Op.index 9 (Operand.tmp 64) (Operand.tmp 65), type := 5, pos := "find.go:103", after := #[{ on := 14, ground := Ground.data }, { on := 15, ground := Ground.data }, { on := 13, ground := Ground.guard }, { on := 21, ground := Ground.gcOnly Departure.lateStores }], guard := some (13, false) }) (v := undef) rfl (by kernel_rfl) (by kernel_rfl) (by kernel_rfl) (fun _ _ _ h => h) (Or.inr ⟨by rfl, rfl⟩) (by assumption) ?_
              simp only [Act.put, List.setIfInBounds_toArray, List.set_cons_succ, List.set_cons_zero]
              refine wpAnyH_take (i := 17) (oi := { dst := some 67, op := Op.binOp BinOp.eql 5 (Operand.tmp 66) (Operand.const (Value.int IntKind.u8 32)) 5, type := 4, pos := "find.go:103", after := #[{ on := 16, ground := Ground.data }, { on := 13, ground := Ground.guard }, { on := 21, ground := Ground.gcOnly Departure.lateStores }], guard := some (13, false) }) (v := undef) rfl (by kernel_rfl) (by kernel_rfl) (by kernel_rfl) (fun _ _ _ h => h) (Or.inr ⟨by rfl, rfl⟩) (by assumption) ?_
              simp only [Act.put, List.setIfInBounds_toArray, List.set_cons_succ, List.set_cons_zero]
              refine wpAnyH_take (i := 18) (oi := { dst := some 68, op := Op.pick (Operand.tmp 63) (Operand.const (Value.bool true)) (Operand.tmp 67), type := 4, pos := "find.go:103", after := #[{ on := 13, ground := Ground.data }, { on := 17, ground := Ground.data }, { on := 8, ground := Ground.guard }, { on := 21, ground := Ground.gcOnly Departure.lateStores }], guard := some (8, true) }) (v := ?k111v18) rfl (by kernel_rfl) (by kernel_rfl) (by kernel_rfl) (fun _ _ _ h => h) (Or.inl ⟨by rfl, ?k111h18⟩) (by assumption) ?_
              case k111h18 => (intro w hSw; (try dsimp only at hSw); go_simp; (try with_reducible rfl))
              simp only [Act.put, List.setIfInBounds_toArray, List.set_cons_succ, List.set_cons_zero]
              refine wpAnyH_take (i := 19) (oi := { dst := some 69, op := Op.pick (Operand.tmp 58) (Operand.tmp 68) (Operand.const (Value.bool false)), type := 4, pos := "find.go:103", after := #[{ on := 8, ground := Ground.data }, { on := 18, ground := Ground.data }, { on := 21, ground := Ground.gcOnly Departure.lateStores }], guard := none }) (v := ?k111v19) rfl (by kernel_rfl) (by kernel_rfl) (by kernel_rfl) (fun _ _ _ h => h) (Or.inl ⟨by rfl, ?k111h19⟩) (by assumption) ?_
              case k111h19 => (intro w hSw; (try dsimp only at hSw); go_simp; (try with_reducible rfl))
              simp only [Act.put, List.setIfInBounds_toArray, List.set_cons_succ, List.set_cons_zero]
              refine wpAnyH_ready (rs := [21]) (by kernel_rfl) (by simp) ?_
              refine AllReadyH.cons (o := { dst := none, op := Op.store 35 (Operand.tmp 70) (Operand.tmp 53), type := 0, pos := "find.go:103", after := #[{ on := 20, ground := Ground.data }, { on := 3, ground := Ground.data }, { on := 13, ground := Ground.chain }, { on := 0, ground := Ground.phase }, { on := 1, ground := Ground.phase }, { on := 2, ground := Ground.phase }, { on := 3, ground := Ground.phase }, { on := 4, ground := Ground.textOnly Departure.lateStores }, { on := 5, ground := Ground.textOnly Departure.lateStores }, { on := 6, ground := Ground.textOnly Departure.lateStoresUnsure }, { on := 7, ground := Ground.textOnly Departure.lateStoresUnsure }, { on := 8, ground := Ground.textOnly Departure.lateStores }, { on := 9, ground := Ground.textOnly Departure.lateStores }, { on := 10, ground := Ground.textOnly Departure.lateStores }, { on := 11, ground := Ground.textOnly Departure.lateStoresUnsure }, { on := 12, ground := Ground.textOnly Departure.lateStores }, { on := 13, ground := Ground.textOnly Departure.lateStores }, { on := 14, ground := Ground.textOnly Departure.lateStores }, { on := 15, ground := Ground.textOnly Departure.lateStores }, { on := 16, ground := Ground.textOnly Departure.lateStores }, { on := 17, ground := Ground.textOnly Departure.lateStores }, { on := 18, ground := Ground.textOnly Departure.lateStores }, { on := 19, ground := Ground.textOnly Departure.lateStores }], guard := none }) rfl (fun K hK => ?_) AllReadyH.nil
              go_simp
              skip
              go_wp2_with fail
              refine hK.out _ _ ?_ (fun hHeld => ?_)
              · (try dsimp only)
                first | assumption | exact hT1 | exact Lib.hid (Tabs.below (Hid.out (by assumption)) hb2) | exact Lib.hid (Tabs.setCell (Hid.out (by assumption)) (by omega) (by omega) _) | exact Lib.hid (Tabs.setCell (Tabs.setCell (Hid.out (by assumption)) (by omega) (by omega) _) (by omega) (by omega) _)
              clear hK K
              try simp only [Act.put, List.setIfInBounds_toArray, List.set_cons_succ, List.set_cons_zero]
              refine wpAnyH_take (i := 22) (oi := { dst := some 71, op := Op.fieldAddr 62 (Operand.tmp 4) 2, type := 0, pos := "find.go:103", after := #[{ on := 0, ground := Ground.phase }, { on := 1, ground := Ground.phase }, { on := 2, ground := Ground.phase }, { on := 3, ground := Ground.phase }, { on := 4, ground := Ground.phase }, { on := 5, ground := Ground.phase }, { on := 6, ground := Ground.phase }, { on := 7, ground := Ground.phase }, { on := 8, ground := Ground.phase }, { on := 9, ground := Ground.phase }, { on := 10, ground := Ground.phase }, { on := 11, ground := Ground.phase }, { on := 12, ground := Ground.phase }, { on := 13, ground := Ground.phase }, { on := 14, ground := Ground.phase }, { on := 15, ground := Ground.phase }, { on := 16, ground := Ground.phase }, { on := 17, ground := Ground.phase }, { on := 18, ground := Ground.phase }, { on := 19, ground := Ground.phase }, { on := 20, ground := Ground.phase }, { on := 21, ground := Ground.phase }], guard := none }) (v := ?k111v22) rfl (by kernel_rfl) (by kernel_rfl) (by kernel_rfl) (fun _ _ _ h => h) (Or.inl ⟨by rfl, ?k111h22⟩) (by assumption) ?_
              case k111h22 => (intro w hSw; (try dsimp only at hSw); go_simp; (try with_reducible rfl))
              simp only [Act.put, List.setIfInBounds_toArray, List.set_cons_succ, List.set_cons_zero]
              refine wpAnyH_ready (rs := [23]) (by kernel_rfl) (by simp) ?_
              refine AllReadyH.cons (o := { dst := none, op := Op.store 4 (Operand.tmp 71) (Operand.tmp 69), type := 0, pos := "find.go:103", after := #[{ on := 22, ground := Ground.data }, { on := 19, ground := Ground.data }, { on := 21, ground := Ground.chain }, { on := 0, ground := Ground.phase }, { on := 1, ground := Ground.phase }, { on := 2, ground := Ground.phase }, { on := 3, ground := Ground.phase }, { on := 4, ground := Ground.phase }, { on := 5, ground := Ground.phase }, { on := 6, ground := Ground.phase }, { on := 7, ground := Ground.phase }, { on := 8, ground := Ground.phase }, { on := 9, ground := Ground.phase }, { on := 10, ground := Ground.phase }, { on := 11, ground := Ground.phase }, { on := 12, ground := Ground.phase }, { on := 13, ground := Ground.phase }, { on := 14, ground := Ground.phase }, { on := 15, ground := Ground.phase }, { on := 16, ground := Ground.phase }, { on := 17, ground := Ground.phase }, { on := 18, ground := Ground.phase }, { on := 19, ground := Ground.phase }, { on := 20, ground := Ground.phase }, { on := 21, ground := Ground.phase }], guard := none }) rfl (fun K hK => ?_) AllReadyH.nil
              go_simp
              skip
              go_wp2_with fail
              refine hK.out _ _ ?_ (fun hHeld => ?_)
              · (try dsimp only)
                first | assumption | exact hT1 | exact Lib.hid (Tabs.below (Hid.out (by assumption)) hb2) | exact Lib.hid (Tabs.setCell (Hid.out (by assumption)) (by omega) (by omega) _) | exact Lib.hid (Tabs.setCell (Tabs.setCell (Hid.out (by assumption)) (by omega) (by omega) _) (by omega) (by omega) _)
              clear hK K
              try simp only [Act.put, List.setIfInBounds_toArray, List.set_cons_succ, List.set_cons_zero]
              refine wpAnyH_done (by kernel_rfl) ?_ _
              refine NoPanic.normal ?_
              go_wp2_with fail
              go_meet
              exact ⟨a, c, (HC2.out.set0 _).set2 _, (HC2.out.set0 _).row (HC2.out.row HR2.out 0 _) 2 _⟩
            case rest =>
              obtain ⟨a, c, hcb3, hrow3⟩ := hcut
              obtain ⟨c0, c1, c2, cf, r0, r1, r2, rf⟩ := hcb3.cells
              have HC3 := Lib.hid hcb3
              have HR3 := Lib.hid hrow3
              clear hcb3 hrow3 k0 k1 k2 kf HC1 hlt4 HIA
              skip
              go_wp2_with fail
              go_region
              all_goals
                go_wp2_with fail
                obtain ⟨z0, hrz, hbz⟩ := HC3.out.res HR3.out (.slice a (words p).length c) (.bool no) (.bool true)
                generalize (((wc.setCell ⟨w.heap.size, 0, none⟩ (.slice a (words p).length c)).setCell ⟨w.heap.size, 1, none⟩ (.bool no)).setCell ⟨w.heap.size, 2, none⟩ (.bool true)) = Z at z0 hrz hbz ⊢
                have q0 : Z.drew.cell? ⟨w.heap.size, 0, none⟩ = some (.slice a (words p).length c) := by rw [Lib.cell_of_heap (w := Z.drew) z0]; rfl
                have q1 : Z.drew.cell? ⟨w.heap.size, 1, none⟩ = some (.bool no) := by rw [Lib.cell_of_heap (w := Z.drew) z0]; rfl
                have q2 : Z.drew.cell? ⟨w.heap.size, 2, none⟩ = some (.bool true) := by rw [Lib.cell_of_heap (w := Z.drew) z0]; rfl
                have HBZ := Lib.hid hbz.drew
                have HRZ := Lib.hid (show StrRow Z.drew (.slice a (words p).length c) (words p) from hrz)
                generalize Z.drew = Z1 at *
                refine bodyPost_ret (v := .tuple #[.agg #[.slice a (words p).length c, .bool no, .bool true], .string ByteArray.empty]) (by simp [results, Tryz.results33, go_sem, q0, q1, q2, hz3, List.range_succ]) rfl ?_
                unfold ClausePost
                rw [HX.out]
                exact ⟨a, c, rfl, HRZ.out, HBZ.out⟩
        | false =>
          have HSF := Lib.hid (show ∀ W, Calls Tryz.prog 59 #[.string t, .string ⟨#[42]⟩] W fun e w' => e = .returned (.bool false) ∧ W = w' from by rw [← hsf]; exact HSFB.out)
          have HX := Lib.hid (show clauseF s.data.toList = (⟨words p, no, false⟩, []) from by
            rw [HF.out, bareF, HN.out, ← HP.out, hsf, ← size_list, List.drop_eq_nil_of_le (by rw [← size_list]; exact Nat.le_refl _)]
            simp)
          clear hsf
          rcases htest with hemp | ⟨ht0, hfull, hq1⟩
          all_goals
            go_upto_region 13 with (go_at_call 58; refine HIA.out.mono ?_; rintro e w1 ⟨rfl, hb1⟩; have HC1 := Lib.hid (HCB.out.keep hb1); have HT1 := Lib.hid (HT2.out.below hb1); clear hb1)
            obtain ⟨k0, k1, k2, kf, _⟩ := HC1.out.cells
            have hlt4 := lt_of_heap HC1.out.cb
            go_cut [] (fun wx => ∃ a c, CB w (.slice a (words p).length c) no false wx ∧ StrRow wx (.slice a (words p).length c) (words p))
            case first =>
              have hT1 := Lib.hid HT1.out
              refine wp_region_noPanic ?_
              refine wp_region_held_drew (S := (fun w' => Hid (Tabs w'))) (by kernel_rfl) ?_ (fun hHeld => ?_)
              · (try dsimp only)
                first | assumption | exact hT1 | exact Lib.hid (Tabs.below (Hid.out (by assumption)) hb2) | exact Lib.hid (Tabs.setCell (Hid.out (by assumption)) (by omega) (by omega) _) | exact Lib.hid (Tabs.setCell (Tabs.setCell (Hid.out (by assumption)) (by omega) (by omega) _) (by omega) (by omega) _)
              refine wpAnyH_take (i := 0) (oi := { dst := some 50, op := Op.move (Operand.tmp 0), type := 9, pos := "find.go:103", after := #[], guard := none }) (v := ?k010v0) rfl (by kernel_rfl) (by kernel_rfl) (by kernel_rfl) (fun _ _ _ h => h) (Or.inl ⟨by rfl, ?k010h0⟩) (by assumption) ?_
              case k010h0 => (intro w hSw; (try dsimp only at hSw); go_simp; (try with_reducible rfl))
              simp only [Act.put, List.setIfInBounds_toArray, List.set_cons_succ, List.set_cons_zero]
              refine wpAnyH_take (i := 1) (oi := { dst := some 51, op := Op.move (Operand.tmp 8), type := 3, pos := "find.go:103", after := #[], guard := none }) (v := ?k010v1) rfl (by kernel_rfl) (by kernel_rfl) (by kernel_rfl) (fun _ _ _ h => h) (Or.inl ⟨by rfl, ?k010h1⟩) (by assumption) ?_
              case k010h1 => (intro w hSw; (try dsimp only at hSw); go_simp; (try with_reducible rfl))
              simp only [Act.put, List.setIfInBounds_toArray, List.set_cons_succ, List.set_cons_zero]
              refine wpAnyH_take (i := 2) (oi := { dst := some 52, op := Op.slice 9 (Operand.tmp 50) none (some (Operand.tmp 51)) none, type := 9, pos := "find.go:103", after := #[{ on := 0, ground := Ground.data }, { on := 1, ground := Ground.data }], guard := none }) (v := ?k010v2) rfl (by kernel_rfl) (by kernel_rfl) (by kernel_rfl) (fun _ _ _ h => h) (Or.inl ⟨by rfl, ?k010h2⟩) (by assumption) ?_
              case k010h2 => (intro w hSw; (try dsimp only at hSw); go_simp; (try with_reducible rfl))
              simp only [Act.put, List.setIfInBounds_toArray, List.set_cons_succ, List.set_cons_zero]
              refine wpAnyH_take (i := 4) (oi := { dst := some 54, op := Op.move (Operand.tmp 0), type := 9, pos := "find.go:103", after := #[], guard := none }) (v := ?k010v4) rfl (by kernel_rfl) (by kernel_rfl) (by kernel_rfl) (fun _ _ _ h => h) (Or.inl ⟨by rfl, ?k010h4⟩) (by assumption) ?_
              case k010h4 => (intro w hSw; (try dsimp only at hSw); go_simp; (try with_reducible rfl))
              simp only [Act.put, List.setIfInBounds_toArray, List.set_cons_succ, List.set_cons_zero]
              refine wpAnyH_take (i := 5) (oi := { dst := some 55, op := Op.move (Operand.tmp 8), type := 3, pos := "find.go:103", after := #[], guard := none }) (v := ?k010v5) rfl (by kernel_rfl) (by kernel_rfl) (by kernel_rfl) (fun _ _ _ h => h) (Or.inl ⟨by rfl, ?k010h5⟩) (by assumption) ?_
              case k010h5 => (intro w hSw; (try dsimp only at hSw); go_simp; (try with_reducible rfl))
              simp only [Act.put, List.setIfInBounds_toArray, List.set_cons_succ, List.set_cons_zero]
              refine wpAnyH_take (i := 6) (oi := { dst := some 56, op := Op.slice 9 (Operand.tmp 54) none (some (Operand.tmp 55)) none, type := 9, pos := "find.go:103", after := #[{ on := 4, ground := Ground.data }, { on := 5, ground := Ground.data }], guard := none }) (v := ?k010v6) rfl (by kernel_rfl) (by kernel_rfl) (by kernel_rfl) (fun _ _ _ h => h) (Or.inl ⟨by rfl, ?k010h6⟩) (by assumption) ?_
              case k010h6 => (intro w hSw; (try dsimp only at hSw); go_simp; (try with_reducible rfl))
              simp only [Act.put, List.setIfInBounds_toArray, List.set_cons_succ, List.set_cons_zero]
              refine wpAnyH_ready (rs := [3]) (by kernel_rfl) (by simp) ?_
              refine AllReadyH.cons (o := { dst := some 53, op := Op.call { callee := Callee.value (Operand.func 14), args := #[Operand.tmp 52], argTypes := #[9] }, type := 35, pos := "find.go:103", after := #[{ on := 2, ground := Ground.data }], guard := none }) rfl (fun K hK => ?_) AllReadyH.nil
              go_simp
              with_reducible refine (HWD.out _ (Hid.out (by assumption))).mono ?_
              rintro e w2 ⟨a, c, rfl, hr0, hb2⟩
              have HC2 := Lib.hid (HC1.out.drew.keep hb2)
              have HR2 := Lib.hid hr0
              obtain ⟨m0, m1, m2, mf, _⟩ := HC2.out.cells
              go_wp2_with fail
              refine hK.out _ _ ?_ (fun hHeld => ?_)
              · (try dsimp only)
                first | assumption | exact hT1 | exact Lib.hid (Tabs.below (Hid.out (by assumption)) hb2) | exact Lib.hid (Tabs.setCell (Hid.out (by assumption)) (by omega) (by omega) _) | exact Lib.hid (Tabs.setCell (Tabs.setCell (Hid.out (by assumption)) (by omega) (by omega) _) (by omega) (by omega) _)
              clear hK K
              try simp only [Act.put, List.setIfInBounds_toArray, List.set_cons_succ, List.set_cons_zero]
              refine wpAnyH_take (i := 20) (oi := { dst := some 70, op := Op.fieldAddr 62 (Operand.tmp 4) 0, type := 0, pos := "find.go:103", after := #[{ on := 0, ground := Ground.phase }, { on := 1, ground := Ground.phase }, { on := 2, ground := Ground.phase }, { on := 3, ground := Ground.phase }, { on := 4, ground := Ground.textOnly Departure.lateStores }, { on := 5, ground := Ground.textOnly Departure.lateStores }, { on := 6, ground := Ground.textOnly Departure.lateStoresUnsure }, { on := 7, ground := Ground.textOnly Departure.lateStoresUnsure }, { on := 8, ground := Ground.textOnly Departure.lateStores }, { on := 9, ground := Ground.textOnly Departure.lateStores }, { on := 10, ground := Ground.textOnly Departure.lateStores }, { on := 11, ground := Ground.textOnly Departure.lateStoresUnsure }, { on := 12, ground := Ground.textOnly Departure.lateStores }, { on := 13, ground := Ground.textOnly Departure.lateStores }, { on := 14, ground := Ground.textOnly Departure.lateStores }, { on := 15, ground := Ground.textOnly Departure.lateStores }, { on := 16, ground := Ground.textOnly Departure.lateStores }, { on := 17, ground := Ground.textOnly Departure.lateStores }, { on := 18, ground := Ground.textOnly Departure.lateStores }, { on := 19, ground := Ground.textOnly Departure.lateStores }], guard := none }) (v := ?k010v20) rfl (by kernel_rfl) (by kernel_rfl) (by kernel_rfl) (fun _ _ _ h => h) (Or.inl ⟨by rfl, ?k010h20⟩) (by assumption) ?_
              case k010h20 => (intro w hSw; (try dsimp only at hSw); go_simp; (try with_reducible rfl))
              simp only [Act.put, List.setIfInBounds_toArray, List.set_cons_succ, List.set_cons_zero]
              refine wpAnyH_ready (rs := [7]) (by kernel_rfl) (by simp) ?_
              refine AllReadyH.cons (o := { dst := some 57, op := Op.call { callee := Callee.value (Operand.func 59), args := #[Operand.tmp 56, Operand.const (Value.string { data := #[42] })], argTypes := #[9, 9] }, type := 4, pos := "find.go:103", after := #[{ on := 6, ground := Ground.data }, { on := 3, ground := Ground.chain }], guard := none }) rfl (fun K hK => ?_) AllReadyH.nil
              go_simp
              with_reducible refine (HSF.out _).mono ?_
              rintro e w9 ⟨rfl, rfl⟩
              go_wp2_with fail
              refine hK.out _ _ ?_ (fun hHeld => ?_)
              · (try dsimp only)
                first | assumption | exact hT1 | exact Lib.hid (Tabs.below (Hid.out (by assumption)) hb2) | exact Lib.hid (Tabs.setCell (Hid.out (by assumption)) (by omega) (by omega) _) | exact Lib.hid (Tabs.setCell (Tabs.setCell (Hid.out (by assumption)) (by omega) (by omega) _) (by omega) (by omega) _)
              clear hK K
              try simp only [Act.put, List.setIfInBounds_toArray, List.set_cons_succ, List.set_cons_zero]
              refine wpAnyH_take (i := 8) (oi := { dst := some 58, op := Op.move (Operand.tmp 57), type := 4, pos := "find.go:103", after := #[{ on := 7, ground := Ground.data }, { on := 7, ground := Ground.chain }], guard := none }) (v := (.bool false)) rfl (by kernel_rfl) (by kernel_rfl) (by kernel_rfl) (fun _ _ _ h => h) (Or.inl ⟨by rfl, ?k010h8⟩) (by assumption) ?_
              case k010h8 => (intro w hSw; (try dsimp only at hSw); go_simp; (try with_reducible rfl))
              simp only [Act.put, List.setIfInBounds_toArray, List.set_cons_succ, List.set_cons_zero]
              refine wpAnyH_take (i := 9) (oi := { dst := some 59, op := Op.move (Operand.tmp 8), type := 3, pos := "find.go:103", after := #[{ on := 8, ground := Ground.guard }], guard := some (8, true) }) (v := undef) rfl (by kernel_rfl) (by kernel_rfl) (by kernel_rfl) (fun _ _ _ h => h) (Or.inr ⟨by rfl, rfl⟩) (by assumption) ?_
              simp only [Act.put, List.setIfInBounds_toArray, List.set_cons_succ, List.set_cons_zero]
              refine wpAnyH_take (i := 10) (oi := { dst := some 60, op := Op.move (Operand.tmp 0), type := 9, pos := "find.go:103", after := #[{ on := 8, ground := Ground.guard }], guard := some (8, true) }) (v := undef) rfl (by kernel_rfl) (by kernel_rfl) (by kernel_rfl) (fun _ _ _ h => h) (Or.inr ⟨by rfl, rfl⟩) (by assumption) ?_
              simp only [Act.put, List.setIfInBounds_toArray, List.set_cons_succ, List.set_cons_zero]
              refine wpAnyH_take (i := 11) (oi := { dst := some 61, op := Op.call { callee := Callee.builtin Builtin.len, args := #[Operand.tmp 60], argTypes := #[9] }, type := 3, pos := "find.go:103", after := #[{ on := 10, ground := Ground.data }, { on := 8, ground := Ground.guard }], guard := some (8, true) }) (v := undef) rfl (by kernel_rfl) (by kernel_rfl) (by kernel_rfl) (fun _ _ _ h => h) (Or.inr ⟨by rfl, rfl⟩) (by assumption) ?_
              simp only [Act.put, List.setIfInBounds_toArray, List.set_cons_succ, List.set_cons_zero]
              refine wpAnyH_take (i := 12) (oi := { dst := some 62, op := Op.binOp BinOp.eql 3 (Operand.tmp 59) (Operand.tmp 61) 3, type := 4, pos := "find.go:103", after := #[{ on := 9, ground := Ground.data }, { on := 11, ground := Ground.data }, { on := 8, ground := Ground.guard }], guard := some (8, true) }) (v := undef) rfl (by kernel_rfl) (by kernel_rfl) (by kernel_rfl) (fun _ _ _ h => h) (Or.inr ⟨by rfl, rfl⟩) (by assumption) ?_
              simp only [Act.put, List.setIfInBounds_toArray, List.set_cons_succ, List.set_cons_zero]
              refine wpAnyH_take (i := 13) (oi := { dst := some 63, op := Op.move (Operand.tmp 62), type := 4, pos := "find.go:103", after := #[{ on := 12, ground := Ground.data }, { on := 8, ground := Ground.chain }, { on := 8, ground := Ground.guard }], guard := some (8, true) }) (v := undef) rfl (by kernel_rfl) (by kernel_rfl) (by kernel_rfl) (fun _ _ _ h => h) (Or.inr ⟨by rfl, rfl⟩) (by assumption) ?_
              simp only [Act.put, List.setIfInBounds_toArray, List.set_cons_succ, List.set_cons_zero]
              refine wpAnyH_take (i := 14) (oi := { dst := some 64, op := Op.move (Operand.tmp 0), type := 9, pos := "find.go:103", after := #[{ on := 13, ground := Ground.guard }, { on := 21, ground := Ground.gcOnly Departure.lateStores }], guard := some (13, false) }) (v := undef) rfl (by kernel_rfl) (by kernel_rfl) (by kernel_rfl) (fun _ _ _ h => h) (Or.inr ⟨by rfl, rfl⟩) (by assumption) ?_
              simp only [Act.put, List.setIfInBounds_toArray, List.set_cons_succ, List.set_cons_zero]
              refine wpAnyH_take (i := 15) (oi := { dst := some 65, op := Op.move (Operand.tmp 8), type := 3, pos := "find.go:103", after := #[{ on := 13, ground := Ground.guard }, { on := 21, ground := Ground.gcOnly Departure.lateStores }], guard := some (13, false) }) (v := undef) rfl (by kernel_rfl) (by kernel_rfl) (by kernel_rfl) (fun _ _ _ h => h) (Or.inr ⟨by rfl, rfl⟩) (by assumption) ?_
              simp only [Act.put, List.setIfInBounds_toArray, List.set_cons_succ, List.set_cons_zero]
              refine wpAnyH_take (i := 16) (oi := { dst := some 66, op := Op.index 9 (Operand.tmp 64) (Operand.tmp 65), type := 5, pos := "find.go:103", after := #[{ on := 14, ground := Ground.data }, { on := 15, ground := Ground.data }, { on := 13, ground := Ground.guard }, { on := 21, ground := Ground.gcOnly Departure.lateStores }], guard := some (13, false) }) (v := undef) rfl (by kernel_rfl) (by kernel_rfl) (by kernel_rfl) (fun _ _ _ h => h) (Or.inr ⟨by rfl, rfl⟩) (by assumption) ?_
              simp only [Act.put, List.setIfInBounds_toArray, List.set_cons_succ, List.set_cons_zero]
              refine wpAnyH_take (i := 17) (oi := { dst := some 67, op := Op.binOp BinOp.eql 5 (Operand.tmp 66) (Operand.const (Value.int IntKind.u8 32)) 5, type := 4, pos := "find.go:103", after := #[{ on := 16, ground := Ground.data }, { on := 13, ground := Ground.guard }, { on := 21, ground := Ground.gcOnly Departure.lateStores }], guard := some (13, false) }) (v := undef) rfl (by kernel_rfl) (by kernel_rfl) (by kernel_rfl) (fun _ _ _ h => h) (Or.inr ⟨by rfl, rfl⟩) (by assumption) ?_
              simp only [Act.put, List.setIfInBounds_toArray, List.set_cons_succ, List.set_cons_zero]
              refine wpAnyH_take (i := 18) (oi := { dst := some 68, op := Op.pick (Operand.tmp 63) (Operand.const (Value.bool true)) (Operand.tmp 67), type := 4, pos := "find.go:103", after := #[{ on := 13, ground := Ground.data }, { on := 17, ground := Ground.data }, { on := 8, ground := Ground.guard }, { on := 21, ground := Ground.gcOnly Departure.lateStores }], guard := some (8, true) }) (v := undef) rfl (by kernel_rfl) (by kernel_rfl) (by kernel_rfl) (fun _ _ _ h => h) (Or.inr ⟨by rfl, rfl⟩) (by assumption) ?_
              simp only [Act.put, List.setIfInBounds_toArray, List.set_cons_succ, List.set_cons_zero]
              refine wpAnyH_take (i := 19) (oi := { dst := some 69, op := Op.pick (Operand.tmp 58) (Operand.tmp 68) (Operand.const (Value.bool false)), type := 4, pos := "find.go:103", after := #[{ on := 8, ground := Ground.data }, { on := 18, ground := Ground.data }, { on := 21, ground := Ground.gcOnly Departure.lateStores }], guard := none }) (v := (.bool false)) rfl (by kernel_rfl) (by kernel_rfl) (by kernel_rfl) (fun _ _ _ h => h) (Or.inl ⟨by rfl, ?k010h19⟩) (by assumption) ?_
              case k010h19 => (intro w hSw; (try dsimp only at hSw); go_simp; (try with_reducible rfl))
              simp only [Act.put, List.setIfInBounds_toArray, List.set_cons_succ, List.set_cons_zero]
              refine wpAnyH_ready (rs := [21]) (by kernel_rfl) (by simp) ?_
              refine AllReadyH.cons (o := { dst := none, op := Op.store 35 (Operand.tmp 70) (Operand.tmp 53), type := 0, pos := "find.go:103", after := #[{ on := 20, ground := Ground.data }, { on := 3, ground := Ground.data }, { on := 13, ground := Ground.chain }, { on := 0, ground := Ground.phase }, { on := 1, ground := Ground.phase }, { on := 2, ground := Ground.phase }, { on := 3, ground := Ground.phase }, { on := 4, ground := Ground.textOnly Departure.lateStores }, { on := 5, ground := Ground.textOnly Departure.lateStores }, { on := 6, ground := Ground.textOnly Departure.lateStoresUnsure }, { on := 7, ground := Ground.textOnly Departure.lateStoresUnsure }, { on := 8, ground := Ground.textOnly Departure.lateStores }, { on := 9, ground := Ground.textOnly Departure.lateStores }, { on := 10, ground := Ground.textOnly Departure.lateStores }, { on := 11, ground := Ground.textOnly Departure.lateStoresUnsure }, { on := 12, ground := Ground.textOnly Departure.lateStores }, { on := 13, ground := Ground.textOnly Departure.lateStores }, { on := 14, ground := Ground.textOnly Departure.lateStores }, { on := 15, ground := Ground.textOnly Departure.lateStores }, { on := 16, ground := Ground.textOnly Departure.lateStores }, { on := 17, ground := Ground.textOnly Departure.lateStores }, { on := 18, ground := Ground.textOnly Departure.lateStores }, { on := 19, ground := Ground.textOnly Departure.lateStores }], guard := none }) rfl (fun K hK => ?_) AllReadyH.nil
              go_simp
              skip
              go_wp2_with fail
              refine hK.out _ _ ?_ (fun hHeld => ?_)
              · (try dsimp only)
                first | assumption | exact hT1 | exact Lib.hid (Tabs.below (Hid.out (by assumption)) hb2) | exact Lib.hid (Tabs.setCell (Hid.out (by assumption)) (by omega) (by omega) _) | exact Lib.hid (Tabs.setCell (Tabs.setCell (Hid.out (by assumption)) (by omega) (by omega) _) (by omega) (by omega) _)
              clear hK K
              try simp only [Act.put, List.setIfInBounds_toArray, List.set_cons_succ, List.set_cons_zero]
              refine wpAnyH_take (i := 22) (oi := { dst := some 71, op := Op.fieldAddr 62 (Operand.tmp 4) 2, type := 0, pos := "find.go:103", after := #[{ on := 0, ground := Ground.phase }, { on := 1, ground := Ground.phase }, { on := 2, ground := Ground.phase }, { on := 3, ground := Ground.phase }, { on := 4, ground := Ground.phase }, { on := 5, ground := Ground.phase }, { on := 6, ground := Ground.phase }, { on := 7, ground := Ground.phase }, { on := 8, ground := Ground.phase }, { on := 9, ground := Ground.phase }, { on := 10, ground := Ground.phase }, { on := 11, ground := Ground.phase }, { on := 12, ground := Ground.phase }, { on := 13, ground := Ground.phase }, { on := 14, ground := Ground.phase }, { on := 15, ground := Ground.phase }, { on := 16, ground := Ground.phase }, { on := 17, ground := Ground.phase }, { on := 18, ground := Ground.phase }, { on := 19, ground := Ground.phase }, { on := 20, ground := Ground.phase }, { on := 21, ground := Ground.phase }], guard := none }) (v := ?k010v22) rfl (by kernel_rfl) (by kernel_rfl) (by kernel_rfl) (fun _ _ _ h => h) (Or.inl ⟨by rfl, ?k010h22⟩) (by assumption) ?_
              case k010h22 => (intro w hSw; (try dsimp only at hSw); go_simp; (try with_reducible rfl))
              simp only [Act.put, List.setIfInBounds_toArray, List.set_cons_succ, List.set_cons_zero]
              refine wpAnyH_ready (rs := [23]) (by kernel_rfl) (by simp) ?_
              refine AllReadyH.cons (o := { dst := none, op := Op.store 4 (Operand.tmp 71) (Operand.tmp 69), type := 0, pos := "find.go:103", after := #[{ on := 22, ground := Ground.data }, { on := 19, ground := Ground.data }, { on := 21, ground := Ground.chain }, { on := 0, ground := Ground.phase }, { on := 1, ground := Ground.phase }, { on := 2, ground := Ground.phase }, { on := 3, ground := Ground.phase }, { on := 4, ground := Ground.phase }, { on := 5, ground := Ground.phase }, { on := 6, ground := Ground.phase }, { on := 7, ground := Ground.phase }, { on := 8, ground := Ground.phase }, { on := 9, ground := Ground.phase }, { on := 10, ground := Ground.phase }, { on := 11, ground := Ground.phase }, { on := 12, ground := Ground.phase }, { on := 13, ground := Ground.phase }, { on := 14, ground := Ground.phase }, { on := 15, ground := Ground.phase }, { on := 16, ground := Ground.phase }, { on := 17, ground := Ground.phase }, { on := 18, ground := Ground.phase }, { on := 19, ground := Ground.phase }, { on := 20, ground := Ground.phase }, { on := 21, ground := Ground.phase }], guard := none }) rfl (fun K hK => ?_) AllReadyH.nil
              go_simp
              skip
              go_wp2_with fail
              refine hK.out _ _ ?_ (fun hHeld => ?_)
              · (try dsimp only)
                first | assumption | exact hT1 | exact Lib.hid (Tabs.below (Hid.out (by assumption)) hb2) | exact Lib.hid (Tabs.setCell (Hid.out (by assumption)) (by omega) (by omega) _) | exact Lib.hid (Tabs.setCell (Tabs.setCell (Hid.out (by assumption)) (by omega) (by omega) _) (by omega) (by omega) _)
              clear hK K
              try simp only [Act.put, List.setIfInBounds_toArray, List.set_cons_succ, List.set_cons_zero]
              refine wpAnyH_done (by kernel_rfl) ?_ _
              refine NoPanic.normal ?_
              go_wp2_with fail
              go_meet
              exact ⟨a, c, (HC2.out.set0 _).set2 _, (HC2.out.set0 _).row (HC2.out.row HR2.out 0 _) 2 _⟩
            case rest =>
              obtain ⟨a, c, hcb3, hrow3⟩ := hcut
              obtain ⟨c0, c1, c2, cf, r0, r1, r2, rf⟩ := hcb3.cells
              have HC3 := Lib.hid hcb3
              have HR3 := Lib.hid hrow3
              clear hcb3 hrow3 k0 k1 k2 kf HC1 hlt4 HIA
              skip
              go_wp2_with fail
              go_region
              all_goals
                go_wp2_with fail
                obtain ⟨z0, hrz, hbz⟩ := HC3.out.res HR3.out (.slice a (words p).length c) (.bool no) (.bool false)
                generalize (((wc.setCell ⟨w.heap.size, 0, none⟩ (.slice a (words p).length c)).setCell ⟨w.heap.size, 1, none⟩ (.bool no)).setCell ⟨w.heap.size, 2, none⟩ (.bool false)) = Z at z0 hrz hbz ⊢
                have q0 : Z.drew.cell? ⟨w.heap.size, 0, none⟩ = some (.slice a (words p).length c) := by rw [Lib.cell_of_heap (w := Z.drew) z0]; rfl
                have q1 : Z.drew.cell? ⟨w.heap.size, 1, none⟩ = some (.bool no) := by rw [Lib.cell_of_heap (w := Z.drew) z0]; rfl
                have q2 : Z.drew.cell? ⟨w.heap.size, 2, none⟩ = some (.bool false) := by rw [Lib.cell_of_heap (w := Z.drew) z0]; rfl
                have HBZ := Lib.hid hbz.drew
                have HRZ := Lib.hid (show StrRow Z.drew (.slice a (words p).length c) (words p) from hrz)
                generalize Z.drew = Z1 at *
                refine bodyPost_ret (v := .tuple #[.agg #[.slice a (words p).length c, .bool no, .bool false], .string ByteArray.empty]) (by simp [results, Tryz.results33, go_sem, q0, q1, q2, hz3, List.range_succ]) rfl ?_
                unfold ClausePost
                rw [HX.out]
                exact ⟨a, c, rfl, HRZ.out, HBZ.out⟩
      · obtain ⟨n, rfl⟩ := Int.eq_ofNat_of_zero_le (show 0 ≤ k by omega)
        have HN := Lib.hid (show nF t.data.toList = n from by rw [HNF.out, if_neg hk]; rfl)
        have hn : n < t.size := by omega
        have hle : (n : Int) ≤ (t.size : Int) := by omega
        have hne1 : ((n : Int) == (t.size : Int)) = false := by rw [beq_eq_false_iff_ne]; omega
        have hne2 : (n == t.size) = false := by rw [beq_eq_false_iff_ne]; omega
        clear hk hlt hge
        obtain ⟨p, hp⟩ : ∃ p, p = t.data.toList.take n := ⟨_, rfl⟩
        have hwd := fun W => HWD0.out n W (by omega)
        have hsfb := fun W => HSF0.out n W (by omega)
        rw [← hp] at hwd hsfb
        have HWD := Lib.hid hwd
        have HSFB := Lib.hid hsfb
        clear hwd hsfb
        have HP := Lib.hid hp
        have hg : t.data.toList.getD n 0 = t[n]'hn := by
          rw [List.getD_eq_getElem?_getD, List.getElem?_eq_getElem (by rw [← size_list]; exact hn)]; rfl
        have HG := Lib.hid hg
        clear hp hg
        cases hsf : Lib.hasSuffix p [42] with
        | false =>
          have HSF := Lib.hid (show ∀ W, Calls Tryz.prog 59 #[.string (t.extract 0 n), .string ⟨#[42]⟩] W fun e w' => e = .returned (.bool false) ∧ W = w' from by rw [← hsf]; exact HSFB.out)
          have HX := Lib.hid (show clauseF s.data.toList = (⟨words p, no, false⟩, t.data.toList.drop n) from by
            rw [HF.out, bareF, HN.out, ← HP.out, hsf]; rfl)
          clear hsf
          obtain ⟨ht0, hfull, hq1⟩ := htest.resolve_left (fun h => by rw [str_full (by omega)] at h; cases h)
          · skip
            go_upto_region 13 with (go_at_call 58; refine HIA.out.mono ?_; rintro e w1 ⟨rfl, hb1⟩; have HC1 := Lib.hid (HCB.out.keep hb1); have HT1 := Lib.hid (HT2.out.below hb1); clear hb1)
            obtain ⟨k0, k1, k2, kf, _⟩ := HC1.out.cells
            have hlt4 := lt_of_heap HC1.out.cb
            go_cut [] (fun wx => ∃ a c, CB w (.slice a (words p).length c) no false wx ∧ StrRow wx (.slice a (words p).length c) (words p))
            case first =>
              have hT1 := Lib.hid HT1.out
              refine wp_region_noPanic ?_
              refine wp_region_held_drew (S := (fun w' => Hid (Tabs w'))) (by kernel_rfl) ?_ (fun hHeld => ?_)
              · (try dsimp only)
                first | assumption | exact hT1 | exact Lib.hid (Tabs.below (Hid.out (by assumption)) hb2) | exact Lib.hid (Tabs.setCell (Hid.out (by assumption)) (by omega) (by omega) _) | exact Lib.hid (Tabs.setCell (Tabs.setCell (Hid.out (by assumption)) (by omega) (by omega) _) (by omega) (by omega) _)
              refine wpAnyH_take (i := 0) (oi := { dst := some 50, op := Op.move (Operand.tmp 0), type := 9, pos := "find.go:103", after := #[], guard := none }) (v := ?k000v0) rfl (by kernel_rfl) (by kernel_rfl) (by kernel_rfl) (fun _ _ _ h => h) (Or.inl ⟨by rfl, ?k000h0⟩) (by assumption) ?_
              case k000h0 => (intro w hSw; (try dsimp only at hSw); go_simp; (try with_reducible rfl))
              simp only [Act.put, List.setIfInBounds_toArray, List.set_cons_succ, List.set_cons_zero]
              refine wpAnyH_take (i := 1) (oi := { dst := some 51, op := Op.move (Operand.tmp 8), type := 3, pos := "find.go:103", after := #[], guard := none }) (v := ?k000v1) rfl (by kernel_rfl) (by kernel_rfl) (by kernel_rfl) (fun _ _ _ h => h) (Or.inl ⟨by rfl, ?k000h1⟩) (by assumption) ?_
              case k000h1 => (intro w hSw; (try dsimp only at hSw); go_simp; (try with_reducible rfl))
              simp only [Act.put, List.setIfInBounds_toArray, List.set_cons_succ, List.set_cons_zero]
              refine wpAnyH_take (i := 2) (oi := { dst := some 52, op := Op.slice 9 (Operand.tmp 50) none (some (Operand.tmp 51)) none, type := 9, pos := "find.go:103", after := #[{ on := 0, ground := Ground.data }, { on := 1, ground := Ground.data }], guard := none }) (v := ?k000v2) rfl (by kernel_rfl) (by kernel_rfl) (by kernel_rfl) (fun _ _ _ h => h) (Or.inl ⟨by rfl, ?k000h2⟩) (by assumption) ?_
              case k000h2 => (intro w hSw; (try dsimp only at hSw); go_simp; (try with_reducible rfl))
              simp only [Act.put, List.setIfInBounds_toArray, List.set_cons_succ, List.set_cons_zero]
              refine wpAnyH_take (i := 4) (oi := { dst := some 54, op := Op.move (Operand.tmp 0), type := 9, pos := "find.go:103", after := #[], guard := none }) (v := ?k000v4) rfl (by kernel_rfl) (by kernel_rfl) (by kernel_rfl) (fun _ _ _ h => h) (Or.inl ⟨by rfl, ?k000h4⟩) (by assumption) ?_
              case k000h4 => (intro w hSw; (try dsimp only at hSw); go_simp; (try with_reducible rfl))
              simp only [Act.put, List.setIfInBounds_toArray, List.set_cons_succ, List.set_cons_zero]
              refine wpAnyH_take (i := 5) (oi := { dst := some 55, op := Op.move (Operand.tmp 8), type := 3, pos := "find.go:103", after := #[], guard := none }) (v := ?k000v5) rfl (by kernel_rfl) (by kernel_rfl) (by kernel_rfl) (fun _ _ _ h => h) (Or.inl ⟨by rfl, ?k000h5⟩) (by assumption) ?_
              case k000h5 => (intro w hSw; (try dsimp only at hSw); go_simp; (try with_reducible rfl))
              simp only [Act.put, List.setIfInBounds_toArray, List.set_cons_succ, List.set_cons_zero]
              refine wpAnyH_take (i := 6) (oi := { dst := some 56, op := Op.slice 9 (Operand.tmp 54) none (some (Operand.tmp 55)) none, type := 9, pos := "find.go:103", after := #[{ on := 4, ground := Ground.data }, { on := 5, ground := Ground.data }], guard := none }) (v := ?k000v6) rfl (by kernel_rfl) (by kernel_rfl) (by kernel_rfl) (fun _ _ _ h => h) (Or.inl ⟨by rfl, ?k000h6⟩) (by assumption) ?_
              case k000h6 => (intro w hSw; (try dsimp only at hSw); go_simp; (try with_reducible rfl))
              simp only [Act.put, List.setIfInBounds_toArray, List.set_cons_succ, List.set_cons_zero]
              refine wpAnyH_ready (rs := [3]) (by kernel_rfl) (by simp) ?_
              refine AllReadyH.cons (o := { dst := some 53, op := Op.call { callee := Callee.value (Operand.func 14), args := #[Operand.tmp 52], argTypes := #[9] }, type := 35, pos := "find.go:103", after := #[{ on := 2, ground := Ground.data }], guard := none }) rfl (fun K hK => ?_) AllReadyH.nil
              go_simp
              with_reducible refine (HWD.out _ (Hid.out (by assumption))).mono ?_
              rintro e w2 ⟨a, c, rfl, hr0, hb2⟩
              have HC2 := Lib.hid (HC1.out.drew.keep hb2)
              have HR2 := Lib.hid hr0
              obtain ⟨m0, m1, m2, mf, _⟩ := HC2.out.cells
              go_wp2_with fail
              refine hK.out _ _ ?_ (fun hHeld => ?_)
              · (try dsimp only)
                first | assumption | exact hT1 | exact Lib.hid (Tabs.below (Hid.out (by assumption)) hb2) | exact Lib.hid (Tabs.setCell (Hid.out (by assumption)) (by omega) (by omega) _) | exact Lib.hid (Tabs.setCell (Tabs.setCell (Hid.out (by assumption)) (by omega) (by omega) _) (by omega) (by omega) _)
              clear hK K
              try simp only [Act.put, List.setIfInBounds_toArray, List.set_cons_succ, List.set_cons_zero]
              refine wpAnyH_take (i := 20) (oi := { dst := some 70, op := Op.fieldAddr 62 (Operand.tmp 4) 0, type := 0, pos := "find.go:103", after := #[{ on := 0, ground := Ground.phase }, { on := 1, ground := Ground.phase }, { on := 2, ground := Ground.phase }, { on := 3, ground := Ground.phase }, { on := 4, ground := Ground.textOnly Departure.lateStores }, { on := 5, ground := Ground.textOnly Departure.lateStores }, { on := 6, ground := Ground.textOnly Departure.lateStoresUnsure }, { on := 7, ground := Ground.textOnly Departure.lateStoresUnsure }, { on := 8, ground := Ground.textOnly Departure.lateStores }, { on := 9, ground := Ground.textOnly Departure.lateStores }, { on := 10, ground := Ground.textOnly Departure.lateStores }, { on := 11, ground := Ground.textOnly Departure.lateStoresUnsure }, { on := 12, ground := Ground.textOnly Departure.lateStores }, { on := 13, ground := Ground.textOnly Departure.lateStores }, { on := 14, ground := Ground.textOnly Departure.lateStores }, { on := 15, ground := Ground.textOnly Departure.lateStores }, { on := 16, ground := Ground.textOnly Departure.lateStores }, { on := 17, ground := Ground.textOnly Departure.lateStores }, { on := 18, ground := Ground.textOnly Departure.lateStores }, { on := 19, ground := Ground.textOnly Departure.lateStores }], guard := none }) (v := ?k000v20) rfl (by kernel_rfl) (by kernel_rfl) (by kernel_rfl) (fun _ _ _ h => h) (Or.inl ⟨by rfl, ?k000h20⟩) (by assumption) ?_
              case k000h20 => (intro w hSw; (try dsimp only at hSw); go_simp; (try with_reducible rfl))
              simp only [Act.put, List.setIfInBounds_toArray, List.set_cons_succ, List.set_cons_zero]
              refine wpAnyH_ready (rs := [7]) (by kernel_rfl) (by simp) ?_
              refine AllReadyH.cons (o := { dst := some 57, op := Op.call { callee := Callee.value (Operand.func 59), args := #[Operand.tmp 56, Operand.const (Value.string { data := #[42] })], argTypes := #[9, 9] }, type := 4, pos := "find.go:103", after := #[{ on := 6, ground := Ground.data }, { on := 3, ground := Ground.chain }], guard := none }) rfl (fun K hK => ?_) AllReadyH.nil
              go_simp
              with_reducible refine (HSF.out _).mono ?_
              rintro e w9 ⟨rfl, rfl⟩
              go_wp2_with fail
              refine hK.out _ _ ?_ (fun hHeld => ?_)
              · (try dsimp only)
                first | assumption | exact hT1 | exact Lib.hid (Tabs.below (Hid.out (by assumption)) hb2) | exact Lib.hid (Tabs.setCell (Hid.out (by assumption)) (by omega) (by omega) _) | exact Lib.hid (Tabs.setCell (Tabs.setCell (Hid.out (by assumption)) (by omega) (by omega) _) (by omega) (by omega) _)
              clear hK K
              try simp only [Act.put, List.setIfInBounds_toArray, List.set_cons_succ, List.set_cons_zero]
              refine wpAnyH_take (i := 8) (oi := { dst := some 58, op := Op.move (Operand.tmp 57), type := 4, pos := "find.go:103", after := #[{ on := 7, ground := Ground.data }, { on := 7, ground := Ground.chain }], guard := none }) (v := (.bool false)) rfl (by kernel_rfl) (by kernel_rfl) (by kernel_rfl) (fun _ _ _ h => h) (Or.inl ⟨by rfl, ?k000h8⟩) (by assumption) ?_
              case k000h8 => (intro w hSw; (try dsimp only at hSw); go_simp; (try with_reducible rfl))
              simp only [Act.put, List.setIfInBounds_toArray, List.set_cons_succ, List.set_cons_zero]
              refine wpAnyH_take (i := 9) (oi := { dst := some 59, op := Op.move (Operand.tmp 8), type := 3, pos := "find.go:103", after := #[{ on := 8, ground := Ground.guard }], guard := some (8, true) }) (v := undef) rfl (by kernel_rfl) (by kernel_rfl) (by kernel_rfl) (fun _ _ _ h => h) (Or.inr ⟨by rfl, rfl⟩) (by assumption) ?_
              simp only [Act.put, List.setIfInBounds_toArray, List.set_cons_succ, List.set_cons_zero]
              refine wpAnyH_take (i := 10) (oi := { dst := some 60, op := Op.move (Operand.tmp 0), type := 9, pos := "find.go:103", after := #[{ on := 8, ground := Ground.guard }], guard := some (8, true) }) (v := undef) rfl (by kernel_rfl) (by kernel_rfl) (by kernel_rfl) (fun _ _ _ h => h) (Or.inr ⟨by rfl, rfl⟩) (by assumption) ?_
              simp only [Act.put, List.setIfInBounds_toArray, List.set_cons_succ, List.set_cons_zero]
              refine wpAnyH_take (i := 11) (oi := { dst := some 61, op := Op.call { callee := Callee.builtin Builtin.len, args := #[Operand.tmp 60], argTypes := #[9] }, type := 3, pos := "find.go:103", after := #[{ on := 10, ground := Ground.data }, { on := 8, ground := Ground.guard }], guard := some (8, true) }) (v := undef) rfl (by kernel_rfl) (by kernel_rfl) (by kernel_rfl) (fun _ _ _ h => h) (Or.inr ⟨by rfl, rfl⟩) (by assumption) ?_
              simp only [Act.put, List.setIfInBounds_toArray, List.set_cons_succ, List.set_cons_zero]
              refine wpAnyH_take (i := 12) (oi := { dst := some 62, op := Op.binOp BinOp.eql 3 (Operand.tmp 59) (Operand.tmp 61) 3, type := 4, pos := "find.go:103", after := #[{ on := 9, ground := Ground.data }, { on := 11, ground := Ground.data }, { on := 8, ground := Ground.guard }], guard := some (8, true) }) (v := undef) rfl (by kernel_rfl) (by kernel_rfl) (by kernel_rfl) (fun _ _ _ h => h) (Or.inr ⟨by rfl, rfl⟩) (by assumption) ?_
              simp only [Act.put, List.setIfInBounds_toArray, List.set_cons_succ, List.set_cons_zero]
              refine wpAnyH_take (i := 13) (oi := { dst := some 63, op := Op.move (Operand.tmp 62), type := 4, pos := "find.go:103", after := #[{ on := 12, ground := Ground.data }, { on := 8, ground := Ground.chain }, { on := 8, ground := Ground.guard }], guard := some (8, true) }) (v := undef) rfl (by kernel_rfl) (by kernel_rfl) (by kernel_rfl) (fun _ _ _ h => h) (Or.inr ⟨by rfl, rfl⟩) (by assumption) ?_
              simp only [Act.put, List.setIfInBounds_toArray, List.set_cons_succ, List.set_cons_zero]
              refine wpAnyH_take (i := 14) (oi := { dst := some 64, op := Op.move (Operand.tmp 0), type := 9, pos := "find.go:103", after := #[{ on := 13, ground := Ground.guard }, { on := 21, ground := Ground.gcOnly Departure.lateStores }], guard := some (13, false) }) (v := undef) rfl (by kernel_rfl) (by kernel_rfl) (by kernel_rfl) (fun _ _ _ h => h) (Or.inr ⟨by rfl, rfl⟩) (by assumption) ?_
              simp only [Act.put, List.setIfInBounds_toArray, List.set_cons_succ, List.set_cons_zero]
              refine wpAnyH_take (i := 15) (oi := { dst := some 65, op := Op.move (Operand.tmp 8), type := 3, pos := "find.go:103", after := #[{ on := 13, ground := Ground.guard }, { on := 21, ground := Ground.gcOnly Departure.lateStores }], guard := some (13, false) }) (v := undef) rfl (by kernel_rfl) (by kernel_rfl) (by kernel_rfl) (fun _ _ _ h => h) (Or.inr ⟨by rfl, rfl⟩) (by assumption) ?_
              simp only [Act.put, List.setIfInBounds_toArray, List.set_cons_succ, List.set_cons_zero]
              refine wpAnyH_take (i := 16) (oi := { dst := some 66, op := Op.index 9 (Operand.tmp 64) (Operand.tmp 65), type := 5, pos := "find.go:103", after := #[{ on := 14, ground := Ground.data }, { on := 15, ground := Ground.data }, { on := 13, ground := Ground.guard }, { on := 21, ground := Ground.gcOnly Departure.lateStores }], guard := some (13, false) }) (v := undef) rfl (by kernel_rfl) (by kernel_rfl) (by kernel_rfl) (fun _ _ _ h => h) (Or.inr ⟨by rfl, rfl⟩) (by assumption) ?_
              simp only [Act.put, List.setIfInBounds_toArray, List.set_cons_succ, List.set_cons_zero]
              refine wpAnyH_take (i := 17) (oi := { dst := some 67, op := Op.binOp BinOp.eql 5 (Operand.tmp 66) (Operand.const (Value.int IntKind.u8 32)) 5, type := 4, pos := "find.go:103", after := #[{ on := 16, ground := Ground.data }, { on := 13, ground := Ground.guard }, { on := 21, ground := Ground.gcOnly Departure.lateStores }], guard := some (13, false) }) (v := undef) rfl (by kernel_rfl) (by kernel_rfl) (by kernel_rfl) (fun _ _ _ h => h) (Or.inr ⟨by rfl, rfl⟩) (by assumption) ?_
              simp only [Act.put, List.setIfInBounds_toArray, List.set_cons_succ, List.set_cons_zero]
              refine wpAnyH_take (i := 18) (oi := { dst := some 68, op := Op.pick (Operand.tmp 63) (Operand.const (Value.bool true)) (Operand.tmp 67), type := 4, pos := "find.go:103", after := #[{ on := 13, ground := Ground.data }, { on := 17, ground := Ground.data }, { on := 8, ground := Ground.guard }, { on := 21, ground := Ground.gcOnly Departure.lateStores }], guard := some (8, true) }) (v := undef) rfl (by kernel_rfl) (by kernel_rfl) (by kernel_rfl) (fun _ _ _ h => h) (Or.inr ⟨by rfl, rfl⟩) (by assumption) ?_
              simp only [Act.put, List.setIfInBounds_toArray, List.set_cons_succ, List.set_cons_zero]
              refine wpAnyH_take (i := 19) (oi := { dst := some 69, op := Op.pick (Operand.tmp 58) (Operand.tmp 68) (Operand.const (Value.bool false)), type := 4, pos := "find.go:103", after := #[{ on := 8, ground := Ground.data }, { on := 18, ground := Ground.data }, { on := 21, ground := Ground.gcOnly Departure.lateStores }], guard := none }) (v := (.bool false)) rfl (by kernel_rfl) (by kernel_rfl) (by kernel_rfl) (fun _ _ _ h => h) (Or.inl ⟨by rfl, ?k000h19⟩) (by assumption) ?_
              case k000h19 => (intro w hSw; (try dsimp only at hSw); go_simp; (try with_reducible rfl))
              simp only [Act.put, List.setIfInBounds_toArray, List.set_cons_succ, List.set_cons_zero]
              refine wpAnyH_ready (rs := [21]) (by kernel_rfl) (by simp) ?_
              refine AllReadyH.cons (o := { dst := none, op := Op.store 35 (Operand.tmp 70) (Operand.tmp 53), type := 0, pos := "find.go:103", after := #[{ on := 20, ground := Ground.data }, { on := 3, ground := Ground.data }, { on := 13, ground := Ground.chain }, { on := 0, ground := Ground.phase }, { on := 1, ground := Ground.phase }, { on := 2, ground := Ground.phase }, { on := 3, ground := Ground.phase }, { on := 4, ground := Ground.textOnly Departure.lateStores }, { on := 5, ground := Ground.textOnly Departure.lateStores }, { on := 6, ground := Ground.textOnly Departure.lateStoresUnsure }, { on := 7, ground := Ground.textOnly Departure.lateStoresUnsure }, { on := 8, ground := Ground.textOnly Departure.lateStores }, { on := 9, ground := Ground.textOnly Departure.lateStores }, { on := 10, ground := Ground.textOnly Departure.lateStores }, { on := 11, ground := Ground.textOnly Departure.lateStoresUnsure }, { on := 12, ground := Ground.textOnly Departure.lateStores }, { on := 13, ground := Ground.textOnly Departure.lateStores }, { on := 14, ground := Ground.textOnly Departure.lateStores }, { on := 15, ground := Ground.textOnly Departure.lateStores }, { on := 16, ground := Ground.textOnly Departure.lateStores }, { on := 17, ground := Ground.textOnly Departure.lateStores }, { on := 18, ground := Ground.textOnly Departure.lateStores }, { on := 19, ground := Ground.textOnly Departure.lateStores }], guard := none }) rfl (fun K hK => ?_) AllReadyH.nil
              go_simp
              skip
              go_wp2_with fail
              refine hK.out _ _ ?_ (fun hHeld => ?_)
              · (try dsimp only)
                first | assumption | exact hT1 | exact Lib.hid (Tabs.below (Hid.out (by assumption)) hb2) | exact Lib.hid (Tabs.setCell (Hid.out (by assumption)) (by omega) (by omega) _) | exact Lib.hid (Tabs.setCell (Tabs.setCell (Hid.out (by assumption)) (by omega) (by omega) _) (by omega) (by omega) _)
              clear hK K
              try simp only [Act.put, List.setIfInBounds_toArray, List.set_cons_succ, List.set_cons_zero]
              refine wpAnyH_take (i := 22) (oi := { dst := some 71, op := Op.fieldAddr 62 (Operand.tmp 4) 2, type := 0, pos := "find.go:103", after := #[{ on := 0, ground := Ground.phase }, { on := 1, ground := Ground.phase }, { on := 2, ground := Ground.phase }, { on := 3, ground := Ground.phase }, { on := 4, ground := Ground.phase }, { on := 5, ground := Ground.phase }, { on := 6, ground := Ground.phase }, { on := 7, ground := Ground.phase }, { on := 8, ground := Ground.phase }, { on := 9, ground := Ground.phase }, { on := 10, ground := Ground.phase }, { on := 11, ground := Ground.phase }, { on := 12, ground := Ground.phase }, { on := 13, ground := Ground.phase }, { on := 14, ground := Ground.phase }, { on := 15, ground := Ground.phase }, { on := 16, ground := Ground.phase }, { on := 17, ground := Ground.phase }, { on := 18, ground := Ground.phase }, { on := 19, ground := Ground.phase }, { on := 20, ground := Ground.phase }, { on := 21, ground := Ground.phase }], guard := none }) (v := ?k000v22) rfl (by kernel_rfl) (by kernel_rfl) (by kernel_rfl) (fun _ _ _ h => h) (Or.inl ⟨by rfl, ?k000h22⟩) (by assumption) ?_
              case k000h22 => (intro w hSw; (try dsimp only at hSw); go_simp; (try with_reducible rfl))
              simp only [Act.put, List.setIfInBounds_toArray, List.set_cons_succ, List.set_cons_zero]
              refine wpAnyH_ready (rs := [23]) (by kernel_rfl) (by simp) ?_
              refine AllReadyH.cons (o := { dst := none, op := Op.store 4 (Operand.tmp 71) (Operand.tmp 69), type := 0, pos := "find.go:103", after := #[{ on := 22, ground := Ground.data }, { on := 19, ground := Ground.data }, { on := 21, ground := Ground.chain }, { on := 0, ground := Ground.phase }, { on := 1, ground := Ground.phase }, { on := 2, ground := Ground.phase }, { on := 3, ground := Ground.phase }, { on := 4, ground := Ground.phase }, { on := 5, ground := Ground.phase }, { on := 6, ground := Ground.phase }, { on := 7, ground := Ground.phase }, { on := 8, ground := Ground.phase }, { on := 9, ground := Ground.phase }, { on := 10, ground := Ground.phase }, { on := 11, ground := Ground.phase }, { on := 12, ground := Ground.phase }, { on := 13, ground := Ground.phase }, { on := 14, ground := Ground.phase }, { on := 15, ground := Ground.phase }, { on := 16, ground := Ground.phase }, { on := 17, ground := Ground.phase }, { on := 18, ground := Ground.phase }, { on := 19, ground := Ground.phase }, { on := 20, ground := Ground.phase }, { on := 21, ground := Ground.phase }], guard := none }) rfl (fun K hK => ?_) AllReadyH.nil
              go_simp
              skip
              go_wp2_with fail
              refine hK.out _ _ ?_ (fun hHeld => ?_)
              · (try dsimp only)
                first | assumption | exact hT1 | exact Lib.hid (Tabs.below (Hid.out (by assumption)) hb2) | exact Lib.hid (Tabs.setCell (Hid.out (by assumption)) (by omega) (by omega) _) | exact Lib.hid (Tabs.setCell (Tabs.setCell (Hid.out (by assumption)) (by omega) (by omega) _) (by omega) (by omega) _)
              clear hK K
              try simp only [Act.put, List.setIfInBounds_toArray, List.set_cons_succ, List.set_cons_zero]
              refine wpAnyH_done (by kernel_rfl) ?_ _
              refine NoPanic.normal ?_
              go_wp2_with fail
              go_meet
              exact ⟨a, c, (HC2.out.set0 _).set2 _, (HC2.out.set0 _).row (HC2.out.row HR2.out 0 _) 2 _⟩
            case rest =>
              obtain ⟨a, c, hcb3, hrow3⟩ := hcut
              obtain ⟨c0, c1, c2, cf, r0, r1, r2, rf⟩ := hcb3.cells
              have HC3 := Lib.hid hcb3
              have HR3 := Lib.hid hrow3
              clear hcb3 hrow3 k0 k1 k2 kf HC1 hlt4 HIA
              skip
              go_wp2_with fail
              go_region
              all_goals
                go_wp2_with fail
                obtain ⟨z0, hrz, hbz⟩ := HC3.out.res HR3.out (.slice a (words p).length c) (.bool no) (.bool false)
                generalize (((wc.setCell ⟨w.heap.size, 0, none⟩ (.slice a (words p).length c)).setCell ⟨w.heap.size, 1, none⟩ (.bool no)).setCell ⟨w.heap.size, 2, none⟩ (.bool false)) = Z at z0 hrz hbz ⊢
                have q0 : Z.drew.cell? ⟨w.heap.size, 0, none⟩ = some (.slice a (words p).length c) := by rw [Lib.cell_of_heap (w := Z.drew) z0]; rfl
                have q1 : Z.drew.cell? ⟨w.heap.size, 1, none⟩ = some (.bool no) := by rw [Lib.cell_of_heap (w := Z.drew) z0]; rfl
                have q2 : Z.drew.cell? ⟨w.heap.size, 2, none⟩ = some (.bool false) := by rw [Lib.cell_of_heap (w := Z.drew) z0]; rfl
                have HBZ := Lib.hid hbz.drew
                have HRZ := Lib.hid (show StrRow Z.drew (.slice a (words p).length c) (words p) from hrz)
                generalize Z.drew = Z1 at *
                refine bodyPost_ret (v := .tuple #[.agg #[.slice a (words p).length c, .bool no, .bool false], .string (t.extract n t.size)]) (by simp [results, Tryz.results33, go_sem, q0, q1, q2, hz3, List.range_succ]) rfl ?_
                unfold ClausePost
                rw [HX.out]
                exact ⟨a, c, by rw [drop_ext], HRZ.out, HBZ.out⟩
        | true =>
          have hspi : (((t[n]'hn).toNat : Int) == 32) = (t[n]'hn == 32) := by
            rw [Bool.eq_iff_iff, beq_iff_eq, beq_iff_eq, ← UInt8.toNat_inj]
            have : (32 : UInt8).toNat = 32 := rfl
            omega
          cases hsp : (t[n]'hn == 32) with
          | true =>
            rw [hsp] at hspi
            have HSF := Lib.hid (show ∀ W, Calls Tryz.prog 59 #[.string (t.extract 0 n), .string ⟨#[42]⟩] W fun e w' => e = .returned (.bool true) ∧ W = w' from by rw [← hsf]; exact HSFB.out)
            have HX := Lib.hid (show clauseF s.data.toList = (⟨words p, no, true⟩, t.data.toList.drop n) from by
              rw [HF.out, bareF, HN.out, ← HP.out, hsf, ← size_list, hne2, HG.out, hsp]; rfl)
            clear hsf
            obtain ⟨ht0, hfull, hq1⟩ := htest.resolve_left (fun h => by rw [str_full (by omega)] at h; cases h)
            · skip
              go_upto_region 13 with (go_at_call 58; refine HIA.out.mono ?_; rintro e w1 ⟨rfl, hb1⟩; have HC1 := Lib.hid (HCB.out.keep hb1); have HT1 := Lib.hid (HT2.out.below hb1); clear hb1)
              obtain ⟨k0, k1, k2, kf, _⟩ := HC1.out.cells
              have hlt4 := lt_of_heap HC1.out.cb
              go_cut [] (fun wx => ∃ a c, CB w (.slice a (words p).length c) no true wx ∧ StrRow wx (.slice a (words p).length c) (words p))
              case first =>
                have hT1 := Lib.hid HT1.out
                refine wp_region_noPanic ?_
                refine wp_region_held_drew (S := (fun w' => Hid (Tabs w'))) (by kernel_rfl) ?_ (fun hHeld => ?_)
                · (try dsimp only)
                  first | assumption | exact hT1 | exact Lib.hid (Tabs.below (Hid.out (by assumption)) hb2) | exact Lib.hid (Tabs.setCell (Hid.out (by assumption)) (by omega) (by omega) _) | exact Lib.hid (Tabs.setCell (Tabs.setCell (Hid.out (by assumption)) (by omega) (by omega) _) (by omega) (by omega) _)
                refine wpAnyH_take (i := 0) (oi := { dst := some 50, op := Op.move (Operand.tmp 0), type := 9, pos := "find.go:103", after := #[], guard := none }) (v := ?k101v0) rfl (by kernel_rfl) (by kernel_rfl) (by kernel_rfl) (fun _ _ _ h => h) (Or.inl ⟨by rfl, ?k101h0⟩) (by assumption) ?_
                case k101h0 => (intro w hSw; (try dsimp only at hSw); go_simp; (try with_reducible rfl))
                simp only [Act.put, List.setIfInBounds_toArray, List.set_cons_succ, List.set_cons_zero]
                refine wpAnyH_take (i := 1) (oi := { dst := some 51, op := Op.move (Operand.tmp 8), type := 3, pos := "find.go:103", after := #[], guard := none }) (v := ?k101v1) rfl (by kernel_rfl) (by kernel_rfl) (by kernel_rfl) (fun _ _ _ h => h) (Or.inl ⟨by rfl, ?k101h1⟩) (by assumption) ?_
                case k101h1 => (intro w hSw; (try dsimp only at hSw); go_simp; (try with_reducible rfl))
                simp only [Act.put, List.setIfInBounds_toArray, List.set_cons_succ, List.set_cons_zero]
                refine wpAnyH_take (i := 2) (oi := { dst := some 52, op := Op.slice 9 (Operand.tmp 50) none (some (Operand.tmp 51)) none, type := 9, pos := "find.go:103", after := #[{ on := 0, ground := Ground.data }, { on := 1, ground := Ground.data }], guard := none }) (v := ?k101v2) rfl (by kernel_rfl) (by kernel_rfl) (by kernel_rfl) (fun _ _ _ h => h) (Or.inl ⟨by rfl, ?k101h2⟩) (by assumption) ?_
                case k101h2 => (intro w hSw; (try dsimp only at hSw); go_simp; (try with_reducible rfl))
                simp only [Act.put, List.setIfInBounds_toArray, List.set_cons_succ, List.set_cons_zero]
                refine wpAnyH_take (i := 4) (oi := { dst := some 54, op := Op.move (Operand.tmp 0), type := 9, pos := "find.go:103", after := #[], guard := none }) (v := ?k101v4) rfl (by kernel_rfl) (by kernel_rfl) (by kernel_rfl) (fun _ _ _ h => h) (Or.inl ⟨by rfl, ?k101h4⟩) (by assumption) ?_
                case k101h4 => (intro w hSw; (try dsimp only at hSw); go_simp; (try with_reducible rfl))
                simp only [Act.put, List.setIfInBounds_toArray, List.set_cons_succ, List.set_cons_zero]
                refine wpAnyH_take (i := 5) (oi := { dst := some 55, op := Op.move (Operand.tmp 8), type := 3, pos := "find.go:103", after := #[], guard := none }) (v := ?k101v5) rfl (by kernel_rfl) (by kernel_rfl) (by kernel_rfl) (fun _ _ _ h => h) (Or.inl ⟨by rfl, ?k101h5⟩) (by assumption) ?_
                case k101h5 => (intro w hSw; (try dsimp only at hSw); go_simp; (try with_reducible rfl))
                simp only [Act.put, List.setIfInBounds_toArray, List.set_cons_succ, List.set_cons_zero]
                refine wpAnyH_take (i := 6) (oi := { dst := some 56, op := Op.slice 9 (Operand.tmp 54) none (some (Operand.tmp 55)) none, type := 9, pos := "find.go:103", after := #[{ on := 4, ground := Ground.data }, { on := 5, ground := Ground.data }], guard := none }) (v := ?k101v6) rfl (by kernel_rfl) (by kernel_rfl) (by kernel_rfl) (fun _ _ _ h => h) (Or.inl ⟨by rfl, ?k101h6⟩) (by assumption) ?_
                case k101h6 => (intro w hSw; (try dsimp only at hSw); go_simp; (try with_reducible rfl))
                simp only [Act.put, List.setIfInBounds_toArray, List.set_cons_succ, List.set_cons_zero]
                refine wpAnyH_ready (rs := [3]) (by kernel_rfl) (by simp) ?_
                refine AllReadyH.cons (o := { dst := some 53, op := Op.call { callee := Callee.value (Operand.func 14), args := #[Operand.tmp 52], argTypes := #[9] }, type := 35, pos := "find.go:103", after := #[{ on := 2, ground := Ground.data }], guard := none }) rfl (fun K hK => ?_) AllReadyH.nil
                go_simp
                with_reducible refine (HWD.out _ (Hid.out (by assumption))).mono ?_
                rintro e w2 ⟨a, c, rfl, hr0, hb2⟩
                have HC2 := Lib.hid (HC1.out.drew.keep hb2)
                have HR2 := Lib.hid hr0
                obtain ⟨m0, m1, m2, mf, _⟩ := HC2.out.cells
                go_wp2_with fail
                refine hK.out _ _ ?_ (fun hHeld => ?_)
                · (try dsimp only)
                  first | assumption | exact hT1 | exact Lib.hid (Tabs.below (Hid.out (by assumption)) hb2) | exact Lib.hid (Tabs.setCell (Hid.out (by assumption)) (by omega) (by omega) _) | exact Lib.hid (Tabs.setCell (Tabs.setCell (Hid.out (by assumption)) (by omega) (by omega) _) (by omega) (by omega) _)
                clear hK K
                try simp only [Act.put, List.setIfInBounds_toArray, List.set_cons_succ, List.set_cons_zero]
                refine wpAnyH_take (i := 20) (oi := { dst := some 70, op := Op.fieldAddr 62 (Operand.tmp 4) 0, type := 0, pos := "find.go:103", after := #[{ on := 0, ground := Ground.phase }, { on := 1, ground := Ground.phase }, { on := 2, ground := Ground.phase }, { on := 3, ground := Ground.phase }, { on := 4, ground := Ground.textOnly Departure.lateStores }, { on := 5, ground := Ground.textOnly Departure.lateStores }, { on := 6, ground := Ground.textOnly Departure.lateStoresUnsure }, { on := 7, ground := Ground.textOnly Departure.lateStoresUnsure }, { on := 8, ground := Ground.textOnly Departure.lateStores }, { on := 9, ground := Ground.textOnly Departure.lateStores }, { on := 10, ground := Ground.textOnly Departure.lateStores }, { on := 11, ground := Ground.textOnly Departure.lateStoresUnsure }, { on := 12, ground := Ground.textOnly Departure.lateStores }, { on := 13, ground := Ground.textOnly Departure.lateStores }, { on := 14, ground := Ground.textOnly Departure.lateStores }, { on := 15, ground := Ground.textOnly Departure.lateStores }, { on := 16, ground := Ground.textOnly Departure.lateStores }, { on := 17, ground := Ground.textOnly Departure.lateStores }, { on := 18, ground := Ground.textOnly Departure.lateStores }, { on := 19, ground := Ground.textOnly Departure.lateStores }], guard := none }) (v := ?k101v20) rfl (by kernel_rfl) (by kernel_rfl) (by kernel_rfl) (fun _ _ _ h => h) (Or.inl ⟨by rfl, ?k101h20⟩) (by assumption) ?_
                case k101h20 => (intro w hSw; (try dsimp only at hSw); go_simp; (try with_reducible rfl))
                simp only [Act.put, List.setIfInBounds_toArray, List.set_cons_succ, List.set_cons_zero]
                refine wpAnyH_ready (rs := [7]) (by kernel_rfl) (by simp) ?_
                refine AllReadyH.cons (o := { dst := some 57, op := Op.call { callee := Callee.value (Operand.func 59), args := #[Operand.tmp 56, Operand.const (Value.string { data := #[42] })], argTypes := #[9, 9] }, type := 4, pos := "find.go:103", after := #[{ on := 6, ground := Ground.data }, { on := 3, ground := Ground.chain }], guard := none }) rfl (fun K hK => ?_) AllReadyH.nil
                go_simp
                with_reducible refine (HSF.out _).mono ?_
                rintro e w9 ⟨rfl, rfl⟩
                go_wp2_with fail
                refine hK.out _ _ ?_ (fun hHeld => ?_)
                · (try dsimp only)
                  first | assumption | exact hT1 | exact Lib.hid (Tabs.below (Hid.out (by assumption)) hb2) | exact Lib.hid (Tabs.setCell (Hid.out (by assumption)) (by omega) (by omega) _) | exact Lib.hid (Tabs.setCell (Tabs.setCell (Hid.out (by assumption)) (by omega) (by omega) _) (by omega) (by omega) _)
                clear hK K
                try simp only [Act.put, List.setIfInBounds_toArray, List.set_cons_succ, List.set_cons_zero]
                refine wpAnyH_take (i := 8) (oi := { dst := some 58, op := Op.move (Operand.tmp 57), type := 4, pos := "find.go:103", after := #[{ on := 7, ground := Ground.data }, { on := 7, ground := Ground.chain }], guard := none }) (v := ?k101v8) rfl (by kernel_rfl) (by kernel_rfl) (by kernel_rfl) (fun _ _ _ h => h) (Or.inl ⟨by rfl, ?k101h8⟩) (by assumption) ?_
                case k101h8 => (intro w hSw; (try dsimp only at hSw); go_simp; (try with_reducible rfl))
                simp only [Act.put, List.setIfInBounds_toArray, List.set_cons_succ, List.set_cons_zero]
                refine wpAnyH_take (i := 9) (oi := { dst := some 59, op := Op.move (Operand.tmp 8), type := 3, pos := "find.go:103", after := #[{ on := 8, ground := Ground.guard }], guard := some (8, true) }) (v := ?k101v9) rfl (by kernel_rfl) (by kernel_rfl) (by kernel_rfl) (fun _ _ _ h => h) (Or.inl ⟨by rfl, ?k101h9⟩) (by assumption) ?_
                case k101h9 => (intro w hSw; (try dsimp only at hSw); go_simp; (try with_reducible rfl))
                simp only [Act.put, List.setIfInBounds_toArray, List.set_cons_succ, List.set_cons_zero]
                refine wpAnyH_take (i := 10) (oi := { dst := some 60, op := Op.move (Operand.tmp 0), type := 9, pos := "find.go:103", after := #[{ on := 8, ground := Ground.guard }], guard := some (8, true) }) (v := ?k101v10) rfl (by kernel_rfl) (by kernel_rfl) (by kernel_rfl) (fun _ _ _ h => h) (Or.inl ⟨by rfl, ?k101h10⟩) (by assumption) ?_
                case k101h10 => (intro w hSw; (try dsimp only at hSw); go_simp; (try with_reducible rfl))
                simp only [Act.put, List.setIfInBounds_toArray, List.set_cons_succ, List.set_cons_zero]
                refine wpAnyH_take (i := 11) (oi := { dst := some 61, op := Op.call { callee := Callee.builtin Builtin.len, args := #[Operand.tmp 60], argTypes := #[9] }, type := 3, pos := "find.go:103", after := #[{ on := 10, ground := Ground.data }, { on := 8, ground := Ground.guard }], guard := some (8, true) }) (v := ?k101v11) rfl (by kernel_rfl) (by kernel_rfl) (by kernel_rfl) (fun _ _ _ h => h) (Or.inl ⟨by rfl, ?k101h11⟩) (by assumption) ?_
                case k101h11 => (intro w hSw; (try dsimp only at hSw); go_simp; (try with_reducible rfl))
                simp only [Act.put, List.setIfInBounds_toArray, List.set_cons_succ, List.set_cons_zero]
                refine wpAnyH_take (i := 12) (oi := { dst := some 62, op := Op.binOp BinOp.eql 3 (Operand.tmp 59) (Operand.tmp 61) 3, type := 4, pos := "find.go:103", after := #[{ on := 9, ground := Ground.data }, { on := 11, ground := Ground.data }, { on := 8, ground := Ground.guard }], guard := some (8, true) }) (v := (.bool false)) rfl (by kernel_rfl) (by kernel_rfl) (by kernel_rfl) (fun _ _ _ h => h) (Or.inl ⟨by rfl, ?k101h12⟩) (by assumption) ?_
                case k101h12 => (intro w hSw; (try dsimp only at hSw); go_simp; (try with_reducible rfl))
                simp only [Act.put, List.setIfInBounds_toArray, List.set_cons_succ, List.set_cons_zero]
                refine wpAnyH_take (i := 13) (oi := { dst := some 63, op := Op.move (Operand.tmp 62), type := 4, pos := "find.go:103", after := #[{ on := 12, ground := Ground.data }, { on := 8, ground := Ground.chain }, { on := 8, ground := Ground.guard }], guard := some (8, true) }) (v := (.bool false)) rfl (by kernel_rfl) (by kernel_rfl) (by kernel_rfl) (fun _ _ _ h => h) (Or.inl ⟨by rfl, ?k101h13⟩) (by assumption) ?_
                case k101h13 => (intro w hSw; (try dsimp only at hSw); go_simp; (try with_reducible rfl))
                simp only [Act.put, List.setIfInBounds_toArray, List.set_cons_succ, List.set_cons_zero]
                refine wpAnyH_take (i := 14) (oi := { dst := some 64, op := Op.move (Operand.tmp 0), type := 9, pos := "find.go:103", after := #[{ on := 13, ground := Ground.guard }, { on := 21, ground := Ground.gcOnly Departure.lateStores }], guard := some (13, false) }) (v := ?k101v14) rfl (by kernel_rfl) (by kernel_rfl) (by kernel_rfl) (fun _ _ _ h => h) (Or.inl ⟨by rfl, ?k101h14⟩) (by assumption) ?_
                case k101h14 => (intro w hSw; (try dsimp only at hSw); go_simp; (try with_reducible rfl))
                simp only [Act.put, List.setIfInBounds_toArray, List.set_cons_succ, List.set_cons_zero]
                refine wpAnyH_take (i := 15) (oi := { dst := some 65, op := Op.move (Operand.tmp 8), type := 3, pos := "find.go:103", after := #[{ on := 13, ground := Ground.guard }, { on := 21, ground := Ground.gcOnly Departure.lateStores }], guard := some (13, false) }) (v := ?k101v15) rfl (by kernel_rfl) (by kernel_rfl) (by kernel_rfl) (fun _ _ _ h => h) (Or.inl ⟨by rfl, ?k101h15⟩) (by assumption) ?_
                case k101h15 => (intro w hSw; (try dsimp only at hSw); go_simp; (try with_reducible rfl))
                simp only [Act.put, List.setIfInBounds_toArray, List.set_cons_succ, List.set_cons_zero]
                refine wpAnyH_take (i := 16) (oi := { dst := some 66, op := Op.index 9 (Operand.tmp 64) (Operand.tmp 65), type := 5, pos := "find.go:103", after := #[{ on := 14, ground := Ground.data }, { on := 15, ground := Ground.data }, { on := 13, ground := Ground.guard }, { on := 21, ground := Ground.gcOnly Departure.lateStores }], guard := some (13, false) }) (v := ?k101v16) rfl (by kernel_rfl) (by kernel_rfl) (by kernel_rfl) (fun _ _ _ h => h) (Or.inl ⟨by rfl, ?k101h16⟩) (by assumption) ?_
                case k101h16 => (intro w hSw; (try dsimp only at hSw); go_simp; (try with_reducible rfl))
                simp only [Act.put, List.setIfInBounds_toArray, List.set_cons_succ, List.set_cons_zero]
                refine wpAnyH_take (i := 17) (oi := { dst := some 67, op := Op.binOp BinOp.eql 5 (Operand.tmp 66) (Operand.const (Value.int IntKind.u8 32)) 5, type := 4, pos := "find.go:103", after := #[{ on := 16, ground := Ground.data }, { on := 13, ground := Ground.guard }, { on := 21, ground := Ground.gcOnly Departure.lateStores }], guard := some (13, false) }) (v := ?k101v17) rfl (by kernel_rfl) (by kernel_rfl) (by kernel_rfl) (fun _ _ _ h => h) (Or.inl ⟨by rfl, ?k101h17⟩) (by assumption) ?_
                case k101h17 => (intro w hSw; (try dsimp only at hSw); go_simp; (try with_reducible rfl))
                simp only [Act.put, List.setIfInBounds_toArray, List.set_cons_succ, List.set_cons_zero]
                refine wpAnyH_take (i := 18) (oi := { dst := some 68, op := Op.pick (Operand.tmp 63) (Operand.const (Value.bool true)) (Operand.tmp 67), type := 4, pos := "find.go:103", after := #[{ on := 13, ground := Ground.data }, { on := 17, ground := Ground.data }, { on := 8, ground := Ground.guard }, { on := 21, ground := Ground.gcOnly Departure.lateStores }], guard := some (8, true) }) (v := ?k101v18) rfl (by kernel_rfl) (by kernel_rfl) (by kernel_rfl) (fun _ _ _ h => h) (Or.inl ⟨by rfl, ?k101h18⟩) (by assumption) ?_
                case k101h18 => (intro w hSw; (try dsimp only at hSw); go_simp; (try with_reducible rfl))
                simp only [Act.put, List.setIfInBounds_toArray, List.set_cons_succ, List.set_cons_zero]
                refine wpAnyH_take (i := 19) (oi := { dst := some 69, op := Op.pick (Operand.tmp 58) (Operand.tmp 68) (Operand.const (Value.bool false)), type := 4, pos := "find.go:103", after := #[{ on := 8, ground := Ground.data }, { on := 18, ground := Ground.data }, { on := 21, ground := Ground.gcOnly Departure.lateStores }], guard := none }) (v := ?k101v19) rfl (by kernel_rfl) (by kernel_rfl) (by kernel_rfl) (fun _ _ _ h => h) (Or.inl ⟨by rfl, ?k101h19⟩) (by assumption) ?_
                case k101h19 => (intro w hSw; (try dsimp only at hSw); go_simp; (try with_reducible rfl))
                simp only [Act.put, List.setIfInBounds_toArray, List.set_cons_succ, List.set_cons_zero]
                refine wpAnyH_ready (rs := [21]) (by kernel_rfl) (by simp) ?_
                refine AllReadyH.cons (o := { dst := none, op := Op.store 35 (Operand.tmp 70) (Operand.tmp 53), type := 0, pos := "find.go:103", after := #[{ on := 20, ground := Ground.data }, { on := 3, ground := Ground.data }, { on := 13, ground := Ground.chain }, { on := 0, ground := Ground.phase }, { on := 1, ground := Ground.phase }, { on := 2, ground := Ground.phase }, { on := 3, ground := Ground.phase }, { on := 4, ground := Ground.textOnly Departure.lateStores }, { on := 5, ground := Ground.textOnly Departure.lateStores }, { on := 6, ground := Ground.textOnly Departure.lateStoresUnsure }, { on := 7, ground := Ground.textOnly Departure.lateStoresUnsure }, { on := 8, ground := Ground.textOnly Departure.lateStores }, { on := 9, ground := Ground.textOnly Departure.lateStores }, { on := 10, ground := Ground.textOnly Departure.lateStores }, { on := 11, ground := Ground.textOnly Departure.lateStoresUnsure }, { on := 12, ground := Ground.textOnly Departure.lateStores }, { on := 13, ground := Ground.textOnly Departure.lateStores }, { on := 14, ground := Ground.textOnly Departure.lateStores }, { on := 15, ground := Ground.textOnly Departure.lateStores }, { on := 16, ground := Ground.textOnly Departure.lateStores }, { on := 17, ground := Ground.textOnly Departure.lateStores }, { on := 18, ground := Ground.textOnly Departure.lateStores }, { on := 19, ground := Ground.textOnly Departure.lateStores }], guard := none }) rfl (fun K hK => ?_) AllReadyH.nil
                go_simp
                skip
                go_wp2_with fail
                refine hK.out _ _ ?_ (fun hHeld => ?_)
                · (try dsimp only)
                  first | assumption | exact hT1 | exact Lib.hid (Tabs.below (Hid.out (by assumption)) hb2) | exact Lib.hid (Tabs.setCell (Hid.out (by assumption)) (by omega) (by omega) _) | exact Lib.hid (Tabs.setCell (Tabs.setCell (Hid.out (by assumption)) (by omega) (by omega) _) (by omega) (by omega) _)
                clear hK K
                try simp only [Act.put, List.setIfInBounds_toArray, List.set_cons_succ, List.set_cons_zero]
                refine wpAnyH_take (i := 22) (oi := { dst := some 71, op := Op.fieldAddr 62 (Operand.tmp 4) 2, type := 0, pos := "find.go:103", after := #[{ on := 0, ground := Ground.phase }, { on := 1, ground := Ground.phase }, { on := 2, ground := Ground.phase }, { on := 3, ground := Ground.phase }, { on := 4, ground := Ground.phase }, { on := 5, ground := Ground.phase }, { on := 6, ground := Ground.phase }, { on := 7, ground := Ground.phase }, { on := 8, ground := Ground.phase }, { on := 9, ground := Ground.phase }, { on := 10, ground := Ground.phase }, { on := 11, ground := Ground.phase }, { on := 12, ground := Ground.phase }, { on := 13, ground := Ground.phase }, { on := 14, ground := Ground.phase }, { on := 15, ground := Ground.phase }, { on := 16, ground := Ground.phase }, { on := 17, ground := Ground.phase }, { on := 18, ground := Ground.phase }, { on := 19, ground := Ground.phase }, { on := 20, ground := Ground.phase }, { on := 21, ground := Ground.phase }], guard := none }) (v := ?k101v22) rfl (by kernel_rfl) (by kernel_rfl) (by kernel_rfl) (fun _ _ _ h => h) (Or.inl ⟨by rfl, ?k101h22⟩) (by assumption) ?_
                case k101h22 => (intro w hSw; (try dsimp only at hSw); go_simp; (try with_reducible rfl))
                simp only [Act.put, List.setIfInBounds_toArray, List.set_cons_succ, List.set_cons_zero]
                refine wpAnyH_ready (rs := [23]) (by kernel_rfl) (by simp) ?_
                refine AllReadyH.cons (o := { dst := none, op := Op.store 4 (Operand.tmp 71) (Operand.tmp 69), type := 0, pos := "find.go:103", after := #[{ on := 22, ground := Ground.data }, { on := 19, ground := Ground.data }, { on := 21, ground := Ground.chain }, { on := 0, ground := Ground.phase }, { on := 1, ground := Ground.phase }, { on := 2, ground := Ground.phase }, { on := 3, ground := Ground.phase }, { on := 4, ground := Ground.phase }, { on := 5, ground := Ground.phase }, { on := 6, ground := Ground.phase }, { on := 7, ground := Ground.phase }, { on := 8, ground := Ground.phase }, { on := 9, ground := Ground.phase }, { on := 10, ground := Ground.phase }, { on := 11, ground := Ground.phase }, { on := 12, ground := Ground.phase }, { on := 13, ground := Ground.phase }, { on := 14, ground := Ground.phase }, { on := 15, ground := Ground.phase }, { on := 16, ground := Ground.phase }, { on := 17, ground := Ground.phase }, { on := 18, ground := Ground.phase }, { on := 19, ground := Ground.phase }, { on := 20, ground := Ground.phase }, { on := 21, ground := Ground.phase }], guard := none }) rfl (fun K hK => ?_) AllReadyH.nil
                go_simp
                skip
                go_wp2_with fail
                refine hK.out _ _ ?_ (fun hHeld => ?_)
                · (try dsimp only)
                  first | assumption | exact hT1 | exact Lib.hid (Tabs.below (Hid.out (by assumption)) hb2) | exact Lib.hid (Tabs.setCell (Hid.out (by assumption)) (by omega) (by omega) _) | exact Lib.hid (Tabs.setCell (Tabs.setCell (Hid.out (by assumption)) (by omega) (by omega) _) (by omega) (by omega) _)
                clear hK K
                try simp only [Act.put, List.setIfInBounds_toArray, List.set_cons_succ, List.set_cons_zero]
                refine wpAnyH_done (by kernel_rfl) ?_ _
                refine NoPanic.normal ?_
                go_wp2_with fail
                go_meet
                exact ⟨a, c, (HC2.out.set0 _).set2 _, (HC2.out.set0 _).row (HC2.out.row HR2.out 0 _) 2 _⟩
              case rest =>
                obtain ⟨a, c, hcb3, hrow3⟩ := hcut
                obtain ⟨c0, c1, c2, cf, r0, r1, r2, rf⟩ := hcb3.cells
                have HC3 := Lib.hid hcb3
                have HR3 := Lib.hid hrow3
                clear hcb3 hrow3 k0 k1 k2 kf HC1 hlt4 HIA
                skip
                go_wp2_with fail
                go_region
                all_goals
                  go_wp2_with fail
                  obtain ⟨z0, hrz, hbz⟩ := HC3.out.res HR3.out (.slice a (words p).length c) (.bool no) (.bool true)
                  generalize (((wc.setCell ⟨w.heap.size, 0, none⟩ (.slice a (words p).length c)).setCell ⟨w.heap.size, 1, none⟩ (.bool no)).setCell ⟨w.heap.size, 2, none⟩ (.bool true)) = Z at z0 hrz hbz ⊢
                  have q0 : Z.drew.cell? ⟨w.heap.size, 0, none⟩ = some (.slice a (words p).length c) := by rw [Lib.cell_of_heap (w := Z.drew) z0]; rfl
                  have q1 : Z.drew.cell? ⟨w.heap.size, 1, none⟩ = some (.bool no) := by rw [Lib.cell_of_heap (w := Z.drew) z0]; rfl
                  have q2 : Z.drew.cell? ⟨w.heap.size, 2, none⟩ = some (.bool true) := by rw [Lib.cell_of_heap (w := Z.drew) z0]; rfl
                  have HBZ := Lib.hid hbz.drew
                  have HRZ := Lib.hid (show StrRow Z.drew (.slice a (words p).length c) (words p) from hrz)
                  generalize Z.drew = Z1 at *
                  refine bodyPost_ret (v := .tuple #[.agg #[.slice a (words p).length c, .bool no, .bool true], .string (t.extract n t.size)]) (by simp [results, Tryz.results33, go_sem, q0, q1, q2, hz3, List.range_succ]) rfl ?_
                  unfold ClausePost
                  rw [HX.out]
                  exact ⟨a, c, by rw [drop_ext], HRZ.out, HBZ.out⟩
          | false =>
            rw [hsp] at hspi
            have HSF := Lib.hid (show ∀ W, Calls Tryz.prog 59 #[.string (t.extract 0 n), .string ⟨#[42]⟩] W fun e w' => e = .returned (.bool true) ∧ W = w' from by rw [← hsf]; exact HSFB.out)
            have HX := Lib.hid (show clauseF s.data.toList = (⟨words p, no, false⟩, t.data.toList.drop n) from by
              rw [HF.out, bareF, HN.out, ← HP.out, hsf, ← size_list, hne2, HG.out, hsp]; rfl)
            clear hsf
            obtain ⟨ht0, hfull, hq1⟩ := htest.resolve_left (fun h => by rw [str_full (by omega)] at h; cases h)
            · skip
              go_upto_region 13 with (go_at_call 58; refine HIA.out.mono ?_; rintro e w1 ⟨rfl, hb1⟩; have HC1 := Lib.hid (HCB.out.keep hb1); have HT1 := Lib.hid (HT2.out.below hb1); clear hb1)
              obtain ⟨k0, k1, k2, kf, _⟩ := HC1.out.cells
              have hlt4 := lt_of_heap HC1.out.cb
              go_cut [] (fun wx => ∃ a c, CB w (.slice a (words p).length c) no false wx ∧ StrRow wx (.slice a (words p).length c) (words p))
              case first =>
                have hT1 := Lib.hid HT1.out
                refine wp_region_noPanic ?_
                refine wp_region_held_drew (S := (fun w' => Hid (Tabs w'))) (by kernel_rfl) ?_ (fun hHeld => ?_)
                · (try dsimp only)
                  first | assumption | exact hT1 | exact Lib.hid (Tabs.below (Hid.out (by assumption)) hb2) | exact Lib.hid (Tabs.setCell (Hid.out (by assumption)) (by omega) (by omega) _) | exact Lib.hid (Tabs.setCell (Tabs.setCell (Hid.out (by assumption)) (by omega) (by omega) _) (by omega) (by omega) _)
                refine wpAnyH_take (i := 0) (oi := { dst := some 50, op := Op.move (Operand.tmp 0), type := 9, pos := "find.go:103", after := #[], guard := none }) (v := ?k100v0) rfl (by kernel_rfl) (by kernel_rfl) (by kernel_rfl) (fun _ _ _ h => h) (Or.inl ⟨by rfl, ?k100h0⟩) (by assumption) ?_
                case k100h0 => (intro w hSw; (try dsimp only at hSw); go_simp; (try with_reducible rfl))
                simp only [Act.put, List.setIfInBounds_toArray, List.set_cons_succ, List.set_cons_zero]
                refine wpAnyH_take (i := 1) (oi := { dst := some 51, op := Op.move (Operand.tmp 8), type := 3, pos := "find.go:103", after := #[], guard := none }) (v := ?k100v1) rfl (by kernel_rfl) (by kernel_rfl) (by kernel_rfl) (fun _ _ _ h => h) (Or.inl ⟨by rfl, ?k100h1⟩) (by assumption) ?_
                case k100h1 => (intro w hSw; (try dsimp only at hSw); go_simp; (try with_reducible rfl))
                simp only [Act.put, List.setIfInBounds_toArray, List.set_cons_succ, List.set_cons_zero]
                refine wpAnyH_take (i := 2) (oi := { dst := some 52, op := Op.slice 9 (Operand.tmp 50) none (some (Operand.tmp 51)) none, type := 9, pos := "find.go:103", after := #[{ on := 0, ground := Ground.data }, { on := 1, ground := Ground.data }], guard := none }) (v := ?k100v2) rfl (by kernel_rfl) (by kernel_rfl) (by kernel_rfl) (fun _ _ _ h => h) (Or.inl ⟨by rfl, ?k100h2⟩) (by assumption) ?_
                case k100h2 => (intro w hSw; (try dsimp only at hSw); go_simp; (try with_reducible rfl))
                simp only [Act.put, List.setIfInBounds_toArray, List.set_cons_succ, List.set_cons_zero]
                refine wpAnyH_take (i := 4) (oi := { dst := some 54, op := Op.move (Operand.tmp 0), type := 9, pos := "find.go:103", after := #[], guard := none }) (v := ?k100v4) rfl (by kernel_rfl) (by kernel_rfl) (by kernel_rfl) (fun _ _ _ h => h) (Or.inl ⟨by rfl, ?k100h4⟩) (by assumption) ?_
                case k100h4 => (intro w hSw; (try dsimp only at hSw); go_simp; (try with_reducible rfl))
                simp only [Act.put, List.setIfInBounds_toArray, List.set_cons_succ, List.set_cons_zero]
                refine wpAnyH_take (i := 5) (oi := { dst := some 55, op := Op.move (Operand.tmp 8), type := 3, pos := "find.go:103", after := #[], guard := none }) (v := ?k100v5) rfl (by kernel_rfl) (by kernel_rfl) (by kernel_rfl) (fun _ _ _ h => h) (Or.inl ⟨by rfl, ?k100h5⟩) (by assumption) ?_
                case k100h5 => (intro w hSw; (try dsimp only at hSw); go_simp; (try with_reducible rfl))
                simp only [Act.put, List.setIfInBounds_toArray, List.set_cons_succ, List.set_cons_zero]
                refine wpAnyH_take (i := 6) (oi := { dst := some 56, op := Op.slice 9 (Operand.tmp 54) none (some (Operand.tmp 55)) none, type := 9, pos := "find.go:103", after := #[{ on := 4, ground := Ground.data }, { on := 5, ground := Ground.data }], guard := none }) (v := ?k100v6) rfl (by kernel_rfl) (by kernel_rfl) (by kernel_rfl) (fun _ _ _ h => h) (Or.inl ⟨by rfl, ?k100h6⟩) (by assumption) ?_
                case k100h6 => (intro w hSw; (try dsimp only at hSw); go_simp; (try with_reducible rfl))
                simp only [Act.put, List.setIfInBounds_toArray, List.set_cons_succ, List.set_cons_zero]
                refine wpAnyH_ready (rs := [3]) (by kernel_rfl) (by simp) ?_
                refine AllReadyH.cons (o := { dst := some 53, op := Op.call { callee := Callee.value (Operand.func 14), args := #[Operand.tmp 52], argTypes := #[9] }, type := 35, pos := "find.go:103", after := #[{ on := 2, ground := Ground.data }], guard := none }) rfl (fun K hK => ?_) AllReadyH.nil
                go_simp
                with_reducible refine (HWD.out _ (Hid.out (by assumption))).mono ?_
                rintro e w2 ⟨a, c, rfl, hr0, hb2⟩
                have HC2 := Lib.hid (HC1.out.drew.keep hb2)
                have HR2 := Lib.hid hr0
                obtain ⟨m0, m1, m2, mf, _⟩ := HC2.out.cells
                go_wp2_with fail
                refine hK.out _ _ ?_ (fun hHeld => ?_)
                · (try dsimp only)
                  first | assumption | exact hT1 | exact Lib.hid (Tabs.below (Hid.out (by assumption)) hb2) | exact Lib.hid (Tabs.setCell (Hid.out (by assumption)) (by omega) (by omega) _) | exact Lib.hid (Tabs.setCell (Tabs.setCell (Hid.out (by assumption)) (by omega) (by omega) _) (by omega) (by omega) _)
                clear hK K
                try simp only [Act.put, List.setIfInBounds_toArray, List.set_cons_succ, List.set_cons_zero]
                refine wpAnyH_take (i := 20) (oi := { dst := some 70, op := Op.fieldAddr 62 (Operand.tmp 4) 0, type := 0, pos := "find.go:103", after := #[{ on := 0, ground := Ground.phase }, { on := 1, ground := Ground.phase }, { on := 2, ground := Ground.phase }, { on := 3, ground := Ground.phase }, { on := 4, ground := Ground.textOnly Departure.lateStores }, { on := 5, ground := Ground.textOnly Departure.lateStores }, { on := 6, ground := Ground.textOnly Departure.lateStoresUnsure }, { on := 7, ground := Ground.textOnly Departure.lateStoresUnsure }, { on := 8, ground := Ground.textOnly Departure.lateStores }, { on := 9, ground := Ground.textOnly Departure.lateStores }, { on := 10, ground := Ground.textOnly Departure.lateStores }, { on := 11, ground := Ground.textOnly Departure.lateStoresUnsure }, { on := 12, ground := Ground.textOnly Departure.lateStores }, { on := 13, ground := Ground.textOnly Departure.lateStores }, { on := 14, ground := Ground.textOnly Departure.lateStores }, { on := 15, ground := Ground.textOnly Departure.lateStores }, { on := 16, ground := Ground.textOnly Departure.lateStores }, { on := 17, ground := Ground.textOnly Departure.lateStores }, { on := 18, ground := Ground.textOnly Departure.lateStores }, { on := 19, ground := Ground.textOnly Departure.lateStores }], guard := none }) (v := ?k100v20) rfl (by kernel_rfl) (by kernel_rfl) (by kernel_rfl) (fun _ _ _ h => h) (Or.inl ⟨by rfl, ?k100h20⟩) (by assumption) ?_
                case k100h20 => (intro w hSw; (try dsimp only at hSw); go_simp; (try with_reducible rfl))
                simp only [Act.put, List.setIfInBounds_toArray, List.set_cons_succ, List.set_cons_zero]
                refine wpAnyH_ready (rs := [7]) (by kernel_rfl) (by simp) ?_
                refine AllReadyH.cons (o := { dst := some 57, op := Op.call { callee := Callee.value (Operand.func 59), args := #[Operand.tmp 56, Operand.const (Value.string { data := #[42] })], argTypes := #[9, 9] }, type := 4, pos := "find.go:103", after := #[{ on := 6, ground := Ground.data }, { on := 3, ground := Ground.chain }], guard := none }) rfl (fun K hK => ?_) AllReadyH.nil
                go_simp
                with_reducible refine (HSF.out _).mono ?_
                rintro e w9 ⟨rfl, rfl⟩
                go_wp2_with fail
                refine hK.out _ _ ?_ (fun hHeld => ?_)
                · (try dsimp only)
                  first | assumption | exact hT1 | exact Lib.hid (Tabs.below (Hid.out (by assumption)) hb2) | exact Lib.hid (Tabs.setCell (Hid.out (by assumption)) (by omega) (by omega) _) | exact Lib.hid (Tabs.setCell (Tabs.setCell (Hid.out (by assumption)) (by omega) (by omega) _) (by omega) (by omega) _)
                clear hK K
                try simp only [Act.put, List.setIfInBounds_toArray, List.set_cons_succ, List.set_cons_zero]
                refine wpAnyH_take (i := 8) (oi := { dst := some 58, op := Op.move (Operand.tmp 57), type := 4, pos := "find.go:103", after := #[{ on := 7, ground := Ground.data }, { on := 7, ground := Ground.chain }], guard := none }) (v := ?k100v8) rfl (by kernel_rfl) (by kernel_rfl) (by kernel_rfl) (fun _ _ _ h => h) (Or.inl ⟨by rfl, ?k100h8⟩) (by assumption) ?_
                case k100h8 => (intro w hSw; (try dsimp only at hSw); go_simp; (try with_reducible rfl))
                simp only [Act.put, List.setIfInBounds_toArray, List.set_cons_succ, List.set_cons_zero]
                refine wpAnyH_take (i := 9) (oi := { dst := some 59, op := Op.move (Operand.tmp 8), type := 3, pos := "find.go:103", after := #[{ on := 8, ground := Ground.guard }], guard := some (8, true) }) (v := ?k100v9) rfl (by kernel_rfl) (by kernel_rfl) (by kernel_rfl) (fun _ _ _ h => h) (Or.inl ⟨by rfl, ?k100h9⟩) (by assumption) ?_
                case k100h9 => (intro w hSw; (try dsimp only at hSw); go_simp; (try with_reducible rfl))
                simp only [Act.put, List.setIfInBounds_toArray, List.set_cons_succ, List.set_cons_zero]
                refine wpAnyH_take (i := 10) (oi := { dst := some 60, op := Op.move (Operand.tmp 0), type := 9, pos := "find.go:103", after := #[{ on := 8, ground := Ground.guard }], guard := some (8, true) }) (v := ?k100v10) rfl (by kernel_rfl) (by kernel_rfl) (by kernel_rfl) (fun _ _ _ h => h) (Or.inl ⟨by rfl, ?k100h10⟩) (by assumption) ?_
                case k100h10 => (intro w hSw; (try dsimp only at hSw); go_simp; (try with_reducible rfl))
                simp only [Act.put, List.setIfInBounds_toArray, List.set_cons_succ, List.set_cons_zero]
                refine wpAnyH_take (i := 11) (oi := { dst := some 61, op := Op.call { callee := Callee.builtin Builtin.len, args := #[Operand.tmp 60], argTypes := #[9] }, type := 3, pos := "find.go:103", after := #[{ on := 10, ground := Ground.data }, { on := 8, ground := Ground.guard }], guard := some (8, true) }) (v := ?k100v11) rfl (by kernel_rfl) (by kernel_rfl) (by kernel_rfl) (fun _ _ _ h => h) (Or.inl ⟨by rfl, ?k100h11⟩) (by assumption) ?_
                case k100h11 => (intro w hSw; (try dsimp only at hSw); go_simp; (try with_reducible rfl))
                simp only [Act.put, List.setIfInBounds_toArray, List.set_cons_succ, List.set_cons_zero]
                refine wpAnyH_take (i := 12) (oi := { dst := some 62, op := Op.binOp BinOp.eql 3 (Operand.tmp 59) (Operand.tmp 61) 3, type := 4, pos := "find.go:103", after := #[{ on := 9, ground := Ground.data }, { on := 11, ground := Ground.data }, { on := 8, ground := Ground.guard }], guard := some (8, true) }) (v := (.bool false)) rfl (by kernel_rfl) (by kernel_rfl) (by kernel_rfl) (fun _ _ _ h => h) (Or.inl ⟨by rfl, ?k100h12⟩) (by assumption) ?_
                case k100h12 => (intro w hSw; (try dsimp only at hSw); go_simp; (try with_reducible rfl))
                simp only [Act.put, List.setIfInBounds_toArray, List.set_cons_succ, List.set_cons_zero]
                refine wpAnyH_take (i := 13) (oi := { dst := some 63, op := Op.move (Operand.tmp 62), type := 4, pos := "find.go:103", after := #[{ on := 12, ground := Ground.data }, { on := 8, ground := Ground.chain }, { on := 8, ground := Ground.guard }], guard := some (8, true) }) (v := (.bool false)) rfl (by kernel_rfl) (by kernel_rfl) (by kernel_rfl) (fun _ _ _ h => h) (Or.inl ⟨by rfl, ?k100h13⟩) (by assumption) ?_
                case k100h13 => (intro w hSw; (try dsimp only at hSw); go_simp; (try with_reducible rfl))
                simp only [Act.put, List.setIfInBounds_toArray, List.set_cons_succ, List.set_cons_zero]
                refine wpAnyH_take (i := 14) (oi := { dst := some 64, op := Op.move (Operand.tmp 0), type := 9, pos := "find.go:103", after := #[{ on := 13, ground := Ground.guard }, { on := 21, ground := Ground.gcOnly Departure.lateStores }], guard := some (13, false) }) (v := ?k100v14) rfl (by kernel_rfl) (by kernel_rfl) (by kernel_rfl) (fun _ _ _ h => h) (Or.inl ⟨by rfl, ?k100h14⟩) (by assumption) ?_
                case k100h14 => (intro w hSw; (try dsimp only at hSw); go_simp; (try with_reducible rfl))
                simp only [Act.put, List.setIfInBounds_toArray, List.set_cons_succ, List.set_cons_zero]
                refine wpAnyH_take (i := 15) (oi := { dst := some 65, op := Op.move (Operand.tmp 8), type := 3, pos := "find.go:103", after := #[{ on := 13, ground := Ground.guard }, { on := 21, ground := Ground.gcOnly Departure.lateStores }], guard := some (13, false) }) (v := ?k100v15) rfl (by kernel_rfl) (by kernel_rfl) (by kernel_rfl) (fun _ _ _ h => h) (Or.inl ⟨by rfl, ?k100h15⟩) (by assumption) ?_
                case k100h15 => (intro w hSw; (try dsimp only at hSw); go_simp; (try with_reducible rfl))
                simp only [Act.put, List.setIfInBounds_toArray, List.set_cons_succ, List.set_cons_zero]
                refine wpAnyH_take (i := 16) (oi := { dst := some 66, op := Op.index 9 (Operand.tmp 64) (Operand.tmp 65), type := 5, pos := "find.go:103", after := #[{ on := 14, ground := Ground.data }, { on := 15, ground := Ground.data }, { on := 13, ground := Ground.guard }, { on := 21, ground := Ground.gcOnly Departure.lateStores }], guard := some (13, false) }) (v := ?k100v16) rfl (by kernel_rfl) (by kernel_rfl) (by kernel_rfl) (fun _ _ _ h => h) (Or.inl ⟨by rfl, ?k100h16⟩) (by assumption) ?_
                case k100h16 => (intro w hSw; (try dsimp only at hSw); go_simp; (try with_reducible rfl))
                simp only [Act.put, List.setIfInBounds_toArray, List.set_cons_succ, List.set_cons_zero]
                refine wpAnyH_take (i := 17) (oi := { dst := some 67, op := Op.binOp BinOp.eql 5 (Operand.tmp 66) (Operand.const (Value.int IntKind.u8 32)) 5, type := 4, pos := "find.go:103", after := #[{ on := 16, ground := Ground.data }, { on := 13, ground := Ground.guard }, { on := 21, ground := Ground.gcOnly Departure.lateStores }], guard := some (13, false) }) (v := (.bool false)) rfl (by kernel_rfl) (by kernel_rfl) (by kernel_rfl) (fun _ _ _ h => h) (Or.inl ⟨by rfl, ?k100h17⟩) (by assumption) ?_
                case k100h17 => (intro w hSw; (try dsimp only at hSw); go_simp; (try with_reducible rfl))
                simp only [Act.put, List.setIfInBounds_toArray, List.set_cons_succ, List.set_cons_zero]
                refine wpAnyH_take (i := 18) (oi := { dst := some 68, op := Op.pick (Operand.tmp 63) (Operand.const (Value.bool true)) (Operand.tmp 67), type := 4, pos := "find.go:103", after := #[{ on := 13, ground := Ground.data }, { on := 17, ground := Ground.data }, { on := 8, ground := Ground.guard }, { on := 21, ground := Ground.gcOnly Departure.lateStores }], guard := some (8, true) }) (v := (.bool false)) rfl (by kernel_rfl) (by kernel_rfl) (by kernel_rfl) (fun _ _ _ h => h) (Or.inl ⟨by rfl, ?k100h18⟩) (by assumption) ?_
                case k100h18 => (intro w hSw; (try dsimp only at hSw); go_simp; (try with_reducible rfl))
                simp only [Act.put, List.setIfInBounds_toArray, List.set_cons_succ, List.set_cons_zero]
                refine wpAnyH_take (i := 19) (oi := { dst := some 69, op := Op.pick (Operand.tmp 58) (Operand.tmp 68) (Operand.const (Value.bool false)), type := 4, pos := "find.go:103", after := #[{ on := 8, ground := Ground.data }, { on := 18, ground := Ground.data }, { on := 21, ground := Ground.gcOnly Departure.lateStores }], guard := none }) (v := (.bool false)) rfl (by kernel_rfl) (by kernel_rfl) (by kernel_rfl) (fun _ _ _ h => h) (Or.inl ⟨by rfl, ?k100h19⟩) (by assumption) ?_
                case k100h19 => (intro w hSw; (try dsimp only at hSw); go_simp; (try with_reducible rfl))
                simp only [Act.put, List.setIfInBounds_toArray, List.set_cons_succ, List.set_cons_zero]
                refine wpAnyH_ready (rs := [21]) (by kernel_rfl) (by simp) ?_
                refine AllReadyH.cons (o := { dst := none, op := Op.store 35 (Operand.tmp 70) (Operand.tmp 53), type := 0, pos := "find.go:103", after := #[{ on := 20, ground := Ground.data }, { on := 3, ground := Ground.data }, { on := 13, ground := Ground.chain }, { on := 0, ground := Ground.phase }, { on := 1, ground := Ground.phase }, { on := 2, ground := Ground.phase }, { on := 3, ground := Ground.phase }, { on := 4, ground := Ground.textOnly Departure.lateStores }, { on := 5, ground := Ground.textOnly Departure.lateStores }, { on := 6, ground := Ground.textOnly Departure.lateStoresUnsure }, { on := 7, ground := Ground.textOnly Departure.lateStoresUnsure }, { on := 8, ground := Ground.textOnly Departure.lateStores }, { on := 9, ground := Ground.textOnly Departure.lateStores }, { on := 10, ground := Ground.textOnly Departure.lateStores }, { on := 11, ground := Ground.textOnly Departure.lateStoresUnsure }, { on := 12, ground := Ground.textOnly Departure.lateStores }, { on := 13, ground := Ground.textOnly Departure.lateStores }, { on := 14, ground := Ground.textOnly Departure.lateStores }, { on := 15, ground := Ground.textOnly Departure.lateStores }, { on := 16, ground := Ground.textOnly Departure.lateStores }, { on := 17, ground := Ground.textOnly Departure.lateStores }, { on := 18, ground := Ground.textOnly Departure.lateStores }, { on := 19, ground := Ground.textOnly Departure.lateStores }], guard := none }) rfl (fun K hK => ?_) AllReadyH.nil
                go_simp
                skip
                go_wp2_with fail
                refine hK.out _ _ ?_ (fun hHeld => ?_)
                · (try dsimp only)
                  first | assumption | exact hT1 | exact Lib.hid (Tabs.below (Hid.out (by assumption)) hb2) | exact Lib.hid (Tabs.setCell (Hid.out (by assumption)) (by omega) (by omega) _) | exact Lib.hid (Tabs.setCell (Tabs.setCell (Hid.out (by assumption)) (by omega) (by omega) _) (by omega) (by omega) _)
                clear hK K
                try simp only [Act.put, List.setIfInBounds_toArray, List.set_cons_succ, List.set_cons_zero]
                refine wpAnyH_take (i := 22) (oi := { dst := some 71, op := Op.fieldAddr 62 (Operand.tmp 4) 2, type := 0, pos := "find.go:103", after := #[{ on := 0, ground := Ground.phase }, { on := 1, ground := Ground.phase }, { on := 2, ground := Ground.phase }, { on := 3, ground := Ground.phase }, { on := 4, ground := Ground.phase }, { on := 5, ground := Ground.phase }, { on := 6, ground := Ground.phase }, { on := 7, ground := Ground.phase }, { on := 8, ground := Ground.phase }, { on := 9, ground := Ground.phase }, { on := 10, ground := Ground.phase }, { on := 11, ground := Ground.phase }, { on := 12, ground := Ground.phase }, { on := 13, ground := Ground.phase }, { on := 14, ground := Ground.phase }, { on := 15, ground := Ground.phase }, { on := 16, ground := Ground.phase }, { on := 17, ground := Ground.phase }, { on := 18, ground := Ground.phase }, { on := 19, ground := Ground.phase }, { on := 20, ground := Ground.phase }, { on := 21, ground := Ground.phase }], guard := none }) (v := ?k100v22) rfl (by kernel_rfl) (by kernel_rfl) (by kernel_rfl) (fun _ _ _ h => h) (Or.inl ⟨by rfl, ?k100h22⟩) (by assumption) ?_
                case k100h22 => (intro w hSw; (try dsimp only at hSw); go_simp; (try with_reducible rfl))
                simp only [Act.put, List.setIfInBounds_toArray, List.set_cons_succ, List.set_cons_zero]
                refine wpAnyH_ready (rs := [23]) (by kernel_rfl) (by simp) ?_
                refine AllReadyH.cons (o := { dst := none, op := Op.store 4 (Operand.tmp 71) (Operand.tmp 69), type := 0, pos := "find.go:103", after := #[{ on := 22, ground := Ground.data }, { on := 19, ground := Ground.data }, { on := 21, ground := Ground.chain }, { on := 0, ground := Ground.phase }, { on := 1, ground := Ground.phase }, { on := 2, ground := Ground.phase }, { on := 3, ground := Ground.phase }, { on := 4, ground := Ground.phase }, { on := 5, ground := Ground.phase }, { on := 6, ground := Ground.phase }, { on := 7, ground := Ground.phase }, { on := 8, ground := Ground.phase }, { on := 9, ground := Ground.phase }, { on := 10, ground := Ground.phase }, { on := 11, ground := Ground.phase }, { on := 12, ground := Ground.phase }, { on := 13, ground := Ground.phase }, { on := 14, ground := Ground.phase }, { on := 15, ground := Ground.phase }, { on := 16, ground := Ground.phase }, { on := 17, ground := Ground.phase }, { on := 18, ground := Ground.phase }, { on := 19, ground := Ground.phase }, { on := 20, ground := Ground.phase }, { on := 21, ground := Ground.phase }], guard := none }) rfl (fun K hK => ?_) AllReadyH.nil
                go_simp
                skip
                go_wp2_with fail
                refine hK.out _ _ ?_ (fun hHeld => ?_)
                · (try dsimp only)
                  first | assumption | exact hT1 | exact Lib.hid (Tabs.below (Hid.out (by assumption)) hb2) | exact Lib.hid (Tabs.setCell (Hid.out (by assumption)) (by omega) (by omega) _) | exact Lib.hid (Tabs.setCell (Tabs.setCell (Hid.out (by assumption)) (by omega) (by omega) _) (by omega) (by omega) _)
                clear hK K
                try simp only [Act.put, List.setIfInBounds_toArray, List.set_cons_succ, List.set_cons_zero]
                refine wpAnyH_done (by kernel_rfl) ?_ _
                refine NoPanic.normal ?_
                go_wp2_with fail
                go_meet
                exact ⟨a, c, (HC2.out.set0 _).set2 _, (HC2.out.set0 _).row (HC2.out.row HR2.out 0 _) 2 _⟩
              case rest =>
                obtain ⟨a, c, hcb3, hrow3⟩ := hcut
                obtain ⟨c0, c1, c2, cf, r0, r1, r2, rf⟩ := hcb3.cells
                have HC3 := Lib.hid hcb3
                have HR3 := Lib.hid hrow3
                clear hcb3 hrow3 k0 k1 k2 kf HC1 hlt4 HIA
                skip
                go_wp2_with fail
                go_region
                all_goals
                  go_wp2_with fail
                  obtain ⟨z0, hrz, hbz⟩ := HC3.out.res HR3.out (.slice a (words p).length c) (.bool no) (.bool false)
                  generalize (((wc.setCell ⟨w.heap.size, 0, none⟩ (.slice a (words p).length c)).setCell ⟨w.heap.size, 1, none⟩ (.bool no)).setCell ⟨w.heap.size, 2, none⟩ (.bool false)) = Z at z0 hrz hbz ⊢
                  have q0 : Z.drew.cell? ⟨w.heap.size, 0, none⟩ = some (.slice a (words p).length c) := by rw [Lib.cell_of_heap (w := Z.drew) z0]; rfl
                  have q1 : Z.drew.cell? ⟨w.heap.size, 1, none⟩ = some (.bool no) := by rw [Lib.cell_of_heap (w := Z.drew) z0]; rfl
                  have q2 : Z.drew.cell? ⟨w.heap.size, 2, none⟩ = some (.bool false) := by rw [Lib.cell_of_heap (w := Z.drew) z0]; rfl
                  have HBZ := Lib.hid hbz.drew
                  have HRZ := Lib.hid (show StrRow Z.drew (.slice a (words p).length c) (words p) from hrz)
                  generalize Z.drew = Z1 at *
                  refine bodyPost_ret (v := .tuple #[.agg #[.slice a (words p).length c, .bool no, .bool false], .string (t.extract n t.size)]) (by simp [results, Tryz.results33, go_sem, q0, q1, q2, hz3, List.range_succ]) rfl ?_
                  unfold ClausePost
                  rw [HX.out]
                  exact ⟨a, c, by rw [drop_ext], HRZ.out, HBZ.out⟩
end Go.Proofs.YthpbdeiphagkiaaGreatDoor
