/- (*find.Finder).found. -/
import Derived.Test.YthpbdeiphagkiaaGreatDoorHas
namespace Go.Proofs.YthpbdeiphagkiaaGreatDoor
open Go.RowKit Find

/-- Three cells that are a clause. -/
def ClAt (w : World) (g o : Nat) (c : Cl) : Prop := ∃ aw cw, w.cell? ⟨g, o, none⟩ = some (.slice aw c.words.length cw) ∧ w.cell? ⟨g, o + 1, none⟩ = some (.bool c.no) ∧ w.cell? ⟨g, o + 2, none⟩ = some (.bool c.opn) ∧ StrSl w (.slice aw c.words.length cw) c.words
/-- A slice that reads as clauses. -/
def ClsSl (w : World) (v : Value) (l : List Cl) : Prop := ∃ a c, v = .slice a l.length c ∧ ∀ (k : Nat) (h : k < l.length), ∃ g o, a = some ⟨g, o, none⟩ ∧ ClAt w g (o + k * 3) l[k]
theorem ClAt.new {w w' : World} {g o : Nat} {c : Cl} (h : ClAt w g o c) (hb : Below w.heap.size w w') : ClAt w' g o c := by
  obtain ⟨aw, cw, h0, h1, h2, h3⟩ := h
  have lt := World.block_lt_of_cell? w _ h0
  exact ⟨aw, cw, (hb.cell (p := ⟨g, o, none⟩) lt).trans h0, (hb.cell (p := ⟨g, o + 1, none⟩) lt).trans h1, (hb.cell (p := ⟨g, o + 2, none⟩) lt).trans h2, h3.new hb⟩
theorem ClsSl.new {w w' : World} {v : Value} {l : List Cl} (h : ClsSl w v l) (hb : Below w.heap.size w w') : ClsSl w' v l := by
  obtain ⟨a, c, rfl, hc⟩ := h
  refine ⟨a, c, rfl, fun k hk => ?_⟩
  obtain ⟨g, o, rfl, hcell⟩ := hc k hk
  exact ⟨g, o, rfl, hcell.new hb⟩

def fndCells (x : Fnd) : List Value := [.int .i64 x.topic, .int .i64 x.score, .int .i64 x.place]

theorem pairCells_get (prs : List (Value × Value)) : ∀ (i : Nat) (h : i < prs.length), (pairCells prs)[i * 2]? = some prs[i].1 ∧ (pairCells prs)[i * 2 + 1]? = some prs[i].2 := by
  induction prs with
  | nil => intro i h; simp at h
  | cons p l ih =>
    intro i h
    have hc : pairCells (p :: l) = [p.1, p.2] ++ pairCells l := rfl
    rw [hc]
    cases i with
    | zero => exact ⟨rfl, rfl⟩
    | succ i =>
      obtain ⟨h0, h1⟩ := ih i (by simpa using h)
      rw [show (i + 1) * 2 = 2 + i * 2 by omega]
      refine ⟨?_, ?_⟩ <;> (rw [List.getElem?_append_right (by simp only [List.length_cons, List.length_nil]; omega)])
      · rw [show 2 + i * 2 - [p.1, p.2].length = i * 2 by show 2 + i * 2 - 2 = _; omega]; exact h0
      · rw [show 2 + i * 2 + 1 - [p.1, p.2].length = i * 2 + 1 by show 2 + i * 2 + 1 - 2 = _; omega]; exact h1

/-- The lists of a topic, as cells. -/
theorem ListsIs.at_ {B : Nat} {w : World} {vl : Value} {LL : Lists} (h : ListsIs B w vl LL) (i : Nat) (hi : i < LL.length) : ∃ gl cl a0 c0 a1 c1, vl = .slice (some ⟨gl, 0, none⟩) LL.length cl ∧
    w.cell? ⟨gl, i * 2, none⟩ = some (.slice a0 LL[i].1.length c0) ∧ w.cell? ⟨gl, i * 2 + 1, none⟩ = some (.slice a1 LL[i].2.length c1) ∧ StrSl w (.slice a0 LL[i].1.length c0) LL[i].1 ∧ StrSl w (.slice a1 LL[i].2.length c1) LL[i].2 := by
  obtain ⟨prs, h1, h2, h3⟩ := h
  obtain ⟨g, cap, rfl, _⟩ := h2.form (by omega)
  obtain ⟨q0, q1⟩ := pairCells_get prs i (by omega)
  obtain ⟨r0, r1⟩ := h3 i prs[i] LL[i] (List.getElem?_eq_getElem (by omega)) (List.getElem?_eq_getElem hi)
  obtain ⟨a0, c0, e0⟩ := slice_form r0
  obtain ⟨a1, c1, e1⟩ := slice_form r1
  have k0 := h2.cells (g := g) rfl _ _ q0
  have k1 := h2.cells (g := g) rfl _ _ q1
  rw [add_none, Nat.zero_add] at k0 k1
  rw [e0] at k0 r0
  rw [e1] at k1 r1
  exact ⟨g, cap, a0, c0, a1, c1, rfl, k0, k1, r0.sl, r1.sl⟩

theorem foundF_skip {has : Cl → Bool} {T B : List Wd} {k : Fnd} {c : Cl} {cs : List Cl} (h : (c.words.isEmpty || (c.no && !has c)) = true) : foundF has T B k (c :: cs) = foundF has T B k cs := by rw [foundF, if_pos h]
theorem foundF_none {has : Cl → Bool} {T B : List Wd} {k : Fnd} {c : Cl} {cs : List Cl} (h : (c.words.isEmpty || (c.no && !has c)) = false) (h2 : decide (0 < (hits c T).length + (hits c B).length) = c.no) : foundF has T B k (c :: cs) = none := by
  rw [foundF, if_neg (by simp [h]), if_pos (by simp [h2])]
theorem foundF_not {has : Cl → Bool} {T B : List Wd} {k : Fnd} {c : Cl} {cs : List Cl} (h : (c.words.isEmpty || (c.no && !has c)) = false) (h2 : decide (0 < (hits c T).length + (hits c B).length) ≠ c.no) (h3 : c.no = true) : foundF has T B k (c :: cs) = foundF has T B k cs := by
  rw [foundF, if_neg (by simp [h]), if_neg (by simpa using h2), if_pos h3]
theorem foundF_yes {has : Cl → Bool} {T B : List Wd} {k : Fnd} {c : Cl} {cs : List Cl} (h : (c.words.isEmpty || (c.no && !has c)) = false) (h2 : decide (0 < (hits c T).length + (hits c B).length) ≠ c.no) (h3 : c.no = false) : foundF has T B k (c :: cs) = foundF has T B (stepF k (hits c T) (hits c B)) cs := by
  rw [foundF, if_neg (by simp [h]), if_neg (by simpa using h2), if_neg (by simp [h3])]
theorem hits_le (c : Cl) (l : List Wd) : (hits c l).length ≤ l.length ∧ ∀ k ∈ hits c l, k < l.length := by
  refine ⟨?_, fun k hk => ?_⟩
  · have := List.length_filter_le (standsB c l) (List.range l.length); rwa [List.length_range] at this
  · exact List.mem_range.1 (List.mem_filter.1 hk).1
/-- What found tells. -/
def FoundPost (r : Option Fnd) (w : World) (e : Ending) (w' : World) : Prop :=
  (match r with
   | some x => e = .returned (.tuple #[.agg #[.int .i64 x.topic, .int .i64 x.score, .int .i64 x.place], .bool true])
   | none => e = .returned (.tuple #[.agg #[.int .i64 0, .int .i64 0, .int .i64 0], .bool false])) ∧ Below w.heap.size w w'

/-- The state of the loop: the block of what is found so far, the block of the result. -/
structure FoundSt (w : World) (i : Nat) (LL : Lists) (T B : List Wd) (cs : List Cl) (j : Nat) (x : Fnd) (wr : World) : Prop where
  kb : wr.heap[w.heap.size + 1]? = some (.cells #[.int .i64 x.topic, .int .i64 x.score, .int .i64 x.place] 56 (0, 0))
  rb : wr.heap[w.heap.size]? = some (.cells #[.int .i64 0, .int .i64 0, .int .i64 0] 56 (0, 0))
  below : Below w.heap.size w wr
  left : foundF (hasC LL) T B x (cs.drop j) = foundF (hasC LL) T B (found0 i) cs
  lo : 0 ≤ x.score
  hi : x.score ≤ 100000000 * j
  plo : -1 ≤ x.place
  phi : x.place ≤ 1099511627776

theorem found_at {w : World} {b : Nat} {LL : Lists} (hf : FinderIs w b LL) {i : Nat} (hi : i < LL.length) {T B : List Wd} (hT : T = (LL.getD i ([], [])).1) (hB : B = (LL.getD i ([], [])).2) : ∃ gl cl a0 c0 a1 c1, w.cell? ⟨b, 1, none⟩ = some (.slice (some ⟨gl, 0, none⟩) LL.length cl) ∧
    w.cell? ⟨gl, i * 2, none⟩ = some (.slice a0 T.length c0) ∧ w.cell? ⟨gl, i * 2 + 1, none⟩ = some (.slice a1 B.length c1) ∧ StrSl w (.slice a0 T.length c0) T ∧ StrSl w (.slice a1 B.length c1) B := by
  have e : LL.getD i ([], []) = LL[i] := by rw [List.getD_eq_getElem?_getD, List.getElem?_eq_getElem hi]; rfl
  rw [e] at hT hB
  subst hT hB
  obtain ⟨vl, m, hb, hl, _⟩ := hf
  obtain ⟨gl, cl, a0, c0, a1, c1, rfl, h0, h1, s0, s1⟩ := hl.at_ i hi
  refine ⟨gl, cl, a0, c0, a1, c1, ?_, h0, h1, s0, s1⟩
  rw [Lib.cell_of_heap hb]; rfl
theorem three_put {w : World} {b : Nat} {z0 z1 z2 : Value} {t : TypeId} {fr : Nat × Nat} (h : w.heap[b]? = some (.cells #[z0, z1, z2] t fr)) (v0 v1 v2 : Value) : (((w.setCell ⟨b, 0, none⟩ v0).setCell ⟨b, 1, none⟩ v1).setCell ⟨b, 2, none⟩ v2).heap[b]? = some (.cells #[v0, v1, v2] t fr) := by
  have h1 := setCell_heap (i := 0) h v0
  have h2 := setCell_heap (i := 1) h1 v1
  rw [setCell_heap (i := 2) h2 v2]; rfl
theorem three_1 {w : World} {b : Nat} {z0 z1 z2 : Value} {t : TypeId} {fr : Nat × Nat} (h : w.heap[b]? = some (.cells #[z0, z1, z2] t fr)) (v : Value) : (w.setCell ⟨b, 1, none⟩ v).heap[b]? = some (.cells #[z0, v, z2] t fr) := by
  rw [setCell_heap (i := 1) h v]; rfl
theorem three_2 {w : World} {b : Nat} {z0 z1 z2 : Value} {t : TypeId} {fr : Nat × Nat} (h : w.heap[b]? = some (.cells #[z0, z1, z2] t fr)) (v : Value) : (w.setCell ⟨b, 2, none⟩ v).heap[b]? = some (.cells #[z0, z1, v] t fr) := by
  rw [setCell_heap (i := 2) h v]; rfl
theorem below_three {w a : World} {B b : Nat} (h : Below B a w) (hb : B ≤ b) (v0 v1 v2 : Value) : Below B a (((w.setCell ⟨b, 0, none⟩ v0).setCell ⟨b, 1, none⟩ v1).setCell ⟨b, 2, none⟩ v2) :=
  ((h.setCell (p := ⟨b, 0, none⟩) hb v0).setCell (p := ⟨b, 1, none⟩) hb v1).setCell (p := ⟨b, 2, none⟩) hb v2
theorem nat_first {w : World} {a : Option Addr} {c : Nat} {l : List Nat} (h : w.ownsRow 0 3 1 (.slice a l.length c) l.length (natCells l)) (hp : 0 < l.length) : ∃ g, a = some ⟨g, 0, none⟩ ∧ w.cell? ⟨g, 0, none⟩ = some (.int .i64 ((l.getD 0 0 : Nat) : Int)) := by
  obtain ⟨g, cap, he, _⟩ := h.form (by omega)
  simp only [Value.slice.injEq] at he
  obtain ⟨rfl, _, rfl⟩ := he
  have := h.cells (g := g) rfl 0 (.int .i64 ((l.getD 0 0 : Nat) : Int)) (by
    unfold natCells
    rw [List.getElem?_map, List.getD_eq_getElem?_getD, List.getElem?_eq_getElem hp]; rfl)
  rw [add_none] at this
  exact ⟨g, rfl, this⟩

set_option maxHeartbeats 16000000 in
set_option maxRecDepth 100000 in
theorem found_any (LL : Lists) (cs : List Cl) (b i : Nat) (al : Option Addr) (cl : Nat) (w : World) (hf : FinderIs w b LL) (hi : i < LL.length) (hcs : ClsSl w (.slice al cs.length cl) cs) (hmany : cs.length ≤ 1048576)
    (hN : ∀ p ∈ LL, p.1.length ≤ 5242881 ∧ p.2.length ≤ 5242881) (hC : ∀ c ∈ cs, c.words.length ≤ 1099511627776) (hLn : LL.length ≤ 1000) :
    Calls Tryz.prog 23 #[.pointer (some ⟨b, 0, none⟩), .int .i64 i, .slice al cs.length cl] w (FoundPost (foundF (hasC LL) (LL.getD i ([], [])).1 (LL.getD i ([], [])).2 (found0 i) cs) w) := by
  have hz3 : Tryz.prog.cellsOf 62 = 3 := by kernel_rfl
  have hz4 : Tryz.prog.cellsOf 56 = 3 := by kernel_rfl
  have hn0 := hN (LL.getD i ([], [])) (by rw [List.getD_eq_getElem?_getD, List.getElem?_eq_getElem hi]; exact List.getElem_mem hi)
  obtain ⟨T, hTd⟩ : ∃ T, T = (LL.getD i ([], [])).1 := ⟨_, rfl⟩
  obtain ⟨B, hBd⟩ : ∃ T, T = (LL.getD i ([], [])).2 := ⟨_, rfl⟩
  rw [← hTd, ← hBd] at hn0 ⊢
  obtain ⟨hT, hB⟩ := hn0
  have HTB := Lib.hid (And.intro hTd hBd)
  have HFI := Lib.hid hf
  have HCS := Lib.hid hcs
  have HC := Lib.hid hC
  clear hf hcs hN hC hTd hBd
  go_enter Tryz.func23, Tryz.ntmps23
  go_wp2_with fail
  go_loopw [17] (fun q wr => ∃ (j : Nat) (x : Fnd), j ≤ cs.length ∧ q = .int .i64 j ∧ FoundSt w i LL T B cs j x wr) (fun q _ => cs.length - (intOf q).toNat)
  case atStart =>
    refine ⟨0, found0 i, Nat.zero_le _, rfl, ?_, ?_, ?_, rfl, by simp [found0], by simp [found0], by simp [found0], by simp [found0]⟩
    · have h1 := heap_alloc_new (w.alloc (.cells #[.int .i64 0, .int .i64 0, .int .i64 0] 56)) (.cells #[.int .i64 i, .int .i64 0, .int .i64 (-1)] 56)
      rw [World.size_alloc] at h1
      exact h1
    · exact (Below.heap_alloc _ _ _ (by simp)).trans (heap_alloc_new w _)
    · exact ((Below.refl w.heap.size w).alloc (Nat.le_refl _) _).alloc (by simp) _
  case round =>
    obtain ⟨j, x, hj, rfl, hS⟩ := hrel
    have HS := Lib.hid hS
    have hx1 := hS.lo
    have hx2 := hS.hi
    have hx3 := hS.plo
    have hx4 := hS.phi
    clear hS
    by_cases hlt : j < cs.length
    · obtain ⟨g, o, hg, hcl⟩ : ∃ g o, al = some ⟨g, o, none⟩ ∧ ClAt wr g (o + j * 3) cs[j] := by
        obtain ⟨a, cc, he, hc⟩ := HCS.out.new HS.out.below
        obtain ⟨g, o, rfl, hcell⟩ := hc j hlt
        exact ⟨g, o, by simpa using congrArg (fun v => match v with | Value.slice a _ _ => a | _ => none) he, hcell⟩
      subst hg
      have hdrop : cs.drop j = cs[j] :: cs.drop (j + 1) := List.drop_eq_getElem_cons hlt
      have hcn := HC.out cs[j] (List.getElem_mem hlt)
      generalize hcc : cs[j] = c at *
      have HCC := Lib.hid hcc
      have HD := Lib.hid hdrop
      have HCN := Lib.hid hcn
      clear hcc hdrop hcn
      obtain ⟨aw, cw, c0', c1', c2', hsw⟩ := hcl
      have HSW0 := Lib.hid hsw
      clear hsw
      have hleft := HS.out.left
      rw [HD.out] at hleft
      have HLF := Lib.hid hleft
      clear hleft
      by_cases hw0 : c.words.length = 0
      · have hb0 : ((c.words.length : Int) == 0) = true := by rw [beq_iff_eq]; omega
        have HW0 := Lib.hid hw0
        clear hw0
        go_wp2_with fail
        go_roundw
        case rel =>
          refine ⟨j + 1, x, by omega, by go_num, ?_, ?_, ?_, ?_, hx1, by omega, hx3, hx4⟩
          · rw [Below.heap_alloc _ _ _ (lt_of_heap HS.out.kb)]; exact HS.out.kb
          · rw [Below.heap_alloc _ _ _ (lt_of_heap HS.out.rb)]; exact HS.out.rb
          · exact HS.out.below.alloc HS.out.below.size _
          · rw [← HLF.out, foundF_skip]
            have : c.words = [] := List.eq_nil_of_length_eq_zero HW0.out
            simp [this]
        case measure => simp [intOf] <;> omega
      · have hb0 : ((c.words.length : Int) == 0) = false := by rw [beq_eq_false_iff_ne]; omega
        have hwne : c.words.isEmpty = false := by
          rw [List.isEmpty_eq_false_iff]; intro e; exact hw0 (by rw [e]; rfl)
        have HWE := Lib.hid hwne
        have hbW0 : Below wr.heap.size wr (wr.alloc (.cells #[.slice aw c.words.length cw, .bool c.no, .bool c.opn] 62)) := (Below.refl _ _).alloc (Nat.le_refl _) _
        have hcb0 := heap_alloc_new wr (.cells #[.slice aw c.words.length cw, .bool c.no, .bool c.opn] 62)
        cases hno : c.no with
        | false =>
          rw [hno] at hbW0 hcb0
          go_upto_region 6 with fail
          obtain ⟨W, hW⟩ : ∃ W, W = wr.alloc (.cells #[.slice aw c.words.length cw, .bool false, .bool c.opn] 62) := ⟨_, rfl⟩
          rw [← hW]
          have hbW : Below wr.heap.size wr W := by rw [hW]; exact hbW0
          have hcb : W.heap[wr.heap.size]? = some (.cells #[.slice aw c.words.length cw, .bool false, .bool c.opn] 62 (0, 0)) := by rw [hW]; exact hcb0
          clear hW
          have HNO := Lib.hid hno
          clear hno hw0 hwne
          have hBW : Below w.heap.size w W := HS.out.below.trans (hbW.mono HS.out.below.size)
          obtain ⟨gl, cl1, a0, c0, a1, c1, p1, p2, p3, s0, s1⟩ := found_at (HFI.out.new hBW) hi HTB.out.1 HTB.out.2
          have q1 : W.cell? ⟨wr.heap.size, 0, none⟩ = some (.slice aw c.words.length cw) := by rw [Lib.cell_of_heap hcb]; rfl
          have q2 : W.cell? ⟨wr.heap.size, 1, none⟩ = some (.bool false) := by rw [Lib.cell_of_heap hcb]; rfl
          have q3 : W.cell? ⟨wr.heap.size, 2, none⟩ = some (.bool c.opn) := by rw [Lib.cell_of_heap hcb]; rfl
          have hlt1 := lt_of_heap hcb
          have hlt2 := World.block_lt_of_cell? W _ p1
          have hlt3 := World.block_lt_of_cell? W _ p2
          simp only at hlt2 hlt3
          have HSW := Lib.hid (HSW0.out.new hbW)
          have HST := Lib.hid s0
          have HSB := Lib.hid s1
          have HCB := Lib.hid hcb
          have HKB := Lib.hid ((hbW.block _ (lt_of_heap HS.out.kb)).trans HS.out.kb)
          have HRB0 := Lib.hid ((hbW.block _ (lt_of_heap HS.out.rb)).trans HS.out.rb)
          have HBWW := Lib.hid hBW
          have HBWR := Lib.hid hbW
          clear s0 s1 hcb hBW hbW c0' c1' c2' hbW0 hcb0
          have E1 := Lib.hid (show ∀ w', Below W.heap.size W w' → Calls Tryz.prog 43 #[.agg #[.slice aw c.words.length cw, .bool false, .bool c.opn], .slice a0 T.length c0] w' fun e w2 => ∃ a cc, e = .returned (.slice a (hits c T).length cc) ∧ w2.ownsRow 0 3 1 (.slice a (hits c T).length cc) (hits c T).length (natCells (hits c T)) ∧ Below w'.heap.size w' w2 from fun w' hb => by
            rw [← HNO.out]
            refine (hits_any c T aw a0 cw c0 w' (HSW.out.new hb) (HST.out.new hb) HCN.out (by omega)).mono ?_
            rintro e w2 ⟨v, rfl, ho, hb2⟩
            obtain ⟨a, cc, rfl⟩ := slice_form ho
            exact ⟨a, cc, rfl, owns_zero ho, hb2⟩)
          have E2 := Lib.hid (show ∀ w', Below W.heap.size W w' → Calls Tryz.prog 43 #[.agg #[.slice aw c.words.length cw, .bool false, .bool c.opn], .slice a1 B.length c1] w' fun e w2 => ∃ a cc, e = .returned (.slice a (hits c B).length cc) ∧ w2.ownsRow 0 3 1 (.slice a (hits c B).length cc) (hits c B).length (natCells (hits c B)) ∧ Below w'.heap.size w' w2 from fun w' hb => by
            rw [← HNO.out]
            refine (hits_any c B aw a1 cw c1 w' (HSW.out.new hb) (HSB.out.new hb) HCN.out (by omega)).mono ?_
            rintro e w2 ⟨v, rfl, ho, hb2⟩
            obtain ⟨a, cc, rfl⟩ := slice_form ho
            exact ⟨a, cc, rfl, owns_zero ho, hb2⟩)
          go_cut [11, 12] (fun s11 s12 wx => ∃ (at_ : Option Addr) (ct : Nat) (ab : Option Addr) (cb : Nat), s11 = .slice at_ (hits c T).length ct ∧ s12 = .slice ab (hits c B).length cb ∧ wx.ownsRow 0 3 1 (.slice ab (hits c B).length cb) (hits c B).length (natCells (hits c B)) ∧ Below W.heap.size W wx)
          case first =>
            have hS0 := Lib.hid (Below.refl W.heap.size W)
            go_region_held3 (fun w' => Hid (Below W.heap.size W w') ∧ w'.cell? ⟨wr.heap.size, 0, none⟩ = some (.slice aw c.words.length cw) ∧ w'.cell? ⟨wr.heap.size, 1, none⟩ = some (.bool false) ∧ w'.cell? ⟨wr.heap.size, 2, none⟩ = some (.bool c.opn) ∧ w'.cell? ⟨b, 1, none⟩ = some (.slice (some ⟨gl, 0, none⟩) LL.length cl1) ∧ w'.cell? ⟨gl, i * 2, none⟩ = some (.slice a0 T.length c0) ∧ w'.cell? ⟨gl, i * 2 + 1, none⟩ = some (.slice a1 B.length c1))
              ((refine ⟨?_, ?_, ?_, ?_, ?_, ?_, ?_⟩ <;> go_split_ands <;> first | assumption | exact Lib.hid (Below.trans (Hid.out (by assumption)) (Below.mono (by first | exact hb2 | exact hb1) (by first | exact Below.size (Hid.out (by assumption)) | (simp; done)))) | exact (Below.cell (by first | exact hb2 | exact hb1) (Nat.lt_of_lt_of_le hlt1 (Below.size (Hid.out (by assumption))))).trans (by assumption) | exact (Below.cell (by first | exact hb2 | exact hb1) (Nat.lt_of_lt_of_le hlt2 (Below.size (Hid.out (by assumption))))).trans (by assumption) | exact (Below.cell (by first | exact hb2 | exact hb1) (Nat.lt_of_lt_of_le hlt3 (Below.size (Hid.out (by assumption))))).trans (by assumption) | exact Lib.hid ((Below.refl _ _).drew)))
              (first
                | (go_at_call_of 43 (Value.slice a0 T.length c0); refine (E1.out _ (Hid.out (by go_split_ands; assumption))).mono ?_; rintro e w1 ⟨at_, ct, rfl, hr1, hb1⟩)
                | (go_at_call_of 43 (Value.slice a1 B.length c1); refine (E2.out _ (Hid.out (by go_split_ands; assumption))).mono ?_; rintro e w2 ⟨ab, cb, rfl, hr2, hb2⟩))
            all_goals
              go_wp2_with fail
              go_meet
              refine ⟨at_, ct, ab, cb, rfl, rfl, (by first | exact hr2 | exact owns_new hr2 hb1), ?_⟩
              go_split_ands
              exact Hid.out (by assumption)
          case rest =>
            obtain ⟨at_, ct, ab, cb, rfl, rfl, hrB, hbW⟩ := hcut
            have HRB := Lib.hid hrB
            have HBW := Lib.hid hbW
            have k1 := (hbW.block _ (lt_of_heap HKB.out)).trans HKB.out
            have k2 := (hbW.block _ (lt_of_heap HRB0.out)).trans HRB0.out
            have k3 := (hbW.block _ (lt_of_heap HCB.out)).trans HCB.out
            have HK1 := Lib.hid k1
            have HK2 := Lib.hid k2
            have x0 : wc.cell? ⟨w.heap.size + 1, 0, none⟩ = some (.int .i64 x.topic) := by rw [Lib.cell_of_heap k1]; rfl
            have x1 : wc.cell? ⟨w.heap.size + 1, 1, none⟩ = some (.int .i64 x.score) := by rw [Lib.cell_of_heap k1]; rfl
            have x2 : wc.cell? ⟨w.heap.size + 1, 2, none⟩ = some (.int .i64 x.place) := by rw [Lib.cell_of_heap k1]; rfl
            have xf : ∀ i, wc.frozen? ⟨w.heap.size + 1, i, none⟩ = false := fun i => Lib.frozen_of_heap k1 i
            have r0 : wc.cell? ⟨w.heap.size, 0, none⟩ = some (.int .i64 0) := by rw [Lib.cell_of_heap k2]; rfl
            have r1 : wc.cell? ⟨w.heap.size, 1, none⟩ = some (.int .i64 0) := by rw [Lib.cell_of_heap k2]; rfl
            have r2 : wc.cell? ⟨w.heap.size, 2, none⟩ = some (.int .i64 0) := by rw [Lib.cell_of_heap k2]; rfl
            have rf : ∀ i, wc.frozen? ⟨w.heap.size, i, none⟩ = false := fun i => Lib.frozen_of_heap k2 i
            have y1 : wc.cell? ⟨wr.heap.size, 1, none⟩ = some (.bool false) := by rw [Lib.cell_of_heap k3]; rfl
            have hlk := lt_of_heap k1
            have hbw := HBWW.out.trans (hbW.mono HBWW.out.size)
            have HBw := Lib.hid hbw
            clear hrB hbW k1 k2 k3 E1 E2 p1 p2 p3 q1 q2 q3 hbw
            have ht1 := (hits_le c T).1
            have ht2 := (hits_le c B).1
            have hfst := fun h => nat_first HRB.out h
            have hp0 : ((hits c B).getD 0 0) ≤ 5242881 := by
              by_cases hp : 0 < (hits c B).length
              · have h1 := (hits_le c B).2 (hits c B)[0] (List.getElem_mem hp)
                rw [List.getD_eq_getElem?_getD, List.getElem?_eq_getElem hp, Option.getD_some]; omega
              · rw [List.getD_eq_getElem?_getD, List.getElem?_eq_none (by omega)]; exact Nat.zero_le _
            obtain ⟨n0, hn0⟩ : ∃ n, n = (hits c B).getD 0 0 := ⟨_, rfl⟩
            obtain ⟨nt, hnt⟩ : ∃ n, n = (hits c T).length := ⟨_, rfl⟩
            obtain ⟨nb, hnb⟩ : ∃ n, n = (hits c B).length := ⟨_, rfl⟩
            rw [← hn0] at hp0 hfst
            rw [← hnt, ← hnb]
            rw [← hnt] at ht1
            rw [← hnb] at ht2 hfst
            have HN0 := Lib.hid hn0
            have HNT := Lib.hid hnt
            have HNB := Lib.hid hnb
            clear hnt hnb hn0
            by_cases hs : nt + nb = 0
            · have hsi : ¬ ((0 : Int) < (nt : Int) + (nb : Int)) := by omega
              go_wp2_with fail
              have kz := three_put HK2.out (.int .i64 0) (.int .i64 0) (.int .i64 0)
              have bz := below_three (b := w.heap.size) HBw.out (Nat.le_refl _) (.int .i64 0) (.int .i64 0) (.int .i64 0)
              generalize (((wc.setCell ⟨w.heap.size, 0, none⟩ (.int .i64 0)).setCell ⟨w.heap.size, 1, none⟩ (.int .i64 0)).setCell ⟨w.heap.size, 2, none⟩ (.int .i64 0)) = Z at kz bz ⊢
              have z0 : Z.cell? ⟨w.heap.size, 0, none⟩ = some (.int .i64 0) := by rw [Lib.cell_of_heap kz]; rfl
              have z1 : Z.cell? ⟨w.heap.size, 1, none⟩ = some (.int .i64 0) := by rw [Lib.cell_of_heap kz]; rfl
              have z2 : Z.cell? ⟨w.heap.size, 2, none⟩ = some (.int .i64 0) := by rw [Lib.cell_of_heap kz]; rfl
              refine bodyPost_ret (v := .tuple #[.agg #[.int .i64 0, .int .i64 0, .int .i64 0], .bool false]) (by simp [results, Tryz.results23, go_sem, z0, z1, z2, hz4, List.range_succ]) rfl ?_
              unfold FoundPost
              rw [← HLF.out, foundF_none (by rw [HWE.out, HNO.out]; rfl) (by rw [HNO.out, ← HNT.out, ← HNB.out]; simp; omega)]
              exact ⟨rfl, bz⟩

            · have hsi : (0 : Int) < (nt : Int) + (nb : Int) := by omega
              have hsum : x.score + (10 * (nt : Int) + (nb : Int)) ≤ 100000000 * ((j + 1 : Nat) : Int) := by push_cast; omega
              have hsum0 : 0 ≤ x.score + (10 * (nt : Int) + (nb : Int)) := by omega
              have u2 : ∀ v, (wc.setCell ⟨w.heap.size + 1, 1, none⟩ v).cell? ⟨w.heap.size + 1, 2, none⟩ = some (.int .i64 x.place) := fun v => by rw [Lib.cell_of_heap (setCell_heap (i := 1) HK1.out v)]; rfl
              by_cases hnb : nb = 0
              · have hnbi : ¬ ((0 : Int) < (nb : Int)) := by omega
                have HNB0 := Lib.hid hnb
                have hd1 : decide (0 < nb) = false := decide_eq_false (by omega)
                clear hnb
                go_wp2_with fail
                go_quiet (fail)
                go_wp2_with fail
                go_roundw
                case rel =>
                  have hst : stepF x (hits c T) (hits c B) = ⟨x.topic, x.score + (10 * (nt : Int) + (nb : Int)), x.place⟩ := by
                    unfold stepF
                    rw [← HNT.out, ← HNB.out, ← HN0.out, if_neg (fun h => by omega)]
                  have hlf := HLF.out
                  rw [foundF_yes (by rw [HWE.out, HNO.out]; rfl) (by rw [HNO.out, ← HNT.out, ← HNB.out]; simp; omega) HNO.out, hst] at hlf
                  have kb1 := three_1 HK1.out (.int .i64 (x.score + (10 * (nt : Int) + (nb : Int))))
                  have rb1 := (setCell_heap_ne (i := 1) (w := wc) (show w.heap.size + 1 ≠ w.heap.size by omega) (.int .i64 (x.score + (10 * (nt : Int) + (nb : Int))))).trans HK2.out
                  have bw1 := below_drewN (HBw.out.setCell (p := ⟨w.heap.size + 1, 1, none⟩) (Nat.le_succ _) (.int .i64 (x.score + (10 * (nt : Int) + (nb : Int))))) nq
                  exact ⟨j + 1, ⟨x.topic, x.score + (10 * (nt : Int) + (nb : Int)), x.place⟩, by omega, by go_num, kb1, rb1, bw1, hlf, hsum0, hsum, hx3, hx4⟩
                case measure => simp [intOf] <;> omega

              · have hnbi : ((0 : Int) < (nb : Int)) := by omega
                obtain ⟨gb, rfl, c0b⟩ := hfst (by omega)
                have hgb : w.heap.size + 1 ≠ gb := fun e => by
                  obtain ⟨c', hc'⟩ := owns_kind HRB.out gb rfl
                  rw [← e, HK1.out] at hc'; cases hc'
                have u3 : ∀ v, (wc.setCell ⟨w.heap.size + 1, 1, none⟩ v).cell? ⟨gb, 0, none⟩ = some (.int .i64 (n0 : Int)) := fun v => cell_set c0b hgb v
                have hd1 : decide (0 < nb) = true := decide_eq_true (by omega)
                have hnbi' : 0 < nb := by omega
                clear hnb
                by_cases hpl : x.place < 0
                · have hd2 : decide (x.place < 0) = true := decide_eq_true hpl
                  go_wp2_with fail
                  go_quiet (fail)
                  go_wp2_with fail
                  go_roundw
                  case rel =>
                    have hst : stepF x (hits c T) (hits c B) = ⟨x.topic, x.score + (10 * (nt : Int) + (nb : Int)), (n0 : Int)⟩ := by
                      unfold stepF
                      rw [← HNT.out, ← HNB.out, ← HN0.out, if_pos ⟨hnbi', Or.inl hpl⟩]
                    have hlf := HLF.out
                    rw [foundF_yes (by rw [HWE.out, HNO.out]; rfl) (by rw [HNO.out, ← HNT.out, ← HNB.out]; simp; omega) HNO.out, hst] at hlf
                    have kb1 := three_1 HK1.out (.int .i64 (x.score + (10 * (nt : Int) + (nb : Int))))
                    have rb1 := (setCell_heap_ne (i := 1) (w := wc) (show w.heap.size + 1 ≠ w.heap.size by omega) (.int .i64 (x.score + (10 * (nt : Int) + (nb : Int))))).trans HK2.out
                    have bw1 := below_drewN (HBw.out.setCell (p := ⟨w.heap.size + 1, 1, none⟩) (Nat.le_succ _) (.int .i64 (x.score + (10 * (nt : Int) + (nb : Int))))) nq
                    have kb2 := three_2 (w := (wc.setCell ⟨w.heap.size + 1, 1, none⟩ (.int .i64 (x.score + (10 * (nt : Int) + (nb : Int))))).drewN nq) kb1 (.int .i64 (n0 : Int))
                    have rb2 := (setCell_heap_ne (i := 2) (w := (wc.setCell ⟨w.heap.size + 1, 1, none⟩ (.int .i64 (x.score + (10 * (nt : Int) + (nb : Int))))).drewN nq) (show w.heap.size + 1 ≠ w.heap.size by omega) (.int .i64 (n0 : Int))).trans rb1
                    exact ⟨j + 1, ⟨x.topic, x.score + (10 * (nt : Int) + (nb : Int)), (n0 : Int)⟩, by omega, by go_num, kb2, rb2, bw1.setCell (p := ⟨w.heap.size + 1, 2, none⟩) (Nat.le_succ _) _, hlf, hsum0, hsum, (by show -1 ≤ (n0 : Int); omega), (by show (n0 : Int) ≤ _; omega)⟩
                  case measure => simp [intOf] <;> omega

                · have hd2 : decide (x.place < 0) = false := decide_eq_false hpl
                  by_cases hpn : (n0 : Int) < x.place
                  · have hd3 : decide ((n0 : Int) < x.place) = true := decide_eq_true hpn
                    go_wp2_with fail
                    go_quiet (fail)
                    go_wp2_with fail
                    go_roundw
                    case rel =>
                      have hst : stepF x (hits c T) (hits c B) = ⟨x.topic, x.score + (10 * (nt : Int) + (nb : Int)), (n0 : Int)⟩ := by
                        unfold stepF
                        rw [← HNT.out, ← HNB.out, ← HN0.out, if_pos ⟨hnbi', Or.inr hpn⟩]
                      have hlf := HLF.out
                      rw [foundF_yes (by rw [HWE.out, HNO.out]; rfl) (by rw [HNO.out, ← HNT.out, ← HNB.out]; simp; omega) HNO.out, hst] at hlf
                      have kb1 := three_1 HK1.out (.int .i64 (x.score + (10 * (nt : Int) + (nb : Int))))
                      have rb1 := (setCell_heap_ne (i := 1) (w := wc) (show w.heap.size + 1 ≠ w.heap.size by omega) (.int .i64 (x.score + (10 * (nt : Int) + (nb : Int))))).trans HK2.out
                      have bw1 := below_drewN (HBw.out.setCell (p := ⟨w.heap.size + 1, 1, none⟩) (Nat.le_succ _) (.int .i64 (x.score + (10 * (nt : Int) + (nb : Int))))) nq
                      have kb2 := three_2 (w := (wc.setCell ⟨w.heap.size + 1, 1, none⟩ (.int .i64 (x.score + (10 * (nt : Int) + (nb : Int))))).drewN nq) kb1 (.int .i64 (n0 : Int))
                      have rb2 := (setCell_heap_ne (i := 2) (w := (wc.setCell ⟨w.heap.size + 1, 1, none⟩ (.int .i64 (x.score + (10 * (nt : Int) + (nb : Int))))).drewN nq) (show w.heap.size + 1 ≠ w.heap.size by omega) (.int .i64 (n0 : Int))).trans rb1
                      exact ⟨j + 1, ⟨x.topic, x.score + (10 * (nt : Int) + (nb : Int)), (n0 : Int)⟩, by omega, by go_num, kb2, rb2, bw1.setCell (p := ⟨w.heap.size + 1, 2, none⟩) (Nat.le_succ _) _, hlf, hsum0, hsum, (by show -1 ≤ (n0 : Int); omega), (by show (n0 : Int) ≤ _; omega)⟩
                    case measure => simp [intOf] <;> omega

                  · have hd3 : decide ((n0 : Int) < x.place) = false := decide_eq_false hpn
                    go_wp2_with fail
                    go_quiet (fail)
                    go_wp2_with fail
                    go_roundw
                    case rel =>
                      have hst : stepF x (hits c T) (hits c B) = ⟨x.topic, x.score + (10 * (nt : Int) + (nb : Int)), x.place⟩ := by
                        unfold stepF
                        rw [← HNT.out, ← HNB.out, ← HN0.out, if_neg (fun h => by omega)]
                      have hlf := HLF.out
                      rw [foundF_yes (by rw [HWE.out, HNO.out]; rfl) (by rw [HNO.out, ← HNT.out, ← HNB.out]; simp; omega) HNO.out, hst] at hlf
                      have kb1 := three_1 HK1.out (.int .i64 (x.score + (10 * (nt : Int) + (nb : Int))))
                      have rb1 := (setCell_heap_ne (i := 1) (w := wc) (show w.heap.size + 1 ≠ w.heap.size by omega) (.int .i64 (x.score + (10 * (nt : Int) + (nb : Int))))).trans HK2.out
                      have bw1 := below_drewN (HBw.out.setCell (p := ⟨w.heap.size + 1, 1, none⟩) (Nat.le_succ _) (.int .i64 (x.score + (10 * (nt : Int) + (nb : Int))))) nq
                      exact ⟨j + 1, ⟨x.topic, x.score + (10 * (nt : Int) + (nb : Int)), x.place⟩, by omega, by go_num, kb1, rb1, bw1, hlf, hsum0, hsum, hx3, hx4⟩
                    case measure => simp [intOf] <;> omega
        | true =>
          rw [hno] at hbW0 hcb0
          have hh := has_any c LL b aw cw _ (HSW0.out.new hbW0) (fun e => hw0 (by rw [e]; rfl)) (HFI.out.new (HS.out.below.trans (hbW0.mono HS.out.below.size))) HCN.out
          rw [hno] at hh
          cases hhc : hasC LL c with
          | false =>
            rw [hhc] at hh
            have HH := Lib.hid hh
            have HHC := Lib.hid hhc
            clear hh hhc
            go_wp2_with (go_at_call 42; refine HH.out.mono ?_; rintro e w1 ⟨rfl, hb1⟩)
            go_roundw
            case rel =>
              have hbx := hbW0.trans (hb1.mono (by simp))
              exact ⟨j + 1, x, by omega, by go_num, (hbx.block _ (lt_of_heap HS.out.kb)).trans HS.out.kb, (hbx.block _ (lt_of_heap HS.out.rb)).trans HS.out.rb, HS.out.below.trans (hbx.mono HS.out.below.size),
                (by rw [← HLF.out, foundF_skip]; rw [HWE.out, hno, HHC.out]; rfl), hx1, (by push_cast; omega), hx3, hx4⟩
            case measure => simp [intOf] <;> omega
          | true =>
            rw [hhc] at hh
            have HH := Lib.hid hh
            have HHC := Lib.hid hhc
            clear hh hhc
            go_upto_region 6 with (go_at_call 42; refine HH.out.mono ?_; rintro e W ⟨rfl, hb1⟩)
            have hbW : Below wr.heap.size wr W := hbW0.trans (hb1.mono (by simp))
            have hcb := (hb1.block _ (by simp)).trans hcb0
            clear hb1
            have HNO := Lib.hid hno
            clear hno hw0 hwne
            have hBW : Below w.heap.size w W := HS.out.below.trans (hbW.mono HS.out.below.size)
            obtain ⟨gl, cl1, a0, c0, a1, c1, p1, p2, p3, s0, s1⟩ := found_at (HFI.out.new hBW) hi HTB.out.1 HTB.out.2
            have q1 : W.cell? ⟨wr.heap.size, 0, none⟩ = some (.slice aw c.words.length cw) := by rw [Lib.cell_of_heap hcb]; rfl
            have q2 : W.cell? ⟨wr.heap.size, 1, none⟩ = some (.bool true) := by rw [Lib.cell_of_heap hcb]; rfl
            have q3 : W.cell? ⟨wr.heap.size, 2, none⟩ = some (.bool c.opn) := by rw [Lib.cell_of_heap hcb]; rfl
            have hlt1 := lt_of_heap hcb
            have hlt2 := World.block_lt_of_cell? W _ p1
            have hlt3 := World.block_lt_of_cell? W _ p2
            simp only at hlt2 hlt3
            have HSW := Lib.hid (HSW0.out.new hbW)
            have HST := Lib.hid s0
            have HSB := Lib.hid s1
            have HCB := Lib.hid hcb
            have HKB := Lib.hid ((hbW.block _ (lt_of_heap HS.out.kb)).trans HS.out.kb)
            have HRB0 := Lib.hid ((hbW.block _ (lt_of_heap HS.out.rb)).trans HS.out.rb)
            have HBWW := Lib.hid hBW
            have HBWR := Lib.hid hbW
            clear s0 s1 hcb hBW hbW c0' c1' c2' hbW0 hcb0
            have E1 := Lib.hid (show ∀ w', Below W.heap.size W w' → Calls Tryz.prog 43 #[.agg #[.slice aw c.words.length cw, .bool true, .bool c.opn], .slice a0 T.length c0] w' fun e w2 => ∃ a cc, e = .returned (.slice a (hits c T).length cc) ∧ w2.ownsRow 0 3 1 (.slice a (hits c T).length cc) (hits c T).length (natCells (hits c T)) ∧ Below w'.heap.size w' w2 from fun w' hb => by
              rw [← HNO.out]
              refine (hits_any c T aw a0 cw c0 w' (HSW.out.new hb) (HST.out.new hb) HCN.out (by omega)).mono ?_
              rintro e w2 ⟨v, rfl, ho, hb2⟩
              obtain ⟨a, cc, rfl⟩ := slice_form ho
              exact ⟨a, cc, rfl, owns_zero ho, hb2⟩)
            have E2 := Lib.hid (show ∀ w', Below W.heap.size W w' → Calls Tryz.prog 43 #[.agg #[.slice aw c.words.length cw, .bool true, .bool c.opn], .slice a1 B.length c1] w' fun e w2 => ∃ a cc, e = .returned (.slice a (hits c B).length cc) ∧ w2.ownsRow 0 3 1 (.slice a (hits c B).length cc) (hits c B).length (natCells (hits c B)) ∧ Below w'.heap.size w' w2 from fun w' hb => by
              rw [← HNO.out]
              refine (hits_any c B aw a1 cw c1 w' (HSW.out.new hb) (HSB.out.new hb) HCN.out (by omega)).mono ?_
              rintro e w2 ⟨v, rfl, ho, hb2⟩
              obtain ⟨a, cc, rfl⟩ := slice_form ho
              exact ⟨a, cc, rfl, owns_zero ho, hb2⟩)
            go_cut [11, 12] (fun s11 s12 wx => ∃ (at_ : Option Addr) (ct : Nat) (ab : Option Addr) (cb : Nat), s11 = .slice at_ (hits c T).length ct ∧ s12 = .slice ab (hits c B).length cb ∧ wx.ownsRow 0 3 1 (.slice ab (hits c B).length cb) (hits c B).length (natCells (hits c B)) ∧ Below W.heap.size W wx)
            case first =>
              have hS0 := Lib.hid (Below.refl W.heap.size W)
              go_region_held3 (fun w' => Hid (Below W.heap.size W w') ∧ w'.cell? ⟨wr.heap.size, 0, none⟩ = some (.slice aw c.words.length cw) ∧ w'.cell? ⟨wr.heap.size, 1, none⟩ = some (.bool true) ∧ w'.cell? ⟨wr.heap.size, 2, none⟩ = some (.bool c.opn) ∧ w'.cell? ⟨b, 1, none⟩ = some (.slice (some ⟨gl, 0, none⟩) LL.length cl1) ∧ w'.cell? ⟨gl, i * 2, none⟩ = some (.slice a0 T.length c0) ∧ w'.cell? ⟨gl, i * 2 + 1, none⟩ = some (.slice a1 B.length c1))
                ((refine ⟨?_, ?_, ?_, ?_, ?_, ?_, ?_⟩ <;> go_split_ands <;> first | assumption | exact Lib.hid (Below.trans (Hid.out (by assumption)) (Below.mono (by first | exact hb2 | exact hb1) (by first | exact Below.size (Hid.out (by assumption)) | (simp; done)))) | exact (Below.cell (by first | exact hb2 | exact hb1) (Nat.lt_of_lt_of_le hlt1 (Below.size (Hid.out (by assumption))))).trans (by assumption) | exact (Below.cell (by first | exact hb2 | exact hb1) (Nat.lt_of_lt_of_le hlt2 (Below.size (Hid.out (by assumption))))).trans (by assumption) | exact (Below.cell (by first | exact hb2 | exact hb1) (Nat.lt_of_lt_of_le hlt3 (Below.size (Hid.out (by assumption))))).trans (by assumption) | exact Lib.hid ((Below.refl _ _).drew)))
                (first
                  | (go_at_call_of 43 (Value.slice a0 T.length c0); refine (E1.out _ (Hid.out (by go_split_ands; assumption))).mono ?_; rintro e w1 ⟨at_, ct, rfl, hr1, hb1⟩)
                  | (go_at_call_of 43 (Value.slice a1 B.length c1); refine (E2.out _ (Hid.out (by go_split_ands; assumption))).mono ?_; rintro e w2 ⟨ab, cb, rfl, hr2, hb2⟩))
              all_goals
                go_wp2_with fail
                go_meet
                refine ⟨at_, ct, ab, cb, rfl, rfl, (by first | exact hr2 | exact owns_new hr2 hb1), ?_⟩
                go_split_ands
                exact Hid.out (by assumption)
            case rest =>
              obtain ⟨at_, ct, ab, cb, rfl, rfl, hrB, hbW⟩ := hcut
              have HRB := Lib.hid hrB
              have HBW := Lib.hid hbW
              have k1 := (hbW.block _ (lt_of_heap HKB.out)).trans HKB.out
              have k2 := (hbW.block _ (lt_of_heap HRB0.out)).trans HRB0.out
              have k3 := (hbW.block _ (lt_of_heap HCB.out)).trans HCB.out
              have HK1 := Lib.hid k1
              have HK2 := Lib.hid k2
              have x0 : wc.cell? ⟨w.heap.size + 1, 0, none⟩ = some (.int .i64 x.topic) := by rw [Lib.cell_of_heap k1]; rfl
              have x1 : wc.cell? ⟨w.heap.size + 1, 1, none⟩ = some (.int .i64 x.score) := by rw [Lib.cell_of_heap k1]; rfl
              have x2 : wc.cell? ⟨w.heap.size + 1, 2, none⟩ = some (.int .i64 x.place) := by rw [Lib.cell_of_heap k1]; rfl
              have xf : ∀ i, wc.frozen? ⟨w.heap.size + 1, i, none⟩ = false := fun i => Lib.frozen_of_heap k1 i
              have r0 : wc.cell? ⟨w.heap.size, 0, none⟩ = some (.int .i64 0) := by rw [Lib.cell_of_heap k2]; rfl
              have r1 : wc.cell? ⟨w.heap.size, 1, none⟩ = some (.int .i64 0) := by rw [Lib.cell_of_heap k2]; rfl
              have r2 : wc.cell? ⟨w.heap.size, 2, none⟩ = some (.int .i64 0) := by rw [Lib.cell_of_heap k2]; rfl
              have rf : ∀ i, wc.frozen? ⟨w.heap.size, i, none⟩ = false := fun i => Lib.frozen_of_heap k2 i
              have y1 : wc.cell? ⟨wr.heap.size, 1, none⟩ = some (.bool true) := by rw [Lib.cell_of_heap k3]; rfl
              have hlk := lt_of_heap k1
              have hbw := HBWW.out.trans (hbW.mono HBWW.out.size)
              have HBw := Lib.hid hbw
              clear hrB hbW k1 k2 k3 E1 E2 p1 p2 p3 q1 q2 q3 hbw
              have ht1 := (hits_le c T).1
              have ht2 := (hits_le c B).1
              have hfst := fun h => nat_first HRB.out h
              have hp0 : ((hits c B).getD 0 0) ≤ 5242881 := by
                by_cases hp : 0 < (hits c B).length
                · have h1 := (hits_le c B).2 (hits c B)[0] (List.getElem_mem hp)
                  rw [List.getD_eq_getElem?_getD, List.getElem?_eq_getElem hp, Option.getD_some]; omega
                · rw [List.getD_eq_getElem?_getD, List.getElem?_eq_none (by omega)]; exact Nat.zero_le _
              obtain ⟨n0, hn0⟩ : ∃ n, n = (hits c B).getD 0 0 := ⟨_, rfl⟩
              obtain ⟨nt, hnt⟩ : ∃ n, n = (hits c T).length := ⟨_, rfl⟩
              obtain ⟨nb, hnb⟩ : ∃ n, n = (hits c B).length := ⟨_, rfl⟩
              rw [← hn0] at hp0 hfst
              rw [← hnt, ← hnb]
              rw [← hnt] at ht1
              rw [← hnb] at ht2 hfst
              have HN0 := Lib.hid hn0
              have HNT := Lib.hid hnt
              have HNB := Lib.hid hnb
              clear hnt hnb hn0
              by_cases hs : nt + nb = 0
              · have hsi : ¬ ((0 : Int) < (nt : Int) + (nb : Int)) := by omega
                go_wp2_with fail
                go_roundw
                case rel => exact ⟨j + 1, x, by omega, by go_num, HK1.out, HK2.out, HBw.out, (by rw [← HLF.out, foundF_not (by rw [HWE.out, HNO.out, HHC.out]; rfl) (by rw [HNO.out, ← HNT.out, ← HNB.out]; simp; omega) HNO.out]), hx1, (by push_cast; omega), hx3, hx4⟩
                case measure => simp [intOf] <;> omega
              · have hsi : (0 : Int) < (nt : Int) + (nb : Int) := by omega
                go_wp2_with fail
                have kz := three_put HK2.out (.int .i64 0) (.int .i64 0) (.int .i64 0)
                have bz := below_three (b := w.heap.size) HBw.out (Nat.le_refl _) (.int .i64 0) (.int .i64 0) (.int .i64 0)
                generalize (((wc.setCell ⟨w.heap.size, 0, none⟩ (.int .i64 0)).setCell ⟨w.heap.size, 1, none⟩ (.int .i64 0)).setCell ⟨w.heap.size, 2, none⟩ (.int .i64 0)) = Z at kz bz ⊢
                have z0 : Z.cell? ⟨w.heap.size, 0, none⟩ = some (.int .i64 0) := by rw [Lib.cell_of_heap kz]; rfl
                have z1 : Z.cell? ⟨w.heap.size, 1, none⟩ = some (.int .i64 0) := by rw [Lib.cell_of_heap kz]; rfl
                have z2 : Z.cell? ⟨w.heap.size, 2, none⟩ = some (.int .i64 0) := by rw [Lib.cell_of_heap kz]; rfl
                refine bodyPost_ret (v := .tuple #[.agg #[.int .i64 0, .int .i64 0, .int .i64 0], .bool false]) (by simp [results, Tryz.results23, go_sem, z0, z1, z2, hz4, List.range_succ]) rfl ?_
                unfold FoundPost
                rw [← HLF.out, foundF_none (by rw [HWE.out, HNO.out, HHC.out]; rfl) (by rw [HNO.out, ← HNT.out, ← HNB.out]; simp; omega)]
                exact ⟨rfl, bz⟩
    · have x0 : wr.cell? ⟨w.heap.size + 1, 0, none⟩ = some (.int .i64 x.topic) := by rw [Lib.cell_of_heap HS.out.kb]; rfl
      have x1 : wr.cell? ⟨w.heap.size + 1, 1, none⟩ = some (.int .i64 x.score) := by rw [Lib.cell_of_heap HS.out.kb]; rfl
      have x2 : wr.cell? ⟨w.heap.size + 1, 2, none⟩ = some (.int .i64 x.place) := by rw [Lib.cell_of_heap HS.out.kb]; rfl
      have r0 : wr.cell? ⟨w.heap.size, 0, none⟩ = some (.int .i64 0) := by rw [Lib.cell_of_heap HS.out.rb]; rfl
      have r1 : wr.cell? ⟨w.heap.size, 1, none⟩ = some (.int .i64 0) := by rw [Lib.cell_of_heap HS.out.rb]; rfl
      have r2 : wr.cell? ⟨w.heap.size, 2, none⟩ = some (.int .i64 0) := by rw [Lib.cell_of_heap HS.out.rb]; rfl
      have rf : ∀ i, wr.frozen? ⟨w.heap.size, i, none⟩ = false := fun i => Lib.frozen_of_heap HS.out.rb i
      go_wp2_with fail
      have kz := three_put HS.out.rb (.int .i64 x.topic) (.int .i64 x.score) (.int .i64 x.place)
      have bz := below_three (b := w.heap.size) HS.out.below (Nat.le_refl _) (.int .i64 x.topic) (.int .i64 x.score) (.int .i64 x.place)
      generalize (((wr.setCell ⟨w.heap.size, 0, none⟩ (.int .i64 x.topic)).setCell ⟨w.heap.size, 1, none⟩ (.int .i64 x.score)).setCell ⟨w.heap.size, 2, none⟩ (.int .i64 x.place)) = Z at kz bz ⊢
      have z0 : Z.cell? ⟨w.heap.size, 0, none⟩ = some (.int .i64 x.topic) := by rw [Lib.cell_of_heap kz]; rfl
      have z1 : Z.cell? ⟨w.heap.size, 1, none⟩ = some (.int .i64 x.score) := by rw [Lib.cell_of_heap kz]; rfl
      have z2 : Z.cell? ⟨w.heap.size, 2, none⟩ = some (.int .i64 x.place) := by rw [Lib.cell_of_heap kz]; rfl
      refine bodyPost_ret (v := .tuple #[.agg #[.int .i64 x.topic, .int .i64 x.score, .int .i64 x.place], .bool true]) (by simp [results, Tryz.results23, go_sem, z0, z1, z2, hz4, List.range_succ]) rfl ?_
      unfold FoundPost
      have hl := HS.out.left
      rw [show j = cs.length by omega, List.drop_length] at hl
      rw [← hl, foundF]
      exact ⟨rfl, bz⟩
end Go.Proofs.YthpbdeiphagkiaaGreatDoor
