/- The document's small functions: folioref02.in, Small, Base, Control, folioref23.counts. -/
import Derived.Test.YthpbdeiphagkiaaGreatDoorSmall
import Derived.Test.YthpbdeiphagkiaaGreatDoorFold
import Derived.Test.YthpbdeiphagkiaaGreatDoorFinder
import Derived.Test.YthpbdeiphagkiaaGreatDoorScoresW
import Derived.Deep.AppendLies
import Derived.Laws.OwnMore
import Derived.Test.YthpbdeiphagkiaaGreatDoorParseW
namespace Go.Proofs.YthpbdeiphagkiaaGreatDoor
open Go.RowKit Find

def inB (r a b : Int) : Bool := decide (a ≤ r) && decide (r ≤ b)
set_option maxHeartbeats 400000 in
theorem in_any (r a b : Int) (w : World) : Calls Tryz.prog 93 #[.int .i32 r, .int .i32 a, .int .i32 b] w fun e w' => e = .returned (.bool (inB r a b)) ∧ w = w' := by
  by_cases h1 : a ≤ r
  · by_cases h2 : r ≤ b
    · have e1 : decide (a ≤ r) = true := decide_eq_true h1
      have e2 : decide (r ≤ b) = true := decide_eq_true h2
      have HB := Lib.hid (show inB r a b = true by unfold inB; rw [e1, e2]; rfl)
      clear e1 e2
      go_enter Tryz.func93, Tryz.ntmps93
      go_wp2
      go_ret
      exact ⟨ret_bool (by rw [HB.out]), rfl⟩
    · have HB := Lib.hid (show inB r a b = false by unfold inB; rw [decide_eq_false h2, Bool.and_false])
      go_enter Tryz.func93, Tryz.ntmps93
      go_wp2
      go_ret
      exact ⟨ret_bool (by rw [HB.out]), rfl⟩
  · have HB := Lib.hid (show inB r a b = false by unfold inB; rw [decide_eq_false h1, Bool.false_and])
    go_enter Tryz.func93, Tryz.ntmps93
    go_wp2
    go_ret
    exact ⟨ret_bool (by rw [HB.out]), rfl⟩

set_option maxHeartbeats 1600000 in
theorem rsmall_any (r : Int) (w : World) (h0 : -2147483648 ≤ r) (h1 : r ≤ 2147483647) :
    Calls Tryz.prog 92 #[.int .i32 r] w fun e w' => e = .returned (.int .i32 (small r)) ∧ w = w' := by
  have hin : ∀ a b : Int, inB r a b = true ↔ a ≤ r ∧ r ≤ b := fun a b => by unfold inB; simp
  have hnin : ∀ a b : Int, inB r a b = false ↔ ¬ (a ≤ r ∧ r ≤ b) := fun a b => by rw [← hin, Bool.not_eq_true]
  have HIN := Lib.hid hin
  have HNI := Lib.hid hnin
  clear hin hnin
  go_enter Tryz.func92, Tryz.ntmps92
  go_wp2_with (go_at_call 93; refine (in_any _ _ _ _).mono ?_; rintro e w' ⟨rfl, rfl⟩)
  all_goals
    go_ret
    refine ⟨ret_int ?_, rfl⟩
    unfold small
    try simp only [HIN.out, HNI.out, Bool.not_eq_true, bne_iff_ne, ne_eq, bne_eq_false_iff_eq] at *
    (repeat' split) <;> first | omega | (unfold wrap32; omega)

def rctl (r : Int) : Bool := (decide (0 ≤ r) && decide (r < 32)) || (decide (127 ≤ r) && decide (r ≤ 159))
set_option maxHeartbeats 400000 in
theorem rcontrol_any (r : Int) (w : World) (h0 : 0 ≤ r) (h1 : r ≤ 2147483647) :
    Calls Tryz.prog 36 #[.int .i32 r] w fun e w' => e = .returned (.bool (rctl r)) ∧ w = w' := by
  go_enter Tryz.func36, Tryz.ntmps36
  go_wp2
  all_goals
    go_ret
    refine ⟨ret_bool ?_, rfl⟩
    unfold rctl
    rw [Bool.eq_iff_iff]
    simp
    try omega
set_option maxHeartbeats 400000 in
theorem rcounts_any (r : Int) (w : World) (h0 : -2147483648 ≤ r) (h1 : r ≤ 2147483647) :
    Calls Tryz.prog 64 #[.int .i32 r] w fun e w' => e = .returned (.bool (countsR r)) ∧ w = w' := by
  go_enter Tryz.func64, Tryz.ntmps64
  go_wp2
  all_goals
    go_ret
    refine ⟨ret_bool ?_, rfl⟩
    unfold countsR
    rw [Bool.eq_iff_iff]
    simp
    try omega
set_option maxHeartbeats 1600000 in
theorem rbase_any (r : Int) (w : World) (h0 : -2147483648 ≤ r) (h1 : r ≤ 2147483647) :
    Calls Tryz.prog 65 #[.int .i32 r] w fun e w' => e = .returned (.string ⟨(base r).toArray⟩) ∧ w = w' := by
  have hs : -2147483648 ≤ small r ∧ small r ≤ 2147483647 := by
    unfold small; (repeat' split) <;> omega
  obtain ⟨hs0, hs1⟩ := hs
  unfold base
  generalize hx : small r = x at *
  have HX := Lib.hid hx
  have HIN := Lib.hid (show ∀ a b : Int, inB x a b = true ↔ a ≤ x ∧ x ≤ b from fun a b => by unfold inB; simp)
  have HNI := Lib.hid (show ∀ a b : Int, inB x a b = false ↔ ¬ (a ≤ x ∧ x ≤ b) from fun a b => by unfold inB; simp)
  clear hx
  go_enter Tryz.func65, Tryz.ntmps65
  go_wp2_with (first
    | (go_at_call 92; refine (rsmall_any _ _ h0 h1).mono ?_; rw [HX.out]; rintro e w' ⟨rfl, rfl⟩)
    | (go_at_call 93; refine (in_any _ _ _ _).mono ?_; rintro e w' ⟨rfl, rfl⟩))
  all_goals
    go_ret
    refine ⟨?_, rfl⟩
    first | (rw [encode_eq]; refine ret_str ?_) | refine ret_str ?_
    try simp only [HIN.out, HNI.out, bne_iff_ne, ne_eq, bne_eq_false_iff_eq, beq_iff_eq, beq_eq_false_iff_ne] at *
    unfold baseS
    repeat (first | rw [if_pos (by omega)] | rw [if_neg (by omega)])
    first | done | rfl
end Go.Proofs.YthpbdeiphagkiaaGreatDoor
/- folioref02.Chars: the characters of a text, each with its place, its bytes' number, whether it is bad. -/
namespace Go.Proofs.YthpbdeiphagkiaaGreatDoor
open Go.RowKit Find

/-- A row of Chars: character, place, number of bytes, bad. -/
abbrev Q := Int × Int × Int × Bool
def qCells (l : List Q) : List Value := l.flatMap fun q => [.int .i32 q.1, .int .i64 q.2.1, .int .i64 q.2.2.1, .bool q.2.2.2]
theorem qCells_append (a b : List Q) : qCells (a ++ b) = qCells a ++ qCells b := by simp [qCells]
theorem qCells_length (l : List Q) : (qCells l).length = l.length * 4 := by
  unfold qCells
  induction l with
  | nil => rfl
  | cons s l ih => simp only [List.flatMap_cons, List.length_append, List.length_cons, List.length_nil, ih]; omega
theorem qCells_get (l : List Q) : ∀ (k : Nat) (h : k < l.length), (qCells l)[k * 4]? = some (.int .i32 l[k].1) ∧ (qCells l)[k * 4 + 1]? = some (.int .i64 l[k].2.1) ∧ (qCells l)[k * 4 + 2]? = some (.int .i64 l[k].2.2.1) ∧ (qCells l)[k * 4 + 3]? = some (.bool l[k].2.2.2) := by
  induction l with
  | nil => intro k h; simp at h
  | cons p l ih =>
    intro k h
    have hc : qCells (p :: l) = [.int .i32 p.1, .int .i64 p.2.1, .int .i64 p.2.2.1, .bool p.2.2.2] ++ qCells l := rfl
    rw [hc]
    cases k with
    | zero => exact ⟨rfl, rfl, rfl, rfl⟩
    | succ k =>
      obtain ⟨h0, h1, h2, h3⟩ := ih k (by simpa using h)
      have key : ∀ j, ([Value.int .i32 p.1, Value.int .i64 p.2.1, Value.int .i64 p.2.2.1, Value.bool p.2.2.2] ++ qCells l)[(k + 1) * 4 + j]? = (qCells l)[k * 4 + j]? := fun j => by
        rw [show (k + 1) * 4 + j = 4 + (k * 4 + j) by omega, List.getElem?_append_right (by simp only [List.length_cons, List.length_nil]; omega)]
        congr 1
        simp only [List.length_cons, List.length_nil]; omega
      exact ⟨(key 0).trans h0, (key 1).trans h1, (key 2).trans h2, (key 3).trans h3⟩
theorem qCells_set (l : List Q) : ∀ (k : Nat) (h : k < l.length) (q : Q), ((qCells l).set (k * 4 + 2) (.int .i64 q.2.2.1)).set (k * 4 + 3) (.bool q.2.2.2) = qCells (l.set k (l[k].1, l[k].2.1, q.2.2.1, q.2.2.2)) := by
  induction l with
  | nil => intro k h; simp at h
  | cons p l ih =>
    intro k h q
    have hc : ∀ (p : Q) (l : List Q), qCells (p :: l) = .int .i32 p.1 :: .int .i64 p.2.1 :: .int .i64 p.2.2.1 :: .bool p.2.2.2 :: qCells l := fun _ _ => rfl
    cases k with
    | zero => rw [hc]; rfl
    | succ k =>
      have := ih k (by simpa using h) q
      rw [List.set_cons_succ, hc, hc, show (k + 1) * 4 + 2 = (k * 4 + 2) + 1 + 1 + 1 + 1 by omega, show (k + 1) * 4 + 3 = (k * 4 + 3) + 1 + 1 + 1 + 1 by omega]
      simp only [List.set_cons_succ, List.getElem_cons_succ]
      rw [this]
/-- As the first loop leaves them; as they are told. -/
def preQ (a : Nat) : List Ch → List Q
  | [] => []
  | c :: l => ((c.1 : Int), (a : Int), 0, false) :: preQ (a + c.2.length) l
def fullQ (a : Nat) : List Ch → List Q
  | [] => []
  | c :: l => ((c.1 : Int), (a : Int), (c.2.length : Int), badCh c) :: fullQ (a + c.2.length) l
theorem preQ_len : ∀ (l : List Ch) (a : Nat), (preQ a l).length = l.length
  | [], _ => rfl
  | c :: l, a => by simp [preQ, preQ_len l]
theorem fullQ_len : ∀ (l : List Ch) (a : Nat), (fullQ a l).length = l.length
  | [], _ => rfl
  | c :: l, a => by simp [fullQ, fullQ_len l]
/-- Where a character stands. -/
def atOf (a : Nat) (l : List Ch) (k : Nat) : Nat := a + ((l.take k).flatMap (·.2)).length
theorem preQ_get : ∀ (l : List Ch) (a k : Nat) (h : k < l.length), (preQ a l)[k]'(by rw [preQ_len]; exact h) = ((l[k].1 : Int), (atOf a l k : Int), 0, false)
  | c :: l, a, 0, _ => by simp [preQ, atOf]
  | c :: l, a, k + 1, h => by
    simp only [preQ, List.getElem_cons_succ]
    rw [preQ_get l (a + c.2.length) k (by simpa using h)]
    simp only [atOf, List.take_succ_cons, List.flatMap_cons, List.length_append, Nat.add_assoc]
theorem fullQ_get : ∀ (l : List Ch) (a k : Nat) (h : k < l.length), (fullQ a l)[k]'(by rw [fullQ_len]; exact h) = ((l[k].1 : Int), (atOf a l k : Int), (l[k].2.length : Int), badCh l[k])
  | c :: l, a, 0, _ => by simp [fullQ, atOf]
  | c :: l, a, k + 1, h => by
    simp only [fullQ, List.getElem_cons_succ]
    rw [fullQ_get l (a + c.2.length) k (by simpa using h)]
    simp only [atOf, List.take_succ_cons, List.flatMap_cons, List.length_append, Nat.add_assoc]
theorem atOf_succ (a : Nat) (l : List Ch) (k : Nat) (h : k < l.length) : atOf a l (k + 1) = atOf a l k + l[k].2.length := by
  unfold atOf
  rw [List.take_succ_eq_append_getElem h, List.flatMap_append, List.length_append]
  simp; omega
theorem atOf_end (a : Nat) (l : List Ch) : atOf a l l.length = a + (l.flatMap (·.2)).length := by unfold atOf; rw [List.take_length]
/-- Half told: the first k as they are told. -/
def midQ (l : List Ch) (k : Nat) : List Q := (fullQ 0 l).take k ++ (preQ 0 l).drop k
theorem midQ_len (l : List Ch) (k : Nat) (h : k ≤ l.length) : (midQ l k).length = l.length := by
  unfold midQ
  rw [List.length_append, List.length_take, List.length_drop, preQ_len, fullQ_len]; omega
theorem midQ_at (l : List Ch) (k j : Nat) (hk : k ≤ j) (h : j < l.length) : (midQ l k)[j]'(by rw [midQ_len _ _ (by omega)]; exact h) = ((l[j].1 : Int), (atOf 0 l j : Int), 0, false) := by
  unfold midQ
  have hl : ((fullQ 0 l).take k).length = k := by rw [List.length_take, fullQ_len]; omega
  rw [List.getElem_append_right (by omega)]
  simp only [List.getElem_drop, hl]
  rw [← preQ_get l 0 j h]
  congr 1; omega
theorem midQ_succ (l : List Ch) (k : Nat) (h : k < l.length) : (midQ l k).set k ((l[k].1 : Int), (atOf 0 l k : Int), (l[k].2.length : Int), badCh l[k]) = midQ l (k + 1) := by
  unfold midQ
  have hl : ((fullQ 0 l).take k).length = k := by rw [List.length_take, fullQ_len]; omega
  rw [List.set_append_right _ _ (by omega), hl, Nat.sub_self, List.drop_eq_getElem_cons (by rw [preQ_len]; exact h), List.set_cons_zero, List.take_succ_eq_append_getElem (by rw [fullQ_len]; exact h), fullQ_get l 0 k h, List.append_assoc]
  rfl
theorem midQ_end (l : List Ch) : midQ l l.length = fullQ 0 l := by
  unfold midQ
  rw [List.take_of_length_le (by rw [fullQ_len]; exact Nat.le_refl _), List.drop_eq_nil_of_le (by rw [preQ_len]; exact Nat.le_refl _), List.append_nil]
end Go.Proofs.YthpbdeiphagkiaaGreatDoor
/- folioref02.Chars: the walk. -/
namespace Go.Proofs.YthpbdeiphagkiaaGreatDoor
open Go.RowKit Find

theorem info_char : (Tryz.prog.info? 106).map (fun i => (i.zero, i.size, i.bytes)) = some (some (.agg #[.int .i32 0, .int .i64 0, .int .i64 0, .bool false]), 4, 32) := by kernel_rfl
/-- A slice that reads as Chars. -/
def QRow (w : World) (v : Value) (l : List Q) : Prop := w.ownsRow 0 106 4 v l.length (qCells l)
theorem QRow.new {w w' : World} {v : Value} {l : List Q} (h : QRow w v l) (hb : Below w.heap.size w w') : QRow w' v l := owns_new h hb
theorem QRow.at_ {w : World} {a : Option Addr} {c : Nat} {l : List Q} (h : QRow w (.slice a l.length c) l) {k : Nat} (hk : k < l.length) : ∃ g, a = some ⟨g, 0, none⟩ ∧ w.cell? ⟨g, k * 4, none⟩ = some (.int .i32 l[k].1) ∧ w.cell? ⟨g, k * 4 + 1, none⟩ = some (.int .i64 l[k].2.1) ∧ w.cell? ⟨g, k * 4 + 2, none⟩ = some (.int .i64 l[k].2.2.1) ∧ w.cell? ⟨g, k * 4 + 3, none⟩ = some (.bool l[k].2.2.2) := by
  obtain ⟨g, cap, he, _⟩ := h.form (by omega)
  simp only [Value.slice.injEq] at he
  obtain ⟨rfl, _, rfl⟩ := he
  have key : ∀ j u, (qCells l)[j]? = some u → w.cell? ⟨g, j, none⟩ = some u := fun j u hj => by
    have := h.cells (g := g) rfl j u hj
    rwa [add_none, Nat.zero_add] at this
  obtain ⟨h0, h1, h2, h3⟩ := qCells_get l k hk
  exact ⟨g, rfl, key _ _ h0, key _ _ h1, key _ _ h2, key _ _ h3⟩
theorem mid_step {W : World} {B g c : Nat} {l : List Ch} {k : Nat} (h : W.ownsRow B 106 4 (.slice (some ⟨g, 0, none⟩) l.length c) l.length (qCells (midQ l k))) (hk : k < l.length) {n : Int} {b : Bool} (hn : n = (l[k].2.length : Int)) (hb : b = badCh l[k]) :
    ((W.setCell ⟨g, k * 4 + 2, none⟩ (.int .i64 n)).setCell ⟨g, k * 4 + 3, none⟩ (.bool b)).ownsRow B 106 4 (.slice (some ⟨g, 0, none⟩) l.length c) l.length (qCells (midQ l (k + 1))) := by
  have h1 := ((h.stored (k * 4 + 2) (.int .i64 n)).1.stored (k * 4 + 3) (.bool b)).1
  have hm := midQ_at l k k (Nat.le_refl _) hk
  have := qCells_set (midQ l k) k (by rw [midQ_len _ _ (by omega)]; exact hk) ((l[k].1 : Int), (atOf 0 l k : Int), n, b)
  simp only [hm] at this
  rw [this, hn, hb, midQ_succ l k hk] at h1
  rw [hn, hb]; exact h1
theorem mid_cells {W : World} {B g c : Nat} {l : List Ch} {k : Nat} (h : W.ownsRow B 106 4 (.slice (some ⟨g, 0, none⟩) l.length c) l.length (qCells (midQ l k))) (j : Nat) (hkj : k ≤ j) (hj : j < l.length) :
    W.cell? ⟨g, j * 4, none⟩ = some (.int .i32 l[j].1) ∧ W.cell? ⟨g, j * 4 + 1, none⟩ = some (.int .i64 (atOf 0 l j)) := by
  obtain ⟨h0, h1, _, _⟩ := qCells_get (midQ l k) j (by rw [midQ_len _ _ (by omega)]; exact hj)
  rw [midQ_at l k j hkj hj] at h0 h1
  exact ⟨(h.cellAt _ (by omega)).trans h0, (h.cellAt _ (by omega)).trans h1⟩
def CharsPost (s : ByteArray) (w : World) (e : Ending) (w' : World) : Prop := ∃ a c, e = .returned (.slice a (chars s.data.toList).length c) ∧ QRow w' (.slice a (fullQ 0 (chars s.data.toList)).length c) (fullQ 0 (chars s.data.toList)) ∧ Below w.heap.size w w'
set_option maxHeartbeats 8000000 in
set_option maxRecDepth 100000 in
theorem chars_any (s : ByteArray) (w : World) (hs : s.size ≤ 1048576) :
    Calls Tryz.prog 35 #[.string s] w (CharsPost s w) := by
  have hz4 : Tryz.prog.cellsOf 106 = 4 := by kernel_rfl
  obtain ⟨i0, hi0, hz0, hz1, hz2⟩ := info_parts info_char
  have hcl := (charsF_len s.data.toList.length s.data.toList).1
  go_enter Tryz.func35, Tryz.ntmps35
  go_wp2
  go_loopw [3] (fun v wr => ∃ (pos : Nat) (out : List Q) (av : Option Addr) (cv : Nat), pos ≤ s.size ∧ v = .slice av out.length cv ∧ Hid (wr.heap[w.heap.size]? = some (.stringIter s pos)) ∧ Hid (preQ 0 (chars s.data.toList) = out ++ preQ pos (chars (s.data.toList.drop pos))) ∧ out.length ≤ pos ∧ Hid (wr.ownsRow w.heap.size 106 4 (.slice av out.length cv) out.length (qCells out)) ∧ Hid (Below w.heap.size w wr)) (fun _ wr => s.size - wr.iterPos w.heap.size)
  case atStart => exact ⟨0, [], none, 0, Nat.zero_le _, rfl, Lib.hid (World.iter_heap w s 0), Lib.hid (by rw [List.drop_zero]; rfl), by simp, Lib.hid (World.ownsRow_nil _ _ _ _), Lib.hid ((Below.refl _ _).alloc (Nat.le_refl _) _)⟩
  case round =>
    obtain ⟨pos, out, av, cv, hpos, rfl, hit, hpl, hol, hown, hb⟩ := hrel
    obtain ⟨W, hW⟩ : ∃ W, W = wr := ⟨wr, rfl⟩
    subst hW
    have hbz := hb.out.size
    by_cases hp : pos < s.size
    · have hnx : ∀ ty, (Instr.next (.pointer (some ⟨w.heap.size, 0, none⟩)) true ty).run Tryz.prog W = _ := fun ty => Lib.run_next_any_at W w.heap.size s pos ty hit.out hp
      rw [decode_eq] at hnx
      obtain ⟨hr1, hr2⟩ := decL_hi (s.data.toList.drop pos)
      have hn := decL_len (s.data.toList.drop pos) (by intro e; have := congrArg List.length e; rw [List.length_drop, ← size_list] at this; simp at this; omega)
      rw [List.length_drop, ← size_list] at hn
      have hch := chars_at s pos hp
      have hIT := Lib.iterAt_heap W w.heap.size s pos (pos + (decL (s.data.toList.drop pos)).2) hit.out
      have hBI := Lib.below_iterAt hb.out (Nat.le_refl _) s (pos + (decL (s.data.toList.drop pos)).2)
      have hL : ((s.data.toList.drop pos).take (decL (s.data.toList.drop pos)).2).length = (decL (s.data.toList.drop pos)).2 := by rw [List.length_take, List.length_drop, ← size_list]; omega
      have hOI : (W.iterAt w.heap.size s (pos + (decL (s.data.toList.drop pos)).2)).ownsRow w.heap.size 106 4 (.slice av out.length cv) out.length (qCells out) := owns_keep hown.out fun g hg => Lib.iterAt_other _ _ _ _ _ (fun e => by
        obtain ⟨c, hc⟩ := owns_kind hown.out g hg
        subst e; rw [hit.out] at hc; cases hc)
      have hstep : preQ 0 (chars s.data.toList) = (out ++ [(((decL (s.data.toList.drop pos)).1 : Int), (pos : Int), 0, false)]) ++ preQ (pos + (decL (s.data.toList.drop pos)).2) (chars (s.data.toList.drop (pos + (decL (s.data.toList.drop pos)).2))) := by
        rw [hpl.out, hch]
        simp only [preQ, hL, List.append_assoc, List.singleton_append]
      generalize hr : (decL (s.data.toList.drop pos)).1 = r at *
      generalize hnn : (decL (s.data.toList.drop pos)).2 = n at *
      clear hr hnn hch hL
      have HI2 := Lib.hid hIT
      have HB2 := Lib.hid hBI
      have HOI := Lib.hid hOI
      have HST := Lib.hid hstep
      clear hIT hBI hOI hstep
      have hsz : (W.iterAt w.heap.size s (pos + n)).heap.size = W.heap.size := Lib.iterAt_size ..
      go_wp2_with (at_builtin; refine wpList_append_lies _ rfl _ _ 103 rfl w.heap.size 106 i0 _ 4 32 Tryz.underlying103 hi0 hz0 hz1 hz2 rfl (by omega) (.slice av out.length cv) out.length (qCells out) rfl (HOI.out.alloc _) ⟨W.heap.size, 0, none⟩ 1 1 [.int .i32 r, .int .i64 pos, .int .i64 0, .bool false] rfl rfl (World.news_of_block (cs := #[.int .i32 r, .int .i64 pos, .int .i64 0, .bool false]) (t := 106) (fr := (0, 0)) (by have := heap_alloc_new (W.iterAt w.heap.size s (pos + n)) (.cells #[.int .i32 r, .int .i64 pos, .int .i64 0, .bool false] 106); rwa [hsz] at this)) (by simp [Value.oneCell']) (by omega) (by unfold maxLen; omega) (by omega) (by simp; omega) _ rfl ?_; intro gg cap w4 hown4 hgrow hat hlt4; have HG := Lib.hid hgrow; have HO4 := Lib.hid hown4; clear hgrow hown4 hat hlt4)
      have HK4 := Lib.hid (show w4.heap[w.heap.size]? = some (.stringIter s (pos + n)) from by
        rw [HG.out.block _ (by have := lt_of_heap HI2.out; simp; omega) (fun e => by
          obtain ⟨c, hc⟩ := owns_kind HOI.out _ e.symm
          rw [HI2.out] at hc; cases hc), Below.heap_alloc _ _ _ (lt_of_heap HI2.out)]
        exact HI2.out)
      go_roundw
      case rel =>
        refine ⟨pos + n, out ++ [((r : Int), (pos : Int), 0, false)], some ⟨gg, 0, none⟩, cap, by omega, by rw [List.length_append]; rfl, HK4, HST, by rw [List.length_append]; simp; omega, Lib.hid ?_, Lib.hid ?_⟩
        · rw [List.length_append, qCells_append]; exact HO4.out
        · exact (HB2.out.alloc (by rw [hsz]; omega) _).grown HG.out (by simp; omega) (fun j hj => (hown.out.lt j hj).1)
      case measure => simp only [World.iterPos, HK4.out, hit.out]; omega
    · have hnx : ∀ ty, (Instr.next (.pointer (some ⟨w.heap.size, 0, none⟩)) true ty).run Tryz.prog W = _ := fun ty => Lib.run_next_end_at W w.heap.size s pos ty hit.out hp
      have hend : chars (s.data.toList.drop pos) = [] := by rw [List.drop_eq_nil_of_le (by rw [← size_list]; omega)]; rfl
      have hout : out = preQ 0 (chars s.data.toList) := by rw [hpl.out, hend]; simp [preQ]
      have hfl : ((chars s.data.toList).flatMap (·.2)).length = s.size := by rw [chars_flat _ _ (Nat.le_refl _), size_list]
      have hcl2 : (chars s.data.toList).length ≤ s.size := by rw [size_list]; exact hcl
      generalize hcl0 : chars s.data.toList = l at *
      have HCL := Lib.hid hcl0
      clear hcl0
      subst hout
      have HPL := Lib.hid (preQ_len l 0)
      have HOW := Lib.hid (show W.ownsRow w.heap.size 106 4 (.slice av l.length cv) l.length (qCells (midQ l 0)) from by
        have := hown.out
        rw [HPL.out] at this
        unfold midQ; simpa using this)
      have HFL := Lib.hid hfl
      have hin : av = none → l.length = 0 := fun e => by
        subst e
        rcases HOW.out.2 with ⟨h, h0⟩ | ⟨g, cap, cur, h, _⟩
        · exact h0
        · simp at h
      have HIN := Lib.hid hin
      rw [HPL.out] at *
      clear hend hpl hown hfl hol hcl hin hit hp hpos
      have HB0 := Lib.hid hb.out
      clear hb
      go_wp2_with fail
      go_loopw [6] (fun q wr => ∃ k : Nat, k ≤ l.length ∧ q = .int .i64 k ∧ Hid (wr.ownsRow w.heap.size 106 4 (.slice av l.length cv) l.length (qCells (midQ l k))) ∧ Hid (Below w.heap.size w wr)) (fun q _ => l.length - (intOf q).toNat)
      case atStart => exact ⟨0, Nat.zero_le _, rfl, HOW, HB0⟩
      case round =>
        obtain ⟨k, hk, rfl, hown, hb⟩ := hrel
        obtain ⟨W2, hW2⟩ : ∃ W, W = wr := ⟨wr, rfl⟩
        subst hW2
        by_cases hlt : k < l.length
        · obtain ⟨g, hg⟩ : ∃ g, av = some ⟨g, 0, none⟩ := by
            obtain ⟨g, cap, he, _⟩ := hown.out.form (by omega)
            simp only [Value.slice.injEq] at he
            exact ⟨g, he.1⟩
          subst hg
          have hgB := (hown.out.lt g rfl).1
          obtain ⟨m0, m1⟩ := mid_cells hown.out k (Nat.le_refl _) hlt
          have f2 := hown.out.frozenAt (k * 4 + 2)
          have f3 := hown.out.frozenAt (k * 4 + 3)
          have hl4 : (k * 4 + 2) < (qCells (midQ l k)).length := by rw [qCells_length, midQ_len _ _ (by omega)]; omega
          obtain ⟨m2, hm2⟩ : ∃ u, W2.cell? ⟨g, k * 4 + 2, none⟩ = some u := ⟨_, (hown.out.cellAt _ (by omega)).trans (List.getElem?_eq_getElem hl4)⟩
          have hl5 : (k * 4 + 3) < (qCells (midQ l k)).length := by rw [qCells_length, midQ_len _ _ (by omega)]; omega
          obtain ⟨m3, hm3⟩ : ∃ u, W2.cell? ⟨g, k * 4 + 3, none⟩ = some u := ⟨_, (hown.out.cellAt _ (by omega)).trans (List.getElem?_eq_getElem hl5)⟩
          have hat := atOf_succ 0 l k hlt
          have hle : atOf 0 l (k + 1) ≤ s.size := by
            have h1 := HFL.out
            have h2 : l.flatMap (·.2) = (l.take (k + 1)).flatMap (·.2) ++ (l.drop (k + 1)).flatMap (·.2) := by rw [← List.flatMap_append, List.take_append_drop]
            rw [h2, List.length_append] at h1
            unfold atOf; omega
          have hend : k + 1 = l.length → atOf 0 l (k + 1) = s.size := fun e => by rw [e, atOf_end, HFL.out]; omega
          have HSTEP := Lib.hid (show ∀ (n : Int) (b : Bool), n = (l[k].2.length : Int) → b = badCh l[k] → _ from fun n b hn hb => mid_step hown.out hlt hn hb)
          have HBD := Lib.hid (show badCh l[k] = (decide ((l[k].1 : Int) = 65533) && decide (l[k].2.length = 1)) from by unfold badCh; rw [Bool.eq_iff_iff]; simp; omega)
          have hx := mid_cells hown.out (k + 1) (by omega)
          generalize hA : atOf 0 l k = A at *
          generalize hE : atOf 0 l (k + 1) = E at *
          generalize hr : l[k].1 = r at *
          generalize hN : l[k].2.length = N at *
          have HBS := Lib.hid (show ∀ (u v : Value), Below w.heap.size w ((W2.setCell ⟨g, k * 4 + 2, none⟩ u).setCell ⟨g, k * 4 + 3, none⟩ v) from fun u v => (hb.out.setCell (p := ⟨g, k * 4 + 2, none⟩) hgB u).setCell (p := ⟨g, k * 4 + 3, none⟩) hgB v)
          have HEA := Lib.hid (show (E : Int) - (A : Int) = (N : Int) from by omega)
          clear hA hr hN hl4 hl5
          by_cases hlast : k + 1 < l.length
          · obtain ⟨_, y1⟩ := hx hlast
            have hlI : ((k : Int) + 1) < (l.length : Int) := by omega
            have HEQ := Lib.hid hat
            have hAE : (A : Int) ≤ (E : Int) := by omega
            clear hE hend hx hat
            by_cases hrr : r = 65533
            · have t1 : ((r : Int) == 65533) = true := by simp; omega
              by_cases hN1 : N = 1
              · have t2 : ((E : Int) - (A : Int) == 1) = true := by rw [beq_iff_eq, HEA.out]; omega
                have HB := Lib.hid (show (true : Bool) = badCh l[k] from by rw [HBD.out]; simp; omega)
                clear hrr hN1
                go_wp2_with fail
                go_roundw
                case rel => exact ⟨k + 1, by omega, by go_num, Lib.hid (HSTEP.out _ _ (by have := HEA.out; omega) HB.out), Lib.hid (HBS.out _ _)⟩
                case measure => simp [intOf] <;> omega
              · have t2 : ((E : Int) - (A : Int) == 1) = false := by rw [beq_eq_false_iff_ne, HEA.out]; omega
                have HB := Lib.hid (show (false : Bool) = badCh l[k] from by rw [HBD.out]; simp; omega)
                clear hrr hN1
                go_wp2_with fail
                go_roundw
                case rel => exact ⟨k + 1, by omega, by go_num, Lib.hid (HSTEP.out _ _ (by have := HEA.out; omega) HB.out), Lib.hid (HBS.out _ _)⟩
                case measure => simp [intOf] <;> omega
            · have t1 : ((r : Int) == 65533) = false := by rw [beq_eq_false_iff_ne]; omega
              have HB := Lib.hid (show (false : Bool) = badCh l[k] from by rw [HBD.out]; simp; omega)
              clear hrr
              go_wp2_with fail
              go_roundw
              case rel => exact ⟨k + 1, by omega, by go_num, Lib.hid (HSTEP.out _ _ (by have := HEA.out; omega) HB.out), Lib.hid (HBS.out _ _)⟩
              case measure => simp [intOf] <;> omega
          · have hlI : ¬ ((k : Int) + 1) < (l.length : Int) := by omega
            have hEs := hend (by omega)
            subst hEs
            have HEQ := Lib.hid hat
            have hAE : (A : Int) ≤ (s.size : Int) := by omega
            clear hE hend hx hat
            by_cases hrr : r = 65533
            · have t1 : ((r : Int) == 65533) = true := by simp; omega
              by_cases hN1 : N = 1
              · have t2 : ((s.size : Int) - (A : Int) == 1) = true := by rw [beq_iff_eq, HEA.out]; omega
                have HB := Lib.hid (show (true : Bool) = badCh l[k] from by rw [HBD.out]; simp; omega)
                clear hrr hN1
                go_wp2_with fail
                go_roundw
                case rel => exact ⟨k + 1, by omega, by go_num, Lib.hid (HSTEP.out _ _ (by have := HEA.out; omega) HB.out), Lib.hid (HBS.out _ _)⟩
                case measure => simp [intOf] <;> omega
              · have t2 : ((s.size : Int) - (A : Int) == 1) = false := by rw [beq_eq_false_iff_ne, HEA.out]; omega
                have HB := Lib.hid (show (false : Bool) = badCh l[k] from by rw [HBD.out]; simp; omega)
                clear hrr hN1
                go_wp2_with fail
                go_roundw
                case rel => exact ⟨k + 1, by omega, by go_num, Lib.hid (HSTEP.out _ _ (by have := HEA.out; omega) HB.out), Lib.hid (HBS.out _ _)⟩
                case measure => simp [intOf] <;> omega
            · have t1 : ((r : Int) == 65533) = false := by rw [beq_eq_false_iff_ne]; omega
              have HB := Lib.hid (show (false : Bool) = badCh l[k] from by rw [HBD.out]; simp; omega)
              clear hrr
              go_wp2_with fail
              go_roundw
              case rel => exact ⟨k + 1, by omega, by go_num, Lib.hid (HSTEP.out _ _ (by have := HEA.out; omega) HB.out), Lib.hid (HBS.out _ _)⟩
              case measure => simp [intOf] <;> omega
        · have HE := Lib.hid (show midQ l k = fullQ 0 l from by rw [show k = l.length by omega, midQ_end])
          have HFQ := Lib.hid (fullQ_len l 0)
          go_wp2_with fail
          go_ret
          refine ⟨av, cv, congrArg (fun n => Ending.returned (.slice av n cv)) (show l.length = (chars s.data.toList).length by rw [HCL.out]), ?_, hb.out⟩
          have := hown.out
          rw [HCL.out]
          unfold QRow
          rw [HE.out] at this
          rw [HFQ.out]
          exact owns_zero this
end Go.Proofs.YthpbdeiphagkiaaGreatDoor
/- folioref02.Plain, folioref02.Fold: the walks. -/
namespace Go.Proofs.YthpbdeiphagkiaaGreatDoor
open Go.RowKit Find

/-- What Chars tells, cell by cell. -/
def CRow (w : World) (a : Option Addr) (l : List Ch) : Prop := ∀ (k : Nat) (h : k < l.length), ∃ g, a = some ⟨g, 0, none⟩ ∧ w.cell? ⟨g, k * 4, none⟩ = some (.int .i32 l[k].1) ∧ w.cell? ⟨g, k * 4 + 1, none⟩ = some (.int .i64 (atOf 0 l k)) ∧ w.cell? ⟨g, k * 4 + 2, none⟩ = some (.int .i64 l[k].2.length) ∧ w.cell? ⟨g, k * 4 + 3, none⟩ = some (.bool (badCh l[k]))
theorem CRow.new {w w' : World} {a : Option Addr} {l : List Ch} (h : CRow w a l) (hb : Below w.heap.size w w') : CRow w' a l := fun k hk => by
  obtain ⟨g, hg, h0, h1, h2, h3⟩ := h k hk
  have lt := World.block_lt_of_cell? w _ h0
  exact ⟨g, hg, (hb.cell (p := ⟨g, k * 4, none⟩) lt).trans h0, (hb.cell (p := ⟨g, k * 4 + 1, none⟩) lt).trans h1, (hb.cell (p := ⟨g, k * 4 + 2, none⟩) lt).trans h2, (hb.cell (p := ⟨g, k * 4 + 3, none⟩) lt).trans h3⟩
theorem chars_row (s : ByteArray) (w : World) (hs : s.size ≤ 1048576) :
    Calls Tryz.prog 35 #[.string s] w fun e w' => ∃ a c, e = .returned (.slice a (chars s.data.toList).length c) ∧ CRow w' a (chars s.data.toList) ∧ Below w.heap.size w w' := by
  refine (chars_any s w hs).mono ?_
  rintro e w' ⟨a, c, rfl, hr, hb⟩
  refine ⟨a, c, rfl, fun k hk => ?_, hb⟩
  obtain ⟨g, hg, h0, h1, h2, h3⟩ := hr.at_ (k := k) (by rw [fullQ_len]; exact hk)
  rw [fullQ_get _ _ _ hk] at h0 h1 h2 h3
  exact ⟨g, hg, h0, h1, h2, h3⟩
theorem rctl_nat (r : Nat) : rctl (r : Int) = ctl (r : Int) := by
  unfold rctl ctl
  rw [decide_eq_true (show (0 : Int) ≤ (r : Int) by omega), Bool.true_and]
theorem chars_hi (l : List UInt8) : ∀ c ∈ chars l, c.1 ≤ 1114111 := fun c hc => by
  have := chars_valid _ _ (Nat.le_refl l.length) c hc
  rw [valid_iff] at this
  omega

def RPlainPost (s : ByteArray) (w : World) (e : Ending) (w' : World) : Prop := ∃ i : Int, e = .returned (.tuple #[.int .i64 i, .bool (plainB s.data.toList)]) ∧ Below w.heap.size w w'
set_option maxHeartbeats 4000000 in
theorem rplain_any (s : ByteArray) (w : World) (hs : s.size ≤ 1048576) :
    Calls Tryz.prog 15 #[.string s] w (RPlainPost s w) := by
  have hz4 : Tryz.prog.cellsOf 106 = 4 := by kernel_rfl
  have hcl := (charsF_len s.data.toList.length s.data.toList).1
  have hcl2 : (chars s.data.toList).length ≤ s.size := by rw [size_list]; exact hcl
  have HCH := Lib.hid (chars_row s w hs)
  have HHI := Lib.hid (chars_hi s.data.toList)
  have HPB := Lib.hid (show plainB s.data.toList = (chars s.data.toList).all fun c => !ctl c.1 && !badCh c from rfl)
  have HPO := Lib.hid (show ∀ (e : Ending) (w' : World) (b : Bool) (i : Int), plainB s.data.toList = b → e = .returned (.tuple #[.int .i64 i, .bool b]) → Below w.heap.size w w' → RPlainPost s w e w' from fun e w' b i h1 h2 h3 => ⟨i, by rw [h1]; exact h2, h3⟩)
  generalize chars s.data.toList = l at *
  clear hcl
  go_enter Tryz.func15, Tryz.ntmps15
  go_wp2_with (go_at_call 35; refine HCH.out.mono ?_; rintro e w1 ⟨a, c, rfl, hr, hb1⟩; have HR := Lib.hid hr; have HB := Lib.hid hb1; clear hr hb1)
  go_loopw [5] (fun q wr => ∃ k : Nat, k ≤ l.length ∧ q = .int .i64 k ∧ Hid ((l.take k).all (fun c => !ctl c.1 && !badCh c) = true) ∧ w1 = wr) (fun q _ => l.length - (intOf q).toNat)
  case atStart => exact ⟨0, Nat.zero_le _, rfl, Lib.hid (by simp), rfl⟩
  case round =>
    obtain ⟨k, hk, rfl, hall, rfl⟩ := hrel
    by_cases hlt : k < l.length
    · obtain ⟨g, rfl, m0, m1, m2, m3⟩ := HR.out k hlt
      have htk : l.take (k + 1) = l.take k ++ [l[k]] := List.take_succ_eq_append_getElem hlt
      have hmem : l[k] ∈ l := List.getElem_mem hlt
      have hhi := HHI.out _ hmem
      generalize l[k] = x at *
      have HTK := Lib.hid htk
      have HME := Lib.hid hmem
      clear htk hmem m2
      cases hbad : badCh x with
      | true =>
        rw [hbad] at m3
        have HF := Lib.hid (show plainB s.data.toList = false from by
          rw [HPB.out, Bool.eq_false_iff]
          intro h
          have := List.all_eq_true.1 h x HME.out
          simp [hbad] at this)
        clear hbad
        go_wp2_with fail
        go_ret2
        exact HPO.out _ _ _ _ HF.out rfl HB.out
      | false =>
        rw [hbad] at m3
        have HCT := Lib.hid (rcontrol_any (x.1 : Int) w1 (by omega) (by omega))
        have HBF := Lib.hid hbad
        clear hbad
        cases hct : ctl (x.1 : Int) with
        | true =>
          have HC1 := Lib.hid (show Calls Tryz.prog 36 #[.int .i32 x.1] w1 (fun e w' => e = .returned (.bool true) ∧ w1 = w') from by have := HCT.out; rwa [rctl_nat, hct] at this)
          have HF := Lib.hid (show plainB s.data.toList = false from by
            rw [HPB.out, Bool.eq_false_iff]
            intro h
            have := List.all_eq_true.1 h x HME.out
            simp [hct] at this)
          clear hct
          go_wp2_with (go_at_call 36; refine HC1.out.mono ?_; rintro e w9 ⟨rfl, rfl⟩)
          go_ret2
          exact HPO.out _ _ _ _ HF.out rfl HB.out
        | false =>
          have HC1 := Lib.hid (show Calls Tryz.prog 36 #[.int .i32 x.1] w1 (fun e w' => e = .returned (.bool false) ∧ w1 = w') from by have := HCT.out; rwa [rctl_nat, hct] at this)
          have HN := Lib.hid (show (l.take (k + 1)).all (fun c => !ctl c.1 && !badCh c) = true from by rw [HTK.out, List.all_append, hall.out]; simp [hct, HBF.out])
          clear hct
          go_wp2_with (go_at_call 36; refine HC1.out.mono ?_; rintro e w9 ⟨rfl, rfl⟩)
          go_roundw
          case rel => exact ⟨k + 1, by omega, by go_num, HN, by first | rfl | trivial⟩
          case measure => simp [intOf] <;> omega
    · have HT := Lib.hid (show plainB s.data.toList = true from by rw [HPB.out]; have := hall.out; rwa [List.take_of_length_le (by omega)] at this)
      go_wp2_with fail
      go_ret2
      exact HPO.out _ _ _ _ HT.out rfl HB.out
end Go.Proofs.YthpbdeiphagkiaaGreatDoor
/- folioref02.Fold: the walk. -/
namespace Go.Proofs.YthpbdeiphagkiaaGreatDoor
open Go.RowKit Find

theorem piece_ch : ∀ (l : List Ch) (a k : Nat) (h : k < l.length) (t : List UInt8), t = l.flatMap (·.2) → l[k].2 = (t.drop ((l.take k).flatMap (·.2)).length).take l[k].2.length := by
  intro l a k h t ht
  have h1 : l.flatMap (·.2) = (l.take k).flatMap (·.2) ++ (l[k].2 ++ (l.drop (k + 1)).flatMap (·.2)) := by
    conv => lhs; rw [← List.take_append_drop k l]
    rw [List.flatMap_append, List.drop_eq_getElem_cons h, List.flatMap_cons]
  rw [ht, h1, List.drop_left, List.take_left]
theorem str_cat (a b : List UInt8) : (⟨a.toArray⟩ : ByteArray) ++ ⟨b.toArray⟩ = ⟨(a ++ b).toArray⟩ := by
  apply ba_ext
  simp
def RFoldPost (s : ByteArray) (w : World) (e : Ending) (w' : World) : Prop := e = .returned (.string ⟨(fold s.data.toList).toArray⟩) ∧ Below w.heap.size w w'
set_option maxHeartbeats 8000000 in
set_option maxRecDepth 100000 in
theorem rfold_any (s : ByteArray) (w : World) (hs : s.size ≤ 1048576) :
    Calls Tryz.prog 63 #[.string s] w (RFoldPost s w) := by
  have hz4 : Tryz.prog.cellsOf 106 = 4 := by kernel_rfl
  have hcl := charsF_len s.data.toList.length s.data.toList
  have hcl2 : (chars s.data.toList).length ≤ s.size := by rw [size_list]; exact hcl.1
  have HC4 := Lib.hid (show ∀ c ∈ chars s.data.toList, c.2.length ≤ 4 from hcl.2)
  have HCH := Lib.hid (chars_row s w hs)
  have HHI := Lib.hid (chars_hi s.data.toList)
  have HFB := Lib.hid (show fold s.data.toList = foldF false [] (chars s.data.toList) from rfl)
  have hfl : (chars s.data.toList).flatMap (·.2) = s.data.toList := chars_flat _ _ (Nat.le_refl _)
  have HPO := Lib.hid (show ∀ (e : Ending) (w' : World) (b : List UInt8), fold s.data.toList = b → e = .returned (.string ⟨b.toArray⟩) → Below w.heap.size w w' → RFoldPost s w e w' from fun e w' b h1 h2 h3 => ⟨by rw [h1]; exact h2, h3⟩)
  generalize chars s.data.toList = l at *
  have HFL := Lib.hid hfl
  clear hcl hfl
  go_enter Tryz.func63, Tryz.ntmps63
  go_wp2_with (go_at_call 35; refine HCH.out.mono ?_; rintro e w1 ⟨a, c, rfl, hr, hb1⟩; have HR := Lib.hid hr; have HB := Lib.hid hb1; clear hr hb1)
  go_loopw [3, 4, 6] (fun v p q wr => ∃ (k : Nat) (b : Bool) (acc : List UInt8), k ≤ l.length ∧ q = .int .i64 k ∧ p = .bool b ∧ v = .string ⟨acc.toArray⟩ ∧ acc.length ≤ 5 * k ∧ Hid (fold s.data.toList = foldF b acc (l.drop k)) ∧ Hid (Below w1.heap.size w1 wr)) (fun _ _ q _ => l.length - (intOf q).toNat)
  case atStart => exact ⟨0, false, [], Nat.zero_le _, rfl, rfl, rfl, by simp, Lib.hid (by rw [HFB.out, List.drop_zero]), Lib.hid (Below.refl _ _)⟩
  case round =>
    obtain ⟨k, b, acc, hk, rfl, rfl, rfl, hal, hfo, hbw⟩ := hrel
    obtain ⟨W, hW⟩ : ∃ W, W = wr := ⟨wr, rfl⟩
    subst hW
    have hbz := hbw.out.size
    by_cases hlt : k < l.length
    · obtain ⟨g, rfl, m0, m1, m2, m3⟩ := CRow.new HR.out hbw.out k hlt
      have hdr : l.drop k = l[k] :: l.drop (k + 1) := List.drop_eq_getElem_cons hlt
      have hmem : l[k] ∈ l := List.getElem_mem hlt
      have hhi := HHI.out _ hmem
      have hc4 := HC4.out _ hmem
      have hpc := piece_ch l 0 k hlt s.data.toList HFL.out.symm
      have hae : atOf 0 l k + l[k].2.length ≤ s.size := by
        have h1 := congrArg List.length HFL.out
        rw [← size_list] at h1
        have h2 : l.flatMap (·.2) = (l.take (k + 1)).flatMap (·.2) ++ (l.drop (k + 1)).flatMap (·.2) := by rw [← List.flatMap_append, List.take_append_drop]
        rw [h2, List.length_append] at h1
        have h3 := atOf_succ 0 l k hlt
        unfold atOf at *
        omega
      rw [show ((l.take k).flatMap (·.2)).length = atOf 0 l k by unfold atOf; omega] at hpc
      generalize l[k] = x at *
      generalize atOf 0 l k = A at *
      have HDR := Lib.hid hdr
      have HPC := Lib.hid hpc
      clear hmem hdr hpc m2
      by_cases h32 : x.1 = 32
      · have t1 : ((x.1 : Int) == 32) = true := by rw [beq_iff_eq]; omega
        have HN := Lib.hid (show fold s.data.toList = foldF (!acc.isEmpty) acc (l.drop (k + 1)) from by rw [hfo.out, HDR.out, foldF, if_pos h32])
        clear h32
        have hem : (acc.isEmpty = true ∧ acc.toArray.isEmpty = true) ∨ acc.isEmpty = false := by cases acc <;> simp
        go_wp2_with fail
        go_roundw
        case rel =>
          refine ⟨k + 1, !acc.isEmpty, acc, by omega, by go_num, ?_, rfl, by omega, HN, hbw⟩
          rfl
        case measure => simp [intOf] <;> omega
      · have t1 : ((x.1 : Int) == 32) = false := by rw [beq_eq_false_iff_ne]; omega
        have HN := Lib.hid (show fold s.data.toList = foldF false ((if b then acc ++ [32] else acc) ++ foldCh x) (l.drop (k + 1)) from by rw [hfo.out, HDR.out, foldF, if_neg h32])
        clear h32
        have he4 : (Utf8.encode (small (x.1 : Int))).size ≤ 4 := by rw [encode_eq, size_list]; exact enc_le _
        cases hbad : badCh x with
        | true =>
          rw [hbad] at m3
          have hx1 : x.2.length = 1 := by
            unfold badCh at hbad
            simp at hbad
            exact hbad.2
          have HP1 := Lib.hid (show s.extract A (A + 1) = ⟨x.2.toArray⟩ from by
            apply ba_ext
            have h1 := HPC.out
            rw [hx1] at h1
            rw [ByteArray.data_extract, Array.toList_extract, List.extract_eq_take_drop, show A + 1 - A = 1 by omega]
            exact h1.symm)
          have HF2 := Lib.hid (show foldCh x = x.2 from by unfold foldCh; rw [if_pos hbad])
          have hA1 : A + 1 ≤ s.size := by omega
          clear hbad
          cases b
          · go_upto_region 13 with fail
            go_quiet (fail)
            go_wp2_with fail
            go_roundw
            case rel => exact ⟨k + 1, false, acc ++ x.2, by omega, by go_num, rfl, by rw [HP1.out, str_cat], by rw [List.length_append]; omega, Lib.hid (by rw [HN.out, HF2.out]; rfl), Lib.hid (below_drewN hbw.out _)⟩
            case measure => simp [intOf] <;> omega
          · go_upto_region 13 with fail
            go_quiet (fail)
            go_wp2_with fail
            go_roundw
            case rel => exact ⟨k + 1, false, acc ++ [32] ++ x.2, by omega, by go_num, rfl, by rw [HP1.out, ← str_cat, ← str_cat], by rw [List.length_append, List.length_append]; simp; omega, Lib.hid (by rw [HN.out, HF2.out]; rfl), Lib.hid (below_drewN hbw.out _)⟩
            case measure => simp [intOf] <;> omega
        | false =>
          rw [hbad] at m3
          have HF2 := Lib.hid (show foldCh x = Lib.encodeRune (small x.1) from by unfold foldCh; rw [hbad]; rfl)
          have he5 := enc_le (small (x.1 : Int))
          clear hbad
          cases b
          · go_wp2_with (go_at_call 92; refine (rsmall_any _ _ (by omega) (by omega)).mono ?_; rintro e w' ⟨rfl, rfl⟩)
            go_roundw
            case rel => exact ⟨k + 1, false, acc ++ Lib.encodeRune (small x.1), by omega, by go_num, rfl, by rw [encode_eq, str_cat], by rw [List.length_append]; omega, Lib.hid (by rw [HN.out, HF2.out]; rfl), hbw⟩
            case measure => simp [intOf] <;> omega
          · go_wp2_with (go_at_call 92; refine (rsmall_any _ _ (by omega) (by omega)).mono ?_; rintro e w' ⟨rfl, rfl⟩)
            go_roundw
            case rel => exact ⟨k + 1, false, acc ++ [32] ++ Lib.encodeRune (small x.1), by omega, by go_num, rfl, by rw [encode_eq, ← str_cat, ← str_cat], by rw [List.length_append, List.length_append]; simp; omega, Lib.hid (by rw [HN.out, HF2.out]; rfl), hbw⟩
            case measure => simp [intOf] <;> omega
    · have HT := Lib.hid (show fold s.data.toList = acc from by have := hfo.out; rw [List.drop_eq_nil_of_le (by omega)] at this; exact this)
      go_wp2_with fail
      go_ret
      exact HPO.out _ _ _ HT.out rfl (HB.out.trans (hbw.out.mono HB.out.size))
end Go.Proofs.YthpbdeiphagkiaaGreatDoor
/- folioref23.Words, folioref23.clause: the walks. -/
namespace Go.Proofs.YthpbdeiphagkiaaGreatDoor
open Go.RowKit Find

def RWordsPost (s : ByteArray) (w : World) (e : Ending) (w' : World) : Prop := ∃ a c, e = .returned (.slice a (words s.data.toList).length c) ∧ StrRow w' (.slice a (words s.data.toList).length c) (words s.data.toList) ∧ Below w.heap.size w w'
set_option maxHeartbeats 8000000 in
set_option maxRecDepth 100000 in
theorem rwords_any (s : ByteArray) (w : World) (hs : s.size ≤ 200000) :
    Calls Tryz.prog 37 #[.string s] w (RWordsPost s w) := by
  have hz4 : Tryz.prog.cellsOf 106 = 4 := by kernel_rfl
  obtain ⟨i0, hi0, hz0, hz1, hz2⟩ := info_parts info_str
  have HFO := Lib.hid (rfold_any s w (by omega))
  have hfo := fold_len s.data.toList
  rw [← size_list] at hfo
  have hcl := charsF_len (fold s.data.toList).length (fold s.data.toList)
  have hcl2 : (chars (fold s.data.toList)).length ≤ 1000000 := by have := hcl.1; unfold chars; omega
  have HCH := Lib.hid (show ∀ W, _ from fun W => chars_row ⟨(fold s.data.toList).toArray⟩ W (by show (fold s.data.toList).toArray.size ≤ _; rw [List.size_toArray]; omega))
  have HHI := Lib.hid (chars_hi (fold s.data.toList))
  have HWD := Lib.hid (show words s.data.toList = wordsF [] (chars (fold s.data.toList)) from rfl)
  have HPO := Lib.hid (show ∀ (e : Ending) (w' : World) (L : List Wd) (a : Option Addr) (c B : Nat), words s.data.toList = L → e = .returned (.slice a L.length c) → w'.ownsRow B 9 1 (.slice a L.length c) L.length (L.map st) → Below w.heap.size w w' → RWordsPost s w e w' from fun e w' L a c _ h1 h2 h3 h4 => ⟨a, c, by rw [h1]; exact h2, by rw [h1]; exact owns_zero h3, h4⟩)
  change Hid (∀ W, Calls Tryz.prog 35 #[.string ⟨(fold s.data.toList).toArray⟩] W fun e w' => ∃ a c, e = .returned (.slice a (chars (fold s.data.toList)).length c) ∧ CRow w' a (chars (fold s.data.toList)) ∧ Below W.heap.size W w') at HCH
  generalize chars (fold s.data.toList) = l at *
  clear hcl hfo
  go_enter Tryz.func37, Tryz.ntmps37
  go_wp2_with (first
    | (go_at_call 63; refine HFO.out.mono ?_; rintro e w1 ⟨rfl, hb1⟩; have B1 := Lib.hid hb1; clear hb1)
    | (go_at_call 35; refine (HCH.out _).mono ?_; rintro e w2 ⟨a, c, rfl, hr, hb2⟩; have HR := Lib.hid hr; have B2 := Lib.hid (B1.out.trans (hb2.mono B1.out.size)); clear hr hb2))
  go_loopw [3, 4, 11] (fun v p q wr => ∃ (k : Nat) (acc : Wd) (L : List Wd) (av : Option Addr) (cv : Nat), k ≤ l.length ∧ q = .int .i64 k ∧ p = .string ⟨acc.toArray⟩ ∧ v = .slice av L.length cv ∧ acc.length ≤ 4 * k ∧ L.length ≤ k ∧ Hid (words s.data.toList = L ++ wordsF acc (l.drop k)) ∧ Hid (wr.ownsRow w2.heap.size 9 1 (.slice av L.length cv) L.length (L.map st)) ∧ Hid (Below w2.heap.size w2 wr)) (fun _ _ q _ => l.length - (intOf q).toNat)
  case atStart => exact ⟨0, [], [], none, 0, Nat.zero_le _, rfl, rfl, rfl, by simp, by simp, Lib.hid (by rw [HWD.out, List.drop_zero]; rfl), Lib.hid (World.ownsRow_nil _ _ _ _), Lib.hid (Below.refl _ _)⟩
  case round =>
    obtain ⟨k, acc, L, av, cv, hk, rfl, rfl, rfl, hal, hLl, hwd, hown, hbw⟩ := hrel
    obtain ⟨W, hW⟩ : ∃ W, W = wr := ⟨wr, rfl⟩
    subst hW
    have hbz := hbw.out.size
    by_cases hlt : k < l.length
    · obtain ⟨g, rfl, m0, m1, m2, m3⟩ := CRow.new HR.out hbw.out k hlt
      have hdr : l.drop k = l[k] :: l.drop (k + 1) := List.drop_eq_getElem_cons hlt
      have hmem : l[k] ∈ l := List.getElem_mem hlt
      have hhi := HHI.out _ hmem
      generalize l[k] = x at *
      generalize atOf 0 l k = A at *
      have HDR := Lib.hid hdr
      clear hmem hdr
      have hbl := (base_len (x.1 : Int)).2
      have hB1 := (Below.refl W.heap.size W).alloc (Nat.le_refl _) (.cells #[.int .i32 x.1, .int .i64 A, .int .i64 x.2.length, .bool (badCh x)] 106)
      have HB1 := Lib.hid hB1
      clear hB1
      cases hcc : countsCh x with
      | true =>
        have HN := Lib.hid (show words s.data.toList = L ++ wordsF (acc ++ base x.1) (l.drop (k + 1)) from by rw [hwd.out, HDR.out, wordsF, if_pos hcc])
        unfold countsCh at hcc
        rw [Bool.and_eq_true, Bool.not_eq_true'] at hcc
        obtain ⟨hc1, hc2⟩ := hcc
        rw [hc1] at m3
        have HC := Lib.hid (show ∀ W, Calls Tryz.prog 64 #[.int .i32 x.1] W (fun e w' => e = .returned (.bool true) ∧ W = w') from fun W => by have := rcounts_any (x.1 : Int) W (by omega) (by omega); rwa [hc2] at this)
        rw [hc1] at HB1
        clear hc1 hc2
        go_wp2_with (first
          | (go_at_call 64; refine (HC.out _).mono ?_; rintro e w' ⟨rfl, rfl⟩)
          | (go_at_call 65; refine (rbase_any _ _ (by omega) (by omega)).mono ?_; rintro e w' ⟨rfl, rfl⟩))
        go_roundw
        case rel => exact ⟨k + 1, acc ++ base x.1, L, av, cv, by omega, by go_num, by rw [str_cat], rfl, by rw [List.length_append]; omega, by omega, HN, Lib.hid (owns_new hown.out HB1.out), Lib.hid (hbw.out.trans (HB1.out.mono hbz))⟩
        case measure => simp [intOf] <;> omega
      | false =>
        have HW0 := Lib.hid (show words s.data.toList = L ++ (if acc.isEmpty then wordsF [] (l.drop (k + 1)) else acc :: wordsF [] (l.drop (k + 1))) from by rw [hwd.out, HDR.out, wordsF, if_neg (by simp [hcc])])
        have HC0 := Lib.hid (show ∀ W, Calls Tryz.prog 64 #[.int .i32 x.1] W (fun e w' => e = .returned (.bool (countsR x.1)) ∧ W = w') from fun W => rcounts_any (x.1 : Int) W (by omega) (by omega))
        have hsp : countsR x.1 = false ∨ (countsR x.1 = true ∧ badCh x = true) := by
          unfold countsCh at hcc
          cases h1 : countsR x.1 <;> cases h2 : badCh x <;> simp_all
        clear hcc
        cases hae : acc.isEmpty with
        | true =>
          have HN := Lib.hid (show words s.data.toList = L ++ wordsF [] (l.drop (k + 1)) from by rw [HW0.out, if_pos hae])
          obtain rfl : acc = [] := by simpa using hae
          clear hae
          rcases hsp with h1 | ⟨h1, h2⟩
          · have HC := Lib.hid (show ∀ W, Calls Tryz.prog 64 #[.int .i32 x.1] W (fun e w' => e = .returned (.bool false) ∧ W = w') from fun W => by have := HC0.out W; rwa [h1] at this)
            clear h1
            go_wp2_with (go_at_call 64; refine (HC.out _).mono ?_; rintro e w' ⟨rfl, rfl⟩)
            go_roundw
            case rel => exact ⟨k + 1, [], L, av, cv, by omega, by go_num, rfl, rfl, by simp, by omega, HN, Lib.hid (owns_new hown.out HB1.out), Lib.hid (hbw.out.trans (HB1.out.mono hbz))⟩
            case measure => simp [intOf] <;> omega
          · have HC := Lib.hid (show ∀ W, Calls Tryz.prog 64 #[.int .i32 x.1] W (fun e w' => e = .returned (.bool true) ∧ W = w') from fun W => by have := HC0.out W; rwa [h1] at this)
            rw [h2] at m3 HB1
            clear h1 h2
            go_wp2_with (go_at_call 64; refine (HC.out _).mono ?_; rintro e w' ⟨rfl, rfl⟩)
            go_roundw
            case rel => exact ⟨k + 1, [], L, av, cv, by omega, by go_num, rfl, rfl, by simp, by omega, HN, Lib.hid (owns_new hown.out HB1.out), Lib.hid (hbw.out.trans (HB1.out.mono hbz))⟩
            case measure => simp [intOf] <;> omega
        | false =>
          have HN := Lib.hid (show words s.data.toList = (L ++ [acc]) ++ wordsF [] (l.drop (k + 1)) from by rw [HW0.out, if_neg (by simp [hae]), List.append_assoc]; rfl)
          have HO1 := Lib.hid (owns_new hown.out HB1.out)
          rcases hsp with h1 | ⟨h1, h2⟩
          · have HC := Lib.hid (show ∀ W, Calls Tryz.prog 64 #[.int .i32 x.1] W (fun e w' => e = .returned (.bool false) ∧ W = w') from fun W => by have := HC0.out W; rwa [h1] at this)
            clear h1
            go_wp2_with (first
              | (go_at_call 64; refine (HC.out _).mono ?_; rintro e w' ⟨rfl, rfl⟩)
              | (at_builtin; refine wpList_append_lies _ rfl _ _ 35 rfl w2.heap.size 9 i0 _ 1 16 Tryz.underlying35 hi0 hz0 hz1 hz2 rfl (by omega) (.slice av L.length cv) L.length (L.map st) rfl (HO1.out.alloc _) ⟨W.heap.size + 1, 0, none⟩ 1 1 [st acc] rfl rfl (World.news_of_block (cs := #[st acc]) (t := 9) (fr := (0, 0)) (by have := heap_alloc_new (W.alloc (.cells #[.int .i32 x.1, .int .i64 A, .int .i64 x.2.length, .bool (badCh x)] 106)) (.cells #[st acc] 9); rwa [World.size_alloc] at this)) (by simp [Value.oneCell', st]) (by omega) (by unfold maxLen; omega) (by omega) (by simp; omega) _ rfl ?_; intro gg cap w4 hown4 hgrow hat hlt4; have HG := Lib.hid hgrow; have HO4 := Lib.hid hown4; clear hgrow hown4 hat hlt4))
            go_roundw
            case rel => exact ⟨k + 1, [], L ++ [acc], some ⟨gg, 0, none⟩, cap, by omega, by go_num, rfl, by rw [List.length_append]; rfl, by simp, by rw [List.length_append]; simp; omega, HN, Lib.hid (by rw [List.length_append, List.map_append]; exact HO4.out), Lib.hid (((hbw.out.trans (HB1.out.mono hbz)).alloc (by simp; omega) _).grown HG.out (by simp; omega) (fun j hj => (hown.out.lt j hj).1))⟩
            case measure => simp [intOf] <;> omega
          · have HC := Lib.hid (show ∀ W, Calls Tryz.prog 64 #[.int .i32 x.1] W (fun e w' => e = .returned (.bool true) ∧ W = w') from fun W => by have := HC0.out W; rwa [h1] at this)
            rw [h2] at m3 HB1 HO1
            clear h1 h2
            go_wp2_with (first
              | (go_at_call 64; refine (HC.out _).mono ?_; rintro e w' ⟨rfl, rfl⟩)
              | (at_builtin; refine wpList_append_lies _ rfl _ _ 35 rfl w2.heap.size 9 i0 _ 1 16 Tryz.underlying35 hi0 hz0 hz1 hz2 rfl (by omega) (.slice av L.length cv) L.length (L.map st) rfl (HO1.out.alloc _) ⟨W.heap.size + 1, 0, none⟩ 1 1 [st acc] rfl rfl (World.news_of_block (cs := #[st acc]) (t := 9) (fr := (0, 0)) (by have := heap_alloc_new (W.alloc (.cells #[.int .i32 x.1, .int .i64 A, .int .i64 x.2.length, .bool true] 106)) (.cells #[st acc] 9); rwa [World.size_alloc] at this)) (by simp [Value.oneCell', st]) (by omega) (by unfold maxLen; omega) (by omega) (by simp; omega) _ rfl ?_; intro gg cap w4 hown4 hgrow hat hlt4; have HG := Lib.hid hgrow; have HO4 := Lib.hid hown4; clear hgrow hown4 hat hlt4))
            go_roundw
            case rel => exact ⟨k + 1, [], L ++ [acc], some ⟨gg, 0, none⟩, cap, by omega, by go_num, rfl, by rw [List.length_append]; rfl, by simp, by rw [List.length_append]; simp; omega, HN, Lib.hid (by rw [List.length_append, List.map_append]; exact HO4.out), Lib.hid (((hbw.out.trans (HB1.out.mono hbz)).alloc (by simp; omega) _).grown HG.out (by simp; omega) (fun j hj => (hown.out.lt j hj).1))⟩
            case measure => simp [intOf] <;> omega
    · have HE := Lib.hid (show words s.data.toList = L ++ (if acc.isEmpty then [] else [acc]) from by rw [hwd.out, List.drop_eq_nil_of_le (by omega), wordsF])
      cases hae : acc.isEmpty with
      | true =>
        have HF := Lib.hid (show words s.data.toList = L from by rw [HE.out, hae]; simp)
        obtain rfl : acc = [] := by simpa using hae
        clear hae
        go_wp2_with fail
        go_ret
        exact HPO.out _ _ _ _ _ _ HF.out rfl hown.out (B2.out.trans (hbw.out.mono B2.out.size))
      | false =>
        have HF := Lib.hid (show words s.data.toList = L ++ [acc] from by rw [HE.out, hae]; simp)
        go_wp2_with (at_builtin; refine wpList_append_lies _ rfl _ _ 35 rfl w2.heap.size 9 i0 _ 1 16 Tryz.underlying35 hi0 hz0 hz1 hz2 rfl (by omega) (.slice av L.length cv) L.length (L.map st) rfl (hown.out.alloc _) ⟨W.heap.size, 0, none⟩ 1 1 [st acc] rfl rfl (World.news_of_block (cs := #[st acc]) (t := 9) (fr := (0, 0)) (heap_alloc_new W (.cells #[st acc] 9))) (by simp [Value.oneCell', st]) (by omega) (by unfold maxLen; omega) (by omega) (by simp; omega) _ rfl ?_; intro gg cap w4 hown4 hgrow hat hlt4; have HG := Lib.hid hgrow; have HO4 := Lib.hid hown4; clear hgrow hown4 hat hlt4)
        go_ret
        exact HPO.out _ _ _ _ _ _ HF.out (by rw [List.length_append]; rfl) (by rw [List.length_append, List.map_append]; exact HO4.out) (B2.out.trans (((hbw.out.alloc (by omega) _).grown HG.out (by simp; omega) (fun j hj => (hown.out.lt j hj).1)).mono B2.out.size))
end Go.Proofs.YthpbdeiphagkiaaGreatDoor
/- folioref23.Parse, plain: the error that is told, step by step. -/
namespace Go.Proofs.YthpbdeiphagkiaaGreatDoor
open Go.RowKit Find

theorem indexByte_at : ∀ (a r : List UInt8), 34 ∉ a → Lib.indexByte (a ++ 34 :: r) 34 = a.length
  | [], r, _ => by simp [Lib.indexByte]
  | b :: a, r, h => by
    simp only [List.mem_cons, not_or] at h
    have ih := indexByte_at a r h.2
    rw [List.cons_append, Lib.indexByte, if_neg (by simpa using fun e => h.1 e.symm), ih, if_neg (by rw [beq_iff_eq]; omega)]
    simp
theorem cutQ_at (a r : List UInt8) (h : 34 ∉ a) : cutQ (a ++ 34 :: r) = (a, r, true) := by
  unfold cutQ
  rw [indexByte_at a r h, if_pos (by omega)]
  simp
theorem indexAny_at : ∀ (a r : List UInt8), (∀ x ∈ a, x ≠ 32 ∧ x ≠ 34) → (r = [] ∨ r.head? = some 32 ∨ r.head? = some 34) → nF (a ++ r) = a.length ∧ (Lib.indexAny (a ++ r) [32, 34] < 0 ↔ r = [])
  | [], r, _, hr => by
    cases r with
    | nil => simp [nF, Lib.indexAny]
    | cons b r =>
      have hb : ([32, 34] : List UInt8).contains b = true := by
        simp only [List.head?_cons, Option.some.injEq, reduceCtorEq, false_or] at hr
        rcases hr with rfl | rfl <;> rfl
      have : Lib.indexAny (b :: r) [32, 34] = 0 := by rw [Lib.indexAny, if_pos hb]
      simp [nF, this]
  | b :: a, r, ha, hr => by
    obtain ⟨h1, h2⟩ := indexAny_at a r (fun x hx => ha x (by simp [hx])) hr
    have hb : ([32, 34] : List UInt8).contains b = false := by
      have := ha b (by simp)
      simp [this.1, this.2]
    have hg := Lib.indexAny_ge [32, 34] (a ++ r)
    have hx : Lib.indexAny (b :: (a ++ r)) [32, 34] = if Lib.indexAny (a ++ r) [32, 34] == -1 then -1 else Lib.indexAny (a ++ r) [32, 34] + 1 := by rw [Lib.indexAny, if_neg (by rw [hb]; simp)]
    rw [List.cons_append]
    by_cases he : Lib.indexAny (a ++ r) [32, 34] = -1
    · rw [he] at hx h2
      have hr0 : r = [] := h2.1 (by omega)
      subst hr0
      refine ⟨?_, by rw [hx]; simp⟩
      unfold nF
      rw [hx]; simp
    · rw [if_neg (by rw [beq_iff_eq]; exact he)] at hx
      have hpos : 0 ≤ Lib.indexAny (a ++ r) [32, 34] := by omega
      have hn : (Lib.indexAny (a ++ r) [32, 34]).toNat = a.length := by
        have := h1
        unfold nF at this
        rwa [if_neg (by omega)] at this
      refine ⟨?_, ?_⟩
      · unfold nF
        rw [hx, if_neg (by omega)]
        simp; omega
      · rw [hx, ← h2]; omega

/-- The error that is told, with clauses already read and a text left. -/
def codeF (L : List Cl) (t : Wd) : Int := if t.count 34 % 2 == 1 then 230 else if (L ++ parseF t.length t).all (·.no) then 230 else 0
theorem code_parse {s : Wd} (h1 : s.length ≤ 500) (h2 : plainB s = true) : (parseP s).2 = codeF [] s := by
  unfold parseP codeF
  rw [if_neg (by omega)]
  simp only [h2, Bool.not_true, Bool.false_or, List.nil_append]
  split
  · rfl
  · split <;> rfl
theorem code_blank (L : List Cl) (t : Wd) : codeF L (32 :: t) = codeF L t := by
  unfold codeF
  rw [parse_blank (32 :: t) rfl, List.tail_cons, List.count_cons_of_ne (by decide)]
theorem code_end (L : List Cl) : codeF L [] = if L.all (·.no) then 230 else 0 := by unfold codeF; simp [parseF]
theorem code_step {L : List Cl} {t : Wd} (h0 : t ≠ []) (h32 : t.head? ≠ some 32) (hc : (clauseF t).2.count 34 % 2 = t.count 34 % 2) :
    codeF L t = codeF (if (clauseF t).1.words.isEmpty then L else L ++ [(clauseF t).1]) (clauseF t).2 := by
  unfold codeF
  rw [parse_step t h0 h32, hc]
  by_cases hw : (clauseF t).1.words.isEmpty = true
  · rw [if_pos hw, if_pos hw]
  · rw [if_neg hw, if_neg hw, List.append_assoc]; rfl
theorem body_count (t : Wd) : (bodyF t).count 34 = t.count 34 := by
  unfold bodyF noF
  cases t with
  | nil => rfl
  | cons c t =>
    by_cases h : c = 45
    · subst h; simp
    · simp [h]
/-- A quoted clause. -/
theorem code_quote {L : List Cl} {t a r : Wd} (hb : bodyF t = 34 :: (a ++ 34 :: r)) (h32 : t.head? ≠ some 32) (ha : 34 ∉ a) :
    codeF L t = codeF (if (words a).isEmpty then L else L ++ [⟨words a, noF t, r.head? == some 42⟩]) (if r.head? == some 42 then r.tail else r) := by
  have h0 : t ≠ [] := fun e => by subst e; simp [bodyF, noF] at hb
  have hcl : clauseF t = (⟨words a, noF t, r.head? == some 42⟩, if r.head? == some 42 then r.tail else r) := by
    unfold clauseF
    rw [hb, List.head?_cons, if_pos (by simp), List.tail_cons]
    unfold quoteF
    rw [cutQ_at a r ha]
  have hcn : (if r.head? == some 42 then r.tail else r).count 34 = r.count 34 := by
    split
    · rename_i h
      cases r with
      | nil => rfl
      | cons c r =>
        simp at h
        subst h; simp
    · rfl
  have := code_step (L := L) h0 h32 (by
    rw [hcl, ← body_count t, hb]
    simp only [hcn]
    rw [List.count_cons_self, List.count_append, List.count_cons_self, List.count_eq_zero.2 ha]; omega)
  rw [hcl] at this
  exact this
/-- A quote without its fellow. -/
theorem code_lone {L : List Cl} {t a : Wd} (hb : bodyF t = 34 :: a) (ha : 34 ∉ a) : codeF L t = 230 := by
  unfold codeF
  rw [← body_count, hb, List.count_cons_self, List.count_eq_zero.2 ha]
  rfl
/-- A bare clause. -/
theorem code_bare {L : List Cl} {t a r : Wd} (hb : bodyF t = a ++ r) (h0 : t ≠ []) (h32 : t.head? ≠ some 32) (h34 : (bodyF t).head? ≠ some 34) (ha : ∀ x ∈ a, x ≠ 32 ∧ x ≠ 34) (hr : r = [] ∨ r.head? = some 32 ∨ r.head? = some 34) :
    ∃ o, codeF L t = codeF (if (words a).isEmpty then L else L ++ [⟨words a, noF t, o⟩]) r := by
  obtain ⟨h1, _⟩ := indexAny_at a r ha hr
  have hcl : ∃ o, clauseF t = (⟨words a, noF t, o⟩, r) := by
    unfold clauseF
    rw [if_neg (by simpa using h34), hb]
    unfold bareF
    rw [h1]
    exact ⟨_, by rw [List.take_left, List.drop_left]⟩
  obtain ⟨o, hcl⟩ := hcl
  have := code_step (L := L) h0 h32 (by
    rw [hcl, ← body_count t, hb]
    simp only
    rw [List.count_append, List.count_eq_zero.2 (fun h => (ha _ h).2 rfl)]; omega)
  rw [hcl] at this
  exact ⟨o, this⟩
end Go.Proofs.YthpbdeiphagkiaaGreatDoor
/- folioref23.clause: the walk. -/
namespace Go.Proofs.YthpbdeiphagkiaaGreatDoor
open Go.RowKit Find

set_option maxHeartbeats 4000000 in
set_option maxRecDepth 100000 in
theorem rclause_any (s : ByteArray) (no opn : Bool) (w : World) (hs : s.size ≤ 200000) :
    Calls Tryz.prog 16 #[.string s, .bool no, .bool opn] w fun e w' => ∃ a c, e = .returned (.tuple #[.agg #[.slice a (words s.data.toList).length c, .bool no, .bool opn], .bool (decide (0 < (words s.data.toList).length))]) ∧ Below w.heap.size w w' := by
  have hz3 : Tryz.prog.cellsOf 62 = 3 := by kernel_rfl
  have HBA := Lib.hid ((Below.refl w.heap.size w).alloc (Nat.le_refl _) (.cells #[.slice none 0 0, .bool false, .bool false] 62))
  have HW := Lib.hid (show ∀ W, _ from fun W => rwords_any s W hs)
  unfold RWordsPost at HW
  generalize words s.data.toList = ws at *
  go_enter Tryz.func16, Tryz.ntmps16
  go_upto_region 2 with (go_at_call 37; refine (HW.out _).mono ?_; rintro e w1 ⟨a, c, rfl, hr, hb1⟩; have HB := Lib.hid (HBA.out.trans (hb1.mono HBA.out.size)); have hk1 := (hb1.block w.heap.size (by simp)).trans (heap_alloc_new w _); have x0 : w1.cell? ⟨w.heap.size, 0, none⟩ = some (.slice none 0 0) := (by rw [Lib.cell_of_heap hk1]; rfl); have x1 : w1.cell? ⟨w.heap.size, 1, none⟩ = some (.bool false) := (by rw [Lib.cell_of_heap hk1]; rfl); have x2 : w1.cell? ⟨w.heap.size, 2, none⟩ = some (.bool false) := (by rw [Lib.cell_of_heap hk1]; rfl); have f0 : w1.frozen? ⟨w.heap.size, 0, none⟩ = false := Lib.frozen_of_heap hk1 0; have f1 : w1.frozen? ⟨w.heap.size, 1, none⟩ = false := Lib.frozen_of_heap hk1 1; have f2 : w1.frozen? ⟨w.heap.size, 2, none⟩ = false := Lib.frozen_of_heap hk1 2; have hlt := lt_of_heap hk1; have HK1 := Lib.hid hk1; clear hr hb1 hk1)
  go_region
  have hW : ((((w1.setCell ⟨w.heap.size, 0, none⟩ (.slice a ws.length c)).setCell ⟨w.heap.size, 1, none⟩ (.bool no)).setCell ⟨w.heap.size, 2, none⟩ (.bool opn)).alloc (.cells #[.slice a ws.length c, .bool no, .bool opn] 62)).drew.heap[w.heap.size]? = some (.cells #[.slice a ws.length c, .bool no, .bool opn] 62 (0, 0)) := by
    show ((((w1.setCell ⟨w.heap.size, 0, none⟩ (.slice a ws.length c)).setCell ⟨w.heap.size, 1, none⟩ (.bool no)).setCell ⟨w.heap.size, 2, none⟩ (.bool opn)).alloc (.cells #[.slice a ws.length c, .bool no, .bool opn] 62)).heap[w.heap.size]? = _
    rw [Below.heap_alloc _ _ _ (by simp; omega), setCell_heap (setCell_heap (setCell_heap HK1.out _) _) _]
    rfl
  have hbW : Below w.heap.size w ((((w1.setCell ⟨w.heap.size, 0, none⟩ (.slice a ws.length c)).setCell ⟨w.heap.size, 1, none⟩ (.bool no)).setCell ⟨w.heap.size, 2, none⟩ (.bool opn)).alloc (.cells #[.slice a ws.length c, .bool no, .bool opn] 62)).drew :=
    ((((HB.out.setCell (p := ⟨w.heap.size, 0, none⟩) (Nat.le_refl _) _).setCell (p := ⟨w.heap.size, 1, none⟩) (Nat.le_refl _) _).setCell (p := ⟨w.heap.size, 2, none⟩) (Nat.le_refl _) _).alloc (by simp; omega) _).drew
  generalize ((((w1.setCell ⟨w.heap.size, 0, none⟩ (.slice a ws.length c)).setCell ⟨w.heap.size, 1, none⟩ (.bool no)).setCell ⟨w.heap.size, 2, none⟩ (.bool opn)).alloc (.cells #[.slice a ws.length c, .bool no, .bool opn] 62)).drew = W at *
  have q0 : W.cell? ⟨w.heap.size, 0, none⟩ = some (.slice a ws.length c) := by rw [Lib.cell_of_heap hW]; rfl
  have q1 : W.cell? ⟨w.heap.size, 1, none⟩ = some (.bool no) := by rw [Lib.cell_of_heap hW]; rfl
  have q2 : W.cell? ⟨w.heap.size, 2, none⟩ = some (.bool opn) := by rw [Lib.cell_of_heap hW]; rfl
  have HBW := Lib.hid hbW
  clear hW hbW x0 x1 x2 f0 f1 f2
  go_wp2_with fail
  refine bodyPost_ret (v := .tuple #[.agg #[.slice a ws.length c, .bool no, .bool opn], .bool (decide (0 < ws.length))]) (by simp [results, Tryz.results16, go_sem, q0, q1, q2, hz3, List.range_succ]) rfl ?_
  exact ⟨a, c, rfl, HBW.out⟩
end Go.Proofs.YthpbdeiphagkiaaGreatDoor
/- folioref23.Parse: the walk. -/
namespace Go.Proofs.YthpbdeiphagkiaaGreatDoor
open Go.RowKit Find

theorem code_congr {L M : List Cl} (h : L.map (·.no) = M.map (·.no)) (t : Wd) : codeF L t = codeF M t := by
  have key : ∀ X : List Cl, (X ++ parseF t.length t).all (·.no) = ((X.map (·.no)).all id && (parseF t.length t).all (·.no)) := fun X => by
    rw [List.all_append, List.all_map]; rfl
  unfold codeF
  rw [key, key, h]
theorem code_one {L : List Cl} {ws : List Wd} {no o o' : Bool} (t : Wd) : codeF (if ws.isEmpty then L else L ++ [⟨ws, no, o⟩]) t = codeF (if ws.isEmpty then L else L ++ [⟨ws, no, o'⟩]) t := by
  apply code_congr
  split <;> simp
theorem seg_not {s : ByteArray} {a b : Nat} {P : UInt8 → Prop} (h : ∀ j (hj : j < s.size), a ≤ j → j < b → P s[j]) (hb : b ≤ s.size) : ∀ x ∈ (s.data.toList.drop a).take (b - a), P x := by
  intro x hx
  obtain ⟨i, hi, rfl⟩ := List.mem_iff_getElem.1 hx
  rw [List.length_take, List.length_drop, ← size_list] at hi
  have hj : a + i < s.size := by omega
  have := h (a + i) hj (by omega) (by omega)
  rw [List.getElem_take, List.getElem_drop]
  exact this
theorem drop_at {s : ByteArray} {b : Nat} (hb : b < s.size) : s.data.toList.drop b = s[b] :: s.data.toList.drop (b + 1) := by
  rw [List.drop_eq_getElem_cons (by rw [← size_list]; exact hb)]; rfl
theorem drop_split {s : ByteArray} {a b : Nat} (hab : a ≤ b) : s.data.toList.drop a = (s.data.toList.drop a).take (b - a) ++ s.data.toList.drop b := by
  conv => lhs; rw [← List.take_append_drop (b - a) (s.data.toList.drop a)]
  rw [List.drop_drop, show a + (b - a) = b by omega]
theorem drop_full {s : ByteArray} {b : Nat} (hb : s.size ≤ b) : s.data.toList.drop b = [] := List.drop_eq_nil_of_le (by rw [← size_list]; exact hb)
theorem ext_list (s : ByteArray) (a b : Nat) : (s.extract a b).data.toList = (s.data.toList.drop a).take (b - a) := by
  rw [ByteArray.data_extract, Array.toList_extract, List.extract_eq_take_drop]
/-- The part behind the minus sign. -/
def stepN (s : ByteArray) (pos : Nat) (no : Bool) : Nat := if no then pos + 1 else pos
theorem body_drop {s : ByteArray} {pos : Nat} (h : pos < s.size) {no : Bool} (hno : no = (s[pos] == 45)) : bodyF (s.data.toList.drop pos) = s.data.toList.drop (stepN s pos no) ∧ noF (s.data.toList.drop pos) = no := by
  have hd := drop_at h
  have hn : noF (s.data.toList.drop pos) = no := by
    rw [hd, hno]; unfold noF
    rw [List.head?_cons, Bool.eq_iff_iff]; simp
  refine ⟨?_, hn⟩
  unfold bodyF stepN
  rw [hn]
  cases no
  · rfl
  · simp only [if_true]; rw [hd]; rfl
/-- What a clause's end says. -/
def StepTo (s : ByteArray) (L : List Cl) (no : Bool) (pos pos' : Nat) (body : ByteArray) : Prop := ∀ o, codeF L (s.data.toList.drop pos) = codeF (if (words body.data.toList).isEmpty then L else L ++ [⟨words body.data.toList, no, o⟩]) (s.data.toList.drop pos')
theorem step_quote {s : ByteArray} {L : List Cl} {no : Bool} {pos p1 k : Nat} (h : pos < s.size) (h32 : s[pos] ≠ 32) (hno : no = (s[pos] == 45)) (hp1 : p1 = stepN s pos no) (hq : ∃ h : p1 < s.size, s[p1] = 34) (hk1 : p1 + 1 ≤ k) (hk : ∃ h : k < s.size, s[k] = 34)
    (hnot : ∀ j (hj : j < s.size), p1 + 1 ≤ j → j < k → s[j] ≠ 34) :
    (∀ (hs : k + 1 < s.size), s[k + 1] = 42 → StepTo s L no pos (k + 2) (s.extract (p1 + 1) k)) ∧ ((∀ (hs : k + 1 < s.size), s[k + 1] ≠ 42) → StepTo s L no pos (k + 1) (s.extract (p1 + 1) k)) := by
  obtain ⟨hb, hn⟩ := body_drop h hno
  obtain ⟨hq1, hq2⟩ := hq
  obtain ⟨hk2, hk3⟩ := hk
  rw [← hp1, drop_at hq1, hq2, drop_split hk1, drop_at hk2, hk3] at hb
  have h32' : (s.data.toList.drop pos).head? ≠ some 32 := by rw [drop_at h, List.head?_cons]; simpa using h32
  have hc := code_quote (L := L) hb h32' (fun hm => seg_not (P := fun x => x ≠ 34) hnot (by omega) _ hm rfl)
  rw [hn] at hc
  constructor
  · intro hs he o
    rw [hc, ext_list]
    have hh : (s.data.toList.drop (k + 1)).head? = some 42 := by rw [drop_at hs, List.head?_cons, he]
    rw [hh, show s.data.toList.drop (k + 2) = (s.data.toList.drop (k + 1)).tail by rw [drop_at hs]; rfl]
    simp only [beq_self_eq_true, if_true]
    exact code_one _
  · intro hs o
    rw [hc, ext_list]
    have hh : ((s.data.toList.drop (k + 1)).head? == some 42) = false := by
      by_cases hlt : k + 1 < s.size
      · rw [drop_at hlt, List.head?_cons]; simpa using hs hlt
      · rw [drop_full (by omega)]; rfl
    rw [hh]
    simp only [Bool.false_eq_true, if_false]
    exact code_one _
theorem step_lone {s : ByteArray} {L : List Cl} {no : Bool} {pos p1 : Nat} (h : pos < s.size) (hno : no = (s[pos] == 45)) (hp1 : p1 = stepN s pos no) (hq : ∃ h : p1 < s.size, s[p1] = 34)
    (hnot : ∀ j (hj : j < s.size), p1 + 1 ≤ j → j < s.size → s[j] ≠ 34) : codeF L (s.data.toList.drop pos) = 230 := by
  obtain ⟨hb, hn⟩ := body_drop h hno
  obtain ⟨hq1, hq2⟩ := hq
  rw [← hp1, drop_at hq1, hq2] at hb
  refine code_lone hb fun hm => ?_
  exact seg_not (s := s) (a := p1 + 1) (b := s.size) (P := fun x => x ≠ 34) hnot (Nat.le_refl _) 34 (by rwa [List.take_of_length_le (by rw [List.length_drop, ← size_list]; omega)]) rfl
theorem step_bare {s : ByteArray} {L : List Cl} {no : Bool} {pos p1 k : Nat} (h : pos < s.size) (h32 : s[pos] ≠ 32) (hno : no = (s[pos] == 45)) (hp1 : p1 = stepN s pos no) (hq : ∀ h : p1 < s.size, s[p1] ≠ 34) (hk1 : p1 ≤ k) (hk : k ≤ s.size)
    (hnot : ∀ j (hj : j < s.size), p1 ≤ j → j < k → s[j] ≠ 32 ∧ s[j] ≠ 34) (hend : ∀ h : k < s.size, s[k] = 32 ∨ s[k] = 34) : StepTo s L no pos k (s.extract p1 k) := by
  intro o
  obtain ⟨hb, hn⟩ := body_drop h hno
  rw [← hp1] at hb
  have h0 : s.data.toList.drop pos ≠ [] := by rw [drop_at h]; simp
  have h32' : (s.data.toList.drop pos).head? ≠ some 32 := by rw [drop_at h, List.head?_cons]; simpa using h32
  have h34 : (bodyF (s.data.toList.drop pos)).head? ≠ some 34 := by
    rw [hb]
    by_cases hlt : p1 < s.size
    · rw [drop_at hlt, List.head?_cons]; simpa using hq hlt
    · rw [drop_full (by omega)]; simp
  rw [drop_split hk1] at hb
  obtain ⟨o', hc⟩ := code_bare (L := L) hb h0 h32' h34 (fun x hx => seg_not (P := fun x => x ≠ 32 ∧ x ≠ 34) hnot hk x hx) (by
    by_cases hlt : k < s.size
    · rw [drop_at hlt, List.head?_cons]
      rcases hend hlt with e | e <;> rw [e] <;> simp
    · left; exact drop_full (by omega))
  rw [hc, hn, ext_list]
  exact code_one _
end Go.Proofs.YthpbdeiphagkiaaGreatDoor
