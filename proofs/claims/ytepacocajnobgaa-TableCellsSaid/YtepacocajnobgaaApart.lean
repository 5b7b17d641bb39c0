/- columns of package table, apart of the reference: may columns stand so? -/
import Derived.Test.YtepacocajnobgaaRowSpec
import Derived.Test.YtepacocajnobgaaCols
namespace Go.Proofs.Ytepacocajnobgaa
open Go.RowKit

def ColAt (w : World) (b off : Nat) (cs : List (Int × Int)) : Prop := ∀ k, k < cs.length → w.cell? ⟨b, off + k * 2, none⟩ = some (.int .i64 (cs.getD k (0, 0)).1) ∧ w.cell? ⟨b, off + k * 2 + 1, none⟩ = some (.int .i64 (cs.getD k (0, 0)).2)
def ColSl (w : World) (v : Value) (cs : List (Int × Int)) : Prop := ∃ a c, v = .slice a cs.length c ∧ ∀ k, k < cs.length → ∃ b off, a = some ⟨b, off, none⟩ ∧ ColAt w b off cs
theorem ColAt.lt {w : World} {b off : Nat} {cs : List (Int × Int)} (h : ColAt w b off cs) (k : Nat) (hk : k < cs.length) : b < w.heap.size := World.block_lt_of_cell? w _ (h k hk).1
theorem ColAt.same {w w' : World} {b off : Nat} {cs : List (Int × Int)} (h : ColAt w b off cs) (hb : w'.heap[b]? = w.heap[b]?) : ColAt w' b off cs := fun k hk => by
  rw [World.cell?_of_block (w := w) (a := ⟨b, off + k * 2, none⟩) hb, World.cell?_of_block (w := w) (a := ⟨b, off + k * 2 + 1, none⟩) hb]; exact h k hk
theorem ColSl.new {w w' : World} {v : Value} {cs : List (Int × Int)} (h : ColSl w v cs) (hb : Below w.heap.size w w') : ColSl w' v cs := by
  obtain ⟨a, c, rfl, h1⟩ := h
  refine ⟨a, c, rfl, fun k hk => ?_⟩
  obtain ⟨b, off, ha, hat⟩ := h1 k hk
  exact ⟨b, off, ha, hat.same (hb.block b (hat.lt k hk))⟩

def colErr (cs : List (Int × Int)) : Int := if goodC cs cs.length then 0 else 1
def apartOf (cs : List (Int × Int)) : Bool := goodC cs cs.length && decide (1 ≤ cs.length) && decide (cs.length ≤ 8)

set_option maxRecDepth 100000 in
set_option maxHeartbeats 1000000 in
theorem columns_any (v : Value) (cs : List (Int × Int)) (w : World) (hv : ColSl w v cs) (hl : cs.length ≤ 4611686018427387904) :
    Calls Try.prog 41 #[v] w fun e w' => e = .returned (.int .i64 (colErr cs)) ∧ Below w.heap.size w w' := by
  obtain ⟨a, c, rfl, hat⟩ := hv
  have Hat := Lib.hid hat
  clear hat
  go_enter Try.func41, Try.ntmps41
  go_wp2
  go_loopw [3, 8] (fun en i wr => ∃ k : Nat, k ≤ cs.length ∧ i = .int .i64 k ∧ en = .int .i64 (endC cs k) ∧ goodC cs k = true ∧ Below w.heap.size w wr) (fun _ i _ => cs.length - (intOf i).toNat)
  case atStart => exact ⟨0, Nat.zero_le _, rfl, rfl, rfl, Below.refl _ _⟩
  case round =>
    obtain ⟨k, hk, rfl, rfl, hgood, hbel⟩ := hrel
    have heb := endC_bd hgood
    have Hgood := Lib.hid hgood
    have Hbel := Lib.hid hbel
    have hwr : w.heap.size ≤ wr.heap.size := hbel.size
    clear hgood hbel
    by_cases hlt : k < cs.length
    · obtain ⟨b, off, ha, hat⟩ := Hat.out k hlt
      subst ha
      have hbw := hat.lt k hlt
      obtain ⟨c0, c1⟩ := (hat.same (Hbel.out.block b hbw)) k hlt
      have Hnext := Lib.hid (show goodC cs (k + 1) = (goodC cs k && okC (endC cs k) (cs.getD k (0, 0))) from rfl)
      have Hend := Lib.hid (show endC cs (k + 1) = (cs.getD k (0, 0)).1 + (cs.getD k (0, 0)).2 from rfl)
      have Hall := Lib.hid (show goodC cs cs.length = true → okC (endC cs k) (cs.getD k (0, 0)) = true from fun h => goodC_mono h k hlt)
      clear hat
      generalize cs.getD k (0, 0) = q at *
      obtain ⟨at_, x⟩ := q
      try simp only at c0 c1
      generalize endC cs k = en at *
      obtain ⟨e1, e2⟩ := heb
      have hz : (wr.alloc (.cells #[.int .i64 at_, .int .i64 x] 59)).heap.size = wr.heap.size + 1 := by simp
      have Hz := Lib.hid hz
      clear hz
      have fin : ¬ (en ≤ at_ ∧ at_ ≤ 200 ∧ 1 ≤ x ∧ x ≤ 200 ∧ at_ + x ≤ 200) → colErr cs = 1 := fun h => by
        unfold colErr; rw [if_neg]; intro hg; exact h (okC_bd (Hall.out hg))
      have Fin := Lib.hid fin
      clear fin
      by_cases h1 : at_ < en
      · go_wp2
        go_ret
        exact ⟨ret_int (Fin.out (by omega)).symm, Hbel.out.alloc hwr _⟩
      · by_cases h2 : x < 1
        · go_wp2
          go_ret
          exact ⟨ret_int (Fin.out (by omega)).symm, Hbel.out.alloc hwr _⟩
        · by_cases h3 : 200 < x
          · go_wp2
            go_ret
            exact ⟨ret_int (Fin.out (by omega)).symm, Hbel.out.alloc hwr _⟩
          · by_cases h4 : 200 - x < at_
            · go_wp2
              go_ret
              exact ⟨ret_int (Fin.out (by omega)).symm, Hbel.out.alloc hwr _⟩
            · go_wp2
              go_roundw
              case rel => exact ⟨k + 1, by omega, by go_num, by rw [Hend.out], by rw [Hnext.out, Hgood.out]; simp [okC]; omega, Hbel.out.alloc hwr _⟩
              case measure => simp [intOf]; omega
    · go_wp2
      go_ret
      have hkn : k = cs.length := by omega
      subst hkn
      exact ⟨ret_int (by unfold colErr; rw [if_pos Hgood.out]), Hbel.out⟩

set_option maxRecDepth 100000 in
set_option maxHeartbeats 1000000 in
theorem apart_any (v : Value) (cs : List (Int × Int)) (w : World) (hv : ColSl w v cs) (hl : cs.length ≤ 4611686018427387904) :
    Calls Try.prog 43 #[v] w fun e w' => e = .returned (.bool (apartOf cs)) ∧ Below w.heap.size w w' := by
  obtain ⟨a, c, rfl, hat⟩ := hv
  have Hat := Lib.hid hat
  clear hat
  go_enter Try.func43, Try.ntmps43
  go_wp2
  go_loopw [3, 4] (fun en i wr => ∃ k : Nat, k ≤ cs.length ∧ i = .int .i64 k ∧ en = .int .i64 (endC cs k) ∧ goodC cs k = true ∧ Below w.heap.size w wr) (fun _ i _ => cs.length - (intOf i).toNat)
  case atStart => exact ⟨0, Nat.zero_le _, rfl, rfl, rfl, Below.refl _ _⟩
  case round =>
    obtain ⟨k, hk, rfl, rfl, hgood, hbel⟩ := hrel
    have heb := endC_bd hgood
    have Hgood := Lib.hid hgood
    have Hbel := Lib.hid hbel
    have hwr : w.heap.size ≤ wr.heap.size := hbel.size
    clear hgood hbel
    by_cases hlt : k < cs.length
    · obtain ⟨b, off, ha, hat⟩ := Hat.out k hlt
      subst ha
      have hbw := hat.lt k hlt
      obtain ⟨c0, c1⟩ := (hat.same (Hbel.out.block b hbw)) k hlt
      have Hnext := Lib.hid (show goodC cs (k + 1) = (goodC cs k && okC (endC cs k) (cs.getD k (0, 0))) from rfl)
      have Hend := Lib.hid (show endC cs (k + 1) = (cs.getD k (0, 0)).1 + (cs.getD k (0, 0)).2 from rfl)
      have Hall := Lib.hid (show goodC cs cs.length = true → okC (endC cs k) (cs.getD k (0, 0)) = true from fun h => goodC_mono h k hlt)
      clear hat
      generalize cs.getD k (0, 0) = q at *
      obtain ⟨at_, x⟩ := q
      try simp only at c0 c1
      generalize endC cs k = en at *
      obtain ⟨e1, e2⟩ := heb
      have fin : ¬ (en ≤ at_ ∧ at_ ≤ 200 ∧ 1 ≤ x ∧ x ≤ 200 ∧ at_ + x ≤ 200) → apartOf cs = false := fun h => by
        unfold apartOf
        cases hg : goodC cs cs.length with
        | false => rfl
        | true => exact absurd (okC_bd (Hall.out hg)) h
      have Fin := Lib.hid fin
      clear fin
      by_cases h1 : at_ < en
      · go_wp2
        go_ret
        exact ⟨ret_bool (Fin.out (by omega)).symm, Hbel.out.alloc hwr _⟩
      · by_cases h0 : 200 < at_
        · go_wp2
          go_ret
          exact ⟨ret_bool (Fin.out (by omega)).symm, Hbel.out.alloc hwr _⟩
        · by_cases h2 : x < 1
          · go_wp2
            go_ret
            exact ⟨ret_bool (Fin.out (by omega)).symm, Hbel.out.alloc hwr _⟩
          · by_cases h3 : 200 < x
            · go_wp2
              go_ret
              exact ⟨ret_bool (Fin.out (by omega)).symm, Hbel.out.alloc hwr _⟩
            · by_cases h4 : 200 < at_ + x
              · go_wp2
                go_ret
                exact ⟨ret_bool (Fin.out (by omega)).symm, Hbel.out.alloc hwr _⟩
              · go_wp2
                go_roundw
                case rel => exact ⟨k + 1, by omega, by go_num, by rw [Hend.out], by rw [Hnext.out, Hgood.out]; simp [okC]; omega, Hbel.out.alloc hwr _⟩
                case measure => simp [intOf]; omega
    · have hkn : k = cs.length := by omega
      subst hkn
      by_cases hn1 : 1 ≤ cs.length
      · by_cases hn2 : cs.length ≤ 8
        · go_wp2
          go_ret
          exact ⟨ret_bool (by unfold apartOf; rw [Hgood.out, Bool.eq_iff_iff]; simp; omega), Hbel.out⟩
        · go_wp2
          go_ret
          exact ⟨ret_bool (by unfold apartOf; rw [Hgood.out, Bool.eq_iff_iff]; simp; omega), Hbel.out⟩
      · go_wp2
        go_ret
        exact ⟨ret_bool (by unfold apartOf; rw [Hgood.out, Bool.eq_iff_iff]; simp; omega), Hbel.out⟩
end Go.Proofs.Ytepacocajnobgaa
