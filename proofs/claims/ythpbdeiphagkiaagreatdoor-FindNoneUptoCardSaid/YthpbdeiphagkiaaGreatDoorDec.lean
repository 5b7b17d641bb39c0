/- unicode/utf8.DecodeRuneInString of what stands behind a place; the tables stay. -/
import Derived.Test.YthpbdeiphagkiaaGreatDoorBuilder
import Derived.Test.YthpbdeiphagkiaaGreatDoorSmall
import Derived.Lib.Strings
import Derived.Lib.IndexBytes
namespace Go.Proofs.YthpbdeiphagkiaaGreatDoor
open Go.RowKit Find

/-- The two tables of unicode/utf8 lie as they are laid. -/
def Tabs (w : World) : Prop := Lib.Utf8Tabs 1 2 w
theorem Tabs.lt {w : World} (h : Tabs w) : 1 < w.heap.size ∧ 2 < w.heap.size :=
  ⟨World.block_lt_of_cell? w _ (h.1 0 (by omega)), World.block_lt_of_cell? w _ (h.2 0 (by omega)).1⟩
theorem Tabs.ev {F F' : Nat → Prop} {w w' : World} (h : Tabs w) (e : Ev F w F' w') (h1 : ¬ F 1) (h2 : ¬ F 2) : Tabs w' :=
  ⟨fun c hc => (e.cell h.lt.1 h1).trans (h.1 c hc), fun i hi => ⟨(e.cell h.lt.2 h2).trans (h.2 i hi).1, (e.cell h.lt.2 h2).trans (h.2 i hi).2⟩⟩
theorem Tabs.below {w w' : World} (h : Tabs w) (e : Below w.heap.size w w') : Tabs w' := h.ev ((Ev.refl (fun _ => False) w).below e) id id
theorem Tabs.alloc {w : World} (h : Tabs w) (o : Obj) : Tabs (w.alloc o) := h.below ((Below.refl _ _).alloc (Nat.le_refl _) _)
theorem Tabs.setCell {w : World} (h : Tabs w) {b i : Nat} (h1 : b ≠ 1) (h2 : b ≠ 2) (v : Value) : Tabs (w.setCell ⟨b, i, none⟩ v) :=
  h.ev (F := fun k => k = b) (F' := fun k => k = b) ((Ev.refl (fun k => k = b) w).setCell (p := ⟨b, i, none⟩) (.inl rfl) v) (fun e => h1 e.symm) (fun e => h2 e.symm)

theorem decL_hi (l : List UInt8) : (decL l).1 ≤ 1114111 ∧ 1 ≤ (decL l).2 := ⟨by have := decL_valid l; rw [valid_iff] at this; omega, decL_pos l⟩
theorem size_list (s : ByteArray) : s.size = s.data.toList.length := by show s.data.size = _; rw [Array.length_toList]
theorem chars_at (s : ByteArray) (i : Nat) (h : i < s.size) :
    chars (s.data.toList.drop i) = ((decL (s.data.toList.drop i)).1, (s.data.toList.drop i).take (decL (s.data.toList.drop i)).2) :: chars (s.data.toList.drop (i + (decL (s.data.toList.drop i)).2)) := by
  rw [chars_cons _ (by intro e; have := congrArg List.length e; rw [List.length_drop, ← size_list] at this; simp at this; omega), List.drop_drop]

theorem dec_at (s : ByteArray) (i : Nat) (h : i < s.size) (w : World) (hT : Tabs w) :
    Calls Tryz.prog 45 #[.string (s.extract i s.size)] w fun e w' =>
      e = .returned (.tuple #[.int .i32 (decL (s.data.toList.drop i)).1, .int .i64 (decL (s.data.toList.drop i)).2]) ∧ Below w.heap.size w w' := by
  have hd : Lib.decodeGo (s.extract i s.size) = decL (s.data.toList.drop i) := by
    have h1 : (s.extract i s.size).data.toList = s.data.toList.drop i := Lib.extract_to_end s i
    have h2 : (s.extract i s.size).size ≠ 0 := by
      rw [size_list, h1, List.length_drop, ← size_list]; omega
    unfold Lib.decodeGo
    rw [if_neg h2, decode_eq, h1, List.drop_zero]
  have := Tryz.utf8_DecodeRuneInString (s.extract i s.size) w hT
  rw [hd] at this
  exact this
end Go.Proofs.YthpbdeiphagkiaaGreatDoor
