/- (*find.Finder).has. -/
import Derived.Test.YthpbdeiphagkiaaGreatDoorHits
import Derived.BigQuiet
import Derived.Deep.QuietTactic
namespace Go.Proofs.YthpbdeiphagkiaaGreatDoor
open Go.RowKit Find

theorem below_drewN {B : Nat} {a w : World} (h : Below B a w) (n : Nat) : Below B a (w.drewN n) := ⟨h.os, h.tape, h.output, h.size, h.block⟩

set_option maxHeartbeats 4000000 in
set_option maxRecDepth 100000 in
theorem has_any (c : Cl) (LL : Lists) (b : Nat) (aw : Option Addr) (cw : Nat) (w : World) (hw : StrSl w (.slice aw c.words.length cw) c.words) (hne : c.words ≠ []) (hf : FinderIs w b LL) (hn : c.words.length ≤ 1099511627776) :
    Calls Tryz.prog 42 #[.pointer (some ⟨b, 0, none⟩), .agg #[.slice aw c.words.length cw, .bool c.no, .bool c.opn]] w fun e w' => e = .returned (.bool (hasC LL c)) ∧ Below w.heap.size w w' := by
  have hz3 : Tryz.prog.cellsOf 62 = 3 := by kernel_rfl
  have hpos : 0 < c.words.length := List.length_pos_iff.2 hne
  obtain ⟨gw, ow, rfl, hcw⟩ : ∃ g o, aw = some ⟨g, o, none⟩ ∧ w.cell? ⟨g, o, none⟩ = some (st c.words[0]) := by
    obtain ⟨a, cc, he, hc⟩ := hw
    obtain ⟨g, o, rfl, hcell⟩ := hc 0 hpos
    exact ⟨g, o, by simpa using congrArg (fun v => match v with | Value.slice a _ _ => a | _ => none) he, hcell⟩
  obtain ⟨vl, m, hb, _, hsp⟩ := hf
  obtain ⟨v, hlook, hown, _⟩ := hsp.at_ c.words[0]
  obtain ⟨av, cv, rfl⟩ := slice_form hown
  have hh : hasC LL c = ((c.words.length == 1 && c.opn) || !(spotsOf LL c.words[0]).isEmpty) := by
    unfold hasC
    rw [List.getD_eq_getElem?_getD, List.getElem?_eq_getElem hpos]; rfl
  have HH := Lib.hid hh
  have hlm := hsp.lt
  have hemp : (spotsOf LL c.words[0]).isEmpty = !decide (0 < (spotsOf LL c.words[0]).length) := by
    cases spotsOf LL c.words[0] <;> simp
  have HE := Lib.hid hemp
  generalize hns : (spotsOf LL c.words[0]).length = ns at *
  have HNS := Lib.hid hns
  generalize hx : c.words[0] = x at *
  have HX := Lib.hid hx
  have cb2 : w.cell? ⟨b, 2, none⟩ = some (.map (some m)) := by rw [Lib.cell_of_heap hb]; rfl
  have lb := lt_of_heap hb
  have lgw := World.block_lt_of_cell? w _ hcw
  simp only at lgw
  have hl : ∀ nq, (Instr.lookup 28 (.map (some m)) (st x) false).run Tryz.prog ((w.alloc (.cells #[.slice (some ⟨gw, ow, none⟩) c.words.length cw, .bool c.no, .bool c.opn] 62)).drewN nq) = .ok (.slice av ns cv) ((w.alloc (.cells #[.slice (some ⟨gw, ow, none⟩) c.words.length cw, .bool c.no, .bool c.opn] 62)).drewN nq) := fun nq => hlook _ (Below.heap_alloc _ _ _ hlm)
  clear hlook hown hh hemp hns hx hb hsp hw hlm
  have hpos' : (0 : Int) < (c.words.length : Int) := by omega
  have h0i : (0 : Int) ≤ 0 := by omega
  by_cases h1 : c.words.length = 1
  · have hb1 : ((c.words.length : Int) == 1) = true := by rw [beq_iff_eq]; omega
    cases ho : c.opn with
    | true =>
      have HR := Lib.hid (show hasC LL c = true by rw [HH.out, h1, ho]; rfl)
      rw [ho] at hl
      clear ho
      have HB1 := Lib.hid h1
      clear h1
      go_enter Tryz.func42, Tryz.ntmps42
      go_wp2
      go_quiet (fail)
      go_wp2
      go_ret
      exact ⟨by rw [HR.out]; rfl, below_drewN ((Below.refl _ _).alloc (Nat.le_refl _) _) _⟩
    | false =>
      have HR := Lib.hid (show hasC LL c = decide (0 < ns) by rw [HH.out, HE.out, ho]; simp)
      rw [ho] at hl
      clear ho
      have HB1 := Lib.hid h1
      clear h1
      go_enter Tryz.func42, Tryz.ntmps42
      go_wp2
      go_quiet (fail)
      go_wp2
      go_ret
      exact ⟨by rw [HR.out]; rfl, below_drewN ((Below.refl _ _).alloc (Nat.le_refl _) _) _⟩
  · have hb1 : ((c.words.length : Int) == 1) = false := by rw [beq_eq_false_iff_ne]; omega
    have HR := Lib.hid (show hasC LL c = decide (0 < ns) by rw [HH.out, HE.out]; simp [h1])
    have HB1 := Lib.hid h1
    clear h1
    go_enter Tryz.func42, Tryz.ntmps42
    go_wp2
    go_quiet (fail)
    go_wp2
    go_ret
    exact ⟨by rw [HR.out]; rfl, below_drewN ((Below.refl _ _).alloc (Nat.le_refl _) _) _⟩
end Go.Proofs.YthpbdeiphagkiaaGreatDoor
