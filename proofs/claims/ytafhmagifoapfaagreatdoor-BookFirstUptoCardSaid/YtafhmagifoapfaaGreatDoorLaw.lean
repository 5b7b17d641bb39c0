/- BookFirst: with more sources behind a fault of reading stays the fault (the first fault that a source has is the fault of the whole book, whatever stands behind it). The second form: what it reads is of bulk at most 1048576. No other condition. -/
import Derived.Test.YtafhmagifoapfaaGreatDoorLifted
import Derived.Test.YtafhmagifoapfaaGreatDoorFacts
namespace Go.Proofs.YtafhmagifoapfaaGreatDoor
open Go.ChangeShapes Go.WideShapes Go.ChangeAt Go.RowKit Go.Deep
theorem first_upto : Rows.BookFirstUptoSaid :=
  OpenClaim.holds_of_cond 3 Tryz.f3 rfl rfl rfl rfl rfl rfl rfl ⟨rfl, rfl, rfl, rfl, rfl⟩ rfl rfl rfl rfl rfl first_named Tryz.func3 first_facts first_inst first_wrap
    (fun os started H enc _ F => by rw [OpenClaim.pre_eq_preRow]; exact first_lifted os started H enc F)
theorem first_plain (f : FuncId) (fn : Func) (hf : Tryz.pinned.checked.prog.funcNamed "folio/foliolaw21.BookFirst" = some f) (hfn : Tryz.pinned.checked.prog.funcs[f]? = some fn) :
    true = Tryz.pinned.checked.prog.looks [] ∧ ∀ (j : Nat) t, fn.params[j]? = some t → Tryz.pinned.checked.prog.wantsStandIn t = false := by
  obtain rfl : f = 3 := Option.some.inj (first_named.symm.trans hf) |>.symm
  obtain rfl : fn = Tryz.f3 := (Option.some.inj (Tryz.func3.symm.trans hfn)).symm
  refine ⟨first_looks, fun j t ht => ?_⟩
  rw [Tryz.params3] at ht
  have hm := Array.mem_of_getElem? ht
  simp at hm
  subst hm
  exact first_stand
theorem first_holds : Rows.BookFirstUptoCardSaid :=
  Claim7.holds_tied_plain_at .later [] _ _ _ _ first_upto (fun _ h => by cases h) first_wf (fun _ h => by cases h) bookFirstUpto_row_tie rfl ⟨rfl, rfl⟩ first_main rfl first_plain first_goes
#print axioms first_holds
end Go.Proofs.YtafhmagifoapfaaGreatDoor
