/- BookFirst: the closed facts of the row and of its card, one by one (the kernel runs each by itself). -/
import Derived.Test.YtafhmagifoapfaaGreatDoorCards
import Derived.Test.YtafhmagifoapfaaGreatDoorTie
import Derived.JoinedCond
import Derived.SevenTiedAt
import Derived.KernelRfl
namespace Go.Proofs.YtafhmagifoapfaaGreatDoor
theorem and_mk {a b : Bool} (h : a = true) (k : b = true) : (a && b) = true := by rw [h, k]; rfl
set_option maxHeartbeats 12800000 in
set_option maxRecDepth 100000 in
theorem first_facts : joinedFacts Tryz.pinned.checked.prog 3 Tryz.f3 (Rows.OpenSpec.upto Rows.bookFirstSpec).bare Rows.bookFirstUptoRow = true := by
  unfold joinedFacts
  repeat' (with_reducible refine and_mk ?_ ?_)
  all_goals as_aux_lemma => kernel_rfl
theorem first_inst : Tryz.f3.isInstance Tryz.pinned.checked.prog Rows.bookFirstUptoRow.origin Rows.bookFirstUptoRow.targs := of_decide_eq_true (by kernel_rfl)
theorem first_wrap : Tryz.f3.isWrapper Tryz.pinned.checked.prog Rows.bookFirstUptoRow.wrapper Rows.bookFirstUptoRow.mainSum := by
  unfold Func.isWrapper
  first | (rw [if_pos (by decide +kernel)]; kernel_rfl) | (rw [if_neg (by decide +kernel)]; exact ⟨rfl, rfl⟩)
set_option maxHeartbeats 12800000 in
theorem first_wf : Rows.bookFirstUptoRow.wfByText (Rows.OpenSpec.upto Rows.bookFirstSpec) = true := by kernel_rfl
theorem first_main : Tryz.pinned.checked.prog.mainIs = some (true, "2080ae96c2b24389d3bcecb014d7fcd33d7fc097eb1aa94feb608bbd506937ba".toList) := by kernel_rfl
set_option maxHeartbeats 12800000 in
theorem first_goes : false = Rows.bookFirstUptoRow.goesBy Tryz.pinned.checked.prog := by kernel_rfl
set_option maxHeartbeats 12800000 in
theorem first_looks : true = Tryz.pinned.checked.prog.looks [] := by kernel_rfl
theorem first_named : Tryz.prog.funcNamed "folio/foliolaw21.BookFirst" = some 3 := by kernel_rfl
set_option maxHeartbeats 12800000 in
theorem first_stand : Tryz.prog.wantsStandIn 22 = false := by kernel_rfl
end Go.Proofs.YtafhmagifoapfaaGreatDoor
