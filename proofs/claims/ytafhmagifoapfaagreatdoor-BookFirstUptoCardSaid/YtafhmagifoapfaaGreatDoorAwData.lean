/- awake, reckoned: the program's tables, the functions of which a contract is known, boxes. -/
import Derived.Test.YtafhmagifoapfaaGreatDoorEvH
import Derived.Test.YtafhmagifoapfaaGreatDoorProg
namespace Go.Proofs.YtafhmagifoapfaaGreatDoor
open Go.RowKit
noncomputable section
def rkTT : PT TD := tdTab Tryz.prog
def rkFT : PT Func := fnTab Tryz.prog
def rkEQ : PT (List (Nat × Nat)) := tabI (eqOf Tryz.prog) [79]
def rkXT : PT XK := ((PT.leaf.set XK.idxByte 256).set XK.cntByte 262).set (XK.mkNoZero 33) 264
def rkTT' : PT TD := PT.force rkTT fun T => T
def rkFT' : PT Func := PT.force rkFT fun T => T
def rkEQ' : PT (List (Nat × Nat)) := PT.force rkEQ fun T => T
def rkXT' : PT XK := PT.force rkXT fun T => T
theorem rkTT_eq : rkTT' = rkTT := by unfold rkTT'; rw [PT.force_eq]
theorem rkFT_eq : rkFT' = rkFT := by unfold rkFT'; rw [PT.force_eq]
theorem rkEQ_eq : rkEQ' = rkEQ := by unfold rkEQ'; rw [PT.force_eq]
theorem rkXT_eq : rkXT' = rkXT := by unfold rkXT'; rw [PT.force_eq]
def rkE (G : Nat) : Env := { TT := rkTT', EQ := rkEQ', G := G }
def rkZ : Fns := { FT := rkFT', XT := rkXT' }
def awL : List (Nat × Nat) := [(282, 0), (335, 0)]
def awBase (G : Nat) : CallX := orX (bxSum 134) (orX (bxCopy G 217 awL) (bxStr G 155 5))
def awTex (G : Nat) : CallX := textsX (rkE G) rkZ (tower (rkE G) rkZ (awBase G) 1000000 40).c (tower (rkE G) rkZ (awBase G) 1000000 40).y 1000000 294 242
def awB (G : Nat) (l : CallX) : CallX := orX (awBase G) (orX l (orX (bxAs G 18 87 68 70) (awTex G)))
/-- Calls, where the names from G on are new; 'l': boxes. -/
def awC (G : Nat) (l : CallX) : CallX := (tower (rkE G) rkZ (awB G l) 1000000 60).c
def noX : CallX := fun _ _ _ _ => none
end
end Go.Proofs.YtafhmagifoapfaaGreatDoor
