/- awake, reckoned: calls by themselves. -/
import Derived.Test.YtafhmagifoapfaaGreatDoorAwData
import Derived.KernelRfl
import Derived.Test.YtafhmagifoapfaaGreatDoorAwB
namespace Go.Proofs.YtafhmagifoapfaaGreatDoor
noncomputable section
def b711 : Lit where
  f := 6
  args := [.s 28 1057311384354097484985754205149424636714631781432898559041017753098]
  nx := 711
  H := []
  out := .tup [.agg [.sln, .slu 762 0 1 8], .ni]
  new := [(762, .row 101 8 0 [(0, .i .i64 (.ofNat 0)), (1, .s 4 1701670728), (2, .s 4 1701670728), (3, .i .i64 (.ofNat 0)), (4, .sln), (5, .sln), (6, .slu 793 0 1 6), (7, .i .i64 (.ofNat 2))]),
    (790, .row 191 25 0 [(0, .i .i64 (.ofNat 1)), (1, .s 3 2124104), (2, .s 0 0), (3, .i .i64 (.ofNat 3)), (4, .i .i64 (.ofNat 1)), (5, .i .i64 (.ofNat 2)), (6, .s 0 0), (7, .s 1 98), (8, .i .i64 (.ofNat 3)), (9, .i .i64 (.ofNat 4)), (10, .i .i64 (.ofNat 1)), (11, .s 5 435710945396), (12, .s 0 0), (13, .i .i64 (.ofNat 3)), (14, .i .i64 (.ofNat 7)), (15, .i .i64 (.ofNat 5)), (16, .s 0 0), (17, .s 0 0), (18, .i .i64 (.ofNat 3)), (19, .i .i64 (.ofNat 12)), (20, .i .i64 (.ofNat 1)), (21, .s 1 46), (22, .s 0 0), (23, .i .i64 (.ofNat 3)), (24, .i .i64 (.ofNat 13))]),
    (793, .row 114 6 0 [(0, .i .i64 (.ofNat 1)), (1, .i .i64 (.ofNat 0)), (2, .s 0 0), (3, .sln), (4, .slu 790 0 5 5), (5, .i .i64 (.ofNat 3))])]
  nx' := 801
def b711X : CallX := noX
theorem b711_names : litN b711 = true := by kernel_rfl
theorem b711_run : litC b711 (awC 711 b711X) = true := by kernel_rfl
end
noncomputable section
def b535 : Lit where
  f := 64
  args := [.agg [.i .i64 (.ofNat 1), .sln, .sln, .slu 318 0 1 8]]
  nx := 535
  H := [(278, .row 348 28 0 [(0, .i .i64 (.ofNat 8)), (1, .i .i64 (.negSucc 0)), (2, .s 0 0), (3, .sln), (4, .i .i64 (.ofNat 1)), (5, .i .i64 (.ofNat 0)), (6, .s 3 2124104), (7, .sln), (8, .i .i64 (.ofNat 2)), (9, .i .i64 (.ofNat 0)), (10, .s 0 0), (11, .sln), (12, .i .i64 (.ofNat 1)), (13, .i .i64 (.ofNat 0)), (14, .s 5 435710945396), (15, .sln), (16, .i .i64 (.ofNat 5)), (17, .i .i64 (.ofNat 0)), (18, .s 0 0), (19, .sln), (20, .i .i64 (.ofNat 1)), (21, .i .i64 (.ofNat 0)), (22, .s 1 46), (23, .sln), (24, .i .i64 (.ofNat 9)), (25, .i .i64 (.ofNat 0)), (26, .s 0 0), (27, .sln)]),
    (318, .row 232 8 0 [(0, .i .i64 (.ofNat 0)), (1, .i .i64 (.ofNat 0)), (2, .s 4 1701670728), (3, .s 4 1701670728), (4, .i .i64 (.ofNat 0)), (5, .sln), (6, .sln), (7, .slu 278 0 7 4)])]
  out := .i .i64 (.ofNat 0)
  new := []
  nx' := 1309
def b535X : CallX := (orX (litX b711) (orX (litX b820) noX))
theorem b535_names : litN b535 = true := by kernel_rfl
theorem b535_run : litC b535 (awC 535 b535X) = true := by kernel_rfl
end
end Go.Proofs.YtafhmagifoapfaaGreatDoor
