/- awake, reckoned: calls by themselves. -/
import Derived.Test.YtafhmagifoapfaaGreatDoorAwData
import Derived.KernelRfl
import Derived.Test.YtafhmagifoapfaaGreatDoorAwC
namespace Go.Proofs.YtafhmagifoapfaaGreatDoor
noncomputable section
def b1333 : Lit where
  f := 66
  args := [.agg [.i .i64 (.ofNat 1), .sln, .sln, .slu 318 0 1 8], .sln]
  nx := 1333
  H := [(278, .row 348 28 0 [(0, .i .i64 (.ofNat 8)), (1, .i .i64 (.negSucc 0)), (2, .s 0 0), (3, .sln), (4, .i .i64 (.ofNat 1)), (5, .i .i64 (.ofNat 0)), (6, .s 3 2124104), (7, .sln), (8, .i .i64 (.ofNat 2)), (9, .i .i64 (.ofNat 0)), (10, .s 0 0), (11, .sln), (12, .i .i64 (.ofNat 1)), (13, .i .i64 (.ofNat 0)), (14, .s 5 435710945396), (15, .sln), (16, .i .i64 (.ofNat 5)), (17, .i .i64 (.ofNat 0)), (18, .s 0 0), (19, .sln), (20, .i .i64 (.ofNat 1)), (21, .i .i64 (.ofNat 0)), (22, .s 1 46), (23, .sln), (24, .i .i64 (.ofNat 9)), (25, .i .i64 (.ofNat 0)), (26, .s 0 0), (27, .sln)]),
    (318, .row 232 8 0 [(0, .i .i64 (.ofNat 0)), (1, .i .i64 (.ofNat 0)), (2, .s 4 1701670728), (3, .s 4 1701670728), (4, .i .i64 (.ofNat 0)), (5, .sln), (6, .sln), (7, .slu 278 0 7 4)])]
  out := .sl 1481 0 6 6
  new := [(1347, .row 5 2 0 [(0, .i .u8 (.ofNat 1)), (1, .i .u8 (.ofNat 0))]),
    (1471, .row 5 18 0 [(0, .i .u8 (.ofNat 1)), (1, .i .u8 (.ofNat 0)), (2, .i .u8 (.ofNat 0)), (3, .i .u8 (.ofNat 4)), (4, .i .u8 (.ofNat 72)), (5, .i .u8 (.ofNat 111)), (6, .i .u8 (.ofNat 109)), (7, .i .u8 (.ofNat 101)), (8, .i .u8 (.ofNat 4)), (9, .i .u8 (.ofNat 72)), (10, .i .u8 (.ofNat 111)), (11, .i .u8 (.ofNat 109)), (12, .i .u8 (.ofNat 101)), (13, .i .u8 (.ofNat 0)), (14, .i .u8 (.ofNat 0)), (15, .i .u8 (.ofNat 0)), (16, .i .u8 (.ofNat 10)), (17, .i .u8 (.ofNat 8))]),
    (1472, .row 5 10 0 [(0, .i .u8 (.ofNat 0)), (1, .i .u8 (.ofNat 72)), (2, .i .u8 (.ofNat 105)), (3, .i .u8 (.ofNat 32)), (4, .i .u8 (.ofNat 116)), (5, .i .u8 (.ofNat 104)), (6, .i .u8 (.ofNat 101)), (7, .i .u8 (.ofNat 114)), (8, .i .u8 (.ofNat 101)), (9, .i .u8 (.ofNat 46))]),
    (1473, .row 5 8 0 [(0, .i .u8 (.ofNat 128)), (1, .i .u8 (.ofNat 18)), (2, .i .u8 (.ofNat 32)), (3, .i .u8 (.ofNat 20)), (4, .i .u8 (.ofNat 80)), (5, .i .u8 (.ofNat 16)), (6, .i .u8 (.ofNat 144)), (7, .i .u8 (.ofNat 240))]),
    (1477, .row 5 1 0 [(0, .i .u8 (.ofNat 0))]),
    (1479, .row 5 10 0 [(0, .i .u8 (.ofNat 0)), (1, .i .u8 (.ofNat 0)), (2, .i .u8 (.ofNat 0)), (3, .i .u8 (.ofNat 0)), (4, .i .u8 (.ofNat 0)), (5, .i .u8 (.ofNat 0)), (6, .i .u8 (.ofNat 0)), (7, .i .u8 (.ofNat 0)), (8, .i .u8 (.ofNat 0)), (9, .i .u8 (.ofNat 0))]),
    (1481, .row 145 12 0 [(0, .i .u8 (.ofNat 2)), (1, .slu 1347 0 2 1), (2, .i .u8 (.ofNat 3)), (3, .sl 1479 0 1 10), (4, .i .u8 (.ofNat 4)), (5, .slu 1471 0 18 1), (6, .i .u8 (.ofNat 5)), (7, .slu 1472 0 10 1), (8, .i .u8 (.ofNat 6)), (9, .slu 1473 0 8 1), (10, .i .u8 (.ofNat 7)), (11, .slu 1477 0 1 1)])]
  nx' := 1482
def b1333X : CallX := noX
theorem b1333_names : litN b1333 = true := by kernel_rfl
theorem b1333_run : litC b1333 (awC 1333 b1333X) = true := by kernel_rfl
end
noncomputable section
def b534 : Lit where
  f := 19
  args := [.agg [.i .i64 (.ofNat 1), .sln, .sln, .slu 318 0 1 8]]
  nx := 534
  H := [(278, .row 348 28 0 [(0, .i .i64 (.ofNat 8)), (1, .i .i64 (.negSucc 0)), (2, .s 0 0), (3, .sln), (4, .i .i64 (.ofNat 1)), (5, .i .i64 (.ofNat 0)), (6, .s 3 2124104), (7, .sln), (8, .i .i64 (.ofNat 2)), (9, .i .i64 (.ofNat 0)), (10, .s 0 0), (11, .sln), (12, .i .i64 (.ofNat 1)), (13, .i .i64 (.ofNat 0)), (14, .s 5 435710945396), (15, .sln), (16, .i .i64 (.ofNat 5)), (17, .i .i64 (.ofNat 0)), (18, .s 0 0), (19, .sln), (20, .i .i64 (.ofNat 1)), (21, .i .i64 (.ofNat 0)), (22, .s 1 46), (23, .sln), (24, .i .i64 (.ofNat 9)), (25, .i .i64 (.ofNat 0)), (26, .s 0 0), (27, .sln)]),
    (318, .row 232 8 0 [(0, .i .i64 (.ofNat 0)), (1, .i .i64 (.ofNat 0)), (2, .s 4 1701670728), (3, .s 4 1701670728), (4, .i .i64 (.ofNat 0)), (5, .sln), (6, .sln), (7, .slu 278 0 7 4)])]
  out := .tup [.slu 1623 0 2304 1, .i .i64 (.ofNat 0)]
  new := [(1623, .row 5 2304 0 [(0, .i .u8 (.ofNat 1))])]
  nx' := 1705
def b534X : CallX := (orX (litX b535) (orX (litX b1333) noX))
theorem b534_names : litN b534 = true := by kernel_rfl
theorem b534_run : litC b534 (awC 534 b534X) = true := by kernel_rfl
end
noncomputable section
def b1706 : Lit where
  f := 7
  args := [.sl 1705 0 2 2]
  nx := 1706
  H := [(1705, .row 9 2 0 [(0, .s 12 3217468396727016481476277294), (1, .s 13 823671910152412029616632638986)])]
  out := .tup [.sln, .ifc 87 (.p 1812 0)]
  new := [(1811, .row 260 7 0 [(0, .i .i64 (.ofNat 1)), (1, .i .i64 (.ofNat 71)), (2, .i .i64 (.ofNat 1)), (3, .i .i64 (.ofNat 2)), (4, .i .i64 (.ofNat 0)), (5, .s 4 1701670760), (6, .sln)]),
    (1812, .row 89 3 0 [(0, .s 4 1802465122), (1, .i .i64 (.ofNat 3)), (2, .ifc 68 (.p 1811 0))])]
  nx' := 1815
def b1706X : CallX := noX
theorem b1706_names : litN b1706 = true := by kernel_rfl
theorem b1706_run : litC b1706 (awC 1706 b1706X) = true := by kernel_rfl
end
end Go.Proofs.YtafhmagifoapfaaGreatDoor
