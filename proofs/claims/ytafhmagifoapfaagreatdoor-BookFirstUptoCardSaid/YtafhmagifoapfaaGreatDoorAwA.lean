/- awake, reckoned: calls by themselves. -/
import Derived.Test.YtafhmagifoapfaaGreatDoorAwData
import Derived.KernelRfl
namespace Go.Proofs.YtafhmagifoapfaaGreatDoor
noncomputable section
def b68 : Lit where
  f := 6
  args := [.s 27 4188467668525618006573928312720313497508011404661619656896771118]
  nx := 68
  H := []
  out := .tup [.agg [.sln, .slu 116 0 1 8], .ni]
  new := [(116, .row 101 8 0 [(0, .i .i64 (.ofNat 0)), (1, .s 4 1701670728), (2, .s 4 1701670728), (3, .i .i64 (.ofNat 0)), (4, .sln), (5, .sln), (6, .slu 147 0 1 6), (7, .i .i64 (.ofNat 1))]),
    (144, .row 191 25 0 [(0, .i .i64 (.ofNat 1)), (1, .s 3 2124104), (2, .s 0 0), (3, .i .i64 (.ofNat 3)), (4, .i .i64 (.ofNat 1)), (5, .i .i64 (.ofNat 2)), (6, .s 0 0), (7, .s 1 98), (8, .i .i64 (.ofNat 3)), (9, .i .i64 (.ofNat 4)), (10, .i .i64 (.ofNat 1)), (11, .s 5 435710945396), (12, .s 0 0), (13, .i .i64 (.ofNat 3)), (14, .i .i64 (.ofNat 7)), (15, .i .i64 (.ofNat 5)), (16, .s 0 0), (17, .s 0 0), (18, .i .i64 (.ofNat 3)), (19, .i .i64 (.ofNat 12)), (20, .i .i64 (.ofNat 1)), (21, .s 1 46), (22, .s 0 0), (23, .i .i64 (.ofNat 3)), (24, .i .i64 (.ofNat 13))]),
    (147, .row 114 6 0 [(0, .i .i64 (.ofNat 1)), (1, .i .i64 (.ofNat 0)), (2, .s 0 0), (3, .sln), (4, .slu 144 0 5 5), (5, .i .i64 (.ofNat 3))])]
  nx' := 155
def b68X : CallX := noX
theorem b68_names : litN b68 = true := by kernel_rfl
theorem b68_run : litC b68 (awC 68 b68X) = true := by kernel_rfl
end
noncomputable section
def b331 : Lit where
  f := 175
  args := [.slu 330 0 1 1]
  nx := 331
  H := [(330, .row 9 1 0 [(0, .s 9 855860244035114395976)])]
  out := .sln
  new := []
  nx' := 359
def b331X : CallX := noX
theorem b331_names : litN b331 = true := by kernel_rfl
theorem b331_run : litC b331 (awC 331 b331X) = true := by kernel_rfl
end
noncomputable section
def b359 : Lit where
  f := 111
  args := [.p 66 0]
  nx := 359
  H := [(64, .row 9 1 0 [(0, .s 27 4188467668525618006573928312720313497508011404661619656896771118)]),
    (66, .row 122 8 0 [(0, .sl 64 0 1 1), (1, .slu 157 0 1 2), (2, .slu 173 0 1 6), (3, .slu 187 0 6 5), (4, .i .i64 (.ofNat 1)), (5, .sln), (6, .sln), (7, .slu 318 0 1 8)]),
    (116, .row 101 8 0 [(0, .i .i64 (.ofNat 0)), (1, .s 4 1701670728), (2, .s 4 1701670728), (3, .i .i64 (.ofNat 0)), (4, .sln), (5, .sln), (6, .slu 147 0 1 6), (7, .i .i64 (.ofNat 1))]),
    (144, .row 191 25 0 [(0, .i .i64 (.ofNat 1)), (1, .s 3 2124104), (2, .s 0 0), (3, .i .i64 (.ofNat 3)), (4, .i .i64 (.ofNat 1)), (5, .i .i64 (.ofNat 2)), (6, .s 0 0), (7, .s 1 98), (8, .i .i64 (.ofNat 3)), (9, .i .i64 (.ofNat 4)), (10, .i .i64 (.ofNat 1)), (11, .s 5 435710945396), (12, .s 0 0), (13, .i .i64 (.ofNat 3)), (14, .i .i64 (.ofNat 7)), (15, .i .i64 (.ofNat 5)), (16, .s 0 0), (17, .s 0 0), (18, .i .i64 (.ofNat 3)), (19, .i .i64 (.ofNat 12)), (20, .i .i64 (.ofNat 1)), (21, .s 1 46), (22, .s 0 0), (23, .i .i64 (.ofNat 3)), (24, .i .i64 (.ofNat 13))]),
    (147, .row 114 6 0 [(0, .i .i64 (.ofNat 1)), (1, .i .i64 (.ofNat 0)), (2, .s 0 0), (3, .sln), (4, .slu 144 0 5 5), (5, .i .i64 (.ofNat 3))]),
    (157, .row 28 2 0 [(0, .sln), (1, .slu 116 0 1 8)]),
    (173, .row 292 6 0 [(0, .s 4 1701670728), (1, .s 4 1701670760), (2, .i .i64 (.ofNat 0)), (3, .i .i64 (.ofNat 0)), (4, .i .i64 (.ofNat 0)), (5, .i .i64 (.ofNat 1))]),
    (187, .row 297 30 0 [(0, .s 1 98), (1, .s 0 0), (2, .i .i64 (.ofNat 1)), (3, .i .i64 (.ofNat 0)), (4, .i .i64 (.negSucc 0)), (5, .s 1 105), (6, .s 0 0), (7, .i .i64 (.ofNat 2)), (8, .i .i64 (.ofNat 0)), (9, .i .i64 (.negSucc 0)), (10, .s 1 117), (11, .s 0 0), (12, .i .i64 (.ofNat 4)), (13, .i .i64 (.ofNat 0)), (14, .i .i64 (.negSucc 0)), (15, .s 1 115), (16, .s 0 0), (17, .i .i64 (.ofNat 8)), (18, .i .i64 (.ofNat 0)), (19, .i .i64 (.negSucc 0)), (20, .s 1 109), (21, .s 0 0), (22, .i .i64 (.ofNat 16)), (23, .i .i64 (.ofNat 0)), (24, .i .i64 (.negSucc 0)), (25, .s 1 104), (26, .s 0 0), (27, .i .i64 (.ofNat 5)), (28, .i .i64 (.ofNat 0)), (29, .i .i64 (.negSucc 0))]),
    (278, .row 348 28 0 [(0, .i .i64 (.ofNat 8)), (1, .i .i64 (.negSucc 0)), (2, .s 0 0), (3, .sln), (4, .i .i64 (.ofNat 1)), (5, .i .i64 (.ofNat 0)), (6, .s 3 2124104), (7, .sln), (8, .i .i64 (.ofNat 2)), (9, .i .i64 (.ofNat 0)), (10, .s 0 0), (11, .sln), (12, .i .i64 (.ofNat 1)), (13, .i .i64 (.ofNat 0)), (14, .s 5 435710945396), (15, .sln), (16, .i .i64 (.ofNat 5)), (17, .i .i64 (.ofNat 0)), (18, .s 0 0), (19, .sln), (20, .i .i64 (.ofNat 1)), (21, .i .i64 (.ofNat 0)), (22, .s 1 46), (23, .sln), (24, .i .i64 (.ofNat 9)), (25, .i .i64 (.ofNat 0)), (26, .s 0 0), (27, .sln)]),
    (318, .row 232 8 0 [(0, .i .i64 (.ofNat 0)), (1, .i .i64 (.ofNat 0)), (2, .s 4 1701670728), (3, .s 4 1701670728), (4, .i .i64 (.ofNat 0)), (5, .sln), (6, .sln), (7, .slu 278 0 7 4)])]
  out := .ni
  new := []
  nx' := 532
def b359X : CallX := noX
theorem b359_names : litN b359 = true := by kernel_rfl
theorem b359_run : litC b359 (awC 359 b359X) = true := by kernel_rfl
end
noncomputable section
def b65 : Lit where
  f := 17
  args := [.sl 64 0 1 1]
  nx := 65
  H := [(64, .row 9 1 0 [(0, .s 27 4188467668525618006573928312720313497508011404661619656896771118)])]
  out := .tup [.agg [.i .i64 (.ofNat 1), .sln, .sln, .slu 318 0 1 8], .ni]
  new := [(278, .row 348 28 0 [(0, .i .i64 (.ofNat 8)), (1, .i .i64 (.negSucc 0)), (2, .s 0 0), (3, .sln), (4, .i .i64 (.ofNat 1)), (5, .i .i64 (.ofNat 0)), (6, .s 3 2124104), (7, .sln), (8, .i .i64 (.ofNat 2)), (9, .i .i64 (.ofNat 0)), (10, .s 0 0), (11, .sln), (12, .i .i64 (.ofNat 1)), (13, .i .i64 (.ofNat 0)), (14, .s 5 435710945396), (15, .sln), (16, .i .i64 (.ofNat 5)), (17, .i .i64 (.ofNat 0)), (18, .s 0 0), (19, .sln), (20, .i .i64 (.ofNat 1)), (21, .i .i64 (.ofNat 0)), (22, .s 1 46), (23, .sln), (24, .i .i64 (.ofNat 9)), (25, .i .i64 (.ofNat 0)), (26, .s 0 0), (27, .sln)]),
    (318, .row 232 8 0 [(0, .i .i64 (.ofNat 0)), (1, .i .i64 (.ofNat 0)), (2, .s 4 1701670728), (3, .s 4 1701670728), (4, .i .i64 (.ofNat 0)), (5, .sln), (6, .sln), (7, .slu 278 0 7 4)])]
  nx' := 532
def b65X : CallX := (orX (litX b68) (orX (litX b331) (orX (litX b359) noX)))
theorem b65_names : litN b65 = true := by kernel_rfl
theorem b65_run : litC b65 (awC 65 b65X) = true := by kernel_rfl
end
end Go.Proofs.YtafhmagifoapfaaGreatDoor
