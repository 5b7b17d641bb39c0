/- awake, reckoned: calls by themselves. -/
import Derived.Test.YtafhmagifoapfaaGreatDoorAwData
import Derived.KernelRfl
namespace Go.Proofs.YtafhmagifoapfaaGreatDoor
noncomputable section
def b823 : Lit where
  f := 6
  args := [.s 28 1057311384354097484985754205149424636714631781432898559041017753098]
  nx := 823
  H := []
  out := .tup [.agg [.sln, .slu 874 0 1 8], .ni]
  new := [(874, .row 101 8 0 [(0, .i .i64 (.ofNat 0)), (1, .s 4 1701670728), (2, .s 4 1701670728), (3, .i .i64 (.ofNat 0)), (4, .sln), (5, .sln), (6, .slu 905 0 1 6), (7, .i .i64 (.ofNat 2))]),
    (902, .row 191 25 0 [(0, .i .i64 (.ofNat 1)), (1, .s 3 2124104), (2, .s 0 0), (3, .i .i64 (.ofNat 3)), (4, .i .i64 (.ofNat 1)), (5, .i .i64 (.ofNat 2)), (6, .s 0 0), (7, .s 1 98), (8, .i .i64 (.ofNat 3)), (9, .i .i64 (.ofNat 4)), (10, .i .i64 (.ofNat 1)), (11, .s 5 435710945396), (12, .s 0 0), (13, .i .i64 (.ofNat 3)), (14, .i .i64 (.ofNat 7)), (15, .i .i64 (.ofNat 5)), (16, .s 0 0), (17, .s 0 0), (18, .i .i64 (.ofNat 3)), (19, .i .i64 (.ofNat 12)), (20, .i .i64 (.ofNat 1)), (21, .s 1 46), (22, .s 0 0), (23, .i .i64 (.ofNat 3)), (24, .i .i64 (.ofNat 13))]),
    (905, .row 114 6 0 [(0, .i .i64 (.ofNat 1)), (1, .i .i64 (.ofNat 0)), (2, .s 0 0), (3, .sln), (4, .slu 902 0 5 5), (5, .i .i64 (.ofNat 3))])]
  nx' := 913
def b823X : CallX := noX
theorem b823_names : litN b823 = true := by kernel_rfl
theorem b823_run : litC b823 (awC 823 b823X) = true := by kernel_rfl
end
noncomputable section
def b1089 : Lit where
  f := 175
  args := [.slu 1088 0 1 1]
  nx := 1089
  H := [(1088, .row 9 1 0 [(0, .s 9 855860244035114395976)])]
  out := .sln
  new := []
  nx' := 1117
def b1089X : CallX := noX
theorem b1089_names : litN b1089 = true := by kernel_rfl
theorem b1089_run : litC b1089 (awC 1089 b1089X) = true := by kernel_rfl
end
noncomputable section
def b1117 : Lit where
  f := 111
  args := [.p 821 0]
  nx := 1117
  H := [(819, .row 9 1 0 [(0, .s 28 1057311384354097484985754205149424636714631781432898559041017753098)]),
    (821, .row 122 8 0 [(0, .slu 819 0 1 1), (1, .slu 915 0 1 2), (2, .slu 931 0 1 6), (3, .slu 945 0 6 5), (4, .i .i64 (.ofNat 1)), (5, .sln), (6, .sln), (7, .slu 1076 0 1 8)]),
    (874, .row 101 8 0 [(0, .i .i64 (.ofNat 0)), (1, .s 4 1701670728), (2, .s 4 1701670728), (3, .i .i64 (.ofNat 0)), (4, .sln), (5, .sln), (6, .slu 905 0 1 6), (7, .i .i64 (.ofNat 2))]),
    (902, .row 191 25 0 [(0, .i .i64 (.ofNat 1)), (1, .s 3 2124104), (2, .s 0 0), (3, .i .i64 (.ofNat 3)), (4, .i .i64 (.ofNat 1)), (5, .i .i64 (.ofNat 2)), (6, .s 0 0), (7, .s 1 98), (8, .i .i64 (.ofNat 3)), (9, .i .i64 (.ofNat 4)), (10, .i .i64 (.ofNat 1)), (11, .s 5 435710945396), (12, .s 0 0), (13, .i .i64 (.ofNat 3)), (14, .i .i64 (.ofNat 7)), (15, .i .i64 (.ofNat 5)), (16, .s 0 0), (17, .s 0 0), (18, .i .i64 (.ofNat 3)), (19, .i .i64 (.ofNat 12)), (20, .i .i64 (.ofNat 1)), (21, .s 1 46), (22, .s 0 0), (23, .i .i64 (.ofNat 3)), (24, .i .i64 (.ofNat 13))]),
    (905, .row 114 6 0 [(0, .i .i64 (.ofNat 1)), (1, .i .i64 (.ofNat 0)), (2, .s 0 0), (3, .sln), (4, .slu 902 0 5 5), (5, .i .i64 (.ofNat 3))]),
    (915, .row 28 2 0 [(0, .sln), (1, .slu 874 0 1 8)]),
    (931, .row 292 6 0 [(0, .s 4 1701670728), (1, .s 4 1701670760), (2, .i .i64 (.ofNat 0)), (3, .i .i64 (.ofNat 0)), (4, .i .i64 (.ofNat 0)), (5, .i .i64 (.ofNat 2))]),
    (945, .row 297 30 0 [(0, .s 1 98), (1, .s 0 0), (2, .i .i64 (.ofNat 1)), (3, .i .i64 (.ofNat 0)), (4, .i .i64 (.negSucc 0)), (5, .s 1 105), (6, .s 0 0), (7, .i .i64 (.ofNat 2)), (8, .i .i64 (.ofNat 0)), (9, .i .i64 (.negSucc 0)), (10, .s 1 117), (11, .s 0 0), (12, .i .i64 (.ofNat 4)), (13, .i .i64 (.ofNat 0)), (14, .i .i64 (.negSucc 0)), (15, .s 1 115), (16, .s 0 0), (17, .i .i64 (.ofNat 8)), (18, .i .i64 (.ofNat 0)), (19, .i .i64 (.negSucc 0)), (20, .s 1 109), (21, .s 0 0), (22, .i .i64 (.ofNat 16)), (23, .i .i64 (.ofNat 0)), (24, .i .i64 (.negSucc 0)), (25, .s 1 104), (26, .s 0 0), (27, .i .i64 (.ofNat 5)), (28, .i .i64 (.ofNat 0)), (29, .i .i64 (.negSucc 0))]),
    (1036, .row 348 28 0 [(0, .i .i64 (.ofNat 8)), (1, .i .i64 (.negSucc 0)), (2, .s 0 0), (3, .sln), (4, .i .i64 (.ofNat 1)), (5, .i .i64 (.ofNat 0)), (6, .s 3 2124104), (7, .sln), (8, .i .i64 (.ofNat 2)), (9, .i .i64 (.ofNat 0)), (10, .s 0 0), (11, .sln), (12, .i .i64 (.ofNat 1)), (13, .i .i64 (.ofNat 0)), (14, .s 5 435710945396), (15, .sln), (16, .i .i64 (.ofNat 5)), (17, .i .i64 (.ofNat 0)), (18, .s 0 0), (19, .sln), (20, .i .i64 (.ofNat 1)), (21, .i .i64 (.ofNat 0)), (22, .s 1 46), (23, .sln), (24, .i .i64 (.ofNat 9)), (25, .i .i64 (.ofNat 0)), (26, .s 0 0), (27, .sln)]),
    (1076, .row 232 8 0 [(0, .i .i64 (.ofNat 0)), (1, .i .i64 (.ofNat 0)), (2, .s 4 1701670728), (3, .s 4 1701670728), (4, .i .i64 (.ofNat 0)), (5, .sln), (6, .sln), (7, .slu 1036 0 7 4)])]
  out := .ni
  new := []
  nx' := 1290
def b1117X : CallX := noX
theorem b1117_names : litN b1117 = true := by kernel_rfl
theorem b1117_run : litC b1117 (awC 1117 b1117X) = true := by kernel_rfl
end
noncomputable section
def b820 : Lit where
  f := 17
  args := [.slu 819 0 1 1]
  nx := 820
  H := [(819, .row 9 1 0 [(0, .s 28 1057311384354097484985754205149424636714631781432898559041017753098)])]
  out := .tup [.agg [.i .i64 (.ofNat 1), .sln, .sln, .slu 1076 0 1 8], .ni]
  new := [(1036, .row 348 28 0 [(0, .i .i64 (.ofNat 8)), (1, .i .i64 (.negSucc 0)), (2, .s 0 0), (3, .sln), (4, .i .i64 (.ofNat 1)), (5, .i .i64 (.ofNat 0)), (6, .s 3 2124104), (7, .sln), (8, .i .i64 (.ofNat 2)), (9, .i .i64 (.ofNat 0)), (10, .s 0 0), (11, .sln), (12, .i .i64 (.ofNat 1)), (13, .i .i64 (.ofNat 0)), (14, .s 5 435710945396), (15, .sln), (16, .i .i64 (.ofNat 5)), (17, .i .i64 (.ofNat 0)), (18, .s 0 0), (19, .sln), (20, .i .i64 (.ofNat 1)), (21, .i .i64 (.ofNat 0)), (22, .s 1 46), (23, .sln), (24, .i .i64 (.ofNat 9)), (25, .i .i64 (.ofNat 0)), (26, .s 0 0), (27, .sln)]),
    (1076, .row 232 8 0 [(0, .i .i64 (.ofNat 0)), (1, .i .i64 (.ofNat 0)), (2, .s 4 1701670728), (3, .s 4 1701670728), (4, .i .i64 (.ofNat 0)), (5, .sln), (6, .sln), (7, .slu 1036 0 7 4)])]
  nx' := 1290
def b820X : CallX := (orX (litX b823) (orX (litX b1089) (orX (litX b1117) noX)))
theorem b820_names : litN b820 = true := by kernel_rfl
theorem b820_run : litC b820 (awC 820 b820X) = true := by kernel_rfl
end
end Go.Proofs.YtafhmagifoapfaaGreatDoor
