/- BookFirst: with more sources behind a fault of reading stays the fault. The second form: what it reads is of bulk at most 1048576. No other condition. -/
import Derived.Test.YtafhmagifoapfaaGreatDoorReads
namespace Go.Proofs.YtafhmagifoapfaaGreatDoor
open Go.ChangeShapes Go.WideShapes Go.ChangeAt Go.RowKit Go.Deep Find Bk
abbrev syntaxText : List UInt8 := [105, 110, 118, 97, 108, 105, 100, 32, 115, 121, 110, 116, 97, 120]
abbrev rangeText : List UInt8 := [118, 97, 108, 117, 101, 32, 111, 117, 116, 32, 111, 102, 32, 114, 97, 110, 103, 101]
abbrev tab32 : List Int := [0, 1, 28, 2, 29, 14, 24, 3, 30, 22, 20, 15, 25, 17, 4, 8, 31, 27, 13, 23, 21, 19, 16, 7, 26, 12, 18, 6, 11, 5, 10, 9]
abbrev tab64 : List Int := [0, 1, 56, 2, 57, 49, 28, 3, 61, 58, 42, 50, 38, 29, 17, 4, 62, 47, 59, 36, 45, 43, 51, 22, 53, 39, 33, 30, 24, 18, 12, 5, 63, 55, 48, 27, 60, 41, 37, 16, 46, 35, 44, 21, 52, 32, 23, 11, 54, 26, 40, 15, 34, 20, 31, 10, 25, 14, 19, 9, 13, 8, 7, 6]
abbrev pow10 : List Int := [1, 10, 100, 1000, 10000, 100000, 1000000, 10000000, 100000000, 1000000000, 10000000000, 100000000000, 1000000000000, 10000000000000, 100000000000000, 1000000000000000, 10000000000000000, 100000000000000000, 1000000000000000000, 10000000000000000000]
/-- A world for the witness: the settled one, the variables holding what their initialisers lay; the two errors' texts lie behind it. -/
noncomputable def laidWorld (os : Os) : World :=
  let w0 := World.holding Tryz.prog os ⟨#[.cells #[.string ⟨syntaxText.toArray⟩] 523, .cells #[.string ⟨rangeText.toArray⟩] 523], #[], []⟩
  let put (h : Array Obj) (g : Nat) (cs : Array Value) : Array Obj := h.modify g fun
    | .cells _ t frozen => .cells cs t frozen
    | o => o
  let h0 := put w0.heap 0 #[.iface 208 (.agg #[.pointer (some ⟨9, 30, none⟩)])]
  let h1 := put h0 2 (Lib.firstTab.map fun z => Value.int .u8 z).toArray
  let h2 := put h1 3 ((List.range 16).flatMap fun i => [Value.int .u8 (Lib.accLo i), Value.int .u8 (Lib.accHi i)]).toArray
  let h3 := put h2 4 #[.iface 521 (.pointer (some ⟨14, 0, none⟩))]
  let h4 := put h3 5 #[.iface 521 (.pointer (some ⟨15, 0, none⟩))]
  let h5 := put h4 6 (pow10.map fun z => Value.int .u64 z).toArray
  let h6 := put h5 7 (tab32.map fun z => Value.int .u8 z).toArray
  let h7 := put h6 8 (tab64.map fun z => Value.int .u8 z).toArray
  { w0 with heap := h7 }
theorem data_eq : laidData = [("math/bits.deBruijn32tab", Rows.laid_math_bits_deBruijn32tab), ("math/bits.deBruijn64tab", Rows.laid_math_bits_deBruijn64tab), ("internal/strconv.uint64pow10", Rows.laid_internal_strconv_uint64pow10), ("unicode/utf8.acceptRanges", Lib.acceptData), ("strconv.ErrRange", Rows.laid_strconv_ErrRange), ("strconv.ErrSyntax", Rows.laid_strconv_ErrSyntax), ("unicode/utf8.first", Lib.firstData)] := by
  unfold laidData
  rw [acc_eq, show Rows.laid_unicode_utf8_first = (Lib.firstData : DataW Unit) from Go.Pinned.utf8First_eq]
theorem laid_met (os : Os) (args : Array Value) : laidMetH Tryz.prog laidList ((laidWorld os).forCall (fun _ _ => 0) ⟨#[], args, []⟩).memory := by
  refine laidMetH_of_parts (l := laidList) ?_ (by kernel_rfl)
  show laidMet Tryz.prog laidData _
  rw [data_eq]
  exact (LaidIn.of_run [2, 3, 4, 5, 6, 7, 8, 14, 15] 8 (by kernel_rfl) (by kernel_rfl) (by kernel_rfl) (by kernel_rfl)).met
set_option maxRecDepth 100000 in
theorem first_lifted (os : Os) (started : os.Started) (H : Type) (enc : TypeId × Value → H) (F : Stop.Interp) :
    ReturnsInHanded {} Tryz.checked os 3 .any ((Rows.OpenSpec.upto Rows.bookFirstSpec).preRow enc Tryz.prog Tryz.f3 Rows.bookFirstUptoRow.domain false Rows.bookFirstUptoRow.laid) (((Rows.OpenSpec.upto Rows.bookFirstSpec).at F).post enc Tryz.prog Tryz.f3 false true false false) := by
  have hw : (DataW.whole enc Tryz.prog ((laidWorld os).forCall (fun _ _ => 0) ⟨#[], #[.slice none 0 0, .slice none 0 0], []⟩).memory Tryz.f3.params.toList Rows.bookFirstSpec.vars false #[Value.slice none 0 0, .slice none 0 0].toList 8).map (fun x => (x.1, x.2.1)) =
      some ([.nil, .nil], []) := by kernel_rfl
  obtain ⟨⟨x1, x2, x3⟩, hx, hx1⟩ := Option.map_eq_some_iff.1 hw
  simp only [Prod.mk.injEq] at hx1
  obtain ⟨rfl, rfl⟩ := hx1
  refine returnsInHanded_of_row (C := Tryz.checked) (s := Rows.OpenSpec.upto Rows.bookFirstSpec) own started (by kernel_rfl) Tryz.func3
    (witness_row_atRef (enc := enc) (C := Tryz.checked) false (laidWorld os) #[.slice none 0 0, .slice none 0 0] rfl (by kernel_rfl) (by kernel_rfl) (by kernel_rfl)
      (OpenSpec.preRow_of_cond 8 hx (by kernel_rfl) (fun k hk => by cases hk; kernel_rfl) (by kernel_rfl) (laid_met os _))) ?_
  intro W base args ds gs before hval0 hW _ hcond _ hL hsh _
  have hbulk := bulk_bound (hcond _ rfl)
  have hval : ∀ (j : Nat) t v, Tryz.f3.params[j]? = some t → args[j]? = some v → Value.okWide Tryz.prog W .any base t v := hval0
  have hW' : DataW.Whole enc Tryz.prog Tryz.f3.params.toList Rows.bookFirstSpec.vars false W args.toList ds gs before := hW
  obtain ⟨p, q, hA0, hV, rfl, hfz, hnd⟩ := hW
  have hA : DataW.TrodAll enc Tryz.prog W 0 (fun _ => true) true Tryz.f3.params.toList args.toList ds p := hA0
  obtain ⟨rfl, rfl⟩ := trodVars_none hV
  rw [Tryz.params3] at hA hval
  obtain ⟨v0, vs0, d0, ds0, p0, q0, g0, k0, _, t0, r0⟩ := trodAll_cons hA
  obtain ⟨v1, vs1, d1, ds1, p1, q1, g1, k1, _, t1, r1⟩ := trodAll_cons r0
  obtain ⟨g, k, _⟩ := trodAll_nil r1
  subst g k g1 k1 k0
  obtain rfl : args = #[v0, v1] := by cases args; simp_all
  obtain ⟨a0, len0, c0, rfl⟩ := okWide_slice Tryz.underlying22 (hval 0 22 v0 rfl rfl)
  obtain ⟨a1, len1, c1, rfl⟩ := okWide_slice Tryz.underlying22 (hval 1 22 v1 rfl rfl)
  obtain ⟨f0, hf0⟩ := t0
  obtain ⟨f1, hf1⟩ := t1
  obtain ⟨a0', c0', LL, hv0, s0, n0, b0, e0⟩ := txt_of_trod (v := .slice a0 len0 c0) hf0
  obtain ⟨a1', c1', MM, hv1, s1, n1, b1, e1⟩ := txt_of_trod (v := .slice a1 len1 c1) hf1
  simp only [Value.slice.injEq] at hv0 hv1
  obtain ⟨rfl, rfl, rfl⟩ := hv0
  obtain ⟨rfl, rfl, rfl⟩ := hv1
  simp only [List.append_nil, Rows.uptoBulkAll] at hbulk
  simp only at b0 e0 b1 e1
  refine (bookFirst_any a0 a1 c0 c1 LL MM W (glb_of_laid hL hsh) s0 s1 n1 (by omega) (by omega) (by omega) (by omega)).mono fun e W' ⟨he, hb⟩ => ⟨_, he, ?_⟩
  exact law_post laidOut rfl (t := 4) (by kernel_rfl) Tryz.underlying4 (by rw [Tryz.params3]; intro t ht; simp at ht; subst ht; exact ⟨by kernel_rfl, of_decide_eq_true (by kernel_rfl)⟩) hW' rfl hb
end Go.Proofs.YtafhmagifoapfaaGreatDoor
