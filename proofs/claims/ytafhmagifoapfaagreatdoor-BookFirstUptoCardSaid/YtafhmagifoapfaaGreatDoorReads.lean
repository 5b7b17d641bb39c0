/- BookFirst: what the law's claim wants beside the walk: the tables, the readings of the arguments, what the bound gives, a world for the witness. -/
import Derived.Test.YtafhmagifoapfaaGreatDoorFirst
import Derived.Test.YtafhmagifoapfaaGreatDoorCards
import Derived.Test.YtafhmagifoapfaaGreatDoorTie
import Derived.ProofKit
import Derived.OpenShut
import Derived.SizedLaws
import Derived.Carry
import Derived.LaidHandle
import Derived.Deep.DeepHandedRow
import Derived.Deep.DeepWitnessRowRef
import Derived.Deep.Slices
import Derived.Lib.LaidIn
import Derived.Lib.LaidU8T
import Derived.PinnedBridge
import Derived.Shelf.Vars
namespace Go.Proofs.YtafhmagifoapfaaGreatDoor
open Go.ChangeShapes Go.WideShapes Go.ChangeAt Go.RowKit Go.Deep Find Bk
theorem laidOut : laidOutB Tryz.prog = true := by kernel_rfl
theorem own : ownKnob Tryz.prog.godebug = none := by kernel_rfl
theorem acc_eq : Rows.laid_unicode_utf8_acceptRanges = (Lib.acceptData : DataW Unit) := by kernel_rfl
theorem et_glob : Tryz.prog.globalNamed "errors.errorType" = some 0 := by kernel_rfl
theorem rt_type : (Tryz.prog.cutTypes.find? (·.1 == "internal/reflectlite.rtype")).map (·.2) = some 208 := by kernel_rfl
theorem types_count : Tryz.prog.types.size = 553 := by kernel_rfl
theorem error_row : ((List.range 553).filter fun t => Tryz.prog.rowNamed t [101, 114, 114, 111, 114]) = [30] := by kernel_rfl
/-- What is laid, as the row lists it. -/
abbrev laidList : List (String × DataW Unit) := [("math/bits.deBruijn32tab", Rows.laid_math_bits_deBruijn32tab), ("math/bits.deBruijn64tab", Rows.laid_math_bits_deBruijn64tab), ("internal/strconv.uint64pow10", Rows.laid_internal_strconv_uint64pow10), ("unicode/utf8.acceptRanges", Rows.laid_unicode_utf8_acceptRanges), ("errors.errorType", Rows.laid_errors_errorType), ("strconv.ErrRange", Rows.laid_strconv_ErrRange), ("strconv.ErrSyntax", Rows.laid_strconv_ErrSyntax), ("unicode/utf8.first", Rows.laid_unicode_utf8_first)]
/-- Without the handle. -/
abbrev laidData : List (String × DataW Unit) := [("math/bits.deBruijn32tab", Rows.laid_math_bits_deBruijn32tab), ("math/bits.deBruijn64tab", Rows.laid_math_bits_deBruijn64tab), ("internal/strconv.uint64pow10", Rows.laid_internal_strconv_uint64pow10), ("unicode/utf8.acceptRanges", Rows.laid_unicode_utf8_acceptRanges), ("strconv.ErrRange", Rows.laid_strconv_ErrRange), ("strconv.ErrSyntax", Rows.laid_strconv_ErrSyntax), ("unicode/utf8.first", Rows.laid_unicode_utf8_first)]
theorem laid_parts {W : World} (h : laidMetH Tryz.prog laidList W) : laidMet Tryz.prog laidData W ∧ handlesMet Tryz.prog [("errors.errorType", Rows.laid_errors_errorType)] W := by
  have e1 : (laidList.filter fun x => x.2.handleName?.isSome) = [("errors.errorType", Rows.laid_errors_errorType)] := rfl
  have e2 : (laidList.filter fun x => x.2.handleName?.isNone) = laidData := rfl
  unfold laidMetH at h
  rw [e1, e2] at h
  exact h
/-- What the list gives: the tables of utf8. -/
theorem tabs_of_laid {W : World} (hL : laidMet Tryz.prog laidData W) : Lib.Utf8Tabs 2 3 W := by
  have h1 := Lib.laidMet.reads hL (n := "unicode/utf8.acceptRanges") (d := Rows.laid_unicode_utf8_acceptRanges) (by simp [laidData])
  have h2 := Lib.laidMet.reads hL (n := "unicode/utf8.first") (d := Rows.laid_unicode_utf8_first) (by simp [laidData])
  rw [acc_eq] at h1
  rw [show Rows.laid_unicode_utf8_first = (Lib.firstData : DataW Unit) from Go.Pinned.utf8First_eq] at h2
  exact utf8Tabs_of_readsT (U8Types.of260 Tryz.lays260) ⟨by kernel_rfl, by kernel_rfl, by kernel_rfl, by kernel_rfl, by kernel_rfl, by kernel_rfl, by kernel_rfl⟩ h2 h1
/-- .. the handle of error. -/
theorem handle_of_met {W : World} (h : handlesMet Tryz.prog [("errors.errorType", Rows.laid_errors_errorType)] W) : W.cell? ⟨0, 0, none⟩ = some (.iface 208 (.agg #[.pointer (some ⟨9, 30, none⟩)])) := by
  obtain ⟨name, u, ty, e1, e2, e3, e4, e5⟩ := h _ (List.mem_singleton.2 rfl)
  have en : name = [101, 114, 114, 111, 114] := (Option.some.inj e1).symm
  subst en
  obtain rfl := Option.some.inj (rt_type.symm.trans e2)
  have hm : ty ∈ (List.range 553).filter fun t => Tryz.prog.rowNamed t [101, 114, 114, 111, 114] := List.mem_filter.2 ⟨List.mem_range.2 (by rw [← types_count]; exact e3), e4⟩
  rw [error_row] at hm
  obtain rfl := List.mem_singleton.1 hm
  have hh : typeHandle Tryz.prog 30 = .pointer (some ⟨9, 30, none⟩) := by kernel_rfl
  rw [hh] at e5
  simpa using World.var?_cell et_glob e5 0
/-- .. and all three that the walk asks. -/
theorem glb_of_laid {W : World} (hL : laidMetH Tryz.prog laidList W) (hs : W.ShapedOpen Tryz.prog) : Glb W := by
  obtain ⟨h1, h2⟩ := laid_parts hL
  exact ⟨tabs_of_laid h1, cell_of_shapedOpen_int (P := Tryz.prog) (g := 1) (t := 3) (zero := #[.int .i64 0]) hs (of_decide_eq_true (by kernel_rfl)) (by kernel_rfl) rfl (by kernel_rfl) (by kernel_rfl) Tryz.underlying3, handle_of_met h2⟩
/-! ### The bound -/
theorem bulk_one {H : Type} (d : DataW H) : 1 ≤ Rows.uptoBulk d := by
  cases d with
  | lit l => cases l <;> simp [Rows.uptoBulk]
  | nil => simp [Rows.uptoBulk]
  | ptr d => simp [Rows.uptoBulk]
  | slice elems spare => simp [Rows.uptoBulk]
  | agg parts => simp [Rows.uptoBulk]
  | iface t d => simp [Rows.uptoBulk]
  | map entries => simp [Rows.uptoBulk]
  | held h => simp [Rows.uptoBulk]
theorem bulk_len {H : Type} (l : List (DataW H)) : l.length ≤ Rows.uptoBulkAll l := by
  induction l with
  | nil => simp [Rows.uptoBulkAll]
  | cons x r ih => have := bulk_one x; simp only [Rows.uptoBulkAll, List.length_cons]; omega
theorem bulk_string {H : Type} (bytes : List UInt8) : Rows.uptoBulk (DataW.lit (H := H) (.string bytes)) = bytes.length + 1 := by simp [Rows.uptoBulk]
theorem bulk_bound {H : Type} {l : List (DataW H)} (hk : Rows.uptoSmall H l = true) : Rows.uptoBulkAll l ≤ 1048576 := of_decide_eq_true hk
theorem bulk_texts {H : Type} : ∀ (l : List Wd), lenF l ≤ Rows.uptoBulkAll (l.map fun s => (DataW.lit (H := H) (.string s)))
  | [] => by simp [lenF]
  | x :: r => by
    have ih := bulk_texts (H := H) r
    simp only [List.map_cons, Rows.uptoBulkAll, bulk_string]
    simp only [lenF, List.map_cons, List.sum_cons] at ih ⊢
    omega
theorem choose_of {α : Type} {p : Nat → α → Prop} : ∀ n, (∀ i, i < n → ∃ g, p i g) → ∃ l : List α, l.length = n ∧ ∀ i (h : i < l.length), p i l[i]
  | 0, _ => ⟨[], rfl, fun i h => by simp at h⟩
  | n + 1, h => by
    obtain ⟨l, h1, h2⟩ := choose_of n fun i hi => h i (by omega)
    obtain ⟨g, hg⟩ := h n (by omega)
    refine ⟨l ++ [g], by simp [h1], fun i hi => ?_⟩
    by_cases hin : i < l.length
    · rw [List.getElem_append_left hin]; exact h2 i hin
    · have : i = n := by simp at hi; omega
      subst this
      rw [List.getElem_append_right (by omega)]; simpa [h1] using hg
/-! ### Reading the arguments -/
section
variable {H : Type} {enc : TypeId × Value → H} {w : World} {base : Nat} {spare : Nat → Bool} {held : Bool}
/-- Texts that came in. -/
theorem txt_of_trod {n : Nat} {v : Value} {x : DataW H × List MemPlace} (h : DataW.trod enc Tryz.prog w base spare held n 22 [v] = some x) :
    ∃ (a : Option Addr) (c : Nat) (l : List Wd), v = .slice a l.length c ∧ TxtAt w a c l ∧ (a = none → c = 0 ∧ l = []) ∧ l.length ≤ Rows.uptoBulk x.1 ∧ lenF l ≤ Rows.uptoBulk x.1 := by
  rcases open_slice1 Tryz.underlying22 (by kernel_rfl) h with ⟨h1, _⟩ | ⟨a, len, cap, m, n', V, D, Pl, h1, hb, hl, hm, hmm, hx, hat⟩
  · simp at h1; subst h1
    exact ⟨none, 0, [], rfl, ⟨Nat.le_refl _, fun k x hk => by simp at hk⟩, fun _ => ⟨rfl, rfl⟩, by simp, by simp [lenF]⟩
  · simp at h1; subst h1
    have hml : len ≤ m := by rw [hmm]; split <;> omega
    obtain ⟨l, hll, hlp⟩ := choose_of (p := fun i (s : Wd) => w.cell? (a.add i) = some (.string ⟨s.toArray⟩) ∧ D i = .lit (.string s)) len fun i hi => by
      obtain ⟨hc, ht⟩ := hat i (by omega)
      obtain ⟨s, hs, hd, _⟩ := DataW.trod_string Tryz.underlying9 ht
      simp only [List.cons.injEq, and_true] at hs
      simp only [Prod.mk.injEq] at hd
      exact ⟨s.data.toList, by rw [hc, hs], hd.1⟩
    subst hll
    have hD : (List.range l.length).map D = l.map fun s => DataW.lit (.string s) := by
      refine List.ext_getElem (by simp) fun i h1 h2 => ?_
      simp only [List.length_map, List.length_range] at h1
      simp only [List.getElem_map, List.getElem_range]
      exact (hlp i h1).2
    refine ⟨some a, cap, l, rfl, ⟨hl, fun k x hk => ?_⟩, (fun e => by cases e), ?_, ?_⟩
    · obtain ⟨hk', rfl⟩ := List.getElem?_eq_some_iff.1 hk
      have q := (hlp k hk').1
      have q0 := (hlp 0 (by omega)).1
      have hg := cell_lt q0
      obtain ⟨b, off, spot⟩ := a
      have hsp : spot = none := by
        have := World.cell?_spot q0
        simpa [Addr.add] using this
      subst hsp
      refine ⟨b, off, rfl, by simpa [Addr.add] using hg, ?_⟩
      cases k with
      | zero => exact q
      | succ k => simpa [Addr.add] using q
    · rw [hx]
      have := bulk_len ((List.range l.length).map D)
      simp only [Rows.uptoBulk, List.length_map, List.length_range] at this ⊢
      omega
    · rw [hx]
      have := bulk_texts (H := H) l
      simp only [Rows.uptoBulk, hD]
      omega
end
section
variable {H : Type} {enc : TypeId × Value → H} {P : Program}
theorem trodAll_below (hl : laidOutB P = true) {W W' : World} (hb : Below W.heap.size W W') : ∀ {ts : List TypeId} {vs : List Value} {ds : List (DataW H)} {ps : List MemPlace},
    (∀ t ∈ ts, P.readableRec t = true ∧ t < P.types.size) → DataW.TrodAll enc P W 0 (fun _ => true) true ts vs ds ps → (∀ x ∈ ps, x.block < W.heap.size) →
    DataW.TrodAll enc P W' 0 (fun b => decide (b < W.heap.size)) true ts vs ds ps
  | [], [], [], _, _, h, _ => h
  | t :: ts, v :: vs, d :: ds, ps, hr, h, hlt => by
    obtain ⟨p, q, h1, h2, rfl⟩ := h
    obtain ⟨r1, r2⟩ := hr t (by simp)
    exact ⟨p, q, Below.trod hl r1 r2 h1 hb fun x hx => hlt x (by simp [hx]), trodAll_below hl hb (fun t ht => hr t (by simp [ht])) h2 fun x hx => hlt x (by simp [hx]), rfl⟩
  | [], [], _ :: _, _, _, h, _ => h.elim
  | [], _ :: _, _, _, _, h, _ => h.elim
  | _ :: _, [], _, _, _, h, _ => h.elim
  | _ :: _, _ :: _, [], _, _, h, _ => h.elim
/-- The law's post, where the call answers true and leaves all that was there. -/
theorem law_post {fn : Func} {s : ChangeSpec} {t : TypeId} (hl : laidOutB P = true) (hvars : s.vars = []) (hres : fn.resultTypes = #[t]) (ht : P.underlying t = some .bool)
    (hr : ∀ t ∈ fn.params.toList, P.readableRec t = true ∧ t < P.types.size) {W W' : World} {args : Array Value} {ds gs : List (DataW H)} {before : List MemPlace}
    (hW : DataW.Whole enc P fn.params.toList s.vars false W args.toList ds gs before) (hfn : s.fn H (ds ++ gs) = { results := [.lit (.bool true)], args := ds })
    (hb : Below W.heap.size W W') : s.post enc P fn false true false false W args (.bool true) W' := by
  have hW' := hW
  obtain ⟨p, q, hA, hV, rfl, hz, hn⟩ := hW
  rw [hvars] at hV
  obtain ⟨rfl, rfl⟩ := trodVars_none hV
  have hlt : ∀ x ∈ p, x.block < W.heap.size := fun x hx => hW'.lt x (by simp [hx])
  refine ⟨ds, [], p ++ [], [], p, [], hW', ?_, ?_, ?_, hb.frame _, fun h => by cases h⟩
  · rw [hfn, hres]
    exact trodAll_cons_mk (shut_bool ht _) trodAll_mk0
  · rw [hfn]; exact trodAll_below hl hb hr hA hlt
  · rw [hfn, hvars]; rfl
end
end Go.Proofs.YtafhmagifoapfaaGreatDoor
