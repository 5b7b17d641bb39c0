/- What every law's claim shares: arguments read as they did, where nothing old has turned; readings of the arguments of the Table laws. -/
import Derived.Test.YtepacocajnobgaaLeaf
import Derived.ProofKit
import Derived.SizedLaws
import Derived.Carry
import Derived.OpenShut
import Derived.Deep.Slices
import Derived.Test.YtepacocajnobgaaApart
namespace Go.Proofs.Ytepacocajnobgaa
open Go.ChangeShapes Go.WideShapes Go.ChangeAt Go.RowKit Go.Deep

section
variable {H : Type} {enc : TypeId × Value → H} {P : Program}
theorem trodAll_below (hl : laidOutB P = true) {W W' : World} (hb : Below W.heap.size W W') : ∀ {ts : List TypeId} {vs : List Value} {ds : List (DataW H)} {ps : List MemPlace},
    (∀ t ∈ ts, P.readableRec t = true ∧ t < P.types.size) → DataW.TrodAll enc P W 0 (fun _ => true) true ts vs ds ps → (∀ x ∈ ps, x.block < W.heap.size) →
    DataW.TrodAll enc P W' 0 (fun b => decide (b < W.heap.size)) true ts vs ds ps
  | [], [], [], _, _, h, _ => h
  | t :: ts, v :: vs, d :: ds, ps, hr, h, hlt => by
    obtain ⟨p, q, h1, h2, rfl⟩ := h
    obtain ⟨r1, r2⟩ := hr t (by simp)
    exact ⟨p, q, Below.trod hl r1 r2 h1 hb fun x hx => hlt x (by simp [hx]), trodAll_below hl hb (fun t ht => hr t (by simp [ht])) h2 fun x hx => hlt x (by simp [hx]), rfl⟩
  | [], [], _ :: _, _, _, h, _ => h.elim
  | [], _ :: _, _, _, _, h, _ => h.elim
  | _ :: _, [], _, _, _, h, _ => h.elim
  | _ :: _, _ :: _, [], _, _, h, _ => h.elim

/-- THE LAW's POST, where the call answers true and leaves all that was there. -/
theorem law_post {fn : Func} {s : ChangeSpec} {t : TypeId} (hl : laidOutB P = true) (hvars : s.vars = []) (hres : fn.resultTypes = #[t]) (ht : P.underlying t = some .bool)
    (hr : ∀ t ∈ fn.params.toList, P.readableRec t = true ∧ t < P.types.size) {W W' : World} {args : Array Value} {ds gs : List (DataW H)} {before : List MemPlace}
    (hW : DataW.Whole enc P fn.params.toList s.vars false W args.toList ds gs before) (hfn : s.fn H (ds ++ gs) = { results := [.lit (.bool true)], args := ds })
    (hb : Below W.heap.size W W') : s.post enc P fn false true false false W args (.bool true) W' := by
  have hW' := hW
  obtain ⟨p, q, hA, hV, rfl, hz, hn⟩ := hW
  rw [hvars] at hV
  obtain ⟨rfl, rfl⟩ := trodVars_none hV
  have hlt : ∀ x ∈ p, x.block < W.heap.size := fun x hx => hW'.lt x (by simp [hx])
  have hv : (Value.bool true).resultList 1 = [.bool true] := rfl
  refine ⟨ds, [], p ++ [], [], p, [], hW', ?_, ?_, ?_, hb.frame _, fun h => by cases h⟩
  · rw [hfn, hres]
    exact trodAll_cons_mk (shut_bool ht _) trodAll_mk0
  · rw [hfn]; exact trodAll_below hl hb hr hA hlt
  · rw [hfn, hvars]; rfl
end

section
variable {H : Type} {enc : TypeId × Value → H} {w : World} {base : Nat} {spare : Nat → Bool} {held : Bool}

theorem take_one {l : List Value} {i : Nat} {v : Value} (h : (l.drop i).take 1 = [v]) : l[i]? = some v := by
  have := congrArg (·[0]?) h
  simpa using this

theorem int_at {n : Nat} {cs : List Value} {i : Nat} {y : Option (DataW H × List MemPlace)} (h : DataW.trod enc Try.prog w base spare held n 3 ((cs.drop i).take 1) = y) (hy : y.isSome = true) : ∃ z, cs[i]? = some (.int .i64 z) ∧ -9223372036854775808 ≤ z ∧ z ≤ 9223372036854775807 := by
  obtain ⟨x, rfl⟩ := Option.isSome_iff_exists.1 hy
  obtain ⟨z, h1, _, h3⟩ := DataW.trod_int Try.underlying3 h
  refine ⟨z, take_one h1, ?_⟩
  simpa [Lit.wf, IntKind.min, IntKind.max, IntKind.signed, IntKind.bits] using h3

/-- Five cells that read as a glyph. -/
theorem gl_of_trod {n : Nat} {cs : List Value} {y : DataW H × List MemPlace} (h : DataW.trod enc Try.prog w base spare held n 49 cs = some y) : ∃ g : Gl, cs = g.cells ∧ (-9223372036854775808 ≤ g.wide ∧ g.wide ≤ 9223372036854775807) := by
  obtain ⟨xs, m, _, _, hlen, hxs, hf⟩ := DataW.trod_struct Try.underlying49 h
  rw [show Try.prog.cellsOf 49 = 5 by kernel_rfl] at hlen
  have hx : xs.length = 4 := hxs
  have h0 : DataW.trod enc Try.prog w base spare held m 9 ((cs.drop 0).take (Try.prog.cellsOf 9)) = xs[0]? := hf 0 _ rfl
  have h1 : DataW.trod enc Try.prog w base spare held m 3 ((cs.drop 1).take (Try.prog.cellsOf 3)) = xs[1]? := hf 1 _ rfl
  have h2 : DataW.trod enc Try.prog w base spare held m 47 ((cs.drop 2).take (Try.prog.cellsOf 47)) = xs[2]? := hf 2 _ rfl
  have h3 : DataW.trod enc Try.prog w base spare held m 3 ((cs.drop 4).take (Try.prog.cellsOf 3)) = xs[3]? := hf 3 _ rfl
  rw [show Try.prog.cellsOf 9 = 1 by kernel_rfl] at h0
  rw [show Try.prog.cellsOf 3 = 1 by kernel_rfl] at h1 h3
  rw [show Try.prog.cellsOf 47 = 2 by kernel_rfl] at h2
  rw [List.getElem?_eq_getElem (by omega)] at h0 h2
  obtain ⟨s, q0, _, _⟩ := DataW.trod_string Try.underlying9 h0
  obtain ⟨z1, q1, b1⟩ := int_at h1 (by simp [hx])
  obtain ⟨z3, q3, _⟩ := int_at h3 (by simp [hx])
  obtain ⟨ys, m', _, _, hlen2, hys, hf2⟩ := DataW.trod_struct Try.underlying47 h2
  have hy : ys.length = 2 := hys
  have k0 : DataW.trod enc Try.prog w base spare held m' 3 ((((cs.drop 2).take 2).drop 0).take (Try.prog.cellsOf 3)) = ys[0]? := hf2 0 _ rfl
  have k1 : DataW.trod enc Try.prog w base spare held m' 3 ((((cs.drop 2).take 2).drop 1).take (Try.prog.cellsOf 3)) = ys[1]? := hf2 1 _ rfl
  rw [show Try.prog.cellsOf 3 = 1 by kernel_rfl] at k0 k1
  obtain ⟨w0, r0, _⟩ := int_at k0 (by simp [hy])
  obtain ⟨w1, r1, _⟩ := int_at k1 (by simp [hy])
  have q0' := take_one q0
  match cs, hlen with
  | [c0, c1, c2, c3, c4], _ =>
    simp at q0' q1 q3 r0 r1
    subst q0' q1 q3 r0 r1
    exact ⟨⟨s, z1, w0, w1, z3⟩, rfl, b1⟩

theorem choose_list {p : Nat → Gl → Prop} : ∀ n, (∀ i, i < n → ∃ g, p i g) → ∃ l : List Gl, l.length = n ∧ ∀ i (h : i < l.length), p i l[i]
  | 0, _ => ⟨[], rfl, fun i h => by simp at h⟩
  | n + 1, h => by
    obtain ⟨l, h1, h2⟩ := choose_list n fun i hi => h i (by omega)
    obtain ⟨g, hg⟩ := h n (by omega)
    refine ⟨l ++ [g], by simp [h1], fun i hi => ?_⟩
    by_cases hin : i < l.length
    · rw [List.getElem_append_left hin]; exact h2 i hin
    · have : i = n := by simp at hi; omega
      subst this
      rw [List.getElem_append_right (by omega)]; simpa [h1] using hg

/-- A flow that came in. -/
theorem glSl_of_trod {n : Nat} {v : Value} {x : DataW H × List MemPlace} (h : DataW.trod enc Try.prog w base spare held n 22 [v] = some x) :
    ∃ l : List Gl, GlSl w v l ∧ (∀ g ∈ l, -9223372036854775808 ≤ g.wide ∧ g.wide ≤ 9223372036854775807) ∧ (l = [] ∨ ∃ es sp, x.1 = .slice es sp ∧ es.length = l.length) := by
  rcases open_slice Try.underlying22 h with ⟨h1, _⟩ | ⟨a, len, cap, m, n', D, Pl, h1, hb, hl, hm, hmm, hx, hat⟩
  · simp at h1; subst h1
    exact ⟨[], .inl ⟨⟨none, 0, rfl, fun _ => rfl⟩, rfl⟩, by simp, .inl rfl⟩
  · simp at h1; subst h1
    have hml : len ≤ m := by rw [hmm]; split <;> omega
    obtain ⟨l, hll, hlp⟩ := choose_list (p := fun i g => (-9223372036854775808 ≤ g.wide ∧ g.wide ≤ 9223372036854775807) ∧ ∀ j u, g.cells[j]? = some u → w.cell? ((a.add (i * 5)).add j) = some u) len fun i hi => by
      obtain ⟨cs', hc, ht⟩ := hat i (by omega)
      rw [show Try.prog.cellsOf 49 = 5 by kernel_rfl] at hc
      obtain ⟨g, rfl, hg⟩ := gl_of_trod ht
      obtain ⟨_, _, hat'⟩ := World.cells?_some hc
      exact ⟨g, hg, fun j u hu => (hat' j (by have := (List.getElem?_eq_some_iff.1 hu).1; simpa [Gl.cells] using this)).trans hu⟩
    subst hll
    have hsl : GlSl w (.slice (some a) l.length cap) l := by
      by_cases h0 : l.length = 0
      · have : l = [] := List.eq_nil_of_length_eq_zero h0
        subst this
        exact .inl ⟨⟨_, _, rfl, fun h => by cases h⟩, rfl⟩
      · obtain ⟨b, off, spot⟩ := a
        have hs : spot = none := by
          have := (hlp 0 (by omega)).2 0 _ rfl
          simpa [Addr.add] using World.cell?_spot this
        subst hs
        refine .inr ⟨b, off, cap, rfl, fun k hk => ?_⟩
        have q := (hlp k hk).2
        have ea : ∀ j, ((⟨b, off, none⟩ : Addr).add (k * 5)).add j = ⟨b, off + k * 5 + j, none⟩ := fun j => by rw [add_none, add_none]
        simp only [ea] at q
        exact ⟨q 0 _ rfl, q 1 _ rfl, q 2 _ rfl, q 3 _ rfl, q 4 _ rfl⟩
    refine ⟨l, hsl, fun g hg => ?_, .inr ⟨(List.range l.length).map D, (List.range (m - l.length)).map fun j => D (l.length + j), by rw [hx], by simp⟩⟩
    obtain ⟨i, hi, rfl⟩ := List.mem_iff_getElem.1 hg
    exact (hlp i hi).1
end
end Go.Proofs.Ytepacocajnobgaa
