/- The arguments of the Table laws, as they came in. -/
import Derived.Test.YtepacocajnobgaaFills
import Derived.Test.YtepacocajnobgaaRCols
namespace Go.Proofs.Ytepacocajnobgaa
open Go.ChangeShapes Go.WideShapes Go.ChangeAt Go.RowKit Go.Deep

theorem weights_of {H : Type} {ts : List TypeId} {ds : List (DataW H)} (hsz : (DataW.weightsEach Try.prog ts ds).all (· ≤ reachBytes) = true) {j : Nat} {t : TypeId} {d : DataW H} (ht : ts[j]? = some t) (hd : ds[j]? = some d) :
    ∀ n ∈ d.weights Try.prog t, n ≤ 140737488351232 := fun n hn => by
  have := List.all_eq_true.1 hsz _ (DataW.weights_mem_each ht hd n hn)
  have h2 := of_decide_eq_true this
  simpa [reachBytes] using h2
theorem weightsAll_mem {H : Type} {e : TypeId} : ∀ {es : List (DataW H)} {d : DataW H}, d ∈ es → ∀ n ∈ d.weights Try.prog e, n ∈ DataW.weightsAll Try.prog e es
  | d0 :: es, d, hd, n, hn => by
    simp only [DataW.weightsAll, List.mem_append]
    rcases List.mem_cons.1 hd with rfl | h
    · exact .inl hn
    · exact .inr (weightsAll_mem h n hn)
  | [], _, hd, _, _ => by simp at hd

/-- What an argument says of itself: a slice without an address is nil. -/
def NilOk (v : Value) : Prop := ∀ n c, v = .slice none n c → n = 0 ∧ c = 0
theorem NilOk.none : NilOk (.slice none 0 0) := fun n c h => by injection h with h1 h2 h3; exact ⟨h2.symm, h3.symm⟩
theorem NilOk.some (a : Addr) (n c : Nat) : NilOk (.slice (some a) n c) := fun n c h => by injection h with h1; cases h1

section
variable {H : Type} {enc : TypeId × Value → H} {w : World} {base : Nat} {spare : Nat → Bool} {held : Bool}

theorem intSl_of_trod {n : Nat} {v : Value} {x : DataW H × List MemPlace} (h : DataW.trod enc Try.prog w base spare held n 33 [v] = some x) (hsz : ∀ n ∈ x.1.weights Try.prog 33, n ≤ 140737488351232) :
    ∃ zs : List Int, IntSl w v zs ∧ NilOk v ∧ zs.length ≤ 17592186043904 ∧ ∀ z ∈ zs, -9223372036854775808 ≤ z ∧ z ≤ 9223372036854775807 := by
  rcases open_ints Try.underlying33 Try.underlying3 (by kernel_rfl) h with ⟨h1, _⟩ | ⟨a, len, cap, zs, h1, hb, hl, hm, hz, hx, hcell, hwf⟩
  · simp at h1; subst h1
    exact ⟨[], ⟨none, 0, rfl, fun k hk => by simp at hk⟩, NilOk.none, by simp, by simp⟩
  · simp at h1; subst h1
    have hml : len ≤ zs.length := by rw [hz]; split <;> omega
    have hll : (zs.take len).length = len := by simp; omega
    have hw := hsz (zs.length * 8) (by rw [hx]; simp [DataW.weights, Try.underlying33, lits, show Try.prog.bytesOf 3 = 8 by kernel_rfl]; left; omega)
    refine ⟨zs.take len, ⟨some a, cap, by rw [hll], fun k hk => ?_⟩, NilOk.some _ _ _, by omega, fun z hz => ?_⟩
    · rw [hll] at hk
      obtain ⟨b, off, spot⟩ := a
      have hs : spot = none := by simpa [Addr.add] using World.cell?_spot (hcell 0 (by omega))
      subst hs
      refine ⟨b, off, rfl, fun j hj => ?_⟩
      have h2 := hcell j (by omega)
      rw [add_none] at h2
      rw [h2]
      simp [List.getD_eq_getElem?_getD, show j < len by omega]
    · have := hwf z (List.mem_of_mem_take hz)
      simpa [Lit.wf, IntKind.min, IntKind.max, IntKind.signed, IntKind.bits] using this

theorem choose_cols {p : Nat → Int × Int → Prop} : ∀ n, (∀ i, i < n → ∃ g, p i g) → ∃ l : List (Int × Int), l.length = n ∧ ∀ i (h : i < l.length), p i l[i]
  | 0, _ => ⟨[], rfl, fun i h => by simp at h⟩
  | n + 1, h => by
    obtain ⟨l, h1, h2⟩ := choose_cols n fun i hi => h i (by omega)
    obtain ⟨g, hg⟩ := h n (by omega)
    refine ⟨l ++ [g], by simp [h1], fun i hi => ?_⟩
    by_cases hin : i < l.length
    · rw [List.getElem_append_left hin]; exact h2 i hin
    · have : i = n := by simp at hi; omega
      subst this
      rw [List.getElem_append_right (by omega)]; simpa [h1] using hg
theorem choose_rows {p : Nat → Value × List Gl → Prop} : ∀ n, (∀ i, i < n → ∃ g, p i g) → ∃ l : List (Value × List Gl), l.length = n ∧ ∀ i (h : i < l.length), p i l[i]
  | 0, _ => ⟨[], rfl, fun i h => by simp at h⟩
  | n + 1, h => by
    obtain ⟨l, h1, h2⟩ := choose_rows n fun i hi => h i (by omega)
    obtain ⟨g, hg⟩ := h n (by omega)
    refine ⟨l ++ [g], by simp [h1], fun i hi => ?_⟩
    by_cases hin : i < l.length
    · rw [List.getElem_append_left hin]; exact h2 i hin
    · have : i = n := by simp at hi; omega
      subst this
      rw [List.getElem_append_right (by omega)]; simpa [h1] using hg

theorem col_of_trod {n : Nat} {cs : List Value} {y : DataW H × List MemPlace} (h : DataW.trod enc Try.prog w base spare held n 59 cs = some y) :
    ∃ c : Int × Int, cs = [.int .i64 c.1, .int .i64 c.2] ∧ (-9223372036854775808 ≤ c.1 ∧ c.1 ≤ 9223372036854775807) ∧ -9223372036854775808 ≤ c.2 ∧ c.2 ≤ 9223372036854775807 := by
  obtain ⟨xs, m, _, _, hlen, hxs, hf⟩ := DataW.trod_struct Try.underlying59 h
  rw [show Try.prog.cellsOf 59 = 2 by kernel_rfl] at hlen
  have hx : xs.length = 2 := hxs
  have h0 : DataW.trod enc Try.prog w base spare held m 3 ((cs.drop 0).take (Try.prog.cellsOf 3)) = xs[0]? := hf 0 _ rfl
  have h1 : DataW.trod enc Try.prog w base spare held m 3 ((cs.drop 1).take (Try.prog.cellsOf 3)) = xs[1]? := hf 1 _ rfl
  rw [show Try.prog.cellsOf 3 = 1 by kernel_rfl] at h0 h1
  obtain ⟨z0, q0, b0⟩ := int_at h0 (by simp [hx])
  obtain ⟨z1, q1, b1⟩ := int_at h1 (by simp [hx])
  match cs, hlen with
  | [c0, c1], _ =>
    simp at q0 q1
    subst q0 q1
    exact ⟨(z0, z1), rfl, b0, b1⟩

theorem colSl_of_trod {n : Nat} {v : Value} {x : DataW H × List MemPlace} (h : DataW.trod enc Try.prog w base spare held n 34 [v] = some x) (hsz : ∀ n ∈ x.1.weights Try.prog 34, n ≤ 140737488351232) :
    ∃ cs : List (Int × Int), ColSl w v cs ∧ NilOk v ∧ cs.length ≤ 8796093021952 := by
  rcases open_slice Try.underlying34 h with ⟨h1, _⟩ | ⟨a, len, cap, m, n', D, Pl, h1, hb, hl, hm, hmm, hx, hat⟩
  · simp at h1; subst h1
    exact ⟨[], ⟨none, 0, rfl, fun k hk => by simp at hk⟩, NilOk.none, by simp⟩
  · simp at h1; subst h1
    have hml : len ≤ m := by rw [hmm]; split <;> omega
    obtain ⟨l, hll, hlp⟩ := choose_cols (p := fun i c => w.cell? (a.add (i * 2)) = some (.int .i64 c.1) ∧ w.cell? ((a.add (i * 2)).add 1) = some (.int .i64 c.2)) len fun i hi => by
      obtain ⟨cs', hc, ht⟩ := hat i (by omega)
      rw [show Try.prog.cellsOf 59 = 2 by kernel_rfl] at hc
      obtain ⟨c, rfl, _⟩ := col_of_trod ht
      obtain ⟨_, _, hat'⟩ := World.cells?_some hc
      exact ⟨c, by have := hat' 0 (by omega); simpa [Addr.add] using this, by have := hat' 1 (by omega); simpa using this⟩
    subst hll
    have hw := hsz (m * 16) (by rw [hx]; simp [DataW.weights, Try.underlying34, show Try.prog.bytesOf 59 = 16 by kernel_rfl]; left; omega)
    refine ⟨l, ⟨some a, cap, rfl, fun k hk => ?_⟩, NilOk.some _ _ _, by omega⟩
    obtain ⟨b, off, spot⟩ := a
    have hs : spot = none := by simpa [Addr.add] using World.cell?_spot (hlp 0 (by omega)).1
    subst hs
    refine ⟨b, off, rfl, fun j hj => ?_⟩
    obtain ⟨q0, q1⟩ := hlp j hj
    rw [add_none] at q0 q1
    rw [add_none] at q1
    simp only [List.getD_eq_getElem?_getD, List.getElem?_eq_getElem hj, Option.getD_some]
    exact ⟨q0, q1⟩

theorem rowsSl_of_trod {n : Nat} {v : Value} {x : DataW H × List MemPlace} (h : DataW.trod enc Try.prog w base spare held n 23 [v] = some x) (hsz : ∀ n ∈ x.1.weights Try.prog 23, n ≤ 140737488351232) (hsp : ∀ a n c, v = .slice (some a) n c → a.spot = none) :
    ∃ ll : List (List Gl), RowsSl w v ll ∧ NilOk v ∧ ll.length ≤ 5864062014634 ∧ ∀ l ∈ ll, l.length ≤ 2932031007317 ∧ ∀ g ∈ l, -9223372036854775808 ≤ g.wide ∧ g.wide ≤ 9223372036854775807 := by
  rcases open_slice1 Try.underlying23 (by kernel_rfl) h with ⟨h1, _⟩ | ⟨a, len, cap, m, n', V, D, Pl, h1, hb, hl, hm, hmm, hx, hat⟩
  · simp at h1; subst h1
    exact ⟨[], .inl ⟨rfl, rfl⟩, NilOk.none, by simp, by simp⟩
  · simp at h1; subst h1
    have hml : len ≤ m := by rw [hmm]; split <;> omega
    have hw := hsz (m * 24) (by rw [hx]; simp [DataW.weights, Try.underlying23, show Try.prog.bytesOf 22 = 24 by kernel_rfl]; left; omega)
    obtain ⟨l, hll, hlp⟩ := choose_rows (p := fun i y => w.cell? (a.add i) = some y.1 ∧ GlSl w y.1 y.2 ∧ y.2.length ≤ 2932031007317 ∧ ∀ g ∈ y.2, -9223372036854775808 ≤ g.wide ∧ g.wide ≤ 9223372036854775807) len fun i hi => by
      obtain ⟨hc, ht⟩ := hat i (by omega)
      obtain ⟨l, h1, h2, h3⟩ := glSl_of_trod ht
      refine ⟨(V i, l), hc, h1, ?_, h2⟩
      rcases h3 with rfl | ⟨es, sp, hd, he⟩
      · simp
      · have hin : D i ∈ (List.range len).map D := List.mem_map.2 ⟨i, List.mem_range.2 hi, rfl⟩
        simp only at hd
        have := hsz ((es.length + sp.length) * 48) (by
          rw [hx]
          simp only [DataW.weights, Try.underlying23, List.mem_cons, List.mem_append]
          refine .inr (.inl (weightsAll_mem hin _ ?_))
          rw [hd]; simp [DataW.weights, Try.underlying22, show Try.prog.bytesOf 49 = 48 by kernel_rfl])
        show l.length ≤ _
        omega
    subst hll
    obtain ⟨b, off, spot⟩ := a
    obtain rfl : spot = none := hsp _ _ _ rfl
    refine ⟨l.map (·.2), .inr ⟨b, off, cap, l.map (·.1), by simp, by simp, fun k h1 h2 => ?_⟩, NilOk.some _ _ _, by simp; omega, fun y hy => ?_⟩
    · simp at h1
      obtain ⟨q0, q1, _⟩ := hlp k h1
      rw [add_none] at q0
      simp only [List.getElem_map]
      exact ⟨q0, q1⟩
    · obtain ⟨p, hp, rfl⟩ := List.mem_map.1 hy
      obtain ⟨i, hi, rfl⟩ := List.mem_iff_getElem.1 hp
      exact (hlp i hi).2.2
/-- A slice that came in has a plain address. -/
theorem okWide_spot {t e : TypeId} {r : Reach} {b : Nat} {a : Addr} {n c : Nat} (ht : Try.prog.underlying t = some (.slice e)) (h : Value.okWide Try.prog w r b t (.slice (some a) n c)) : a.spot = none := by
  simp only [Value.okWide, ht, Cell.okWide, Cell.ok] at h
  exact h.2.2.2.1
end
end Go.Proofs.Ytepacocajnobgaa
