/- TableColumns: for every list of widths and every width the law answers true. No condition beyond the form's own. -/
import Derived.Test.YtepacocajnobgaaOpen
namespace Go.Proofs.Ytepacocajnobgaa
open Go.ChangeShapes Go.WideShapes Go.ChangeAt Go.RowKit

/-- append of a slice, be it nil, empty or not, onto a row of the call's own. -/
theorem wpList_append_src {P : Program} {w : World} {ops : Array Oper} {rest : List Oper} {o : Oper} {a : Act} {Q : Exit → Act → World → Prop} (hgd : o.guard = none) (s x : Operand) (t : TypeId)
    (ho : o.op = .call { callee := .builtin .append, args := #[s, x], argTypes := #[t, t] })
    (base : Nat) (e : TypeId) (i : TypeInfo) (z : Value) (size bytes : Nat) (ht : P.underlying t = some (.slice e)) (hi : P.info? e = some i) (hz : i.zero = some z)
    (hsize : i.size = size) (hby : i.bytes = bytes) (hzs : z.cells.size = size) (hsz : 0 < size)
    (v : Value) (n : Nat) (xs : List Value) (hs : a.eval s = v) (hown : w.ownsRow base e size v n xs)
    (ao : Option Addr) (m c : Nat) (news : List Value) (hx : a.eval x = .slice ao m c) (hnil : ao = none → m = 0 ∧ c = 0) (hl : news.length = m * size)
    (hsrc : ∀ ad, ao = some ad → ∀ j u, news[j]? = some u → w.cell? (ad.add j) = some u) (h1 : ∀ u ∈ news, u.oneCell' = true)
    (h63 : n + m ≤ maxLen) (hbytes : (n + m) * bytes ≤ 140737488355328) (hbase : base ≤ w.heap.size)
    (h : ∀ a' c' w', w'.ownsRow base e size (.slice a' (n + m) c') (n + m) (xs ++ news) → w.grownBy w' v.ownBlock → wpList P ops Q rest (a.put o.dst (.slice a' (n + m) c')) w') : wpList P ops Q (o :: rest) a w := by
  have shape : ∀ {w : World} {v : Value} {n : Nat} {xs : List Value}, w.ownsRow base e size v n xs → ∃ a c, v = .slice a n c := fun hown => by
    rcases hown.2 with ⟨rfl, h0⟩ | ⟨g, cap, cur, rfl, _⟩
    · exact ⟨none, 0, by rw [h0]⟩
    · exact ⟨_, _, rfl⟩
  cases ao with
  | none =>
    obtain ⟨rfl, rfl⟩ := hnil rfl
    have hn : news = [] := List.eq_nil_of_length_eq_zero (by simpa using hl)
    subst hn
    refine wpList_append_own_none hgd s x t ho base e i size ht hi v n xs hs hown hx ?_
    obtain ⟨a', c', rfl⟩ := shape hown
    exact h a' c' w (by simpa using hown) ⟨rfl, rfl, rfl, Nat.le_refl _, fun _ _ _ => rfl⟩
  | some ad =>
    refine wpList_append_own _ hgd s x t ho base e i z size bytes ht hi hz hsize hby hzs hsz v n xs hs hown ad m c news hx hl (hsrc ad rfl) h1 h63 hbytes hbase ?_
    intro v' w1 hown1 hg1 _
    obtain ⟨a', c', rfl⟩ := shape hown1
    exact h a' c' w1 hown1 hg1

theorem IntSl.new {w w' : World} {v : Value} {zs : List Int} (h : IntSl w v zs) (hb : Below w.heap.size w w') : IntSl w' v zs := by
  obtain ⟨a, c, rfl, h1⟩ := h
  refine ⟨a, c, rfl, fun k hk => ?_⟩
  obtain ⟨b, off, ha, hat⟩ := h1 k hk
  exact ⟨b, off, ha, hat.same (hb.block b (hat.lt (by omega)))⟩
theorem intSl_of_owns {w : World} {B : Nat} {v : Value} {zs : List Int} (h : w.ownsRow B 3 1 v zs.length (zs.map (Value.int .i64))) : IntSl w v zs := by
  rcases h.2 with ⟨rfl, h0⟩ | ⟨g, cap, cur, rfl, hb, hgg, rest⟩
  · exact ⟨none, 0, by rw [h0], fun k hk => by omega⟩
  · refine ⟨_, cap, rfl, fun k hk => ⟨g, 0, rfl, fun k hk => ?_⟩⟩
    have := h.cells (g := g) rfl k _ (map_getD zs k hk)
    rw [add_none] at this; exact this
theorem IntSl.src {w : World} {a : Option Addr} {n c : Nat} {zs : List Int} (h : IntSl w (.slice a n c) zs) (ad : Addr) (ha : a = some ad) : ∀ j u, (zs.map (Value.int .i64))[j]? = some u → w.cell? (ad.add j) = some u := by
  intro j u hu
  have hj : j < zs.length := by have := (List.getElem?_eq_some_iff.1 hu).1; simpa using this
  obtain ⟨a', c', he, h1⟩ := h
  injection he with e1 e2 e3
  obtain ⟨b, off, ha', hat⟩ := h1 j hj
  rw [← e1, ha] at ha'
  injection ha' with ha'
  subst ha'
  exact hat.adds j u hu

theorem columnsOf_len (ws : List Int) (wide : Int) : (columnsOf ws wide).1.length ≤ 8 := by
  unfold columnsOf
  split
  · simp
  · split
    · simp
    · rw [colsP_length]; omega

set_option maxRecDepth 100000 in
set_option maxHeartbeats 1000000 in
theorem columns_walk (v : Value) (ws : List Int) (wide : Int) (w : World) (hv : IntSl w v ws) (hnil : NilOk v) (hl : ws.length ≤ 17592186043904) (_ : ∀ z ∈ ws, -9223372036854775808 ≤ z ∧ z ≤ 9223372036854775807) (_ : -9223372036854775808 ≤ wide ∧ wide ≤ 9223372036854775807) :
    Calls Try.prog 4 #[v, .int .i64 wide] w fun e w' => e = .returned (.bool true) ∧ Below w.heap.size w w' := by
  have Hv := Lib.hid hv
  obtain ⟨a, c, rfl, hat⟩ := hv
  have Hnil := Lib.hid hnil
  have Hcl := Lib.hid (columnsOf_len ws wide)
  clear hat hnil
  obtain ⟨i0, hi0, hz0, hz1, hz2⟩ := info_parts info3
  go_enter Try.func4, Try.ntmps4
  go_wp2_with (at_builtin; go_loud (refine wpList_append_src rfl (.tmp 10) (.tmp 11) 33 rfl w.heap.size 3 i0 _ 1 8 Try.underlying33 hi0 hz0 hz1 hz2 rfl (by omega) (.slice (some ⟨w.heap.size, 0, none⟩) 0 0) 0 [] rfl (World.ownsRow_made w #[] 0 (Nat.le_refl _) (by unfold maxLen; omega) rfl) a ws.length c (ws.map (Value.int .i64)) rfl (fun h => Hnil.out _ _ (by rw [h])) (by simp) (fun ad ha => (Hv.out.new ((Below.refl _ _).alloc (Nat.le_refl _) _)).src ad ha) (ints_one _) (by unfold maxLen; omega) (by omega) (by simp) ?_); intro na nc w1 hown hgrow)
  have Hb1 := Lib.hid (show Below w.heap.size w w1 from ((Below.refl _ _).alloc (Nat.le_refl _) _).grown hgrow (by simp) fun k hk => by simp [Value.ownBlock] at hk; omega)
  have Hi1 := Lib.hid (show IntSl w1 (.slice na ws.length nc) ws from intSl_of_owns (B := w.heap.size) (by simpa using hown))
  clear hown hgrow
  refine (cols_any _ ws wide _ Hi1.out (by omega)).mono ?_
  rintro e w2 ⟨v2, rfl, hown2, hb2⟩
  have Hb2 := Lib.hid (Hb1.out.trans (hb2.mono Hb1.out.size))
  have Hc2 := Lib.hid (colSl_of_owns hown2)
  clear hown2 hb2
  go_wp2_with fail
  refine (rcols_any _ ws wide _ (Hv.out.new Hb2.out) (by omega)).mono ?_
  rintro e w3 ⟨v3, rfl, hown3, hb3⟩
  have Hb3 := Lib.hid (Hb2.out.trans (hb3.mono Hb2.out.size))
  have Hc3 := Lib.hid (colSl_of_owns hown3)
  have Hc2' := Lib.hid (Hc2.out.new hb3)
  clear hown3 hb3
  go_wp2_with fail
  refine (colsame_any _ _ (columnsOf ws wide).1 _ Hc2'.out Hc3.out (by have := Hcl.out; omega)).mono ?_
  rintro e w4 ⟨rfl, n4, hw4⟩
  have Hb4 := Lib.hid (show Below w.heap.size w w4 by rw [hw4]; exact below_drewN Hb3.out _)
  clear hw4
  go_wp2_with fail
  refine (awake_any _).mono ?_
  rintro e w5 ⟨rfl, hb5⟩
  have Hb5 := Lib.hid (Hb4.out.trans (hb5.mono Hb4.out.size))
  clear hb5
  go_wp2
  go_ret
  exact ⟨rfl, Hb5.out⟩

set_option maxRecDepth 100000 in
theorem columns_lifted (os : Os) (started : os.Started) (H : Type) (enc : TypeId × Value → H) :
    ReturnsInHanded {} Try.checked os 4 .any (Rows.tableColumnsSpec.pre6 enc Try.prog Try.f4 Rows.tableColumnsRow.domain false) (Rows.tableColumnsSpec.post enc Try.prog Try.f4 false true false false) := by
  refine returnsInHanded_of_change_sized (C := Try.checked) Try.own started (by kernel_rfl) Try.func4
    (ChangeSpec.witness6 (enc := enc) (C := Try.checked) false ⟨#[], #[.slice none 0 0, .int .i64 0], []⟩ 8 (by kernel_rfl) (by kernel_rfl) (by kernel_rfl) (by kernel_rfl)) ?_
  intro W base args ds gs before hval0 hW _ hsz0 _
  have hsz : (DataW.weightsEach Try.prog (Try.f4.params.toList ++ Rows.tableColumnsSpec.plain.varTypes Try.prog) (ds ++ gs)).all (· ≤ reachBytes) = true := hsz0
  have hval : ∀ (j : Nat) t v, Try.f4.params[j]? = some t → args[j]? = some v → Value.okWide Try.prog W .any base t v := hval0
  clear hsz0 hval0
  have hW' : DataW.Whole enc Try.prog Try.f4.params.toList Rows.tableColumnsSpec.vars false W args.toList ds gs before := hW
  obtain ⟨p, q, hA0, hV, rfl, hfz, hnd⟩ := hW
  have hA : DataW.TrodAll enc Try.prog W 0 (fun _ => true) true Try.f4.params.toList args.toList ds p := hA0
  obtain ⟨rfl, rfl⟩ := trodVars_none hV
  rw [Try.params4] at hA hval hsz
  obtain ⟨v0, v1, d0, d1, p0, p1, rfl, rfl, h0, h1⟩ := open_args2 hA
  obtain ⟨a0, len0, cap0, rfl⟩ := okWide_slice Try.underlying33 (hval 0 33 v0 rfl rfl)
  obtain ⟨fuel0, hf0⟩ := h0
  obtain ⟨l0, hg0, hn0, hl0, hz0⟩ := intSl_of_trod hf0 (weights_of hsz (j := 0) rfl rfl)
  obtain ⟨n1, rfl, _, _, w1⟩ := open_int Try.underlying3 (hval 1 3 v1 rfl rfl) h1
  have b1 : -9223372036854775808 ≤ n1 ∧ n1 ≤ 9223372036854775807 := by simpa [Lit.wf, IntKind.min, IntKind.max, IntKind.signed, IntKind.bits] using w1
  refine (columns_walk _ l0 n1 W hg0 hn0 hl0 hz0 b1).mono fun e W' ⟨he, hb⟩ => ⟨_, he, ?_⟩
  exact law_post Try.laidOut rfl (t := 4) (by kernel_rfl) Try.underlying4 (by rw [Try.params4]; intro t ht; simp at ht; rcases ht with rfl | rfl <;> exact ⟨by kernel_rfl, of_decide_eq_true (by kernel_rfl)⟩) hW' rfl hb

theorem columns_holds : Rows.TableColumnsSaid :=
  OpenClaim.holds_of_wide 4 Try.f4 rfl rfl rfl rfl rfl rfl rfl ⟨rfl, rfl, rfl, rfl, rfl⟩ rfl rfl rfl rfl rfl (by kernel_rfl) Try.func4 (by kernel_rfl)
    (of_decide_eq_true (by kernel_rfl)) (by unfold Func.isWrapper; first | (rw [if_pos (by decide +kernel)]; kernel_rfl) | (rw [if_neg (by decide +kernel)]; exact ⟨rfl, rfl⟩))
    (fun os started H enc _ => columns_lifted os started H enc)
end Go.Proofs.Ytepacocajnobgaa
