/- FindOpen, plain: the topics of a word, of a beginning. -/
import Derived.Test.YthpbdeiphagkiaaGreatDoorScoresW
namespace Go.Proofs.YthpbdeiphagkiaaGreatDoor
open Go.RowKit Find

theorem mem_okTopics {LL : Lists} {cs : List Cl} {t : Int} : t ∈ okTopics LL cs ↔ ∃ i : Nat, i < LL.length ∧ okB LL cs i = true ∧ t = i := by
  simp only [okTopics, List.mem_map, List.mem_filter, List.mem_range]
  constructor
  · rintro ⟨i, ⟨h1, h2⟩, rfl⟩; exact ⟨i, h1, h2, rfl⟩
  · rintro ⟨i, h1, h2, rfl⟩; exact ⟨i, ⟨h1, h2⟩, rfl⟩
theorem okB_one {LL : Lists} {c : Cl} {y : Wd} (hw : c.words = [y]) (ho : c.opn = false) (hn : c.no = false) (i : Nat) : okB LL [c] i = decide (y ∈ allAt LL i) := by
  unfold okB
  have : asksN [c] = 1 := by unfold asksN; rw [List.filter_cons, hn, hw]; rfl
  rw [this]
  simp only [List.all_cons, List.all_nil, hw, hit_one hw ho, hn]
  simp
theorem okB_open {LL : Lists} {c : Cl} {y : Wd} (hw : c.words = [y]) (ho : c.opn = true) (hn : c.no = false) (i : Nat) : okB LL [c] i = true ↔ ∃ x ∈ allAt LL i, y <+: x := by
  unfold okB
  have : asksN [c] = 1 := by unfold asksN; rw [List.filter_cons, hn, hw]; rfl
  rw [this, ← hit_open hw ho LL i]
  simp only [List.all_cons, List.all_nil, hw, hn]
  simp
theorem asc_len {T : List Int} {n : Nat} (hs : T.Pairwise (· < ·)) (h : ∀ t ∈ T, ∃ i : Nat, i < n ∧ t = i) : T.length ≤ n := by
  have hnd : T.Nodup := hs.imp fun hxy => by omega
  have := nodup_len T ((List.range n).map fun (i : Nat) => (i : Int)) hnd fun t ht => by
    obtain ⟨i, hi, rfl⟩ := h t ht
    exact List.mem_map.2 ⟨i, List.mem_range.2 hi, rfl⟩
  simpa using this
/-- A word stands in a topic's lists. -/
theorem allAt_spots {LL : Lists} {y : Wd} {i : Nat} (hi : i < LL.length) (h : y ∈ allAt LL i) : spotsOf LL y ≠ [] := spotsOf_ne.2 ⟨i, hi, List.mem_append.1 h⟩
/-- The topics of the words that begin so are those of the beginning. -/
theorem open_topics {LL : Lists} {x : Wd} {R : List Wd} (hR : ∀ k, k ∈ R ↔ spotsOf LL k ≠ [] ∧ x <+: k) {T : List Int} (hs : T.Pairwise (· < ·)) (hT : ∀ t, t ∈ T ↔ ∃ y ∈ R, t ∈ okTopics LL [Find.one y]) {U : List Int} (hU : U = okTopics LL [⟨[x], false, true⟩]) : U = T := by
  subst hU
  refine asc_unique (filter_range_asc _ _) hs fun t => ?_
  rw [hT]
  constructor
  · intro h
    obtain ⟨i, hi, hb, rfl⟩ := mem_okTopics.1 h
    obtain ⟨y, hy, hp⟩ := (okB_open rfl rfl rfl i).1 hb
    exact ⟨y, (hR y).2 ⟨allAt_spots hi hy, hp⟩, mem_okTopics.2 ⟨i, hi, by rw [okB_one rfl rfl rfl]; exact decide_eq_true hy, rfl⟩⟩
  · rintro ⟨y, hy, h⟩
    obtain ⟨i, hi, hb, rfl⟩ := mem_okTopics.1 h
    rw [okB_one rfl rfl rfl, decide_eq_true_eq] at hb
    exact mem_okTopics.2 ⟨i, hi, (okB_open rfl rfl rfl i).2 ⟨y, hb, ((hR y).1 hy).2⟩, rfl⟩
theorem word_le {s k : Wd} (h : k ∈ words s) : k.length ≤ 20 * s.length := by
  have h1 := (words_len s).2
  have h2 : k.length ≤ (words s).flatten.length := (List.sublist_flatten_of_mem h).length_le
  omega
theorem wordsLL_keys {TT XX : List Wd} (hT : ∀ x ∈ TT, x.length ≤ 1048576) (hX : ∀ x ∈ XX, x.length ≤ 1048576) : ∀ k, spotsOf (wordsLL TT XX) k ≠ [] → k.length ≤ 20971520 := by
  intro k hk
  obtain ⟨i, hi, hm⟩ := spotsOf_ne.1 hk
  rw [List.getD_eq_getElem?_getD, List.getElem?_eq_getElem hi, Option.getD_some] at hm
  have hmem : (wordsLL TT XX)[i] ∈ wordsLL TT XX := List.getElem_mem hi
  unfold wordsLL at hmem
  obtain ⟨q, hq, he⟩ := List.mem_map.1 hmem
  have h1 := hT q.1 (List.of_mem_zip hq).1
  have h2 := hX q.2 (List.of_mem_zip hq).2
  have he' : (wordsLL TT XX)[i] = (words q.1, words q.2) := by unfold wordsLL; exact he.symm
  rw [he'] at hm
  rcases hm with hm | hm
  · have := word_le hm; omega
  · have := word_le hm; omega
/-- Ask for one word that stands in a slice of the law's own. -/
theorem ask_built {LL : Lists} {b : Nat} {x : Wd} {no opn : Bool} {W : World} (hf : FinderIs W b LL) (hN : ∀ p ∈ LL, p.1.length ≤ 5242881 ∧ p.2.length ≤ 5242881) (hLn : LL.length ≤ 1000) :
    Calls Tryz.prog 8 #[.pointer (some ⟨b, 0, none⟩), .slice (some ⟨W.heap.size + 1, 0, none⟩) 1 1] ((W.alloc (.cells #[st x] 9)).alloc (.cells #[.slice (some ⟨W.heap.size, 0, none⟩) 1 1, .bool no, .bool opn] 62)) fun e w' => ∃ a c R, e = .returned (.slice a R.length c) ∧ Find.Told LL [⟨[x], no, opn⟩] R ∧ R.length ≤ 1000 ∧ FndSl w' (.slice a R.length c) R ∧ Below W.heap.size W w' := by
  have hb := (Below.refl W.heap.size W).alloc (Nat.le_refl _) (.cells #[st x] 9)
  have hr : StrRow (W.alloc (.cells #[st x] 9)) (.slice (some ⟨W.heap.size, 0, none⟩) 1 1) [x] := ⟨rfl, .inr ⟨W.heap.size, 1, #[st x], rfl, Nat.zero_le _, heap_alloc_new W _, Nat.le_refl _, by unfold maxLen; omega, rfl, rfl⟩⟩
  have h := ask_word (x := x) (no := no) (opn := opn) (hf.new hb) hr hN hLn
  rw [World.size_alloc] at h
  refine h.mono ?_
  rintro e w' ⟨a, c, R, rfl, h1, h2, h3, h4⟩
  exact ⟨a, c, R, rfl, h1, h2, h3, hb.trans (h4.mono (Nat.le_succ _))⟩
end Go.Proofs.YthpbdeiphagkiaaGreatDoor
/- FindBeside, plain: what several words side by side hit each of them hits; an open clause hits no less; the order of clauses is no matter. -/
namespace Go.Proofs.YthpbdeiphagkiaaGreatDoor
open Go.RowKit Find

theorem hits_pos {c : Cl} {l : List Wd} : 0 < (hits c l).length ↔ ∃ k, k < l.length ∧ standsB c l k = true := by
  unfold hits
  rw [List.length_pos_iff_exists_mem]
  simp [List.mem_filter]
theorem hit_iff {c : Cl} {LL : Lists} {i : Nat} : hit c LL i = true ↔ (∃ k, k < (LL.getD i ([], [])).1.length ∧ standsB c (LL.getD i ([], [])).1 k = true) ∨ (∃ k, k < (LL.getD i ([], [])).2.length ∧ standsB c (LL.getD i ([], [])).2 k = true) := by
  unfold hit
  rw [decide_eq_true_eq, ← hits_pos, ← hits_pos]
  omega
theorem stands_wide {ws : List Wd} {l : List Wd} {k : Nat} (h : standsB ⟨ws, false, false⟩ l k = true) : standsB ⟨ws, false, true⟩ l k = true := by
  rw [standsB_eq, Bool.and_eq_true, List.all_eq_true] at h ⊢
  refine ⟨h.1, fun i hi => ?_⟩
  have := h.2 i hi
  unfold okAt at this ⊢
  simp only [Bool.and_false, Bool.false_and, Bool.or_false] at this
  simp only [this, Bool.true_or]
theorem stands_mem {ws : List Wd} {l : List Wd} {k : Nat} (h : standsB ⟨ws, false, false⟩ l k = true) {x : Wd} (hx : x ∈ ws) : x ∈ l := by
  rw [standsB_eq, Bool.and_eq_true, List.all_eq_true, decide_eq_true_eq] at h
  obtain ⟨i, hi, rfl⟩ := List.mem_iff_getElem.1 hx
  have := h.2 i (List.mem_range.2 hi)
  unfold okAt at this
  simp only [Bool.and_false, Bool.false_and, Bool.or_false, beq_iff_eq] at this
  have h1 := h.1
  simp only at h1
  have hlt : k + i < l.length := by omega
  rw [List.getD_eq_getElem?_getD, List.getD_eq_getElem?_getD, List.getElem?_eq_getElem hlt, List.getElem?_eq_getElem hi] at this
  simp only [Option.getD_some] at this
  rw [← this]; exact List.getElem_mem hlt
theorem okB_single {LL : Lists} {ws : List Wd} {o : Bool} {i : Nat} : okB LL [⟨ws, false, o⟩] i = true ↔ ws ≠ [] ∧ hit ⟨ws, false, o⟩ LL i = true := by
  unfold okB asksN
  cases ws with
  | nil => simp
  | cons x r => simp
theorem beside_more {LL : Lists} {ws : List Wd} {t : Int} (h : t ∈ okTopics LL [⟨ws, false, false⟩]) : t ∈ okTopics LL [⟨ws, false, true⟩] := by
  rw [mem_okTopics] at h ⊢
  obtain ⟨i, hi, ho, ht⟩ := h
  refine ⟨i, hi, ?_, ht⟩
  rw [okB_single] at ho ⊢
  refine ⟨ho.1, ?_⟩
  have := ho.2
  rw [hit_iff] at this ⊢
  rcases this with ⟨k, hk, hs⟩ | ⟨k, hk, hs⟩
  · exact .inl ⟨k, hk, stands_wide hs⟩
  · exact .inr ⟨k, hk, stands_wide hs⟩
theorem beside_word {LL : Lists} {ws : List Wd} {t : Int} (h : t ∈ okTopics LL [⟨ws, false, false⟩]) {x : Wd} (hx : x ∈ ws) : t ∈ okTopics LL [Find.one x] := by
  rw [mem_okTopics] at h ⊢
  obtain ⟨i, hi, ho, ht⟩ := h
  refine ⟨i, hi, ?_, ht⟩
  rw [okB_single] at ho
  rw [okB_one (c := Find.one x) rfl rfl rfl, decide_eq_true_eq]
  unfold allAt
  rcases hit_iff.1 ho.2 with ⟨k, hk, hs⟩ | ⟨k, hk, hs⟩
  · exact List.mem_append_left _ (stands_mem hs hx)
  · exact List.mem_append_right _ (stands_mem hs hx)
theorem told_rev {LL : Lists} {cs : List Cl} {R S : List Fnd} (h : Find.Told LL cs R) (h' : Find.Told LL cs.reverse S) : R = S :=
  Find.Told.unique h ⟨h'.1, by rw [founds_perm LL (List.reverse_perm cs).symm]; exact h'.2⟩

/-- Clauses that came in, or lie as they came in: of an empty slice the room is known. -/
def ClAtN (w : World) (g o : Nat) (c : Cl) : Prop := ∃ aw cw, (w.cell? ⟨g, o, none⟩ = some (.slice aw c.words.length cw) ∧ w.cell? ⟨g, o + 1, none⟩ = some (.bool c.no) ∧ w.cell? ⟨g, o + 2, none⟩ = some (.bool c.opn) ∧ StrSl w (.slice aw c.words.length cw) c.words) ∧ (aw = none → cw = 0)
def ClsN (w : World) (v : Value) (l : List Cl) : Prop := ∃ a c, v = .slice a l.length c ∧ ∀ (k : Nat) (h : k < l.length), ∃ g o, a = some ⟨g, o, none⟩ ∧ ClAtN w g (o + k * 3) l[k]
theorem ClAtN.new {w w' : World} {g o : Nat} {c : Cl} (h : ClAtN w g o c) (hb : Below w.heap.size w w') : ClAtN w' g o c := by
  obtain ⟨aw, cw, ⟨h0, h1, h2, h3⟩, hn⟩ := h
  have lt := World.block_lt_of_cell? w _ h0
  exact ⟨aw, cw, ⟨(hb.cell (p := ⟨g, o, none⟩) lt).trans h0, (hb.cell (p := ⟨g, o + 1, none⟩) lt).trans h1, (hb.cell (p := ⟨g, o + 2, none⟩) lt).trans h2, h3.new hb⟩, hn⟩
theorem ClsN.new {w w' : World} {v : Value} {l : List Cl} (h : ClsN w v l) (hb : Below w.heap.size w w') : ClsN w' v l := by
  obtain ⟨a, c, rfl, hc⟩ := h
  refine ⟨a, c, rfl, fun k hk => ?_⟩
  obtain ⟨g, o, rfl, hcell⟩ := hc k hk
  exact ⟨g, o, rfl, hcell.new hb⟩
/-- A clause's words as they came in. -/
def InWd (w : World) (u : Value) (c : Cl) : Prop := ∃ aw cw, u = .slice aw c.words.length cw ∧ StrSl w u c.words ∧ (aw = none → cw = 0)
theorem InWd.new {w w' : World} {u : Value} {c : Cl} (h : InWd w u c) (hb : Below w.heap.size w w') : InWd w' u c := by
  obtain ⟨aw, cw, rfl, h1, h2⟩ := h
  exact ⟨aw, cw, rfl, h1.new hb, h2⟩
/-- A row of clauses of which the words are as they came in. -/
def InRow (B : Nat) (w : World) (v : Value) (us : List Value) (L : List Cl) : Prop := us.length = L.length ∧ w.ownsRow B 62 3 v L.length (clCells us L) ∧ ∀ (i : Nat) (u : Value) (c : Cl), us[i]? = some u → L[i]? = some c → InWd w u c
theorem InRow.new {B : Nat} {w w' : World} {v : Value} {us : List Value} {L : List Cl} (h : InRow B w v us L) (hb : Below w.heap.size w w') : InRow B w' v us L :=
  ⟨h.1, owns_new h.2.1 hb, fun i u c hu hc => (h.2.2 i u c hu hc).new hb⟩
theorem InRow.sl {B : Nat} {w : World} {v : Value} {us : List Value} {L : List Cl} (h : InRow B w v us L) : ClsN w v L := by
  obtain ⟨hl, hown, hs⟩ := h
  obtain ⟨a, c, rfl⟩ := slice_form hown
  refine ⟨a, c, rfl, fun k hk => ?_⟩
  obtain ⟨g, cap, he, _⟩ := hown.form (by omega)
  simp only [Value.slice.injEq] at he
  obtain ⟨rfl, _, rfl⟩ := he
  obtain ⟨h0, h1, h2⟩ := clCells_get us L k (by omega) hk
  have key : ∀ j u, (clCells us L)[j]? = some u → w.cell? ⟨g, 0 + j, none⟩ = some u := fun j u hj => by
    have := hown.cells (g := g) rfl j u hj
    rw [add_none] at this
    exact this
  obtain ⟨a', c', hf, hr, hn⟩ := hs k us[k] L[k] (List.getElem?_eq_getElem _) (List.getElem?_eq_getElem _)
  refine ⟨g, 0, rfl, a', c', ⟨?_, ?_, ?_, ?_⟩, hn⟩
  · rw [← hf]; exact key _ _ h0
  · have := key _ _ h1; rwa [← Nat.add_assoc] at this
  · have := key _ _ h2; rwa [← Nat.add_assoc] at this
  · rw [← hf]; exact hr
theorem clCells_length : ∀ (us : List Value) (L : List Cl), us.length = L.length → (clCells us L).length = L.length * 3
  | [], [], _ => rfl
  | u :: us, c :: L, h => by
    have := clCells_length us L (by simpa using h)
    show ([u, Value.bool c.no, Value.bool c.opn] ++ clCells us L).length = _
    rw [List.length_append, this]; simp only [List.length_cons, List.length_nil]; omega
  | [], _ :: _, h => by simp at h
  | _ :: _, [], h => by simp at h
theorem clCells_one : ∀ (us : List Value) (L : List Cl), (∀ u ∈ us, u.oneCell' = true) → ∀ x ∈ clCells us L, x.oneCell' = true
  | [], _, _, x, hx => by simp [clCells] at hx
  | _ :: _, [], _, x, hx => by simp [clCells] at hx
  | u :: us, c :: L, h, x, hx => by
    have hx : x ∈ [u, Value.bool c.no, Value.bool c.opn] ++ clCells us L := hx
    rcases List.mem_append.1 hx with hx | hx
    · simp only [List.mem_cons, List.not_mem_nil, or_false] at hx
      rcases hx with rfl | rfl | rfl
      · exact h _ (by simp)
      · rfl
      · rfl
    · exact clCells_one us L (fun u hu => h u (by simp [hu])) x hx
theorem InRow.one {B : Nat} {w : World} {v : Value} {us : List Value} {L : List Cl} (h : InRow B w v us L) : ∀ x ∈ clCells us L, x.oneCell' = true :=
  clCells_one us L fun u hu => by
    obtain ⟨i, hi, rfl⟩ := List.mem_iff_getElem.1 hu
    obtain ⟨a, c, e, _⟩ := h.2.2 i us[i] (L[i]'(by have := h.1; omega)) (List.getElem?_eq_getElem _) (List.getElem?_eq_getElem _)
    rw [e]; rfl
/-- A clause laid ahead. -/
theorem InRow.front {B : Nat} {w w' : World} {v v' u : Value} {us : List Value} {L : List Cl} {c : Cl} (h : InRow B w v us L) (hb : Below w.heap.size w w') (hu : InWd w' u c)
    (hown : w'.ownsRow B 62 3 v' (1 + L.length) ([u, .bool c.no, .bool c.opn] ++ clCells us L)) : InRow B w' v' (u :: us) (c :: L) := by
  refine ⟨by simp [h.1], by rw [List.length_cons, Nat.add_comm]; exact hown, fun i x y hx hy => ?_⟩
  cases i with
  | zero =>
    simp only [List.getElem?_cons_zero, Option.some.injEq] at hx hy
    subst hx hy; exact hu
  | succ i => exact (h.2.2 i x y (by simpa using hx) (by simpa using hy)).new hb
end Go.Proofs.YthpbdeiphagkiaaGreatDoor
/- The laws' own clauses. -/
namespace Go.Proofs.YthpbdeiphagkiaaGreatDoor
open Go.RowKit Find

theorem strRow_set {W : World} {b : Nat} {c0 : Array Value} (hk : W.heap[b]? = some (.cells c0 62 (0, 0))) {u : Value} {l : List Wd} (h : StrRow W u l) (i : Nat) (x : Value) : StrRow (W.setCell ⟨b, i, none⟩ x) u l :=
  owns_keep h fun g hg => by
    have hne : b ≠ g := fun e => by
      subst e
      obtain ⟨c, hc⟩ := owns_kind h _ hg
      rw [hk] at hc
      simp only [Option.some.injEq, Obj.cells.injEq] at hc
      exact absurd hc.2.1 (by decide)
    rw [setCell_heap_ne hne]
def ClausesPost (cs : List Cl) (w : World) (e : Ending) (w' : World) : Prop := ∃ a c, e = .returned (.slice a cs.length c) ∧ ClsSl w' (.slice a cs.length c) cs ∧ Below w.heap.size w w'
set_option maxHeartbeats 4000000 in
set_option maxRecDepth 100000 in
theorem clauses_any (cs : List Cl) (a : Option Addr) (c : Nat) (w : World) (h : ClsN w (.slice a cs.length c) cs) (hn : cs.length ≤ 1048576) (hC : ∀ x ∈ cs, x.words.length ≤ 1099511627776) :
    Calls Tryz.prog 9 #[.slice a cs.length c] w (ClausesPost cs w) := by
  have hz3 : Tryz.prog.cellsOf 62 = 3 := by kernel_rfl
  obtain ⟨i0, hi0, hz0, hz1, hz2⟩ := info_parts info_cl
  have H := Lib.hid h
  have HC := Lib.hid hC
  clear h hC
  go_enter Tryz.func9, Tryz.ntmps9
  go_wp2_with fail
  go_loopw [3, 8] (fun v q wr => ∃ (k : Nat) (av : Option Addr) (cv : Nat) (L : List Cl), k ≤ cs.length ∧ q = .int .i64 k ∧ v = .slice av L.length cv ∧ L.length = k ∧ Hid (L = cs.take k) ∧ Hid (ClRow w.heap.size wr (.slice av L.length cv) L) ∧ Hid (Below w.heap.size w wr)) (fun _ q _ => cs.length - (intOf q).toNat)
  case atStart => exact ⟨0, none, 0, [], Nat.zero_le _, rfl, rfl, rfl, Lib.hid rfl, Lib.hid (ClRow.nil _ _), Lib.hid (Below.refl _ _)⟩
  case round =>
    obtain ⟨k, av, cv, L, hk, rfl, rfl, hLk, hL, hrow, hbw⟩ := hrel
    have hbz := hbw.out.size
    by_cases hlt : k < cs.length
    · obtain ⟨g, o, hg, aw, cw, ⟨c0, c1, c2, hsl⟩, hnil⟩ : ∃ g o, a = some ⟨g, o, none⟩ ∧ ClAtN wr g (o + k * 3) cs[k] := by
        obtain ⟨a', cc, he, hc⟩ := H.out.new hbw.out
        obtain ⟨g, o, hg, hcell⟩ := hc k hlt
        simp only [Value.slice.injEq] at he
        exact ⟨g, o, by rw [he.1]; exact hg, hcell⟩
      subst hg
      have htk : cs.take (k + 1) = cs.take k ++ [cs[k]] := List.take_succ_eq_append_getElem hlt
      have hcw := HC.out cs[k] (List.getElem_mem hlt)
      generalize cs[k] = x at *
      have HTK := Lib.hid htk
      have HSL := Lib.hid hsl
      have HNI := Lib.hid hnil
      obtain ⟨ws, no, opn⟩ := x
      simp only at c0 c1 c2 hcw
      obtain ⟨us, hul, hown, hus⟩ := hrow.out
      have HUL := Lib.hid hul
      have HOW := Lib.hid hown
      have HUS := Lib.hid hus
      have HLK := Lib.hid hLk
      clear htk hsl hnil hul hown hus
      have HTW := Lib.hid (show ∀ W, Below wr.heap.size wr W → _ from fun W hb => twin_slice ws (.slice aw ws.length cw) W (HSL.out.new hb) (fun c e => by injection e with e1 e2 e3; subst e3; exact HNI.out e1) (by omega))
      have HBA := Lib.hid ((Below.refl wr.heap.size wr).alloc (Nat.le_refl _) (.cells #[.slice aw ws.length cw, .bool no, .bool opn] 62))
      subst hLk
      go_wp2_with fail
      (go_at_call 26; refine (HTW.out _ HBA.out).mono ?_; rintro e w2 ⟨a1, c1', rfl, hr1, hb2⟩; have hk2 := (hb2.block wr.heap.size (by simp)).trans (heap_alloc_new wr _); have B2 := Lib.hid (HBA.out.trans (hb2.mono HBA.out.size)); have hw2 := lt_of_heap hk2; have k0 : w2.cell? ⟨wr.heap.size, 0, none⟩ = some (.slice aw ws.length cw) := (by rw [Lib.cell_of_heap hk2]; rfl); have f0 : w2.frozen? ⟨wr.heap.size, 0, none⟩ = false := Lib.frozen_of_heap hk2 0; have k1 : w2.cell? ⟨wr.heap.size, 1, none⟩ = some (.bool no) := (by rw [Lib.cell_of_heap hk2]; rfl); have k2 : w2.cell? ⟨wr.heap.size, 2, none⟩ = some (.bool opn) := (by rw [Lib.cell_of_heap hk2]; rfl); have R1 := Lib.hid (strRow_set hk2 hr1 0 (.slice a1 ws.length c1')); have HO2 := Lib.hid (show (w2.setCell ⟨wr.heap.size, 0, none⟩ (.slice a1 ws.length c1')).ownsRow w.heap.size 62 3 (.slice av L.length cv) L.length (clCells us L) from owns_keep (owns_new HOW.out B2.out) fun g hg => by rw [setCell_heap_ne (show wr.heap.size ≠ g from fun e => by have := (HOW.out.lt g hg).2; omega)]); have HU2 := Lib.hid (show ∀ (i : Nat) (u : Value) (c : Cl), us[i]? = some u → L[i]? = some c → StrRow (w2.setCell ⟨wr.heap.size, 0, none⟩ (.slice a1 ws.length c1')) u c.words from fun i u c hu hc => strRow_set hk2 (owns_new (HUS.out i u c hu hc) B2.out) 0 _); have HBS := Lib.hid (show Below wr.heap.size wr (w2.setCell ⟨wr.heap.size, 0, none⟩ (.slice a1 ws.length c1')) from B2.out.setCell (by simp) _); clear hr1 hb2 hk2)
      go_wp2_with (first
        | (at_builtin; refine wpList_append_lies _ rfl _ _ 22 rfl w.heap.size 62 i0 _ 3 32 Tryz.underlying22 hi0 hz0 hz1 hz2 rfl (by omega) _ _ _ rfl (HO2.out.alloc _) ⟨w2.heap.size, 0, none⟩ 1 1 [.slice a1 ws.length c1', .bool no, .bool opn] rfl rfl (World.news_of_block (cs := #[.slice a1 ws.length c1', .bool no, .bool opn]) (t := 62) (fr := (0, 0)) (by have := heap_alloc_new (w2.setCell ⟨wr.heap.size, 0, none⟩ (.slice a1 ws.length c1')) (.cells #[.slice a1 ws.length c1', .bool no, .bool opn] 62); rwa [World.size_setCell] at this)) (by simp [Value.oneCell']) (by omega) (by unfold maxLen; omega) (by omega) (by simp; omega) _ rfl ?_; intro gg cap w4 hown4 hgrow hat hlt4; have HG := Lib.hid hgrow; have HO4 := Lib.hid hown4; clear hgrow hown4 hat hlt4))
      go_roundw
      case rel =>
        have hcr := ClRow.snoc HUL.out HU2.out HO2.out (c := ⟨ws, no, opn⟩) R1.out HG.out HO4.out
        refine ⟨L.length + 1, some ⟨gg, 0, none⟩, cap, L ++ [⟨ws, no, opn⟩], by omega, by go_num, by rw [List.length_append]; rfl, by simp, Lib.hid (by rw [HTK.out, ← hL.out]), Lib.hid (by rw [List.length_append]; exact hcr), Lib.hid ?_⟩
        exact ((hbw.out.trans (HBS.out.mono hbz)).alloc (by simp; omega) _).grown HG.out (by simp; omega) (fun j hj => (HOW.out.lt j hj).1)
      case measure => simp [intOf] <;> omega
    · have HE := Lib.hid (show L = cs from by have := hL.out; rwa [List.take_of_length_le (by omega)] at this)
      go_wp2_with fail
      go_ret
      refine ⟨av, cv, congrArg (fun n => Ending.returned (.slice av n cv)) (show L.length = cs.length by rw [HE.out]), ?_, hbw.out⟩
      have := hrow.out.sl
      rw [HE.out] at this
      exact this

/-- clauses of a clause that lies in a block of the law's own. -/
theorem clauses_box {W : World} {ws : List Wd} {aw : Option Addr} {cw : Nat} {no opn : Bool} (hs : StrSl W (.slice aw ws.length cw) ws) (hnil : aw = none → cw = 0) (hws : ws.length ≤ 1099511627776) :
    Calls Tryz.prog 9 #[.slice (some ⟨W.heap.size, 0, none⟩) 1 1] (W.alloc (.cells #[.slice aw ws.length cw, .bool no, .bool opn] 62)) fun e w' => ∃ a c, e = .returned (.slice a 1 c) ∧ ClsSl w' (.slice a 1 c) [⟨ws, no, opn⟩] ∧ Below W.heap.size W w' := by
  have hb := (Below.refl W.heap.size W).alloc (Nat.le_refl _) (.cells #[.slice aw ws.length cw, .bool no, .bool opn] 62)
  have hg := heap_alloc_new W (.cells #[.slice aw ws.length cw, .bool no, .bool opn] 62)
  refine (clauses_any [⟨ws, no, opn⟩] (some ⟨W.heap.size, 0, none⟩) 1 _ ⟨_, 1, rfl, fun k hk => ?_⟩ (by simp) (by simpa using hws)).mono ?_
  · obtain rfl : k = 0 := by simpa using hk
    exact ⟨W.heap.size, 0, rfl, aw, cw, ⟨by rw [Lib.cell_of_heap hg]; rfl, by rw [Lib.cell_of_heap hg]; rfl, by rw [Lib.cell_of_heap hg]; rfl, hs.new hb⟩, hnil⟩
  · rintro e w' ⟨a, c, rfl, h1, h2⟩
    exact ⟨a, c, rfl, h1, hb.trans (h2.mono hb.size)⟩

end Go.Proofs.YthpbdeiphagkiaaGreatDoor
