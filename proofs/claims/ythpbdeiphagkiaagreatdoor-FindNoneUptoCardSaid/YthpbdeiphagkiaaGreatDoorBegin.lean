/- (*find.Finder).Beginning. -/
import Derived.Test.YthpbdeiphagkiaaGreatDoorCount
import Derived.Test.YthpbdeiphagkiaaGreatDoorIter
import Derived.Sort.OwnSorted
import Derived.Maps.RangeWalk
import Derived.Lib.OthersKept
namespace Go.Proofs.YthpbdeiphagkiaaGreatDoor
open Go.RowKit Find

theorem sort_strs {w : World} {B : Nat} {v : Value} {l : List Wd} (h : w.ownsRow B 9 1 v l.length (l.map st)) (hB : B ≤ w.heap.size) (hl : l.length ≤ 1099511627776) :
    Calls Tryz.prog 30 #[v] w fun e w' => e = .returned (.tuple #[]) ∧ ∃ R : List Wd, R.Perm l ∧ w'.ownsRow B 9 1 v R.length (R.map st) ∧ Below B w w' := by
  rcases h.2 with ⟨rfl, h0⟩ | ⟨g, cap, cur, rfl, hg, hb, h1, h2, h3, h4⟩
  · refine (Any.slices_Sort_string_none Tryz.lays190 none 0 w).mono ?_
    rintro e w' ⟨rfl, rfl⟩
    exact ⟨rfl, l, List.Perm.refl _, h, Below.refl _ _⟩
  · have hH : Go.Sort.Holds encStr w g 0 l.toArray := holds_of_block hb (by simpa using h4)
    refine (Tryz.slices_Sort_string g 0 cap l w hH (lt_of_heap hb) (by omega)).mono ?_
    rintro e w' ⟨rfl, n, os, rfl⟩
    refine ⟨rfl, l.mergeSort fun x y => decide (x ≤ y), List.mergeSort_perm _ _, ?_, ?_⟩
    · have := ownsRow_sorted (n := n) (os := os) (ts := l.mergeSort fun x y => decide (x ≤ y)) (by simp) hg hb h1 h2 h3
      rw [List.length_mergeSort]
      exact this
    · exact (Below.refl _ _).grown (grownBy_sorted _) hB (fun j hj => by cases hj; exact hg)

/-- The map as the kit's words have it: its keys alone. -/
def Rnil (_ : Value) : Option (DataW Unit × List MemPlace) := some (.nil, [])
theorem keyed_str : Go.Maps.Keyed Tryz.prog 9 := Go.Maps.string_keyed Tryz.underlying9
theorem keyOf_str {x : Wd} (h : x.length ≤ maxLen) : keyOf Tryz.prog 9 (st x) = some (.string x) := by
  have hs : (⟨x.toArray⟩ : ByteArray).size ≤ maxLen := by
    show x.toArray.size ≤ _
    simpa using h
  simp [keyOf, Tryz.underlying9, mapKey, hs]
theorem keyOf_str_inv {key : Value} {kl : Lit} (h : keyOf Tryz.prog 9 key = some kl) : ∃ x : Wd, key = st x ∧ kl = .string x := by
  cases key <;> simp [keyOf, Tryz.underlying9, mapKey] at h
  rename_i s
  obtain ⟨_, rfl⟩ := h
  exact ⟨s.data.toList, by simp [st], rfl⟩
theorem map_owns {w : World} {m : Nat} {M : Entries} (h : MapIs w m M) (hk : ∀ k ∈ M.map (·.1), k.length ≤ maxLen) (hn : M.length ≤ maxLen) :
    ∃ D, w.ownsMap Tryz.prog 9 Rnil m M.length D ∧ Go.Maps.size D = M.length ∧ ∀ x, Go.Maps.has D (.string x) = true ↔ x ∈ M.map (·.1) := by
  obtain ⟨es, clock, hb, hs, he⟩ := h
  have hlen : es.toList.length = M.length := by
    have := congrArg List.length he
    simpa using this
  have hkey : ∀ e ∈ es.toList, ∃ k ∈ M.map (·.1), e.key = st k := by
    intro e hm
    have : (e.key, e.val) ∈ M.map (fun p => (st p.1, p.2)) := by rw [← he]; exact List.mem_map.2 ⟨e, hm, rfl⟩
    obtain ⟨p, hp, hpe⟩ := List.mem_map.1 this
    exact ⟨p.1, List.mem_map.2 ⟨p, hp, rfl⟩, (congrArg Prod.fst hpe).symm⟩
  have hrd : ∀ e ∈ es.toList, ∀ k, e.key = st k → k.length ≤ maxLen → Go.WideElems.rd Tryz.prog 9 Rnil e = some (.string k, .nil) := by
    intro e _ k hek hl
    unfold Go.WideElems.rd
    rw [hek, keyOf_str hl]; rfl
  have F : Go.WideElems.Fit Tryz.prog 9 Rnil es clock := ⟨by rw [← Array.length_toList, hlen]; exact hn, hs, fun e hm => by
    obtain ⟨k, hkm, hek⟩ := hkey e hm
    exact ⟨_, hrd e hm k hek (hk k hkm)⟩⟩
  refine ⟨_, ⟨es, clock, hb, F, by rw [← Array.length_toList, hlen]; exact Nat.le_refl _, rfl⟩, by rw [Go.Maps.size_eq, length_sorted, List.length_map, hlen], fun x => ?_⟩
  rw [Go.Maps.has_eq]
  constructor
  · intro h
    obtain ⟨p, hp, hpk⟩ := List.any_eq_true.1 h
    obtain ⟨e, hem, rfl⟩ := List.mem_map.1 (mem_sorted.1 hp)
    obtain ⟨k, hkm, hek⟩ := hkey e hem
    have h1 := Go.WideElems.rg_of (hrd e hem k hek (hk k hkm))
    have h2 := WideAt.sameKey_eq hpk
    rw [h1] at h2
    simp only [Lit.string.injEq] at h2
    rw [← h2]; exact hkm
  · intro hx
    obtain ⟨p, hp, rfl⟩ := List.mem_map.1 hx
    have : (st p.1, p.2) ∈ es.toList.map (fun e => (e.key, e.val)) := by rw [he]; exact List.mem_map.2 ⟨p, hp, rfl⟩
    obtain ⟨e, hem, hee⟩ := List.mem_map.1 this
    have h1 := Go.WideElems.rg_of (hrd e hem p.1 (congrArg Prod.fst hee) (hk p.1 hx))
    exact List.any_eq_true.2 ⟨_, mem_sorted.2 (List.mem_map.2 ⟨e, hem, rfl⟩), by rw [h1]; exact WideAt.sameKey_self (keyed_str.key (keyOf_str (hk p.1 hx)))⟩

theorem ranges_keep {w w' : World} {m r n : Nat} {D : DataW Unit} {left : Lit → Bool} {cnt : Nat} (h : w.ranges Tryz.prog 9 Rnil m r n D left cnt) (hm : w'.heap[m]? = w.heap[m]?) (hr : w'.heap[r]? = w.heap[r]?) : w'.ranges Tryz.prog 9 Rnil m r n D left cnt := by
  obtain ⟨es, clock, since, seen, c0, hb, F, hs, hD, hi, rest⟩ := h
  exact ⟨es, clock, since, seen, c0, hm.trans hb, F, hs, hD, hr.trans hi, rest⟩
theorem ranges_kind {w : World} {m r n : Nat} {D : DataW Unit} {left : Lit → Bool} {cnt : Nat} (h : w.ranges Tryz.prog 9 Rnil m r n D left cnt) : (∃ es clock, w.heap[m]? = some (.map es clock)) ∧ ∃ o s q c, w.heap[r]? = some (.mapIter o s q c) := by
  obtain ⟨es, clock, since, seen, c0, hb, F, hs, hD, hi, rest⟩ := h
  exact ⟨⟨_, _, hb⟩, _, _, _, _, hi⟩

/-- A builder that may have been read stays where its blocks stay. -/
theorem bldF_keep {w w' : World} {B b : Nat} {bs : List Value} (h : Lib.IsBuilderF 73 5 B b bs w) (hb : ∀ c, w.heap[b]? = some (.cells c 73 (0, 0)) → w'.heap[b]? = w.heap[b]?)
    (hk : ∀ (g : Nat) (c : Array Value) (fz : Nat × Nat), w.heap[g]? = some (.cells c 5 fz) → w'.heap[g]? = w.heap[g]?) : Lib.IsBuilderF 73 5 B b bs w' := by
  have key : ∀ p, Lib.BuilderAtF 73 5 B b p bs w → Lib.BuilderAtF 73 5 B b p bs w' := by
    rintro p ⟨h1, v, h2, h3, h4⟩
    refine ⟨h1, v, by rw [hb _ h2]; exact h2, ⟨h3.1, ?_⟩, h4⟩
    rcases h3.2 with h0 | ⟨g, cap, cur, fz, rfl, k1, k2, k3⟩
    · exact .inl h0
    · exact .inr ⟨g, cap, cur, fz, rfl, k1, by rw [hk g _ _ k2]; exact k2, k3⟩
  exact h.imp (key _) (key _)
theorem Bld.toF {w : World} {B b : Nat} {l : List UInt8} {F : Nat → Prop} (h : Bld w b l F) (hF : ∀ k, F k → B ≤ k) : Lib.IsBuilderF 73 5 B b (Lib.byteCells l) w := by
  obtain ⟨p, v, hp, hb, hown, hFb, hg⟩ := h
  have hne := Lib.ownBlock_ne hown hb (by decide)
  have hlen : (Lib.byteCells l).length = l.length := by simp [Lib.byteCells]
  have hown' : w.ownsRow B 5 1 v l.length (Lib.byteCells l) := ⟨hown.1, hown.2.imp_right fun ⟨g, cap, cur, hv, _, r⟩ => ⟨g, cap, cur, hv, hF _ (hg g (by rw [hv]; rfl)), r⟩⟩
  have : Lib.BuilderAt 73 5 B b p (Lib.byteCells l) w := ⟨hF _ hFb, v, hb, by rw [hlen]; exact hown', hne⟩
  refine Lib.IsBuilderF.of ?_
  rcases hp with rfl | rfl
  · exact .inl this
  · exact .inr this

/-- What Beginning tells: the words that stand somewhere and begin so, each once. -/
def BeginPost (LL : Lists) (x : Wd) (w : World) (e : Ending) (w' : World) : Prop :=
  ∃ v R, e = .returned v ∧ R.Nodup ∧ (∀ k, k ∈ R ↔ spotsOf LL k ≠ [] ∧ x <+: k) ∧ R.length ≤ 1099511627776 ∧ StrSl w' v R ∧ Below w.heap.size w w'
theorem below_stays (B : Nat) (w : World) (hB : B ≤ w.heap.size) : ∀ A C, Below B w A → ItStep okW B A C → Below B w C := fun A C hA ⟨F, F', hev, hF⟩ =>
  hA.trans ⟨hev.os, hev.tape, hev.output, hev.size, fun k hk => hev.block k (Nat.lt_of_lt_of_le hk (Nat.le_trans hB hA.size)) (fun h => by have := (hF _ h).1; omega)⟩

/-- The state of the second loop. -/
structure BRg (B b m r n : Nat) (D : DataW Unit) (l : Wd) (left : Lit → Bool) (cnt : Nat) (v : Value) (out : List Wd) (w wr : World) : Prop where
  rg : wr.ranges Tryz.prog 9 Rnil m r n D left cnt
  bld : Lib.IsBuilderF 73 5 B b (Lib.byteCells l) wr
  row : wr.ownsRow B 9 1 v out.length (out.map st)
  below : Below B w wr
  nodup : out.Nodup
  mem : ∀ k : Wd, k ∈ out ↔ Go.Maps.has D (.string k) = true ∧ left (.string k) = false ∧ l <+: k
  lhas : ∀ kl, left kl = true → Go.Maps.has D kl = true
  many : out.length + cnt ≤ n
section
variable {B b m r n : Nat} {D : DataW Unit} {l : Wd} {left : Lit → Bool} {cnt cnt1 : Nat} {v : Value} {out : List Wd} {w wr w1 w2 w3 : World} {x : Wd}
theorem BRg.mid (h : BRg B b m r n D l left cnt v out w wr) (hr : B ≤ r) (hBw : B ≤ w.heap.size) (hrg1 : w1.ranges Tryz.prog 9 Rnil m r n D (fun z => left z && !z.sameKey (.string x)) cnt1) (hg1 : wr.grownBy w1 (some r)) :
    Lib.IsBuilderF 73 5 B b (Lib.byteCells l) w1 ∧ w1.ownsRow B 9 1 v out.length (out.map st) ∧ Below B w w1 := by
  obtain ⟨_, o, s, q, c, hit⟩ := ranges_kind h.rg
  have hk : ∀ (g : Nat) (c : Array Value) (t : TypeId) (fz : Nat × Nat), wr.heap[g]? = some (.cells c t fz) → w1.heap[g]? = wr.heap[g]? := fun g c t fz hc =>
    hg1.block g (lt_of_heap hc) fun e => by simp only [Option.some.injEq] at e; subst e; rw [hit] at hc; cases hc
  refine ⟨bldF_keep h.bld (fun c hc => hk _ _ _ _ hc) fun g c fz hc => hk g c _ fz hc, owns_keep h.row fun g hg => ?_, h.below.grown hg1 (Nat.le_trans hBw h.below.size) fun j hj => by cases hj; exact hr⟩
  obtain ⟨c, hc⟩ := owns_kind h.row g hg
  exact hk g c _ _ hc
theorem BRg.read (hrg1 : w1.ranges Tryz.prog 9 Rnil m r n D left cnt) (hbk : Lib.IsBuilderF 73 5 B b (Lib.byteCells l) w1) (hrow : w1.ownsRow B 9 1 v out.length (out.map st)) (hk : Lib.OthersKept 5 (some b) w1 w2) :
    w2.ranges Tryz.prog 9 Rnil m r n D left cnt ∧ w2.ownsRow B 9 1 v out.length (out.map st) := by
  obtain ⟨⟨es, cl, hm⟩, o, s, q, c, hit⟩ := ranges_kind hrg1
  have hbb : ∃ c, w1.heap[b]? = some (.cells c 73 (0, 0)) := by
    rcases hbk with ⟨_, _, h2, _⟩ | ⟨_, _, h2, _⟩ <;> exact ⟨_, h2⟩
  obtain ⟨cb, hcb⟩ := hbb
  refine ⟨ranges_keep hrg1 ?_ ?_, owns_keep hrow fun g hg => ?_⟩
  · rw [hk m _ hm (fun e => by cases e; rw [hcb] at hm; cases hm) (fun c fz e => by cases e)]; exact hm.symm
  · rw [hk r _ hit (fun e => by cases e; rw [hcb] at hit; cases hit) (fun c fz e => by cases e)]; exact hit.symm
  · obtain ⟨c, hc⟩ := owns_kind hrow g hg
    rw [hk g _ hc (fun e => by
      cases e; rw [hcb] at hc
      simp only [Option.some.injEq, Obj.cells.injEq] at hc
      exact absurd hc.2.1 (by decide)) (fun c fz e => by
      simp only [Obj.cells.injEq] at e
      exact absurd e.2.1 (by decide))]
    exact hc.symm
theorem left_key (k x : Wd) : (left (.string k) && !(Lit.string k).sameKey (.string x)) = false ↔ left (.string k) = false ∨ k = x := by
  have : (Lit.string k).sameKey (.string x) = true ↔ k = x := ⟨fun h => by simpa using WideAt.sameKey_eq h, fun h => by rw [h]; exact WideAt.sameKey_self trivial⟩
  rw [Bool.and_eq_false_iff, Bool.not_eq_false', this]
theorem BRg.no (h : BRg B b m r n D l left cnt v out w wr) (hlk : left (.string x) = true) (hlt : cnt1 < cnt) (hrg : w2.ranges Tryz.prog 9 Rnil m r n D (fun z => left z && !z.sameKey (.string x)) cnt1) (hbk : Lib.IsBuilderF 73 5 B b (Lib.byteCells l) w2)
    (hrow : w2.ownsRow B 9 1 v out.length (out.map st)) (hb : Below B w w2) (hp : ¬ l <+: x) : BRg B b m r n D l (fun z => left z && !z.sameKey (.string x)) cnt1 v out w w2 := by
  refine ⟨hrg, hbk, hrow, hb, h.nodup, fun k => ?_, fun kl hk => h.lhas kl (by simp only [Bool.and_eq_true] at hk; exact hk.1), by have := h.many; omega⟩
  rw [h.mem k]
  show _ ↔ _ ∧ (left (.string k) && !(Lit.string k).sameKey (.string x)) = false ∧ _
  rw [left_key]
  constructor
  · rintro ⟨h1, h2, h3⟩; exact ⟨h1, .inl h2, h3⟩
  · rintro ⟨h1, h2 | rfl, h3⟩
    · exact ⟨h1, h2, h3⟩
    · exact absurd h3 hp
theorem BRg.yes (h : BRg B b m r n D l left cnt v out w wr) {v' : Value} (hlk : left (.string x) = true) (hlt : cnt1 < cnt) (hrg : w2.ranges Tryz.prog 9 Rnil m r n D (fun z => left z && !z.sameKey (.string x)) cnt1) (hbk : Lib.IsBuilderF 73 5 B b (Lib.byteCells l) w2)
    (hrow : w2.ownsRow B 9 1 v' (out.length + 1) (out.map st ++ [st x])) (hb : Below B w w2) (hp : l <+: x) : BRg B b m r n D l (fun z => left z && !z.sameKey (.string x)) cnt1 v' (out ++ [x]) w w2 := by
  have hx : x ∉ out := fun hm => by have := ((h.mem x).1 hm).2.1; rw [hlk] at this; cases this
  refine ⟨hrg, hbk, by rw [List.length_append, List.map_append]; exact hrow, hb, ?_, fun k => ?_, fun kl hk => h.lhas kl (by simp only [Bool.and_eq_true] at hk; exact hk.1), by have := h.many; rw [List.length_append]; simp only [List.length_cons, List.length_nil]; omega⟩
  · exact List.nodup_append.2 ⟨h.nodup, by simp, fun a ha c hc e => by rw [List.mem_singleton.1 hc] at e; subst e; exact hx ha⟩
  · rw [List.mem_append, List.mem_singleton, h.mem k]
    show _ ↔ _ ∧ (left (.string k) && !(Lit.string k).sameKey (.string x)) = false ∧ _
    rw [left_key]
    constructor
    · rintro (⟨h1, h2, h3⟩ | rfl)
      · exact ⟨h1, .inl h2, h3⟩
      · exact ⟨h.lhas _ hlk, .inr rfl, hp⟩
    · rintro ⟨h1, h2 | rfl, h3⟩
      · exact .inl ⟨h1, h2, h3⟩
      · exact .inr rfl
theorem bld_not_row {v : Value} (hbk : Lib.IsBuilderF 73 5 B b (Lib.byteCells l) w2) (hg : w2.grownBy w3 v.ownBlock) {n : Nat} {xs : List Value} (hrow : w2.ownsRow B 9 1 v n xs) : Lib.IsBuilderF 73 5 B b (Lib.byteCells l) w3 := by
  have key : ∀ (g : Nat) (c : Array Value) (t : TypeId) (fz : Nat × Nat), t ≠ 9 → w2.heap[g]? = some (.cells c t fz) → w3.heap[g]? = w2.heap[g]? := fun g c t fz ht hc =>
    hg.block g (lt_of_heap hc) fun e => by
      obtain ⟨c', hc'⟩ := owns_kind hrow g e.symm
      rw [hc] at hc'
      simp only [Option.some.injEq, Obj.cells.injEq] at hc'
      exact ht hc'.2.1
  exact bldF_keep hbk (fun c hc => key _ _ _ _ (by decide) hc) fun g c fz hc => key g c _ fz (by decide) hc
theorem rg_not_row {v : Value} (hrg : w2.ranges Tryz.prog 9 Rnil m r n D left cnt) (hg : w2.grownBy w3 v.ownBlock) {k : Nat} {xs : List Value} (hrow : w2.ownsRow B 9 1 v k xs) : w3.ranges Tryz.prog 9 Rnil m r n D left cnt := by
  obtain ⟨⟨es, cl, hm⟩, o, s, q, c, hit⟩ := ranges_kind hrg
  refine ranges_keep hrg (hg.block m (lt_of_heap hm) fun e => ?_) (hg.block r (lt_of_heap hit) fun e => ?_)
  · obtain ⟨c', hc'⟩ := owns_kind hrow m e.symm; rw [hm] at hc'; cases hc'
  · obtain ⟨c', hc'⟩ := owns_kind hrow r e.symm; rw [hit] at hc'; cases hc'
end

set_option maxHeartbeats 8000000 in
set_option maxRecDepth 100000 in
theorem begin_any (LL : Lists) (b : Nat) (s : ByteArray) (w : World) (hT : Tabs w) (hs : s.size ≤ 1099511627) (hf : FinderIs w b LL) (hkl : ∀ k, spotsOf LL k ≠ [] → k.length ≤ maxLen) (hmany : ∀ M : List Wd, M.Nodup → (∀ k ∈ M, spotsOf LL k ≠ []) → M.length ≤ 1099511627776) :
    Calls Tryz.prog 11 #[.pointer (some ⟨b, 0, none⟩), .string s] w (BeginPost LL (Find.start s.data.toList) w) := by
  have HFI := Lib.hid hf
  have HT := Lib.hid hT
  have HKL := Lib.hid hkl
  have HMANY := Lib.hid hmany
  have h3 := hT.lt
  have H3 := Lib.hid h3
  clear hf hT hkl hmany h3
  have HJ := Lib.hid (below_stays w.heap.size w (Nat.le_refl _))
  obtain ⟨i0, hi0, hz0, hz1, hz2⟩ := info_parts info_str
  have hb0 := Bld.fresh w (fun k => w.heap.size ≤ k) (Nat.le_refl _)
  have he0 := (Below.refl w.heap.size w).alloc (Nat.le_refl _) (.cells #[.pointer none, .slice none 0 0] 73)
  have HB0 := Lib.hid hb0
  have HE0 := Lib.hid he0
  have HF0 := Lib.hid (fold_any s (w.alloc (.cells #[.pointer none, .slice none 0 0] 73)) (HT.out.alloc _) (by omega))
  clear hb0 he0
  go_enter Tryz.func11, Tryz.ntmps11
  go_wp2_with (go_at_call 27; refine HF0.out.mono ?_; rintro e w1 ⟨rfl, hb1⟩; have HB1 := Lib.hid (HB0.out.keep fun b _ hb => hb1.block b hb); have HT1 := Lib.hid ((HT.out.alloc _).below hb1); have HE1 := Lib.hid (HE0.out.trans (hb1.mono HE0.out.size)); have hzz := hb1.size; clear hb1)
  obtain ⟨f, hf⟩ : ∃ f : ByteArray, f = ⟨(fold s.data.toList).toArray⟩ := ⟨_, rfl⟩
  have hfl : f.data.toList = fold s.data.toList := by rw [hf]
  have hstart : (chars f.data.toList).flatMap (fun c => base c.1) = Find.start s.data.toList := by rw [hfl]; rfl
  have hfs : f.size ≤ 5 * s.size := by rw [size_list, hfl, size_list s]; exact fold_len _
  rw [← hf]
  have HW := Lib.hid hstart
  clear hstart hf hfl
  rw [World.size_alloc] at hzz
  have hBK : w.heap.size ≤ w1.heap.size := by omega
  go_loopw [] (fun wr => ∃ (pos : Nat) (acc : Wd), pos ≤ f.size ∧ WSt w.heap.size w.heap.size w1.heap.size f pos acc (fun W => Below w.heap.size w W) wr ∧ Hid (acc ++ (chars (f.data.toList.drop pos)).flatMap (fun c => base c.1) = Find.start s.data.toList) ∧ acc.length ≤ 4 * pos) (fun wr => f.size - wr.iterPos w1.heap.size)
  case atStart =>
    refine ⟨0, [], Nat.zero_le _, ⟨World.iter_heap w1 f 0, HB1.out.alloc _, HE1.out.alloc hBK _, HT1.out.alloc _, hBK⟩, Lib.hid (by rw [List.drop_zero]; exact HW.out), by simp⟩
  case round =>
    obtain ⟨pos, acc, hpos, hS, hHr, hal⟩ := hrel
    have HS := Lib.hid hS
    have hit := hS.iter
    clear hS
    by_cases hp : pos < f.size
    · have hnx : ∀ ty, (Instr.next (.pointer (some ⟨w1.heap.size, 0, none⟩)) true ty).run Tryz.prog wr = _ := fun ty => Lib.run_next_any_at wr w1.heap.size f pos ty hit hp
      have hch := chars_at f pos hp
      obtain ⟨hr1, hr2⟩ := decL_hi (f.data.toList.drop pos)
      have hn := decL_len (f.data.toList.drop pos) (by intro e; have := congrArg List.length e; rw [List.length_drop, ← size_list] at this; simp at this; omega)
      rw [List.length_drop, ← size_list] at hn
      rw [decode_eq] at hnx
      have HS2 := Lib.hid (HS.out.next HJ.out hBK H3.out (pos + (decL (f.data.toList.drop pos)).2))
      generalize hr : (decL (f.data.toList.drop pos)).1 = r at *
      generalize hnn : (decL (f.data.toList.drop pos)).2 = m at *
      have HC := Lib.hid hch
      clear hch hr hnn hit
      go_wp2_with (go_at_call 28; refine (base_any _ _ (by omega) (by omega)).mono ?_; rintro e w9 ⟨rfl, rfl⟩)
      obtain ⟨F0, hB0, hF0⟩ := HS2.out.bld.exact
      have HF0 := Lib.hid hF0
      have hbl := (base_len (r : Int)).2
      refine (writeString_any _ acc F0 _ _ hB0 (by rw [size_list]; simp only; omega)).mono ?_
      rintro e w4 ⟨rfl, hW⟩
      obtain ⟨t1, t2, t3⟩ := HS2.out.turn HJ.out H3.out HF0.out hW.2
      have HS4 := Lib.hid (show WSt w.heap.size w.heap.size w1.heap.size f (pos + m) (acc ++ base (r : Int)) (fun W => Below w.heap.size w W) w4 from ⟨t1, hW.1.wide fun k hk => by
          rcases hk with h | h
          · exact (HF0.out k h).1
          · exact Nat.le_trans hBK (Nat.le_trans (Nat.le_of_lt (lt_of_heap HS2.out.iter)) h), t2, t3, hBK⟩)
      clear hW t1 t2 t3 hB0 hF0
      go_wp2
      go_roundw
      case rel => exact ⟨pos + m, acc ++ base (r : Int), by omega, HS4.out, Lib.hid (by rw [← hHr.out, HC.out, List.flatMap_cons, List.append_assoc]), by rw [List.length_append]; omega⟩
      case measure =>
        simp only [World.iterPos, HS4.out.iter, HS.out.iter]
        omega
    · have hnx : ∀ ty, (Instr.next (.pointer (some ⟨w1.heap.size, 0, none⟩)) true ty).run Tryz.prog wr = _ := fun ty => Lib.run_next_end_at wr w1.heap.size f pos ty hit hp
      have hdr : f.data.toList.drop pos = [] := List.drop_eq_nil_of_le (by rw [← size_list]; omega)
      have hwe := hHr.out
      rw [hdr, chars_nil, List.flatMap_nil, List.append_nil] at hwe
      have HACC := Lib.hid hwe
      clear hwe hdr hit hHr HW
      obtain ⟨vl, m, hb, _, hsp⟩ := HFI.out.new HS.out.inv
      have cb2 : wr.cell? ⟨b, 2, none⟩ = some (.map (some m)) := by rw [Lib.cell_of_heap hb]; rfl
      obtain ⟨M, hM, hM2, hM3, _⟩ := hsp
      have hnd := hM.nodup
      have hmn := HMANY.out (M.map (·.1)) hnd (fun k hk => by obtain ⟨p, hp, rfl⟩ := List.mem_map.1 hk; exact (hM2 p hp).2)
      rw [List.length_map] at hmn
      obtain ⟨D, hown, hsz, hhas⟩ := map_owns hM (fun k hk => HKL.out k (by obtain ⟨p, hp, rfl⟩ := List.mem_map.1 hk; exact (hM2 p hp).2)) (by unfold maxLen; omega)
      have HHAS := Lib.hid (show ∀ k, Go.Maps.has D (.string k) = true ↔ spotsOf LL k ≠ [] from fun k => by
        rw [hhas]
        exact ⟨fun hk => by obtain ⟨p, hp, rfl⟩ := List.mem_map.1 hk; exact (hM2 p hp).2, hM3 k⟩)
      have HBF := Lib.hid (HS.out.bld.toF (B := w.heap.size) fun k hk => hk)
      have HBW := Lib.hid HS.out.inv
      have HSZ := Lib.hid hsz
      have hwr := HS.out.inv.size
      clear hM hM2 hM3 hnd hhas hsz hb HS
      go_wp2_with (at_range; refine wpList_range_own _ rfl _ 28 rfl 9 89 keyed_str Tryz.underlying28 Rnil m M.length D rfl hown ?_; intro w0 hrg0 hg0 hs0)
      go_frame
      have hst0 := Lib.hid (show BRg w.heap.size w.heap.size m wr.heap.size M.length D acc (Go.Maps.has D) (Go.Maps.size D) (.slice none 0 0) [] w w0 from
        ⟨hrg0, bldF_keep HBF.out (fun c hc => hg0.block _ (lt_of_heap hc) (by simp)) (fun g c fz hc => hg0.block _ (lt_of_heap hc) (by simp)), World.ownsRow_nil _ _ _ _, HBW.out.grown hg0 hwr (fun j hj => by cases hj), List.nodup_nil, fun k => ⟨fun h => (by cases h), fun h => (by rw [h.1] at h; cases h.2.1)⟩, fun _ h => h, by rw [HSZ.out]; simp⟩)
      obtain ⟨KR, hKR⟩ : ∃ K, K = wr.heap.size := ⟨_, rfl⟩
      rw [← hKR] at hst0 ⊢
      rw [← hKR] at hwr
      clear hrg0 hg0 hs0 hown hKR
      go_loopw [8] (fun v wr => ∃ left cnt out, BRg w.heap.size w.heap.size m KR M.length D acc left cnt v out w wr) (fun _ wr => wr.rangeLeft m KR)
      case atStart => exact ⟨_, _, _, hst0.out⟩
      case round =>
        obtain ⟨left, cnt, out, hS⟩ := hrel
        have HS := Lib.hid hS
        have hrg := hS.rg
        have hol := hS.many
        clear hS
        go_wp2_with (at_next; refine wpList_next_ranges _ rfl _ rfl 9 keyed_str Rnil st (fun c => c) (fun key kl h => by obtain ⟨x, hx, _⟩ := keyOf_str_inv h; exact ⟨x, hx⟩) (fun v _ _ => ⟨v, rfl⟩) m KR M.length D left cnt rfl hrg ?_ ?_)
        · intro hc0 hl0
          have HL0 := Lib.hid hl0
          have HSO := Lib.hid (sort_strs HS.out.row (Nat.le_trans (Nat.le_refl _) HS.out.below.size) (by omega))
          clear hl0 hc0 hrg
          go_wp2_with (go_at_call 30; refine HSO.out.mono ?_; rintro e w5 ⟨rfl, R, hR, hrow, hb5⟩)
          have HR := Lib.hid hR
          have HROW := Lib.hid hrow
          have HB5 := Lib.hid hb5
          clear hR hrow hb5
          go_ret
          refine ⟨_, R, rfl, HR.out.nodup_iff.2 HS.out.nodup, fun k => ?_, by rw [HR.out.length_eq]; omega, StrRow.sl (owns_zero HROW.out), HS.out.below.trans HB5.out⟩
          rw [HR.out.mem_iff, HS.out.mem k, HHAS.out k, HL0.out, ← HACC.out]
          simp
        · intro x c kl y y2 w2 cnt2 hkey hlk hv hat hrg1 hlt hg1 hs1 hen
          obtain ⟨x', hx', rfl⟩ := keyOf_str_inv hkey
          obtain rfl := st_inj hx'
          obtain ⟨m1, m2, m3⟩ := HS.out.mid hwr (Nat.le_refl _) hrg1 hg1
          have HLK := Lib.hid hlk
          have HRG := Lib.hid hrg1
          have HM1 := Lib.hid m1
          have HM2 := Lib.hid m2
          have HM3 := Lib.hid m3
          have hsz2 : w.heap.size ≤ w2.heap.size := m3.size
          clear hkey hx' hlk hv hat hrg1 hg1 m1 m2 m3 hrg
          have hstr := Tryz.Builder_String_any_k w.heap.size w.heap.size acc w2 HM1.out hsz2
          have HSTR := Lib.hid hstr
          clear hstr
          cases hpf : acc.isPrefixOf x with
          | false =>
            have HPF := Lib.hid (show ¬ acc <+: x from fun h => by rw [List.isPrefixOf_iff_prefix.2 h] at hpf; cases hpf)
            have HP := Lib.hid (show ∀ w, Calls Tryz.prog 29 #[.string ⟨x.toArray⟩, .string ⟨acc.toArray⟩] w fun e w' => e = .returned (.bool false) ∧ w = w' from fun w => (Tryz.strings_HasPrefix ⟨x.toArray⟩ ⟨acc.toArray⟩ w).mono fun e w' ⟨h1, h2⟩ => ⟨by rw [h1, show Lib.hasPrefix (⟨x.toArray⟩ : ByteArray).data.toList (⟨acc.toArray⟩ : ByteArray).data.toList = acc.isPrefixOf x from rfl, hpf], h2.symm⟩)
            clear hpf
            go_wp2_with (first | (go_at_call 22; refine HSTR.out.mono ?_; rintro e w3 ⟨rfl, hbk3, hb3, hk3⟩; obtain ⟨r1, r2⟩ := BRg.read HRG.out HM1.out HM2.out hk3; have HNO := Lib.hid (HS.out.no HLK.out hlt r1 hbk3 r2 (HM3.out.trans hb3) HPF.out); clear hbk3 hb3 hk3 r1 r2) | (go_at_call 29; refine (HP.out _).mono ?_; rintro e w9 ⟨rfl, rfl⟩))
            go_roundw
            case rel => exact ⟨_, _, _, HNO.out⟩
            case measure => rw [HNO.out.rg.left_eq, HS.out.rg.left_eq]; omega
          | true =>
            have HPF := Lib.hid (List.isPrefixOf_iff_prefix.1 hpf)
            have HP := Lib.hid (show ∀ w, Calls Tryz.prog 29 #[.string ⟨x.toArray⟩, .string ⟨acc.toArray⟩] w fun e w' => e = .returned (.bool true) ∧ w = w' from fun w => (Tryz.strings_HasPrefix ⟨x.toArray⟩ ⟨acc.toArray⟩ w).mono fun e w' ⟨h1, h2⟩ => ⟨by rw [h1, show Lib.hasPrefix (⟨x.toArray⟩ : ByteArray).data.toList (⟨acc.toArray⟩ : ByteArray).data.toList = acc.isPrefixOf x from rfl, hpf], h2.symm⟩)
            clear hpf
            obtain ⟨av, cv, hvv⟩ := slice_form HS.out.row
            subst hvv
            go_wp2_with (first | (go_at_call 22; refine HSTR.out.mono ?_; rintro e w3 ⟨rfl, hbk3, hb3, hk3⟩; obtain ⟨r1, r2⟩ := BRg.read HRG.out HM1.out HM2.out hk3; have R1 := Lib.hid r1; have R2 := Lib.hid r2; have R3 := Lib.hid hbk3; have R4 := Lib.hid (HM3.out.trans hb3); have hs3 := R4.out.size; clear hbk3 hb3 hk3 r1 r2) | (go_at_call 29; refine (HP.out _).mono ?_; rintro e w9 ⟨rfl, rfl⟩) | (at_builtin; refine wpList_append_lies _ rfl _ _ 35 rfl w.heap.size 9 i0 _ 1 16 Tryz.underlying35 hi0 hz0 hz1 hz2 rfl (by omega) _ _ _ rfl (R2.out.alloc _) ⟨w3.heap.size, 0, none⟩ 1 1 [st x] rfl rfl (cell_one_new _ _ _) (by simp [Value.oneCell']) (by omega) (by unfold maxLen; omega) (by omega) (by simp; omega) _ rfl ?_; intro gg cap w4 hown4 hgrow hat hlt4))
            have HYES := Lib.hid (HS.out.yes HLK.out hlt (rg_not_row (v := .slice av out.length cv) (R1.out.alloc _) hgrow (R2.out.alloc _)) (bld_not_row (v := .slice av out.length cv) (R3.out.alloc _) hgrow (R2.out.alloc _)) hown4 ((R4.out.alloc hs3 _).grown hgrow (by simp; omega) (fun j hj => (R2.out.lt j hj).1)) HPF.out)
            go_roundw
            case rel => exact ⟨_, _, _, HYES.out⟩
            case measure => rw [HYES.out.rg.left_eq, HS.out.rg.left_eq]; omega
end Go.Proofs.YthpbdeiphagkiaaGreatDoor
