/- The finder in memory: its lists of words, its map of spots. -/
import Derived.Test.YthpbdeiphagkiaaGreatDoorMap
import Derived.Test.YthpbdeiphagkiaaGreatDoorAsks
import Derived.Deep.AppendLies
namespace Go.Proofs.YthpbdeiphagkiaaGreatDoor
open Go.RowKit Find

def spotCells (l : List Spot) : List Value := l.flatMap fun s => [.int .i64 s.1, .int .i64 s.2.1, .int .i64 s.2.2]
theorem spotCells_length (l : List Spot) : (spotCells l).length = l.length * 3 := by
  induction l with
  | nil => rfl
  | cons s l ih => show (_ :: _ :: _ :: spotCells l).length = _; simp [ih]; omega
theorem spotCells_append (a b : List Spot) : spotCells (a ++ b) = spotCells a ++ spotCells b := by simp [spotCells]

/-- A row stays where its block stays. -/
theorem owns_keep {w w' : World} {B : Nat} {e : TypeId} {size n : Nat} {v : Value} {xs : List Value} (h : w.ownsRow B e size v n xs) (hk : ∀ g, v.ownBlock = some g → w'.heap[g]? = w.heap[g]?) : w'.ownsRow B e size v n xs := by
  refine ⟨h.1, ?_⟩
  rcases h.2 with h0 | ⟨g, cap, cur, rfl, h1, h2, h3⟩
  · exact .inl h0
  · exact .inr ⟨g, cap, cur, rfl, h1, by rw [hk g rfl]; exact h2, h3⟩
theorem owns_kind {w : World} {B : Nat} {e : TypeId} {size n : Nat} {v : Value} {xs : List Value} (h : w.ownsRow B e size v n xs) : ∀ g, v.ownBlock = some g → ∃ c, w.heap[g]? = some (.cells c e (0, 0)) := by
  intro g hg
  rcases h.2 with ⟨rfl, _⟩ | ⟨g', cap, cur, rfl, h1, h2, h3⟩
  · cases hg
  · simp [Value.ownBlock] at hg; subst hg; exact ⟨_, h2⟩
theorem owns_some {w : World} {B : Nat} {e : TypeId} {size n : Nat} {v : Value} {xs : List Value} (h : w.ownsRow B e size v n xs) (hn : 0 < n) : ∃ g, v.ownBlock = some g := by
  obtain ⟨g, cap, rfl, _⟩ := h.form hn
  exact ⟨g, rfl⟩
theorem owns_new {w w' : World} {B : Nat} {e : TypeId} {size n : Nat} {v : Value} {xs : List Value} (h : w.ownsRow B e size v n xs) (hb : Below w.heap.size w w') : w'.ownsRow B e size v n xs :=
  owns_keep h fun g hg => hb.block g (h.lt g hg).2
theorem owns_zero {w : World} {B : Nat} {e : TypeId} {size n : Nat} {v : Value} {xs : List Value} (h : w.ownsRow B e size v n xs) : w.ownsRow 0 e size v n xs :=
  ⟨h.1, h.2.imp_right fun ⟨g, cap, cur, hv, _, r⟩ => ⟨g, cap, cur, hv, Nat.zero_le _, r⟩⟩

/-- Block m is the map of spots: each word that stands somewhere has its row; no two words share one. -/
def SpotsIs (B : Nat) (w : World) (m : Nat) (S : Wd → List Spot) : Prop :=
  ∃ M : Entries, MapIs w m M ∧ (∀ p ∈ M, w.ownsRow B 91 3 p.2 (S p.1).length (spotCells (S p.1)) ∧ S p.1 ≠ []) ∧ (∀ k, S k ≠ [] → k ∈ M.map (·.1)) ∧ ∀ p ∈ M, ∀ q ∈ M, p.1 ≠ q.1 → p.2.ownBlock ≠ q.2.ownBlock
def addSpot (S : Wd → List Spot) (x : Wd) (s : Spot) : Wd → List Spot := fun k => if k = x then S k ++ [s] else S k

theorem SpotsIs.made (B : Nat) (w : World) : SpotsIs B (w.alloc (.map #[] 0)) w.heap.size (fun _ => []) :=
  ⟨[], MapIs.made w, by simp, by simp, by simp⟩
theorem SpotsIs.lt {B : Nat} {w : World} {m : Nat} {S : Wd → List Spot} (h : SpotsIs B w m S) : m < w.heap.size := by obtain ⟨M, hM, _⟩ := h; exact hM.lt
theorem SpotsIs.congr {B : Nat} {w : World} {m : Nat} {S S' : Wd → List Spot} (h : SpotsIs B w m S) (e : ∀ k, S k = S' k) : SpotsIs B w m S' := by
  have : S = S' := funext e
  rw [← this]; exact h
theorem SpotsIs.keep {B : Nat} {w w' : World} {m : Nat} {S : Wd → List Spot} (h : SpotsIs B w m S) (hm : w'.heap[m]? = w.heap[m]?) (hk : ∀ (g : Nat) (c : Array Value), w.heap[g]? = some (.cells c 91 (0, 0)) → w'.heap[g]? = w.heap[g]?) : SpotsIs B w' m S := by
  obtain ⟨M, h1, h2, h3, h4⟩ := h
  exact ⟨M, h1.keep hm, fun p hp => ⟨owns_keep (h2 p hp).1 fun g hg => by obtain ⟨c, hc⟩ := owns_kind (h2 p hp).1 g hg; exact hk g c hc, (h2 p hp).2⟩, h3, h4⟩
theorem SpotsIs.new {B : Nat} {w w' : World} {m : Nat} {S : Wd → List Spot} (h : SpotsIs B w m S) (hb : Below w.heap.size w w') : SpotsIs B w' m S :=
  h.keep (hb.block m h.lt) fun g c hc => hb.block g (lt_of_heap hc)

theorem mem_upd {M : Entries} {k : Wd} {v : Value} (hnd : (M.map (·.1)).Nodup) {p : Wd × Value} (hp : p ∈ updE M k v) : p = (k, v) ∨ (p ∈ M ∧ p.1 ≠ k) := by
  unfold updE at hp
  split at hp
  · obtain ⟨q, hq, rfl⟩ := List.mem_map.1 hp
    by_cases hqk : q.1 = k
    · left; rw [if_pos hqk]
    · right; rw [if_neg hqk]; exact ⟨hq, hqk⟩
  · rename_i hk
    rcases List.mem_append.1 hp with h | h
    · right; exact ⟨h, fun e => hk (List.mem_map.2 ⟨p, h, e⟩)⟩
    · left; simpa using h
theorem keys_upd {M : Entries} {k x : Wd} {v : Value} (h : x ∈ M.map (·.1) ∨ x = k) : x ∈ (updE M k v).map (·.1) := by
  unfold updE
  split
  · rename_i hk
    have hx : x ∈ M.map (·.1) := h.elim id (fun e => e ▸ hk)
    obtain ⟨q, hq, rfl⟩ := List.mem_map.1 hx
    refine List.mem_map.2 ⟨_, List.mem_map.2 ⟨q, hq, rfl⟩, ?_⟩
    split
    · rename_i e; exact e.symm
    · rfl
  · rw [List.map_append, List.mem_append]
    exact h.imp id (fun e => by simp [e])

/-- What stands at a word; and the way back: the row grown by a spot, stored again. -/
theorem SpotsIs.at_ {B : Nat} {w : World} {m : Nat} {S : Wd → List Spot} (h : SpotsIs B w m S) (x : Wd) : ∃ v, (∀ w' : World, w'.heap[m]? = w.heap[m]? → (Instr.lookup 28 (.map (some m)) (st x) false).run Tryz.prog w' = .ok v w') ∧
    w.ownsRow B 91 3 v (S x).length (spotCells (S x)) ∧
    ∀ (w1 : World) (s : Spot) (g cap : Nat), (∀ k, k < w.heap.size → v.ownBlock ≠ some k → w1.heap[k]? = w.heap[k]?) → w1.ownsRow B 91 3 (.slice (some ⟨g, 0, none⟩) ((S x).length + 1) cap) ((S x).length + 1) (spotCells (S x ++ [s])) → (v.ownBlock = some g ∨ w.heap.size ≤ g) →
      ∃ o, (Instr.mapUpdate 28 (.map (some m)) (st x) (.slice (some ⟨g, 0, none⟩) ((S x).length + 1) cap)).run Tryz.prog w1 = .ok () (w1.putObj m o) ∧ SpotsIs B (w1.putObj m o) m (addSpot S x s) := by
  obtain ⟨M, h1, h2, h3, h4⟩ := h
  have hz : ∀ w, (zeroValue 89).run Tryz.prog w = .ok (.slice none 0 0) w := fun w => by kernel_rfl
  have hnd := h1.nodup
  have hmm : ∀ g, (∃ p ∈ M, p.2.ownBlock = some g) → g ≠ m := by
    rintro g ⟨p, hp, hg⟩ rfl
    obtain ⟨c, hc⟩ := owns_kind (h2 p hp).1 g hg
    obtain ⟨es, cl, hb, _⟩ := h1
    rw [hb] at hc; cases hc
  -- the value at x
  have hval : ∃ v, (lookE M x).getD (.slice none 0 0) = v ∧ w.ownsRow B 91 3 v (S x).length (spotCells (S x)) ∧ (∀ p ∈ M, p.1 ≠ x → v.ownBlock = none ∨ p.2.ownBlock ≠ v.ownBlock) ∧ (v.ownBlock ≠ some m) := by
    cases hl : lookE M x with
    | none =>
      have hS : S x = [] := by
        cases hs : S x with
        | nil => rfl
        | cons a l =>
          obtain ⟨p, hp, hpx⟩ := List.mem_map.1 (h3 x (by rw [hs]; simp))
          unfold lookE at hl
          rw [Option.map_eq_none_iff, List.find?_eq_none] at hl
          exact absurd (hl p hp) (by simp [hpx])
      rw [hS]
      exact ⟨_, rfl, World.ownsRow_nil _ _ _ _, fun _ _ _ => .inl rfl, by simp [Value.ownBlock]⟩
    | some v =>
      unfold lookE at hl
      obtain ⟨p, hp, rfl⟩ := Option.map_eq_some_iff.1 hl
      have hpx : p.1 = x := by simpa using List.find?_some hp
      have hpm := List.mem_of_find?_eq_some hp
      subst hpx
      exact ⟨_, rfl, (h2 p hpm).1, fun q hq hne => .inr (h4 q hq p hpm hne), fun e => hmm m ⟨p, hpm, e⟩ rfl⟩
  obtain ⟨v, hv, hown, hoth, hvm⟩ := hval
  refine ⟨v, fun w' hw' => ?_, hown, ?_⟩
  · rw [← hv]; exact run_lookE Tryz.underlying28 Tryz.underlying9 hz (h1.keep hw') x
  · intro w1 s g cap hk hown' hloc
    have hm1 : w1.heap[m]? = w.heap[m]? := hk m h1.lt hvm
    obtain ⟨o, hr, hM'⟩ := run_updE (P := Tryz.prog) Tryz.underlying28 Tryz.underlying9 (h1.keep hm1) x (.slice (some ⟨g, 0, none⟩) ((S x).length + 1) cap)
    refine ⟨o, hr, _, hM', ?_, ?_, ?_⟩
    · have hgm : g ≠ m := by
        rintro rfl
        obtain ⟨c, hc⟩ := owns_kind hown' g rfl
        obtain ⟨es, cl, hb, _⟩ := h1
        rw [hm1, hb] at hc; cases hc
      intro p hp
      rcases mem_upd hnd hp with rfl | ⟨hpM, hpx⟩
      · simp only [addSpot, if_pos]
        refine ⟨?_, by simp⟩
        rw [List.length_append, List.length_singleton]
        exact owns_keep hown' fun k hg => by
          simp [Value.ownBlock] at hg; subst hg
          exact World.putObj_heap_other hgm
      · simp only [addSpot, if_neg hpx]
        refine ⟨owns_keep (h2 p hpM).1 fun k hg => ?_, (h2 p hpM).2⟩
        rw [World.putObj_heap_other (fun e => hmm k ⟨p, hpM, hg⟩ e)]
        refine hk k ((h2 p hpM).1.lt k hg).2 fun e => ?_
        rcases hoth p hpM hpx with h | h
        · rw [h] at e; cases e
        · exact h (by rw [hg, e])
    · intro k hkS
      refine keys_upd ?_
      by_cases e : k = x
      · exact .inr e
      · left; refine h3 k ?_
        simpa [addSpot, e] using hkS
    · have hfar : ∀ p ∈ M, p.1 ≠ x → p.2.ownBlock ≠ some g := by
        intro p hp hpx e
        rcases hloc with h | h
        · rcases hoth p hp hpx with h' | h'
          · rw [h'] at h; cases h
          · exact h' (by rw [e, h])
        · have := ((h2 p hp).1.lt g e).2; omega
      intro p hp q hq hne
      rcases mem_upd hnd hp with rfl | ⟨hpM, hpx⟩ <;> rcases mem_upd hnd hq with rfl | ⟨hqM, hqx⟩
      · exact absurd rfl hne
      · exact (hfar q hqM hqx).symm
      · exact hfar p hpM hpx
      · exact h4 p hpM q hqM hne

/-- The lists of words: a row of pairs of slices of strings. -/
def pairCells (prs : List (Value × Value)) : List Value := prs.flatMap fun p => [p.1, p.2]
def StrRow (w : World) (v : Value) (l : List Wd) : Prop := w.ownsRow 0 9 1 v l.length (l.map st)
def ListsIs (B : Nat) (w : World) (vl : Value) (LL : Lists) : Prop := ∃ prs : List (Value × Value), prs.length = LL.length ∧ w.ownsRow B 96 2 vl LL.length (pairCells prs) ∧
  ∀ (i : Nat) (p : Value × Value) (l : List Wd × List Wd), prs[i]? = some p → LL[i]? = some l → StrRow w p.1 l.1 ∧ StrRow w p.2 l.2
theorem ListsIs.keep {B : Nat} {w w' : World} {vl : Value} {LL : Lists} (h : ListsIs B w vl LL) (hk : ∀ (g : Nat) (c : Array Value) (t : TypeId), t = 9 ∨ t = 96 → w.heap[g]? = some (.cells c t (0, 0)) → w'.heap[g]? = w.heap[g]?) : ListsIs B w' vl LL := by
  obtain ⟨prs, h1, h2, h3⟩ := h
  refine ⟨prs, h1, owns_keep h2 fun g hg => ?_, fun i p l hp hl => ?_⟩
  · obtain ⟨c, hc⟩ := owns_kind h2 g hg; exact hk g c _ (.inr rfl) hc
  · obtain ⟨q1, q2⟩ := h3 i p l hp hl
    refine ⟨owns_keep q1 fun g hg => ?_, owns_keep q2 fun g hg => ?_⟩
    · obtain ⟨c, hc⟩ := owns_kind q1 g hg; exact hk g c _ (.inl rfl) hc
    · obtain ⟨c, hc⟩ := owns_kind q2 g hg; exact hk g c _ (.inl rfl) hc
theorem ListsIs.new {B : Nat} {w w' : World} {vl : Value} {LL : Lists} (h : ListsIs B w vl LL) (hb : Below w.heap.size w w') : ListsIs B w' vl LL :=
  h.keep fun g _ _ _ hc => hb.block g (lt_of_heap hc)

theorem SpotsIs.zero {B : Nat} {w : World} {m : Nat} {S : Wd → List Spot} (h : SpotsIs B w m S) : SpotsIs 0 w m S := by
  obtain ⟨M, h1, h2, h3, h4⟩ := h
  exact ⟨M, h1, fun p hp => ⟨owns_zero (h2 p hp).1, (h2 p hp).2⟩, h3, h4⟩
theorem ListsIs.zero {B : Nat} {w : World} {vl : Value} {LL : Lists} (h : ListsIs B w vl LL) : ListsIs 0 w vl LL := by
  obtain ⟨prs, h1, h2, h3⟩ := h
  exact ⟨prs, h1, owns_zero h2, h3⟩
/-- The finder in block b, of topics whose words are LL. -/
def FinderIs (w : World) (b : Nat) (LL : Lists) : Prop := ∃ vl m, w.heap[b]? = some (.cells #[.int .i64 LL.length, vl, .map (some m)] 30 (0, 0)) ∧ ListsIs 0 w vl LL ∧ SpotsIs 0 w m (spotsOf LL)
theorem FinderIs.new {w w' : World} {b : Nat} {LL : Lists} (h : FinderIs w b LL) (hb : Below w.heap.size w w') : FinderIs w' b LL := by
  obtain ⟨vl, m, h1, h2, h3⟩ := h
  exact ⟨vl, m, (hb.block b (lt_of_heap h1)).trans h1, h2.new hb, h3.new hb⟩
end Go.Proofs.YthpbdeiphagkiaaGreatDoor
