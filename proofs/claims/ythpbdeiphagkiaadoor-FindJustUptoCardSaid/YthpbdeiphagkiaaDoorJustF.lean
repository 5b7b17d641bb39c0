/- FindJust, plain: the numbers of the topics that meet a test; rows of numbers side by side. -/
import Derived.Test.YthpbdeiphagkiaaDoorOpenF
namespace Go.Proofs.YthpbdeiphagkiaaDoor
open Go.RowKit Find

/-- The numbers below k that meet a test. -/
def sel (f : Nat → Bool) (k : Nat) : List Int := ((List.range k).filter f).map fun (i : Nat) => (i : Int)
theorem sel_succ (f : Nat → Bool) (k : Nat) : sel f (k + 1) = sel f k ++ (if f k = true then [(k : Int)] else []) := by
  unfold sel
  rw [List.range_succ, List.filter_append, List.map_append]
  by_cases h : f k = true <;> simp [h]
theorem sel_yes {f : Nat → Bool} {k : Nat} (h : f k = true) : sel f (k + 1) = sel f k ++ [(k : Int)] := by rw [sel_succ, if_pos h]
theorem sel_no {f : Nat → Bool} {k : Nat} (h : f k = false) : sel f (k + 1) = sel f k := by rw [sel_succ, if_neg (by simp [h]), List.append_nil]
theorem sel_len (f : Nat → Bool) (k : Nat) : (sel f k).length ≤ k := by
  unfold sel
  rw [List.length_map]
  exact Nat.le_trans (List.length_filter_le _ _) (by simp)
theorem sel_congr {f g : Nat → Bool} (h : ∀ i, f i = g i) (k : Nat) : sel f k = sel g k := by rw [show f = g from funext h]
theorem sel_ok (LL : Lists) (cs : List Cl) : okTopics LL cs = sel (okB LL cs) LL.length := rfl
theorem okB_two {LL : Lists} {c d : Cl} {x y : Wd} (hc : c.words = [x]) (hco : c.opn = false) (hd : d.words = [y]) (hdo : d.opn = false) (hdn : d.no = false) (i : Nat) : okB LL [c, d] i = ((decide (x ∈ allAt LL i) == !c.no) && decide (y ∈ allAt LL i)) := by
  have ha : 0 < asksN [c, d] := by
    unfold asksN
    exact List.length_pos_of_mem (a := d) (List.mem_filter.2 ⟨by simp, by simp [hdn, hd]⟩)
  unfold okB
  simp only [List.all_cons, List.all_nil, hit_one hc hco, hit_one hd hdo, hc, hd, hdn, decide_eq_true ha]
  simp
theorem count_sel (LL : Lists) (x : Wd) : countW LL [x] = ((sel (fun i => decide (x ∈ allAt LL i)) LL.length).length : Int) := by
  unfold sel
  rw [List.length_map]
  exact countF_spots LL x

/-- Rows of numbers, each its own. -/
def RowsI (B : Nat) (w : World) (l : List (Value × List Int)) : Prop :=
  (∀ p ∈ l, w.ownsRow B 3 1 p.1 p.2.length (intCells p.2)) ∧ l.Pairwise fun p q => ∀ g, p.1.ownBlock = some g → q.1.ownBlock ≠ some g
theorem RowsI.new {B : Nat} {w w' : World} {l : List (Value × List Int)} (h : RowsI B w l) (hb : Below w.heap.size w w') : RowsI B w' l := ⟨fun p hp => owns_new (h.1 p hp) hb, h.2⟩
theorem RowsI.nils (B : Nat) (w : World) : ∀ n, RowsI B w (List.replicate n (.slice none 0 0, []))
  | 0 => ⟨by simp, List.Pairwise.nil⟩
  | n + 1 => by
    obtain ⟨h1, h2⟩ := RowsI.nils B w n
    refine ⟨fun p hp => ?_, List.pairwise_cons.2 ⟨fun q _ g hg => by simp [Value.ownBlock] at hg, h2⟩⟩
    rcases List.mem_cons.1 hp with rfl | hp
    · exact World.ownsRow_nil _ _ _ _
    · exact h1 p hp
theorem RowsI.step {B i : Nat} {W w1 : World} {pre post : List (Value × List Int)} {v : Value} {L : List Int} {gg cap : Nat} {o : Obj} (h : RowsI B W (pre ++ (v, L) :: post))
    (hown : w1.ownsRow B 3 1 (.slice (some ⟨gg, 0, none⟩) (L.length + 1) cap) (L.length + 1) (intCells L ++ [.int .i64 i])) (hgrow : (W.alloc o).grownBy w1 v.ownBlock) (hat : v.ownBlock = some gg ∨ gg = W.heap.size + 1) :
    RowsI B w1 (pre ++ (.slice (some ⟨gg, 0, none⟩) (L.length + 1) cap, L ++ [(i : Int)]) :: post) := by
  obtain ⟨h1, h2⟩ := h
  obtain ⟨p1, p2, p3⟩ := List.pairwise_append.1 h2
  obtain ⟨p4, p5⟩ := List.pairwise_cons.1 p2
  have hlt : ∀ p ∈ pre ++ (v, L) :: post, ∀ g, p.1.ownBlock = some g → g < W.heap.size := fun p hp g hg => ((h1 p hp).lt g hg).2
  have hgg : ∀ p ∈ pre ++ (v, L) :: post, (∀ g, v.ownBlock = some g → p.1.ownBlock ≠ some g) → p.1.ownBlock ≠ some gg := fun p hp hne hg => by
    rcases hat with e | e
    · exact hne gg e hg
    · have := hlt p hp gg hg; omega
  have hkeep : ∀ p ∈ pre ++ (v, L) :: post, (∀ g, v.ownBlock = some g → p.1.ownBlock ≠ some g) → w1.ownsRow B 3 1 p.1 p.2.length (intCells p.2) := fun p hp hne => owns_keep (h1 p hp) fun g hg => by
    have hl := hlt p hp g hg
    rw [hgrow.block g (by simp; omega) (fun e => hne g e.symm hg)]
    exact Below.heap_alloc _ _ _ hl
  have npre : ∀ p ∈ pre, ∀ g, v.ownBlock = some g → p.1.ownBlock ≠ some g := fun p hp g hv hg => p3 p hp _ (List.mem_cons_self ..) g hg hv
  have npost : ∀ p ∈ post, ∀ g, v.ownBlock = some g → p.1.ownBlock ≠ some g := fun p hp g hv hg => p4 p hp g hv hg
  refine ⟨fun p hp => ?_, List.pairwise_append.2 ⟨p1, List.pairwise_cons.2 ⟨fun q hq g hg => ?_, p5⟩, fun p hp q hq => ?_⟩⟩
  · rcases List.mem_append.1 hp with hp | hp
    · exact hkeep p (List.mem_append_left _ hp) (npre p hp)
    · rcases List.mem_cons.1 hp with rfl | hp
      · have e : intCells (L ++ [(i : Int)]) = intCells L ++ [.int .i64 i] := by simp [intCells]
        rw [e, List.length_append]
        exact hown
      · exact hkeep p (List.mem_append_right _ (List.mem_cons_of_mem _ hp)) (npost p hp)
  · simp only [Value.ownBlock, Option.some.injEq] at hg
    subst hg
    exact hgg q (List.mem_append_right _ (List.mem_cons_of_mem _ hq)) (npost q hq)
  · rcases List.mem_cons.1 hq with rfl | hq
    · intro g hg hg2
      simp only [Value.ownBlock, Option.some.injEq] at hg2
      subst hg2
      exact hgg p (List.mem_append_left _ hp) (npre p hp) hg
    · exact p3 p hp q (List.mem_cons_of_mem _ hq)
/-- A number behind one of the rows. -/
theorem wpList_rows {ops : Array Oper} {rest : List Oper} {o : Oper} {a : Act} {Q : Exit → Act → World → Prop} (hgd : o.guard = none) (s x : Operand)
    (ho : o.op = .call { callee := .builtin .append, args := #[s, x], argTypes := #[32, 32] })
    (B i n : Nat) (W : World) (pre post : List (Value × List Int)) (v : Value) (L : List Int) (hs : a.eval s = v) (hx : a.eval x = .slice (some ⟨W.heap.size, 0, none⟩) 1 1)
    (hR : RowsI B W (pre ++ (v, L) :: post)) (hB : B ≤ W.heap.size) (hL : L.length ≤ 1000) (hn : n = L.length)
    (h : ∀ g c w1, RowsI B w1 (pre ++ (.slice (some ⟨g, 0, none⟩) (n + 1) c, L ++ [(i : Int)]) :: post) → Below B W w1 → wpList Tryd.prog ops Q rest (a.put o.dst (.slice (some ⟨g, 0, none⟩) (n + 1) c)) w1) :
    wpList Tryd.prog ops Q (o :: rest) a (W.alloc (.cells #[.int .i64 i] 3)) := by
  subst hn
  obtain ⟨i0, hi0, hz0, hz1, hz2⟩ := info_parts info_int
  have hown := hR.1 (v, L) (List.mem_append_right _ (List.mem_cons_self ..))
  refine wpList_append_lies _ hgd s x 32 ho B 3 i0 _ 1 8 Tryd.underlying32 hi0 hz0 hz1 hz2 rfl (by omega) v L.length (intCells L) hs (hown.alloc _) ⟨W.heap.size, 0, none⟩ 1 1 [.int .i64 i] hx rfl (cell_one_new _ _ _) (by simp [Value.oneCell']) (by omega) (by unfold maxLen; omega) (by omega) (by simp; omega) (W.heap.size + 1) (by simp) ?_
  intro g cap w1 h1 h2 h3 _
  exact h g cap w1 (hR.step h1 h2 h3) (((Below.refl B W).alloc hB _).grown h2 (by simp; omega) fun j hj => (hown.lt j hj).1)
theorem boxes3 (w : World) (o1 o2 o3 : Obj) : ∃ W, W = ((w.alloc o1).alloc o2).alloc o3 ∧ Below w.heap.size w W ∧ W.heap[w.heap.size]? = some o1 ∧ W.heap[w.heap.size + 1]? = some o2 ∧ W.heap[w.heap.size + 1 + 1]? = some o3 := by
  refine ⟨_, rfl, (((Below.refl w.heap.size w).alloc (Nat.le_refl _) o1).alloc (by simp) o2).alloc (by simp; omega) o3, ?_, ?_, ?_⟩
  · rw [Below.heap_alloc _ _ _ (by simp; omega), Below.heap_alloc _ _ _ (by simp)]
    exact heap_alloc_new w o1
  · rw [Below.heap_alloc _ _ _ (by simp)]
    have := heap_alloc_new (w.alloc o1) o2
    rwa [World.size_alloc] at this
  · have := heap_alloc_new ((w.alloc o1).alloc o2) o3
    rwa [World.size_alloc, World.size_alloc] at this
theorem box_cells {W : World} {g : Nat} {u0 u1 u2 : Value} (h : W.heap[g]? = some (.cells #[u0, u1, u2] 31 (0, 0))) : W.cell? ⟨g, 0, none⟩ = some u0 ∧ W.cell? ⟨g, 1, none⟩ = some u1 ∧ W.cell? ⟨g, 2, none⟩ = some u2 :=
  ⟨by rw [Lib.cell_of_heap h]; rfl, by rw [Lib.cell_of_heap h]; rfl, by rw [Lib.cell_of_heap h]; rfl⟩
theorem spots_few {LL : Lists} (hN : ∀ p ∈ LL, p.1.length ≤ 5242881 ∧ p.2.length ≤ 5242881) (hLn : LL.length ≤ 1000) (x : Wd) : (spotsOf LL x).length ≤ 1099511627776 := by
  have h1 := spotsOf_len LL x 5242881 hN
  have h2 := Nat.mul_le_mul_right (2 * 5242881) hLn
  omega
theorem RowsI.get {B : Nat} {w : World} {l : List (Value × List Int)} (h : RowsI B w l) {p : Value × List Int} (hp : p ∈ l) : IntRow w p.1 p.2 := owns_zero (h.1 p hp)
/-- The words of two texts, one behind the other, as a step of a region that draws. -/
theorem step_rows {ops : Array Oper} {o : Oper} {a : Act} {K : Act → World → Prop} {Q : Exit → Act → World → Prop} {E : Prop} (hgd : o.guard = none) (s x : Operand)
    (ho : o.op = .call { callee := .builtin .append, args := #[s, x], argTypes := #[22, 22] })
    (B : Nat) (W : World) (a1 a2 : Option Addr) (c1 c2 : Nat) (X Y : List Wd) (hs : a.eval s = .slice a1 X.length c1) (hx : a.eval x = .slice a2 Y.length c2)
    (h1 : W.ownsRow B 9 1 (.slice a1 X.length c1) X.length (X.map st)) (h2 : StrRow W (.slice a2 Y.length c2) Y) (hB : B ≤ W.heap.size) (hX : X.length ≤ 1099511627776) (hY : Y.length ≤ 1099511627776)
    (h : ∀ a3 c3 w1, StrSl w1 (.slice a3 (X ++ Y).length c3) (X ++ Y) → Below B W w1 → K (a.put o.dst (.slice a3 (X ++ Y).length c3)) w1) :
    if Region.wanted o (yielded ops a.tmps) = true then Oper.wp Tryd.prog o a W K Q else E := by
  have hw : Region.wanted o (yielded ops a.tmps) = true := by simp [Region.wanted, hgd]
  rw [if_pos hw]
  obtain ⟨i0, hi0, hz0, hz1, hz2⟩ := info_parts info_str
  have hlX : (X.map st).length = X.length := by simp
  rcases h2.2 with ⟨e, h0⟩ | ⟨g, cap, cur, e, hrest⟩
  · injection e with e1 e2 e3
    subst e1 e3
    have hy : Y = [] := List.eq_nil_of_length_eq_zero e2
    subst hy
    have hrun := run_append_owned_none (P := Tryd.prog) (w := W) B 22 o.type 9 i0 1 Tryd.underlying22 hi0 (.slice a1 X.length c1) X.length (X.map st) h1
    have hk := h a1 c1 W (by rw [List.append_nil]; exact StrRow.sl (l := X) (owns_zero h1)) (Below.refl B W)
    rw [List.append_nil] at hk
    unfold Oper.wp
    simp only [List.length_nil] at hx
    simp [execOp, ho, resolve, invoke, builtin, hs, hx, hrun, Result.andThen]
    exact hk
  · injection e with e1 e2 e3
    subst e1 e3
    refine wp_append_own _ s x 22 ho B 9 i0 _ 1 16 Tryd.underlying22 hi0 hz0 hz1 hz2 rfl (by omega) (.slice a1 X.length c1) X.length (X.map st) hs h1 ⟨g, 0, none⟩ Y.length c2 (Y.map st) hx (by simp) (fun j u hu => h2.cells (g := g) rfl j u hu) (by simp [Value.oneCell']) (by unfold maxLen; omega) (by omega) hB ?_
    intro v' w' hown hgrow _
    obtain ⟨a3, c3, rfl⟩ : ∃ a c, v' = .slice a (X.length + Y.length) c := slice_form hown
    have hl : X.length + Y.length = (X ++ Y).length := by rw [List.length_append]
    rw [hl]
    refine h a3 c3 w' (StrRow.sl (l := X ++ Y) ?_) ((Below.refl B W).grown hgrow hB fun j hj => (h1.lt j hj).1)
    rw [← List.map_append, hl] at hown
    exact owns_zero hown
/-- The words of a text, in a row of its own. -/
theorem words_own (x : Wd) (w : World) (hT : Tabs w) (hs : x.length ≤ 1099511627776) :
    Calls Tryd.prog 10 #[st x] w fun e w' => ∃ a c, e = .returned (.slice a (words x).length c) ∧ w'.ownsRow w.heap.size 9 1 (.slice a (words x).length c) (words x).length ((words x).map st) ∧ Below w.heap.size w w' := by
  refine (words_any ⟨x.toArray⟩ w hT (by show x.toArray.size ≤ _; rw [List.size_toArray]; exact hs)).mono ?_
  rintro e w' ⟨v, rfl, ho, hb⟩
  obtain ⟨a, c, rfl⟩ := slice_form ho
  exact ⟨a, c, rfl, ho, hb⟩
/-- The topics told, where they are known. -/
theorem topics_eq (R : List Fnd) (L : List Int) (hL : ∀ U, Rises U (R.map (·.topic)) → U = L) (a : Option Addr) (c : Nat) (w : World) (h : FndSl w (.slice a R.length c) R) (hn : R.length ≤ 1000) :
    Calls Tryd.prog 13 #[.slice a R.length c] w fun e w' => ∃ a c, e = .returned (.slice a L.length c) ∧ IntRow w' (.slice a L.length c) L ∧ Below w.heap.size w w' := by
  refine (topics_any R a c w h (by omega)).mono ?_
  rintro e w' ⟨a', c', U, rfl, hr, _, _, hi, hb⟩
  obtain rfl := hL U hr
  exact ⟨a', c', rfl, hi, hb⟩
theorem ints_same (l : List Int) (a b : Option Addr) (c d : Nat) (w : World) (h : IntRow w (.slice a l.length c) l) (h' : IntRow w (.slice b l.length d) l) (hn : l.length ≤ 1000) :
    Calls Tryd.prog 12 #[.slice a l.length c, .slice b l.length d] w fun e w' => e = .returned (.bool true) ∧ Below w.heap.size w w' := by
  refine (ints_any l l a b c d w h h' (by omega) (by omega)).mono ?_
  rintro e w' ⟨rfl, hb⟩
  exact ⟨ret_bool (by simp), hb⟩
/-- Ask for two words. -/
theorem ask_two {LL : Lists} {b : Nat} {x y : Wd} {a a' : Option Addr} {c c' : Nat} {no opn no' opn' : Bool} {W : World} (hf : FinderIs W b LL) (hr : StrRow W (.slice a 1 c) [x]) (hr' : StrRow W (.slice a' 1 c') [y]) (hN : ∀ p ∈ LL, p.1.length ≤ 5242881 ∧ p.2.length ≤ 5242881) (hLn : LL.length ≤ 1000) :
    Calls Tryd.prog 14 #[.pointer (some ⟨b, 0, none⟩), .slice (some ⟨W.heap.size, 0, none⟩) 2 2] (W.alloc (.cells #[.slice a 1 c, .bool no, .bool opn, .slice a' 1 c', .bool no', .bool opn'] 31)) fun e w' => ∃ a c R, e = .returned (.slice a R.length c) ∧ Find.Told LL [⟨[x], no, opn⟩, ⟨[y], no', opn'⟩] R ∧ R.length ≤ 1000 ∧ FndSl w' (.slice a R.length c) R ∧ Below W.heap.size W w' := by
  have hb := (Below.refl W.heap.size W).alloc (Nat.le_refl _) (.cells #[.slice a 1 c, .bool no, .bool opn, .slice a' 1 c', .bool no', .bool opn'] 31)
  refine (ask_slice LL [⟨[x], no, opn⟩, ⟨[y], no', opn'⟩] b _ 2 _ (hf.new hb) (cls_two (cl := ⟨[x], no, opn⟩) (cl' := ⟨[y], no', opn'⟩) rfl rfl (heap_alloc_new W _) (StrRow.sl (l := [x]) (owns_new hr hb)) (StrRow.sl (l := [y]) (owns_new hr' hb))) (by simp) hN (by simp) hLn).mono ?_
  rintro e w' ⟨a', c', R, rfl, h1, h2, h3, h4⟩
  exact ⟨a', c', R, rfl, h1, h2, h3, hb.trans (h4.mono hb.size)⟩
end Go.Proofs.YthpbdeiphagkiaaDoor
