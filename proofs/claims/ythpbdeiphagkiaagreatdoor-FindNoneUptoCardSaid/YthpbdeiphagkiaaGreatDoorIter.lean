/- find.words: the iterator, for every loop body that leaves builders and walks as they are. -/
import Derived.Test.YthpbdeiphagkiaaGreatDoorSeq
import Derived.Test.YthpbdeiphagkiaaGreatDoorFold
import Derived.Test.YthpbdeiphagkiaaGreatDoorLens
import Derived.Lib.OthersKept
namespace Go.Proofs.YthpbdeiphagkiaaGreatDoor
open Go.RowKit Find
attribute [local go_sem] Oper.semAt_some

/-- The kinds of objects that the iterator turns: walks over strings, builders, rows of bytes. -/
def okW (o : Obj) : Bool := o.isWalk || match o with
  | .cells _ t _ => t == 73 || t == 5
  | _ => false
def KpW (A C : World) : Prop := A.heap.size ≤ C.heap.size ∧ (∀ (k : Nat) (o : Obj), A.heap[k]? = some o → okW o = true → C.heap[k]? = some o) ∧ (Tabs A → Tabs C)
theorem KpW.t {A B C : World} (h : KpW A B) (k : KpW B C) : KpW A C :=
  ⟨Nat.le_trans h.1 k.1, fun i o ho hk => k.2.1 i o (h.2.1 i o ho hk) hk, fun ht => k.2.2 (h.2.2 ht)⟩
theorem ItStep.of_below {ok : Obj → Bool} {B : Nat} {A C : World} (h : Below A.heap.size A C) : ItStep ok B A C :=
  ⟨fun _ => False, fun _ => False, (Ev.refl _ A).below h, fun _ hr => hr.elim⟩
theorem Bld.exact {w : World} {b : Nat} {bs : List UInt8} {F : Nat → Prop} (h : Bld w b bs F) : ∃ F0, Bld w b bs F0 ∧ ∀ k, F0 k → F k ∧ ∀ o, w.heap[k]? = some o → okW o = true ∧ o.isCells = true := by
  obtain ⟨p, v, hp, hb, hown, hF, hg⟩ := h
  refine ⟨fun k => k = b ∨ v.ownBlock = some k, ⟨p, v, hp, hb, hown, .inl rfl, fun g e => .inr e⟩, ?_⟩
  rintro k (rfl | hk)
  · exact ⟨hF, fun o ho => by rw [hb] at ho; cases ho; exact ⟨rfl, rfl⟩⟩
  · refine ⟨hg k hk, fun o ho => ?_⟩
    rcases hown.2 with ⟨rfl, _⟩ | ⟨g, cap, cur, rfl, _, h2, _⟩
    · cases hk
    · simp [Value.ownBlock] at hk; subst hk
      rw [h2] at ho; cases ho; exact ⟨rfl, rfl⟩
/-- A turn of a builder is a step of the iterator's. -/
theorem ItStep.of_bld {B : Nat} {w w' : World} {b : Nat} {F F' : Nat → Prop} (hev : Ev F w F' w') (hF : ∀ k, F k → B ≤ k ∧ ∀ o, w.heap[k]? = some o → okW o = true) : ItStep okW B w w' :=
  ⟨F, F', hev, hF⟩
theorem ev_iterAt {w : World} {k : Nat} {s : ByteArray} {pos pos' : Nat} : Ev (fun j => j = k) w (fun j => j = k) (w.iterAt k s pos') :=
  ⟨rfl, rfl, rfl, by rw [Lib.iterAt_size]; exact Nat.le_refl _, fun j _ hj => Lib.iterAt_other w k j s pos' hj, fun _ h => .inl h⟩
theorem ItStep.iterAt {B : Nat} {w : World} {k : Nat} {s : ByteArray} {pos : Nat} (h : w.heap[k]? = some (.stringIter s pos)) (hB : B ≤ k) (pos' : Nat) : ItStep okW B w (w.iterAt k s pos') :=
  ⟨_, _, ev_iterAt (pos := pos), fun r hr => by subst hr; exact ⟨hB, fun o ho => by rw [h] at ho; cases ho; rfl⟩⟩

theorem wordsF_yes {acc : Wd} {c : Ch} {l : List Ch} (h : countsCh c = true) : wordsF acc (c :: l) = wordsF (acc ++ base c.1) l := by rw [wordsF, if_pos h]
theorem wordsF_no0 {c : Ch} {l : List Ch} (h : countsCh c = false) : wordsF [] (c :: l) = wordsF [] l := by rw [wordsF, h]; rfl
theorem wordsF_no {acc : Wd} {c : Ch} {l : List Ch} (h : countsCh c = false) (ha : acc ≠ []) : wordsF acc (c :: l) = acc :: wordsF [] l := by
  rw [wordsF, h]; cases acc with
  | nil => exact absurd rfl ha
  | cons a b => rfl


/-- The state of the iterator between two steps. -/
structure WSt (B b K : Nat) (f : ByteArray) (pos : Nat) (acc : Wd) (J : World → Prop) (wr : World) : Prop where
  iter : wr.heap[K]? = some (.stringIter f pos)
  bld : Bld wr b acc (fun k => B ≤ k)
  inv : J wr
  tabs : Tabs wr
  base : B ≤ K
section
variable {B b K : Nat} {f : ByteArray} {pos : Nat} {acc : Wd} {J : World → Prop} {w w' : World}
theorem WSt.below (h : WSt B b K f pos acc J w) (hJ : ∀ A C, J A → ItStep okW B A C → J C) (hb : Below w.heap.size w w') : WSt B b K f pos acc J w' :=
  ⟨by rw [hb.block _ (lt_of_heap h.iter)]; exact h.iter, h.bld.keep fun k _ hk => hb.block k hk, hJ _ _ h.inv (ItStep.of_below hb), h.tabs.below hb, h.base⟩
theorem WSt.next (h : WSt B b K f pos acc J w) (hJ : ∀ A C, J A → ItStep okW B A C → J C) (hK : B ≤ K) (h3 : 1 < B ∧ 2 < B) (pos' : Nat) : WSt B b K f pos' acc J (w.iterAt K f pos') := by
  have hne : ∀ k : Nat, (∃ c t fz, w.heap[k]? = some (.cells c t fz)) → k ≠ K := by
    rintro k ⟨c, t, fz, hk⟩ rfl
    rw [h.iter] at hk; cases hk
  refine ⟨Lib.iterAt_heap w K f pos pos' h.iter, ?_, hJ _ _ h.inv (ItStep.iterAt h.iter hK pos'), h.tabs.ev (ev_iterAt (pos := pos)) (by omega) (by omega), h.base⟩
  obtain ⟨p, v, hp, hb, hown, hF, hg⟩ := h.bld
  refine ⟨p, v, hp, by rw [Lib.iterAt_other _ _ _ _ _ (hne b ⟨_, _, _, hb⟩)]; exact hb, ⟨hown.1, ?_⟩, hF, hg⟩
  rcases hown.2 with h0 | ⟨g, cap, cur, rfl, h1, h2, h4⟩
  · exact .inl h0
  · exact .inr ⟨g, cap, cur, rfl, h1, by rw [Lib.iterAt_other _ _ _ _ _ (hne g ⟨_, _, _, h2⟩)]; exact h2, h4⟩
/-- Behind a call that turned the builder's blocks alone. -/
theorem WSt.turn {F0 F' : Nat → Prop} (h : WSt B b K f pos acc J w) (hJ : ∀ A C, J A → ItStep okW B A C → J C) (h3 : 1 < B ∧ 2 < B)
    (hF : ∀ k, F0 k → B ≤ k ∧ ∀ o, w.heap[k]? = some o → okW o = true ∧ o.isCells = true) (hev : Ev F0 w F' w') :
    w'.heap[K]? = some (.stringIter f pos) ∧ J w' ∧ Tabs w' :=
  ⟨by
    rw [hev.block K (lt_of_heap h.iter) fun hk => by have := ((hF K hk).2 _ h.iter).2; cases this]
    exact h.iter, hJ _ _ h.inv ⟨F0, F', hev, fun k hk => ⟨(hF k hk).1, fun o ho => ((hF k hk).2 o ho).1⟩⟩,
   h.tabs.ev hev (fun hk => by have := (hF _ hk).1; omega) (fun hk => by have := (hF _ hk).1; omega)⟩
end

set_option maxHeartbeats 4000000 in
set_option maxRecDepth 100000 in
theorem words1_in (n : Nat) (hn : 1 ≤ n) (l Bn : Nat) (s : ByteArray) (hs : s.size ≤ 1099511627776) (J Jx : List Wd → World → Prop) (W : World)
    (hJ : ∀ q A C, J q A → ItStep okW W.heap.size A C → J q C) (hJx : ∀ q A C, Jx q A → ItStep okW W.heap.size A C → Jx q C)
    (hY : ∀ pre x W1, J pre W1 → pre.length < (words s.data.toList).length → YieldAt Fence.wide (n - 1) Tryz.prog l #[.string ⟨x.toArray⟩] W1 fun e W' =>
      (e = .returned (.bool true) ∧ J (pre ++ [x]) W' ∧ KpW W1 W') ∨ (e = .returned (.bool false) ∧ Jx (pre ++ [x]) W'))
    (hBn : W.cell? ⟨Bn, 0, none⟩ = some (.string s)) (hT : Tabs W) (h0 : J [] W) :
    CallsIn Fence.wide n Tryz.prog 60 #[.func (.yield l) #[] #[], .pointer (some ⟨Bn, 0, none⟩)] W fun e W' => (∃ v, e = .returned v) ∧
      ((∃ ys, ys = words s.data.toList ∧ J ys W') ∨ (∃ pre, True ∧ Jx pre W')) := by
  have h3 := hT.lt
  have HJ := Lib.hid hJ
  have HJx := Lib.hid hJx
  have HY := Lib.hid hY
  have HT := Lib.hid hT
  have H0 := Lib.hid h0
  have H3 := Lib.hid h3
  clear hJ hJx hY hT h0 h3
  refine callsIn_of_wp Tryz.func60 rfl trivial ?_ rfl
  simp only [Tryz.ntmps60, List.size_toArray, List.length_cons, List.length_nil, Nat.reduceAdd, Nat.reduceSub, Array.replicate_succ, Array.replicate_zero, List.push_toArray, List.append_toArray, List.nil_append, List.cons_append]
  gi_wp2_with (refine ⟨trivial, ?_⟩; gi_at_call 27; refine (callsIn_wide.2 (fold_any s _ HT.out hs)).mono ?_; rintro e w1 ⟨rfl, hb1⟩)
  obtain ⟨f, hf⟩ : ∃ f : ByteArray, f = ⟨(fold s.data.toList).toArray⟩ := ⟨_, rfl⟩
  have hfl : f.data.toList = fold s.data.toList := by rw [hf]
  have hwords : wordsF [] (chars f.data.toList) = words s.data.toList := by rw [hfl]; rfl
  have hfs : f.size ≤ 5 * s.size := by rw [size_list, hfl, size_list s]; exact fold_len _
  rw [← hf]
  have HW := Lib.hid hwords
  clear hwords hf hfl
  have HT1 := Lib.hid (HT.out.below hb1)
  have H1 := Lib.hid (HJ.out _ _ _ H0.out (ItStep.of_below hb1))
  have hsz := hb1.size
  clear hb1
  gi_wp2
  gi_loopw [] (fun wr => ∃ (pos : Nat) (acc : Wd) (pre : List Wd), pos ≤ f.size ∧ WSt W.heap.size w1.heap.size (w1.heap.size + 1) f pos acc (J pre) wr ∧ Hid (pre ++ wordsF acc (chars (f.data.toList.drop pos)) = words s.data.toList) ∧ acc.length ≤ 4 * pos) (fun wr => f.size - wr.iterPos (w1.heap.size + 1))
  case atStart =>
    have hba := ((Below.refl w1.heap.size w1).alloc (Nat.le_refl _) (.cells #[.pointer none, .slice none 0 0] 73))
    refine ⟨0, [], [], Nat.zero_le _, ⟨?_, (Bld.fresh w1 _ hsz).alloc _, ?_, ?_, by omega⟩, Lib.hid (by rw [List.drop_zero]; exact HW.out), by simp⟩
    · have := World.iter_heap (w1.alloc (.cells #[.pointer none, .slice none 0 0] 73)) f 0
      simpa using this
    · exact HJ.out _ _ _ H1.out (ItStep.of_below (hba.alloc (by simp) _))
    · exact HT1.out.below (hba.alloc (by simp) _)
  case round =>
    obtain ⟨pos, acc, pre, hpos, hS, hHr, hal⟩ := hrel
    have HS := Lib.hid hS
    have hit := hS.iter
    clear hS
    have hBK : W.heap.size ≤ w1.heap.size + 1 := by omega
    by_cases hp : pos < f.size
    · have hnx : ∀ ty, (Instr.next (.pointer (some ⟨w1.heap.size + 1, 0, none⟩)) true ty).run Tryz.prog wr = _ := fun ty => Lib.run_next_any_at wr (w1.heap.size + 1) f pos ty hit hp
      have hch := chars_at f pos hp
      obtain ⟨hr1, hr2⟩ := decL_hi (f.data.toList.drop pos)
      have hn := decL_len (f.data.toList.drop pos) (by intro e; have := congrArg List.length e; rw [List.length_drop, ← size_list] at this; simp at this; omega)
      rw [List.length_drop, ← size_list] at hn
      rw [decode_eq] at hnx
      have HS2 := Lib.hid (HS.out.next (HJ.out pre) hBK H3.out (pos + (decL (f.data.toList.drop pos)).2))
      have hd := dec_at f pos hp _ HS2.out.tabs
      generalize hr : (decL (f.data.toList.drop pos)).1 = r at *
      generalize hnn : (decL (f.data.toList.drop pos)).2 = m at *
      have HC := Lib.hid hch
      have HD := Lib.hid hd
      clear hch hd hr hnn hit
      have hL := Lib.hid (show ((f.data.toList.drop pos).take m).length = m by rw [List.length_take, List.length_drop, ← size_list]; omega)
      by_cases hbad : r = 65533 ∧ m = 1
      · obtain ⟨rfl, rfl⟩ := hbad
        have hb1 : (((65533 : Nat) : Int) == 65533) = true := rfl
        have hb2 : (((1 : Nat) : Int) == 1) = true := rfl
        have hcc := Lib.hid (show countsCh (65533, (f.data.toList.drop pos).take 1) = false by simp [countsCh, badCh, hL.out])
        by_cases ha : acc = []
        · subst ha
          gi_wp2_with (refine ⟨trivial, ?_⟩; gi_at_call 45; refine (callsIn_wide.2 HD.out).mono ?_; rintro e w3 ⟨rfl, hb3⟩; have HS3 := Lib.hid (HS2.out.below (HJ.out pre) hb3); clear hb3)
          refine ⟨trivial, ?_⟩
          gi_wp2_with (first | (refine ⟨trivial, ?_⟩; gi_at_call 45; refine (callsIn_wide.2 HD.out).mono ?_; rintro e w3 ⟨rfl, hb3⟩; have HS3 := Lib.hid (HS2.out.below (HJ.out pre) hb3); clear hb3) | (refine ⟨trivial, ?_⟩; gi_at_call 61; refine (callsIn_wide.2 (counts_any _ _ (by omega) (by omega))).mono ?_; rintro e w9 ⟨rfl, rfl⟩) | (refine ⟨trivial, ?_⟩; gi_at_call 46; refine (callsIn_wide.2 (len_any _ _ _ _ HS3.out.bld)).mono ?_; rintro e w9 ⟨rfl, rfl⟩))
          go_roundw
          case rel => exact ⟨pos + 1, [], pre, by omega, HS3.out, Lib.hid (by rw [← hHr.out, HC.out, wordsF_no0 hcc.out]), by simp⟩
          case measure =>
            simp only [World.iterPos, HS3.out.iter, HS.out.iter]
            omega
        · have hal0 : 0 < acc.length := List.length_pos_iff.2 ha
          gi_wp2_with (refine ⟨trivial, ?_⟩; gi_at_call 45; refine (callsIn_wide.2 HD.out).mono ?_; rintro e w3 ⟨rfl, hb3⟩; have HS3 := Lib.hid (HS2.out.below (HJ.out pre) hb3); clear hb3)
          refine ⟨trivial, ?_⟩
          gi_wp2_with (first | (refine ⟨trivial, ?_⟩; gi_at_call 45; refine (callsIn_wide.2 HD.out).mono ?_; rintro e w3 ⟨rfl, hb3⟩; have HS3 := Lib.hid (HS2.out.below (HJ.out pre) hb3); clear hb3) | (refine ⟨trivial, ?_⟩; gi_at_call 61; refine (callsIn_wide.2 (counts_any _ _ (by omega) (by omega))).mono ?_; rintro e w9 ⟨rfl, rfl⟩) | (refine ⟨trivial, ?_⟩; gi_at_call 46; refine (callsIn_wide.2 (len_any _ _ _ _ HS3.out.bld)).mono ?_; rintro e w9 ⟨rfl, rfl⟩))
          obtain ⟨F0, hB0, hF0⟩ := HS3.out.bld.exact
          have HF0 := Lib.hid hF0
          refine ⟨trivial, ?_⟩
          refine (callsIn_wide.2 (string_any _ acc F0 _ hB0)).mono ?_
          rintro e w4 ⟨rfl, hR, hE⟩
          obtain ⟨t1, t2, t3⟩ := HS3.out.turn (HJ.out pre) H3.out HF0.out hE
          have hlt : pre.length < (words s.data.toList).length := by
            rw [← hHr.out, HC.out, wordsF_no hcc.out ha, List.length_append, List.length_cons]; omega
          obtain ⟨fn, tmps, assign, body, hy, hRd⟩ := HY.out pre acc w4 t2 hlt
          have HR := Lib.hid hR
          have T1 := Lib.hid t1
          have T3 := Lib.hid t3
          clear hR hE t1 t2 t3 hB0 hF0 hlt
          gi_wp2
          refine hRd.mono ?_
          rintro e w5 (⟨rfl, hJ5, hk5⟩ | ⟨rfl, hJx5⟩)
          · obtain ⟨k1, k2, k3⟩ := hk5
            have hit5 := k2 _ _ T1.out rfl
            have HT5 := Lib.hid (k3 T3.out)
            have HR5 := Lib.hid (show BldR w5 w1.heap.size (fun k => k = w1.heap.size) from by
              obtain ⟨p, v, hb, _⟩ := HR.out
              exact ⟨p, v, k2 _ _ hb rfl, rfl⟩)
            have HJ5 := Lib.hid hJ5
            have HI5 := Lib.hid hit5
            clear k2 k3 hJ5 hit5
            gi_wp2_with (refine ⟨trivial, ?_⟩; gi_at_call 62; refine (callsIn_wide.2 (reset_any _ _ _ HR5.out)).mono ?_; rintro e w6 ⟨rfl, hB6, hE6⟩)
            have HS6 := Lib.hid (show WSt W.heap.size w1.heap.size (w1.heap.size + 1) f (pos + 1) [] (J (pre ++ [acc])) w6 from
              ⟨by rw [hE6.block _ (lt_of_heap HI5.out) (by omega)]; exact HI5.out, hB6.wide (fun k hk => by omega),
               HJ.out _ _ _ HJ5.out (ItStep.of_bld (b := w1.heap.size) hE6 fun k hk => by
                subst hk
                refine ⟨hsz, fun o ho => ?_⟩
                obtain ⟨p, v, hb, _⟩ := HR5.out
                rw [hb] at ho; cases ho; rfl),
               HT5.out.ev hE6 (by have := H3.out; omega) (by have := H3.out; omega), hBK⟩)
            clear hB6 hE6
            go_roundw
            case rel => exact ⟨pos + 1, [], pre ++ [acc], by omega, HS6.out, Lib.hid (by rw [← hHr.out, HC.out, wordsF_no hcc.out ha, List.append_assoc]; rfl), by simp⟩
            case measure =>
              simp only [World.iterPos, HS6.out.iter, HS.out.iter]
              omega
          · gi_wp2
            refine bodyPost_ret (results_none rfl _ _ _) rfl ?_
            exact ⟨⟨_, rfl⟩, .inr ⟨_, trivial, hJx5⟩⟩
      · cases hcr : countsR (r : Int) with
        | false =>
          have hr : r ≠ 65533 := by rintro rfl; revert hcr; decide
          have hb1 : (((r : Nat) : Int) == 65533) = false := by simp; omega
          have hcc := Lib.hid (show countsCh (r, (f.data.toList.drop pos).take m) = false by simp [countsCh, hcr])
          clear hr
          by_cases ha : acc = []
          · subst ha
            gi_wp2_with (first | (refine ⟨trivial, ?_⟩; gi_at_call 45; refine (callsIn_wide.2 HD.out).mono ?_; rintro e w3 ⟨rfl, hb3⟩; have HS3 := Lib.hid (HS2.out.below (HJ.out pre) hb3); clear hb3) | (refine ⟨trivial, ?_⟩; gi_at_call 61; refine (callsIn_wide.2 (counts_any _ _ (by omega) (by omega))).mono ?_; rintro e w9 ⟨rfl, rfl⟩) | (refine ⟨trivial, ?_⟩; gi_at_call 46; refine (callsIn_wide.2 (len_any _ _ _ _ HS3.out.bld)).mono ?_; rintro e w9 ⟨rfl, rfl⟩))
            go_roundw
            case rel => exact ⟨pos + m, [], pre, by omega, HS3.out, Lib.hid (by rw [← hHr.out, HC.out, wordsF_no0 hcc.out]), by simp⟩
            case measure =>
              simp only [World.iterPos, HS3.out.iter, HS.out.iter]
              omega
          · have hal0 : 0 < acc.length := List.length_pos_iff.2 ha
            gi_wp2_with (first | (refine ⟨trivial, ?_⟩; gi_at_call 45; refine (callsIn_wide.2 HD.out).mono ?_; rintro e w3 ⟨rfl, hb3⟩; have HS3 := Lib.hid (HS2.out.below (HJ.out pre) hb3); clear hb3) | (refine ⟨trivial, ?_⟩; gi_at_call 61; refine (callsIn_wide.2 (counts_any _ _ (by omega) (by omega))).mono ?_; rintro e w9 ⟨rfl, rfl⟩) | (refine ⟨trivial, ?_⟩; gi_at_call 46; refine (callsIn_wide.2 (len_any _ _ _ _ HS3.out.bld)).mono ?_; rintro e w9 ⟨rfl, rfl⟩))
            obtain ⟨F0, hB0, hF0⟩ := HS3.out.bld.exact
            have HF0 := Lib.hid hF0
            refine ⟨trivial, ?_⟩
            refine (callsIn_wide.2 (string_any _ acc F0 _ hB0)).mono ?_
            rintro e w4 ⟨rfl, hR, hE⟩
            obtain ⟨t1, t2, t3⟩ := HS3.out.turn (HJ.out pre) H3.out HF0.out hE
            have hlt : pre.length < (words s.data.toList).length := by
              rw [← hHr.out, HC.out, wordsF_no hcc.out ha, List.length_append, List.length_cons]; omega
            obtain ⟨fn, tmps, assign, body, hy, hRd⟩ := HY.out pre acc w4 t2 hlt
            have HR := Lib.hid hR
            have T1 := Lib.hid t1
            have T3 := Lib.hid t3
            clear hR hE t1 t2 t3 hB0 hF0 hlt
            gi_wp2
            refine hRd.mono ?_
            rintro e w5 (⟨rfl, hJ5, hk5⟩ | ⟨rfl, hJx5⟩)
            · obtain ⟨k1, k2, k3⟩ := hk5
              have hit5 := k2 _ _ T1.out rfl
              have HT5 := Lib.hid (k3 T3.out)
              have HR5 := Lib.hid (show BldR w5 w1.heap.size (fun k => k = w1.heap.size) from by
                obtain ⟨p, v, hb, _⟩ := HR.out
                exact ⟨p, v, k2 _ _ hb rfl, rfl⟩)
              have HJ5 := Lib.hid hJ5
              have HI5 := Lib.hid hit5
              clear k2 k3 hJ5 hit5
              gi_wp2_with (refine ⟨trivial, ?_⟩; gi_at_call 62; refine (callsIn_wide.2 (reset_any _ _ _ HR5.out)).mono ?_; rintro e w6 ⟨rfl, hB6, hE6⟩)
              have HS6 := Lib.hid (show WSt W.heap.size w1.heap.size (w1.heap.size + 1) f (pos + m) [] (J (pre ++ [acc])) w6 from
                ⟨by rw [hE6.block _ (lt_of_heap HI5.out) (by omega)]; exact HI5.out, hB6.wide (fun k hk => by omega),
                 HJ.out _ _ _ HJ5.out (ItStep.of_bld (b := w1.heap.size) hE6 fun k hk => by
                  subst hk
                  refine ⟨hsz, fun o ho => ?_⟩
                  obtain ⟨p, v, hb, _⟩ := HR5.out
                  rw [hb] at ho; cases ho; rfl),
                 HT5.out.ev hE6 (by have := H3.out; omega) (by have := H3.out; omega), hBK⟩)
              clear hB6 hE6
              go_roundw
              case rel => exact ⟨pos + m, [], pre ++ [acc], by omega, HS6.out, Lib.hid (by rw [← hHr.out, HC.out, wordsF_no hcc.out ha, List.append_assoc]; rfl), by simp⟩
              case measure =>
                simp only [World.iterPos, HS6.out.iter, HS.out.iter]
                omega
            · gi_wp2
              refine bodyPost_ret (results_none rfl _ _ _) rfl ?_
              exact ⟨⟨_, rfl⟩, .inr ⟨_, trivial, hJx5⟩⟩
        | true =>
          have hcc := Lib.hid (show countsCh (r, (f.data.toList.drop pos).take m) = true by
            have : badCh (r, (f.data.toList.drop pos).take m) = false := by
              unfold badCh
              rw [hL.out]
              rcases (by omega : r ≠ 65533 ∨ m ≠ 1) with h | h
              · simp [h]
              · simp [h]
            simp [countsCh, this, hcr])
          by_cases hr : r = 65533
          · have hb1 : (((r : Nat) : Int) == 65533) = true := by rw [hr]; rfl
            have hb2 : (((m : Nat) : Int) == 1) = false := by simp; omega
            clear hr
            gi_wp2_with (first | (refine ⟨trivial, ?_⟩; gi_at_call 45; refine (callsIn_wide.2 HD.out).mono ?_; rintro e w3 ⟨rfl, hb3⟩; have HS3 := Lib.hid (HS2.out.below (HJ.out pre) hb3); clear hb3) | (refine ⟨trivial, ?_⟩; gi_at_call 61; refine (callsIn_wide.2 (counts_any _ _ (by omega) (by omega))).mono ?_; rintro e w9 ⟨rfl, rfl⟩) | (refine ⟨trivial, ?_⟩; gi_at_call 28; refine (callsIn_wide.2 (base_any _ _ (by omega) (by omega))).mono ?_; rintro e w9 ⟨rfl, rfl⟩))
            obtain ⟨F0, hB0, hF0⟩ := HS3.out.bld.exact
            have HF0 := Lib.hid hF0
            have hbl := (base_len (r : Int)).2
            refine ⟨trivial, ?_⟩
            refine (callsIn_wide.2 (writeString_any _ acc F0 _ _ hB0 (by rw [size_list]; simp only; omega))).mono ?_
            rintro e w4 ⟨rfl, hW⟩
            obtain ⟨t1, t2, t3⟩ := HS3.out.turn (HJ.out pre) H3.out HF0.out hW.2
            have HS4 := Lib.hid (show WSt W.heap.size w1.heap.size (w1.heap.size + 1) f (pos + m) (acc ++ base (r : Int)) (J pre) w4 from ⟨t1, hW.1.wide fun k hk => by
                rcases hk with h | h
                · exact (HF0.out k h).1
                · exact Nat.le_trans hBK (Nat.le_trans (Nat.le_of_lt (lt_of_heap HS3.out.iter)) h), t2, t3, hBK⟩)
            clear hW t1 t2 t3 hB0 hF0
            gi_wp2
            go_roundw
            case rel => exact ⟨pos + m, acc ++ base (r : Int), pre, by omega, HS4.out, Lib.hid (by rw [← hHr.out, HC.out, wordsF_yes hcc.out]), by rw [List.length_append]; omega⟩
            case measure =>
              simp only [World.iterPos, HS4.out.iter, HS.out.iter]
              omega
          · have hb1 : (((r : Nat) : Int) == 65533) = false := by simp; omega
            clear hr
            gi_wp2_with (first | (refine ⟨trivial, ?_⟩; gi_at_call 45; refine (callsIn_wide.2 HD.out).mono ?_; rintro e w3 ⟨rfl, hb3⟩; have HS3 := Lib.hid (HS2.out.below (HJ.out pre) hb3); clear hb3) | (refine ⟨trivial, ?_⟩; gi_at_call 61; refine (callsIn_wide.2 (counts_any _ _ (by omega) (by omega))).mono ?_; rintro e w9 ⟨rfl, rfl⟩) | (refine ⟨trivial, ?_⟩; gi_at_call 28; refine (callsIn_wide.2 (base_any _ _ (by omega) (by omega))).mono ?_; rintro e w9 ⟨rfl, rfl⟩))
            obtain ⟨F0, hB0, hF0⟩ := HS3.out.bld.exact
            have HF0 := Lib.hid hF0
            have hbl := (base_len (r : Int)).2
            refine ⟨trivial, ?_⟩
            refine (callsIn_wide.2 (writeString_any _ acc F0 _ _ hB0 (by rw [size_list]; simp only; omega))).mono ?_
            rintro e w4 ⟨rfl, hW⟩
            obtain ⟨t1, t2, t3⟩ := HS3.out.turn (HJ.out pre) H3.out HF0.out hW.2
            have HS4 := Lib.hid (show WSt W.heap.size w1.heap.size (w1.heap.size + 1) f (pos + m) (acc ++ base (r : Int)) (J pre) w4 from ⟨t1, hW.1.wide fun k hk => by
                rcases hk with h | h
                · exact (HF0.out k h).1
                · exact Nat.le_trans hBK (Nat.le_trans (Nat.le_of_lt (lt_of_heap HS3.out.iter)) h), t2, t3, hBK⟩)
            clear hW t1 t2 t3 hB0 hF0
            gi_wp2
            go_roundw
            case rel => exact ⟨pos + m, acc ++ base (r : Int), pre, by omega, HS4.out, Lib.hid (by rw [← hHr.out, HC.out, wordsF_yes hcc.out]), by rw [List.length_append]; omega⟩
            case measure =>
              simp only [World.iterPos, HS4.out.iter, HS.out.iter]
              omega
    · have hnx : ∀ ty, (Instr.next (.pointer (some ⟨w1.heap.size + 1, 0, none⟩)) true ty).run Tryz.prog wr = _ := fun ty => Lib.run_next_end_at wr (w1.heap.size + 1) f pos ty hit hp
      have hdr : f.data.toList.drop pos = [] := List.drop_eq_nil_of_le (by rw [← size_list]; omega)
      have hwe := hHr.out
      rw [hdr, chars_nil] at hwe
      have HWE := Lib.hid hwe
      clear hwe hdr hit
      by_cases ha : acc = []
      · subst ha
        gi_wp2_with (refine ⟨trivial, ?_⟩; gi_at_call 46; refine (callsIn_wide.2 (len_any _ _ _ _ HS.out.bld)).mono ?_; rintro e w9 ⟨rfl, rfl⟩)
        refine bodyPost_end (results_none rfl _ _ _) rfl ?_
        have hw := HWE.out
        simp only [wordsF, List.isEmpty_nil, if_true, List.append_nil] at hw
        exact ⟨⟨_, rfl⟩, .inl ⟨pre, hw, HS.out.inv⟩⟩
      · have hal0 : 0 < acc.length := List.length_pos_iff.2 ha
        gi_wp2_with (refine ⟨trivial, ?_⟩; gi_at_call 46; refine (callsIn_wide.2 (len_any _ _ _ _ HS.out.bld)).mono ?_; rintro e w9 ⟨rfl, rfl⟩)
        obtain ⟨F0, hB0, hF0⟩ := HS.out.bld.exact
        have HF0 := Lib.hid hF0
        refine ⟨trivial, ?_⟩
        refine (callsIn_wide.2 (string_any _ acc F0 _ hB0)).mono ?_
        rintro e w4 ⟨rfl, hR, hE⟩
        obtain ⟨t1, t2, t3⟩ := HS.out.turn (HJ.out pre) H3.out HF0.out hE
        have hw2 : words s.data.toList = pre ++ [acc] := by
          rw [← HWE.out, wordsF, if_neg (by simpa using ha)]
        have hlt : pre.length < (words s.data.toList).length := by rw [hw2, List.length_append, List.length_singleton]; omega
        have HW2 := Lib.hid hw2
        obtain ⟨fn, tmps, assign, body, hy, hRd⟩ := HY.out pre acc w4 t2 hlt
        clear hR hE t1 t2 t3 hB0 hF0 hlt hw2
        gi_wp2
        refine hRd.mono ?_
        rintro e w5 (⟨rfl, hJ5, hk5⟩ | ⟨rfl, hJx5⟩)
        · clear hk5
          gi_wp2
          refine bodyPost_end (results_none rfl _ _ _) rfl ?_
          exact ⟨⟨_, rfl⟩, .inl ⟨_, HW2.out.symm, hJ5⟩⟩
        · gi_wp2
          refine bodyPost_end (results_none rfl _ _ _) rfl ?_
          exact ⟨⟨_, rfl⟩, .inr ⟨_, trivial, hJx5⟩⟩
end Go.Proofs.YthpbdeiphagkiaaGreatDoor
