/- folioref09.Rise, topics. -/
import Derived.Test.YthpbdeiphagkiaaDoorLaw1
import Derived.Laws.OwnMore
namespace Go.Proofs.YthpbdeiphagkiaaDoor
open Go.RowKit Find

theorem sorted_mid {l : List Int} {n : Int} {k : Nat} (hs : l.Pairwise (· < ·)) (hn : n ∉ l) (hgt : ∀ x ∈ l.drop k, n < x) (hlo : ∀ x ∈ l.take k, x < n) : (l.take k ++ n :: l.drop k).Pairwise (· < ·) := by
  refine List.pairwise_append.2 ⟨hs.sublist (List.take_sublist _ _), List.pairwise_cons.2 ⟨hgt, hs.sublist (List.drop_sublist _ _)⟩, fun a ha b hb => ?_⟩
  rcases List.mem_cons.1 hb with rfl | hb
  · exact hlo a ha
  · have := hlo a ha; have := hgt b hb; omega
theorem mem_mid {l : List Int} {n : Int} {k : Nat} (t : Int) : t ∈ l.take k ++ n :: l.drop k ↔ t ∈ l ∨ t = n := by
  rw [List.mem_append, List.mem_cons]
  have : t ∈ l ↔ t ∈ l.take k ∨ t ∈ l.drop k := by
    rw [← List.mem_append, List.take_append_drop]
  rw [this]
  constructor
  · rintro (h | h | h)
    · exact .inl (.inl h)
    · exact .inr h
    · exact .inl (.inr h)
  · rintro ((h | h) | h)
    · exact .inl h
    · exact .inr (.inr h)
    · exact .inr (.inl h)
theorem take_lt {l : List Int} {n : Int} {k : Nat} (hs : l.Pairwise (· < ·)) (hn : n ∉ l) (hk : k ≤ l.length) (h : k = 0 ∨ ∃ h : k - 1 < l.length, ¬ (n < l[k - 1])) : ∀ x ∈ l.take k, x < n := by
  intro x hx
  rcases h with rfl | ⟨h1, h2⟩
  · simp at hx
  · obtain ⟨i, hi, rfl⟩ := List.mem_iff_getElem.1 hx
    rw [List.length_take] at hi
    rw [List.getElem_take]
    have hne : l[k - 1] ≠ n := fun e => hn (by rw [← e]; exact List.getElem_mem h1)
    by_cases e : i = k - 1
    · subst e; omega
    · have := List.pairwise_iff_getElem.1 hs i (k - 1) (by omega) h1 (by omega)
      omega

/-- What Rise tells. -/
def RisePost (l : List Int) (n : Int) (w : World) (e : Ending) (w' : World) : Prop :=
  ∃ v R, e = .returned v ∧ R.Pairwise (· < ·) ∧ (∀ t, t ∈ R ↔ t ∈ l ∨ t = n) ∧ R.length ≤ l.length + 1 ∧ R ≠ [] ∧ IntRow w' v R ∧ Below w.heap.size w w'

theorem RisePost.drewN {l : List Int} {n : Int} {w w' : World} {e : Ending} (h : RisePost l n w e w') (q : Nat) : RisePost l n w e (w'.drewN q) := by
  obtain ⟨v, R, h1, h2, h3, h4, h5, h6, h7⟩ := h
  exact ⟨v, R, h1, h2, h3, h4, h5, h6, below_drewN h7 q⟩
theorem mid_get {l : List Int} {n : Int} {j : Nat} (hj : j < l.length) : (intCells (l.take (j + 1) ++ n :: l.drop (j + 1)))[j]? = some (.int .i64 l[j]) ∧ (intCells (l.take (j + 1) ++ n :: l.drop (j + 1)))[j + 1]? = some (.int .i64 n) ∧
    ((intCells (l.take (j + 1) ++ n :: l.drop (j + 1))).set j (.int .i64 n)).set (j + 1) (.int .i64 l[j]) = intCells (l.take j ++ n :: l.drop j) := by
  have ht : l.take (j + 1) = l.take j ++ [l[j]] := List.take_succ_eq_append_getElem hj
  have hd : l.drop j = l[j] :: l.drop (j + 1) := List.drop_eq_getElem_cons hj
  have hl : (intCells (l.take j)).length = j := by simp [intCells]; omega
  have e1 : intCells (l.take (j + 1) ++ n :: l.drop (j + 1)) = intCells (l.take j) ++ [.int .i64 l[j], .int .i64 n] ++ intCells (l.drop (j + 1)) := by
    rw [ht]; simp only [intCells, List.map_append, List.map_cons, List.map_nil, List.append_assoc, List.cons_append, List.nil_append]
  have e2 : intCells (l.take j ++ n :: l.drop j) = intCells (l.take j) ++ [.int .i64 n, .int .i64 l[j]] ++ intCells (l.drop (j + 1)) := by
    rw [hd]; simp only [intCells, List.map_append, List.map_cons, List.map_nil, List.append_assoc, List.cons_append, List.nil_append]
  rw [e1, e2]
  generalize intCells (l.take j) = A at *
  generalize intCells (l.drop (j + 1)) = B at *
  subst hl
  refine ⟨?_, ?_, ?_⟩
  · rw [List.append_assoc, List.getElem?_append_right (Nat.le_refl _)]; simp
  · rw [List.append_assoc, List.getElem?_append_right (by omega)]; simp
  · rw [List.append_assoc, List.set_append_right _ _ (Nat.le_refl _), List.set_append_right _ _ (by omega)]
    simp

set_option maxHeartbeats 4000000 in
set_option maxRecDepth 100000 in
theorem rise_any (l : List Int) (n : Int) (a : Option Addr) (c : Nat) (w : World) (h : IntRow w (.slice a l.length c) l) (hnil : l = [] → a = none ∧ c = 0) (hn : l.length ≤ 1099511627776) (hs : l.Pairwise (· < ·)) :
    Calls Tryd.prog 20 #[.slice a l.length c, .int .i64 n] w (RisePost l n w) := by
  obtain ⟨i0, hi0, hz0, hz1, hz2⟩ := info_parts info_int
  have H := Lib.hid h
  have HSO := Lib.hid hs
  have HNIL := Lib.hid hnil
  clear h hs hnil
  go_enter Tryd.func20, Tryd.ntmps20
  go_wp2_with fail
  go_loopw [11] (fun q wr => ∃ k : Nat, k ≤ l.length ∧ q = .int .i64 k ∧ Hid (n ∉ l.take k) ∧ w = wr) (fun q _ => l.length - (intOf q).toNat)
  case atStart => exact ⟨0, Nat.zero_le _, rfl, Lib.hid (by simp), rfl⟩
  case round =>
    obtain ⟨k, hk, rfl, hno, rfl⟩ := hrel
    by_cases hlt : k < l.length
    · obtain ⟨g, rfl, hcell⟩ := H.out.at_ hlt
      have htk : l.take (k + 1) = l.take k ++ [l[k]] := List.take_succ_eq_append_getElem hlt
      have hmem : l[k] ∈ l := List.getElem_mem hlt
      generalize l[k] = y at *
      have HTK := Lib.hid htk
      have HM := Lib.hid hmem
      clear htk hmem
      by_cases hxy : y = n
      · have hb : (y == n) = true := by simpa using hxy
        have HXY := Lib.hid hxy
        clear hxy
        go_wp2_with fail
        go_ret
        exact ⟨_, l, rfl, HSO.out, fun t => ⟨.inl, fun h => h.elim id (fun e => by rw [e, ← HXY.out]; exact HM.out)⟩, by omega, fun e => by rw [e] at hlt; simp at hlt, H.out, Below.refl _ _⟩
      · have hb : (y == n) = false := by simpa using hxy
        go_wp2_with fail
        go_roundw
        case rel => exact ⟨k + 1, by omega, by go_num, Lib.hid (by rw [HTK.out]; simp; exact ⟨hno.out, fun e => hxy e.symm⟩), (by first | rfl | trivial)⟩
        case measure => simp [intOf] <;> omega
    · have HN := Lib.hid (show n ∉ l from by have := hno.out; rwa [List.take_of_length_le (by omega)] at this)
      clear hno
      go_upto_region 7 with fail
      go_cut [7] (fun s7 wx => ∃ (gg cap : Nat), s7 = .slice (some ⟨gg, 0, none⟩) (l.length + 1) cap ∧ wx.ownsRow w.heap.size 3 1 (.slice (some ⟨gg, 0, none⟩) (l.length + 1) cap) (l.length + 1) (intCells (l ++ [n])) ∧ Below w.heap.size w wx)
      case first =>
        by_cases h0 : l.length = 0
        · have hl : l = [] := List.eq_nil_of_length_eq_zero h0
          obtain ⟨rfl, rfl⟩ := HNIL.out hl
          subst hl
          simp only [List.length_nil] at *
          go_wp2_with (first | (at_builtin; refine wpList_append_own_none rfl (.const (.slice none 0 0)) (.tmp 20) 32 rfl w.heap.size 3 i0 1 Tryd.underlying32 hi0 (.slice none 0 0) 0 [] rfl (World.ownsRow_nil _ _ _ _) rfl ?_) | (at_builtin; refine wpList_append_lies _ rfl (.tmp 21) (.tmp 23) 32 rfl w.heap.size 3 i0 _ 1 8 Tryd.underlying32 hi0 hz0 hz1 hz2 rfl (by omega) (.slice none 0 0) 0 [] rfl (World.ownsRow_nil _ _ _ _) ⟨w.heap.size, 0, none⟩ 1 1 [.int .i64 n] rfl rfl (cell_one_new _ _ _) (by simp [Value.oneCell']) (by omega) (by unfold maxLen; omega) (by omega) (by simp) _ rfl ?_; intro gg cap w4 hown4 hgrow hat hlt4))
          go_meet
          exact ⟨gg, cap, rfl, by simpa [intCells] using hown4, ((Below.refl w.heap.size w).alloc (Nat.le_refl _) _).grown hgrow (by simp) (fun j hj => by cases hj)⟩
        · obtain ⟨g, rfl, _⟩ := H.out.at_ (k := 0) (by omega)
          have HNW := Lib.hid (show ∀ j u, (intCells l)[j]? = some u → w.cell? ((⟨g, 0, none⟩ : Addr).add j) = some u from fun j u hu => by
            unfold intCells at hu
            rw [List.getElem?_map] at hu
            obtain ⟨x, hx, rfl⟩ := Option.map_eq_some_iff.1 hu
            obtain ⟨hj, hxe⟩ := List.getElem?_eq_some_iff.1 hx
            obtain ⟨g', he, hcell⟩ := H.out.at_ hj
            simp only [Option.some.injEq, Addr.mk.injEq] at he
            obtain ⟨rfl, _⟩ := he
            rw [add_none, Nat.zero_add, hcell, hxe])
          have hil : (intCells l).length = l.length := by simp [intCells]
          have HIL := Lib.hid hil
          clear hil
          go_wp2_with (first | (at_builtin; refine wpList_append_lies _ rfl (.const (.slice none 0 0)) (.tmp 20) 32 rfl w.heap.size 3 i0 _ 1 8 Tryd.underlying32 hi0 hz0 hz1 hz2 rfl (by omega) (.slice none 0 0) 0 [] rfl (World.ownsRow_nil _ _ _ _) ⟨g, 0, none⟩ l.length c (intCells l) rfl (by rw [HIL.out, Nat.mul_one]) HNW.out (by simp [intCells, Value.oneCell']) (by omega) (by unfold maxLen; omega) (by omega) (Nat.le_refl _) _ rfl ?_; intro g3 cap3 w3 hown3 hgrow3 hat3 hlt3; simp only [Nat.zero_add, List.nil_append] at hown3; have HO3 := Lib.hid hown3; have HG3 := Lib.hid ((Below.refl w.heap.size w).grown hgrow3 (Nat.le_refl _) (fun j hj => by cases hj)); have hs3 := HG3.out.size; clear hown3 hgrow3 hat3; simp only [Nat.zero_add]) | (at_builtin; refine wpList_append_lies _ rfl (.tmp 21) (.tmp 23) 32 rfl w.heap.size 3 i0 _ 1 8 Tryd.underlying32 hi0 hz0 hz1 hz2 rfl (by omega) (.slice (some ⟨g3, 0, none⟩) l.length cap3) l.length (intCells l) rfl (HO3.out.alloc _) ⟨w3.heap.size, 0, none⟩ 1 1 [.int .i64 n] rfl rfl (cell_one_new _ _ _) (by simp [Value.oneCell']) (by omega) (by unfold maxLen; omega) (by omega) (by simp; omega) _ rfl ?_; intro gg cap w4 hown4 hgrow hat hlt4))
          go_meet
          refine ⟨gg, cap, rfl, ?_, (HG3.out.alloc hs3 _).grown hgrow (by simp; omega) (fun j hj => (HO3.out.lt j hj).1)⟩
          have e : intCells (l ++ [n]) = intCells l ++ [.int .i64 n] := by simp [intCells]
          rw [e]; exact hown4
      case rest =>
        obtain ⟨gg, cap, rfl, hown, hb⟩ := hcut
        have HOWN := Lib.hid hown
        have HB := Lib.hid hb
        clear hown hb
        go_wp2_with fail
        go_loopw [8] (fun q wr => ∃ k : Nat, k ≤ l.length ∧ q = .int .i64 k ∧ wr.ownsRow w.heap.size 3 1 (.slice (some ⟨gg, 0, none⟩) (l.length + 1) cap) (l.length + 1) (intCells (l.take k ++ n :: l.drop k)) ∧ Hid (∀ x ∈ l.drop k, n < x) ∧ Below w.heap.size w wr) (fun q _ => (intOf q).toNat)
        case atStart => exact ⟨l.length, Nat.le_refl _, rfl, by rw [List.take_length, List.drop_length]; exact HOWN.out, Lib.hid (by simp), HB.out⟩
        case round =>
          obtain ⟨k, hk, rfl, hown, hgt, hbw⟩ := hrel
          have HR := Lib.hid hown
          have HBW := Lib.hid hbw
          clear hown hbw
          have hend : (k = 0 ∨ ∃ h : k - 1 < l.length, ¬ (n < l[k - 1])) → RisePost l n w (.returned (.slice (some ⟨gg, 0, none⟩) (l.length + 1) cap)) wr := fun hlo => by
            have hlen : (l.take k ++ n :: l.drop k).length = l.length + 1 := by
              rw [List.length_append, List.length_cons, List.length_take, List.length_drop]; omega
            refine ⟨_, l.take k ++ n :: l.drop k, rfl, sorted_mid HSO.out HN.out hgt.out (take_lt HSO.out HN.out hk hlo), mem_mid, by rw [hlen]; exact Nat.le_refl _, by simp, ?_, HBW.out⟩
            unfold IntRow
            rw [hlen]
            exact owns_zero HR.out
          have HEND := Lib.hid hend
          clear hend
          by_cases hk0 : k = 0
          · subst hk0
            have HE := Lib.hid (HEND.out (.inl rfl))
            go_wp2_with fail
            go_quiet (fail)
            go_wp2_with fail
            go_ret
            exact HE.out.drewN _
          · obtain ⟨j, rfl⟩ : ∃ j, k = j + 1 := ⟨k - 1, by omega⟩
            have hj : j < l.length := by omega
            obtain ⟨m1, m2, m3⟩ := mid_get (n := n) hj
            have c1 := HR.out.cells (g := gg) rfl j _ m1
            have c2 := HR.out.cells (g := gg) rfl (j + 1) _ m2
            rw [add_none, Nat.zero_add] at c1 c2
            have f1 := HR.out.frozenAt j
            have f2 := HR.out.frozenAt (j + 1)
            have hend2 : ¬ (n < l[j]) → RisePost l n w (.returned (.slice (some ⟨gg, 0, none⟩) (l.length + 1) cap)) wr := fun h => HEND.out (.inr ⟨by simpa using hj, by simpa using h⟩)
            have hgt2 : n < l[j] → ∀ x ∈ l.drop j, n < x := fun h x hx => by
              rw [List.drop_eq_getElem_cons hj] at hx
              rcases List.mem_cons.1 hx with rfl | hx
              · exact h
              · exact hgt.out x hx
            have hst := HR.out.stored j (.int .i64 n)
            have hst2 := hst.1.stored (j + 1) (.int .i64 l[j])
            rw [m3] at hst2
            have hgg := (HR.out.lt gg rfl).1
            have HBX := Lib.hid ((HBW.out.grown hst.2 HBW.out.size (fun q hq => by cases hq; exact hgg)).grown hst2.2 (by simp only [World.setCell, Array.size_modify]; exact HBW.out.size) (fun q hq => by cases hq; exact hgg))
            have HRX := Lib.hid hst2.1
            generalize hy : l[j] = y at *
            have HE2 := Lib.hid hend2
            have HG2 := Lib.hid hgt2
            have e1 : IntKind.i64.wrap ((j : Int) + 1 - 1) = (j : Int) := by rw [Int.add_sub_cancel]; exact IntWalk.i64_in _ (by omega)
            have hji : (0 : Int) < (j : Int) + 1 := by omega
            clear m1 m2 m3 hst hst2 hend2 hgt2 hy
            by_cases hgy : n < y
            · have hd1 : decide (n < y) = true := decide_eq_true hgy
              have HG3 := Lib.hid (HG2.out hgy)
              go_wp2_with fail
              go_quiet (fail)
              go_wp2_with fail
              go_region
              all_goals
                go_wp2_with fail
                go_roundw
                case rel => exact ⟨j, by omega, by first | rfl | go_num, HRX.out, HG3, below_drewN HBX.out _⟩
                case measure => simp [intOf]
            · have hd1 : decide (n < y) = false := decide_eq_false hgy
              have HE3 := Lib.hid (HE2.out hgy)
              go_wp2_with fail
              go_quiet (fail)
              go_wp2_with fail
              go_ret
              exact HE3.out.drewN _

/-- What topics tells. -/
def TopPost (R : List Fnd) (w : World) (e : Ending) (w' : World) : Prop := ∃ a c T, e = .returned (.slice a T.length c) ∧ Rises T (R.map (·.topic)) ∧ T.length ≤ R.length ∧ (T = [] → a = none ∧ c = 0) ∧ IntRow w' (.slice a T.length c) T ∧ Below w.heap.size w w'
set_option maxHeartbeats 4000000 in
set_option maxRecDepth 100000 in
theorem topics_any (R : List Fnd) (a : Option Addr) (c : Nat) (w : World) (h : FndSl w (.slice a R.length c) R) (hn : R.length ≤ 1000000000) :
    Calls Tryd.prog 13 #[.slice a R.length c] w (TopPost R w) := by
  have hz4 : Tryd.prog.cellsOf 48 = 3 := by kernel_rfl
  have H := Lib.hid h
  clear h
  go_enter Tryd.func13, Tryd.ntmps13
  go_wp2_with fail
  go_loopw [3, 8] (fun v q wr => ∃ (k : Nat) (av : Option Addr) (cv : Nat) (T : List Int), k ≤ R.length ∧ q = .int .i64 k ∧ v = .slice av T.length cv ∧ Hid (Rises T ((R.take k).map (·.topic))) ∧ T.length ≤ k ∧ Hid (T = [] → av = none ∧ cv = 0) ∧ Hid (IntRow wr (.slice av T.length cv) T) ∧ Hid (Below w.heap.size w wr)) (fun _ q _ => R.length - (intOf q).toNat)
  case atStart => exact ⟨0, none, 0, [], Nat.zero_le _, rfl, rfl, Lib.hid ⟨List.Pairwise.nil, by simp⟩, by simp, Lib.hid fun _ => ⟨rfl, rfl⟩, Lib.hid (World.ownsRow_nil _ _ _ _), Lib.hid (Below.refl _ _)⟩
  case round =>
    obtain ⟨k, av, cv, T, hk, rfl, rfl, hri, hTk, hnil, hrow, hbw⟩ := hrel
    by_cases hlt : k < R.length
    · obtain ⟨g, hg, c0, c1, c2⟩ : ∃ g, a = some ⟨g, 0, none⟩ ∧ wr.cell? ⟨g, k * 3, none⟩ = some (.int .i64 R[k].topic) ∧ wr.cell? ⟨g, k * 3 + 1, none⟩ = some (.int .i64 R[k].score) ∧ wr.cell? ⟨g, k * 3 + 2, none⟩ = some (.int .i64 R[k].place) := by
        obtain ⟨a', cc, he, hc⟩ := H.out.new hbw.out
        obtain ⟨g, hg, h0, h1, h2⟩ := hc k hlt
        refine ⟨g, ?_, h0, h1, h2⟩
        have := congrArg (fun v => match v with | Value.slice a _ _ => a | _ => none) he
        simp only at this
        rw [this]; exact hg
      subst hg
      have htk : (R.take (k + 1)).map (·.topic) = (R.take k).map (·.topic) ++ [R[k].topic] := by rw [List.take_succ_eq_append_getElem hlt, List.map_append]; rfl
      generalize R[k] = x at *
      have HTK := Lib.hid htk
      clear htk
      have HRI := Lib.hid (show ∀ W, Below wr.heap.size wr W → Calls Tryd.prog 20 #[.slice av T.length cv, .int .i64 x.topic] W (RisePost T x.topic W) from fun W hW => rise_any T x.topic av cv W (hrow.out.new hW) hnil.out (by omega) hri.out.1)
      have HBA := Lib.hid ((Below.refl wr.heap.size wr).alloc (Nat.le_refl _) (.cells #[.int .i64 x.topic, .int .i64 x.score, .int .i64 x.place] 48))
      have hbz := hbw.out.size
      go_wp2_with (go_at_call 20; refine (HRI.out _ HBA.out).mono ?_; rintro e w2 ⟨v2, R2, rfl, hs2, hm2, hl2, hn2, hr2, hb2⟩; obtain ⟨a2, c2', rfl⟩ := hr2.form; have S2 := Lib.hid hs2; have M2 := Lib.hid hm2; have N2 := Lib.hid hn2; have R2' := Lib.hid hr2; have B2 := Lib.hid (HBA.out.trans (hb2.mono HBA.out.size)); clear hs2 hm2 hn2 hr2 hb2)
      go_roundw
      case rel =>
        refine ⟨k + 1, a2, c2', R2, by omega, by go_num, rfl, Lib.hid ⟨S2.out, fun t => ?_⟩, by omega, Lib.hid fun h => absurd h N2.out, R2', Lib.hid (hbw.out.trans (B2.out.mono hbz))⟩
        rw [M2.out, HTK.out, List.mem_append, List.mem_singleton, hri.out.2]
      case measure => simp [intOf] <;> omega
    · have HRI := Lib.hid (show Rises T (R.map (·.topic)) from by have := hri.out; rwa [List.take_of_length_le (by omega)] at this)
      go_wp2_with fail
      go_ret
      exact ⟨av, cv, T, rfl, HRI.out, by omega, hnil.out, hrow.out, hbw.out⟩
end Go.Proofs.YthpbdeiphagkiaaDoor
