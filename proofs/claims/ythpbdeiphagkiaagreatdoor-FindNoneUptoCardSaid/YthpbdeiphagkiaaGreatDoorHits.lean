/- find.stands, find.hits. -/
import Derived.Test.YthpbdeiphagkiaaGreatDoorNew
namespace Go.Proofs.YthpbdeiphagkiaaGreatDoor
open Go.RowKit Find

def okAt (c : Cl) (l : List Wd) (k i : Nat) : Bool := l.getD (k + i) [] == c.words.getD i [] || (i + 1 == c.words.length && c.opn && (c.words.getD i []).isPrefixOf (l.getD (k + i) []))
theorem standsB_eq (c : Cl) (l : List Wd) (k : Nat) : standsB c l k = (decide (c.words.length ≤ l.length - k) && (List.range c.words.length).all (okAt c l k)) := rfl
theorem bytes_ne {x y : Wd} (h : x ≠ y) : ((⟨x.toArray⟩ : ByteArray) != ⟨y.toArray⟩) = true := by
  rw [bne, Bool.not_eq_true', Bool.eq_false_iff]
  intro e
  exact h (st_inj (by rw [st, st, (MapKept.bytes_beq _ _).1 e]))
theorem bytes_eq (x : Wd) : ((⟨x.toArray⟩ : ByteArray) != ⟨x.toArray⟩) = false := by
  rw [bne, Bool.not_eq_false']; exact (MapKept.bytes_beq _ _).2 rfl

/-- A clause as a value. -/
def ClIs (w : World) (v : Value) (c : Cl) : Prop := ∃ a cap, v = .agg #[.slice a c.words.length cap, .bool c.no, .bool c.opn] ∧ StrSl w (.slice a c.words.length cap) c.words

set_option maxHeartbeats 2000000 in
set_option maxRecDepth 100000 in
theorem stands_any (c : Cl) (l : List Wd) (k : Nat) (aw al : Option Addr) (cw cl : Nat) (w : World) (hw : StrSl w (.slice aw c.words.length cw) c.words) (hl : StrSl w (.slice al l.length cl) l) (hk : k ≤ l.length) (hn : c.words.length ≤ 1099511627776) (hn2 : l.length ≤ 1099511627776) :
    Calls Tryz.prog 69 #[.agg #[.slice aw c.words.length cw, .bool c.no, .bool c.opn], .slice al l.length cl, .int .i64 k] w fun e w' => e = .returned (.bool (standsB c l k)) ∧ Below w.heap.size w w' := by
  have HWW := Lib.hid hw
  have HLL := Lib.hid hl
  clear hw hl
  have hz3 : Tryz.prog.cellsOf 62 = 3 := by kernel_rfl
  by_cases hfit : c.words.length ≤ l.length - k
  · have hf1 : ¬ ((l.length : Int) - (k : Int) < (c.words.length : Int)) := by omega
    have hst : standsB c l k = (List.range c.words.length).all (okAt c l k) := by rw [standsB_eq, decide_eq_true hfit, Bool.true_and]
    have HST := Lib.hid hst
    clear hst
    go_enter Tryz.func69, Tryz.ntmps69
    go_wp2
    go_loopw [25] (fun q wr => ∃ i : Nat, i ≤ c.words.length ∧ q = .int .i64 i ∧ (∀ j, j < i → okAt c l k j = true) ∧ wr.heap[w.heap.size]? = some (.cells #[.slice aw c.words.length cw, .bool c.no, .bool c.opn] 62 (0, 0)) ∧ Below w.heap.size w wr) (fun q _ => c.words.length - (intOf q).toNat)
    case atStart => exact ⟨0, Nat.zero_le _, rfl, fun j hj => by omega, heap_alloc_new _ _, (Below.refl _ _).alloc (Nat.le_refl _) _⟩
    case round =>
      obtain ⟨i, hi, rfl, hall, hbox, hbw⟩ := hrel
      have HALL := Lib.hid hall
      have b0 : wr.cell? ⟨w.heap.size, 0, none⟩ = some (.slice aw c.words.length cw) := by rw [Lib.cell_of_heap hbox]; rfl
      have b1 : wr.cell? ⟨w.heap.size, 1, none⟩ = some (.bool c.no) := by rw [Lib.cell_of_heap hbox]; rfl
      have b2 : wr.cell? ⟨w.heap.size, 2, none⟩ = some (.bool c.opn) := by rw [Lib.cell_of_heap hbox]; rfl
      have HBOX := Lib.hid hbox
      have HBW := Lib.hid hbw
      clear hall hbox hbw
      by_cases hlt : i < c.words.length
      · have hki : k + i < l.length := by omega
        obtain ⟨gw, ow, hgw, hcw⟩ : ∃ g o, aw = some ⟨g, o, none⟩ ∧ wr.cell? ⟨g, o + i, none⟩ = some (st c.words[i]) := by
          obtain ⟨a, cc, he, hc⟩ := HWW.out.new HBW.out
          obtain ⟨g, o, rfl, hcell⟩ := hc i hlt
          exact ⟨g, o, by simpa using congrArg (fun v => match v with | Value.slice a _ _ => a | _ => none) he, hcell⟩
        obtain ⟨gl, ol, hgl, hcl⟩ : ∃ g o, al = some ⟨g, o, none⟩ ∧ wr.cell? ⟨g, o + (k + i), none⟩ = some (st l[k + i]) := by
          obtain ⟨a, cc, he, hc⟩ := HLL.out.new HBW.out
          obtain ⟨g, o, rfl, hcell⟩ := hc (k + i) hki
          exact ⟨g, o, by simpa using congrArg (fun v => match v with | Value.slice a _ _ => a | _ => none) he, hcell⟩
        subst hgw hgl
        have hok : okAt c l k i = (l[k + i] == c.words[i] || (i + 1 == c.words.length && c.opn && (c.words[i]).isPrefixOf l[k + i])) := by
          unfold okAt
          rw [List.getD_eq_getElem?_getD, List.getElem?_eq_getElem hki, List.getD_eq_getElem?_getD, List.getElem?_eq_getElem hlt]; rfl
        generalize hx : l[k + i] = x at *
        generalize hy : c.words[i] = y at *
        have HOK := Lib.hid hok
        clear hok hx hy
        have hfalse : okAt c l k i = false → standsB c l k = false := fun h => by
          rw [HST.out, List.all_eq_false]
          exact ⟨i, List.mem_range.2 hlt, by simp [h]⟩
        have HF := Lib.hid hfalse
        clear hfalse
        by_cases hxy : x = y
        · subst hxy
          have hb := bytes_eq x
          have hyes : okAt c l k i = true := by rw [HOK.out]; simp
          have HYES := Lib.hid hyes
          clear hyes
          go_wp2
          go_roundw
          case rel => exact ⟨i + 1, by omega, by go_num, fun j hj => (Nat.lt_succ_iff_lt_or_eq.1 hj).elim (HALL.out j) (fun e => by rw [e]; exact HYES.out), HBOX.out, HBW.out⟩
          case measure => simp [intOf] <;> omega
        · have hb := bytes_ne hxy
          have hxy' : (x == y) = false := by simpa using hxy
          by_cases hlast : i + 1 = c.words.length
          · have hl1 : ((i : Int) == (c.words.length : Int) - 1) = true := by rw [beq_iff_eq]; omega
            cases ho : c.opn with
            | false =>
              have HF2 := Lib.hid (HF.out (by rw [HOK.out, hxy', ho]; simp))
              rw [ho] at b2
              clear ho
              go_wp2
              go_ret
              exact ⟨by rw [HF2.out]; rfl, HBW.out⟩
            | true =>
              rw [ho] at b2
              have HO := Lib.hid ho
              clear ho
              have hp := Tryz.strings_HasPrefix ⟨x.toArray⟩ ⟨y.toArray⟩ wr
              rw [show Lib.hasPrefix (⟨x.toArray⟩ : ByteArray).data.toList (⟨y.toArray⟩ : ByteArray).data.toList = y.isPrefixOf x from rfl] at hp
              cases hpf : y.isPrefixOf x with
              | false =>
                rw [hpf] at hp
                have HP := Lib.hid hp
                have HF2 := Lib.hid (HF.out (by rw [HOK.out, hxy', hpf]; simp))
                clear hp hpf
                go_wp2_with (go_at_call 29; refine HP.out.mono ?_; rintro e w9 ⟨rfl, rfl⟩)
                go_ret
                exact ⟨by rw [HF2.out]; rfl, HBW.out⟩
              | true =>
                rw [hpf] at hp
                have HP := Lib.hid hp
                have HYES := Lib.hid (show okAt c l k i = true by rw [HOK.out, HO.out, hpf, hlast]; simp)
                clear hp hpf
                go_wp2_with (go_at_call 29; refine HP.out.mono ?_; rintro e w9 ⟨rfl, rfl⟩)
                go_roundw
                case rel => exact ⟨i + 1, by omega, by go_num, fun j hj => (Nat.lt_succ_iff_lt_or_eq.1 hj).elim (HALL.out j) (fun e => by rw [e]; exact HYES.out), by have := HBOX.out; rwa [HO.out] at this, HBW.out⟩
                case measure => simp [intOf] <;> omega
          · have hl1 : ((i : Int) == (c.words.length : Int) - 1) = false := by rw [beq_eq_false_iff_ne]; omega
            have HF2 := Lib.hid (HF.out (by rw [HOK.out, hxy']; simp [hlast]))
            go_wp2
            go_ret
            exact ⟨by rw [HF2.out]; rfl, HBW.out⟩
      · have HT := Lib.hid (show standsB c l k = true by
          rw [HST.out, List.all_eq_true]
          intro j hj
          exact HALL.out j (by have := List.mem_range.1 hj; omega))
        go_wp2
        go_ret
        exact ⟨by rw [HT.out]; rfl, HBW.out⟩
  · have hf1 : ((l.length : Int) - (k : Int) < (c.words.length : Int)) := by omega
    have hst : standsB c l k = false := by rw [standsB_eq, decide_eq_false hfit, Bool.false_and]
    have HST := Lib.hid hst
    clear hst
    go_enter Tryz.func69, Tryz.ntmps69
    go_wp2
    go_ret
    exact ⟨by rw [HST.out]; rfl, (Below.refl _ _).alloc (Nat.le_refl _) _⟩

theorem hits_take (c : Cl) (l : List Wd) (k : Nat) (h : k < l.length) : (List.range (k + 1)).filter (standsB c l) = (List.range k).filter (standsB c l) ++ (if standsB c l k then [k] else []) := by
  rw [List.range_succ, List.filter_append]
  simp only [List.filter_cons, List.filter_nil]
theorem info_int : (Tryz.prog.info? 3).map (fun i => (i.zero, i.size, i.bytes)) = some (some (.int .i64 0), 1, 8) := by kernel_rfl
def natCells (l : List Nat) : List Value := l.map fun (n : Nat) => Value.int .i64 (n : Int)

set_option maxHeartbeats 2000000 in
set_option maxRecDepth 100000 in
theorem hits_any (c : Cl) (l : List Wd) (aw al : Option Addr) (cw cl : Nat) (w : World) (hw : StrSl w (.slice aw c.words.length cw) c.words) (hl : StrSl w (.slice al l.length cl) l) (hn : c.words.length ≤ 1099511627776) (hn2 : l.length ≤ 1099511627776) :
    Calls Tryz.prog 43 #[.agg #[.slice aw c.words.length cw, .bool c.no, .bool c.opn], .slice al l.length cl] w fun e w' => ∃ v, e = .returned v ∧ w'.ownsRow w.heap.size 3 1 v (hits c l).length (natCells (hits c l)) ∧ Below w.heap.size w w' := by
  have HWW := Lib.hid hw
  have HLL := Lib.hid hl
  clear hw hl
  obtain ⟨i0, hi0, hz0, hz1, hz2⟩ := info_parts info_int
  have hz3 : Tryz.prog.cellsOf 62 = 3 := by kernel_rfl
  go_enter Tryz.func43, Tryz.ntmps43
  go_wp2
  go_loopw [5, 9] (fun v q wr => ∃ k : Nat, k ≤ l.length ∧ q = .int .i64 k ∧ wr.ownsRow w.heap.size 3 1 v ((List.range k).filter (standsB c l)).length (natCells ((List.range k).filter (standsB c l))) ∧ wr.heap[w.heap.size]? = some (.cells #[.slice aw c.words.length cw, .bool c.no, .bool c.opn] 62 (0, 0)) ∧ Below w.heap.size w wr) (fun _ q _ => l.length - (intOf q).toNat)
  case atStart => exact ⟨0, Nat.zero_le _, rfl, World.ownsRow_nil _ _ _ _, heap_alloc_new _ _, (Below.refl _ _).alloc (Nat.le_refl _) _⟩
  case round =>
    obtain ⟨k, hk, rfl, hown, hbox, hbw⟩ := hrel
    have b0 : wr.cell? ⟨w.heap.size, 0, none⟩ = some (.slice aw c.words.length cw) := by rw [Lib.cell_of_heap hbox]; rfl
    have b1 : wr.cell? ⟨w.heap.size, 1, none⟩ = some (.bool c.no) := by rw [Lib.cell_of_heap hbox]; rfl
    have b2 : wr.cell? ⟨w.heap.size, 2, none⟩ = some (.bool c.opn) := by rw [Lib.cell_of_heap hbox]; rfl
    have hfl : ((List.range k).filter (standsB c l)).length ≤ k := by have := List.length_filter_le (standsB c l) (List.range k); rwa [List.length_range] at this
    obtain ⟨av, cv, rfl⟩ := slice_form hown
    have HOWN := Lib.hid hown
    have HBOX := Lib.hid hbox
    have HBW := Lib.hid hbw
    clear hown hbox hbw
    by_cases hlt : k < l.length
    · have hs := stands_any c l k aw al cw cl wr (HWW.out.new HBW.out) (HLL.out.new HBW.out) hk hn hn2
      have ht := hits_take c l k hlt
      cases hst : standsB c l k with
      | false =>
        rw [hst] at hs ht
        have HS := Lib.hid hs
        have HT := Lib.hid ht
        clear hs ht hst
        go_wp2_with (go_at_call 69; refine HS.out.mono ?_; rintro e w1 ⟨rfl, hb1⟩)
        go_roundw
        case rel => exact ⟨k + 1, by omega, by go_num, by rw [HT.out, if_neg (by simp), List.append_nil]; exact owns_new HOWN.out hb1, (hb1.block _ (lt_of_heap HBOX.out)).trans HBOX.out, HBW.out.trans (hb1.mono HBW.out.size)⟩
        case measure => simp [intOf] <;> omega
      | true =>
        rw [hst] at hs ht
        have HS := Lib.hid hs
        have HT := Lib.hid ht
        clear hs ht hst
        have hbs := HBW.out.size
        have lb := lt_of_heap HBOX.out
        go_wp2_with (first | (go_at_call 69; refine HS.out.mono ?_; rintro e w1 ⟨rfl, hb1⟩; have hz1' := hb1.size; have hown1 := owns_new HOWN.out hb1) | (at_builtin; refine wpList_append_lies _ rfl _ _ 75 rfl w.heap.size 3 i0 (.int .i64 0) 1 8 Tryz.underlying75 hi0 hz0 hz1 hz2 rfl (by omega) _ _ _ rfl (hown1.alloc _) ⟨w1.heap.size, 0, none⟩ 1 1 [.int .i64 k] rfl rfl (cell_one_new _ _ _) (by simp [Value.oneCell']) (by omega) (by unfold maxLen; omega) (by omega) (by simp; omega) _ rfl ?_; intro g cap w2 hown2 hgrow hat hlt2))
        go_roundw
        case rel =>
          refine ⟨k + 1, by omega, by go_num, by rw [HT.out, if_pos trivial, List.length_append, natCells, List.map_append]; exact hown2, ?_, ?_⟩
          · have hne : some w.heap.size ≠ Value.ownBlock (.slice av ((List.range k).filter (standsB c l)).length cv) := fun e => by
              obtain ⟨c', hc'⟩ := owns_kind HOWN.out _ e.symm; rw [HBOX.out] at hc'; cases hc'
            rw [hgrow.block _ (by simp; omega) hne, Below.heap_alloc _ _ _ (by omega)]
            exact (hb1.block _ lb).trans HBOX.out
          · exact ((HBW.out.trans (hb1.mono hbs)).alloc (by omega) _).grown hgrow (by simp; omega) (fun j hj => (HOWN.out.lt j hj).1)
        case measure => simp [intOf] <;> omega
    · have hkl : k = l.length := by omega
      subst hkl
      go_wp2
      go_ret
      exact ⟨_, rfl, HOWN.out, HBW.out⟩
end Go.Proofs.YthpbdeiphagkiaaGreatDoor
