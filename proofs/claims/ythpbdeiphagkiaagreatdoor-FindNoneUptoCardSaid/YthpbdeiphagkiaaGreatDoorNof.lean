/- A range over a map that nobody made. -/
import Derived.Test.YthpbdeiphagkiaaGreatDoorScoresW
namespace Go.Proofs.YthpbdeiphagkiaaGreatDoor
open Go.RowKit Find Go.MapKept
theorem run_range_nil (w : World) : (Instr.range 28 (.map none)).run Tryz.prog w = .ok (.pointer (some ⟨w.heap.size, 0, none⟩)) (w.alloc (.mapIter none 0 #[] 0)) := by
  simp [Instr.range, go_sem, Tryz.underlying28]
theorem run_next_nil (w : World) (r : Nat) (h : w.heap[r]? = some (.mapIter none 0 #[] 0)) (ty : TypeId) : (Instr.next (.pointer (some ⟨r, 0, none⟩)) false ty).run Tryz.prog w = .ok (.tuple #[.bool false]) w := by
  simp [Instr.next, getObj, Sem.run, h]
theorem run_look_nil (x : Wd) (w : World) : (Instr.lookup 28 (.map none) (st x) false).run Tryz.prog w = .ok (.slice none 0 0) w := by
  have hz : ∀ w, (zeroValue 89).run Tryz.prog w = .ok (.slice none 0 0) w := fun w => by kernel_rfl
  have hik : IsKey .string (st x) := trivial
  simp [Instr.lookup, Instr.findKey, Instr.findNow, run_underlying Tryz.underlying28, run_underlying Tryz.underlying9, run_checkKey Tryz.underlying9 hik, hz, Result.andThen]
end Go.Proofs.YthpbdeiphagkiaaGreatDoor
/- The finder that nobody made, and the one without topics: Ask, Count, Beginning. -/
namespace Go.Proofs.YthpbdeiphagkiaaGreatDoor
open Go.RowKit Find

theorem sorts_none (w : World) : Calls Tryz.prog 30 #[.slice none 0 0] w fun e w' => e = .returned (.tuple #[]) ∧ w = w' := by
  refine (Any.slices_Sort_string_none Tryz.lays190 none 0 w).mono ?_
  rintro e w' ⟨rfl, rfl⟩
  exact ⟨rfl, rfl⟩
set_option maxHeartbeats 8000000 in
set_option maxRecDepth 100000 in
theorem begin_zero (b : Nat) (vl : Value) (s : ByteArray) (w : World) (hT : Tabs w) (hs : s.size ≤ 1099511627) (hf : w.heap[b]? = some (.cells #[.int .i64 0, vl, .map none] 30 (0, 0))) :
    Calls Tryz.prog 11 #[.pointer (some ⟨b, 0, none⟩), .string s] w fun e w' => ∃ a c, e = .returned (.slice a 0 c) ∧ Below w.heap.size w w' := by
  have HFI := Lib.hid hf
  have HT := Lib.hid hT
  have h3 := hT.lt
  have H3 := Lib.hid h3
  clear hf hT h3
  have HJ := Lib.hid (below_stays w.heap.size w (Nat.le_refl _))
  obtain ⟨i0, hi0, hz0, hz1, hz2⟩ := info_parts info_str
  have hb0 := Bld.fresh w (fun k => w.heap.size ≤ k) (Nat.le_refl _)
  have he0 := (Below.refl w.heap.size w).alloc (Nat.le_refl _) (.cells #[.pointer none, .slice none 0 0] 73)
  have HB0 := Lib.hid hb0
  have HE0 := Lib.hid he0
  have HF0 := Lib.hid (fold_any s (w.alloc (.cells #[.pointer none, .slice none 0 0] 73)) (HT.out.alloc _) (by omega))
  clear hb0 he0
  go_enter Tryz.func11, Tryz.ntmps11
  go_wp2_with (go_at_call 27; refine HF0.out.mono ?_; rintro e w1 ⟨rfl, hb1⟩; have HB1 := Lib.hid (HB0.out.keep fun b _ hb => hb1.block b hb); have HT1 := Lib.hid ((HT.out.alloc _).below hb1); have HE1 := Lib.hid (HE0.out.trans (hb1.mono HE0.out.size)); have hzz := hb1.size; clear hb1)
  obtain ⟨f, hf⟩ : ∃ f : ByteArray, f = ⟨(fold s.data.toList).toArray⟩ := ⟨_, rfl⟩
  have hfl : f.data.toList = fold s.data.toList := by rw [hf]
  have hstart : (chars f.data.toList).flatMap (fun c => base c.1) = Find.start s.data.toList := by rw [hfl]; rfl
  have hfs : f.size ≤ 5 * s.size := by rw [size_list, hfl, size_list s]; exact fold_len _
  rw [← hf]
  have HW := Lib.hid hstart
  clear hstart hf hfl
  rw [World.size_alloc] at hzz
  have hBK : w.heap.size ≤ w1.heap.size := by omega
  go_loopw [] (fun wr => ∃ (pos : Nat) (acc : Wd), pos ≤ f.size ∧ WSt w.heap.size w.heap.size w1.heap.size f pos acc (fun W => Below w.heap.size w W) wr ∧ Hid (acc ++ (chars (f.data.toList.drop pos)).flatMap (fun c => base c.1) = Find.start s.data.toList) ∧ acc.length ≤ 4 * pos) (fun wr => f.size - wr.iterPos w1.heap.size)
  case atStart =>
    refine ⟨0, [], Nat.zero_le _, ⟨World.iter_heap w1 f 0, HB1.out.alloc _, HE1.out.alloc hBK _, HT1.out.alloc _, hBK⟩, Lib.hid (by rw [List.drop_zero]; exact HW.out), by simp⟩
  case round =>
    obtain ⟨pos, acc, hpos, hS, hHr, hal⟩ := hrel
    have HS := Lib.hid hS
    have hit := hS.iter
    clear hS
    by_cases hp : pos < f.size
    · have hnx : ∀ ty, (Instr.next (.pointer (some ⟨w1.heap.size, 0, none⟩)) true ty).run Tryz.prog wr = _ := fun ty => Lib.run_next_any_at wr w1.heap.size f pos ty hit hp
      have hch := chars_at f pos hp
      obtain ⟨hr1, hr2⟩ := decL_hi (f.data.toList.drop pos)
      have hn := decL_len (f.data.toList.drop pos) (by intro e; have := congrArg List.length e; rw [List.length_drop, ← size_list] at this; simp at this; omega)
      rw [List.length_drop, ← size_list] at hn
      rw [decode_eq] at hnx
      have HS2 := Lib.hid (HS.out.next HJ.out hBK H3.out (pos + (decL (f.data.toList.drop pos)).2))
      generalize hr : (decL (f.data.toList.drop pos)).1 = r at *
      generalize hnn : (decL (f.data.toList.drop pos)).2 = m at *
      have HC := Lib.hid hch
      clear hch hr hnn hit
      go_wp2_with (go_at_call 28; refine (base_any _ _ (by omega) (by omega)).mono ?_; rintro e w9 ⟨rfl, rfl⟩)
      obtain ⟨F0, hB0, hF0⟩ := HS2.out.bld.exact
      have HF0 := Lib.hid hF0
      have hbl := (base_len (r : Int)).2
      refine (writeString_any _ acc F0 _ _ hB0 (by rw [size_list]; simp only; omega)).mono ?_
      rintro e w4 ⟨rfl, hW⟩
      obtain ⟨t1, t2, t3⟩ := HS2.out.turn HJ.out H3.out HF0.out hW.2
      have HS4 := Lib.hid (show WSt w.heap.size w.heap.size w1.heap.size f (pos + m) (acc ++ base (r : Int)) (fun W => Below w.heap.size w W) w4 from ⟨t1, hW.1.wide fun k hk => by
          rcases hk with h | h
          · exact (HF0.out k h).1
          · exact Nat.le_trans hBK (Nat.le_trans (Nat.le_of_lt (lt_of_heap HS2.out.iter)) h), t2, t3, hBK⟩)
      clear hW t1 t2 t3 hB0 hF0
      go_wp2
      go_roundw
      case rel => exact ⟨pos + m, acc ++ base (r : Int), by omega, HS4.out, Lib.hid (by rw [← hHr.out, HC.out, List.flatMap_cons, List.append_assoc]), by rw [List.length_append]; omega⟩
      case measure =>
        simp only [World.iterPos, HS4.out.iter, HS.out.iter]
        omega
    · have hnx : ∀ ty, (Instr.next (.pointer (some ⟨w1.heap.size, 0, none⟩)) true ty).run Tryz.prog wr = _ := fun ty => Lib.run_next_end_at wr w1.heap.size f pos ty hit hp
      have hdr : f.data.toList.drop pos = [] := List.drop_eq_nil_of_le (by rw [← size_list]; omega)
      have hwe := hHr.out
      rw [hdr, chars_nil, List.flatMap_nil, List.append_nil] at hwe
      have HACC := Lib.hid hwe
      clear hwe hdr hit hHr HW
      have HFB := Lib.hid ((HS.out.inv.block b (lt_of_heap HFI.out)).trans HFI.out)
      have cb2 : wr.cell? ⟨b, 2, none⟩ = some (.map none) := by rw [Lib.cell_of_heap HFB.out]; rfl
      have HBW := Lib.hid HS.out.inv
      have hrn := run_range_nil wr
      have HW2 := Lib.hid (HBW.out.alloc HBW.out.size (.mapIter none 0 #[] 0))
      have HIT := Lib.hid (heap_alloc_new wr (.mapIter none 0 #[] 0))
      go_wp2_with fail
      clear hrn
      have hnn := fun ty => run_next_nil (wr.alloc (.mapIter none 0 #[] 0)) wr.heap.size HIT.out ty
      go_loopw [8] (fun v W2 => v = .slice none 0 0 ∧ W2 = wr.alloc (.mapIter none 0 #[] 0)) (fun _ _ => 0)
      case atStart => exact ⟨rfl, rfl⟩
      case round =>
        obtain ⟨rfl, rfl⟩ := hrel
        go_wp2_with (go_at_call 30; refine (sorts_none _).mono ?_; rintro e w' ⟨rfl, rfl⟩)
        go_ret
        exact ⟨none, 0, rfl, HW2.out⟩
end Go.Proofs.YthpbdeiphagkiaaGreatDoor
/- The finder that nobody made, and the one without topics: Ask, Count, Search. -/
namespace Go.Proofs.YthpbdeiphagkiaaGreatDoor
open Go.RowKit Find

/-- The zero finder. -/
def FinderZ (w : World) (b : Nat) : Prop := w.heap[b]? = some (.cells #[.int .i64 0, .slice none 0 0, .map none] 30 (0, 0))
theorem FinderZ.new {w w' : World} {b : Nat} (h : FinderZ w b) (hb : Below w.heap.size w w') : FinderZ w' b := (hb.block b (lt_of_heap h)).trans h
/-- Nothing is told. -/
def NonePost (w : World) (e : Ending) (w' : World) : Prop := ∃ a c, e = .returned (.slice a 0 c) ∧ Below w.heap.size w w'
set_option maxHeartbeats 8000000 in
set_option maxRecDepth 100000 in
theorem ask_zero (cs : List Cl) (b : Nat) (al : Option Addr) (cl : Nat) (w : World) (hf : FinderZ w b) (hcs : ClsSl w (.slice al cs.length cl) cs) (hmany : cs.length ≤ 1048576) :
    Calls Tryz.prog 8 #[.pointer (some ⟨b, 0, none⟩), .slice al cs.length cl] w (NonePost w) := by
  have hz3 : Tryz.prog.cellsOf 62 = 3 := by kernel_rfl
  have HFI := Lib.hid hf
  have HCS := Lib.hid hcs
  clear hf hcs
  go_enter Tryz.func8, Tryz.ntmps8
  go_wp2_with fail
  go_loopw [5, 16] (fun p q wr => ∃ j : Nat, j ≤ cs.length ∧ q = .int .i64 j ∧ p = .int .i64 (asksN (cs.take j)) ∧ Below w.heap.size w wr) (fun _ q _ => cs.length - (intOf q).toNat)
  case atStart => exact ⟨0, Nat.zero_le _, rfl, rfl, Below.refl _ _⟩
  case round =>
    obtain ⟨j, hj, rfl, rfl, hbw⟩ := hrel
    have HBW := Lib.hid hbw
    clear hbw
    have hal := asksN_le (cs.take j)
    have hal2 : asksN (cs.take j) ≤ j := Nat.le_trans hal (List.length_take_le _ _)
    clear hal
    by_cases hlt : j < cs.length
    · obtain ⟨g, o, hg, hcl⟩ : ∃ g o, al = some ⟨g, o, none⟩ ∧ ClAt wr g (o + j * 3) cs[j] := by
        obtain ⟨a, cc, he, hc⟩ := HCS.out.new HBW.out
        obtain ⟨g, o, rfl, hcell⟩ := hc j hlt
        exact ⟨g, o, by simpa using congrArg (fun v => match v with | Value.slice a _ _ => a | _ => none) he, hcell⟩
      subst hg
      have htk := asksN_take cs j hlt
      generalize hcc : cs[j] = c at *
      obtain ⟨aw, cw, c0', c1', c2', hsw⟩ := hcl
      have HTK := Lib.hid htk
      clear hcc hsw htk
      generalize hna : asksN (cs.take j) = na at *
      clear hna
      cases hno : c.no with
      | true =>
        rw [hno] at c1'
        have HT := Lib.hid (show asksN (cs.take (j + 1)) = na by rw [HTK.out, hno]; rfl)
        clear hno
        go_wp2_with fail
        go_roundw
        case rel => exact ⟨j + 1, by omega, by go_num, by rw [HT.out], HBW.out.alloc HBW.out.size _⟩
        case measure => simp [intOf] <;> omega
      | false =>
        rw [hno] at c1'
        by_cases hw0 : c.words.length = 0
        · have hb0 : ¬ ((0 : Int) < (c.words.length : Int)) := by omega
          have HT := Lib.hid (show asksN (cs.take (j + 1)) = na by rw [HTK.out, hno, List.eq_nil_of_length_eq_zero hw0]; rfl)
          clear hno hw0
          go_wp2_with fail
          go_roundw
          case rel => exact ⟨j + 1, by omega, by go_num, by rw [HT.out], HBW.out.alloc HBW.out.size _⟩
          case measure => simp [intOf] <;> omega
        · have hb0 : ((0 : Int) < (c.words.length : Int)) := by omega
          have HT := Lib.hid (show asksN (cs.take (j + 1)) = na + 1 by
            rw [HTK.out, hno]
            have : c.words.isEmpty = false := by rw [List.isEmpty_eq_false_iff]; intro e; exact hw0 (by rw [e]; rfl)
            rw [this]; rfl)
          clear hno hw0
          go_wp2_with fail
          go_roundw
          case rel => exact ⟨j + 1, by omega, by go_num, by rw [HT.out]; go_num, HBW.out.alloc HBW.out.size _⟩
          case measure => simp [intOf] <;> omega
    · have hjn : cs.take j = cs := List.take_of_length_le (by omega)
      rw [hjn] at hal2 ⊢
      clear hjn
      have HZ := Lib.hid (HFI.out.new HBW.out)
      have cb0 : wr.cell? ⟨b, 0, none⟩ = some (.int .i64 0) := by have := HZ.out; unfold FinderZ at this; rw [Lib.cell_of_heap this]; rfl
      generalize asksN cs = na at *
      go_wp2_with fail
      go_loopw [8, 9] (fun v q W2 => v = .slice none 0 0 ∧ q = .int .i64 0 ∧ W2 = wr) (fun _ _ _ => 0)
      case atStart => exact ⟨rfl, rfl, rfl⟩
      case round =>
        obtain ⟨rfl, rfl, rfl⟩ := hrel
        go_wp2_with (go_at_call 24; refine (sort_nil _).mono ?_; rintro e w1 ⟨rfl, rfl⟩)
        go_ret
        exact ⟨none, 0, rfl, HBW.out⟩
theorem ask_nil (v : Value) (w : World) : Calls Tryz.prog 8 #[.pointer none, v] w (NonePost w) := by
  go_enter Tryz.func8, Tryz.ntmps8
  go_wp2_with fail
  go_ret
  exact ⟨none, 0, rfl, Below.refl _ _⟩
theorem begin_nil (s : ByteArray) (w : World) : Calls Tryz.prog 11 #[.pointer none, .string s] w (NonePost w) := by
  go_enter Tryz.func11, Tryz.ntmps11
  go_wp2_with fail
  go_ret
  exact ⟨none, 0, rfl, Below.refl _ _⟩
theorem count_nil (s : ByteArray) (w : World) (hT : Tabs w) (hs : s.size ≤ 1099511627776) : Calls Tryz.prog 10 #[.pointer none, .string s] w fun e w' => e = .returned (.int .i64 0) ∧ Below w.heap.size w w' := by
  have HW := Lib.hid (words_slice s w hT hs)
  go_enter Tryz.func10, Tryz.ntmps10
  go_wp2_with (go_at_call 14; refine HW.out.mono ?_; rintro e w1 ⟨a, c, rfl, _, hb⟩)
  go_ret
  exact ⟨rfl, hb⟩
set_option maxHeartbeats 2000000 in
theorem count_zero (b : Nat) (s : ByteArray) (w : World) (hT : Tabs w) (hs : s.size ≤ 1099511627776) (hf : FinderZ w b) : Calls Tryz.prog 10 #[.pointer (some ⟨b, 0, none⟩), .string s] w fun e w' => e = .returned (.int .i64 0) ∧ Below w.heap.size w w' := by
  have HW := Lib.hid (words_slice s w hT hs)
  have HF := Lib.hid hf
  have hwl := (words_len s.data.toList).1
  rw [← size_list] at hwl
  generalize words s.data.toList = ws at *
  clear hf hT
  by_cases h1 : ws.length = 1
  · obtain ⟨x, rfl⟩ := List.length_eq_one_iff.1 h1
    clear h1 hwl
    go_enter Tryz.func10, Tryz.ntmps10
    go_upto_region 5 with (go_at_call 14; refine HW.out.mono ?_; rintro e w1 ⟨a, c, rfl, hr, hb⟩; have HR := Lib.hid hr; have HB := Lib.hid hb; clear hr hb)
    obtain ⟨gw, ow, cw', haw, hxw⟩ := (StrRow.sl (l := [x]) HR.out).some_ (k := 0) (by simp)
    simp only [Value.slice.injEq] at haw
    obtain ⟨rfl, -, rfl⟩ := haw
    rw [Nat.add_zero] at hxw
    have cb2 : w1.cell? ⟨b, 2, none⟩ = some (.map none) := by have := HF.out.new HB.out; unfold FinderZ at this; rw [Lib.cell_of_heap this]; rfl
    have hl : ∀ nq, (Instr.lookup 28 (.map none) (st x) false).run Tryz.prog (w1.drewN nq) = .ok (.slice none 0 0) (w1.drewN nq) := fun nq => run_look_nil x _
    go_quiet (fail)
    go_wp2_with fail
    go_loopw [6, 7, 28] (fun p q r wr => p = .int .i64 0 ∧ q = .int .i64 (-1) ∧ r = .int .i64 0 ∧ Below w1.heap.size w1 wr) (fun _ _ _ _ => 0)
    case atStart => exact ⟨rfl, rfl, rfl, below_drewN (Below.refl _ _) _⟩
    case round =>
      obtain ⟨rfl, rfl, rfl, hbr⟩ := hrel
      go_wp2_with fail
      go_ret
      exact ⟨rfl, HB.out.trans (hbr.mono HB.out.size)⟩
  · have hne : ((ws.length : Int) != 1) = true := by rw [bne_iff_ne]; omega
    go_enter Tryz.func10, Tryz.ntmps10
    go_wp2_with (go_at_call 14; refine HW.out.mono ?_; rintro e w1 ⟨a, c, rfl, hr, hb⟩; have HB := Lib.hid hb; clear hr hb)
    go_ret
    exact ⟨rfl, HB.out⟩
end Go.Proofs.YthpbdeiphagkiaaGreatDoor
/- A finder that finds nothing: nil, the zero finder, one of no topics: Ask, Search, Count, Beginning. -/
namespace Go.Proofs.YthpbdeiphagkiaaGreatDoor
open Go.RowKit Find

def NoneF (w : World) (p : Option Addr) : Prop := p = none ∨ ∃ b, p = some ⟨b, 0, none⟩ ∧ (FinderZ w b ∨ FinderIs w b [])
theorem NoneF.new {w w' : World} {p : Option Addr} (h : NoneF w p) (hb : Below w.heap.size w w') : NoneF w' p := by
  rcases h with h | ⟨b, h, hf | hf⟩
  · exact .inl h
  · exact .inr ⟨b, h, .inl (hf.new hb)⟩
  · exact .inr ⟨b, h, .inr (hf.new hb)⟩
theorem told_none {cs : List Cl} {R : List Fnd} (h : Find.Told [] cs R) : R = [] := by
  have := told_len h
  exact List.eq_nil_of_length_eq_zero (by simpa using this)
theorem ask_none (cs : List Cl) (p : Option Addr) (al : Option Addr) (cl : Nat) (w : World) (hf : NoneF w p) (hcs : ClsSl w (.slice al cs.length cl) cs) (hmany : cs.length ≤ 1048576) (hC : ∀ c ∈ cs, c.words.length ≤ 1099511627776) :
    Calls Tryz.prog 8 #[.pointer p, .slice al cs.length cl] w (NonePost w) := by
  rcases hf with rfl | ⟨b, rfl, hf | hf⟩
  · exact ask_nil _ w
  · exact ask_zero cs b al cl w hf hcs hmany
  · refine (ask_slice [] cs b al cl w hf hcs hmany (by simp) hC (by simp)).mono ?_
    rintro e w' ⟨a, c, R, rfl, ht, _, _, hb⟩
    rw [told_none ht]
    exact ⟨a, c, rfl, hb⟩
theorem spots_none (x : Wd) : spotsOf [] x = [] := by
  by_cases h : spotsOf [] x = []
  · exact h
  · obtain ⟨i, hi, _⟩ := spotsOf_ne.1 h
    simp at hi
theorem count_none (p : Option Addr) (s : ByteArray) (w : World) (hT : Tabs w) (hs : s.size ≤ 1099511627776) (hf : NoneF w p) :
    Calls Tryz.prog 10 #[.pointer p, .string s] w fun e w' => e = .returned (.int .i64 0) ∧ Below w.heap.size w w' := by
  rcases hf with rfl | ⟨b, rfl, hf | hf⟩
  · exact count_nil s w hT hs
  · exact count_zero b s w hT hs hf
  · have hc : ∀ l, countW [] l = 0 := fun l => by
      unfold countW
      split
      · rw [spots_none]; rfl
      · rfl
    have := count_any [] b s w hT hs hf (by simp) (fun x => by rw [spots_none]; simp)
    rwa [hc] at this
theorem begin_none (p : Option Addr) (s : ByteArray) (w : World) (hT : Tabs w) (hs : s.size ≤ 1099511627) (hf : NoneF w p) :
    Calls Tryz.prog 11 #[.pointer p, .string s] w (NonePost w) := by
  rcases hf with rfl | ⟨b, rfl, hf | hf⟩
  · exact begin_nil s w
  · exact begin_zero b _ s w hT hs hf
  · refine (begin_any [] b s w hT hs hf (fun k hk => absurd (spots_none k) hk) (fun M hM hk => by
      cases M with
      | nil => simp
      | cons k M => exact absurd (spots_none k) (hk k (by simp)))).mono ?_
    rintro e w' ⟨v, R, rfl, _, hm, _, hsl, hb⟩
    have hR : R = [] := by
      cases R with
      | nil => rfl
      | cons k R => exact absurd (spots_none k) ((hm k).1 (by simp)).1
    subst hR
    obtain ⟨a, c, rfl, _⟩ := hsl
    exact ⟨a, c, rfl, hb⟩
def SearchNone (s : Wd) (w : World) (e : Ending) (w' : World) : Prop := ∃ a c, e = .returned (.tuple #[.slice a 0 c, .int .i64 (parseP s).2]) ∧ Below w.heap.size w w'
set_option maxHeartbeats 4000000 in
theorem search_none (p : Option Addr) (s : ByteArray) (w : World) (hT : Tabs w) (hs : s.size ≤ 1099511627776) (hf : NoneF w p) :
    Calls Tryz.prog 7 #[.pointer p, .string s] w (SearchNone s.data.toList w) := by
  have hp := parse_any s w hT hs
  unfold ParsePost at hp
  have hlen := parseP_len s.data.toList
  unfold SearchNone
  obtain ⟨cs, hcs⟩ : ∃ l, l = (parseP s.data.toList).1 := ⟨_, rfl⟩
  obtain ⟨code, hcode⟩ : ∃ l, l = (parseP s.data.toList).2 := ⟨_, rfl⟩
  have hcd := parseP_code s.data.toList
  rw [← hcs, ← hcode] at hp
  rw [← hcode] at hcd ⊢
  rw [← hcs] at hlen
  clear hcs hcode
  have HP := Lib.hid hp
  have HF := Lib.hid hf
  have HL := Lib.hid hlen
  clear hp hf hT hlen
  by_cases h0 : code = 0
  · subst h0
    go_enter Tryz.func7, Tryz.ntmps7
    go_wp2_with (first
      | (go_at_call 13; refine HP.out.mono ?_; rintro e w1 ⟨v, rfl, ⟨av, cv, rfl, hcl⟩, hb1⟩; have HA := Lib.hid (ask_none cs p av cv w1 (HF.out.new hb1) ⟨av, cv, rfl, hcl⟩ (by have := HL.out.1; omega) (fun c hc => by have := HL.out.2 c hc; omega)); have HB1 := Lib.hid hb1; clear hcl hb1)
      | (go_at_call 8; refine HA.out.mono ?_; rintro e w2 ⟨a, c, rfl, hb2⟩; have HB2 := Lib.hid hb2; clear hb2))
    go_ret2
    exact ⟨a, c, rfl, HB1.out.trans (HB2.out.mono HB1.out.size)⟩
  · have hc0 : (code != 0) = true := by simpa using h0
    clear h0
    go_enter Tryz.func7, Tryz.ntmps7
    go_wp2_with (go_at_call 13; refine HP.out.mono ?_; rintro e w1 ⟨v, rfl, _, hb1⟩)
    go_ret2
    exact ⟨none, 0, rfl, hb1⟩
end Go.Proofs.YthpbdeiphagkiaaGreatDoor
/- find.Of a book that nobody loaded. -/
namespace Go.Proofs.YthpbdeiphagkiaaGreatDoor
open Go.RowKit Find

theorem is_nil (w : World) : Calls Tryz.prog 38 #[.pointer none] w fun e w' => e = .returned (.bool false) ∧ w = w' := by
  go_enter Tryz.func38, Tryz.ntmps38
  go_wp2
  go_ret
  exact ⟨rfl, rfl⟩
theorem is_zero (b : Nat) (w : World) (h : w.cell? ⟨b, 0, none⟩ = some (.int .i64 0)) : Calls Tryz.prog 38 #[.pointer (some ⟨b, 0, none⟩)] w fun e w' => e = .returned (.bool false) ∧ w = w' := by
  go_enter Tryz.func38, Tryz.ntmps38
  go_wp2
  go_ret
  exact ⟨rfl, rfl⟩
/-- A book that nobody loaded. -/
def NoBook (w : World) (p : Option Addr) : Prop := p = none ∨ ∃ b, p = some ⟨b, 0, none⟩ ∧ w.cell? ⟨b, 0, none⟩ = some (.int .i64 0)
theorem len_no (p : Option Addr) (w : World) (h : NoBook w p) : Calls Tryz.prog 17 #[.pointer p] w fun e w' => e = .returned (.int .i64 0) ∧ w = w' := by
  have HI : Hid (Calls Tryz.prog 38 #[.pointer p] w fun e w' => e = .returned (.bool false) ∧ w = w') := Lib.hid (by
    rcases h with rfl | ⟨b, rfl, h⟩
    · exact is_nil w
    · exact is_zero b w h)
  clear h
  go_enter Tryz.func17, Tryz.ntmps17
  go_wp2_with (go_at_call 38; refine HI.out.mono ?_; rintro e w' ⟨rfl, rfl⟩)
  go_ret
  exact ⟨rfl, rfl⟩
set_option maxHeartbeats 4000000 in
set_option maxRecDepth 100000 in
theorem of_no (p : Option Addr) (w : World) (hT : Tabs w) (h : NoBook w p) : Calls Tryz.prog 6 #[.pointer p] w fun e w' => ∃ b, e = .returned (.pointer (some ⟨b, 0, none⟩)) ∧ FinderIs w' b [] ∧ Below w.heap.size w w' := by
  have HL := Lib.hid (len_no p w h)
  have HN := Lib.hid (new_any [] [] none none 0 0 w hT rfl (by simp) (by simp) (by simp) ⟨none, 0, rfl, fun k hk => absurd hk (Nat.not_lt_zero _)⟩ ⟨none, 0, rfl, fun k hk => absurd hk (Nat.not_lt_zero _)⟩)
  clear h hT
  go_enter Tryz.func6, Tryz.ntmps6
  go_wp2_with (go_at_call 17; refine HL.out.mono ?_; rintro e w' ⟨rfl, rfl⟩)
  go_loopw [3, 4, 17] (fun p q r W => p = .slice none 0 0 ∧ q = .slice none 0 0 ∧ r = .int .i64 0 ∧ W = w) (fun _ _ _ _ => 0)
  case atStart => exact ⟨rfl, rfl, rfl, rfl⟩
  case round =>
    obtain ⟨rfl, rfl, rfl, rfl⟩ := hrel
    go_wp2_with (go_at_call 12; refine HN.out.mono ?_; rintro e w4 ⟨b, rfl, hf4, hb4⟩)
    go_ret
    exact ⟨b, rfl, hf4, hb4⟩
end Go.Proofs.YthpbdeiphagkiaaGreatDoor
