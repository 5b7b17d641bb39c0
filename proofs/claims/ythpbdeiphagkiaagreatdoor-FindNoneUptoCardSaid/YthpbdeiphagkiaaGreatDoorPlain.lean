/- strings.Cut at a quote; text.Plain. -/
import Derived.Test.YthpbdeiphagkiaaGreatDoorStrs
import Derived.Lib.Bytealg
namespace Go.Proofs.YthpbdeiphagkiaaGreatDoor
open Go.RowKit Find

/-- What stands before the first quote, what behind. -/
def Find.cutQ (l : List UInt8) : List UInt8 × List UInt8 × Bool :=
  if 0 ≤ Lib.indexByte l 34 then (l.take (Lib.indexByte l 34).toNat, l.drop ((Lib.indexByte l 34).toNat + 1), true) else (l, [], false)
theorem indexByte_lt (l : List UInt8) (c : UInt8) : Lib.indexByte l c < l.length := by
  induction l with
  | nil => show (-1 : Int) < 0; decide
  | cons b l ih =>
    unfold Lib.indexByte
    have hg := Lib.indexByte_ge l c
    simp only [List.length_cons]
    repeat' split
    all_goals (push_cast; omega)
theorem ba_ext {a b : ByteArray} (h : a.data.toList = b.data.toList) : a = b := by
  cases a; cases b
  simp only at h
  congr 1
  exact Array.ext' h
theorem take_ext (s : ByteArray) (k : Nat) : s.extract 0 k = ⟨(s.data.toList.take k).toArray⟩ := by
  apply ba_ext
  simp
theorem drop_ext (s : ByteArray) (k : Nat) : s.extract k s.size = ⟨(s.data.toList.drop k).toArray⟩ := by
  apply ba_ext
  rw [Lib.extract_to_end]

set_option maxHeartbeats 1000000 in
theorem cut_lite (s : ByteArray) (w : World) (hs : s.size ≤ 1099511627776) :
    Calls Tryz.prog 86 #[.string s, .string ⟨#[34]⟩] w fun e w' => e = .returned (.tuple #[.string ⟨(cutQ s.data.toList).1.toArray⟩, .string ⟨(cutQ s.data.toList).2.1.toArray⟩, .bool (cutQ s.data.toList).2.2]) ∧ Below w.heap.size w w' := by
  have hi := fun W => Tryz.stringslite_Index_one s 34 W
  have hlt := indexByte_lt s.data.toList 34
  have hge := Lib.indexByte_ge s.data.toList 34
  rw [← size_list] at hlt
  have hc : cutQ s.data.toList = if 0 ≤ Lib.indexByte s.data.toList 34 then (s.data.toList.take (Lib.indexByte s.data.toList 34).toNat, s.data.toList.drop ((Lib.indexByte s.data.toList 34).toNat + 1), true) else (s.data.toList, [], false) := rfl
  generalize Lib.indexByte s.data.toList 34 = k at *
  have HI := Lib.hid hi
  clear hi
  by_cases hk : 0 ≤ k
  · obtain ⟨n, rfl⟩ := Int.eq_ofNat_of_zero_le hk
    rw [if_pos hk] at hc
    rw [hc]
    have e1 : s.extract 0 n = ⟨(s.data.toList.take n).toArray⟩ := take_ext s n
    have e2 : s.extract (n + 1) s.size = ⟨(s.data.toList.drop (n + 1)).toArray⟩ := drop_ext s (n + 1)
    have E1 := Lib.hid e1
    have E2 := Lib.hid e2
    clear hc e1 e2
    have hn : n < s.size := by omega
    have hw1 : IntKind.i64.wrap ((n : Int) + 1) = (n : Int) + 1 := IntWalk.i64_in _ (by omega)
    have h01 : (0 : Int) ≤ (n : Int) + 1 := by omega
    have ht1 : ((n : Int) + 1).toNat = n + 1 := by omega
    have hl1 : (n : Int) + 1 ≤ (s.size : Int) := by omega
    go_enter Tryz.func86, Tryz.ntmps86
    go_wp2_with (go_at_call 85; refine (HI.out _).mono ?_; rintro e w' ⟨rfl, rfl⟩)
    go_quiet (fail)
    go_wp2_with fail
    go_ret3
    rw [E1.out, E2.out]
    exact ⟨rfl, below_drewN (Below.refl _ _) _⟩
  · rw [if_neg hk] at hc
    rw [hc]
    clear hc
    obtain rfl : k = -1 := by omega
    clear hk
    go_enter Tryz.func86, Tryz.ntmps86
    go_wp2_with (go_at_call 85; refine (HI.out _).mono ?_; rintro e w' ⟨rfl, rfl⟩)
    go_ret3
    exact ⟨rfl, Below.refl _ _⟩

set_option maxHeartbeats 1000000 in
theorem cut_any (s : ByteArray) (w : World) (hs : s.size ≤ 1099511627776) :
    Calls Tryz.prog 57 #[.string s, .string ⟨#[34]⟩] w fun e w' => e = .returned (.tuple #[.string ⟨(cutQ s.data.toList).1.toArray⟩, .string ⟨(cutQ s.data.toList).2.1.toArray⟩, .bool (cutQ s.data.toList).2.2]) ∧ Below w.heap.size w w' := by
  have H := Lib.hid (cut_lite s w hs)
  go_enter Tryz.func57, Tryz.ntmps57
  go_wp2_with (go_at_call 86; refine H.out.mono ?_; rintro e w1 ⟨rfl, hb1⟩)
  go_ret3
  exact ⟨rfl, hb1⟩

def Find.ctl (r : Int) : Bool := decide (r < 32) || (decide (127 ≤ r) && decide (r ≤ 159))
/-- No control character, no bad byte. -/
def Find.plainB (s : List UInt8) : Bool := (chars s).all fun c => !ctl c.1 && !badCh c
set_option maxHeartbeats 1000000 in
theorem control_any (r : Int) (w : World) (h0 : -2147483648 ≤ r) (h1 : r ≤ 2147483647) :
    Calls Tryz.prog 52 #[.int .i32 r] w fun e w' => e = .returned (.bool (ctl r)) ∧ w = w' := by
  go_enter Tryz.func52, Tryz.ntmps52
  go_wp2
  all_goals
    go_ret
    refine ⟨ret_bool ?_, rfl⟩
    unfold ctl
    rw [Bool.eq_iff_iff]
    simp
    try omega
set_option maxHeartbeats 1000000 in
theorem bad_any (s : ByteArray) (i : Nat) (w : World) (hT : Tabs w) (hi : i < s.size) :
    Calls Tryz.prog 53 #[.string s, .int .i64 i] w fun e w' => e = .returned (.bool (decide ((decL (s.data.toList.drop i)).1 = 65533 ∧ (decL (s.data.toList.drop i)).2 = 1))) ∧ Below w.heap.size w w' := by
  have hd := dec_at s i hi w hT
  obtain ⟨hr1, hr2⟩ := decL_hi (s.data.toList.drop i)
  generalize (decL (s.data.toList.drop i)).1 = r at *
  generalize (decL (s.data.toList.drop i)).2 = n at *
  have HD := Lib.hid hd
  clear hd
  by_cases h1 : r = 65533
  · subst h1
    have hb1 : (((65533 : Nat) : Int) == 65533) = true := rfl
    by_cases h2 : n = 1
    · subst h2
      go_enter Tryz.func53, Tryz.ntmps53
      go_wp2_with (go_at_call 45; refine HD.out.mono ?_; rintro e w1 ⟨rfl, hb1⟩)
      go_ret
      exact ⟨rfl, hb1⟩
    · have hb2 : ((n : Int) == 1) = false := by rw [beq_eq_false_iff_ne]; omega
      have HN := Lib.hid h2
      clear h2
      go_enter Tryz.func53, Tryz.ntmps53
      go_wp2_with (go_at_call 45; refine HD.out.mono ?_; rintro e w1 ⟨rfl, hb1⟩)
      go_ret
      exact ⟨ret_bool (by simp [HN.out]), hb1⟩
  · have hb1 : ((r : Int) == 65533) = false := by rw [beq_eq_false_iff_ne]; omega
    have HN := Lib.hid h1
    clear h1
    go_enter Tryz.func53, Tryz.ntmps53
    go_wp2_with (go_at_call 45; refine HD.out.mono ?_; rintro e w1 ⟨rfl, hb1⟩)
    go_ret
    exact ⟨ret_bool (by simp [HN.out]), hb1⟩

/-- What Plain tells. -/
def PlainPost (s : ByteArray) (w : World) (e : Ending) (w' : World) : Prop := ∃ i : Int, e = .returned (.tuple #[.int .i64 i, .bool (plainB s.data.toList)]) ∧ Below w.heap.size w w'
set_option maxHeartbeats 4000000 in
theorem plain_any (s : ByteArray) (w : World) (hT : Tabs w) (hs : s.size ≤ 1099511627776) :
    Calls Tryz.prog 31 #[.string s] w (PlainPost s w) := by
  have HT := Lib.hid hT
  clear hT
  go_enter Tryz.func31, Tryz.ntmps31
  go_wp2
  go_loopw [] (fun wr => ∃ pos : Nat, pos ≤ s.size ∧ wr.heap[w.heap.size]? = some (.stringIter s pos) ∧ Hid (plainB s.data.toList = plainB (s.data.toList.drop pos)) ∧ Below w.heap.size w wr) (fun wr => s.size - wr.iterPos w.heap.size)
  case atStart => exact ⟨0, Nat.zero_le _, World.iter_heap w s 0, Lib.hid (by rw [List.drop_zero]), (Below.refl _ _).alloc (Nat.le_refl _) _⟩
  case round =>
    obtain ⟨pos, hpos, hit, hpl, hb⟩ := hrel
    have HB := Lib.hid hb
    have HIT := Lib.hid hit
    clear hb
    by_cases hp : pos < s.size
    · have hnx : ∀ ty, (Instr.next (.pointer (some ⟨w.heap.size, 0, none⟩)) true ty).run Tryz.prog wr = _ := fun ty => Lib.run_next_any_at wr w.heap.size s pos ty hit hp
      rw [decode_eq] at hnx
      obtain ⟨hr1, hr2⟩ := decL_hi (s.data.toList.drop pos)
      have hn := decL_len (s.data.toList.drop pos) (by intro e; have := congrArg List.length e; rw [List.length_drop, ← size_list] at this; simp at this; omega)
      rw [List.length_drop, ← size_list] at hn
      have hch := chars_at s pos hp
      have hIT := Lib.iterAt_heap wr w.heap.size s pos (pos + (decL (s.data.toList.drop pos)).2) hit
      have hBI := Lib.below_iterAt HB.out (Nat.le_refl _) s (pos + (decL (s.data.toList.drop pos)).2)
      have hbd := bad_any s pos (wr.iterAt w.heap.size s (pos + (decL (s.data.toList.drop pos)).2)) (HT.out.below hBI) hp
      have hL : ((s.data.toList.drop pos).take (decL (s.data.toList.drop pos)).2).length = (decL (s.data.toList.drop pos)).2 := by rw [List.length_take, List.length_drop, ← size_list]; omega
      have hpl2 : plainB (s.data.toList.drop pos) = (!ctl (decL (s.data.toList.drop pos)).1 && !decide ((decL (s.data.toList.drop pos)).1 = 65533 ∧ (decL (s.data.toList.drop pos)).2 = 1) && plainB (s.data.toList.drop (pos + (decL (s.data.toList.drop pos)).2))) := by
        unfold plainB
        rw [hch, List.all_cons]
        congr 2
        unfold badCh
        rw [hL]
        simp only [Bool.decide_and]
        congr 1
      have hcl := control_any (decL (s.data.toList.drop pos)).1 (wr.iterAt w.heap.size s (pos + (decL (s.data.toList.drop pos)).2)) (by omega) (by omega)
      generalize hr : (decL (s.data.toList.drop pos)).1 = r at *
      generalize hnn : (decL (s.data.toList.drop pos)).2 = n at *
      clear hr hnn hit hch hL
      have HPL := Lib.hid hpl2
      have HBD := Lib.hid hbd
      have HI2 := Lib.hid hIT
      have HB2 := Lib.hid hBI
      have HCL := Lib.hid hcl
      clear hpl2 hbd hIT hBI hcl
      cases hc : ctl (r : Int) with
      | true =>
        have HC1 := Lib.hid (show Calls Tryz.prog 52 #[.int .i32 r] (wr.iterAt w.heap.size s (pos + n)) fun e w' => e = .returned (.bool true) ∧ wr.iterAt w.heap.size s (pos + n) = w' from by rw [← hc]; exact HCL.out)
        have HE := Lib.hid (show plainB s.data.toList = false from by rw [hpl.out, HPL.out, hc]; rfl)
        clear hc
        go_wp2_with (go_at_call 52; refine HC1.out.mono ?_; rintro e w9 ⟨rfl, rfl⟩)
        go_ret2
        refine ⟨pos, ?_, HB2.out⟩
        rw [HE.out]; rfl
      | false =>
        have HC1 := Lib.hid (show Calls Tryz.prog 52 #[.int .i32 r] (wr.iterAt w.heap.size s (pos + n)) fun e w' => e = .returned (.bool false) ∧ wr.iterAt w.heap.size s (pos + n) = w' from by rw [← hc]; exact HCL.out)
        have HCF := Lib.hid hc
        clear hc
        by_cases h1 : r = 65533
        · subst h1
          have hb1 : (((65533 : Nat) : Int) == 65533) = true := rfl
          by_cases h2 : n = 1
          · have HB3 := Lib.hid (show Calls Tryz.prog 53 #[.string s, .int .i64 pos] (wr.iterAt w.heap.size s (pos + n)) fun e w' => e = .returned (.bool true) ∧ Below (wr.iterAt w.heap.size s (pos + n)).heap.size (wr.iterAt w.heap.size s (pos + n)) w' from by have := HBD.out; simpa [h2] using this)
            have HE := Lib.hid (show plainB s.data.toList = false from by rw [hpl.out, HPL.out]; simp [h2])
            clear h2
            go_wp2_with (first | (go_at_call 52; refine HC1.out.mono ?_; rintro e w9 ⟨rfl, rfl⟩) | (go_at_call 53; refine HB3.out.mono ?_; rintro e w9 ⟨rfl, hb9⟩))
            go_ret2
            refine ⟨pos, ?_, HB2.out.trans (hb9.mono HB2.out.size)⟩
            rw [HE.out]; rfl
          · have HB3 := Lib.hid (show Calls Tryz.prog 53 #[.string s, .int .i64 pos] (wr.iterAt w.heap.size s (pos + n)) fun e w' => e = .returned (.bool false) ∧ Below (wr.iterAt w.heap.size s (pos + n)).heap.size (wr.iterAt w.heap.size s (pos + n)) w' from by have := HBD.out; simpa [h2] using this)
            have HE := Lib.hid (show plainB s.data.toList = plainB (s.data.toList.drop (pos + n)) from by rw [hpl.out, HPL.out, HCF.out]; simp [h2])
            clear h2
            go_wp2_with (first | (go_at_call 52; refine HC1.out.mono ?_; rintro e w9 ⟨rfl, rfl⟩) | (go_at_call 53; refine HB3.out.mono ?_; rintro e w9 ⟨rfl, hb9⟩))
            go_roundw
            case rel => exact ⟨pos + n, by omega, (hb9.block _ (lt_of_heap HI2.out)).trans HI2.out, HE, HB2.out.trans (hb9.mono HB2.out.size)⟩
            case measure => simp only [World.iterPos, (hb9.block _ (lt_of_heap HI2.out)).trans HI2.out, HIT.out]; omega
        · have hb1 : ((r : Int) == 65533) = false := by rw [beq_eq_false_iff_ne]; omega
          have HE := Lib.hid (show plainB s.data.toList = plainB (s.data.toList.drop (pos + n)) from by rw [hpl.out, HPL.out, HCF.out]; simp [h1])
          clear h1
          go_wp2_with (go_at_call 52; refine HC1.out.mono ?_; rintro e w9 ⟨rfl, rfl⟩)
          go_roundw
          case rel => exact ⟨pos + n, by omega, HI2.out, HE, HB2.out⟩
          case measure => simp only [World.iterPos, HI2.out, HIT.out]; omega
    · have hnx : ∀ ty, (Instr.next (.pointer (some ⟨w.heap.size, 0, none⟩)) true ty).run Tryz.prog wr = _ := fun ty => Lib.run_next_end_at wr w.heap.size s pos ty hit hp
      have HE := Lib.hid (show plainB s.data.toList = true from by
        rw [hpl.out, List.drop_eq_nil_of_le (by rw [← size_list]; omega)]; rfl)
      clear hit
      go_wp2
      go_ret2
      refine ⟨0, ?_, HB.out⟩
      rw [HE.out]; rfl
end Go.Proofs.YthpbdeiphagkiaaGreatDoor
