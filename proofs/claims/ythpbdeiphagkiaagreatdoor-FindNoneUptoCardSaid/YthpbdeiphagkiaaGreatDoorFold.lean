/- text.Fold: it tells the fold, in new memory. -/
import Derived.Test.YthpbdeiphagkiaaGreatDoorDec
import Derived.LoopTactic
namespace Go.Proofs.YthpbdeiphagkiaaGreatDoor
open Go.RowKit Find

theorem Wrote.into {B b : Nat} {bs' : List UInt8} {w0 w w' : World} (h : Wrote b bs' (fun k => B ≤ k) w w') (hE : Ev (fun k => B ≤ k) w0 (fun k => B ≤ k) w) (hB : B ≤ w.heap.size) : Bld w' b bs' (fun k => B ≤ k) ∧ Ev (fun k => B ≤ k) w0 (fun k => B ≤ k) w' := by
  have hw : ∀ k, (B ≤ k ∨ w.heap.size ≤ k) → B ≤ k := fun k hk => by omega
  exact ⟨h.1.wide hw, hE.trans (h.2.now fun k hk => .inl (.inl hk))⟩
theorem take_one (s : ByteArray) (k : Nat) (h : k < s.size) : (s.data.toList.drop k).take 1 = [s.data[k]'h] := by
  rw [List.drop_eq_getElem_cons (by rw [← size_list]; exact h)]; rfl
theorem fold_bad (waits : Bool) (acc : List UInt8) (x : UInt8) (l : List Ch) : foldF waits acc ((65533, [x]) :: l) = foldF false ((if waits then acc ++ [32] else acc) ++ [x]) l := by
  rw [foldF, if_neg (by omega)]; rfl
theorem fold_good (waits : Bool) (acc : List UInt8) (c : Ch) (l : List Ch) (h : c.1 ≠ 32) (hb : badCh c = false) : foldF waits acc (c :: l) = foldF false ((if waits then acc ++ [32] else acc) ++ Lib.encodeRune (small c.1)) l := by
  rw [foldF, if_neg h, foldCh, hb]; rfl

set_option maxHeartbeats 4000000 in
set_option maxRecDepth 100000 in
theorem fold_any (s : ByteArray) (w : World) (hT : Tabs w) (hs : s.size ≤ 1099511627776) :
    Calls Tryz.prog 27 #[.string s] w fun e w' => e = .returned (.string ⟨(fold s.data.toList).toArray⟩) ∧ Below w.heap.size w w' := by
  have HT := Lib.hid hT
  clear hT
  go_enter Tryz.func27, Tryz.ntmps27
  go_wp2
  go_loopw [4, 5] (fun q i wr => ∃ (k : Nat) (waits : Bool) (acc : List UInt8), k ≤ s.size ∧ q = .bool waits ∧ i = .int .i64 k ∧ Bld wr w.heap.size acc (fun b => w.heap.size ≤ b) ∧ Ev (fun b => w.heap.size ≤ b) w (fun b => w.heap.size ≤ b) wr ∧ Hid (foldF waits acc (chars (s.data.toList.drop k)) = fold s.data.toList) ∧ acc.length ≤ 5 * k) (fun _ i _ => s.size - (intOf i).toNat)
  case atStart => exact ⟨0, false, [], Nat.zero_le _, rfl, rfl, Bld.fresh _ _ (Nat.le_refl _), (Ev.refl _ w).alloc _, Lib.hid (by rw [List.drop_zero]; rfl), by simp⟩
  case round =>
    obtain ⟨k, waits, acc, hk, rfl, rfl, hB, hE, hF, hacc⟩ := hrel
    have hTw := Lib.hid (HT.out.ev hE (by have := HT.out.lt; omega) (by have := HT.out.lt; omega))
    have HE := Lib.hid hE
    have HB := Lib.hid hB
    clear hE hB
    by_cases hlt : k < s.size
    · have hch := chars_at s k hlt
      have hd := dec_at s k hlt wr hTw.out
      obtain ⟨hr1, hr2⟩ := decL_hi (s.data.toList.drop k)
      have hn := decL_len (s.data.toList.drop k) (by intro e; have := congrArg List.length e; rw [List.length_drop, ← size_list] at this; simp at this; omega)
      rw [List.length_drop, ← size_list] at hn
      generalize hr : (decL (s.data.toList.drop k)).1 = r at *
      generalize hnn : (decL (s.data.toList.drop k)).2 = n at *
      have HC := Lib.hid hch
      have HD := Lib.hid hd
      have hsm := Lib.hid (show r < 128 → n = 1 from fun h => by rw [← hnn]; exact decL_small _ (by rw [hr]; exact h))
      clear hch hd hr hnn
      by_cases h32 : r = 32
      · have hn1 : n = 1 := by
          have := hsm.out (by omega); exact this
        subst hn1 h32
        have ht : (((32 : Nat) : Int) == 32) = true := rfl
        go_wp2_with (first | (go_at_call 45; refine HD.out.mono ?_; rintro e w1 ⟨rfl, hb1⟩; have HB1 := Lib.hid (HB.out.keep fun b _ hb => hb1.block b hb); have HE1 := Lib.hid (HE.out.below hb1); clear hb1) | (go_at_call 46; refine (len_any _ _ _ _ HB1.out).mono ?_; rintro e w2 ⟨rfl, rfl⟩))
        go_roundw
        case rel =>
          refine ⟨k + 1, decide (0 < acc.length), acc, by omega, rfl, by go_num, HB1.out, HE1.out, Lib.hid ?_, by omega⟩
          rw [← hF.out, HC.out, foldF, if_pos rfl]
          cases acc <;> simp
        case measure => simp [intOf]; omega
      · have ht : (((r : Nat) : Int) == 32) = false := by simp; omega
        have hr1' : ((r : Nat) : Int) ≤ 2147483647 := by omega
        have hsv : -2147483648 ≤ small (r : Int) ∧ small (r : Int) ≤ 2147483647 := by unfold small; (repeat' split) <;> omega
        obtain ⟨hs0, hs1⟩ := hsv
        have hg : s[k] = (s.data.toList.drop k).getD 0 0 := by
          rw [← List.getElem_cons_drop (by rw [← size_list]; exact hlt)]; rfl
        by_cases hbad : r = 65533 ∧ n = 1
        · obtain ⟨rfl, rfl⟩ := hbad
          have hb1 : (((65533 : Nat) : Int) == 65533) = true := rfl
          have hb2 : (((1 : Nat) : Int) == 1) = true := rfl
          cases waits
          · go_wp2_with (go_at_call 45; refine HD.out.mono ?_; rintro e w1 ⟨rfl, hb1⟩; have HB1 := Lib.hid (HB.out.keep fun b _ hb => hb1.block b hb); have HE1 := Lib.hid (HE.out.below hb1); clear hb1)
            go_wp2_with fail
            refine (writeByte_any _ acc _ s.data[k] _ HB1.out (by omega)).mono ?_
            rintro e w3 ⟨rfl, hW⟩
            obtain ⟨hB3, hE3⟩ := hW.into HE1.out HE1.out.size
            have HB3 := Lib.hid hB3
            have HE3 := Lib.hid hE3
            clear hW hB3 hE3
            go_wp2
            go_roundw
            case rel => exact ⟨k + 1, false, _, by omega, rfl, by go_num, HB3.out, HE3.out, Lib.hid (by rw [← hF.out, HC.out, take_one s k hlt, fold_bad]; rfl), by simp; omega⟩
            case measure => simp [intOf]; omega
          · go_wp2_with (go_at_call 45; refine HD.out.mono ?_; rintro e w1 ⟨rfl, hb1⟩; have HB1 := Lib.hid (HB.out.keep fun b _ hb => hb1.block b hb); have HE1 := Lib.hid (HE.out.below hb1); clear hb1)
            go_wp2_with fail
            refine (writeByte_any _ acc _ 32 _ HB1.out (by omega)).mono ?_
            rintro e w2 ⟨rfl, hW⟩
            obtain ⟨hB2, hE2⟩ := hW.into HE1.out HE1.out.size
            have HB2 := Lib.hid hB2
            have HE2 := Lib.hid hE2
            clear hW hB2 hE2
            go_wp2_with fail
            refine (writeByte_any _ (acc ++ [32]) _ s.data[k] _ HB2.out (by simp; omega)).mono ?_
            rintro e w3 ⟨rfl, hW⟩
            obtain ⟨hB3, hE3⟩ := hW.into HE2.out HE2.out.size
            have HB3 := Lib.hid hB3
            have HE3 := Lib.hid hE3
            clear hW hB3 hE3
            go_wp2
            go_roundw
            case rel => exact ⟨k + 1, false, _, by omega, rfl, by go_num, HB3.out, HE3.out, Lib.hid (by rw [← hF.out, HC.out, take_one s k hlt, fold_bad]; rfl), by simp; omega⟩
            case measure => simp [intOf]; omega
        · have HG := Lib.hid (show badCh (r, (s.data.toList.drop k).take n) = false by
            unfold badCh
            rw [List.length_take, List.length_drop, ← size_list, show min n (s.size - k) = n by omega]
            rcases (by omega : r ≠ 65533 ∨ n ≠ 1) with h | h
            · simp [h]
            · simp [h])
          have hl4 := Lib.runeCells_le (small (r : Int))
          rw [Lib.runeCells_length] at hl4
          obtain ⟨_, hl5⟩ := hl4
          have hle5 : (Lib.encodeRune (small (r : Int))).length ≤ 4 := hl5
          clear hl5
          by_cases hr : r = 65533
          · have hn1 : ¬ n = 1 := fun h => hbad ⟨hr, h⟩
            have hb1 : (((r : Nat) : Int) == 65533) = true := by rw [hr]; rfl
            clear hr
            have hb2 : (((n : Nat) : Int) == 1) = false := by simp; omega
            cases waits
            · go_wp2_with (go_at_call 45; refine HD.out.mono ?_; rintro e w1 ⟨rfl, hb1⟩; have HB1 := Lib.hid (HB.out.keep fun b _ hb => hb1.block b hb); have HE1 := Lib.hid (HE.out.below hb1); clear hb1)
              go_wp2_with (go_at_call 48; refine (small_any _ _ (by omega) (by omega)).mono ?_; rintro e w9 ⟨rfl, rfl⟩)
              go_wp2_with fail
              refine (writeRune_any _ acc _ (small _) (by omega) (by omega) _ HB1.out (by omega)).mono ?_
              rintro e w3 ⟨⟨z, rfl⟩, hW⟩
              obtain ⟨hB3, hE3⟩ := hW.into HE1.out HE1.out.size
              have HB3 := Lib.hid hB3
              have HE3 := Lib.hid hE3
              clear hW hB3 hE3
              go_wp2
              go_roundw
              case rel => exact ⟨k + n, false, _, by omega, rfl, by go_num, HB3.out, HE3.out, Lib.hid (by rw [← hF.out, HC.out, fold_good _ _ _ _ h32 HG.out]; rfl), by simp; omega⟩
              case measure => simp [intOf]; omega
            · go_wp2_with (go_at_call 45; refine HD.out.mono ?_; rintro e w1 ⟨rfl, hb1⟩; have HB1 := Lib.hid (HB.out.keep fun b _ hb => hb1.block b hb); have HE1 := Lib.hid (HE.out.below hb1); clear hb1)
              go_wp2_with fail
              refine (writeByte_any _ acc _ 32 _ HB1.out (by omega)).mono ?_
              rintro e w2 ⟨rfl, hW⟩
              obtain ⟨hB2, hE2⟩ := hW.into HE1.out HE1.out.size
              have HB2 := Lib.hid hB2
              have HE2 := Lib.hid hE2
              clear hW hB2 hE2
              go_wp2_with (go_at_call 48; refine (small_any _ _ (by omega) (by omega)).mono ?_; rintro e w9 ⟨rfl, rfl⟩)
              go_wp2_with fail
              refine (writeRune_any _ (acc ++ [32]) _ (small _) (by omega) (by omega) _ HB2.out (by simp; omega)).mono ?_
              rintro e w3 ⟨⟨z, rfl⟩, hW⟩
              obtain ⟨hB3, hE3⟩ := hW.into HE2.out HE2.out.size
              have HB3 := Lib.hid hB3
              have HE3 := Lib.hid hE3
              clear hW hB3 hE3
              go_wp2
              go_roundw
              case rel => exact ⟨k + n, false, _, by omega, rfl, by go_num, HB3.out, HE3.out, Lib.hid (by rw [← hF.out, HC.out, fold_good _ _ _ _ h32 HG.out]; rfl), by simp; omega⟩
              case measure => simp [intOf]; omega
          · have hb1 : (((r : Nat) : Int) == 65533) = false := by simp; omega
            cases waits
            · go_wp2_with (go_at_call 45; refine HD.out.mono ?_; rintro e w1 ⟨rfl, hb1⟩; have HB1 := Lib.hid (HB.out.keep fun b _ hb => hb1.block b hb); have HE1 := Lib.hid (HE.out.below hb1); clear hb1)
              go_wp2_with (go_at_call 48; refine (small_any _ _ (by omega) (by omega)).mono ?_; rintro e w9 ⟨rfl, rfl⟩)
              go_wp2_with fail
              refine (writeRune_any _ acc _ (small _) (by omega) (by omega) _ HB1.out (by omega)).mono ?_
              rintro e w3 ⟨⟨z, rfl⟩, hW⟩
              obtain ⟨hB3, hE3⟩ := hW.into HE1.out HE1.out.size
              have HB3 := Lib.hid hB3
              have HE3 := Lib.hid hE3
              clear hW hB3 hE3
              go_wp2
              go_roundw
              case rel => exact ⟨k + n, false, _, by omega, rfl, by go_num, HB3.out, HE3.out, Lib.hid (by rw [← hF.out, HC.out, fold_good _ _ _ _ h32 HG.out]; rfl), by simp; omega⟩
              case measure => simp [intOf]; omega
            · go_wp2_with (go_at_call 45; refine HD.out.mono ?_; rintro e w1 ⟨rfl, hb1⟩; have HB1 := Lib.hid (HB.out.keep fun b _ hb => hb1.block b hb); have HE1 := Lib.hid (HE.out.below hb1); clear hb1)
              go_wp2_with fail
              refine (writeByte_any _ acc _ 32 _ HB1.out (by omega)).mono ?_
              rintro e w2 ⟨rfl, hW⟩
              obtain ⟨hB2, hE2⟩ := hW.into HE1.out HE1.out.size
              have HB2 := Lib.hid hB2
              have HE2 := Lib.hid hE2
              clear hW hB2 hE2
              go_wp2_with (go_at_call 48; refine (small_any _ _ (by omega) (by omega)).mono ?_; rintro e w9 ⟨rfl, rfl⟩)
              go_wp2_with fail
              refine (writeRune_any _ (acc ++ [32]) _ (small _) (by omega) (by omega) _ HB2.out (by simp; omega)).mono ?_
              rintro e w3 ⟨⟨z, rfl⟩, hW⟩
              obtain ⟨hB3, hE3⟩ := hW.into HE2.out HE2.out.size
              have HB3 := Lib.hid hB3
              have HE3 := Lib.hid hE3
              clear hW hB3 hE3
              go_wp2
              go_roundw
              case rel => exact ⟨k + n, false, _, by omega, rfl, by go_num, HB3.out, HE3.out, Lib.hid (by rw [← hF.out, HC.out, fold_good _ _ _ _ h32 HG.out]; rfl), by simp; omega⟩
              case measure => simp [intOf]; omega
    · go_wp2_with (go_at_call 22; refine (string_any _ _ _ _ HB.out).mono ?_; rintro e w1 ⟨rfl, _, hE1⟩)
      go_ret
      have hk' : s.data.toList.drop k = [] := List.drop_eq_nil_of_le (by rw [← size_list]; omega)
      have := hF.out
      rw [hk', chars_nil, foldF] at this
      exact ⟨ret_str this, (HE.out.trans hE1).toBelow (Nat.le_refl _) fun _ h => h⟩
end Go.Proofs.YthpbdeiphagkiaaGreatDoor
