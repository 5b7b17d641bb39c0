/- strings.Cut at one byte, strings.IndexRune and strings.IndexAny at a blank and a quote, text.Plain. -/
import Derived.Test.YthpbdeiphagkiaaGreatDoorBegin
import Derived.Lib.IndexAny
namespace Go.Proofs.YthpbdeiphagkiaaGreatDoor
open Go.RowKit Find

@[irreducible] def BQ : ByteArray := ⟨#[32, 34]⟩
theorem BQ_eq : BQ = ⟨#[32, 34]⟩ := by unfold BQ; rfl
theorem BQ_size : BQ.size = 2 := by rw [BQ_eq]; rfl

set_option maxHeartbeats 2000000 in
set_option maxRecDepth 100000 in
/-- strings.IndexRune of U+FFFD in a blank and a quote: there is none. -/
theorem indexRune_fffd (w : World) :
    Calls Tryz.prog 87 #[.string ⟨#[32, 34]⟩, .int .i32 65533] w fun e w' => e = .returned (.int .i64 (-1)) ∧ Below w.heap.size w w' := by
  rw [← BQ_eq]
  have HS := Lib.hid BQ_size
  go_enter Tryz.func87, Tryz.ntmps87
  go_wp2
  go_loopw [] (fun wr => ∃ pos : Nat, pos ≤ 2 ∧ wr.heap[w.heap.size]? = some (.stringIter BQ pos) ∧ Below w.heap.size w wr) (fun wr => 2 - wr.iterPos w.heap.size)
  case atStart => exact ⟨0, by omega, World.iter_heap w BQ 0, (Below.refl _ _).alloc (Nat.le_refl _) _⟩
  case round =>
    obtain ⟨pos, hpos, hit, hb⟩ := hrel
    have HB := Lib.hid hb
    have HIT := Lib.hid hit
    clear hb
    by_cases hp : pos < 2
    · have hc : (BQ[pos]'(by rw [HS.out]; exact hp)).toNat = 32 ∨ (BQ[pos]'(by rw [HS.out]; exact hp)).toNat = 34 := by
        have : ∀ (b : ByteArray) (hb : b = ⟨#[32, 34]⟩) (h : pos < b.size), (b[pos]'h).toNat = 32 ∨ (b[pos]'h).toNat = 34 := by
          rintro b rfl h
          rcases (by omega : pos = 0 ∨ pos = 1) with rfl | rfl
          · left; rfl
          · right; rfl
        exact this _ BQ_eq _
      have hnx : ∀ ty, (Instr.next (.pointer (some ⟨w.heap.size, 0, none⟩)) true ty).run Tryz.prog wr = _ := fun ty => Lib.run_next_ascii_at wr w.heap.size BQ pos ty hit (by rw [HS.out]; exact hp) (by omega)
      generalize (BQ[pos]'(by rw [HS.out]; exact hp)).toNat = cc at *
      have hne : ((cc : Int) == 65533) = false := by rw [beq_eq_false_iff_ne]; omega
      clear hit hc
      go_wp2
      go_roundw
      case rel => exact ⟨pos + 1, by omega, Lib.iterAt_heap wr w.heap.size BQ pos _ HIT.out, Lib.below_iterAt HB.out (Nat.le_refl _) _ _⟩
      case measure =>
        have := Lib.iterAt_heap wr w.heap.size BQ pos (pos + 1) HIT.out
        simp only [World.iterPos, this, HIT.out]; omega
    · have hnx : ∀ ty, (Instr.next (.pointer (some ⟨w.heap.size, 0, none⟩)) true ty).run Tryz.prog wr = _ := fun ty => Lib.run_next_end_at wr w.heap.size BQ pos ty hit (by rw [HS.out]; exact hp)
      clear hit
      go_wp2
      go_ret
      exact ⟨rfl, HB.out⟩

theorem quiet_add_same {P : Program} {f : FuncId} {args : Array Value} {w : World} {a n : Nat} {v : Value}
    (h : Calls P f args (w.drewN (a + n)) fun e w' => e = .returned v ∧ w' = w.drewN (a + n)) :
    Calls P f args (w.drewN (a + n)) fun e w'' => e = .returned v ∧ ∃ m, w'' = w.drewN (a + m) :=
  h.mono fun _ _ ⟨he, hm⟩ => ⟨he, n, hm⟩
theorem enc_hi (r : Int) (h0 : 128 ≤ r) (h1 : r ≤ 1114111) : ∃ E : ByteArray, Utf8.encode r = E ∧ 2 ≤ E.size ∧ E.size ≤ 4 ∧ ∀ (h : 1 < E.size), 128 ≤ (E[1]'h).toNat := by
  refine ⟨_, rfl, ?_⟩
  rw [encode_eq]
  have key : ∀ l : List UInt8, 2 ≤ l.length → l.length ≤ 4 → 128 ≤ (l.getD 1 0).toNat → 2 ≤ (⟨l.toArray⟩ : ByteArray).size ∧ (⟨l.toArray⟩ : ByteArray).size ≤ 4 ∧ ∀ (h : 1 < (⟨l.toArray⟩ : ByteArray).size), 128 ≤ ((⟨l.toArray⟩ : ByteArray)[1]'h).toNat := by
    intro l a b c
    refine ⟨by show 2 ≤ l.toArray.size; simpa using a, by show l.toArray.size ≤ 4; simpa using b, fun h => ?_⟩
    have : (⟨l.toArray⟩ : ByteArray)[1]'h = l.getD 1 0 := by
      rw [List.getD_eq_getElem?_getD, List.getElem?_eq_getElem (by omega)]; rfl
    rw [this]; exact c
  have byte : ∀ z : Int, 128 ≤ z → z < 256 → 128 ≤ z.toNat.toUInt8.toNat := fun z a b => by
    have : z.toNat.toUInt8.toNat = z.toNat := by
      rw [Nat.toUInt8, UInt8.toNat_ofNat']; omega
    omega
  unfold Lib.encodeRune
  by_cases c1 : r ≤ 2047
  · rw [Lib.encodeRuneZ_two h0 c1]
    exact key _ (by simp) (by simp) (byte _ (by omega) (by omega))
  by_cases c2 : 55296 ≤ r ∧ r ≤ 57343
  · rw [Lib.encodeRuneZ_bad (by omega)]
    exact key _ (by simp) (by simp) (byte _ (by omega) (by omega))
  by_cases c3 : r ≤ 65535
  · rw [Lib.encodeRuneZ_three (by omega)]
    exact key _ (by simp) (by simp) (byte _ (by omega) (by omega))
  · rw [Lib.encodeRuneZ_four (by omega) h1]
    exact key _ (by simp) (by simp) (byte _ (by omega) (by omega))

set_option maxHeartbeats 2000000 in
set_option maxRecDepth 100000 in
theorem indexRune_hi (r : Int) (w : World) (h0 : 128 ≤ r) (h1 : r ≤ 1114111) (hv : Utf8.valid r = true) :
    Calls Tryz.prog 87 #[.string ⟨#[32, 34]⟩, .int .i32 r] w fun e w' => e = .returned (.int .i64 (-1)) ∧ Below w.heap.size w w' := by
  by_cases hr : r = 65533
  · subst hr; exact indexRune_fffd w
  obtain ⟨E, hE, hE1, hE2, hE3⟩ := enc_hi r h0 h1
  rw [← BQ_eq]
  have hS := BQ_size
  have hb : (r == 65533) = false := by simpa using hr
  have hvr : Lib.validRune r = true := by
    rw [valid_iff] at hv
    simp only [Lib.validRune, decide_eq_true_eq]; omega
  clear hr hv
  by_cases hsz : E.size = 2
  · have hq : (BQ[1]'(by rw [BQ_size]; decide)).toNat = 34 := by
      have : ∀ (b : ByteArray) (hb : b = ⟨#[32, 34]⟩) (h : 1 < b.size), (b[1]'h).toNat = 34 := by rintro b rfl h; rfl
      exact this _ BQ_eq _
    have hc := hE3 (by omega)
    go_enter Tryz.func87, Tryz.ntmps87
    go_wp2_with (go_at_call 107; refine (Tryz.utf8_ValidRune _ _).mono ?_; rintro e w' ⟨rfl, rfl⟩)
    go_step3
    go_wp2_with fail
    go_loopw [9] (fun q wr => q = .int .i64 1 ∧ w' = wr) (fun _ _ => 0)
    case atStart => exact ⟨rfl, rfl⟩
    case round =>
      obtain ⟨rfl, rfl⟩ := hrel
      have hne : ((34 : Int) != ((E[1]'(by omega)).toNat : Int)) = true := by rw [bne_iff_ne]; omega
      go_wp2_with fail
      go_step3
      go_wp2_with fail
      have hbx : ∀ (c : Int) W, Calls Tryz.prog 106 #[.string ByteArray.empty, .int .u8 c] W fun e w' => e = .returned (.int .i64 (-1)) ∧ w' = W := fun c W => (Tryz.strings_IndexByte ByteArray.empty c W).mono fun e w' ⟨h1, h2⟩ => ⟨by rw [h1]; rfl, h2⟩
      have HBX := Lib.hid hbx
      clear hbx
      have hs1 : IntKind.i64.wrap ((1 : Int) + 1) = 2 := rfl
      go_quiet (fail)
      go_wp2_with fail
      obtain ⟨W1, hW1⟩ : ∃ W, W = w'.drewN nq := ⟨_, rfl⟩
      rw [← hW1]
      have HB1 := Lib.hid (show Below w'.heap.size w' W1 by rw [hW1]; exact below_drewN (Below.refl _ _) _)
      clear hW1
      go_quiet ((go_at_call 106; exact Calls.quiet_of_same (HBX.out _ _)))
      go_wp2_with fail
      repeat rw [Exit.noGoto_ret]
      simp (config := { zetaDelta := true }) only [Exit.inBlock, Exit.noGoto_ret, Exit.then]
      go_ret
      exact ⟨rfl, below_drewN HB1.out _⟩
  · have hsz' : 3 ≤ E.size := by omega
    clear hsz
    have hlo : ¬ ((E.size : Int) - 1 < 2) := by omega
    go_enter Tryz.func87, Tryz.ntmps87
    go_wp2_with (go_at_call 107; refine (Tryz.utf8_ValidRune _ _).mono ?_; rintro e w' ⟨rfl, rfl⟩)
    go_step3
    go_wp2_with fail
    go_loopw [9] (fun q wr => q = .int .i64 (E.size - 1) ∧ w' = wr) (fun _ _ => 0)
    case atStart => exact ⟨rfl, rfl⟩
    case round =>
      obtain ⟨rfl, rfl⟩ := hrel
      go_wp2_with fail
      rw [Exit.noGoto_ret]
      go_ret
      exact ⟨rfl, Below.refl _ _⟩

theorem dec_bytes (l : List UInt8) (h : 128 ≤ (decL l).1) : ∀ k, k < (decL l).2 → 128 ≤ (l.getD k 0).toNat := by
  intro k hk
  unfold decL at *
  simp only [Bool.and_eq_true, decide_eq_true_eq, beq_iff_eq] at *
  have k4 : (decL l).2 ≤ 4 := by
    unfold decL
    simp only
    repeat' split
    all_goals simp
  split at h
  · simp only at h; omega
  · rename_i c0
    have e0 : k = 0 → 128 ≤ (l.getD k 0).toNat := fun e => by rw [e]; omega
    rw [if_neg c0] at hk
    split at hk
    · rename_i c1
      split at hk
      · simp only at hk
        rcases (by omega : k = 0 ∨ k = 1) with rfl | rfl
        · omega
        · omega
      · simp only at hk; exact e0 (by omega)
    · split at hk
      · rename_i c1
        split at hk
        · simp only at hk
          rcases (by omega : k = 0 ∨ k = 1 ∨ k = 2) with rfl | rfl | rfl
          · omega
          · omega
          · omega
        · simp only at hk; exact e0 (by omega)
      · split at hk
        · rename_i c1
          split at hk
          · simp only at hk
            rcases (by omega : k = 0 ∨ k = 1 ∨ k = 2 ∨ k = 3) with rfl | rfl | rfl | rfl
            · omega
            · omega
            · omega
            · omega
          · simp only at hk; exact e0 (by omega)
        · simp only at hk; exact e0 (by omega)
theorem dec_ascii (l : List UInt8) (h : (decL l).1 < 128) : (l.getD 0 0).toNat = (decL l).1 := by
  have hb : (l.getD 0 0).toNat < 128 := by
    apply Classical.byContradiction
    intro hn
    have hk := decL_pos l
    unfold decL at h
    simp only [Bool.and_eq_true, decide_eq_true_eq, beq_iff_eq] at h
    rw [if_neg (by omega)] at h
    split at h
    · split at h
      · simp only at h; omega
      · simp only at h; omega
    · split at h
      · split at h
        · rename_i c; simp only at h; simp only [ge_iff_le] at c; omega
        · simp only at h; omega
      · split at h
        · split at h
          · rename_i c; simp only at h; simp only [ge_iff_le] at c; omega
          · simp only at h; omega
        · simp only at h; omega
  unfold decL
  simp only
  rw [if_pos hb]

theorem indexByte_bq (r : Nat) (h : r < 128) : 0 ≤ Lib.indexByte [32, 34] ((r : Int).toNat.toUInt8) ↔ ([32, 34] : List UInt8).contains (UInt8.ofNat r) = true := by
  have : (r : Int).toNat.toUInt8 = UInt8.ofNat r := rfl
  rw [this]
  have key : ∀ r : Fin 128, 0 ≤ Lib.indexByte [32, 34] (UInt8.ofNat r.1) ↔ ([32, 34] : List UInt8).contains (UInt8.ofNat r.1) = true := by decide
  exact key ⟨r, h⟩

theorem zero_set : ∀ w, (zeroValue 151).run Tryz.prog w = .ok (.agg (Array.replicate 256 (.bool false))) w := fun w => by kernel_rfl

set_option maxHeartbeats 4000000 in
set_option maxRecDepth 100000 in
/-- strings.IndexAny of a blank and a quote in any text. -/
theorem indexAny_any (s : ByteArray) (w : World) (hs : s.size ≤ 1000) :
    Calls Tryz.prog 58 #[.string s, .string ⟨#[32, 34]⟩] w fun e w' => e = .returned (.int .i64 (Lib.indexAny s.data.toList [32, 34])) ∧ Below w.heap.size w w' := by
  by_cases h8 : 8 < s.size
  · refine (Tryz.strings_IndexAny_long zero_set s ⟨#[32, 34]⟩ w (by decide) h8 (by omega) (by decide) ?_).mono ?_
    · intro j b hb
      have : b ∈ ([32, 34] : List UInt8) := List.mem_of_getElem? hb
      simp only [List.mem_cons, List.not_mem_nil, or_false] at this
      rcases this with rfl | rfl <;> decide
    · rintro e w' ⟨rfl, rfl⟩
      exact ⟨rfl, ((Below.refl _ _).alloc (Nat.le_refl _) _).alloc (by simp) _⟩
  · have hd8 : decide ((8 : Int) < (s.size : Int)) = false := decide_eq_false (by omega)
    have HR := Lib.hid (show ∀ r W, 128 ≤ r → r ≤ 1114111 → Utf8.valid r = true → Calls Tryz.prog 87 #[.string BQ, .int .i32 r] W fun e w' => e = .returned (.int .i64 (-1)) ∧ Below W.heap.size W w' from by rw [BQ_eq]; exact fun r W h0 h1 hv => indexRune_hi r W h0 h1 hv)
    have HA := Lib.hid (show ∀ (r : Int) W, 0 ≤ r → r < 128 → Calls Tryz.prog 87 #[.string BQ, .int .i32 r] W fun e w' => e = .returned (.int .i64 (Lib.indexByte [32, 34] r.toNat.toUInt8)) ∧ W = w' from by rw [BQ_eq]; exact fun r W h0 h1 => (Tryz.strings_IndexRune_ascii ⟨#[32, 34]⟩ r W h0 h1).mono fun e w' ⟨h1, h2⟩ => ⟨h1, h2.symm⟩)
    rw [← BQ_eq]
    have hS := BQ_size
    have hne : BQ.toList.isEmpty = false := by
      rw [BQ_eq, Bool.eq_false_iff]
      intro h
      have h1 := List.isEmpty_iff.1 h
      have h2 : (⟨#[32, 34]⟩ : ByteArray).toList = [32, 34] := by rw [Lib.toList_data]
      rw [h2] at h1; cases h1
    go_enter Tryz.func58, Tryz.ntmps58
    go_wp2_with (go_at_call 88; refine (Tryz.strings_shouldUseASCIISet _ _).mono ?_; rintro e w' ⟨rfl, rfl⟩)
    go_loopw [] (fun wr => ∃ pos : Nat, pos ≤ s.size ∧ wr.heap[w'.heap.size]? = some (.stringIter s pos) ∧ Lib.NoAny s.data.toList [32, 34] pos ∧ Below w'.heap.size w' wr) (fun wr => s.size - wr.iterPos w'.heap.size)
    case atStart => exact ⟨0, Nat.zero_le _, World.iter_heap w' s 0, Lib.NoAny.zero _ _, (Below.refl _ _).alloc (Nat.le_refl _) _⟩
    case round =>
      obtain ⟨pos, hpos, hit, hno, hb⟩ := hrel
      have HB := Lib.hid hb
      have HIT := Lib.hid hit
      have HNO := Lib.hid hno
      clear hb hno
      by_cases hp : pos < s.size
      · have hnx : ∀ ty, (Instr.next (.pointer (some ⟨w'.heap.size, 0, none⟩)) true ty).run Tryz.prog wr = _ := fun ty => Lib.run_next_any_at wr w'.heap.size s pos ty hit hp
        rw [decode_eq] at hnx
        obtain ⟨hr1, hr2⟩ := decL_hi (s.data.toList.drop pos)
        have hn := decL_len (s.data.toList.drop pos) (by intro e; have := congrArg List.length e; rw [List.length_drop, ← size_list] at this; simp at this; omega)
        rw [List.length_drop, ← size_list] at hn
        have hvv := decL_valid (s.data.toList.drop pos)
        have hby := dec_bytes (s.data.toList.drop pos)
        have has := dec_ascii (s.data.toList.drop pos)
        have hsm := decL_small (s.data.toList.drop pos)
        have hgd : ∀ k, (s.data.toList.drop pos).getD k 0 = s.data.toList.getD (pos + k) 0 := fun k => by rw [List.getD_eq_getElem?_getD, List.getElem?_drop, ← List.getD_eq_getElem?_getD]
        have hIT := Lib.iterAt_heap wr w'.heap.size s pos (pos + (decL (s.data.toList.drop pos)).2) hit
        have hBI := Lib.below_iterAt HB.out (Nat.le_refl _) s (pos + (decL (s.data.toList.drop pos)).2)
        generalize hr : (decL (s.data.toList.drop pos)).1 = r at *
        generalize hnn : (decL (s.data.toList.drop pos)).2 = n at *
        clear hr hnn hit
        have HVV := Lib.hid hvv
        have HBY := Lib.hid hby
        have HAS := Lib.hid has
        have HSM := Lib.hid hsm
        have HGD := Lib.hid hgd
        have HI2 := Lib.hid hIT
        have HB2 := Lib.hid hBI
        clear hvv hby has hsm hgd hIT hBI
        have hlen : s.data.toList.length = s.size := (size_list s).symm
        have HLEN := Lib.hid hlen
        clear hlen
        by_cases hlo : r < 128
        · have hb1 := indexByte_bq r hlo
          have HA1 := HA.out (r : Int) (wr.iterAt w'.heap.size s (pos + n)) (by omega) (by omega)
          have hge := Lib.indexByte_ge [32, 34] ((r : Int).toNat.toUInt8)
          generalize Lib.indexByte [32, 34] ((r : Int).toNat.toUInt8) = xi at *
          have HA2 := Lib.hid HA1
          clear HA1
          have HE := Lib.hid (show s.data.toList[pos]? = some (UInt8.ofNat r) from by
            have h1 := HAS.out hlo
            rw [HGD.out, Nat.add_zero, List.getD_eq_getElem?_getD, List.getElem?_eq_getElem (by rw [HLEN.out]; exact hp), Option.getD_some] at h1
            rw [List.getElem?_eq_getElem (by rw [HLEN.out]; exact hp), ← h1, UInt8.ofNat_toNat])
          by_cases hin : 0 ≤ xi
          · have HIN := Lib.hid (hb1.1 hin)
            clear hb1
            go_wp2_with (go_at_call 87; refine HA2.out.mono ?_; rintro e w9 ⟨rfl, rfl⟩)
            go_ret
            exact ⟨ret_int (by rw [Lib.indexAny_hit HNO.out HE.out HIN.out]), HB2.out⟩
          · have HIN := Lib.hid (show ([32, 34] : List UInt8).contains (UInt8.ofNat r) = false from by
              rw [Bool.eq_false_iff]; exact fun h => hin (hb1.2 h))
            have hn1 := Lib.hid (HSM.out hlo)
            obtain rfl : xi = -1 := by omega
            clear hb1 hin hge
            go_wp2_with (go_at_call 87; refine HA2.out.mono ?_; rintro e w9 ⟨rfl, h9⟩; have H9 := Lib.hid h9; clear h9)
            go_roundw
            case rel => rw [← H9.out]; exact ⟨pos + n, by omega, HI2.out, by rw [hn1.out]; exact HNO.out.succ HE.out HIN.out, HB2.out⟩
            case measure => rw [← H9.out]; simp only [World.iterPos, HI2.out, HIT.out]; omega
        · have HNA := Lib.hid (show Lib.NoAny s.data.toList [32, 34] (pos + n) from fun j b hj hb => by
            by_cases hjp : j < pos
            · exact HNO.out j b hjp hb
            · have h1 := HBY.out (by omega) (j - pos) (by omega)
              rw [HGD.out, show pos + (j - pos) = j by omega, List.getD_eq_getElem?_getD, hb, Option.getD_some] at h1
              simp only [List.contains_cons, List.contains_nil, Bool.or_false, Bool.or_eq_false_iff, beq_eq_false_iff_ne]
              constructor
              · rintro rfl; exact absurd h1 (by decide)
              · rintro rfl; exact absurd h1 (by decide))
          have HR1 := Lib.hid (HR.out (r : Int) (wr.iterAt w'.heap.size s (pos + n)) (by omega) (by omega) HVV.out)
          go_wp2_with (go_at_call 87; refine HR1.out.mono ?_; rintro e w9 ⟨rfl, hb9⟩)
          go_roundw
          case rel => exact ⟨pos + n, by omega, (hb9.block _ (lt_of_heap HI2.out)).trans HI2.out, HNA.out, HB2.out.trans (hb9.mono HB2.out.size)⟩
          case measure => simp only [World.iterPos, (hb9.block _ (lt_of_heap HI2.out)).trans HI2.out, HIT.out]; omega
      · have hnx : ∀ ty, (Instr.next (.pointer (some ⟨w'.heap.size, 0, none⟩)) true ty).run Tryz.prog wr = _ := fun ty => Lib.run_next_end_at wr w'.heap.size s pos ty hit hp
        have HE := Lib.hid (show Lib.indexAny s.data.toList [32, 34] = -1 from Lib.indexAny_none (by rw [← size_list, show s.size = pos by omega]; exact HNO.out))
        clear hit
        go_wp2
        go_ret
        exact ⟨ret_int HE.out.symm, HB.out⟩
end Go.Proofs.YthpbdeiphagkiaaGreatDoor
