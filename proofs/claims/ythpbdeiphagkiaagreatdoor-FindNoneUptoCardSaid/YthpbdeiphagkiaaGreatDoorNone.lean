/- FindNone: the walk. -/
import Derived.Test.YthpbdeiphagkiaaGreatDoorNof
import Derived.Test.YthpbdeiphagkiaaGreatDoorRfp
import Derived.Test.YthpbdeiphagkiaaGreatDoorBes
namespace Go.Proofs.YthpbdeiphagkiaaGreatDoor
open Go.RowKit Find

set_option maxHeartbeats 16000000 in
set_option maxRecDepth 100000 in
theorem none_walk (s : ByteArray) (cs : List Cl) (al : Option Addr) (cl : Nat) (w : World) (hT : Tabs w) (h3 : ClsN w (.slice al cs.length cl) cs) (hs : s.size ≤ 1048576) (hl3 : cs.length ≤ 1048576) (hcw : ∀ c ∈ cs, c.words.length ≤ 1048576) :
    Calls Tryz.prog 3 #[.string s, .slice al cs.length cl] w (LawPost w) := by
  have HT := Lib.hid hT
  have HCS := Lib.hid h3
  have HCW := Lib.hid hcw
  have HAW := Lib.hid (awake_any w hT)
  have HCX := Lib.hid (show ∀ c ∈ cs, c.words.length ≤ 1099511627776 from fun x hx => by have := hcw x hx; omega)
  obtain ⟨code, hcode⟩ : ∃ c, c = (parseP s.data.toList).2 := ⟨_, rfl⟩
  have HPA := Lib.hid (show ∀ W, Calls Tryz.prog 5 #[.string s] W fun e w' => ∃ v, e = .returned (.tuple #[v, .int .i64 code]) ∧ Below W.heap.size W w' from fun W => by rw [hcode]; exact rparse_any s W)
  have HSE := Lib.hid (show ∀ (p : Option Addr) (W : World), Tabs W → NoneF W p → Calls Tryz.prog 7 #[.pointer p, .string s] W fun e w' => ∃ a c, e = .returned (.tuple #[.slice a 0 c, .int .i64 code]) ∧ Below W.heap.size W w' from fun p W ht hn => by rw [hcode]; exact search_none p s W ht (by omega) hn)
  clear hT h3 hcw hcode
  go_enter Tryz.func3, Tryz.ntmps3
  go_upto_region 5 with (first
    | (go_at_call 4; refine HAW.out.mono ?_; rintro e w1 ⟨rfl, hb1⟩; have B1 := Lib.hid hb1; clear hb1)
    | (go_at_call 5; refine (HPA.out _).mono ?_; rintro e w2 ⟨v2, rfl, hb2⟩; have B2 := Lib.hid (B1.out.trans (hb2.mono B1.out.size)); clear hb2))
  go_wp2_with fail
  go_at_call 6
  have hbz := B2.out.alloc B2.out.size (.cells #[.int .i64 0, .slice none 0 0, .map none] 30)
  have hz := heap_alloc_new w2 (.cells #[.int .i64 0, .slice none 0 0, .map none] 30)
  generalize w2.alloc (.cells #[.int .i64 0, .slice none 0 0, .map none] 30) = W2 at *
  have BZ := Lib.hid hbz
  have HZ := Lib.hid (show FinderZ W2 w2.heap.size from hz)
  clear hbz hz
  refine (of_no none _ (HT.out.below BZ.out) (.inl rfl)).mono ?_
  rintro e w3 ⟨b3, rfl, hf3, hb3⟩
  have F3 := Lib.hid hf3
  have Z3 := Lib.hid (HZ.out.new hb3)
  have B3 := Lib.hid (BZ.out.trans (hb3.mono BZ.out.size))
  clear hf3 hb3
  go_wp2_with fail
  go_at_call 6
  have hbb := (Below.refl w3.heap.size w3).alloc (Nat.le_refl _) (.cells #[.int .i64 0, .slice none 0 0, .int .i64 0, .slice none 0 0, .slice none 0 0, .slice none 0 0, .slice none 0 0, .slice none 0 0, .int .i64 0, .int .i64 0] 42)
  have hbk := heap_alloc_new w3 (.cells #[.int .i64 0, .slice none 0 0, .int .i64 0, .slice none 0 0, .slice none 0 0, .slice none 0 0, .slice none 0 0, .slice none 0 0, .int .i64 0, .int .i64 0] 42)
  generalize w3.alloc (.cells #[.int .i64 0, .slice none 0 0, .int .i64 0, .slice none 0 0, .slice none 0 0, .slice none 0 0, .slice none 0 0, .slice none 0 0, .int .i64 0, .int .i64 0] 42) = W3 at *
  have hc0 : W3.cell? ⟨w3.heap.size, 0, none⟩ = some (.int .i64 0) := by rw [Lib.cell_of_heap hbk]; rfl
  have F3' := Lib.hid (F3.out.new hbb)
  have Z3' := Lib.hid (Z3.out.new hbb)
  have BB := Lib.hid (B3.out.trans (hbb.mono B3.out.size))
  clear hbb hbk
  refine (of_no _ _ (HT.out.below BB.out) (.inr ⟨_, rfl, hc0⟩)).mono ?_
  rintro e w4 ⟨b4, rfl, hf4, hb4⟩
  have F4 := Lib.hid hf4
  have F34 := Lib.hid (F3'.out.new hb4)
  have Z4 := Lib.hid (Z3'.out.new hb4)
  have B4 := Lib.hid (BB.out.trans (hb4.mono BB.out.size))
  clear hf4 hb4 hc0
  go_wp2_with fail
  have hbs := (Below.refl w4.heap.size w4).alloc (Nat.le_refl _) (.cells #[.pointer none, .pointer (some ⟨w2.heap.size, 0, none⟩), .pointer (some ⟨b3, 0, none⟩), .pointer (some ⟨b4, 0, none⟩)] 24)
  have hks := heap_alloc_new w4 (.cells #[.pointer none, .pointer (some ⟨w2.heap.size, 0, none⟩), .pointer (some ⟨b3, 0, none⟩), .pointer (some ⟨b4, 0, none⟩)] 24)
  generalize w4.alloc (.cells #[.pointer none, .pointer (some ⟨w2.heap.size, 0, none⟩), .pointer (some ⟨b3, 0, none⟩), .pointer (some ⟨b4, 0, none⟩)] 24) = W4 at *
  have HPS := Lib.hid (show ∀ k : Nat, k < 4 → ∃ p, W4.cell? ⟨w4.heap.size, k, none⟩ = some (.pointer p) ∧ NoneF W4 p from fun k hk => by
    rcases (by omega : k = 0 ∨ k = 1 ∨ k = 2 ∨ k = 3) with rfl | rfl | rfl | rfl
    · exact ⟨none, by rw [Lib.cell_of_heap hks]; rfl, .inl rfl⟩
    · exact ⟨_, by rw [Lib.cell_of_heap hks]; rfl, .inr ⟨_, rfl, .inl (Z4.out.new hbs)⟩⟩
    · exact ⟨_, by rw [Lib.cell_of_heap hks]; rfl, .inr ⟨_, rfl, .inr (F34.out.new hbs)⟩⟩
    · exact ⟨_, by rw [Lib.cell_of_heap hks]; rfl, .inr ⟨_, rfl, .inr (F4.out.new hbs)⟩⟩)
  have B5 := Lib.hid (B4.out.trans (hbs.mono B4.out.size))
  clear hbs hks F3 F3' F34 F4 Z3 Z3' Z4 B3 BB HZ BZ
  go_loopw [28] (fun q wr => ∃ k : Nat, k ≤ 4 ∧ q = .int .i64 k ∧ Hid (Below W4.heap.size W4 wr)) (fun q _ => 4 - (intOf q).toNat)
  case atStart => exact ⟨0, Nat.zero_le _, rfl, Lib.hid (Below.refl _ _)⟩
  case round =>
    obtain ⟨k, hk, rfl, hb⟩ := hrel
    obtain ⟨W, hW⟩ : ∃ W, W = wr := ⟨wr, rfl⟩
    subst hW
    by_cases hlt : k < 4
    · obtain ⟨p, hp, hnf⟩ := HPS.out k hlt
      have hpc := (hb.out.cell (p := ⟨w4.heap.size, k, none⟩) (World.block_lt_of_cell? W4 _ hp)).trans hp
      have HNF := Lib.hid (hnf.new hb.out)
      have BW := Lib.hid (B5.out.trans (hb.out.mono B5.out.size))
      have hcc : (code != code) = false := by simp
      clear hp hnf
      go_upto_region 9 with (go_at_call 7; refine (HSE.out _ _ (HT.out.below BW.out) HNF.out).mono ?_; rintro e w6 ⟨a6, c6, rfl, hb6⟩; have N6 := Lib.hid (HNF.out.new hb6); have BW6 := Lib.hid hb6; have B6 := Lib.hid (BW.out.trans (hb6.mono BW.out.size)); clear hb6)
      have HCL := Lib.hid (clauses_any cs al cl w6 (HCS.out.new B6.out) hl3 HCX.out)
      go_wp2_with fail
      go_at_call 9
      refine HCL.out.mono ?_
      rintro e w7 ⟨a7, c7, rfl, hs7, hb7⟩
      have S7 := Lib.hid hs7
      have N7 := Lib.hid (N6.out.new hb7)
      have BW7 := Lib.hid (BW6.out.trans (hb7.mono BW6.out.size))
      have B7 := Lib.hid (BW.out.trans (BW7.out.mono BW.out.size))
      clear hs7 hb7
      go_wp2_with fail
      go_at_call 8
      refine (ask_none cs p a7 c7 w7 N7.out S7.out hl3 HCX.out).mono ?_
      rintro e w8 ⟨a8, c8, rfl, hb8⟩
      have N8 := Lib.hid (N7.out.new hb8)
      have BW8 := Lib.hid (BW7.out.trans (hb8.mono BW7.out.size))
      have B8 := Lib.hid (BW.out.trans (BW8.out.mono BW.out.size))
      clear hb8
      go_wp2_with fail
      go_at_call 10
      refine (count_none p s w8 (HT.out.below B8.out) (by omega) N8.out).mono ?_
      rintro e w9 ⟨rfl, hb9⟩
      have N9 := Lib.hid (N8.out.new hb9)
      have BW9 := Lib.hid (BW8.out.trans (hb9.mono BW8.out.size))
      have B9 := Lib.hid (BW.out.trans (BW9.out.mono BW.out.size))
      clear hb9
      go_wp2_with fail
      go_at_call 11
      refine (begin_none p s w9 (HT.out.below B9.out) (by omega) N9.out).mono ?_
      rintro e w10 ⟨a10, c10, rfl, hb10⟩
      have BW10 := Lib.hid (BW9.out.trans (hb10.mono BW9.out.size))
      clear hb10
      go_wp2_with fail
      go_roundw
      case rel => exact ⟨k + 1, by omega, by go_num, Lib.hid (hb.out.trans (BW10.out.mono hb.out.size))⟩
      case measure => simp [intOf] <;> omega
    · go_wp2_with fail
      go_ret
      exact ⟨rfl, B5.out.trans (hb.out.mono B5.out.size)⟩
end Go.Proofs.YthpbdeiphagkiaaGreatDoor
