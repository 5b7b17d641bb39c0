/- FindOpen: the walk. -/
import Derived.Test.YthpbdeiphagkiaaDoorOpenF
namespace Go.Proofs.YthpbdeiphagkiaaDoor
open Go.RowKit Find

set_option maxHeartbeats 16000000 in
set_option maxRecDepth 100000 in
theorem open_walk (TT XX : List Wd) (s : ByteArray) (at_ ax : Option Addr) (ct cx : Nat) (w : World) (hT : Tabs w) (h1 : StrSl w (.slice at_ TT.length ct) TT) (h2 : StrSl w (.slice ax XX.length cx) XX)
    (hn1 : at_ = none → ct = 0) (hn2 : ax = none → cx = 0) (hst : ∀ x ∈ TT, x.length ≤ 1048576) (hsx : ∀ x ∈ XX, x.length ≤ 1048576) (hl1 : TT.length ≤ 1048576) (hl2 : XX.length ≤ 1048576) (hs : s.size ≤ 1048576) :
    Calls Tryd.prog 5 #[.slice at_ TT.length ct, .slice ax XX.length cx, .string s] w (LawPost w) := by
  have hz3 : Tryd.prog.cellsOf 31 = 3 := by kernel_rfl
  have hz4 : Tryd.prog.cellsOf 48 = 3 := by kernel_rfl
  have HT := Lib.hid hT
  have HST := Lib.hid hst
  have HSX := Lib.hid hsx
  have HAW := Lib.hid (awake_any w hT)
  have HTW1 := Lib.hid (show ∀ W, Below w.heap.size w W → _ from fun W hb => twin_slice TT (.slice at_ TT.length ct) W (h1.new hb) (fun c e => by injection e with e1 e2 e3; subst e3; exact hn1 e1) (by omega))
  have HTW2 := Lib.hid (show ∀ W, Below w.heap.size w W → _ from fun W hb => twin_slice XX (.slice ax XX.length cx) W (h2.new hb) (fun c e => by injection e with e1 e2 e3; subst e3; exact hn2 e1) (by omega))
  have HWO := Lib.hid (show ∀ W, Below w.heap.size w W → _ from fun W hb => words_slice s W (hT.below hb) (by omega))
  have hwl := (words_len s.data.toList).1
  rw [← size_list] at hwl
  have hww := words_word s.data.toList
  have hwk := fun k => word_le (s := s.data.toList) (k := k)
  rw [← size_list] at hwk
  generalize words s.data.toList = ws at *
  clear hT h1 h2 hn1 hn2 hst hsx
  by_cases hok : TT.length = XX.length ∧ TT.length ≤ 1000
  · obtain ⟨hlen, hmany⟩ := hok
    have HNEW := Lib.hid (show ∀ (a1 a2 : Option Addr) (c1 c2 : Nat) W, Tabs W → StrRow W (.slice a1 TT.length c1) TT → StrRow W (.slice a2 XX.length c2) XX → _ from fun a1 a2 c1 c2 W ht r1 r2 => new_any TT XX a1 a2 c1 c2 W ht hlen hmany HST.out HSX.out r1.sl r2.sl)
    have HLEN := Lib.hid hlen
    clear hlen
    by_cases hw1 : ws.length = 1 ∧ TT.length ≤ 100
    · obtain ⟨hw1, h100⟩ := hw1
      obtain ⟨x, rfl⟩ := List.length_eq_one_iff.1 hw1
      have HXW := Lib.hid (hww x (by simp))
      have hxl := hwk x (by simp)
      clear hw1 hwl hww hwk
      simp only [List.length_cons, List.length_nil, Nat.zero_add] at HWO
      have h100i : ¬ (100 : Int) < (TT.length : Int) := by omega
      go_enter Tryd.func5, Tryd.ntmps5
      go_upto_region 8 with (first
        | (go_at_call 7; refine HAW.out.mono ?_; rintro e w1 ⟨rfl, hb1⟩; have B1 := Lib.hid hb1; clear hb1)
        | (go_at_call_of 9 (Value.slice at_ TT.length ct); refine (HTW1.out _ B1.out).mono ?_; rintro e w2 ⟨a1, c1, rfl, hr1, hb2⟩; have R1 := Lib.hid hr1; have B2 := Lib.hid (B1.out.trans (hb2.mono B1.out.size)); clear hr1 hb2)
        | (go_at_call_of 9 (Value.slice ax XX.length cx); refine (HTW2.out _ B2.out).mono ?_; rintro e w3 ⟨a2, c2, rfl, hr2, hb3⟩; have R2 := Lib.hid hr2; have R1' := Lib.hid (owns_new R1.out hb3); have B3 := Lib.hid (B2.out.trans (hb3.mono B2.out.size)); clear hr2 hb3)
        | (go_at_call 8; refine (HNEW.out _ _ _ _ _ (HT.out.below B3.out) R1'.out R2.out).mono ?_; rintro e w4 ⟨b, rfl, hf4, hb4⟩; have F4 := Lib.hid hf4; have B4 := Lib.hid (B3.out.trans (hb4.mono B3.out.size)); clear hf4 hb4)
        | (go_at_call 10; refine (HWO.out _ B4.out).mono ?_; rintro e w5 ⟨a5, c5, rfl, hr5, hb5⟩; have R5 := Lib.hid hr5; have F5 := Lib.hid (F4.out.new hb5); have B5 := Lib.hid (B4.out.trans (hb5.mono B4.out.size)); clear hr5 hb5))
      have HNN := Lib.hid (wordsLL_small HST.out HSX.out)
      have hLL := wordsLL_len HLEN.out
      have HKY := Lib.hid (wordsLL_keys HST.out HSX.out)
      generalize wordsLL TT XX = LL at *
      have hLn : LL.length ≤ 1000 := by omega
      obtain ⟨g5, o5, c5', ha5, hx5⟩ := (StrRow.sl (l := [x]) R5.out).some_ (k := 0) (by simp)
      simp only [Value.slice.injEq] at ha5
      obtain ⟨rfl, -, rfl⟩ := ha5
      rw [Nat.add_zero] at hx5
      have hx5' : w5.cell? ⟨g5, o5, none⟩ = some (st x) := hx5
      have HBE := Lib.hid (begin_any LL b ⟨x.toArray⟩ w5 (HT.out.below B5.out) (by show x.toArray.size ≤ _; rw [List.size_toArray]; omega) F5.out (fun k hk => by have := HKY.out k hk; unfold maxLen; omega) (keys_many HNN.out hLn))
      clear hx5 hLL
      go_wp2_with (go_at_call 19; refine HBE.out.mono ?_; rintro e w6 ⟨v6, R, rfl, hnd, hmem, hRl, hsl, hb6⟩; obtain ⟨a6, c6, rfl, hsc⟩ := hsl; have MEM := Lib.hid hmem; have SL6 := Lib.hid (show StrSl w6 (.slice a6 R.length c6) R from ⟨a6, c6, rfl, hsc⟩); have R6 := Lib.hid (owns_new R5.out hb6); have F6 := Lib.hid (F5.out.new hb6); have B6 := Lib.hid (B5.out.trans (hb6.mono B5.out.size)); clear hnd hmem hsc hb6)
      have HMM := Lib.hid (show ∀ k, k ∈ R ↔ spotsOf LL k ≠ [] ∧ x <+: k from fun k => by
        have := MEM.out k
        rwa [show Find.start (⟨x.toArray⟩ : ByteArray).data.toList = x from HXW.out.start] at this)
      clear MEM HBE hx5'
      go_loopw [10, 45] (fun v q wr => ∃ (k : Nat) (av : Option Addr) (cv : Nat) (T : List Int), k ≤ R.length ∧ q = .int .i64 k ∧ v = .slice av T.length cv ∧ T.length ≤ 1000 ∧ Hid (T.Pairwise (· < ·)) ∧ Hid (∀ t, t ∈ T ↔ ∃ y ∈ R.take k, t ∈ okTopics LL [Find.one y]) ∧ Hid (T = [] → av = none ∧ cv = 0) ∧ Hid (IntRow wr (.slice av T.length cv) T) ∧ Hid (Below w6.heap.size w6 wr)) (fun _ q _ => R.length - (intOf q).toNat)
      case atStart => exact ⟨0, none, 0, [], Nat.zero_le _, rfl, rfl, by simp, Lib.hid List.Pairwise.nil, Lib.hid (by simp), Lib.hid fun _ => ⟨rfl, rfl⟩, Lib.hid (World.ownsRow_nil _ _ _ _), Lib.hid (Below.refl _ _)⟩
      case round =>
        obtain ⟨k, av, cv, T, hk, rfl, rfl, hTl, hTs, hTm, hnil, hrow, hbw⟩ := hrel
        have BWW := Lib.hid (B6.out.trans (hbw.out.mono B6.out.size))
        by_cases hlt : k < R.length
        · obtain ⟨g6, o6, c6', ha6, hy⟩ := (SL6.out.new hbw.out).some_ hlt
          simp only [Value.slice.injEq] at ha6
          obtain ⟨rfl, -, rfl⟩ := ha6
          have htk : R.take (k + 1) = R.take k ++ [R[k]] := List.take_succ_eq_append_getElem hlt
          generalize R[k] = y at *
          have HTK := Lib.hid htk
          clear htk
          have HASK := Lib.hid (ask_built (x := y) (no := false) (opn := false) (F6.out.new hbw.out) HNN.out hLn)
          have HBA := Lib.hid ((Below.refl wr.heap.size wr).alloc (Nat.le_refl _) (.cells #[st y] 9))
          go_wp2_with (first
            | (go_at_call 14; refine HASK.out.mono ?_; rintro e w7 ⟨a7, c7, Q, rfl, hto, hQl, hfn, hb7⟩; have TO := Lib.hid (show Find.Told LL [Find.one y] Q from hto); have FN := Lib.hid hfn; have B7 := Lib.hid hb7; clear hto hfn hb7)
            | (go_at_call 13; refine (topics_any Q a7 c7 _ FN.out (by omega)).mono ?_; rintro e w8 ⟨a8, c8, U, rfl, hri, hUl, _, hrU, hb8⟩; have RI := Lib.hid (show U = okTopics LL [Find.one y] from topics_told TO.out hri); have RU := Lib.hid hrU; have B8 := Lib.hid (B7.out.trans (hb8.mono B7.out.size)); clear hri hrU hb8))
          go_loopw [10, 57] (fun v q W => ∃ (j : Nat) (av2 : Option Addr) (cv2 : Nat) (T2 : List Int), j ≤ U.length ∧ q = .int .i64 j ∧ v = .slice av2 T2.length cv2 ∧ T2.length ≤ 1000 ∧ Hid (T2.Pairwise (· < ·)) ∧ Hid (∀ t, t ∈ T2 ↔ t ∈ T ∨ t ∈ U.take j) ∧ Hid (T2 = [] → av2 = none ∧ cv2 = 0) ∧ Hid (IntRow W (.slice av2 T2.length cv2) T2) ∧ Hid (Below w8.heap.size w8 W)) (fun _ q _ => U.length - (intOf q).toNat)
          case atStart => exact ⟨0, av, cv, T, Nat.zero_le _, rfl, rfl, hTl, hTs, Lib.hid (by simp), hnil, Lib.hid (hrow.out.new B8.out), Lib.hid (Below.refl _ _)⟩
          case round =>
            obtain ⟨j, av2, cv2, T2, hj, rfl, rfl, hT2l, hT2s, hT2m, hnil2, hrow2, hbw2⟩ := hrel
            by_cases hltj : j < U.length
            · obtain ⟨g8, hg8, hcell⟩ := (RU.out.new hbw2.out).at_ hltj
              subst hg8
              have htk2 : U.take (j + 1) = U.take j ++ [U[j]] := List.take_succ_eq_append_getElem hltj
              have hUm : U[j] ∈ okTopics LL [Find.one y] := by rw [← RI.out]; exact List.getElem_mem hltj
              generalize U[j] = t at *
              have HTK2 := Lib.hid htk2
              have HUM := Lib.hid hUm
              have HRS := Lib.hid (rise_any T2 t av2 cv2 wr hrow2.out hnil2.out (by omega) hT2s.out)
              clear htk2 hUm
              go_wp2_with (go_at_call 20; refine HRS.out.mono ?_; rintro e w9 ⟨v9, T3, rfl, hs3, hm3, hl3, hn3, hr3, hb9⟩; obtain ⟨a9, c9, rfl⟩ := hr3.form; have S3 := Lib.hid hs3; have M3 := Lib.hid hm3; have N3 := Lib.hid hn3; have R3 := Lib.hid hr3; have B9 := Lib.hid hb9; clear hs3 hm3 hn3 hr3 hb9)
              go_roundw
              case rel =>
                have hm4 : ∀ t', t' ∈ T3 ↔ t' ∈ T ∨ t' ∈ U.take (j + 1) := fun t' => by
                  rw [M3.out, hT2m.out, HTK2.out, List.mem_append, List.mem_singleton, or_assoc]
                refine ⟨j + 1, a9, c9, T3, by omega, by go_num, rfl, ?_, S3, Lib.hid hm4, Lib.hid fun h => absurd h N3.out, R3, Lib.hid (hbw2.out.trans (B9.out.mono hbw2.out.size))⟩
                refine Nat.le_trans (asc_len S3.out (n := LL.length) fun t' ht' => ?_) hLn
                rcases (hm4 t').1 ht' with h | h
                · obtain ⟨y', _, hy'⟩ := (hTm.out t').1 h
                  obtain ⟨i, hi, _, rfl⟩ := mem_okTopics.1 hy'
                  exact ⟨i, hi, rfl⟩
                · have h2 : t' ∈ U := List.mem_of_mem_take h
                  rw [RI.out] at h2
                  obtain ⟨i, hi, _, rfl⟩ := mem_okTopics.1 h2
                  exact ⟨i, hi, rfl⟩
              case measure => simp [intOf] <;> omega
            · have hUall : U.take j = U := List.take_of_length_le (by omega)
              have HT2M := Lib.hid (show ∀ t, t ∈ T2 ↔ ∃ y' ∈ R.take (k + 1), t ∈ okTopics LL [Find.one y'] from fun t => by
                rw [hT2m.out, hUall, hTm.out, HTK.out, RI.out]
                simp only [List.mem_append, List.mem_singleton]
                constructor
                · rintro (⟨y', h1, h2⟩ | h)
                  · exact ⟨y', .inl h1, h2⟩
                  · exact ⟨y, .inr rfl, h⟩
                · rintro ⟨y', h1 | rfl, h2⟩
                  · exact .inl ⟨y', h1, h2⟩
                  · exact .inr h2)
              have hbs := B8.out.size
              clear hUall
              go_wp2_with fail
              go_roundw
              case rel => exact ⟨k + 1, av2, cv2, T2, by omega, by go_num, rfl, hT2l, hT2s, HT2M, hnil2, hrow2, Lib.hid (hbw.out.trans ((B8.out.trans (hbw2.out.mono hbs)).mono hbw.out.size))⟩
              case measure => simp [intOf] <;> omega
        · have HTA := Lib.hid (show ∀ t, t ∈ T ↔ ∃ y ∈ R, t ∈ okTopics LL [Find.one y] from by have := hTm.out; rwa [List.take_of_length_le (by omega)] at this)
          have HASK := Lib.hid (ask_word (x := x) (no := false) (opn := true) (F6.out.new hbw.out) (owns_new R6.out hbw.out) HNN.out hLn)
          go_wp2_with (first
            | (go_at_call 14; refine HASK.out.mono ?_; rintro e w7 ⟨a7, c7, Q, rfl, hto, hQl, hfn, hb7⟩; have TO := Lib.hid hto; have FN := Lib.hid hfn; have B7 := Lib.hid hb7; clear hto hfn hb7)
            | (go_at_call 13; refine (topics_any Q a7 c7 _ FN.out (by omega)).mono ?_; rintro e w8 ⟨a8, c8, U, rfl, hri, hUl, _, hrU, hb8⟩; have EQ := Lib.hid (show U = T from open_topics HMM.out hTs.out HTA.out (topics_told TO.out hri)); have RU := Lib.hid hrU; have B8 := Lib.hid (B7.out.trans (hb8.mono B7.out.size)); clear hri hrU hb8)
            | (go_at_call 12; refine (ints_any U T a8 av c8 cv _ RU.out (hrow.out.new B8.out) (by omega) (by omega)).mono ?_; rintro e w9 ⟨rfl, hb9⟩; have B9 := Lib.hid (B8.out.trans (hb9.mono B8.out.size)); clear hb9))
          go_ret
          exact ⟨ret_bool (decide_eq_true EQ.out), BWW.out.trans (B9.out.mono BWW.out.size)⟩
    · by_cases hw2 : ws.length = 1
      · have hne : ((ws.length : Int) != 1) = false := by rw [hw2]; rfl
        have h100i : (100 : Int) < (TT.length : Int) := by omega
        clear hw1 hww hwk hw2
        go_enter Tryd.func5, Tryd.ntmps5
        go_wp2_with (first
          | (go_at_call 7; refine HAW.out.mono ?_; rintro e w1 ⟨rfl, hb1⟩; have B1 := Lib.hid hb1; clear hb1)
          | (go_at_call_of 9 (Value.slice at_ TT.length ct); refine (HTW1.out _ B1.out).mono ?_; rintro e w2 ⟨a1, c1, rfl, hr1, hb2⟩; have R1 := Lib.hid hr1; have B2 := Lib.hid (B1.out.trans (hb2.mono B1.out.size)); clear hr1 hb2)
          | (go_at_call_of 9 (Value.slice ax XX.length cx); refine (HTW2.out _ B2.out).mono ?_; rintro e w3 ⟨a2, c2, rfl, hr2, hb3⟩; have R2 := Lib.hid hr2; have R1' := Lib.hid (owns_new R1.out hb3); have B3 := Lib.hid (B2.out.trans (hb3.mono B2.out.size)); clear hr2 hb3)
          | (go_at_call 8; refine (HNEW.out _ _ _ _ _ (HT.out.below B3.out) R1'.out R2.out).mono ?_; rintro e w4 ⟨b, rfl, hf4, hb4⟩; have F4 := Lib.hid hf4; have B4 := Lib.hid (B3.out.trans (hb4.mono B3.out.size)); clear hf4 hb4)
          | (go_at_call 10; refine (HWO.out _ B4.out).mono ?_; rintro e w5 ⟨a5, c5, rfl, hr5, hb5⟩; have B5 := Lib.hid (B4.out.trans (hb5.mono B4.out.size)); clear hr5 hb5))
        go_ret
        exact ⟨rfl, B5.out⟩
      · have hne : ((ws.length : Int) != 1) = true := by rw [bne_iff_ne]; omega
        clear hw1 hww hwk hw2
        go_enter Tryd.func5, Tryd.ntmps5
        go_wp2_with (first
          | (go_at_call 7; refine HAW.out.mono ?_; rintro e w1 ⟨rfl, hb1⟩; have B1 := Lib.hid hb1; clear hb1)
          | (go_at_call_of 9 (Value.slice at_ TT.length ct); refine (HTW1.out _ B1.out).mono ?_; rintro e w2 ⟨a1, c1, rfl, hr1, hb2⟩; have R1 := Lib.hid hr1; have B2 := Lib.hid (B1.out.trans (hb2.mono B1.out.size)); clear hr1 hb2)
          | (go_at_call_of 9 (Value.slice ax XX.length cx); refine (HTW2.out _ B2.out).mono ?_; rintro e w3 ⟨a2, c2, rfl, hr2, hb3⟩; have R2 := Lib.hid hr2; have R1' := Lib.hid (owns_new R1.out hb3); have B3 := Lib.hid (B2.out.trans (hb3.mono B2.out.size)); clear hr2 hb3)
          | (go_at_call 8; refine (HNEW.out _ _ _ _ _ (HT.out.below B3.out) R1'.out R2.out).mono ?_; rintro e w4 ⟨b, rfl, hf4, hb4⟩; have F4 := Lib.hid hf4; have B4 := Lib.hid (B3.out.trans (hb4.mono B3.out.size)); clear hf4 hb4)
          | (go_at_call 10; refine (HWO.out _ B4.out).mono ?_; rintro e w5 ⟨a5, c5, rfl, hr5, hb5⟩; have B5 := Lib.hid (B4.out.trans (hb5.mono B4.out.size)); clear hr5 hb5))
        go_ret
        exact ⟨rfl, B5.out⟩
  · have HNEW := Lib.hid (show ∀ (a1 a2 : Option Addr) (c1 c2 : Nat) W, _ from fun a1 a2 c1 c2 W => new_bad a1 a2 TT.length XX.length c1 c2 W (by omega) (by omega) (by omega))
    clear hok hww hwk
    go_enter Tryd.func5, Tryd.ntmps5
    go_wp2_with (first
      | (go_at_call 7; refine HAW.out.mono ?_; rintro e w1 ⟨rfl, hb1⟩; have B1 := Lib.hid hb1; clear hb1)
      | (go_at_call_of 9 (Value.slice at_ TT.length ct); refine (HTW1.out _ B1.out).mono ?_; rintro e w2 ⟨a1, c1, rfl, hr1, hb2⟩; have R1 := Lib.hid hr1; have B2 := Lib.hid (B1.out.trans (hb2.mono B1.out.size)); clear hr1 hb2)
      | (go_at_call_of 9 (Value.slice ax XX.length cx); refine (HTW2.out _ B2.out).mono ?_; rintro e w3 ⟨a2, c2, rfl, hr2, hb3⟩; have R2 := Lib.hid hr2; have R1' := Lib.hid (owns_new R1.out hb3); have B3 := Lib.hid (B2.out.trans (hb3.mono B2.out.size)); clear hr2 hb3)
      | (go_at_call 8; refine (HNEW.out _ _ _ _ _).mono ?_; rintro e w4 ⟨code, rfl, hcode, hb4⟩; have hcd : (code != 0) = true := (by simpa using hcode); have B4 := Lib.hid (B3.out.trans (hb4.mono B3.out.size)); clear hcode hb4)
      | (go_at_call 10; refine (HWO.out _ B4.out).mono ?_; rintro e w5 ⟨a5, c5, rfl, hr5, hb5⟩; have B5 := Lib.hid (B4.out.trans (hb5.mono B4.out.size)); clear hr5 hb5))
    go_ret
    exact ⟨rfl, B5.out⟩
end Go.Proofs.YthpbdeiphagkiaaDoor
