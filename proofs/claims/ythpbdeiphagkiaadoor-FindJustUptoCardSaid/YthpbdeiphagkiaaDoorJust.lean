/- FindJust: the walk. -/
import Derived.Test.YthpbdeiphagkiaaDoorJustF
namespace Go.Proofs.YthpbdeiphagkiaaDoor
open Go.RowKit Find

set_option maxHeartbeats 16000000 in
set_option maxRecDepth 100000 in
theorem just_walk (TT XX : List Wd) (s s2 : ByteArray) (at_ ax : Option Addr) (ct cx : Nat) (w : World) (hT : Tabs w) (h1 : StrSl w (.slice at_ TT.length ct) TT) (h2 : StrSl w (.slice ax XX.length cx) XX)
    (hn1 : at_ = none → ct = 0) (hn2 : ax = none → cx = 0) (hst : ∀ x ∈ TT, x.length ≤ 1048576) (hsx : ∀ x ∈ XX, x.length ≤ 1048576) (hl1 : TT.length ≤ 1048576) (hl2 : XX.length ≤ 1048576) (hs : s.size ≤ 1048576) (hs2 : s2.size ≤ 1048576) :
    Calls Tryd.prog 3 #[.slice at_ TT.length ct, .slice ax XX.length cx, .string s, .string s2] w (LawPost w) := by
  have hz3 : Tryd.prog.cellsOf 31 = 3 := by kernel_rfl
  have hz4 : Tryd.prog.cellsOf 48 = 3 := by kernel_rfl
  have HT := Lib.hid hT
  have H1 := Lib.hid h1
  have H2 := Lib.hid h2
  have HST := Lib.hid hst
  have HSX := Lib.hid hsx
  have HAW := Lib.hid (awake_any w hT)
  have HTW1 := Lib.hid (show ∀ W, Below w.heap.size w W → _ from fun W hb => twin_slice TT (.slice at_ TT.length ct) W (h1.new hb) (fun c e => by injection e with e1 e2 e3; subst e3; exact hn1 e1) (by omega))
  have HTW2 := Lib.hid (show ∀ W, Below w.heap.size w W → _ from fun W hb => twin_slice XX (.slice ax XX.length cx) W (h2.new hb) (fun c e => by injection e with e1 e2 e3; subst e3; exact hn2 e1) (by omega))
  have HWO := Lib.hid (show ∀ W, Below w.heap.size w W → _ from fun W hb => words_slice s W (hT.below hb) (by omega))
  have HWP := Lib.hid (show ∀ W, Below w.heap.size w W → _ from fun W hb => words_slice s2 W (hT.below hb) (by omega))
  have hwl := (words_len s.data.toList).1
  rw [← size_list] at hwl
  have hwl2 := (words_len s2.data.toList).1
  rw [← size_list] at hwl2
  have HCN := Lib.hid (show ∀ (LL : Lists) (b : Nat) (W : World), _ → _ → _ → _ → _ from fun LL b W (hb : Below w.heap.size w W) hf hLn hsl => count_any LL b s W (hT.below hb) (by omega) hf hLn hsl)
  generalize words s.data.toList = ws at *
  generalize words s2.data.toList = ws2 at *
  clear hT h1 h2 hn1 hn2 hst hsx
  by_cases hok : TT.length = XX.length ∧ TT.length ≤ 1000
  · obtain ⟨hlen, hmany⟩ := hok
    have HNEW := Lib.hid (show ∀ (a1 a2 : Option Addr) (c1 c2 : Nat) W, Tabs W → StrRow W (.slice a1 TT.length c1) TT → StrRow W (.slice a2 XX.length c2) XX → _ from fun a1 a2 c1 c2 W ht r1 r2 => new_any TT XX a1 a2 c1 c2 W ht hlen hmany HST.out HSX.out r1.sl r2.sl)
    have HLEN := Lib.hid hlen
    have hl3 : XX.length ≤ 1000 := by omega
    clear hlen
    by_cases hw1 : ws.length = 1 ∧ ws2.length = 1
    · obtain ⟨hw1, hw2⟩ := hw1
      obtain ⟨x, rfl⟩ := List.length_eq_one_iff.1 hw1
      obtain ⟨y, rfl⟩ := List.length_eq_one_iff.1 hw2
      clear hw1 hwl hw2 hwl2
      simp only [List.length_cons, List.length_nil, Nat.zero_add] at HWO HWP
      go_enter Tryd.func3, Tryd.ntmps3
      go_upto_region 11 with (first
        | (go_at_call 7; refine HAW.out.mono ?_; rintro e w1 ⟨rfl, hb1⟩; have B1 := Lib.hid hb1; clear hb1)
        | (go_at_call_of 9 (Value.slice at_ TT.length ct); refine (HTW1.out _ B1.out).mono ?_; rintro e w2 ⟨a1, c1, rfl, hr1, hb2⟩; have R1 := Lib.hid hr1; have B2 := Lib.hid (B1.out.trans (hb2.mono B1.out.size)); clear hr1 hb2)
        | (go_at_call_of 9 (Value.slice ax XX.length cx); refine (HTW2.out _ B2.out).mono ?_; rintro e w3 ⟨a2, c2, rfl, hr2, hb3⟩; have R2 := Lib.hid hr2; have R1' := Lib.hid (owns_new R1.out hb3); have B3 := Lib.hid (B2.out.trans (hb3.mono B2.out.size)); clear hr2 hb3)
        | (go_at_call 8; refine (HNEW.out _ _ _ _ _ (HT.out.below B3.out) R1'.out R2.out).mono ?_; rintro e w4 ⟨b, rfl, hf4, hb4⟩; have F4 := Lib.hid hf4; have B4 := Lib.hid (B3.out.trans (hb4.mono B3.out.size)); clear hf4 hb4)
        | (go_at_call_of 10 (Value.string s); refine (HWO.out _ B4.out).mono ?_; rintro e w5 ⟨a5, c5, rfl, hr5, hb5⟩; have R5 := Lib.hid hr5; have F5 := Lib.hid (F4.out.new hb5); have B5 := Lib.hid (B4.out.trans (hb5.mono B4.out.size)); clear hr5 hb5)
        | (go_at_call_of 10 (Value.string s2); refine (HWP.out _ B5.out).mono ?_; rintro e w6 ⟨a6, c6, rfl, hr6, hb6⟩; have R6 := Lib.hid hr6; have R56 := Lib.hid (owns_new R5.out hb6); have F6 := Lib.hid (F5.out.new hb6); have B6 := Lib.hid (B5.out.trans (hb6.mono B5.out.size)); clear hr6 hb6))
      obtain ⟨W7, hW7, hb7, q1, q2, q3⟩ := boxes3 w6 (.cells #[.slice a5 1 c5, .bool false, .bool false] 31) (.cells #[.slice a6 1 c6, .bool false, .bool false] 31) (.cells #[.slice a6 1 c6, .bool true, .bool false] 31)
      rw [← hW7]
      clear hW7
      have HNN := Lib.hid (wordsLL_small HST.out HSX.out)
      have hLL := wordsLL_len HLEN.out
      have HGET := Lib.hid (show ∀ i (hi : i < TT.length), allAt (wordsLL TT XX) i = words TT[i] ++ words (XX[i]'(by have := HLEN.out; omega)) from fun i hi => by unfold allAt; rw [wordsLL_get HLEN.out hi])
      obtain ⟨LL, hLLe⟩ : ∃ LL, LL = wordsLL TT XX := ⟨_, rfl⟩
      rw [← hLLe] at F6 HNN hLL HGET
      clear hLLe HNEW F4 F5
      have hLn : LL.length ≤ 1000 := by omega
      have HLL := Lib.hid hLL
      have Q1 := Lib.hid q1
      have Q2 := Lib.hid q2
      have Q3 := Lib.hid q3
      have R7 := Lib.hid (owns_new R6.out hb7)
      have R57 := Lib.hid (owns_new R56.out hb7)
      have F7 := Lib.hid (F6.out.new hb7)
      have B7 := Lib.hid (B6.out.trans (hb7.mono B6.out.size))
      clear q1 q2 q3 hb7 hLL
      obtain ⟨m, hm⟩ : ∃ m : Nat → Bool, ∀ i, m i = decide (x ∈ allAt LL i) := ⟨_, fun _ => rfl⟩
      obtain ⟨n, hn⟩ : ∃ n : Nat → Bool, ∀ i, n i = decide (y ∈ allAt LL i) := ⟨_, fun _ => rfl⟩
      obtain ⟨fb, hfb⟩ : ∃ fb : Nat → Bool, ∀ i, fb i = (m i && n i) := ⟨_, fun _ => rfl⟩
      obtain ⟨fj, hfj⟩ : ∃ fj : Nat → Bool, ∀ i, fj i = (m i && !n i) := ⟨_, fun _ => rfl⟩
      have HM := Lib.hid hm
      have HN := Lib.hid hn
      have HFB := Lib.hid hfb
      have HFJ := Lib.hid hfj
      clear hm hn hfb hfj
      go_wp2_with fail
      go_loopw [16, 17, 18, 19, 56] (fun u1 u2 u3 u4 q wr => ∃ (k : Nat) (d1 d2 d3 d4 : Option Addr) (n1 n2 n3 n4 e1 e2 e3 e4 : Nat), k ≤ TT.length ∧ q = .int .i64 k ∧ u1 = .slice d1 n1 e1 ∧ u2 = .slice d2 n2 e2 ∧ u3 = .slice d3 n3 e3 ∧ u4 = .slice d4 n4 e4 ∧ Hid (n1 = (sel m k).length) ∧ Hid (n2 = (sel n k).length) ∧ Hid (n3 = (sel fb k).length) ∧ Hid (n4 = (sel fj k).length) ∧ Hid (RowsI W7.heap.size wr [(.slice d1 n1 e1, sel m k), (.slice d2 n2 e2, sel n k), (.slice d3 n3 e3, sel fb k), (.slice d4 n4 e4, sel fj k)]) ∧ Hid (Below W7.heap.size W7 wr)) (fun _ _ _ _ q _ => TT.length - (intOf q).toNat)
      case atStart => exact ⟨0, none, none, none, none, 0, 0, 0, 0, 0, 0, 0, 0, Nat.zero_le _, rfl, rfl, rfl, rfl, rfl, Lib.hid rfl, Lib.hid rfl, Lib.hid rfl, Lib.hid rfl, Lib.hid (RowsI.nils _ _ 4), Lib.hid (Below.refl _ _)⟩
      case round =>
        obtain ⟨k, d1, d2, d3, d4, n1, n2, n3, n4, e1, e2, e3, e4, hk, rfl, rfl, rfl, rfl, rfl, N1, N2, N3, N4, RW, BR⟩ := hrel
        have BWW := Lib.hid (B7.out.trans (BR.out.mono B7.out.size))
        have hsz := BR.out.size
        by_cases hlt : k < TT.length
        · have hlx : k < XX.length := by have := HLEN.out; omega
          obtain ⟨gt, ot, ct', hat, htc⟩ := (H1.out.new BWW.out).some_ hlt
          obtain ⟨gx, ox, cx', hax, hxc⟩ := (H2.out.new BWW.out).some_ hlx
          simp only [Value.slice.injEq] at hat hax
          obtain ⟨rfl, -, rfl⟩ := hat
          obtain ⟨rfl, -, rfl⟩ := hax
          obtain ⟨g5, o5, c5', ha5, hx5⟩ := (StrRow.sl (l := [x]) (owns_new R57.out (BR.out))).some_ (k := 0) (by simp)
          simp only [Value.slice.injEq] at ha5
          obtain ⟨rfl, -, rfl⟩ := ha5
          obtain ⟨g6, o6, c6', ha6, hx6⟩ := (StrRow.sl (l := [y]) (owns_new R7.out (BR.out))).some_ (k := 0) (by simp)
          simp only [Value.slice.injEq] at ha6
          obtain ⟨rfl, -, rfl⟩ := ha6
          rw [Nat.add_zero] at hx5 hx6
          have hget := HGET.out k hlt
          have hmk := HM.out k
          have hnk := HN.out k
          rw [hget] at hmk hnk
          have hlT := (words_len TT[k]).1
          have hlX := (words_len XX[k]).1
          have hsT := HST.out TT[k] (List.getElem_mem hlt)
          have hsX := HSX.out XX[k] (List.getElem_mem hlx)
          have HWT := Lib.hid (show ∀ W, Below w.heap.size w W → _ from fun W hb => words_own TT[k] W (HT.out.below hb) (by omega))
          have HWX := Lib.hid (show ∀ W, Below w.heap.size w W → _ from fun W hb => words_wd XX[k] W (HT.out.below hb) (by omega))
          generalize TT[k] = ti at *
          generalize XX[k] = xi at *
          generalize words ti = T at *
          generalize words xi = X at *
          have hTb : T.length ≤ 5242881 := by omega
          have hXb : X.length ≤ 5242881 := by omega
          have lgt := World.block_lt_of_cell? wr _ htc
          have lgx := World.block_lt_of_cell? wr _ hxc
          have lg5 := World.block_lt_of_cell? wr _ hx5
          have lg6 := World.block_lt_of_cell? wr _ hx6
          simp only at lgt lgx lg5 lg6
          obtain ⟨mb, hmb⟩ : ∃ mb, mb = m k := ⟨_, rfl⟩
          obtain ⟨nb, hnb⟩ : ∃ nb, nb = n k := ⟨_, rfl⟩
          have MB := Lib.hid hmb
          have NB := Lib.hid hnb
          rw [← hmb] at hmk
          rw [← hnb] at hnk
          have MK := Lib.hid hmk
          have NK := Lib.hid hnk
          clear hmk hnk hmb hnb hlT hlX hsT hsX hget
          have hd1 : decide ((k : Int) < 0) = false := decide_eq_false (by omega)
          have hd2 : decide ((TT.length : Int) ≤ (k : Int)) = false := decide_eq_false (by omega)
          have hd3 : decide ((XX.length : Int) ≤ (k : Int)) = false := decide_eq_false (by omega)
          have hd4 : decide (TT.length ≤ k) = false := decide_eq_false (by omega)
          have hd5 : decide (XX.length ≤ k) = false := decide_eq_false (by omega)
          go_upto_region 15 with fail
          go_cut [21] (fun u wx => ∃ a8 c8, u = .slice a8 (T ++ X).length c8 ∧ StrSl wx (.slice a8 (T ++ X).length c8) (T ++ X) ∧ Below wr.heap.size wr wx)
          case first =>
            go_region_held3 (fun w' => w'.cell? ⟨gt, ot + k, none⟩ = some (st ti) ∧ w'.cell? ⟨gx, ox + k, none⟩ = some (st xi))
              (first | exact ⟨htc, hxc⟩ | exact ⟨(hbk.cell (p := ⟨gt, ot + k, none⟩) lgt).trans htc, (hbk.cell (p := ⟨gx, ox + k, none⟩) lgx).trans hxc⟩ | assumption)
              (first
                | (go_at_call_of 10 (st ti); refine (HWT.out _ BWW.out.drew).mono ?_; rintro e w8 ⟨a8, c8, rfl, hr8, hbk⟩; have R8 := Lib.hid hr8; have B8 := Lib.hid hbk)
                | (go_at_call_of 10 (st xi); refine (HWX.out _ (BWW.out.drew.trans (B8.out.mono BWW.out.drew.size))).mono ?_; rintro e w9 ⟨a9, c9, rfl, hr9, hb9⟩; have R9 := Lib.hid hr9; have hbk := B8.out.trans (hb9.mono B8.out.size); have B9 := Lib.hid hbk; have R89 := Lib.hid (owns_new R8.out hb9))
                | (refine step_rows rfl (.tmp 63) (.tmp 68) rfl wr.heap.size _ a8 a9 c8 c9 T X rfl rfl R89.out R9.out B9.out.size (by omega) (by omega) ?_; intro a10 c10 w10 hs10 hb10; have hbk := B9.out.trans hb10)
                | fail)
            all_goals
              go_wp2_with fail
              go_meet
              exact ⟨a10, c10, by rw [List.length_append], hs10, (Below.refl wr.heap.size wr).drew.trans hbk⟩
          case rest =>
            obtain ⟨a8, c8, rfl, hall, hbc⟩ := hcut
            have hAb : (T ++ X).length ≤ 10485762 := by rw [List.length_append]; omega
            generalize T ++ X = A at *
            have HX := Lib.hid (show ∀ W, Below wc.heap.size wc W → Calls Tryd.prog 11 #[.slice a8 A.length c8, st x] W fun e w' => e = .returned (.bool mb) ∧ W = w' from fun W hW => by rw [MK.out]; exact holds_any A x a8 c8 W (hall.new hW) (by omega))
            have HY := Lib.hid (show ∀ W, Below wc.heap.size wc W → Calls Tryd.prog 11 #[.slice a8 A.length c8, st y] W fun e w' => e = .returned (.bool nb) ∧ W = w' from fun W hW => by rw [NK.out]; exact holds_any A y a8 c8 W (hall.new hW) (by omega))
            have hx51 : wc.cell? ⟨g5, o5, none⟩ = some (st x) := (hbc.cell (p := ⟨g5, o5, none⟩) lg5).trans hx5
            have hx61 : wc.cell? ⟨g6, o6, none⟩ = some (st y) := (hbc.cell (p := ⟨g6, o6, none⟩) lg6).trans hx6
            have RW := Lib.hid (RW.out.new hbc)
            have BR := Lib.hid (BR.out.trans (hbc.mono hsz))
            have hsz := BR.out.size
            clear htc hxc hx5 hx6 hbc hall hd1 hd2 hd3 hd4 hd5
            go_upto_region 16 with fail
            go_quiet (first
              | (go_at_call_of 11 (st x); exact (HX.out _ (below_drewN (Below.refl _ _) _)).mono fun _ _ h => ⟨h.1, _, h.2.symm⟩)
              | (go_at_call_of 11 (st y); exact (HY.out _ (below_drewN (Below.refl _ _) _)).mono fun _ _ h => ⟨h.1, _, h.2.symm⟩))
            clear HX HY hx51 hx61
            have RW := Lib.hid (RW.out.new (below_drewN (Below.refl wc.heap.size wc) nq))
            have BR := Lib.hid (below_drewN BR.out nq)
            have hsz := BR.out.size
            generalize wc.drewN nq = wd at *
            cases mb <;> cases nb
            · go_wp2_with fail
              go_roundw
              case rel =>
                have hm1 : m k = false := MB.out.symm
                have hn1 : n k = false := NB.out.symm
                have hb1 : fb k = false := by rw [HFB.out, hm1, hn1]; rfl
                have hj1 : fj k = false := by rw [HFJ.out, hm1, hn1]; rfl
                have s1 := sel_no hm1
                have s2 := sel_no hn1
                have s3 := sel_no hb1
                have s4 := sel_no hj1
                refine ⟨k + 1, d1, d2, d3, d4, n1, n2, n3, n4, e1, e2, e3, e4, by omega, by go_num, rfl, rfl, rfl, rfl, Lib.hid (by rw [s1, N1.out]), Lib.hid (by rw [s2, N2.out]), Lib.hid (by rw [s3, N3.out]), Lib.hid (by rw [s4, N4.out]), ?_, BR⟩
                rw [s1, s2, s3, s4]
                exact RW
              case measure => simp [intOf] <;> omega
            · go_wp2_with (first | (at_builtin; refine wpList_rows rfl (.tmp 86) (.tmp 88) rfl W7.heap.size k n2 _ [_] [_, _] _ (sel n k) rfl rfl RW.out (by omega) (Nat.le_trans (sel_len _ _) (by omega)) N2.out ?_; intro g2' e2' wA2 hrA hbA; have RW := Lib.hid hrA; have BR := Lib.hid (BR.out.trans hbA); have hsz := BR.out.size; clear hrA hbA))
              go_roundw
              case rel =>
                have hm1 : m k = false := MB.out.symm
                have hn1 : n k = true := NB.out.symm
                have hb1 : fb k = false := by rw [HFB.out, hm1, hn1]; rfl
                have hj1 : fj k = false := by rw [HFJ.out, hm1, hn1]; rfl
                have s1 := sel_no hm1
                have s2 := sel_yes hn1
                have s3 := sel_no hb1
                have s4 := sel_no hj1
                refine ⟨k + 1, d1, some ⟨g2', 0, none⟩, d3, d4, n1, n2 + 1, n3, n4, e1, e2', e3, e4, by omega, by go_num, rfl, rfl, rfl, rfl, Lib.hid (by rw [s1, N1.out]), Lib.hid (by rw [s2, List.length_append, N2.out]; rfl), Lib.hid (by rw [s3, N3.out]), Lib.hid (by rw [s4, N4.out]), ?_, BR⟩
                rw [s1, s2, s3, s4]
                exact RW
              case measure => simp [intOf] <;> omega
            · go_wp2_with (first | (at_builtin; refine wpList_rows rfl (.tmp 81) (.tmp 83) rfl W7.heap.size k n1 _ [] [_, _, _] _ (sel m k) rfl rfl RW.out (by omega) (Nat.le_trans (sel_len _ _) (by omega)) N1.out ?_; intro g1' e1' wA1 hrA hbA; have RW := Lib.hid hrA; have BR := Lib.hid (BR.out.trans hbA); have hsz := BR.out.size; clear hrA hbA) | (at_builtin; refine wpList_rows rfl (.tmp 103) (.tmp 105) rfl W7.heap.size k n4 _ [_, _, _] [] _ (sel fj k) rfl rfl RW.out (by omega) (Nat.le_trans (sel_len _ _) (by omega)) N4.out ?_; intro g4' e4' wA4 hrA hbA; have RW := Lib.hid hrA; have BR := Lib.hid (BR.out.trans hbA); have hsz := BR.out.size; clear hrA hbA))
              go_roundw
              case rel =>
                have hm1 : m k = true := MB.out.symm
                have hn1 : n k = false := NB.out.symm
                have hb1 : fb k = false := by rw [HFB.out, hm1, hn1]; rfl
                have hj1 : fj k = true := by rw [HFJ.out, hm1, hn1]; rfl
                have s1 := sel_yes hm1
                have s2 := sel_no hn1
                have s3 := sel_no hb1
                have s4 := sel_yes hj1
                refine ⟨k + 1, some ⟨g1', 0, none⟩, d2, d3, some ⟨g4', 0, none⟩, n1 + 1, n2, n3, n4 + 1, e1', e2, e3, e4', by omega, by go_num, rfl, rfl, rfl, rfl, Lib.hid (by rw [s1, List.length_append, N1.out]; rfl), Lib.hid (by rw [s2, N2.out]), Lib.hid (by rw [s3, N3.out]), Lib.hid (by rw [s4, List.length_append, N4.out]; rfl), ?_, BR⟩
                rw [s1, s2, s3, s4]
                exact RW
              case measure => simp [intOf] <;> omega
            · go_wp2_with (first | (at_builtin; refine wpList_rows rfl (.tmp 81) (.tmp 83) rfl W7.heap.size k n1 _ [] [_, _, _] _ (sel m k) rfl rfl RW.out (by omega) (Nat.le_trans (sel_len _ _) (by omega)) N1.out ?_; intro g1' e1' wA1 hrA hbA; have RW := Lib.hid hrA; have BR := Lib.hid (BR.out.trans hbA); have hsz := BR.out.size; clear hrA hbA) | (at_builtin; refine wpList_rows rfl (.tmp 86) (.tmp 88) rfl W7.heap.size k n2 _ [_] [_, _] _ (sel n k) rfl rfl RW.out (by omega) (Nat.le_trans (sel_len _ _) (by omega)) N2.out ?_; intro g2' e2' wA2 hrA hbA; have RW := Lib.hid hrA; have BR := Lib.hid (BR.out.trans hbA); have hsz := BR.out.size; clear hrA hbA) | (at_builtin; refine wpList_rows rfl (.tmp 94) (.tmp 96) rfl W7.heap.size k n3 _ [_, _] [_] _ (sel fb k) rfl rfl RW.out (by omega) (Nat.le_trans (sel_len _ _) (by omega)) N3.out ?_; intro g3' e3' wA3 hrA hbA; have RW := Lib.hid hrA; have BR := Lib.hid (BR.out.trans hbA); have hsz := BR.out.size; clear hrA hbA))
              go_roundw
              case rel =>
                have hm1 : m k = true := MB.out.symm
                have hn1 : n k = true := NB.out.symm
                have hb1 : fb k = true := by rw [HFB.out, hm1, hn1]; rfl
                have hj1 : fj k = false := by rw [HFJ.out, hm1, hn1]; rfl
                have s1 := sel_yes hm1
                have s2 := sel_yes hn1
                have s3 := sel_yes hb1
                have s4 := sel_no hj1
                refine ⟨k + 1, some ⟨g1', 0, none⟩, some ⟨g2', 0, none⟩, some ⟨g3', 0, none⟩, d4, n1 + 1, n2 + 1, n3 + 1, n4, e1', e2', e3', e4, by omega, by go_num, rfl, rfl, rfl, rfl, Lib.hid (by rw [s1, List.length_append, N1.out]; rfl), Lib.hid (by rw [s2, List.length_append, N2.out]; rfl), Lib.hid (by rw [s3, List.length_append, N3.out]; rfl), Lib.hid (by rw [s4, N4.out]), ?_, BR⟩
                rw [s1, s2, s3, s4]
                exact RW
              case measure => simp [intOf] <;> omega
        · obtain rfl : k = TT.length := by omega
          clear hk hlt
          have hL1 := sel_len m TT.length
          have hL2 := sel_len n TT.length
          have hL3 := sel_len fb TT.length
          have hL4 := sel_len fj TT.length
          have HE1 := Lib.hid (show okTopics LL [Find.one x] = sel m TT.length from by rw [sel_ok, HLL.out]; exact sel_congr (fun i => by rw [okB_one rfl rfl rfl, HM.out]) _)
          have HE2 := Lib.hid (show okTopics LL [Find.one y] = sel n TT.length from by rw [sel_ok, HLL.out]; exact sel_congr (fun i => by rw [okB_one rfl rfl rfl, HN.out]) _)
          have HE3 := Lib.hid (show okTopics LL [Find.one x, Find.one y] = sel fb TT.length from by rw [sel_ok, HLL.out]; exact sel_congr (fun i => by rw [okB_two rfl rfl rfl rfl rfl, HFB.out, HM.out, HN.out]; cases decide (x ∈ allAt LL i) <;> cases decide (y ∈ allAt LL i) <;> rfl) _)
          have HE4 := Lib.hid (show okTopics LL [⟨[y], true, false⟩, Find.one x] = sel fj TT.length from by rw [sel_ok, HLL.out]; exact sel_congr (fun i => by rw [okB_two rfl rfl rfl rfl rfl, HFJ.out, HM.out, HN.out]; cases decide (x ∈ allAt LL i) <;> cases decide (y ∈ allAt LL i) <;> rfl) _)
          have HC := Lib.hid (show countW LL [x] = ((sel m TT.length).length : Int) from by rw [count_sel, HLL.out, sel_congr (fun i => (HM.out i).symm)])
          have hN1 := N1.out
          have hN2 := N2.out
          have hN3 := N3.out
          have hN4 := N4.out
          clear N1 N2 N3 N4 HFB HFJ HM HN
          subst hN1 hN2 hN3 hN4
          generalize sel m TT.length = L1 at *
          generalize sel n TT.length = L2 at *
          generalize sel fb TT.length = L3 at *
          generalize sel fj TT.length = L4 at *
          have IR1 := Lib.hid (show IntRow wr (.slice d1 L1.length e1) L1 from RW.out.get (p := (.slice d1 L1.length e1, L1)) (by simp))
          have IR2 := Lib.hid (show IntRow wr (.slice d2 L2.length e2) L2 from RW.out.get (p := (.slice d2 L2.length e2, L2)) (by simp))
          have IR3 := Lib.hid (show IntRow wr (.slice d3 L3.length e3) L3 from RW.out.get (p := (.slice d3 L3.length e3, L3)) (by simp))
          have IR4 := Lib.hid (show IntRow wr (.slice d4 L4.length e4) L4 from RW.out.get (p := (.slice d4 L4.length e4, L4)) (by simp))
          have HBX := Lib.hid (show ∀ W, Below W7.heap.size W7 W → (W.cell? ⟨w6.heap.size, 0, none⟩ = some (.slice a5 1 c5) ∧ W.cell? ⟨w6.heap.size, 1, none⟩ = some (.bool false) ∧ W.cell? ⟨w6.heap.size, 2, none⟩ = some (.bool false)) ∧ (W.cell? ⟨w6.heap.size + 1, 0, none⟩ = some (.slice a6 1 c6) ∧ W.cell? ⟨w6.heap.size + 1, 1, none⟩ = some (.bool false) ∧ W.cell? ⟨w6.heap.size + 1, 2, none⟩ = some (.bool false)) ∧ (W.cell? ⟨w6.heap.size + 1 + 1, 0, none⟩ = some (.slice a6 1 c6) ∧ W.cell? ⟨w6.heap.size + 1 + 1, 1, none⟩ = some (.bool true) ∧ W.cell? ⟨w6.heap.size + 1 + 1, 2, none⟩ = some (.bool false)) from fun W hb =>
            ⟨box_cells ((hb.block _ (lt_of_heap Q1.out)).trans Q1.out), box_cells ((hb.block _ (lt_of_heap Q2.out)).trans Q2.out), box_cells ((hb.block _ (lt_of_heap Q3.out)).trans Q3.out)⟩)
          have HA1 := Lib.hid (show ∀ W, Below W7.heap.size W7 W → _ from fun W hb => ask_word (x := x) (no := false) (opn := false) (F7.out.new hb) (owns_new R57.out hb) HNN.out hLn)
          have HA2 := Lib.hid (show ∀ W, Below W7.heap.size W7 W → _ from fun W hb => ask_word (x := y) (no := false) (opn := false) (F7.out.new hb) (owns_new R7.out hb) HNN.out hLn)
          have HA3 := Lib.hid (show ∀ W, Below W7.heap.size W7 W → _ from fun W hb => ask_two (x := x) (y := y) (no := false) (opn := false) (no' := false) (opn' := false) (F7.out.new hb) (owns_new R57.out hb) (owns_new R7.out hb) HNN.out hLn)
          have HA4 := Lib.hid (show ∀ W, Below W7.heap.size W7 W → _ from fun W hb => ask_two (x := y) (y := x) (no := true) (opn := false) (no' := false) (opn' := false) (F7.out.new hb) (owns_new R7.out hb) (owns_new R57.out hb) HNN.out hLn)
          have HCC := Lib.hid (show ∀ W, Below W7.heap.size W7 W → Calls Tryd.prog 15 #[.pointer (some ⟨b, 0, none⟩), .string s] W fun e w' => e = .returned (.int .i64 (L1.length : Int)) ∧ Below W.heap.size W w' from fun W hb => by rw [← HC.out]; exact HCN.out LL b W (B7.out.trans (hb.mono B7.out.size)) (F7.out.new hb) hLn (spots_few HNN.out hLn))
          obtain ⟨⟨z1, z2, z3⟩, ⟨z4, z5, z6⟩, ⟨z7, z8, z9⟩⟩ := HBX.out wr BR.out
          have BB := Lib.hid (Below.refl wr.heap.size wr)
          go_wp2_with (first
            | (go_at_call 14; refine (HA1.out _ BR.out).mono ?_; rintro e' wa1 ⟨a7, c7, R, rfl, hto, hRl, hfn, hb7⟩; have TO := Lib.hid hto; have FN := Lib.hid hfn; have BR := Lib.hid (BR.out.trans (hb7.mono BR.out.size)); have BB := Lib.hid (BB.out.trans (hb7.mono BB.out.size)); clear hto hfn hb7 HA1)
            | (go_at_call 14; refine (HA2.out _ BR.out).mono ?_; rintro e' wa2 ⟨a7, c7, R, rfl, hto, hRl, hfn, hb7⟩; have TO := Lib.hid hto; have FN := Lib.hid hfn; have BR := Lib.hid (BR.out.trans (hb7.mono BR.out.size)); have BB := Lib.hid (BB.out.trans (hb7.mono BB.out.size)); clear hto hfn hb7 HA2)
            | (go_at_call 14; refine (HA3.out _ BR.out).mono ?_; rintro e' wa3 ⟨a7, c7, R, rfl, hto, hRl, hfn, hb7⟩; have TO := Lib.hid hto; have FN := Lib.hid hfn; have BR := Lib.hid (BR.out.trans (hb7.mono BR.out.size)); have BB := Lib.hid (BB.out.trans (hb7.mono BB.out.size)); clear hto hfn hb7 HA3)
            | (go_at_call 14; refine (HA4.out _ BR.out).mono ?_; rintro e' wa4 ⟨a7, c7, R, rfl, hto, hRl, hfn, hb7⟩; have TO := Lib.hid hto; have FN := Lib.hid hfn; have BR := Lib.hid (BR.out.trans (hb7.mono BR.out.size)); have BB := Lib.hid (BB.out.trans (hb7.mono BB.out.size)); clear hto hfn hb7 HA4)
            | (go_at_call 13; revert HE1; intro hE; refine (topics_eq _ L1 (fun U hU => (topics_told (cs := [Find.one x]) TO.out hU).trans hE.out) _ _ _ FN.out hRl).mono ?_; rintro e' wt1 ⟨a8, c8, rfl, hri, hb8⟩; have RU := Lib.hid hri; have BR := Lib.hid (BR.out.trans (hb8.mono BR.out.size)); have BB := Lib.hid (BB.out.trans (hb8.mono BB.out.size)); clear hri hb8 TO FN hRl hE)
            | (go_at_call 13; revert HE2; intro hE; refine (topics_eq _ L2 (fun U hU => (topics_told (cs := [Find.one y]) TO.out hU).trans hE.out) _ _ _ FN.out hRl).mono ?_; rintro e' wt2 ⟨a8, c8, rfl, hri, hb8⟩; have RU := Lib.hid hri; have BR := Lib.hid (BR.out.trans (hb8.mono BR.out.size)); have BB := Lib.hid (BB.out.trans (hb8.mono BB.out.size)); clear hri hb8 TO FN hRl hE)
            | (go_at_call 13; revert HE3; intro hE; refine (topics_eq _ L3 (fun U hU => (topics_told (cs := [Find.one x, Find.one y]) TO.out hU).trans hE.out) _ _ _ FN.out hRl).mono ?_; rintro e' wt3 ⟨a8, c8, rfl, hri, hb8⟩; have RU := Lib.hid hri; have BR := Lib.hid (BR.out.trans (hb8.mono BR.out.size)); have BB := Lib.hid (BB.out.trans (hb8.mono BB.out.size)); clear hri hb8 TO FN hRl hE)
            | (go_at_call 13; revert HE4; intro hE; refine (topics_eq _ L4 (fun U hU => (topics_told (cs := [⟨[y], true, false⟩, Find.one x]) TO.out hU).trans hE.out) _ _ _ FN.out hRl).mono ?_; rintro e' wt4 ⟨a8, c8, rfl, hri, hb8⟩; have RU := Lib.hid hri; have BR := Lib.hid (BR.out.trans (hb8.mono BR.out.size)); have BB := Lib.hid (BB.out.trans (hb8.mono BB.out.size)); clear hri hb8 TO FN hRl hE)
            | (go_at_call 12; revert IR1; intro hI; refine (ints_same L1 _ _ _ _ _ RU.out (hI.out.new BB.out) (by omega)).mono ?_; rintro e' wi1 ⟨rfl, hb9⟩; have BR := Lib.hid (BR.out.trans (hb9.mono BR.out.size)); have BB := Lib.hid (BB.out.trans (hb9.mono BB.out.size)); obtain ⟨⟨z1, z2, z3⟩, ⟨z4, z5, z6⟩, ⟨z7, z8, z9⟩⟩ := HBX.out _ BR.out; clear hb9 RU hI)
            | (go_at_call 12; revert IR2; intro hI; refine (ints_same L2 _ _ _ _ _ RU.out (hI.out.new BB.out) (by omega)).mono ?_; rintro e' wi2 ⟨rfl, hb9⟩; have BR := Lib.hid (BR.out.trans (hb9.mono BR.out.size)); have BB := Lib.hid (BB.out.trans (hb9.mono BB.out.size)); obtain ⟨⟨z1, z2, z3⟩, ⟨z4, z5, z6⟩, ⟨z7, z8, z9⟩⟩ := HBX.out _ BR.out; clear hb9 RU hI)
            | (go_at_call 12; revert IR3; intro hI; refine (ints_same L3 _ _ _ _ _ RU.out (hI.out.new BB.out) (by omega)).mono ?_; rintro e' wi3 ⟨rfl, hb9⟩; have BR := Lib.hid (BR.out.trans (hb9.mono BR.out.size)); have BB := Lib.hid (BB.out.trans (hb9.mono BB.out.size)); obtain ⟨⟨z1, z2, z3⟩, ⟨z4, z5, z6⟩, ⟨z7, z8, z9⟩⟩ := HBX.out _ BR.out; clear hb9 RU hI)
            | (go_at_call 12; revert IR4; intro hI; refine (ints_same L4 _ _ _ _ _ RU.out (hI.out.new BB.out) (by omega)).mono ?_; rintro e' wi4 ⟨rfl, hb9⟩; have BR := Lib.hid (BR.out.trans (hb9.mono BR.out.size)); have BB := Lib.hid (BB.out.trans (hb9.mono BB.out.size)); obtain ⟨⟨z1, z2, z3⟩, ⟨z4, z5, z6⟩, ⟨z7, z8, z9⟩⟩ := HBX.out _ BR.out; clear hb9 RU hI)
            | (go_at_call 15; refine (HCC.out _ BR.out).mono ?_; rintro e' wn ⟨rfl, hb9⟩; have BB := Lib.hid (BB.out.trans (hb9.mono BB.out.size)); clear hb9))
          go_ret
          exact ⟨rfl, BWW.out.trans (BB.out.mono BWW.out.size)⟩
    · by_cases hw2 : ws.length = 1
      · have hw3 : ws2.length ≠ 1 := fun h => hw1 ⟨hw2, h⟩
        have hne : ((ws.length : Int) != 1) = false := by rw [hw2]; rfl
        have hne2 : ((ws2.length : Int) != 1) = true := by rw [bne_iff_ne]; omega
        clear hw1 hw2 hw3
        go_enter Tryd.func3, Tryd.ntmps3
        go_wp2_with (first
          | (go_at_call 7; refine HAW.out.mono ?_; rintro e w1 ⟨rfl, hb1⟩; have B1 := Lib.hid hb1; clear hb1)
          | (go_at_call_of 9 (Value.slice at_ TT.length ct); refine (HTW1.out _ B1.out).mono ?_; rintro e w2 ⟨a1, c1, rfl, hr1, hb2⟩; have R1 := Lib.hid hr1; have B2 := Lib.hid (B1.out.trans (hb2.mono B1.out.size)); clear hr1 hb2)
          | (go_at_call_of 9 (Value.slice ax XX.length cx); refine (HTW2.out _ B2.out).mono ?_; rintro e w3 ⟨a2, c2, rfl, hr2, hb3⟩; have R2 := Lib.hid hr2; have R1' := Lib.hid (owns_new R1.out hb3); have B3 := Lib.hid (B2.out.trans (hb3.mono B2.out.size)); clear hr2 hb3)
          | (go_at_call 8; refine (HNEW.out _ _ _ _ _ (HT.out.below B3.out) R1'.out R2.out).mono ?_; rintro e w4 ⟨b, rfl, hf4, hb4⟩; have F4 := Lib.hid hf4; have B4 := Lib.hid (B3.out.trans (hb4.mono B3.out.size)); clear hf4 hb4)
          | (go_at_call_of 10 (Value.string s); refine (HWO.out _ B4.out).mono ?_; rintro e w5 ⟨a5, c5, rfl, hr5, hb5⟩; have B5 := Lib.hid (B4.out.trans (hb5.mono B4.out.size)); clear hr5 hb5)
          | (go_at_call_of 10 (Value.string s2); refine (HWP.out _ B5.out).mono ?_; rintro e w6 ⟨a6, c6, rfl, hr6, hb6⟩; have B6 := Lib.hid (B5.out.trans (hb6.mono B5.out.size)); clear hr6 hb6))
        go_ret
        exact ⟨rfl, B6.out⟩
      · have hne : ((ws.length : Int) != 1) = true := by rw [bne_iff_ne]; omega
        clear hw1 hw2
        go_enter Tryd.func3, Tryd.ntmps3
        go_wp2_with (first
          | (go_at_call 7; refine HAW.out.mono ?_; rintro e w1 ⟨rfl, hb1⟩; have B1 := Lib.hid hb1; clear hb1)
          | (go_at_call_of 9 (Value.slice at_ TT.length ct); refine (HTW1.out _ B1.out).mono ?_; rintro e w2 ⟨a1, c1, rfl, hr1, hb2⟩; have R1 := Lib.hid hr1; have B2 := Lib.hid (B1.out.trans (hb2.mono B1.out.size)); clear hr1 hb2)
          | (go_at_call_of 9 (Value.slice ax XX.length cx); refine (HTW2.out _ B2.out).mono ?_; rintro e w3 ⟨a2, c2, rfl, hr2, hb3⟩; have R2 := Lib.hid hr2; have R1' := Lib.hid (owns_new R1.out hb3); have B3 := Lib.hid (B2.out.trans (hb3.mono B2.out.size)); clear hr2 hb3)
          | (go_at_call 8; refine (HNEW.out _ _ _ _ _ (HT.out.below B3.out) R1'.out R2.out).mono ?_; rintro e w4 ⟨b, rfl, hf4, hb4⟩; have F4 := Lib.hid hf4; have B4 := Lib.hid (B3.out.trans (hb4.mono B3.out.size)); clear hf4 hb4)
          | (go_at_call_of 10 (Value.string s); refine (HWO.out _ B4.out).mono ?_; rintro e w5 ⟨a5, c5, rfl, hr5, hb5⟩; have B5 := Lib.hid (B4.out.trans (hb5.mono B4.out.size)); clear hr5 hb5)
          | (go_at_call_of 10 (Value.string s2); refine (HWP.out _ B5.out).mono ?_; rintro e w6 ⟨a6, c6, rfl, hr6, hb6⟩; have B6 := Lib.hid (B5.out.trans (hb6.mono B5.out.size)); clear hr6 hb6))
        go_ret
        exact ⟨rfl, B6.out⟩
  · have HNEW := Lib.hid (show ∀ (a1 a2 : Option Addr) (c1 c2 : Nat) W, _ from fun a1 a2 c1 c2 W => new_bad a1 a2 TT.length XX.length c1 c2 W (by omega) (by omega) (by omega))
    clear hok
    go_enter Tryd.func3, Tryd.ntmps3
    go_wp2_with (first
      | (go_at_call 7; refine HAW.out.mono ?_; rintro e w1 ⟨rfl, hb1⟩; have B1 := Lib.hid hb1; clear hb1)
      | (go_at_call_of 9 (Value.slice at_ TT.length ct); refine (HTW1.out _ B1.out).mono ?_; rintro e w2 ⟨a1, c1, rfl, hr1, hb2⟩; have B2 := Lib.hid (B1.out.trans (hb2.mono B1.out.size)); clear hr1 hb2)
      | (go_at_call_of 9 (Value.slice ax XX.length cx); refine (HTW2.out _ B2.out).mono ?_; rintro e w3 ⟨a2, c2, rfl, hr2, hb3⟩; have B3 := Lib.hid (B2.out.trans (hb3.mono B2.out.size)); clear hr2 hb3)
      | (go_at_call 8; refine (HNEW.out _ _ _ _ _).mono ?_; rintro e w4 ⟨code, rfl, hcode, hb4⟩; have hcd : (code != 0) = true := (by simpa using hcode); have B4 := Lib.hid (B3.out.trans (hb4.mono B3.out.size)); clear hcode hb4))
    go_ret
    exact ⟨rfl, B4.out⟩
end Go.Proofs.YthpbdeiphagkiaaDoor
