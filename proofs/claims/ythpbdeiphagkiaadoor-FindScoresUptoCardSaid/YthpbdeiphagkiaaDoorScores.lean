/- FindScores: the walk. -/
import Derived.Test.YthpbdeiphagkiaaDoorScoresW
namespace Go.Proofs.YthpbdeiphagkiaaDoor
open Go.RowKit Find

set_option maxHeartbeats 16000000 in
set_option maxRecDepth 100000 in
theorem scores_walk (TT XX : List Wd) (s : ByteArray) (at_ ax : Option Addr) (ct cx : Nat) (w : World) (hT : Tabs w) (h1 : StrSl w (.slice at_ TT.length ct) TT) (h2 : StrSl w (.slice ax XX.length cx) XX)
    (hn1 : at_ = none → ct = 0) (hn2 : ax = none → cx = 0) (hst : ∀ x ∈ TT, x.length ≤ 1048576) (hsx : ∀ x ∈ XX, x.length ≤ 1048576) (hl1 : TT.length ≤ 1048576) (hl2 : XX.length ≤ 1048576) (hs : s.size ≤ 1048576) :
    Calls Tryd.prog 6 #[.slice at_ TT.length ct, .slice ax XX.length cx, .string s] w (LawPost w) := by
  have hz3 : Tryd.prog.cellsOf 31 = 3 := by kernel_rfl
  have hz4 : Tryd.prog.cellsOf 48 = 3 := by kernel_rfl
  have HT := Lib.hid hT
  have H1 := Lib.hid h1
  have H2 := Lib.hid h2
  have HST := Lib.hid hst
  have HSX := Lib.hid hsx
  have HAW := Lib.hid (awake_any w hT)
  have HTW1 := Lib.hid (show ∀ W, Below w.heap.size w W → _ from fun W hb => twin_slice TT (.slice at_ TT.length ct) W (h1.new hb) (fun c e => by injection e with e1 e2 e3; subst e3; exact hn1 e1) (by omega))
  have HTW2 := Lib.hid (show ∀ W, Below w.heap.size w W → _ from fun W hb => twin_slice XX (.slice ax XX.length cx) W (h2.new hb) (fun c e => by injection e with e1 e2 e3; subst e3; exact hn2 e1) (by omega))
  have HWO := Lib.hid (show ∀ W, Below w.heap.size w W → _ from fun W hb => words_slice s W (hT.below hb) (by omega))
  have hwl := (words_len s.data.toList).1
  rw [← size_list] at hwl
  generalize words s.data.toList = ws at *
  clear hT h1 h2 hn1 hn2 hst hsx
  by_cases hok : TT.length = XX.length ∧ TT.length ≤ 1000
  · obtain ⟨hlen, hmany⟩ := hok
    have HNEW := Lib.hid (show ∀ (a1 a2 : Option Addr) (c1 c2 : Nat) W, Tabs W → StrRow W (.slice a1 TT.length c1) TT → StrRow W (.slice a2 XX.length c2) XX → _ from fun a1 a2 c1 c2 W ht r1 r2 => new_any TT XX a1 a2 c1 c2 W ht hlen hmany HST.out HSX.out r1.sl r2.sl)
    have HLEN := Lib.hid hlen
    have hl3 : XX.length ≤ 1000 := by omega
    clear hlen
    by_cases hw1 : ws.length = 1
    · obtain ⟨x, rfl⟩ := List.length_eq_one_iff.1 hw1
      clear hw1 hwl
      simp only [List.length_cons, List.length_nil, Nat.zero_add] at HWO
      go_enter Tryd.func6, Tryd.ntmps6
      go_upto_region 9 with (first
        | (go_at_call 7; refine HAW.out.mono ?_; rintro e w1 ⟨rfl, hb1⟩; have B1 := Lib.hid hb1; clear hb1)
        | (go_at_call_of 9 (Value.slice at_ TT.length ct); refine (HTW1.out _ B1.out).mono ?_; rintro e w2 ⟨a1, c1, rfl, hr1, hb2⟩; have R1 := Lib.hid hr1; have B2 := Lib.hid (B1.out.trans (hb2.mono B1.out.size)); clear hr1 hb2)
        | (go_at_call_of 9 (Value.slice ax XX.length cx); refine (HTW2.out _ B2.out).mono ?_; rintro e w3 ⟨a2, c2, rfl, hr2, hb3⟩; have R2 := Lib.hid hr2; have R1' := Lib.hid (owns_new R1.out hb3); have B3 := Lib.hid (B2.out.trans (hb3.mono B2.out.size)); clear hr2 hb3)
        | (go_at_call 8; refine (HNEW.out _ _ _ _ _ (HT.out.below B3.out) R1'.out R2.out).mono ?_; rintro e w4 ⟨b, rfl, hf4, hb4⟩; have F4 := Lib.hid hf4; have B4 := Lib.hid (B3.out.trans (hb4.mono B3.out.size)); clear hf4 hb4)
        | (go_at_call 10; refine (HWO.out _ B4.out).mono ?_; rintro e w5 ⟨a5, c5, rfl, hr5, hb5⟩; have R5 := Lib.hid hr5; have F5 := Lib.hid (F4.out.new hb5); have B5 := Lib.hid (B4.out.trans (hb5.mono B4.out.size)); clear hr5 hb5))
      have hNN := wordsLL_small HST.out HSX.out
      have hLL := wordsLL_len HLEN.out
      have hask := ask_word (no := false) (opn := false) F5.out R5.out hNN (by omega)
      refine hask.mono ?_
      rintro e w6 ⟨a6, c6, R, rfl, hto, hRl, hfn, hb6⟩
      have TO := Lib.hid (show Find.Told (wordsLL TT XX) [Find.one x] R from hto)
      have FN := Lib.hid hfn
      have B6 := Lib.hid (B5.out.trans (hb6.mono B5.out.size))
      have R6 := Lib.hid (owns_new R5.out hb6)
      clear hask hto hfn hb6 hNN hLL
      go_wp2_with fail
      go_loopw [45] (fun q wr => ∃ k : Nat, k ≤ R.length ∧ q = .int .i64 k ∧ Below w6.heap.size w6 wr) (fun q _ => R.length - (intOf q).toNat)
      case atStart => exact ⟨0, Nat.zero_le _, rfl, Below.refl _ _⟩
      case round =>
        obtain ⟨k, hk, rfl, hbw⟩ := hrel
        have BW := Lib.hid hbw
        have BWW := Lib.hid (B6.out.trans (hbw.mono B6.out.size))
        clear hbw
        by_cases hlt : k < R.length
        · have hget : ∀ j (hj : j < R.length), ∃ g, a6 = some ⟨g, 0, none⟩ ∧ wr.cell? ⟨g, j * 3, none⟩ = some (.int .i64 R[j].topic) ∧ wr.cell? ⟨g, j * 3 + 1, none⟩ = some (.int .i64 R[j].score) ∧ wr.cell? ⟨g, j * 3 + 2, none⟩ = some (.int .i64 R[j].place) := fun j hj => by
            obtain ⟨a', cc, he, hc⟩ := FN.out.new BW.out
            obtain ⟨g, hg, h0, h1, h2⟩ := hc j hj
            refine ⟨g, ?_, h0, h1, h2⟩
            have := congrArg (fun v => match v with | Value.slice a _ _ => a | _ => none) he
            simp only at this
            rw [this]; exact hg
          have HGET := Lib.hid hget
          clear hget
          obtain ⟨g6, rfl, m0, m1, m2⟩ := HGET.out k hlt
          obtain ⟨i, hi, ht, hsc, hpl, hps⟩ := score_of HLEN.out TO.out (List.getElem_mem hlt)
          have hi2 : i < XX.length := by have := HLEN.out; omega
          rw [ht] at m0
          rw [hsc] at m1
          rw [hpl] at m2
          obtain ⟨gt, ot, ct', hat, htc⟩ := (H1.out.new BWW.out).some_ hi
          obtain ⟨gx, ox, cx', hax, hxc⟩ := (H2.out.new BWW.out).some_ hi2
          simp only [Value.slice.injEq] at hat hax
          obtain ⟨rfl, -, rfl⟩ := hat
          obtain ⟨rfl, -, rfl⟩ := hax
          obtain ⟨g5, o5, c5', ha5, hx5⟩ := (StrRow.sl (l := [x]) (owns_new R6.out BW.out)).some_ (k := 0) (by simp)
          simp only [Value.slice.injEq] at ha5
          obtain ⟨rfl, -, rfl⟩ := ha5
          have hA := placesOf_len x (words TT[i])
          have hB := placesOf_len x (words XX[i])
          have hlT := (words_len TT[i]).1
          have hlX := (words_len XX[i]).1
          have hsT := HST.out TT[i] (List.getElem_mem hi)
          have hsX := HSX.out XX[i] (List.getElem_mem hi2)
          have hA2 := placesOf_take x (words TT[i])
          have hB2 := placesOf_take x (words XX[i])
          have HWT := Lib.hid (show ∀ W, Below w.heap.size w W → _ from fun W hb => words_wd TT[i] W (HT.out.below hb) (by omega))
          have HWX := Lib.hid (show ∀ W, Below w.heap.size w W → _ from fun W hb => words_wd XX[i] W (HT.out.below hb) (by omega))
          generalize hti : TT[i] = ti at *
          generalize hxi : XX[i] = xi at *
          generalize hwt : words ti = T at *
          generalize hwx : words xi = X at *
          have hTb : T.length ≤ 5242881 := by omega
          have hXb : X.length ≤ 5242881 := by omega
          clear hti hxi hwt hwx hsT hsX hlT hlX
          obtain ⟨S, hS⟩ : ∃ S : Int, S = 10 * ((placesOf x T).length : Int) + ((placesOf x X).length : Int) := ⟨_, rfl⟩
          obtain ⟨P, hP⟩ : ∃ P : Int, P = firstOf (placesOf x X) := ⟨_, rfl⟩
          rw [← hS] at m1 hsc
          rw [← hP] at m2
          have HSD := Lib.hid hS
          have HPD := Lib.hid hP
          have HA2 := Lib.hid hA2
          have HB2 := Lib.hid hB2
          have HTI := Lib.hid ht
          have HSC := Lib.hid hsc
          have HPS := Lib.hid hps
          have lg6 := World.block_lt_of_cell? wr _ m0
          have lgt := World.block_lt_of_cell? wr _ htc
          have lgx := World.block_lt_of_cell? wr _ hxc
          have lg5 := World.block_lt_of_cell? wr _ hx5
          simp only at lg6 lgt lgx lg5
          clear hS hP hA2 hB2 ht hsc hpl hps
          have hd0 : decide ((i : Int) < 0) = false := decide_eq_false (by omega)
          have hd1 : decide ((TT.length : Int) ≤ (i : Int)) = false := decide_eq_false (by omega)
          have hd2 : decide (TT.length ≤ i) = false := decide_eq_false (by omega)
          go_upto_region 11 with fail
          go_cut [96] (fun s96 wx => s96 = .bool false ∧ wx.heap[wr.heap.size]? = some (.cells #[.int .i64 i, .int .i64 S, .int .i64 P] 48 (0, 0)) ∧ Below wr.heap.size wr wx)
          case first =>
            have hbe := (Below.refl wr.heap.size wr).alloc (Nat.le_refl _) (.cells #[.int .i64 i, .int .i64 S, .int .i64 P] 48)
            have HBE := Lib.hid hbe
            have HBH := Lib.hid (heap_alloc_new wr (.cells #[.int .i64 i, .int .i64 S, .int .i64 P] 48))
            clear hbe
            by_cases hk0 : k = 0
            · subst hk0
              go_quiet (fail)
              go_wp2_with fail
              go_meet
              exact ⟨rfl, HBH.out, below_drewN HBE.out _⟩
            · obtain ⟨j, rfl⟩ : ∃ j, k = j + 1 := ⟨k - 1, by omega⟩
              have hj : j < R.length := by omega
              obtain ⟨g', hg', p0, p1, _⟩ := HGET.out j hj
              simp only [Option.some.injEq, Addr.mk.injEq] at hg'
              obtain ⟨rfl, -⟩ := hg'
              have had := ahead_of TO.out hlt
              unfold Ahead at had
              rw [HTI.out, HSC.out] at had
              generalize R[j].topic = tj at *
              generalize R[j].score = sj at *
              have e1 : IntKind.i64.wrap ((j : Int) + 1 - 1) = (j : Int) := by rw [Int.add_sub_cancel]; exact IntWalk.i64_in _ (by omega)
              have hji : (0 : Int) < (j : Int) + 1 := by omega
              have hnlt : decide (sj < S) = false := decide_eq_false (by omega)
              by_cases heq : sj = S
              · have hE : (sj == S) = true := by rw [beq_iff_eq]; exact heq
                have hT2 : decide ((i : Int) ≤ tj) = false := decide_eq_false (by omega)
                clear heq had
                go_quiet (fail)
                go_wp2_with fail
                go_meet
                exact ⟨rfl, HBH.out, below_drewN HBE.out _⟩
              · have hE : (sj == S) = false := by rw [beq_eq_false_iff_ne]; exact heq
                clear heq had
                go_quiet (fail)
                go_wp2_with fail
                go_meet
                exact ⟨rfl, HBH.out, below_drewN HBE.out _⟩
          case rest =>
            obtain ⟨rfl, hblk, hbx⟩ := hcut
            have hltK := lt_of_heap hblk
            have htc1 := (hbx.cell (p := ⟨gt, ot + i, none⟩) lgt).trans htc
            have hxc1 := (hbx.cell (p := ⟨gx, ox + i, none⟩) lgx).trans hxc
            have hx51 := (hbx.cell (p := ⟨g5, o5 + 0, none⟩) lg5).trans hx5
            have HXC := Lib.hid hxc1
            have HX5 := Lib.hid hx51
            have HBLK := Lib.hid hblk
            have BWC := Lib.hid (BWW.out.trans (hbx.mono BWW.out.size))
            have BRC := Lib.hid (BW.out.trans (hbx.mono BW.out.size))
            have z0 : wc.cell? ⟨wr.heap.size, 0, none⟩ = some (.int .i64 i) := by rw [Lib.cell_of_heap hblk]; rfl
            clear m0 m1 m2 htc hxc hx5 hbx hxc1 hx51 hblk hd0 hd1 hd2
            go_wp2_with (go_at_call 10; refine (HWT.out _ BWC.out).mono ?_; rintro e w7 ⟨a7, c7, rfl, hr7, hb7⟩)
            have HK7 := Lib.hid ((hb7.block _ hltK).trans HBLK.out)
            have hx57 := (hb7.cell (p := ⟨g5, o5 + 0, none⟩) (World.block_lt_of_cell? wc _ HX5.out)).trans HX5.out
            have hxc7 := (hb7.cell (p := ⟨gx, ox + i, none⟩) (World.block_lt_of_cell? wc _ HXC.out)).trans HXC.out
            have BW7 := Lib.hid (BWC.out.trans (hb7.mono BWC.out.size))
            have BR7 := Lib.hid (BRC.out.trans (hb7.mono BRC.out.size))
            have z07 : w7.cell? ⟨wr.heap.size, 0, none⟩ = some (.int .i64 i) := by rw [Lib.cell_of_heap HK7.out]; rfl
            have hltK7 := lt_of_heap HK7.out
            have HR7 := Lib.hid hr7
            have HX57 := Lib.hid hx57
            have HXC7 := Lib.hid hxc7
            clear hr7 hb7 z0 htc1 hxc7
            rw [Nat.add_zero] at hx57
            go_loopw [13, 104] (fun p q W => ∃ n : Nat, n ≤ T.length ∧ q = .int .i64 n ∧ p = .int .i64 (10 * ((placesOf x (T.take n)).length : Int)) ∧ w7 = W) (fun _ q _ => T.length - (intOf q).toNat)
            case atStart => exact ⟨0, Nat.zero_le _, rfl, rfl, rfl⟩
            case round =>
              obtain ⟨n, hn, rfl, rfl, rfl⟩ := hrel
              have hpl := placesOf_len x (T.take n)
              rw [List.length_take] at hpl
              by_cases hltn : n < T.length
              · obtain ⟨g7, o7, c7', hs7, hy⟩ := HR7.out.sl.some_ hltn
                simp only [Value.slice.injEq] at hs7
                obtain ⟨rfl, -, rfl⟩ := hs7
                have hst := HA2.out n hltn
                generalize T[n] = y at *
                have HSTP := Lib.hid hst
                clear hst
                generalize hpn : (placesOf x (T.take n)).length = pn at *
                have HPN := Lib.hid hpn
                clear hpn
                by_cases hyx : y = x
                · have hb : (y == x) = true := by simpa using hyx
                  have HNX := Lib.hid (show (placesOf x (T.take (n + 1))).length = pn + 1 from by rw [HSTP.out, if_pos hyx, List.length_append, HPN.out]; rfl)
                  clear hyx
                  go_wp2_with fail
                  go_roundw
                  case rel => exact ⟨n + 1, by omega, by go_num, by rw [HNX.out]; exact congrArg (Value.int .i64) (by push_cast; omega), by first | rfl | trivial⟩
                  case measure => simp [intOf] <;> omega
                · have hb : (y == x) = false := by simpa using hyx
                  have HNX := Lib.hid (show (placesOf x (T.take (n + 1))).length = pn from by rw [HSTP.out, if_neg hyx, List.append_nil, HPN.out])
                  clear hyx
                  go_wp2_with fail
                  go_roundw
                  case rel => exact ⟨n + 1, by omega, by go_num, by rw [HNX.out], by first | rfl | trivial⟩
                  case measure => simp [intOf] <;> omega
              · have hTn : T.take n = T := List.take_of_length_le (by omega)
                rw [hTn] at hpl ⊢
                clear hTn
                generalize hpa : (placesOf x T).length = pa at *
                have HPA := Lib.hid hpa
                have hpa2 : pa ≤ 5242881 := by omega
                clear hpa
                have hxc7 := HXC7.out
                go_wp2_with (go_at_call 10; refine (HWX.out _ BW7.out).mono ?_; rintro e w8 ⟨a8, c8, rfl, hr8, hb8⟩)
                have HK8 := Lib.hid ((hb8.block _ hltK7).trans HK7.out)
                have hx58 := (hb8.cell (p := ⟨g5, o5 + 0, none⟩) (World.block_lt_of_cell? w7 _ HX57.out)).trans HX57.out
                have BW8 := Lib.hid (BW7.out.trans (hb8.mono BW7.out.size))
                have BR8 := Lib.hid (BR7.out.trans (hb8.mono BR7.out.size))
                have z18 : w8.cell? ⟨wr.heap.size, 1, none⟩ = some (.int .i64 S) := by rw [Lib.cell_of_heap HK8.out]; rfl
                have z28 : w8.cell? ⟨wr.heap.size, 2, none⟩ = some (.int .i64 P) := by rw [Lib.cell_of_heap HK8.out]; rfl
                have HR8 := Lib.hid hr8
                clear hr8 hb8 z07 hx57 hxc7
                rw [Nat.add_zero] at hx58
                go_loopw [13, 14, 123] (fun p f q W => ∃ n : Nat, n ≤ X.length ∧ q = .int .i64 n ∧ p = .int .i64 (10 * (pa : Int) + ((placesOf x (X.take n)).length : Int)) ∧ f = .int .i64 (firstOf (placesOf x (X.take n))) ∧ w8 = W) (fun _ _ q _ => X.length - (intOf q).toNat)
                case atStart => exact ⟨0, Nat.zero_le _, rfl, by simp [placesOf], rfl, rfl⟩
                case round =>
                  obtain ⟨n2, hn2, rfl, rfl, rfl, rfl⟩ := hrel
                  have hpl2 := placesOf_len x (X.take n2)
                  rw [List.length_take] at hpl2
                  by_cases hltn2 : n2 < X.length
                  · obtain ⟨g8, o8, c8', hs8, hy8⟩ := HR8.out.sl.some_ hltn2
                    simp only [Value.slice.injEq] at hs8
                    obtain ⟨rfl, -, rfl⟩ := hs8
                    have hst := HB2.out n2 hltn2
                    generalize X[n2] = y at *
                    have hfn := firstOf_neg (placesOf x (X.take n2))
                    generalize hl : placesOf x (X.take n2) = l at *
                    have HSTP := Lib.hid hst
                    clear hst hl
                    by_cases hyx : y = x
                    · have hb : (y == x) = true := by simpa using hyx
                      have HNX := Lib.hid (show placesOf x (X.take (n2 + 1)) = l ++ [n2] from by rw [HSTP.out, if_pos hyx])
                      clear hyx
                      by_cases hl0 : l = []
                      · have hneg : firstOf l < 0 := hfn.2 hl0
                        have HL0 := Lib.hid hl0
                        generalize hfl : firstOf l = fl at *
                        clear hl0 hfn hfl
                        go_wp2_with fail
                        go_roundw
                        case rel => exact ⟨n2 + 1, by omega, by go_num, by rw [HNX.out, List.length_append]; exact congrArg (Value.int .i64) (by simp only [List.length_cons, List.length_nil]; push_cast; omega), by rw [HNX.out, firstOf_snoc, if_pos HL0.out], by first | rfl | trivial⟩
                        case measure => simp [intOf] <;> omega
                      · have hneg : ¬ firstOf l < 0 := fun h => hl0 (hfn.1 h)
                        have HL0 := Lib.hid hl0
                        have HFL := Lib.hid (firstOf_snoc l n2)
                        generalize hfl : firstOf l = fl at *
                        have HFE := Lib.hid hfl
                        clear hl0 hfn hfl
                        go_wp2_with fail
                        go_roundw
                        case rel => exact ⟨n2 + 1, by omega, by go_num, by rw [HNX.out, List.length_append]; exact congrArg (Value.int .i64) (by simp only [List.length_cons, List.length_nil]; push_cast; omega), by rw [HNX.out, HFL.out, if_neg HL0.out], by first | rfl | trivial⟩
                        case measure => simp [intOf] <;> omega
                    · have hb : (y == x) = false := by simpa using hyx
                      have HNX := Lib.hid (show placesOf x (X.take (n2 + 1)) = l from by rw [HSTP.out, if_neg hyx, List.append_nil])
                      clear hyx hfn
                      go_wp2_with fail
                      go_roundw
                      case rel => exact ⟨n2 + 1, by omega, by go_num, by rw [HNX.out], by rw [HNX.out], by first | rfl | trivial⟩
                      case measure => simp [intOf] <;> omega
                  · have hXn : X.take n2 = X := List.take_of_length_le (by omega)
                    rw [hXn] at hpl2 ⊢
                    clear hXn
                    have hSd := HSD.out
                    have hPd := HPD.out
                    have hps := HPS.out
                    skip
                    rw [← hSd, ← hPd]
                    have hS1 : (S != S) = false := by simp
                    have hP1 : (P != P) = false := by simp
                    have hS0 : (S == 0) = false := by rw [beq_eq_false_iff_ne]; omega
                    clear hSd hPd hps
                    go_wp2_with fail
                    go_roundw
                    case rel => exact ⟨k + 1, by omega, by go_num, BR8.out⟩
                    case measure => simp [intOf] <;> omega
        · go_wp2_with fail
          go_ret
          exact ⟨rfl, BWW.out⟩
    · have hne : ((ws.length : Int) != 1) = true := by rw [bne_iff_ne]; omega
      clear hw1
      go_enter Tryd.func6, Tryd.ntmps6
      go_wp2_with (first
        | (go_at_call 7; refine HAW.out.mono ?_; rintro e w1 ⟨rfl, hb1⟩; have B1 := Lib.hid hb1; clear hb1)
        | (go_at_call_of 9 (Value.slice at_ TT.length ct); refine (HTW1.out _ B1.out).mono ?_; rintro e w2 ⟨a1, c1, rfl, hr1, hb2⟩; have R1 := Lib.hid hr1; have B2 := Lib.hid (B1.out.trans (hb2.mono B1.out.size)); clear hr1 hb2)
        | (go_at_call_of 9 (Value.slice ax XX.length cx); refine (HTW2.out _ B2.out).mono ?_; rintro e w3 ⟨a2, c2, rfl, hr2, hb3⟩; have R2 := Lib.hid hr2; have R1' := Lib.hid (owns_new R1.out hb3); have B3 := Lib.hid (B2.out.trans (hb3.mono B2.out.size)); clear hr2 hb3)
        | (go_at_call 8; refine (HNEW.out _ _ _ _ _ (HT.out.below B3.out) R1'.out R2.out).mono ?_; rintro e w4 ⟨b, rfl, hf4, hb4⟩; have B4 := Lib.hid (B3.out.trans (hb4.mono B3.out.size)); clear hf4 hb4)
        | (go_at_call 10; refine (HWO.out _ B4.out).mono ?_; rintro e w5 ⟨a5, c5, rfl, hr5, hb5⟩; have B5 := Lib.hid (B4.out.trans (hb5.mono B4.out.size)); clear hr5 hb5))
      go_ret
      exact ⟨rfl, B5.out⟩
  · have HNEW := Lib.hid (show ∀ (a1 a2 : Option Addr) (c1 c2 : Nat) W, _ from fun a1 a2 c1 c2 W => new_bad a1 a2 TT.length XX.length c1 c2 W (by omega) (by omega) (by omega))
    clear hok
    go_enter Tryd.func6, Tryd.ntmps6
    go_wp2_with (first
      | (go_at_call 7; refine HAW.out.mono ?_; rintro e w1 ⟨rfl, hb1⟩; have B1 := Lib.hid hb1; clear hb1)
      | (go_at_call_of 9 (Value.slice at_ TT.length ct); refine (HTW1.out _ B1.out).mono ?_; rintro e w2 ⟨a1, c1, rfl, hr1, hb2⟩; have B2 := Lib.hid (B1.out.trans (hb2.mono B1.out.size)); clear hr1 hb2)
      | (go_at_call_of 9 (Value.slice ax XX.length cx); refine (HTW2.out _ B2.out).mono ?_; rintro e w3 ⟨a2, c2, rfl, hr2, hb3⟩; have B3 := Lib.hid (B2.out.trans (hb3.mono B2.out.size)); clear hr2 hb3)
      | (go_at_call 8; refine (HNEW.out _ _ _ _ _).mono ?_; rintro e w4 ⟨code, rfl, hcode, hb4⟩; have hcd : (code != 0) = true := (by simpa using hcode); have B4 := Lib.hid (B3.out.trans (hb4.mono B3.out.size)); clear hcode hb4)
      | (go_at_call 10; refine (HWO.out _ B4.out).mono ?_; rintro e w5 ⟨a5, c5, rfl, hr5, hb5⟩; have B5 := Lib.hid (B4.out.trans (hb5.mono B4.out.size)); clear hr5 hb5))
    go_ret
    exact ⟨rfl, B5.out⟩
end Go.Proofs.YthpbdeiphagkiaaDoor
