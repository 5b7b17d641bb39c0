/- folioref23.Parse: the walk itself. -/
import Derived.Test.YthpbdeiphagkiaaGreatDoorRef
namespace Go.Proofs.YthpbdeiphagkiaaGreatDoor
open Go.RowKit Find

theorem byte_yes {x c : UInt8} (h : x = c) : ((x.toNat : Int) == (c.toNat : Int)) = true := by rw [h]; simp
theorem byte_ne_no {x c : UInt8} (h : x = c) : ((x.toNat : Int) != (c.toNat : Int)) = false := by rw [h]; simp
theorem byte_ne_yes {x c : UInt8} (h : x ≠ c) : ((x.toNat : Int) != (c.toNat : Int)) = true := by
  rw [bne_iff_ne]
  intro e
  exact h (UInt8.toNat_inj.1 (by omega))
theorem byte_no {x c : UInt8} (h : x ≠ c) : ((x.toNat : Int) == (c.toNat : Int)) = false := by
  rw [beq_eq_false_iff_ne]
  intro e
  exact h (UInt8.toNat_inj.1 (by omega))
def RParsePost (s : ByteArray) (w : World) (e : Ending) (w' : World) : Prop := ∃ v, e = .returned (.tuple #[v, .int .i64 (parseP s.data.toList).2]) ∧ Below w.heap.size w w'
set_option maxHeartbeats 16000000 in
set_option maxRecDepth 100000 in
theorem rparse_any (s : ByteArray) (w : World) :
    Calls Tryz.prog 5 #[.string s] w (RParsePost s w) := by
  have hz3 : Tryz.prog.cellsOf 62 = 3 := by kernel_rfl
  obtain ⟨i0, hi0, hz0, hz1, hz2⟩ := info_parts info_cl
  by_cases h500 : 500 < s.size
  · have HP := Lib.hid (show (parseP s.data.toList).2 = 2 from by unfold parseP; rw [if_pos (by rw [← size_list]; exact h500)])
    have h5 : (500 : Int) < (s.size : Int) := by omega
    go_enter Tryz.func5, Tryz.ntmps5
    go_wp2_with fail
    go_ret2
    exact ⟨_, by rw [HP.out]; rfl, Below.refl _ _⟩
  · have h5 : ¬ (500 : Int) < (s.size : Int) := by omega
    have HPL := Lib.hid (rplain_any s w (by omega))
    cases hpl : plainB s.data.toList with
    | false =>
      have HP := Lib.hid (show (parseP s.data.toList).2 = 230 from by unfold parseP; rw [if_neg (by rw [← size_list]; exact h500), hpl]; rfl)
      unfold RPlainPost at HPL
      rw [hpl] at HPL
      clear hpl h500
      go_enter Tryz.func5, Tryz.ntmps5
      go_wp2_with (go_at_call 15; refine HPL.out.mono ?_; rintro e w1 ⟨i, rfl, hb1⟩; have HB := Lib.hid hb1; clear hb1)
      go_ret2
      exact ⟨_, by rw [HP.out]; rfl, HB.out⟩
    | true =>
      have HP := Lib.hid (code_parse (s := s.data.toList) (by rw [← size_list]; omega) hpl)
      have HPO := Lib.hid (show ∀ (e : Ending) (w' : World) (v : Value) (i : Int), codeF [] s.data.toList = i → e = .returned (.tuple #[v, .int .i64 i]) → Below w.heap.size w w' → RParsePost s w e w' from fun e w' v i h1 h2 h3 => ⟨v, by rw [HP.out, h1]; exact h2, h3⟩)
      unfold RPlainPost at HPL
      rw [hpl] at HPL
      clear hpl h500
      go_enter Tryz.func5, Tryz.ntmps5
      go_wp2_with (go_at_call 15; refine HPL.out.mono ?_; rintro e w1 ⟨i, rfl, hb1⟩; have HB := Lib.hid hb1; clear hb1)
      go_loopw [6, 7] (fun v q wr => ∃ (pos : Nat) (L : List Cl) (us : List Value) (av : Option Addr) (cv : Nat), pos ≤ s.size ∧ q = .int .i64 pos ∧ v = .slice av L.length cv ∧ Hid (codeF [] s.data.toList = codeF L (s.data.toList.drop pos)) ∧ Hid (us.length = L.length) ∧ Hid (∀ u ∈ us, ∃ a n c, u = Value.slice a n c) ∧ L.length ≤ pos ∧ Hid (wr.ownsRow w.heap.size 62 3 (.slice av L.length cv) L.length (clCells us L)) ∧ Hid (Below w.heap.size w wr)) (fun _ q _ => s.size - (intOf q).toNat)
      case atStart => exact ⟨0, [], [], none, 0, Nat.zero_le _, rfl, rfl, Lib.hid (by rw [List.drop_zero]), Lib.hid rfl, Lib.hid (fun u h => by simp at h), Nat.le_refl _, Lib.hid (World.ownsRow_nil _ _ _ _), HB⟩
      case round =>
        obtain ⟨pos, L, us, av, cv, hpos, rfl, rfl, hco, hul, hus, hLp, hown, hbw⟩ := hrel
        obtain ⟨W, hW⟩ : ∃ W, W = wr := ⟨wr, rfl⟩
        subst hW
        have hbz := hbw.out.size
        by_cases hlt : pos < s.size
        · by_cases h32 : s[pos] = 32
          · have t1 : ((s[pos].toNat : Int) == 32) = true := byte_yes h32
            have HN := Lib.hid (show codeF [] s.data.toList = codeF L (s.data.toList.drop (pos + 1)) from by rw [hco.out, drop_at hlt, h32, code_blank])
            clear h32
            go_wp2_with fail
            go_roundw
            case rel => exact ⟨pos + 1, L, us, av, cv, by omega, by go_num, rfl, HN, hul, hus, by omega, hown, hbw⟩
            case measure => simp [intOf] <;> omega
          · have t1 : ((s[pos].toNat : Int) == 32) = false := byte_no h32
            obtain ⟨no, hno⟩ : ∃ no, no = (s[pos] == 45) := ⟨_, rfl⟩
            obtain ⟨p1, hp1⟩ : ∃ p1, p1 = stepN s pos no := ⟨_, rfl⟩
            have hp1a : pos ≤ p1 ∧ p1 ≤ pos + 1 := by rw [hp1]; unfold stepN; split <;> omega
            have HNO := Lib.hid hno
            have HP1 := Lib.hid hp1
            have H32 := Lib.hid h32
            have hcase : (((s[pos].toNat : Int) == 45) = true ∧ no = true ∧ p1 = pos + 1) ∨ (((s[pos].toNat : Int) == 45) = false ∧ no = false ∧ p1 = pos) := by
              by_cases e : s[pos] = 45
              · left
                have hn : no = true := by rw [hno, e]; rfl
                exact ⟨byte_yes e, hn, by rw [hp1, hn]; rfl⟩
              · right
                have hn : no = false := by rw [hno]; simpa using e
                exact ⟨byte_no e, hn, by rw [hp1, hn]; rfl⟩
            have HCASE := Lib.hid hcase
            clear hno hp1 h32 hcase
            go_upto_region 11 with fail
            go_cut [8] (fun s8 wx => s8 = .bool no ∧ W = wx)
            case first =>
              rcases HCASE.out with ⟨e1, e2, e3⟩ | ⟨e1, e2, e3⟩
              · subst e2
                go_wp2_with fail
                go_meet
                exact ⟨rfl, rfl⟩
              · subst e2
                go_wp2_with fail
                go_meet
                exact ⟨rfl, rfl⟩
            case rest =>
              obtain ⟨rfl, rfl⟩ := hcut
              go_upto_if 41 with fail
              go_cut [7] (fun s7 wx => s7 = .int .i64 p1 ∧ W = wx)
              case first =>
                rcases HCASE.out with ⟨e1, e2, e3⟩ | ⟨e1, e2, e3⟩
                · subst e2 e3
                  go_wp2_with fail
                  go_meet
                  exact ⟨by go_num, rfl⟩
                · subst e2 e3
                  go_wp2_with fail
                  go_meet
                  exact ⟨rfl, rfl⟩
              case rest =>
                obtain ⟨rfl, rfl⟩ := hcut
                by_cases hq : ∃ h : p1 < s.size, s[p1] = 34
                · have HQ := Lib.hid hq
                  obtain ⟨hq1, hq2⟩ := hq
                  have t2 : ((s[p1].toNat : Int) == 34) = true := byte_yes hq2
                  clear hq2
                  go_wp2_with fail
                  go_loopw [12] (fun q wr => ∃ k : Nat, p1 + 1 ≤ k ∧ k ≤ s.size ∧ q = .int .i64 k ∧ Hid (∀ j (hj : j < s.size), p1 + 1 ≤ j → j < k → s[j] ≠ 34) ∧ W = wr) (fun q _ => s.size - (intOf q).toNat)
                  case atStart => exact ⟨p1 + 1, Nat.le_refl _, by omega, by go_num, Lib.hid (fun j hj h1 h2 => by omega), rfl⟩
                  case round =>
                    obtain ⟨k, hk1, hk2, rfl, hnot, rfl⟩ := hrel
                    by_cases hks : k < s.size
                    · by_cases hk34 : s[k] = 34
                      · have t3 : ((s[k].toNat : Int) != 34) = false := byte_ne_no hk34
                        have HST := Lib.hid (step_quote (L := L) hlt H32.out HNO.out HP1.out HQ.out hk1 ⟨hks, hk34⟩ hnot.out)
                        clear hk34
                        have t4 : ((k : Int) == (s.size : Int)) = false := by rw [beq_eq_false_iff_ne]; omega
                        have t4' : (k == s.size) = false := by rw [beq_eq_false_iff_ne]; omega
                        have hxs : (s.extract (p1 + 1) k).size ≤ 500 := by rw [size_list, ext_list, List.length_take, List.length_drop, ← size_list]; omega
                        by_cases hop : ∃ h : k + 1 < s.size, s[k + 1] = 42
                        · obtain ⟨hop1, hop2⟩ := hop
                          have t5 : ((s[k + 1].toNat : Int) == 42) = true := byte_yes hop2
                          have HST := Lib.hid (HST.out.1 hop1 hop2)
                          clear hop2
                          go_upto_region 32 with fail
                          generalize s.extract (p1 + 1) k = B at *
                          have hB5 : B.size ≤ 500 := by omega
                          have HCL := Lib.hid (show ∀ X, _ from fun X => rclause_any B no true X (by omega))
                          cases hws : words B.data.toList with
                          | nil =>
                            rw [hws] at HCL
                            have HN := Lib.hid (show codeF [] s.data.toList = codeF L (s.data.toList.drop (k + 2)) from by rw [hco.out]; have := HST.out true; rwa [hws] at this)
                            clear hws
                            go_wp2_with (go_at_call 16; refine (HCL.out _).mono ?_; rintro e w5 ⟨a5, c5, rfl, hb5⟩; have B5 := Lib.hid hb5; clear hb5)
                            go_roundw
                            case rel =>
                              have hbb := B5.out.alloc B5.out.size (.cells #[.slice a5 0 c5, .bool no, .bool true] 62)
                              exact ⟨k + 2, L, us, av, cv, by omega, by go_num, rfl, HN, hul, hus, by omega, Lib.hid (owns_new hown.out hbb), Lib.hid (hbw.out.trans (hbb.mono hbz))⟩
                            case measure => simp [intOf] <;> omega
                          | cons y ys =>
                            rw [hws] at HCL
                            have HN := Lib.hid (show codeF [] s.data.toList = codeF (L ++ [⟨y :: ys, no, true⟩]) (s.data.toList.drop (k + 2)) from by rw [hco.out]; have := HST.out true; rwa [hws] at this)
                            have hlen := (words_len B.data.toList).1
                            rw [hws, ← size_list] at hlen
                            have hd5 : decide (0 < (y :: ys).length) = true := by simp
                            rw [hd5] at HCL
                            clear hws hd5
                            generalize hzz : y :: ys = zs at *
                            clear hzz
                            go_wp2_with (first
                              | (go_at_call 16; refine (HCL.out _).mono ?_; rintro e w5 ⟨a5, c5, rfl, hb5⟩; have B5 := Lib.hid hb5; have HO5 := Lib.hid (owns_new hown.out (hb5.alloc hb5.size (.cells #[.slice a5 zs.length c5, .bool no, .bool true] 62))); have hz5 := hb5.size; clear hb5)
                              | (at_builtin; refine wpList_append_lies _ rfl _ _ 22 rfl w.heap.size 62 i0 _ 3 32 Tryz.underlying22 hi0 hz0 hz1 hz2 rfl (by omega) (.slice av L.length cv) L.length (clCells us L) rfl (HO5.out.alloc _) ⟨w5.heap.size + 1, 0, none⟩ 1 1 [.slice a5 zs.length c5, .bool no, .bool true] rfl rfl (World.news_of_block (cs := #[.slice a5 zs.length c5, .bool no, .bool true]) (t := 62) (fr := (0, 0)) (by have := heap_alloc_new (w5.alloc (.cells #[.slice a5 zs.length c5, .bool no, .bool true] 62)) (.cells #[.slice a5 zs.length c5, .bool no, .bool true] 62); rwa [World.size_alloc] at this)) (by simp [Value.oneCell']) (by omega) (by unfold maxLen; omega) (by omega) (by simp; omega) _ rfl ?_; intro gg cap w6 hown6 hgrow hat hlt6; have HG := Lib.hid hgrow; have HO6 := Lib.hid hown6; clear hgrow hown6 hat hlt6))
                            go_roundw
                            case rel =>
                              exact ⟨k + 2, L ++ [⟨zs, no, true⟩], us ++ [.slice a5 zs.length c5], some ⟨gg, 0, none⟩, cap, by omega, by go_num, by rw [List.length_append]; rfl, HN, Lib.hid (by rw [List.length_append, List.length_append, hul.out]; rfl), Lib.hid (fun u hu => by rcases List.mem_append.1 hu with h | h; exact hus.out u h; exact ⟨_, _, _, List.mem_singleton.1 h⟩), by rw [List.length_append]; simp only [List.length_cons, List.length_nil]; omega, Lib.hid (by rw [List.length_append, clCells_append us L hul.out]; exact HO6.out), Lib.hid (((((hbw.out.trans (B5.out.mono hbz)).alloc (by omega) _).alloc (by simp; omega) _).grown HG.out (by simp; omega) (fun j hj => (hown.out.lt j hj).1)))⟩
                            case measure => simp [intOf] <;> omega
                        · have HST := Lib.hid (HST.out.2 (fun hs e => hop ⟨hs, e⟩))
                          by_cases hk1s : k + 1 < s.size
                          · have t5 : ((s[k + 1].toNat : Int) == 42) = false := byte_no fun e => hop ⟨hk1s, e⟩
                            clear hop
                            go_upto_region 32 with fail
                            generalize s.extract (p1 + 1) k = B at *
                            have hB5 : B.size ≤ 500 := by omega
                            have HCL := Lib.hid (show ∀ X, _ from fun X => rclause_any B no false X (by omega))
                            cases hws : words B.data.toList with
                            | nil =>
                              rw [hws] at HCL
                              have HN := Lib.hid (show codeF [] s.data.toList = codeF L (s.data.toList.drop (k + 1)) from by rw [hco.out]; have := HST.out false; rwa [hws] at this)
                              clear hws
                              go_wp2_with (go_at_call 16; refine (HCL.out _).mono ?_; rintro e w5 ⟨a5, c5, rfl, hb5⟩; have B5 := Lib.hid hb5; clear hb5)
                              go_roundw
                              case rel =>
                                have hbb := B5.out.alloc B5.out.size (.cells #[.slice a5 0 c5, .bool no, .bool false] 62)
                                exact ⟨k + 1, L, us, av, cv, by omega, by go_num, rfl, HN, hul, hus, by omega, Lib.hid (owns_new hown.out hbb), Lib.hid (hbw.out.trans (hbb.mono hbz))⟩
                              case measure => simp [intOf] <;> omega
                            | cons y ys =>
                              rw [hws] at HCL
                              have HN := Lib.hid (show codeF [] s.data.toList = codeF (L ++ [⟨y :: ys, no, false⟩]) (s.data.toList.drop (k + 1)) from by rw [hco.out]; have := HST.out false; rwa [hws] at this)
                              have hlen := (words_len B.data.toList).1
                              rw [hws, ← size_list] at hlen
                              have hd5 : decide (0 < (y :: ys).length) = true := by simp
                              rw [hd5] at HCL
                              clear hws hd5
                              generalize hzz : y :: ys = zs at *
                              clear hzz
                              go_wp2_with (first
                                | (go_at_call 16; refine (HCL.out _).mono ?_; rintro e w5 ⟨a5, c5, rfl, hb5⟩; have B5 := Lib.hid hb5; have HO5 := Lib.hid (owns_new hown.out (hb5.alloc hb5.size (.cells #[.slice a5 zs.length c5, .bool no, .bool false] 62))); have hz5 := hb5.size; clear hb5)
                                | (at_builtin; refine wpList_append_lies _ rfl _ _ 22 rfl w.heap.size 62 i0 _ 3 32 Tryz.underlying22 hi0 hz0 hz1 hz2 rfl (by omega) (.slice av L.length cv) L.length (clCells us L) rfl (HO5.out.alloc _) ⟨w5.heap.size + 1, 0, none⟩ 1 1 [.slice a5 zs.length c5, .bool no, .bool false] rfl rfl (World.news_of_block (cs := #[.slice a5 zs.length c5, .bool no, .bool false]) (t := 62) (fr := (0, 0)) (by have := heap_alloc_new (w5.alloc (.cells #[.slice a5 zs.length c5, .bool no, .bool false] 62)) (.cells #[.slice a5 zs.length c5, .bool no, .bool false] 62); rwa [World.size_alloc] at this)) (by simp [Value.oneCell']) (by omega) (by unfold maxLen; omega) (by omega) (by simp; omega) _ rfl ?_; intro gg cap w6 hown6 hgrow hat hlt6; have HG := Lib.hid hgrow; have HO6 := Lib.hid hown6; clear hgrow hown6 hat hlt6))
                              go_roundw
                              case rel =>
                                exact ⟨k + 1, L ++ [⟨zs, no, false⟩], us ++ [.slice a5 zs.length c5], some ⟨gg, 0, none⟩, cap, by omega, by go_num, by rw [List.length_append]; rfl, HN, Lib.hid (by rw [List.length_append, List.length_append, hul.out]; rfl), Lib.hid (fun u hu => by rcases List.mem_append.1 hu with h | h; exact hus.out u h; exact ⟨_, _, _, List.mem_singleton.1 h⟩), by rw [List.length_append]; simp only [List.length_cons, List.length_nil]; omega, Lib.hid (by rw [List.length_append, clCells_append us L hul.out]; exact HO6.out), Lib.hid (((((hbw.out.trans (B5.out.mono hbz)).alloc (by omega) _).alloc (by simp; omega) _).grown HG.out (by simp; omega) (fun j hj => (hown.out.lt j hj).1)))⟩
                              case measure => simp [intOf] <;> omega
                          · clear hop
                            go_upto_region 32 with fail
                            generalize s.extract (p1 + 1) k = B at *
                            have hB5 : B.size ≤ 500 := by omega
                            have HCL := Lib.hid (show ∀ X, _ from fun X => rclause_any B no false X (by omega))
                            cases hws : words B.data.toList with
                            | nil =>
                              rw [hws] at HCL
                              have HN := Lib.hid (show codeF [] s.data.toList = codeF L (s.data.toList.drop (k + 1)) from by rw [hco.out]; have := HST.out false; rwa [hws] at this)
                              clear hws
                              go_wp2_with (go_at_call 16; refine (HCL.out _).mono ?_; rintro e w5 ⟨a5, c5, rfl, hb5⟩; have B5 := Lib.hid hb5; clear hb5)
                              go_roundw
                              case rel =>
                                have hbb := B5.out.alloc B5.out.size (.cells #[.slice a5 0 c5, .bool no, .bool false] 62)
                                exact ⟨k + 1, L, us, av, cv, by omega, by go_num, rfl, HN, hul, hus, by omega, Lib.hid (owns_new hown.out hbb), Lib.hid (hbw.out.trans (hbb.mono hbz))⟩
                              case measure => simp [intOf] <;> omega
                            | cons y ys =>
                              rw [hws] at HCL
                              have HN := Lib.hid (show codeF [] s.data.toList = codeF (L ++ [⟨y :: ys, no, false⟩]) (s.data.toList.drop (k + 1)) from by rw [hco.out]; have := HST.out false; rwa [hws] at this)
                              have hlen := (words_len B.data.toList).1
                              rw [hws, ← size_list] at hlen
                              have hd5 : decide (0 < (y :: ys).length) = true := by simp
                              rw [hd5] at HCL
                              clear hws hd5
                              generalize hzz : y :: ys = zs at *
                              clear hzz
                              go_wp2_with (first
                                | (go_at_call 16; refine (HCL.out _).mono ?_; rintro e w5 ⟨a5, c5, rfl, hb5⟩; have B5 := Lib.hid hb5; have HO5 := Lib.hid (owns_new hown.out (hb5.alloc hb5.size (.cells #[.slice a5 zs.length c5, .bool no, .bool false] 62))); have hz5 := hb5.size; clear hb5)
                                | (at_builtin; refine wpList_append_lies _ rfl _ _ 22 rfl w.heap.size 62 i0 _ 3 32 Tryz.underlying22 hi0 hz0 hz1 hz2 rfl (by omega) (.slice av L.length cv) L.length (clCells us L) rfl (HO5.out.alloc _) ⟨w5.heap.size + 1, 0, none⟩ 1 1 [.slice a5 zs.length c5, .bool no, .bool false] rfl rfl (World.news_of_block (cs := #[.slice a5 zs.length c5, .bool no, .bool false]) (t := 62) (fr := (0, 0)) (by have := heap_alloc_new (w5.alloc (.cells #[.slice a5 zs.length c5, .bool no, .bool false] 62)) (.cells #[.slice a5 zs.length c5, .bool no, .bool false] 62); rwa [World.size_alloc] at this)) (by simp [Value.oneCell']) (by omega) (by unfold maxLen; omega) (by omega) (by simp; omega) _ rfl ?_; intro gg cap w6 hown6 hgrow hat hlt6; have HG := Lib.hid hgrow; have HO6 := Lib.hid hown6; clear hgrow hown6 hat hlt6))
                              go_roundw
                              case rel =>
                                exact ⟨k + 1, L ++ [⟨zs, no, false⟩], us ++ [.slice a5 zs.length c5], some ⟨gg, 0, none⟩, cap, by omega, by go_num, by rw [List.length_append]; rfl, HN, Lib.hid (by rw [List.length_append, List.length_append, hul.out]; rfl), Lib.hid (fun u hu => by rcases List.mem_append.1 hu with h | h; exact hus.out u h; exact ⟨_, _, _, List.mem_singleton.1 h⟩), by rw [List.length_append]; simp only [List.length_cons, List.length_nil]; omega, Lib.hid (by rw [List.length_append, clCells_append us L hul.out]; exact HO6.out), Lib.hid (((((hbw.out.trans (B5.out.mono hbz)).alloc (by omega) _).alloc (by simp; omega) _).grown HG.out (by simp; omega) (fun j hj => (hown.out.lt j hj).1)))⟩
                              case measure => simp [intOf] <;> omega
                      · have t3 : ((s[k].toNat : Int) != 34) = true := byte_ne_yes hk34
                        have HN := Lib.hid (show ∀ j (hj : j < s.size), p1 + 1 ≤ j → j < k + 1 → s[j] ≠ 34 from fun j hj h1 h2 => by
                          by_cases e : j = k
                          · subst e; exact hk34
                          · exact hnot.out j hj h1 (by omega))
                        clear hk34
                        go_wp2_with fail
                        go_roundw
                        case rel => exact ⟨k + 1, by omega, by omega, by go_num, HN, by first | rfl | trivial⟩
                        case measure => simp [intOf] <;> omega
                    · obtain rfl : k = s.size := by omega
                      have HL := Lib.hid (show codeF [] s.data.toList = 230 from by rw [hco.out]; exact step_lone hlt HNO.out HP1.out HQ.out hnot.out)
                      go_wp2_with fail
                      go_ret2
                      exact HPO.out _ _ _ _ HL.out rfl hbw.out
                · have HQN := Lib.hid (show ∀ h : p1 < s.size, s[p1] ≠ 34 from fun h e => hq ⟨h, e⟩)
                  clear hq
                  go_upto_region 16 with fail
                  go_cut [54] (fun s54 wx => s54 = .bool false ∧ W = wx)
                  case first =>
                    by_cases hp1s : p1 < s.size
                    · have t2 : ((s[p1].toNat : Int) == 34) = false := byte_no (HQN.out hp1s)
                      go_wp2_with fail
                      go_meet
                      exact ⟨rfl, rfl⟩
                    · go_wp2_with fail
                      go_meet
                      exact ⟨rfl, rfl⟩
                  case rest =>
                    obtain ⟨rfl, rfl⟩ := hcut
                    have hp1s : p1 ≤ s.size := by omega
                    go_wp2_with fail
                    go_loopw [7] (fun q wr => ∃ i : Nat, p1 ≤ i ∧ i ≤ s.size ∧ q = .int .i64 i ∧ Hid (∀ j (hj : j < s.size), p1 ≤ j → j < i → s[j] ≠ 32 ∧ s[j] ≠ 34) ∧ W = wr) (fun q _ => s.size - (intOf q).toNat)
                    case atStart => exact ⟨p1, Nat.le_refl _, hp1s, rfl, Lib.hid (fun j hj h1 h2 => by omega), rfl⟩
                    case round =>
                      obtain ⟨i, hi1, hi2, rfl, hnot, rfl⟩ := hrel
                      by_cases hgo : ∃ h : i < s.size, s[i] ≠ 32 ∧ s[i] ≠ 34
                      · obtain ⟨his, hn32, hn34⟩ := hgo
                        have t3 : ((s[i].toNat : Int) != 32) = true := byte_ne_yes hn32
                        have t4 : ((s[i].toNat : Int) != 34) = true := byte_ne_yes hn34
                        have HN := Lib.hid (show ∀ j (hj : j < s.size), p1 ≤ j → j < i + 1 → s[j] ≠ 32 ∧ s[j] ≠ 34 from fun j hj h1 h2 => by
                          by_cases e : j = i
                          · subst e; exact ⟨hn32, hn34⟩
                          · exact hnot.out j hj h1 (by omega))
                        clear hn32 hn34
                        go_wp2_with fail
                        go_roundw
                        case rel => exact ⟨i + 1, by omega, by omega, by go_num, HN, by first | rfl | trivial⟩
                        case measure => simp [intOf] <;> omega
                      · have hend : ∀ h : i < s.size, s[i] = 32 ∨ s[i] = 34 := fun h => by
                          by_cases e : s[i] = 32
                          · exact .inl e
                          · by_cases e2 : s[i] = 34
                            · exact .inr e2
                            · exact absurd ⟨h, e, e2⟩ hgo
                        have HST := Lib.hid (step_bare (L := L) hlt H32.out HNO.out HP1.out HQN.out hi1 hi2 hnot.out hend)
                        have HEND := Lib.hid hend
                        have hmv : pos < i := by
                          by_cases e : pos < p1
                          · omega
                          · have e2 : p1 = pos := by omega
                            by_cases e3 : i = p1
                            · exfalso
                              have e4 : i = pos := by omega
                              subst e4
                              rcases hend hlt with h | h
                              · exact H32.out h
                              · exact HQN.out (by omega) (by subst e2; exact h)
                            · omega
                        clear hend hgo
                        go_upto_region 27 with fail
                        go_cut [107] (fun s107 wx => s107 = .bool false ∧ W = wx)
                        case first =>
                          by_cases his : i < s.size
                          · rcases HEND.out his with h | h
                            · have t3 : ((s[i].toNat : Int) != 32) = false := byte_ne_no h
                              clear h
                              go_wp2_with fail
                              go_meet
                              exact ⟨rfl, rfl⟩
                            · have t3 : ((s[i].toNat : Int) != 32) = true := byte_ne_yes (show s[i] ≠ 32 from by rw [h]; decide)
                              have t4 : ((s[i].toNat : Int) != 34) = false := byte_ne_no h
                              clear h
                              go_wp2_with fail
                              go_meet
                              exact ⟨rfl, rfl⟩
                          · go_wp2_with fail
                            go_meet
                            exact ⟨rfl, rfl⟩
                        case rest =>
                          obtain ⟨rfl, rfl⟩ := hcut
                          have hxs : (s.extract p1 i).size ≤ 500 := by rw [size_list, ext_list, List.length_take, List.length_drop, ← size_list]; omega
                          go_upto_region 30 with fail
                          generalize s.extract p1 i = B at *
                          go_cut [135] (fun s135 wx => (∃ o, s135 = .bool o) ∧ W = wx)
                          case first =>
                            by_cases hB0 : B.size = 0
                            · have u1 := str_empty hB0
                              go_wp2_with fail
                              go_meet
                              exact ⟨⟨_, rfl⟩, rfl⟩
                            · have u1 := str_full (show 0 < B.size by omega)
                              obtain ⟨m, hm⟩ : ∃ m, B.size = m + 1 := ⟨B.size - 1, by omega⟩
                              have hmB : m < B.size := by omega
                              clear hB0
                              by_cases his : i < s.size
                              · have t7 : ((i : Int) == (s.size : Int)) = false := by rw [beq_eq_false_iff_ne]; omega
                                have t7' : (i == s.size) = false := by rw [beq_eq_false_iff_ne]; omega
                                by_cases h8 : s[i] = 32
                                · have t8 := byte_yes h8
                                  change ((s[i].toNat : Int) == 32) = true at t8
                                  clear h8
                                  go_wp2_with fail
                                  all_goals
                                    go_meet
                                    exact ⟨⟨_, rfl⟩, rfl⟩
                                · have t8 := byte_no h8
                                  change ((s[i].toNat : Int) == 32) = false at t8
                                  clear h8
                                  go_wp2_with fail
                                  all_goals
                                    go_meet
                                    exact ⟨⟨_, rfl⟩, rfl⟩
                              · have t7 : ((i : Int) == (s.size : Int)) = true := by rw [beq_iff_eq]; omega
                                have t7' : (i == s.size) = true := by rw [beq_iff_eq]; omega
                                go_wp2_with fail
                                all_goals
                                  go_meet
                                  exact ⟨⟨_, rfl⟩, rfl⟩
                          case rest =>
                            obtain ⟨⟨o, rfl⟩, rfl⟩ := hcut
                            cases o with
                            | true =>
                              go_upto_region 32 with fail
                              have hB5 : B.size ≤ 500 := by omega
                              have HCL := Lib.hid (show ∀ X, _ from fun X => rclause_any B no true X (by omega))
                              cases hws : words B.data.toList with
                              | nil =>
                                rw [hws] at HCL
                                have HN := Lib.hid (show codeF [] s.data.toList = codeF L (s.data.toList.drop (i)) from by rw [hco.out]; have := HST.out true; rwa [hws] at this)
                                clear hws
                                go_wp2_with (go_at_call 16; refine (HCL.out _).mono ?_; rintro e w5 ⟨a5, c5, rfl, hb5⟩; have B5 := Lib.hid hb5; clear hb5)
                                go_roundw
                                case rel =>
                                  have hbb := B5.out.alloc B5.out.size (.cells #[.slice a5 0 c5, .bool no, .bool true] 62)
                                  exact ⟨i, L, us, av, cv, by omega, by go_num, rfl, HN, hul, hus, by omega, Lib.hid (owns_new hown.out hbb), Lib.hid (hbw.out.trans (hbb.mono hbz))⟩
                                case measure => simp [intOf] <;> omega
                              | cons y ys =>
                                rw [hws] at HCL
                                have HN := Lib.hid (show codeF [] s.data.toList = codeF (L ++ [⟨y :: ys, no, true⟩]) (s.data.toList.drop (i)) from by rw [hco.out]; have := HST.out true; rwa [hws] at this)
                                have hlen := (words_len B.data.toList).1
                                rw [hws, ← size_list] at hlen
                                have hd5 : decide (0 < (y :: ys).length) = true := by simp
                                rw [hd5] at HCL
                                clear hws hd5
                                generalize hzz : y :: ys = zs at *
                                clear hzz
                                go_wp2_with (first
                                  | (go_at_call 16; refine (HCL.out _).mono ?_; rintro e w5 ⟨a5, c5, rfl, hb5⟩; have B5 := Lib.hid hb5; have HO5 := Lib.hid (owns_new hown.out (hb5.alloc hb5.size (.cells #[.slice a5 zs.length c5, .bool no, .bool true] 62))); have hz5 := hb5.size; clear hb5)
                                  | (at_builtin; refine wpList_append_lies _ rfl _ _ 22 rfl w.heap.size 62 i0 _ 3 32 Tryz.underlying22 hi0 hz0 hz1 hz2 rfl (by omega) (.slice av L.length cv) L.length (clCells us L) rfl (HO5.out.alloc _) ⟨w5.heap.size + 1, 0, none⟩ 1 1 [.slice a5 zs.length c5, .bool no, .bool true] rfl rfl (World.news_of_block (cs := #[.slice a5 zs.length c5, .bool no, .bool true]) (t := 62) (fr := (0, 0)) (by have := heap_alloc_new (w5.alloc (.cells #[.slice a5 zs.length c5, .bool no, .bool true] 62)) (.cells #[.slice a5 zs.length c5, .bool no, .bool true] 62); rwa [World.size_alloc] at this)) (by simp [Value.oneCell']) (by omega) (by unfold maxLen; omega) (by omega) (by simp; omega) _ rfl ?_; intro gg cap w6 hown6 hgrow hat hlt6; have HG := Lib.hid hgrow; have HO6 := Lib.hid hown6; clear hgrow hown6 hat hlt6))
                                go_roundw
                                case rel =>
                                  exact ⟨i, L ++ [⟨zs, no, true⟩], us ++ [.slice a5 zs.length c5], some ⟨gg, 0, none⟩, cap, by omega, by go_num, by rw [List.length_append]; rfl, HN, Lib.hid (by rw [List.length_append, List.length_append, hul.out]; rfl), Lib.hid (fun u hu => by rcases List.mem_append.1 hu with h | h; exact hus.out u h; exact ⟨_, _, _, List.mem_singleton.1 h⟩), by rw [List.length_append]; simp only [List.length_cons, List.length_nil]; omega, Lib.hid (by rw [List.length_append, clCells_append us L hul.out]; exact HO6.out), Lib.hid (((((hbw.out.trans (B5.out.mono hbz)).alloc (by omega) _).alloc (by simp; omega) _).grown HG.out (by simp; omega) (fun j hj => (hown.out.lt j hj).1)))⟩
                                case measure => simp [intOf] <;> omega
                            | false =>
                              go_upto_region 32 with fail
                              have hB5 : B.size ≤ 500 := by omega
                              have HCL := Lib.hid (show ∀ X, _ from fun X => rclause_any B no false X (by omega))
                              cases hws : words B.data.toList with
                              | nil =>
                                rw [hws] at HCL
                                have HN := Lib.hid (show codeF [] s.data.toList = codeF L (s.data.toList.drop (i)) from by rw [hco.out]; have := HST.out false; rwa [hws] at this)
                                clear hws
                                go_wp2_with (go_at_call 16; refine (HCL.out _).mono ?_; rintro e w5 ⟨a5, c5, rfl, hb5⟩; have B5 := Lib.hid hb5; clear hb5)
                                go_roundw
                                case rel =>
                                  have hbb := B5.out.alloc B5.out.size (.cells #[.slice a5 0 c5, .bool no, .bool false] 62)
                                  exact ⟨i, L, us, av, cv, by omega, by go_num, rfl, HN, hul, hus, by omega, Lib.hid (owns_new hown.out hbb), Lib.hid (hbw.out.trans (hbb.mono hbz))⟩
                                case measure => simp [intOf] <;> omega
                              | cons y ys =>
                                rw [hws] at HCL
                                have HN := Lib.hid (show codeF [] s.data.toList = codeF (L ++ [⟨y :: ys, no, false⟩]) (s.data.toList.drop (i)) from by rw [hco.out]; have := HST.out false; rwa [hws] at this)
                                have hlen := (words_len B.data.toList).1
                                rw [hws, ← size_list] at hlen
                                have hd5 : decide (0 < (y :: ys).length) = true := by simp
                                rw [hd5] at HCL
                                clear hws hd5
                                generalize hzz : y :: ys = zs at *
                                clear hzz
                                go_wp2_with (first
                                  | (go_at_call 16; refine (HCL.out _).mono ?_; rintro e w5 ⟨a5, c5, rfl, hb5⟩; have B5 := Lib.hid hb5; have HO5 := Lib.hid (owns_new hown.out (hb5.alloc hb5.size (.cells #[.slice a5 zs.length c5, .bool no, .bool false] 62))); have hz5 := hb5.size; clear hb5)
                                  | (at_builtin; refine wpList_append_lies _ rfl _ _ 22 rfl w.heap.size 62 i0 _ 3 32 Tryz.underlying22 hi0 hz0 hz1 hz2 rfl (by omega) (.slice av L.length cv) L.length (clCells us L) rfl (HO5.out.alloc _) ⟨w5.heap.size + 1, 0, none⟩ 1 1 [.slice a5 zs.length c5, .bool no, .bool false] rfl rfl (World.news_of_block (cs := #[.slice a5 zs.length c5, .bool no, .bool false]) (t := 62) (fr := (0, 0)) (by have := heap_alloc_new (w5.alloc (.cells #[.slice a5 zs.length c5, .bool no, .bool false] 62)) (.cells #[.slice a5 zs.length c5, .bool no, .bool false] 62); rwa [World.size_alloc] at this)) (by simp [Value.oneCell']) (by omega) (by unfold maxLen; omega) (by omega) (by simp; omega) _ rfl ?_; intro gg cap w6 hown6 hgrow hat hlt6; have HG := Lib.hid hgrow; have HO6 := Lib.hid hown6; clear hgrow hown6 hat hlt6))
                                go_roundw
                                case rel =>
                                  exact ⟨i, L ++ [⟨zs, no, false⟩], us ++ [.slice a5 zs.length c5], some ⟨gg, 0, none⟩, cap, by omega, by go_num, by rw [List.length_append]; rfl, HN, Lib.hid (by rw [List.length_append, List.length_append, hul.out]; rfl), Lib.hid (fun u hu => by rcases List.mem_append.1 hu with h | h; exact hus.out u h; exact ⟨_, _, _, List.mem_singleton.1 h⟩), by rw [List.length_append]; simp only [List.length_cons, List.length_nil]; omega, Lib.hid (by rw [List.length_append, clCells_append us L hul.out]; exact HO6.out), Lib.hid (((((hbw.out.trans (B5.out.mono hbz)).alloc (by omega) _).alloc (by simp; omega) _).grown HG.out (by simp; omega) (fun j hj => (hown.out.lt j hj).1)))⟩
                                case measure => simp [intOf] <;> omega
        · obtain rfl : pos = s.size := by omega
          have HE := Lib.hid (show codeF [] s.data.toList = (if L.all (·.no) then 230 else 0) from by rw [hco.out, drop_full (Nat.le_refl _), code_end])
          go_wp2_with fail
          go_loopw [150] (fun q wr => ∃ k : Nat, k ≤ L.length ∧ q = .int .i64 k ∧ Hid ((L.take k).all (·.no) = true) ∧ Hid (Below W.heap.size W wr)) (fun q _ => L.length - (intOf q).toNat)
          case atStart => exact ⟨0, Nat.zero_le _, rfl, Lib.hid (by simp), Lib.hid (Below.refl _ _)⟩
          case round =>
            obtain ⟨k, hk, rfl, hall, hb2⟩ := hrel
            obtain ⟨W2, hW2⟩ : ∃ W, W = wr := ⟨wr, rfl⟩
            subst hW2
            by_cases hkl : k < L.length
            · obtain ⟨g, hg⟩ : ∃ g, av = some ⟨g, 0, none⟩ := by
                obtain ⟨g, cap, he, _⟩ := hown.out.form (by omega)
                simp only [Value.slice.injEq] at he
                exact ⟨g, he.1⟩
              subst hg
              have hku : k < us.length := by have := hul.out; omega
              obtain ⟨h0, h1, h2⟩ := clCells_get us L k hku hkl
              have key : ∀ j u, (clCells us L)[j]? = some u → W2.cell? ⟨g, j, none⟩ = some u := fun j u hj => by
                have := (owns_new hown.out hb2.out).cells (g := g) rfl j u hj
                rwa [add_none, Nat.zero_add] at this
              have m0 := key _ _ h0
              have m1 := key _ _ h1
              have m2 := key _ _ h2
              have htk : L.take (k + 1) = L.take k ++ [L[k]] := List.take_succ_eq_append_getElem hkl
              have hme : L[k] ∈ L := List.getElem_mem hkl
              generalize L[k] = x at *
              obtain ⟨ua, un, uc, hue⟩ := hus.out us[k] (List.getElem_mem hku)
              rw [hue] at m0
              clear hue
              have HTK := Lib.hid htk
              have HME := Lib.hid hme
              have hBA := (Below.refl W2.heap.size W2).alloc (Nat.le_refl _) (.cells #[.slice ua un uc, .bool x.no, .bool x.opn] 62)
              have HBA := Lib.hid hBA
              clear htk hme key h0 h1 h2 hBA
              cases hno : x.no with
              | false =>
                have HF := Lib.hid (show codeF [] s.data.toList = 0 from by
                  rw [HE.out, if_neg]
                  intro h
                  have := List.all_eq_true.1 h x HME.out
                  simp [hno] at this)
                rw [hno] at m1 HBA
                clear hno
                go_wp2_with fail
                go_ret2
                exact HPO.out _ _ _ _ HF.out rfl ((hbw.out.trans (hb2.out.mono hbz)).trans (HBA.out.mono (Nat.le_trans hbz hb2.out.size)))
              | true =>
                have HN := Lib.hid (show (L.take (k + 1)).all (·.no) = true from by rw [HTK.out, List.all_append, hall.out]; simp [hno])
                rw [hno] at m1 HBA
                clear hno
                go_wp2_with fail
                go_roundw
                case rel => exact ⟨k + 1, by omega, by go_num, HN, Lib.hid (hb2.out.trans (HBA.out.mono hb2.out.size))⟩
                case measure => simp [intOf] <;> omega
            · have HF := Lib.hid (show codeF [] s.data.toList = 230 from by
                rw [HE.out, if_pos]
                have := hall.out
                rwa [List.take_of_length_le (by omega)] at this)
              go_wp2_with fail
              go_ret2
              exact HPO.out _ _ _ _ HF.out rfl (hbw.out.trans (hb2.out.mono hbz))
end Go.Proofs.YthpbdeiphagkiaaGreatDoor
