/- FindBeside: the laws' own clauses and Same. -/
import Derived.Test.YthpbdeiphagkiaaDoorBesF
namespace Go.Proofs.YthpbdeiphagkiaaDoor
open Go.RowKit Find

theorem strRow_set {W : World} {b : Nat} {c0 : Array Value} (hk : W.heap[b]? = some (.cells c0 31 (0, 0))) {u : Value} {l : List Wd} (h : StrRow W u l) (i : Nat) (x : Value) : StrRow (W.setCell ⟨b, i, none⟩ x) u l :=
  owns_keep h fun g hg => by
    have hne : b ≠ g := fun e => by
      subst e
      obtain ⟨c, hc⟩ := owns_kind h _ hg
      rw [hk] at hc
      simp only [Option.some.injEq, Obj.cells.injEq] at hc
      exact absurd hc.2.1 (by decide)
    rw [setCell_heap_ne hne]
def ClausesPost (cs : List Cl) (w : World) (e : Ending) (w' : World) : Prop := ∃ a c, e = .returned (.slice a cs.length c) ∧ ClsSl w' (.slice a cs.length c) cs ∧ Below w.heap.size w w'
set_option maxHeartbeats 4000000 in
set_option maxRecDepth 100000 in
theorem clauses_any (cs : List Cl) (a : Option Addr) (c : Nat) (w : World) (h : ClsN w (.slice a cs.length c) cs) (hn : cs.length ≤ 1048576) (hC : ∀ x ∈ cs, x.words.length ≤ 1099511627776) :
    Calls Tryd.prog 16 #[.slice a cs.length c] w (ClausesPost cs w) := by
  have hz3 : Tryd.prog.cellsOf 31 = 3 := by kernel_rfl
  obtain ⟨i0, hi0, hz0, hz1, hz2⟩ := info_parts info_cl
  have H := Lib.hid h
  have HC := Lib.hid hC
  clear h hC
  go_enter Tryd.func16, Tryd.ntmps16
  go_wp2_with fail
  go_loopw [3, 8] (fun v q wr => ∃ (k : Nat) (av : Option Addr) (cv : Nat) (L : List Cl), k ≤ cs.length ∧ q = .int .i64 k ∧ v = .slice av L.length cv ∧ L.length = k ∧ Hid (L = cs.take k) ∧ Hid (ClRow w.heap.size wr (.slice av L.length cv) L) ∧ Hid (Below w.heap.size w wr)) (fun _ q _ => cs.length - (intOf q).toNat)
  case atStart => exact ⟨0, none, 0, [], Nat.zero_le _, rfl, rfl, rfl, Lib.hid rfl, Lib.hid (ClRow.nil _ _), Lib.hid (Below.refl _ _)⟩
  case round =>
    obtain ⟨k, av, cv, L, hk, rfl, rfl, hLk, hL, hrow, hbw⟩ := hrel
    have hbz := hbw.out.size
    by_cases hlt : k < cs.length
    · obtain ⟨g, o, hg, aw, cw, ⟨c0, c1, c2, hsl⟩, hnil⟩ : ∃ g o, a = some ⟨g, o, none⟩ ∧ ClAtN wr g (o + k * 3) cs[k] := by
        obtain ⟨a', cc, he, hc⟩ := H.out.new hbw.out
        obtain ⟨g, o, hg, hcell⟩ := hc k hlt
        simp only [Value.slice.injEq] at he
        exact ⟨g, o, by rw [he.1]; exact hg, hcell⟩
      subst hg
      have htk : cs.take (k + 1) = cs.take k ++ [cs[k]] := List.take_succ_eq_append_getElem hlt
      have hcw := HC.out cs[k] (List.getElem_mem hlt)
      generalize cs[k] = x at *
      have HTK := Lib.hid htk
      have HSL := Lib.hid hsl
      have HNI := Lib.hid hnil
      obtain ⟨ws, no, opn⟩ := x
      simp only at c0 c1 c2 hcw
      obtain ⟨us, hul, hown, hus⟩ := hrow.out
      have HUL := Lib.hid hul
      have HOW := Lib.hid hown
      have HUS := Lib.hid hus
      have HLK := Lib.hid hLk
      clear htk hsl hnil hul hown hus
      have HTW := Lib.hid (show ∀ W, Below wr.heap.size wr W → _ from fun W hb => twin_slice ws (.slice aw ws.length cw) W (HSL.out.new hb) (fun c e => by injection e with e1 e2 e3; subst e3; exact HNI.out e1) (by omega))
      have HBA := Lib.hid ((Below.refl wr.heap.size wr).alloc (Nat.le_refl _) (.cells #[.slice aw ws.length cw, .bool no, .bool opn] 31))
      subst hLk
      go_wp2_with fail
      (go_at_call 9; refine (HTW.out _ HBA.out).mono ?_; rintro e w2 ⟨a1, c1', rfl, hr1, hb2⟩; have hk2 := (hb2.block wr.heap.size (by simp)).trans (heap_alloc_new wr _); have B2 := Lib.hid (HBA.out.trans (hb2.mono HBA.out.size)); have hw2 := lt_of_heap hk2; have k0 : w2.cell? ⟨wr.heap.size, 0, none⟩ = some (.slice aw ws.length cw) := (by rw [Lib.cell_of_heap hk2]; rfl); have f0 : w2.frozen? ⟨wr.heap.size, 0, none⟩ = false := Lib.frozen_of_heap hk2 0; have k1 : w2.cell? ⟨wr.heap.size, 1, none⟩ = some (.bool no) := (by rw [Lib.cell_of_heap hk2]; rfl); have k2 : w2.cell? ⟨wr.heap.size, 2, none⟩ = some (.bool opn) := (by rw [Lib.cell_of_heap hk2]; rfl); have R1 := Lib.hid (strRow_set hk2 hr1 0 (.slice a1 ws.length c1')); have HO2 := Lib.hid (show (w2.setCell ⟨wr.heap.size, 0, none⟩ (.slice a1 ws.length c1')).ownsRow w.heap.size 31 3 (.slice av L.length cv) L.length (clCells us L) from owns_keep (owns_new HOW.out B2.out) fun g hg => by rw [setCell_heap_ne (show wr.heap.size ≠ g from fun e => by have := (HOW.out.lt g hg).2; omega)]); have HU2 := Lib.hid (show ∀ (i : Nat) (u : Value) (c : Cl), us[i]? = some u → L[i]? = some c → StrRow (w2.setCell ⟨wr.heap.size, 0, none⟩ (.slice a1 ws.length c1')) u c.words from fun i u c hu hc => strRow_set hk2 (owns_new (HUS.out i u c hu hc) B2.out) 0 _); have HBS := Lib.hid (show Below wr.heap.size wr (w2.setCell ⟨wr.heap.size, 0, none⟩ (.slice a1 ws.length c1')) from B2.out.setCell (by simp) _); clear hr1 hb2 hk2)
      go_wp2_with (first
        | (at_builtin; refine wpList_append_lies _ rfl _ _ 38 rfl w.heap.size 31 i0 _ 3 32 Tryd.underlying38 hi0 hz0 hz1 hz2 rfl (by omega) _ _ _ rfl (HO2.out.alloc _) ⟨w2.heap.size, 0, none⟩ 1 1 [.slice a1 ws.length c1', .bool no, .bool opn] rfl rfl (World.news_of_block (cs := #[.slice a1 ws.length c1', .bool no, .bool opn]) (t := 31) (fr := (0, 0)) (by have := heap_alloc_new (w2.setCell ⟨wr.heap.size, 0, none⟩ (.slice a1 ws.length c1')) (.cells #[.slice a1 ws.length c1', .bool no, .bool opn] 31); rwa [World.size_setCell] at this)) (by simp [Value.oneCell']) (by omega) (by unfold maxLen; omega) (by omega) (by simp; omega) _ rfl ?_; intro gg cap w4 hown4 hgrow hat hlt4; have HG := Lib.hid hgrow; have HO4 := Lib.hid hown4; clear hgrow hown4 hat hlt4))
      go_roundw
      case rel =>
        have hcr := ClRow.snoc HUL.out HU2.out HO2.out (c := ⟨ws, no, opn⟩) R1.out HG.out HO4.out
        refine ⟨L.length + 1, some ⟨gg, 0, none⟩, cap, L ++ [⟨ws, no, opn⟩], by omega, by go_num, by rw [List.length_append]; rfl, by simp, Lib.hid (by rw [HTK.out, ← hL.out]), Lib.hid (by rw [List.length_append]; exact hcr), Lib.hid ?_⟩
        exact ((hbw.out.trans (HBS.out.mono hbz)).alloc (by simp; omega) _).grown HG.out (by simp; omega) (fun j hj => (HOW.out.lt j hj).1)
      case measure => simp [intOf] <;> omega
    · have HE := Lib.hid (show L = cs from by have := hL.out; rwa [List.take_of_length_le (by omega)] at this)
      go_wp2_with fail
      go_ret
      refine ⟨av, cv, congrArg (fun n => Ending.returned (.slice av n cv)) (show L.length = cs.length by rw [HE.out]), ?_, hbw.out⟩
      have := hrow.out.sl
      rw [HE.out] at this
      exact this

/-- clauses of a clause that lies in a block of the law's own. -/
theorem clauses_box {W : World} {ws : List Wd} {aw : Option Addr} {cw : Nat} {no opn : Bool} (hs : StrSl W (.slice aw ws.length cw) ws) (hnil : aw = none → cw = 0) (hws : ws.length ≤ 1099511627776) :
    Calls Tryd.prog 16 #[.slice (some ⟨W.heap.size, 0, none⟩) 1 1] (W.alloc (.cells #[.slice aw ws.length cw, .bool no, .bool opn] 31)) fun e w' => ∃ a c, e = .returned (.slice a 1 c) ∧ ClsSl w' (.slice a 1 c) [⟨ws, no, opn⟩] ∧ Below W.heap.size W w' := by
  have hb := (Below.refl W.heap.size W).alloc (Nat.le_refl _) (.cells #[.slice aw ws.length cw, .bool no, .bool opn] 31)
  have hg := heap_alloc_new W (.cells #[.slice aw ws.length cw, .bool no, .bool opn] 31)
  refine (clauses_any [⟨ws, no, opn⟩] (some ⟨W.heap.size, 0, none⟩) 1 _ ⟨_, 1, rfl, fun k hk => ?_⟩ (by simp) (by simpa using hws)).mono ?_
  · obtain rfl : k = 0 := by simpa using hk
    exact ⟨W.heap.size, 0, rfl, aw, cw, ⟨by rw [Lib.cell_of_heap hg]; rfl, by rw [Lib.cell_of_heap hg]; rfl, by rw [Lib.cell_of_heap hg]; rfl, hs.new hb⟩, hnil⟩
  · rintro e w' ⟨a, c, rfl, h1, h2⟩
    exact ⟨a, c, rfl, h1, hb.trans (h2.mono hb.size)⟩

set_option maxHeartbeats 4000000 in
set_option maxRecDepth 100000 in
theorem sameF_any (R S : List Fnd) (a b : Option Addr) (c d : Nat) (w : World) (h : FndSl w (.slice a R.length c) R) (h' : FndSl w (.slice b S.length d) S) (hn : R.length ≤ 1048576) (hm : S.length ≤ 1048576) :
    Calls Tryd.prog 18 #[.slice a R.length c, .slice b S.length d] w fun e w' => e = .returned (.bool (decide (R = S))) ∧ Below w.heap.size w w' := by
  have hz4 : Tryd.prog.cellsOf 48 = 3 := by kernel_rfl
  have H := Lib.hid h
  have H' := Lib.hid h'
  clear h h'
  by_cases hlen : R.length = S.length
  · have hb : ((R.length : Int) != (S.length : Int)) = false := by rw [hlen]; simp
    have hb2 : (R.length != S.length) = false := by rw [hlen]; simp
    have HL := Lib.hid hlen
    have hle : R.length ≤ S.length := by omega
    clear hlen
    go_enter Tryd.func18, Tryd.ntmps18
    go_wp2
    go_loopw [13] (fun q wr => ∃ k : Nat, k ≤ R.length ∧ q = .int .i64 k ∧ Hid (R.take k = S.take k) ∧ Below w.heap.size w wr ∧ ∃ nq, wr = w.drewN nq) (fun q _ => R.length - (intOf q).toNat)
    case atStart => exact ⟨0, Nat.zero_le _, rfl, Lib.hid (by simp), Below.refl _ _, 0, rfl⟩
    case round =>
      obtain ⟨k, hk, rfl, heq, hbw, nq0, hwr⟩ := hrel
      have HWR := Lib.hid hwr
      have HBW := Lib.hid hbw
      clear hwr hbw
      by_cases hlt : k < R.length
      · have hlt2 : k < S.length := by omega
        have hget : ∀ (a : Option Addr) (c : Nat) (l : List Fnd) (j : Nat) (hj : j < l.length), FndSl wr (.slice a l.length c) l → ∃ g, a = some ⟨g, 0, none⟩ ∧ wr.cell? ⟨g, j * 3, none⟩ = some (.int .i64 l[j].topic) ∧ wr.cell? ⟨g, j * 3 + 1, none⟩ = some (.int .i64 l[j].score) ∧ wr.cell? ⟨g, j * 3 + 2, none⟩ = some (.int .i64 l[j].place) := fun a c l j hj hf => by
          obtain ⟨a', cc, he, hc⟩ := hf
          obtain ⟨g, hg, h0, h1, h2⟩ := hc j hj
          simp only [Value.slice.injEq] at he
          exact ⟨g, by rw [he.1]; exact hg, h0, h1, h2⟩
        obtain ⟨g, rfl, x0, x1, x2⟩ := hget _ _ _ k hlt (H.out.new HBW.out)
        obtain ⟨g2, rfl, y0, y1, y2⟩ := hget _ _ _ k hlt2 (H'.out.new HBW.out)
        clear hget
        have ht1 : R.take (k + 1) = R.take k ++ [R[k]] := List.take_succ_eq_append_getElem hlt
        have ht2 : S.take (k + 1) = S.take k ++ [S[k]] := List.take_succ_eq_append_getElem hlt2
        have hne : R[k] ≠ S[k] → R ≠ S := fun h e => by subst e; exact h rfl
        generalize R[k] = y at *
        generalize S[k] = z at *
        obtain ⟨t1, s1, p1⟩ := y
        obtain ⟨t2, s2, p2⟩ := z
        simp only at x0 x1 x2 y0 y1 y2
        have HT1 := Lib.hid ht1
        have HT2 := Lib.hid ht2
        have HNE := Lib.hid hne
        clear ht1 ht2 hne
        by_cases e1 : t1 = t2
        · subst e1
          by_cases e2 : s1 = s2
          · subst e2
            by_cases e3 : p1 = p2
            · subst e3
              go_wp2_with fail
              go_quiet (fail)
              go_wp2_with fail
              go_roundw
              case rel => exact ⟨k + 1, by omega, by go_num, Lib.hid (by rw [HT1.out, HT2.out, heq.out]), below_drewN HBW.out _, _, by rw [HWR.out, World.drewN_drewN]⟩
              case measure => simp [intOf] <;> omega
            · have HF := Lib.hid (HNE.out (by simp [e3]))
              have hb3 : (p1 == p2) = false := by simpa using e3
              clear e3
              go_wp2_with fail
              go_quiet (fail)
              go_wp2_with fail
              go_ret
              exact ⟨ret_bool (by simp [HF.out]), below_drewN HBW.out _⟩
          · have HF := Lib.hid (HNE.out (by simp [e2]))
            have hb3 : (s1 == s2) = false := by simpa using e2
            clear e2
            go_wp2_with fail
            go_quiet (fail)
            go_wp2_with fail
            go_ret
            exact ⟨ret_bool (by simp [HF.out]), below_drewN HBW.out _⟩
        · have HF := Lib.hid (HNE.out (by simp [e1]))
          have hb3 : (t1 == t2) = false := by simpa using e1
          clear e1
          go_wp2_with fail
          go_quiet (fail)
          go_wp2_with fail
          go_ret
          exact ⟨ret_bool (by simp [HF.out]), below_drewN HBW.out _⟩
      · have HE := Lib.hid (show R = S from by
          have := heq.out
          rwa [List.take_of_length_le (by omega), List.take_of_length_le (by have := HL.out; omega)] at this)
        clear heq
        go_wp2
        go_ret
        exact ⟨ret_bool (by simp [HE.out]), HBW.out⟩
  · have hb : ((R.length : Int) != (S.length : Int)) = true := by rw [bne_iff_ne]; omega
    have hb2 : (R.length != S.length) = true := by rw [bne_iff_ne]; exact hlen
    have HL := Lib.hid (show R ≠ S from fun e => hlen (by rw [e]))
    clear hlen
    go_enter Tryd.func18, Tryd.ntmps18
    go_wp2
    go_ret
    exact ⟨ret_bool (by simp [HL.out]), Below.refl _ _⟩
end Go.Proofs.YthpbdeiphagkiaaDoor
