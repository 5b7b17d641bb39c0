/- shared of package table. -/
import Derived.Test.YtepacocajnobgaaColSpec
namespace Go.Proofs.Ytepacocajnobgaa
open Go.RowKit
attribute [local go_sem ↓] Go.wp_at_zero Go.wp_at_succ

theorem info3 : (Try.prog.info? 3).map (fun i => (i.zero, i.size, i.bytes)) = some (some (.int .i64 0), 1, 8) := by kernel_rfl
def OwnI (w : World) (B : Nat) (v : Value) (zs : List Int) : Prop := w.ownsRow B 3 1 v zs.length (zs.map (Value.int .i64))
def IntAt (w : World) (b off : Nat) (zs : List Int) : Prop := ∀ k, k < zs.length → w.cell? ⟨b, off + k, none⟩ = some (.int .i64 (zs.getD k 0))
theorem map_getD (zs : List Int) (k : Nat) (h : k < zs.length) : (zs.map (Value.int .i64))[k]? = some (.int .i64 (zs.getD k 0)) := by
  simp [List.getD_eq_getElem?_getD, h]
theorem IntAt.adds {w : World} {b off : Nat} {zs : List Int} (h : IntAt w b off zs) : ∀ j u, (zs.map (Value.int .i64))[j]? = some u → w.cell? ((⟨b, off, none⟩ : Addr).add j) = some u := fun j u hu => by
  have hj : j < zs.length := by have := (List.getElem?_eq_some_iff.1 hu).1; simpa using this
  rw [add_none, h j hj, ← map_getD zs j hj]; exact hu
theorem ints_one (zs : List Int) : ∀ u ∈ zs.map (Value.int .i64), u.oneCell' = true := by
  intro u hu; obtain ⟨z, _, rfl⟩ := List.mem_map.1 hu; rfl
theorem IntAt.same {w w' : World} {b off : Nat} {zs : List Int} (h : IntAt w b off zs) (hb : w'.heap[b]? = w.heap[b]?) : IntAt w' b off zs := fun k hk => by
  rw [World.cell?_of_block (w := w) (a := ⟨b, off + k, none⟩) hb]; exact h k hk
theorem IntAt.lt {w : World} {b off : Nat} {zs : List Int} (h : IntAt w b off zs) (h0 : 0 < zs.length) : b < w.heap.size := World.block_lt_of_cell? w _ (h 0 h0)
section
variable {w : World} {B g cap n : Nat} {zs : List Int}
theorem OwnI.cell (h : OwnI w B (.slice (some ⟨g, 0, none⟩) n cap) zs) (hn : n = zs.length) (k : Nat) (hk : k < n) : w.cell? ⟨g, k, none⟩ = some (.int .i64 (zs.getD k 0)) := by
  subst hn
  rw [World.ownsRow.cellAt h k (by omega), map_getD zs k hk]
theorem OwnI.fz (h : OwnI w B (.slice (some ⟨g, 0, none⟩) n cap) zs) (hn : n = zs.length) (k : Nat) : w.frozen? ⟨g, k, none⟩ = false := by
  subst hn; exact World.ownsRow.frozenAt h k
theorem OwnI.set (h : OwnI w B (.slice (some ⟨g, 0, none⟩) n cap) zs) (hn : n = zs.length) (k : Nat) (x : Int) : OwnI (w.setCell ⟨g, k, none⟩ (.int .i64 x)) B (.slice (some ⟨g, 0, none⟩) n cap) (zs.set k x) := by
  subst hn
  have := (World.ownsRow.stored h k (.int .i64 x)).1
  unfold OwnI
  rw [List.length_set, List.map_set]; exact this
theorem OwnI.base (h : OwnI w B (.slice (some ⟨g, 0, none⟩) n cap) zs) : B ≤ g := (World.ownsRow.lt h g rfl).1
theorem OwnI.drewN (h : OwnI w B (.slice (some ⟨g, 0, none⟩) n cap) zs) (m : Nat) : OwnI (w.drewN m) B (.slice (some ⟨g, 0, none⟩) n cap) zs := bget_block h fun _ _ => rfl
end
def SharedRes (zs : List Int) (w : World) (e : Ending) (w' : World) : Prop := ∃ v, e = .returned v ∧ OwnI w' w.heap.size v zs ∧ Below w.heap.size w w'

set_option maxRecDepth 100000 in
set_option maxHeartbeats 2000000 in
theorem shared_even (b off cap : Nat) (ws : List Int) (room F f : Int) (w : World) (hat : IntAt w b off ws) (h1 : 1 ≤ ws.length) (h8 : ws.length ≤ 8) (hws : ∀ k, 0 ≤ ws.getD k 0 ∧ ws.getD k 0 ≤ 200)
    (hr : 1 ≤ room) (hr' : room ≤ 200) (hF : F = sb ws ws.length) (hf : f = zb ws ws.length) (hc : needOf ws ≤ room) :
    Calls Try.prog 40 #[.slice (some ⟨b, off, none⟩) ws.length cap, .int .i64 room, .int .i64 F, .int .i64 f] w fun e w' => SharedRes (shareOf ws room) w e w' := by
  obtain ⟨i0, hi0, hz0, hz1, hz2⟩ := info_parts info3
  have hFb := sb_bd hws ws.length
  have hfb := zb_le ws ws.length
  have hcc : F + f ≤ room := by rw [hF, hf]; exact hc
  have hF0 : 0 ≤ F ∧ F ≤ 1600 := by rw [hF]; omega
  have hf0 : 0 ≤ f ∧ f ≤ 8 := by rw [hf]; omega
  obtain ⟨hF1, hF2⟩ := hF0
  obtain ⟨hf1, hf2⟩ := hf0
  have Hres := Lib.hid (show shareOf ws room = rangeL (evenF ws (room - F) f) ws.length by unfold shareOf; rw [if_pos hc, hF, hf])
  have Hws := Lib.hid hws
  have Hf := Lib.hid hf
  have Hat := Lib.hid hat
  clear hFb hfb hF hf hc hws hat
  go_enter Try.func40, Try.ntmps40
  go_wp2_with (at_builtin; go_loud (refine wpList_append_lies _ rfl (.const (.slice none 0 0)) (.tmp 17) 33 rfl w.heap.size 3 i0 _ 1 8 Try.underlying33 hi0 hz0 hz1 hz2 rfl (by omega) (.slice none 0 0) 0 [] rfl (World.ownsRow_nil _ _ _ _) ⟨b, off, none⟩ ws.length cap (ws.map (Value.int .i64)) rfl (by simp) Hat.out.adds (ints_one _) (by omega) (by unfold maxLen; omega) (by omega) (by simp) (w.heap.size) (by simp) ?_); intro gg cap2 w1 hown hgrow hat3 hlt3; simp only [Nat.zero_add, List.nil_append] at hown; have Ho := Lib.hid (show OwnI w1 w.heap.size (.slice (some ⟨gg, 0, none⟩) ws.length cap2) ws from hown); have Hb := Lib.hid ((Below.refl w.heap.size w).grown hgrow (Nat.le_refl _) (fun k hk => by simp [Value.ownBlock] at hk)); clear hown hgrow hat3)
  go_loopw [11, 29] (fun kk i wr => ∃ j : Nat, j ≤ ws.length ∧ i = .int .i64 j ∧ kk = .int .i64 (zb ws j) ∧ OwnI wr w.heap.size (.slice (some ⟨gg, 0, none⟩) ws.length cap2) (partL (evenF ws (room - F) f) ws j) ∧ Below w.heap.size w wr) (fun _ i _ => ws.length - (intOf i).toNat)
  case atStart => exact ⟨0, Nat.zero_le _, rfl, rfl, by rw [partL_zero]; exact Ho.out, Hb.out⟩
  case round =>
    obtain ⟨j, hj, rfl, rfl, hown, hbel⟩ := hrel
    have Hown := Lib.hid hown
    have Hbel := Lib.hid hbel
    have hwr : w.heap.size ≤ wr.heap.size := hbel.size
    clear hown hbel
    by_cases hlt : j < ws.length
    · have hpl := (partL_length (evenF ws (room - F) f) ws j hj).symm
      have c0 := Hown.out.cell hpl j hlt
      have cf := Hown.out.fz hpl
      have hgg : gg < wr.heap.size := World.block_lt_of_cell? wr _ c0
      rw [partL_getD _ _ _ _ hj, if_neg (by omega)] at c0
      have Hpl := Lib.hid hpl
      have hzj := zb_le ws j
      have hx := Hws.out j
      have Hz0 := Lib.hid (fun h => zb_lt ws j ws.length hlt h)
      have Hsk := Lib.hid (lap_skip ws j)
      have Hsucc := Lib.hid (partL_succ (evenF ws (room - F) f) ws j hlt)
      have Hsame := Lib.hid (partL_same (evenF ws (room - F) f) ws j hlt)
      have Hev := Lib.hid (show evenF ws (room - F) f j = if ws.getD j 0 = 0 then (room - F) / f + (if (zb ws j : Int) < (room - F) % f then 1 else 0) else ws.getD j 0 from rfl)
      have Hz1 := Lib.hid (show ws.getD j 0 = 0 → zb ws (j + 1) = zb ws j + 1 from fun h => by simp only [zb, h, if_true])
      clear hpl
      generalize ws.getD j 0 = x at *
      obtain ⟨x1, x2⟩ := hx
      by_cases hx0 : x = 0
      · have hb0 : (x != 0) = false := by simp [hx0]
        have hfz : 1 ≤ f := by have h1 := Hf.out; have h2 := Hz0.out hx0; omega
        have Hx0 := Lib.hid hx0
        clear hx0
        by_cases hk : (zb ws j : Int) < (room - F) % f
        · have hmm : (room - F) % f < f := Int.emod_lt_of_pos _ (by omega)
          have hdv : 0 ≤ (room - F) / f ∧ (room - F) / f ≤ 200 := by
            refine ⟨Int.ediv_nonneg (by omega) (by omega), ?_⟩
            exact Int.le_trans (Int.ediv_le_self _ (by omega)) (by omega)
          obtain ⟨dv1, dv2⟩ := hdv
          go_wp2
          go_roundw
          case rel =>
            refine ⟨j + 1, by omega, by go_num, by rw [Hz1.out Hx0.out]; go_num, ?_, ?_⟩
            · have q := (Hown.out.set Hpl.out j ((room - F) / f)).set (by rw [List.length_set]; exact Hpl.out) j ((room - F) / f + 1)
              rw [List.set_set] at q
              have e := Hsucc.out
              rw [Hev.out, if_pos Hx0.out, if_pos hk] at e
              rw [e] at q
              exact q
            · exact (Hbel.out.setCell (p := ⟨gg, j, none⟩) Hown.out.base _).setCell (p := ⟨gg, j, none⟩) Hown.out.base _
          case measure => simp [intOf]; omega
        · go_wp2
          go_roundw
          case rel =>
            refine ⟨j + 1, by omega, by go_num, by rw [Hz1.out Hx0.out]; go_num, ?_, ?_⟩
            · have q := (Hown.out.set Hpl.out j ((room - F) / f))
              have e := Hsucc.out
              rw [Hev.out, if_pos Hx0.out, if_neg (by omega), Int.add_zero] at e
              rw [e] at q
              exact q
            · exact (Hbel.out.setCell (p := ⟨gg, j, none⟩) Hown.out.base _)
          case measure => simp [intOf]; omega
      · have hb0 : (x != 0) = true := by simp [hx0]
        have Hx0 := Lib.hid hx0
        clear hx0
        go_wp2
        go_roundw
        case rel =>
          refine ⟨j + 1, by omega, by go_num, by rw [Hsk.out Hx0.out], ?_, Hbel.out⟩
          rw [Hsame.out (by rw [Hev.out, if_neg Hx0.out])]
          exact Hown.out
        case measure => simp [intOf]; omega
    · go_wp2
      go_ret
      refine ⟨_, rfl, ?_, Hbel.out⟩
      have := Hown.out
      rw [partL_all _ _ _ (by omega) hj] at this
      rw [Hres.out]; exact this

set_option maxRecDepth 100000 in
set_option maxHeartbeats 2000000 in
theorem shared_less (b off cap : Nat) (ws : List Int) (room F f : Int) (w : World) (hat : IntAt w b off ws) (h1 : 1 ≤ ws.length) (h8 : ws.length ≤ 8) (hws : ∀ k, 0 ≤ ws.getD k 0 ∧ ws.getD k 0 ≤ 200)
    (hr : 1 ≤ room) (hr' : room ≤ 200) (hF : F = sb ws ws.length) (hf : f = zb ws ws.length) (hc : ¬ needOf ws ≤ room) :
    Calls Try.prog 40 #[.slice (some ⟨b, off, none⟩) ws.length cap, .int .i64 room, .int .i64 F, .int .i64 f] w fun e w' => SharedRes (shareOf ws room) w e w' := by
  obtain ⟨i0, hi0, hz0, hz1, hz2⟩ := info_parts info3
  have hFb := sb_bd hws ws.length
  have hfb := zb_le ws ws.length
  have hcc : room < F + f := by rw [hF, hf]; exact Int.not_le.1 hc
  have hF0 : 0 ≤ F ∧ F ≤ 1600 := by rw [hF]; omega
  have hf0 : 0 ≤ f ∧ f ≤ 8 := by rw [hf]; omega
  obtain ⟨hF1, hF2⟩ := hF0
  obtain ⟨hf1, hf2⟩ := hf0
  have Hneed := Lib.hid (show needOf ws = F + f by rw [hF, hf]; rfl)
  have Hres := Lib.hid (show shareOf ws room = itL (F + f - room).toNat (rangeL (oneF ws) ws.length) by unfold shareOf; rw [if_neg hc, Hneed.out])
  have Hws := Lib.hid hws
  have Hat := Lib.hid hat
  have Hsum := Lib.hid (show sb ws ws.length + zb ws ws.length = F + f by rw [hF, hf])
  clear hFb hfb hF hf hc hws hat
  go_enter Try.func40, Try.ntmps40
  go_wp2_with (at_builtin; go_loud (refine wpList_append_lies _ rfl (.const (.slice none 0 0)) (.tmp 17) 33 rfl w.heap.size 3 i0 _ 1 8 Try.underlying33 hi0 hz0 hz1 hz2 rfl (by omega) (.slice none 0 0) 0 [] rfl (World.ownsRow_nil _ _ _ _) ⟨b, off, none⟩ ws.length cap (ws.map (Value.int .i64)) rfl (by simp) Hat.out.adds (ints_one _) (by omega) (by unfold maxLen; omega) (by omega) (by simp) (w.heap.size) (by simp) ?_); intro gg cap2 w1 hown hgrow hat3 hlt3; simp only [Nat.zero_add, List.nil_append] at hown; have Ho := Lib.hid (show OwnI w1 w.heap.size (.slice (some ⟨gg, 0, none⟩) ws.length cap2) ws from hown); have Hb := Lib.hid ((Below.refl w.heap.size w).grown hgrow (Nat.le_refl _) (fun k hk => by simp [Value.ownBlock] at hk)); clear hown hgrow hat3)
  -- each at least 1
  go_loopw [13, 60] (fun su i wr => ∃ j : Nat, j ≤ ws.length ∧ i = .int .i64 j ∧ su = .int .i64 (sb ws j + zb ws j) ∧ OwnI wr w.heap.size (.slice (some ⟨gg, 0, none⟩) ws.length cap2) (partL (oneF ws) ws j) ∧ Below w.heap.size w wr) (fun _ i _ => ws.length - (intOf i).toNat)
  case atStart => exact ⟨0, Nat.zero_le _, rfl, rfl, by rw [partL_zero]; exact Ho.out, Hb.out⟩
  case round =>
    obtain ⟨j, hj, rfl, rfl, hown, hbel⟩ := hrel
    have Hown := Lib.hid hown
    have Hbel := Lib.hid hbel
    have hwr : w.heap.size ≤ wr.heap.size := hbel.size
    have hsb := sb_bd Hws.out j
    have hzj := zb_le ws j
    clear hown hbel
    by_cases hlt : j < ws.length
    · have hpl := (partL_length (oneF ws) ws j hj).symm
      have c0 := Hown.out.cell hpl j hlt
      have cf := Hown.out.fz hpl
      have hgg : gg < wr.heap.size := World.block_lt_of_cell? wr _ c0
      rw [partL_getD _ _ _ _ hj, if_neg (by omega)] at c0
      have Hpl := Lib.hid hpl
      have Hsucc := Lib.hid (partL_succ (oneF ws) ws j hlt)
      have Hone := Lib.hid (sb_one Hws.out j)
      have Hof := Lib.hid (show oneF ws j = max (ws.getD j 0) 1 from rfl)
      have hx := Hws.out j
      generalize hsu : sb ws j + (zb ws j : Int) = su at *
      have hsu0 : 0 ≤ su ∧ su ≤ 2000 := by omega
      obtain ⟨su1, su2⟩ := hsu0
      have Hsu := Lib.hid hsu
      clear hpl hsb hzj hsu
      generalize ws.getD j 0 = x at *
      obtain ⟨x1, x2⟩ := hx
      by_cases hx0 : x < 1
      · have hm : max x 1 = 1 := by simp only [Int.max_def]; split <;> omega
        have Hm := Lib.hid hm
        go_wp2
        go_roundw
        case rel =>
          refine ⟨j + 1, by omega, by go_num, by rw [← Hone.out, Hof.out, Hm.out], ?_, (Hbel.out.setCell (p := ⟨gg, j, none⟩) Hown.out.base _)⟩
          have q := Hown.out.set Hpl.out j 1
          have e := Hsucc.out
          rw [Hof.out, Hm.out] at e
          rw [e] at q
          exact q
        case measure => simp [intOf]; omega
      · have hm : max x 1 = x := by simp only [Int.max_def]; split <;> omega
        have Hm := Lib.hid hm
        go_wp2
        go_roundw
        case rel =>
          refine ⟨j + 1, by omega, by go_num, by rw [← Hone.out, Hof.out, Hm.out], ?_, (Hbel.out.setCell (p := ⟨gg, j, none⟩) Hown.out.base _)⟩
          have q := Hown.out.set Hpl.out j x
          have e := Hsucc.out
          rw [Hof.out, Hm.out] at e
          rw [e] at q
          exact q
        case measure => simp [intOf]; omega
    · have hjn : j = ws.length := by omega
      subst hjn
      rw [Hsum.out]
      have Hown' := Lib.hid (show OwnI wr w.heap.size (.slice (some ⟨gg, 0, none⟩) ws.length cap2) (rangeL (oneF ws) ws.length) by have := Hown.out; rw [partL_all _ _ _ (by omega) hj] at this; exact this)
      have Hone0 := Lib.hid (show ∀ k, 0 ≤ (rangeL (oneF ws) ws.length).getD k 0 ∧ (rangeL (oneF ws) ws.length).getD k 0 ≤ 200 from fun k => by
        by_cases hk : k < ws.length
        · rw [rangeL_getD _ _ _ hk]; have := Hws.out k; simp only [oneF, Int.max_def]; split <;> omega
        · simp [rangeL, List.getD_eq_getElem?_getD, hk])
      have Hlen := Lib.hid (show (rangeL (oneF ws) ws.length).length = ws.length by simp [rangeL])
      generalize rangeL (oneF ws) ws.length = l0 at *
      clear hsb hzj Hown
      go_wp2_with fail
      go_loopw [13] (fun su wr => ∃ j : Nat, (j : Int) ≤ F + f - room ∧ su = .int .i64 (F + f - j) ∧ OwnI wr w.heap.size (.slice (some ⟨gg, 0, none⟩) ws.length cap2) (itL j l0) ∧ Below w.heap.size w wr) (fun su _ => (intOf su - room).toNat)
      case atStart => exact ⟨0, by omega, by go_num, Hown'.out, Hbel.out⟩
      case round =>
        obtain ⟨j, hj, rfl, hown, hbel⟩ := hrel
        have Hown := Lib.hid hown
        have Hbel2 := Lib.hid hbel
        clear hown hbel
        by_cases hmore : room < F + f - j
        · have hll := Lib.hid (show ws.length = (itL j l0).length by rw [itL_length]; exact Hlen.out.symm)
          have Hbd := Lib.hid (itL_bd l0 Hone0.out j)
          obtain ⟨wo, rfl⟩ : ∃ wo : World, wo = wr := ⟨_, rfl⟩
          go_wp2_with fail
          go_loopw [15, 85] (fun mo i wr => ∃ k : Nat, k ≤ ws.length ∧ i = .int .i64 k ∧ mo = .int .i64 (mostOf (itL j l0) k) ∧ ∃ m, wr = wo.drewN m) (fun _ i _ => ws.length - (intOf i).toNat)
          case atStart => exact ⟨0, Nat.zero_le _, rfl, rfl, 0, rfl⟩
          case round =>
            obtain ⟨k, hk, rfl, rfl, m, hm⟩ := hrel
            have Hm := Lib.hid hm
            have hmo := mostOf_lt (itL j l0) k ws.length (by omega) hk
            have hown2 : OwnI wr w.heap.size (.slice (some ⟨gg, 0, none⟩) ws.length cap2) (itL j l0) := by rw [hm]; exact Hown.out.drewN m
            clear hm
            by_cases hkl : k < ws.length
            · have c0 := hown2.cell hll.out k hkl
              have c1 := hown2.cell hll.out _ hmo
              have b0 := Hbd.out k
              have b1 := Hbd.out (mostOf (itL j l0) k)
              have Hms := Lib.hid (show mostOf (itL j l0) (k + 1) = if (itL j l0).getD (mostOf (itL j l0) k) 0 ≤ (itL j l0).getD k 0 then k else mostOf (itL j l0) k from rfl)
              generalize mostOf (itL j l0) k = mo at *
              generalize (itL j l0).getD k 0 = x at *
              generalize (itL j l0).getD mo 0 = y at *
              have i1 : (0 : Int) ≤ (k : Int) := by omega
              have i2 : (k : Int) < (ws.length : Int) := by omega
              have i3 : (0 : Int) ≤ (mo : Int) := by omega
              have i4 : (mo : Int) < (ws.length : Int) := by omega
              clear hown2 b0 b1
              by_cases hxy : y ≤ x
              · go_wp2_with fail
                go_quiet (fail)
                go_wp2
                go_roundw
                case rel => exact ⟨k + 1, by omega, by go_num, by rw [Hms.out, if_pos hxy], m + nq, by rw [Hm.out, World.drewN_drewN]⟩
                case measure => simp [intOf]; omega
              · go_wp2_with fail
                go_quiet (fail)
                go_wp2
                go_roundw
                case rel => exact ⟨k + 1, by omega, by go_num, by rw [Hms.out, if_neg (by omega)], m + nq, by rw [Hm.out, World.drewN_drewN]⟩
                case measure => simp [intOf]; omega
            · have hkn : k = ws.length := by omega
              subst hkn
              have c0 := hown2.cell hll.out _ hmo
              have cf := hown2.fz hll.out
              have b0 := Hbd.out (mostOf (itL j l0) ws.length)
              have Hset := Lib.hid (fun x => hown2.set hll.out (mostOf (itL j l0) ws.length) x)
              have Hdec := Lib.hid (show itL (j + 1) l0 = (itL j l0).set (mostOf (itL j l0) ws.length) ((itL j l0).getD (mostOf (itL j l0) ws.length) 0 - 1) by show decL (itL j l0) = _; unfold decL; rw [← hll.out])
              have hbwr := Lib.hid (show Below w.heap.size w wr by rw [Hm.out]; exact below_drewN Hbel2.out m)
              have hbase := hown2.base
              generalize mostOf (itL j l0) ws.length = mo at *
              generalize (itL j l0).getD mo 0 = x at *
              clear hown2
              go_wp2
              go_roundw
              case rel => exact ⟨j + 1, by omega, by go_num, by rw [Hdec.out]; exact Hset.out _, hbwr.out.setCell (p := ⟨gg, mo, none⟩) hbase _⟩
              case measure => simp [intOf]; omega
        · go_wp2
          go_ret
          refine ⟨_, rfl, ?_, Hbel2.out⟩
          rw [Hres.out, show (F + f - room).toNat = j by omega]
          exact Hown.out

theorem shared_any (b off cap : Nat) (ws : List Int) (room F f : Int) (w : World) (hat : IntAt w b off ws) (h1 : 1 ≤ ws.length) (h8 : ws.length ≤ 8) (hws : ∀ k, 0 ≤ ws.getD k 0 ∧ ws.getD k 0 ≤ 200)
    (hr : 1 ≤ room) (hr' : room ≤ 200) (hF : F = sb ws ws.length) (hf : f = zb ws ws.length) :
    Calls Try.prog 40 #[.slice (some ⟨b, off, none⟩) ws.length cap, .int .i64 room, .int .i64 F, .int .i64 f] w fun e w' => SharedRes (shareOf ws room) w e w' := by
  by_cases hc : needOf ws ≤ room
  · exact shared_even b off cap ws room F f w hat h1 h8 hws hr hr' hF hf hc
  · exact shared_less b off cap ws room F f w hat h1 h8 hws hr hr' hF hf hc
end Go.Proofs.Ytepacocajnobgaa
