/- TableCells: a row is its cells: the walk. -/
import Derived.Test.YtepacocajnobgaaRows5
import Derived.Test.YtepacocajnobgaaPiece
import Derived.Test.YtepacocajnobgaaApartLaw
namespace Go.Proofs.Ytepacocajnobgaa
open Go.ChangeShapes Go.WideShapes Go.ChangeAt Go.RowKit

theorem RowsSl.take {w : World} {a : Option Addr} {c : Nat} {ll : List (List Gl)} (h : RowsSl w (.slice a ll.length c) ll) (hn : NilOk (.slice a ll.length c)) (k : Nat) (hk : k ≤ ll.length) : RowsSl w (.slice a k c) (ll.take k) := by
  have hl : (ll.take k).length = k := by simp; omega
  rcases h with ⟨he, h0⟩ | ⟨b, off, cap, vs, he, hvl, hat⟩
  · injection he with e1 e2 e3
    subst e1 e3
    have hk0 : k = 0 := by rw [h0] at hk; simpa using hk
    subst hk0
    exact .inl ⟨rfl, rfl⟩
  · injection he with e1 e2 e3
    subst e1 e3
    refine .inr ⟨b, off, c, vs.take k, by rw [hl], by rw [hl]; simp; omega, fun j h1 h2 => ?_⟩
    have h1' : j < vs.length := by simp at h1; omega
    simp only [List.getElem_take]
    exact hat j h1' (by simp at h2; omega)
/-- Rows that are new, with their room. -/
theorem RowsNew.shapeC {w : World} {B : Nat} {v : Value} {ll : List (List Gl)} (h : RowsNew w B v ll) :
    ∃ a c, v = .slice a ll.length c ∧ ∀ k, k < ll.length → ∃ b u, a = some ⟨b, 0, none⟩ ∧ b < w.heap.size ∧ w.cell? ⟨b, k, none⟩ = some u ∧ GlSl w u (ll.getD k []) ∧ CapOk u := by
  obtain ⟨vs, hown, hl⟩ := h
  have hlen := hl.length
  rcases hown.2 with ⟨rfl, h0⟩ | ⟨g, cap, cur, rfl, hb, hgg, rest⟩
  · exact ⟨none, 0, by rw [h0], fun k hk => by omega⟩
  · refine ⟨_, cap, rfl, fun k hk => ?_⟩
    have := hown.cells (g := g) rfl k vs[k] (List.getElem?_eq_getElem (by omega))
    rw [add_none, Nat.zero_add] at this
    refine ⟨g, vs[k]'(by omega), rfl, heap_lt hgg, this, ?_, hl.cap k (by omega)⟩
    rw [List.getD_eq_getElem?_getD, List.getElem?_eq_getElem hk]
    exact (hl.get k (by omega) hk).1
theorem row_ok {cs : List (Int × Int)} {flows : List (List Gl)} (h : (rowOf cs flows).2 = 0) (hf : ∀ l ∈ flows, l.length ≤ 2932031007317) : ∀ x ∈ (rowOf cs flows).1, ∀ g ∈ x, 1 ≤ g.wide ∧ g.wide ≤ 2 := by
  obtain ⟨q1, q2, q3, q4, q5, q6⟩ := rowOf_zero h
  intro x hx
  rw [q6] at hx
  have hmem : ∀ (n r : Nat), x ∈ rowsP cs (cellsP cs flows cs.length) n r → ∃ k, x = joinP cs (cellsP cs flows cs.length) k n := by
    intro n r
    induction r with
    | zero => intro h; simp [rowsP] at h
    | succ r ih =>
      intro h
      simp only [rowsP, List.mem_append, List.mem_singleton] at h
      rcases h with h | h
      · exact ih h
      · exact ⟨r, h⟩
  obtain ⟨k, rfl⟩ := hmem _ _ hx
  exact (joinP_ok q4 (fun i r hi hr => cellsP_fit cs flows cs.length hf i r hi hr) k cs.length (Nat.le_refl _)).1

set_option maxRecDepth 100000 in
set_option maxHeartbeats 16000000 in
theorem cells_walk (v : Value) (ws : List Int) (wide : Int) (x : Value) (flows : List (List Gl)) (w : World) (hv : IntSl w v ws) (hnil : NilOk v) (hl : ws.length ≤ 17592186043904) (_ : ∀ z ∈ ws, -9223372036854775808 ≤ z ∧ z ≤ 9223372036854775807) (_ : -9223372036854775808 ≤ wide ∧ wide ≤ 9223372036854775807)
    (hx : RowsSl w x flows) (hnx : NilOk x) (hfl : flows.length ≤ 5864062014634) (hf : ∀ l ∈ flows, l.length ≤ 2932031007317 ∧ ∀ g ∈ l, -9223372036854775808 ≤ g.wide ∧ g.wide ≤ 9223372036854775807) (hcap : CapOk x) :
    Calls Try.prog 10 #[v, .int .i64 wide, x] w fun e w' => e = .returned (.bool true) ∧ Below w.heap.size w w' := by
  have Hv := Lib.hid hv
  obtain ⟨a, c, rfl, hat⟩ := hv
  have Hnil := Lib.hid hnil
  have Hcl := Lib.hid (columnsOf_len ws wide)
  have Hap := Lib.hid (fun h => columnsOf_apart (ws := ws) (wide := wide) h)
  have Hat0 := Lib.hid (fun h => columnsOf_at0 (ws := ws) (wide := wide) h)
  obtain ⟨xa, xc, hxs, _⟩ := hx.shape
  subst hxs
  obtain ⟨hxc1, hxc2⟩ := hcap _ _ _ rfl
  have Hx := Lib.hid hx
  have Hnx := Lib.hid hnx
  have Hf := Lib.hid (fun l hl => (hf l hl).1)
  clear hat hnil hx hnx hf hcap
  obtain ⟨i0, hi0, hz0, hz1, hz2⟩ := info_parts info3
  go_enter Try.func10, Try.ntmps10
  go_wp2_with fail
  refine (awake_any _).mono ?_
  rintro e w0 ⟨rfl, hb0⟩
  have Hb0 := Lib.hid hb0
  have hw0 : w.heap.size ≤ w0.heap.size := hb0.size
  clear hb0
  go_wp2_with (at_builtin; go_loud (refine wpList_append_src rfl (.tmp 20) (.tmp 21) 33 rfl w0.heap.size 3 i0 _ 1 8 Try.underlying33 hi0 hz0 hz1 hz2 rfl (by omega) (.slice (some ⟨w0.heap.size, 0, none⟩) 0 0) 0 [] rfl (World.ownsRow_made w0 #[] 0 (Nat.le_refl _) (by unfold maxLen; omega) rfl) a ws.length c (ws.map (Value.int .i64)) rfl (fun h => Hnil.out _ _ (by rw [h])) (by simp) (fun ad ha => ((Hv.out.new Hb0.out).new ((Below.refl _ _).alloc (Nat.le_refl _) _)).src ad ha) (ints_one _) (by unfold maxLen; omega) (by omega) (by simp) ?_); intro na nc w1 hown hgrow)
  have Hb1 := Lib.hid (show Below w0.heap.size w0 w1 from ((Below.refl _ _).alloc (Nat.le_refl _) _).grown hgrow (by simp) fun k hk => by simp [Value.ownBlock] at hk; omega)
  have Hi1 := Lib.hid (show IntSl w1 (.slice na ws.length nc) ws from intSl_of_owns (B := w0.heap.size) (by simpa using hown))
  clear hown hgrow
  refine (cols_any _ ws wide _ Hi1.out (by omega)).mono ?_
  rintro e w2 ⟨v2, rfl, hown2, hb2⟩
  have Hb2 := Lib.hid (Hb0.out.trans ((Hb1.out.trans (hb2.mono Hb1.out.size)).mono hw0))
  have Hc2 := Lib.hid (colSl_of_owns hown2)
  obtain ⟨a2, c2, hs2⟩ := (colSl_of_owns hown2).shape
  clear hown2 hb2
  subst hs2
  obtain ⟨y, hy⟩ : ∃ y, y = columnsOf ws wide := ⟨_, rfl⟩
  rw [← hy] at Hcl Hap Hat0 Hc2 ⊢
  clear hy
  obtain ⟨cs, err⟩ := y
  have hcl := Hcl.out
  simp only at hcl
  by_cases herr : err = 0
  · subst herr
    have Hcs := Lib.hid (show ColSl w2 (.slice a2 cs.length c2) cs from Hc2.out)
    have Hc0 := Lib.hid (show (cs.getD 0 (0, 0)).1 = 0 from Hat0.out rfl)
    clear Hc2 Hcl Hap Hat0
    by_cases hfc : flows.length < cs.length
    · go_wp2
      go_ret
      exact ⟨rfl, Hb2.out⟩
    · have Hxt := Lib.hid (show RowsSl w2 (.slice xa cs.length xc) (flows.take cs.length) from (Hx.out.take Hnx.out cs.length (by omega)).new Hb2.out)
      have HfT := Lib.hid (show ∀ l ∈ flows.take cs.length, l.length ≤ 2932031007317 from fun l hl => Hf.out l (List.mem_of_mem_take hl))
      have hFl : (flows.take cs.length).length = cs.length := by simp; omega
      have HFl := Lib.hid hFl
      clear hFl
      have hbnd : (cs.length : Int) ≤ (xc : Int) := by omega
      generalize flows.take cs.length = F at *
      go_wp2_with fail
      refine (twins_any _ F _ (by rw [HFl.out]; omega) (fun l hl => by have := HfT.out l hl; omega) Hxt.out).mono ?_
      rintro e w3 ⟨v3, rfl, hnew3, hb3⟩
      have Hb3 := Lib.hid hb3
      have Hr3 := Lib.hid (RowsSl.of_new hnew3)
      have hw3 : w2.heap.size ≤ w3.heap.size := hb3.size
      clear hnew3 hb3
      go_wp2_with fail
      refine (row_any _ _ cs F _ (Hcs.out.new Hb3.out) Hr3.out HfT.out (by omega) (by rw [HFl.out]; omega)).mono ?_
      rintro e w4 ⟨v4, rfl, hnew4, hb4⟩
      have Hb4 := Lib.hid (Hb3.out.trans (hb4.mono hw3))
      have Hr4 := Lib.hid (RowsSl.of_new hnew4)
      obtain ⟨ra, rc, hrs, hrw⟩ := hnew4.shapeC
      have Hrw := Lib.hid hrw
      have hw4 : w2.heap.size ≤ w4.heap.size := Hb4.out.size
      clear hnew4 hb4 hrw
      subst hrs
      have Hcells := Lib.hid (fun h i hi => row_cells (cs := cs) (flows := F) h HfT.out i hi)
      have Hok := Lib.hid (fun h => row_ok (cs := cs) (flows := F) h HfT.out)
      have Hlen := Lib.hid (rowOf_len cs F HfT.out)
      have Hone := Lib.hid (fun h h1 h0 => row_single (cs := cs) (flows := F) h h1 h0)
      have Hgd := Lib.hid (fun h => (rowOf_zero (cs := cs) (flows := F) h).2.2.2.1)
      have Hre := Lib.hid (fun h => rowOf_err (cs := cs) (flows := F) h)
      obtain ⟨z, hz⟩ : ∃ z, z = rowOf cs F := ⟨_, rfl⟩
      rw [← hz] at Hcells Hok Hlen Hone Hgd Hre Hrw Hr4 ⊢
      clear hz
      obtain ⟨RW, re⟩ := z
      by_cases hre : re = 0
      · subst hre
        have hcells := Hcells.out rfl
        have Hcl2 := Lib.hid hcells
        have Hok2 := Lib.hid (Hok.out rfl)
        have Hgd2 := Lib.hid (Hgd.out rfl)
        have hRl : RW.length ≤ 2932031007317 := Hlen.out.1
        have Hrl2 := Lib.hid (show ∀ x ∈ RW, x.length ≤ 200 from Hlen.out.2)
        clear hcells Hcells Hok Hgd Hre Hlen
        simp only at Hrw Hr4 ⊢
        go_wp2_with fail
        go_loopw [10] (fun i wr => ∃ k : Nat, k ≤ cs.length ∧ i = .int .i64 k ∧ Below w4.heap.size w4 wr) (fun i _ => cs.length - (intOf i).toNat)
        case atStart => exact ⟨0, Nat.zero_le _, rfl, Below.refl _ _⟩
        case round =>
          obtain ⟨k, hk, rfl, hbel⟩ := hrel
          have Hbel := Lib.hid hbel
          have hwr : w4.heap.size ≤ wr.heap.size := hbel.size
          clear hbel
          have H2r := Lib.hid (Hb4.out.trans (Hbel.out.mono hw4))
          by_cases hlt : k < cs.length
          · obtain ⟨cb, co, ha, hca⟩ : ∃ b off, a2 = some ⟨b, off, none⟩ ∧ ColAt w2 b off cs := by
              obtain ⟨a', c', he, h⟩ := Hcs.out
              injection he with e1 e2 e3
              subst e1
              exact h k hlt
            subst ha
            have hcbw := hca.lt k hlt
            have Hca := Lib.hid (hca k hlt)
            obtain ⟨d0, d1⟩ := (hca.same (H2r.out.block cb hcbw)) k hlt
            obtain ⟨xa', xc', he, hxr⟩ := Hxt.out.shape
            injection he with e1 e2 e3
            subst e1
            obtain ⟨fb, fo, fu, hfa, hfb, f0, fg⟩ := hxr k (by rw [HFl.out]; exact hlt)
            subst hfa
            have f1 : wr.cell? ⟨fb, fo + k, none⟩ = some fu := by rw [H2r.out.cell (p := ⟨fb, fo + k, none⟩) hfb]; exact f0
            have Hfg := Lib.hid (fg.new H2r.out)
            have hFk : (F.getD k []).length ≤ 2932031007317 := by
              rw [List.getD_eq_getElem?_getD, List.getElem?_eq_getElem (by rw [HFl.out]; exact hlt)]; exact HfT.out _ (List.getElem_mem _)
            obtain ⟨hq0, hq1, hq2⟩ := Hcl2.out k hlt
            have hokc := okC_bd (goodC_mono Hgd2.out k hlt)
            have hend := endC_bd (goodC_le Hgd2.out k (by omega))
            have HFk := Lib.hid hFk
            have Hq2 := Lib.hid hq2
            have hlenL := fillOf_len (F.getD k []) (cs.getD k (0, 0)).2 (by omega)
            have HlenL := Lib.hid hlenL
            have hlb : cb < wr.heap.size := by omega
            have hlf : fb < wr.heap.size := by omega
            clear hca hxr e2 e3 f0 fg hFk hq2 hlenL
            generalize F.getD k [] = FK at *
            generalize cs.getD k (0, 0) = q at *
            obtain ⟨qa, qw⟩ := q
            obtain ⟨o1, o2, o3, o4, o5⟩ := hokc
            simp only at o1 o2 o3 o4 o5 d0 d1 hq0 hq1
            have i1 : (0 : Int) ≤ (k : Int) := by omega
            have i2 : (k : Int) < (cs.length : Int) := by omega
            go_wp2_with fail
            go_region_held3 (fun w' => w'.cell? ⟨fb, fo + k, none⟩ = some fu ∧ w'.cell? ⟨cb, co + k * 2 + 1, none⟩ = some (.int .i64 qw))
              (first
                | (go_keep; done)
                | exact ⟨(hb6.cell (p := ⟨fb, fo + k, none⟩) (by have := hb5.size; simp at this; show fb < _; omega)).trans ((hb5.cell (p := ⟨fb, fo + k, none⟩) (by simpa using hlf)).trans (by simpa using f1)), (hb6.cell (p := ⟨cb, co + k * 2 + 1, none⟩) (by have := hb5.size; simp at this; show cb < _; omega)).trans ((hb5.cell (p := ⟨cb, co + k * 2 + 1, none⟩) (by simpa using hlb)).trans (by simpa using d1))⟩
                | exact ⟨(hb5.cell (p := ⟨fb, fo + k, none⟩) (by simpa using hlf)).trans (by simpa using f1), (hb5.cell (p := ⟨cb, co + k * 2 + 1, none⟩) (by simpa using hlb)).trans (by simpa using d1)⟩)
              (first
                | (go_at_call 12; refine (twin_any _ FK _ (by have := HFk.out; omega) (by exact Hfg.out.same fun _ _ _ => rfl)).mono ?_; rintro e w5 ⟨v5, rfl, hown5, hb5⟩)
                | (go_at_call 11; refine (fill_any _ FK qw _ (glSl_of_owns hown5) HFk.out).mono ?_; rintro e w6 ⟨v6, rfl, hnew6, hb6⟩))
            have hb56 : Below wr.heap.size wr w6 := (((Below.refl wr.heap.size wr).drew).trans hb5).trans (hb6.mono (by have := hb5.size; simp at this; omega))
            have Hb56 := Lib.hid hb56
            have hw56 : wr.heap.size ≤ w6.heap.size := hb56.size
            obtain ⟨la, lc, hls, hlw⟩ := hnew6.shapeC
            clear hb5 hb6 hb56 hnew6 hown5 i1 i2 f1 d0 d1
            subst hls
            obtain ⟨Y, hY⟩ : ∃ Y, Y = fillOf FK qw := ⟨_, rfl⟩
            have Hlw := Lib.hid hlw
            clear hlw
            (try simp only at Hq2); (try simp only at HlenL)
            rw [← hY] at Hq2 HlenL hq0 hq1 Hlw ⊢
            clear hY
            obtain ⟨L, g⟩ := Y
            simp only at hq0 hq1
            (try simp only at Hq2); (try simp only at HlenL); (try simp only at Hlw)
            subst hq0
            have e1 : decide (RW.length < L.length) = false := decide_eq_false (by omega)
            have e1' : decide ((RW.length : Int) < (L.length : Int)) = false := decide_eq_false (by omega)
            have hqa : 0 ≤ qa ∧ qa ≤ 200 := ⟨by omega, by omega⟩
            have hqw : 1 ≤ qw ∧ qw ≤ 200 := ⟨by omega, by omega⟩
            simp only
            go_wp2_with fail
            go_loopw [13] (fun i wj => ∃ r : Nat, r ≤ RW.length ∧ i = .int .i64 r ∧ Below w6.heap.size w6 wj) (fun i _ => RW.length - (intOf i).toNat)
            case atStart => exact ⟨0, Nat.zero_le _, rfl, Below.refl _ _⟩
            case round =>
              obtain ⟨r, hr, rfl, hbj⟩ := hrel
              have Hbj := Lib.hid hbj
              clear hbj
              by_cases hrr : r < RW.length
              · obtain ⟨rb, ru, hra, hrb, r0, rgl, _⟩ := Hrw.out r hrr
                subst hra
                have Hr0 := Lib.hid r0
                have Hrgl := Lib.hid rgl
                have hmem : RW.getD r [] ∈ RW := by rw [List.getD_eq_getElem?_getD, List.getElem?_eq_getElem hrr]; exact List.getElem_mem hrr
                have hR1 := Hrl2.out _ hmem
                have HR2 := Lib.hid (Hok2.out _ hmem)
                have hR2 := HR2.out
                have Heq := Lib.hid (Hq2.out r hrr)
                have Htl := Lib.hid (show (trim (cut qa qw 0 (RW.getD r []))).length ≤ 200 from by
                  have h1 := cut_len qa qw (RW.getD r []) 0
                  have h2 : (trim (cut qa qw 0 (RW.getD r []))).length ≤ (cut qa qw 0 (RW.getD r [])).length := by unfold trim; simp; omega
                  omega)
                clear r0 rgl hmem
                by_cases hrl : r < L.length
                · rw [if_pos hrl] at Heq
                  obtain ⟨lb, lu, hla, hlb6, l0, lgl, lcap⟩ := Hlw.out r hrl
                  subst hla
                  have l1 : wr.cell? ⟨lb, r, none⟩ = some lu := (Hbj.out.cell (p := ⟨lb, r, none⟩) hlb6).trans l0
                  have Hlg := Lib.hid (lgl.new Hbj.out)
                  have Hlcap := Lib.hid lcap
                  have HLr := Lib.hid (HlenL.out (L.getD r []) (by rw [List.getD_eq_getElem?_getD, List.getElem?_eq_getElem hrl]; exact List.getElem_mem hrl))
                  clear l0 lgl lcap
                  go_wp2_with fail
                  refine (trimmed_any _ (L.getD r []) _ Hlg.out (by have := HLr.out; omega) Hlcap.out).mono ?_
                  rintro e w7 ⟨v7, rfl, hg7, hb7⟩
                  have Hg7 := Lib.hid hg7
                  have Hb7 := Lib.hid (Hbj.out.trans (hb7.mono Hbj.out.size))
                  clear hg7 hb7 l1
                  have Hw6x := Lib.hid (Hb7.out)
                  have hw6x : w6.heap.size ≤ w7.heap.size := Hw6x.out.size
                  have Hx4 := Lib.hid (show Below w4.heap.size w4 w7 from (Hbel.out.trans (Hb56.out.mono hwr)).trans (Hw6x.out.mono (Nat.le_trans hwr hw56)))
                  have Hx2 := Lib.hid (Hb4.out.trans (Hx4.out.mono hw4))
                  have r1 : w7.cell? ⟨rb, r, none⟩ = some ru := (Hx4.out.cell (p := ⟨rb, r, none⟩) hrb).trans Hr0.out
                  have c1 : w7.cell? ⟨cb, co + k * 2, none⟩ = some (.int .i64 qa) := (Hx2.out.cell (p := ⟨cb, co + k * 2, none⟩) hcbw).trans Hca.out.1
                  have c2' : w7.cell? ⟨cb, co + k * 2 + 1, none⟩ = some (.int .i64 qw) := (Hx2.out.cell (p := ⟨cb, co + k * 2 + 1, none⟩) hcbw).trans Hca.out.2
                  have Hrg := Lib.hid (Hrgl.out.new Hx4.out)
                  have hrbx : rb < w7.heap.size := Nat.lt_of_lt_of_le hrb Hx4.out.size
                  have hcbx : cb < w7.heap.size := Nat.lt_of_lt_of_le hcbw Hx2.out.size
                  have j1 : (0 : Int) ≤ (r : Int) := by omega
                  have j2 : (r : Int) < (RW.length : Int) := by omega
                  go_wp2_with fail
                  go_region_held3 (fun w' => w'.cell? ⟨rb, r, none⟩ = some ru ∧ w'.cell? ⟨cb, co + k * 2, none⟩ = some (.int .i64 qa) ∧ w'.cell? ⟨cb, co + k * 2 + 1, none⟩ = some (.int .i64 qw))
                    (first
                      | (go_keep; done)
                      | exact ⟨(hb8.cell (p := ⟨rb, r, none⟩) (by simpa using hrbx)).trans (by simpa using r1), (hb8.cell (p := ⟨cb, co + k * 2, none⟩) (by simpa using hcbx)).trans (by simpa using c1), (hb8.cell (p := ⟨cb, co + k * 2 + 1, none⟩) (by simpa using hcbx)).trans (by simpa using c2')⟩)
                    (first
                      | (go_at_call 29; refine (piece_any _ (RW.getD r []) qa qw _ (by exact Hrg.out.same fun _ _ _ => rfl) hR1 hR2 hqa hqw).mono ?_; rintro e w8 ⟨v8, rfl, hg8, hb8⟩)
                      | (go_at_call 22; refine (same_any _ _ (trim (cut qa qw 0 (RW.getD r []))) _ (by have := Htl.out; omega) (by exact hg8) (by rw [Heq.out]; exact (Hg7.out.same (w' := w7.drew) fun _ _ _ => rfl).new hb8)).mono ?_; rintro e w9 ⟨rfl, n9, hw9⟩; subst hw9))
                  have Hb89 := Lib.hid (show Below w6.heap.size w6 _ from Hw6x.out.trans ((below_drewN (((Below.refl w7.heap.size w7).drew).trans hb8) n9).mono hw6x))
                  clear r1 c1 c2' j1 j2
                  go_wp2
                  go_roundw
                  case rel => exact ⟨r + 1, by omega, by go_num, Hb89.out⟩
                  case measure => simp [intOf]; omega
                · rw [if_neg hrl] at Heq
                  have Hg7 := Lib.hid (show GlSl wr (.slice none 0 0) [] from .inl ⟨⟨none, 0, rfl, fun _ => rfl⟩, rfl⟩)
                  have Hw6x := Lib.hid (Hbj.out)
                  have hw6x : w6.heap.size ≤ wr.heap.size := Hw6x.out.size
                  have Hx4 := Lib.hid (show Below w4.heap.size w4 wr from (Hbel.out.trans (Hb56.out.mono hwr)).trans (Hw6x.out.mono (Nat.le_trans hwr hw56)))
                  have Hx2 := Lib.hid (Hb4.out.trans (Hx4.out.mono hw4))
                  have r1 : wr.cell? ⟨rb, r, none⟩ = some ru := (Hx4.out.cell (p := ⟨rb, r, none⟩) hrb).trans Hr0.out
                  have c1 : wr.cell? ⟨cb, co + k * 2, none⟩ = some (.int .i64 qa) := (Hx2.out.cell (p := ⟨cb, co + k * 2, none⟩) hcbw).trans Hca.out.1
                  have c2' : wr.cell? ⟨cb, co + k * 2 + 1, none⟩ = some (.int .i64 qw) := (Hx2.out.cell (p := ⟨cb, co + k * 2 + 1, none⟩) hcbw).trans Hca.out.2
                  have Hrg := Lib.hid (Hrgl.out.new Hx4.out)
                  have hrbx : rb < wr.heap.size := Nat.lt_of_lt_of_le hrb Hx4.out.size
                  have hcbx : cb < wr.heap.size := Nat.lt_of_lt_of_le hcbw Hx2.out.size
                  have j1 : (0 : Int) ≤ (r : Int) := by omega
                  have j2 : (r : Int) < (RW.length : Int) := by omega
                  go_wp2_with fail
                  go_region_held3 (fun w' => w'.cell? ⟨rb, r, none⟩ = some ru ∧ w'.cell? ⟨cb, co + k * 2, none⟩ = some (.int .i64 qa) ∧ w'.cell? ⟨cb, co + k * 2 + 1, none⟩ = some (.int .i64 qw))
                    (first
                      | (go_keep; done)
                      | exact ⟨(hb8.cell (p := ⟨rb, r, none⟩) (by simpa using hrbx)).trans (by simpa using r1), (hb8.cell (p := ⟨cb, co + k * 2, none⟩) (by simpa using hcbx)).trans (by simpa using c1), (hb8.cell (p := ⟨cb, co + k * 2 + 1, none⟩) (by simpa using hcbx)).trans (by simpa using c2')⟩)
                    (first
                      | (go_at_call 29; refine (piece_any _ (RW.getD r []) qa qw _ (by exact Hrg.out.same fun _ _ _ => rfl) hR1 hR2 hqa hqw).mono ?_; rintro e w8 ⟨v8, rfl, hg8, hb8⟩)
                      | (go_at_call 22; refine (same_any _ _ (trim (cut qa qw 0 (RW.getD r []))) _ (by have := Htl.out; omega) (by exact hg8) (by rw [Heq.out]; exact (Hg7.out.same (w' := wr.drew) fun _ _ _ => rfl).new hb8)).mono ?_; rintro e w9 ⟨rfl, n9, hw9⟩; subst hw9))
                  have Hb89 := Lib.hid (show Below w6.heap.size w6 _ from Hw6x.out.trans ((below_drewN (((Below.refl wr.heap.size wr).drew).trans hb8) n9).mono hw6x))
                  clear r1 c1 c2' j1 j2
                  go_wp2
                  go_roundw
                  case rel => exact ⟨r + 1, by omega, by go_num, Hb89.out⟩
                  case measure => simp [intOf]; omega
              · go_wp2_with fail
                go_roundw
                case rel => exact ⟨k + 1, by omega, by go_num, (Hbel.out.trans (Hb56.out.mono hwr)).trans (Hbj.out.mono (Nat.le_trans hwr hw56))⟩
                case measure => simp [intOf]; omega
          · by_cases h1 : cs.length = 1
            · have hne : ((cs.length : Int) != 1) = false := by rw [h1]; rfl
              have H1 := Lib.hid h1
              have hlt0 : 0 < cs.length := by omega
              clear h1
              obtain ⟨cb, co, ha, hca⟩ : ∃ b off, a2 = some ⟨b, off, none⟩ ∧ ColAt w2 b off cs := by
                obtain ⟨a', c', he, h⟩ := Hcs.out
                injection he with e1 e2 e3
                subst e1
                exact h 0 hlt0
              subst ha
              have hcbw := hca.lt 0 hlt0
              obtain ⟨_, d1'⟩ := (hca.same (H2r.out.block cb hcbw)) 0 hlt0
              have d1 : wr.cell? ⟨cb, co + 1, none⟩ = some (.int .i64 (cs.getD 0 (0, 0)).2) := by simpa using d1'
              obtain ⟨xa', xc', he, hxr⟩ := Hxt.out.shape
              injection he with e1 e2 e3
              subst e1
              obtain ⟨fb, fo, fu, hfa, hfb, f0, fg⟩ := hxr 0 (by rw [HFl.out]; exact hlt0)
              subst hfa
              have f1 : wr.cell? ⟨fb, fo, none⟩ = some fu := by rw [H2r.out.cell (p := ⟨fb, fo, none⟩) hfb]; exact f0
              have Hfg := Lib.hid (fg.new H2r.out)
              have hFk : (F.getD 0 []).length ≤ 2932031007317 := by
                rw [List.getD_eq_getElem?_getD, List.getElem?_eq_getElem (by rw [HFl.out]; exact hlt0)]; exact HfT.out _ (List.getElem_mem _)
              obtain ⟨hq0, _, _⟩ := Hcl2.out 0 hlt0
              have Hsg := Lib.hid (Hone.out (by trivial) H1.out Hc0.out)
              have HFk := Lib.hid hFk
              have hlb : cb < wr.heap.size := by omega
              have hlf : fb < wr.heap.size := by omega
              clear hca hxr e2 e3 f0 fg hFk d1'
              generalize F.getD 0 [] = FK at *
              generalize (cs.getD 0 (0, 0)).2 = qw at *
              have i2 : (0 : Int) < (cs.length : Int) := by omega
              go_wp2_with fail
              go_region_held3 (fun w' => w'.cell? ⟨fb, fo, none⟩ = some fu ∧ w'.cell? ⟨cb, co + 1, none⟩ = some (.int .i64 qw))
                (first
                  | (go_keep; done)
                  | exact ⟨(hb6.cell (p := ⟨fb, fo, none⟩) (by have := hb5.size; simp at this; show fb < _; omega)).trans ((hb5.cell (p := ⟨fb, fo, none⟩) (by simpa using hlf)).trans (by simpa using f1)), (hb6.cell (p := ⟨cb, co + 1, none⟩) (by have := hb5.size; simp at this; show cb < _; omega)).trans ((hb5.cell (p := ⟨cb, co + 1, none⟩) (by simpa using hlb)).trans (by simpa using d1))⟩
                  | exact ⟨(hb5.cell (p := ⟨fb, fo, none⟩) (by simpa using hlf)).trans (by simpa using f1), (hb5.cell (p := ⟨cb, co + 1, none⟩) (by simpa using hlb)).trans (by simpa using d1)⟩)
                (first
                  | (go_at_call 12; refine (twin_any _ FK _ (by have := HFk.out; omega) (by exact Hfg.out.same fun _ _ _ => rfl)).mono ?_; rintro e w5 ⟨v5, rfl, hown5, hb5⟩)
                  | (go_at_call 11; refine (fill_any _ FK qw _ (glSl_of_owns hown5) HFk.out).mono ?_; rintro e w6 ⟨v6, rfl, hnew6, hb6⟩))
              have hb56 : Below wr.heap.size wr w6 := (((Below.refl wr.heap.size wr).drew).trans hb5).trans (hb6.mono (by have := hb5.size; simp at this; omega))
              have Hb46 := Lib.hid (Hbel.out.trans (hb56.mono hwr))
              have Hl6 := Lib.hid (RowsSl.of_new hnew6)
              clear hb5 hb6 hb56 hnew6 hown5 f1 d1
              obtain ⟨Y, hY⟩ : ∃ Y, Y = fillOf FK qw := ⟨_, rfl⟩
              rw [← hY] at hq0 Hsg Hl6
              clear hY
              obtain ⟨L, g⟩ := Y
              have hLR : RW = L := Hsg.out
              simp only at hq0 Hl6
              subst hq0 hLR
              clear Hsg
              go_wp2_with fail
              refine (sameAll_any _ _ RW _ (by omega) (fun x hx => by have := Hrl2.out x hx; omega) Hl6.out (Hr4.out.new Hb46.out)).mono ?_
              rintro e w9 ⟨rfl, n9, hw9⟩
              have Hb49 := Lib.hid (show Below w4.heap.size w4 w9 by rw [hw9]; exact below_drewN Hb46.out _)
              clear hw9
              go_wp2
              go_ret
              exact ⟨rfl, Hb2.out.trans ((Hb4.out.trans (Hb49.out.mono hw4)).mono Hb2.out.size)⟩
            · have hne : ((cs.length : Int) != 1) = true := by rw [bne_iff_ne]; omega
              clear h1
              go_wp2
              go_ret
              exact ⟨rfl, Hb2.out.trans (H2r.out.mono Hb2.out.size)⟩
      · have hz := Hre.out hre
        simp only at hz
        have he : (re != 0) = true := by simp [hre]
        subst hz
        clear hre
        go_wp2
        go_ret
        exact ⟨rfl, Hb2.out.trans (Hb4.out.mono Hb2.out.size)⟩
  · have he : (err != 0) = true := by simp [herr]
    clear herr
    go_wp2
    go_ret
    exact ⟨rfl, Hb2.out⟩
end Go.Proofs.Ytepacocajnobgaa
