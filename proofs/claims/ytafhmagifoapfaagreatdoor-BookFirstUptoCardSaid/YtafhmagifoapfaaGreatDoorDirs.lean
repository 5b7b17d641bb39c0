/- src: directive, where it may stand. -/
import Derived.Test.YtafhmagifoapfaaGreatDoorParts
import Derived.Deep.RegionWith
namespace Go.Proofs.YtafhmagifoapfaaGreatDoor
open Go.RowKit Find Bk
attribute [local go_sem ↓] Go.wp_at_zero Go.wp_at_succ
set_option maxHeartbeats 6400000 in
set_option maxRecDepth 100000 in
theorem directive_short (B : Nat) (s : PS) (p : PV) (t : Tok) (n f g : Nat) (w : World) (h : ParR B w s p) (hB : B ≤ w.heap.size) (hg : Glb w) (_hal : t.text.length ≤ 1000000) (hpn : s.para = none) (hD : DirH B s p t n f g) (hm : s.may n = true) (l : Lvl) (hl : s.last = some l) (h1 : l.table = 1) (h2 : 0 < l.rows) (h3 : l.cells < l.widths) (hn : n = 10 ∨ n = 11) :
    Calls Tryz.prog 14 #[parP p, tokV t] w (DoPost B p.b p.vm (.error (t.flt 54)) w) := by
  have HE := fun c w hc => swrong_any c t w hc
  obtain ⟨c0, c1, c2, c3, c4, c5, cf⟩ := par_cells h
  have hpl := h.lt
  obtain ⟨pa, pc, hv⟩ := owns_slice h.para
  rw [hv, hpn] at c4
  simp only [Option.toList_none, List.length_nil] at c4
  obtain ⟨r, hvm, hmo⟩ := h.map
  have hlook := fun W hW => hD.look W r hW
  rw [hvm] at c0
  have hmap : ∀ W, Below w.heap.size w W → W.heap[r]? = some ordO := fun W hb => by rw [hb.block r (lt_of_heap hmo)]; exact hmo
  have hbx := (Below.refl w.heap.size w).alloc (Nat.le_refl _) (.cells #[.int .i64 t.kind, .string ⟨t.name.toArray⟩, .string ⟨t.text.toArray⟩, .int .i64 t.line, .int .i64 t.col] 59)
  have hbo := hbx.alloc (by simp) (.cells #[.nilFunc, .nilFunc] 95)
  have hbp := (hbx.drew).alloc (by simp) (.cells #[.nilFunc, .nilFunc] 95)
  have hk1 := hlook _ (hmap _ hbx)
  have hk2 := hlook _ (hmap _ hbx.drew)
  have hk3 := hlook _ (hmap _ hbo)
  have hk4 := hlook _ (hmap _ hbo.drew)
  have hk5 := hlook _ (hmap _ hbp)
  clear hlook hmap hbx hbo hbp
  have qs0 : (((w.alloc (.cells #[.int .i64 t.kind, .string ⟨t.name.toArray⟩, .string ⟨t.text.toArray⟩, .int .i64 t.line, .int .i64 t.col] 59)).alloc (.cells #[.nilFunc, .nilFunc] 95)).drew).cell? ⟨w.heap.size + 1, 0, none⟩ = some .nilFunc := by simp
  have qs1 : (((w.alloc (.cells #[.int .i64 t.kind, .string ⟨t.name.toArray⟩, .string ⟨t.text.toArray⟩, .int .i64 t.line, .int .i64 t.col] 59)).alloc (.cells #[.nilFunc, .nilFunc] 95)).drew).cell? ⟨w.heap.size + 1, 1, none⟩ = some .nilFunc := by simp
  have qf0 : ∀ i, (((w.alloc (.cells #[.int .i64 t.kind, .string ⟨t.name.toArray⟩, .string ⟨t.text.toArray⟩, .int .i64 t.line, .int .i64 t.col] 59)).alloc (.cells #[.nilFunc, .nilFunc] 95)).drew).frozen? ⟨w.heap.size + 1, i, none⟩ = false := fun i => by simp
  have HX := Lib.hid h
  have HBW : Hid (Below w.heap.size w ((w.alloc (.cells #[.int .i64 t.kind, .string ⟨t.name.toArray⟩, .string ⟨t.text.toArray⟩, .int .i64 t.line, .int .i64 t.col] 59)).alloc (.cells #[.func (.func f) #[] #[], .func (.func g) #[] #[]] 95)).drew) := Lib.hid ((((Below.refl w.heap.size w).alloc (Nat.le_refl _) _).alloc (by simp) _).drew)
  have hef := hD.ef
  have heg := hD.eg
  clear hv hpn hmo c1 c2 c3 c5
  have hM := hD.may
  rw [hm] at hM
  have HM := Lib.hid hM
  have HDO := Lib.hid (hD.does hm)
  have HG := Lib.hid hg
  have hR := hD.nR
  have hE := hD.nE
  have hT := hD.nT
  have hN := hD.nN
  have a1 : ((l.table : Int) == 1) = true := by rw [beq_iff_eq]; omega
  have a2 : decide ((0 : Int) < (l.rows : Int)) = true := by rw [decide_eq_true_eq]; omega
  have a2' : decide (0 < l.rows) = true := by rw [decide_eq_true_eq]; omega
  have a3 : decide ((l.cells : Int) < (l.widths : Int)) = true := by rw [decide_eq_true_eq]; omega
  have a3' : decide (l.cells < l.widths) = true := by rw [decide_eq_true_eq]; omega
  have hLL := fun W (hb : Below w.heap.size w W) => lvl_cells (h.new hb) hl
  have hLC := fun W (hb : Below w.heap.size w W) => last_any B s p W (h.new hb)
  simp only [lastP_some hl] at hLC
  have HLL := Lib.hid hLL
  have HLC := Lib.hid hLC
  clear hLL hLC hM hD h hm hl hg hT hN h2 h3 h1
  rcases hn with rfl | rfl
  all_goals
    go_enter Tryz.func14, Tryz.ntmps14
    go_wp2_with fail
    go_region
    all_goals
      go_wp2_with fail
      obtain ⟨w2, hWe⟩ : ∃ W, ((w.alloc (.cells #[.int .i64 t.kind, .string ⟨t.name.toArray⟩, .string ⟨t.text.toArray⟩, .int .i64 t.line, .int .i64 t.col] 59)).alloc (.cells #[.func (.func f) #[] #[], .func (.func g) #[] #[]] 95)).drew = W := ⟨_, rfl⟩
      have dt0 : w2.cell? ⟨w.heap.size, 0, none⟩ = some (.int .i64 t.kind) := by rw [← hWe]; simp
      have dt1 : w2.cell? ⟨w.heap.size, 1, none⟩ = some (.string ⟨t.name.toArray⟩) := by rw [← hWe]; simp
      have dt2 : w2.cell? ⟨w.heap.size, 2, none⟩ = some (.string ⟨t.text.toArray⟩) := by rw [← hWe]; simp
      have dt3 : w2.cell? ⟨w.heap.size, 3, none⟩ = some (.int .i64 t.line) := by rw [← hWe]; simp
      have dt4 : w2.cell? ⟨w.heap.size, 4, none⟩ = some (.int .i64 t.col) := by rw [← hWe]; simp
      have du0 : w2.cell? ⟨w.heap.size + 1, 0, none⟩ = some (.func (.func f) #[] #[]) := by rw [← hWe]; simp
      have du1 : w2.cell? ⟨w.heap.size + 1, 1, none⟩ = some (.func (.func g) #[] #[]) := by rw [← hWe]; simp
      have hsz : w.heap.size + 1 < w2.heap.size := by rw [← hWe]; simp
      rw [hWe] at HBW ⊢
      clear hWe hk1 hk2 hk3 hk4 hk5
      have hbW : ∀ k, Below w.heap.size w (w2.drewN k) := fun k => below_drewM HBW.out k
      obtain ⟨cap, -, -, d0, d1, d2, d3, d4, -⟩ := HLL.out _ HBW.out
      go_wp2_with (first
      | (go_at_fn f; refine (HM.out _ (HX.out.new HBW.out)).mono ?_; rintro e w3 ⟨rfl, k3, rfl⟩)
        | (go_at_call 44; refine (HLC.out _ (hbW _)).mono ?_; rintro e w4 ⟨rfl, rfl⟩)
        | fail)
      go_quiet (fail)
      go_wp2_with (first
        | (go_at_call 52; refine (HE 54 _ (by decide)).mono ?_; rintro e w9 ⟨v, rfl, hf, hb⟩)
        | fail)
      exact ⟨rfl, ((below_drewM HBW.out _).trans (hb.mono (by have := HBW.out.size; simp; omega))).mono hB, v, rfl, hf⟩
/-- A region that is left as its world's heap alone tells. -/
theorem cell_heap {a b : World} {p : Addr} {v : Value} (h : a.cell? p = some v) (hh : b.heap = a.heap) : b.cell? p = some v := by
  unfold World.cell? at h ⊢
  rw [hh]; exact h
set_option maxHeartbeats 12800000 in
set_option maxRecDepth 100000 in
theorem directive_go (B : Nat) (s : PS) (p : PV) (t : Tok) (n f g : Nat) (w : World) (h : ParR B w s p) (hB : B ≤ w.heap.size) (hg : Glb w) (hal : t.text.length ≤ 1000000) (hpn : s.para = none) (hD : DirH B s p t n f g) (hm : s.may n = true) (hn : ∀ t, s.cur = some t → t.blks.length ≤ 4000000 ∧ bytesF t.blks ≤ 4000000000000) (hsr : s.shortRow n = false) :
    Calls Tryz.prog 14 #[parP p, tokV t] w (DoPost B p.b p.vm (match (if n = 1 ∨ n = 2 then s.close else .ok s) with
      | .error e => .error e
      | .ok s => s.do_ t (tidyF t.text) n) w) := by
  obtain ⟨R, hRR⟩ : ∃ R, s.do_ t (tidyF t.text) n = R := ⟨_, rfl⟩
  obtain ⟨RES, hRES⟩ : ∃ r : Except Flt PS, (match (if n = 1 ∨ n = 2 then s.close else .ok s) with
      | .error e => .error e
      | .ok s => s.do_ t (tidyF t.text) n) = r := ⟨_, rfl⟩
  have hr1 : (n = 1 ∨ n = 2) → ∀ e, s.close = .error e → RES = .error e := fun h1 e h2 => by rw [← hRES, if_pos h1, h2]
  have hr2 : (n = 1 ∨ n = 2) → ∀ s1, s.close = .ok s1 → RES = R := fun h1 s1 h2 => by rw [← hRES, if_pos h1, h2, close_ok h2]; exact hRR
  have hr3 : ¬ (n = 1 ∨ n = 2) → RES = R := fun h1 => by rw [← hRES, if_neg h1]; exact hRR
  rw [hRES]
  clear hRES
  obtain ⟨c0, c1, c2, c3, c4, c5, cf⟩ := par_cells h
  have hpl := h.lt
  obtain ⟨pa, pc, hv⟩ := owns_slice h.para
  rw [hv, hpn] at c4
  simp only [Option.toList_none, List.length_nil] at c4
  obtain ⟨r, hvm, hmo⟩ := h.map
  have hlook := fun W hW => hD.look W r hW
  rw [hvm] at c0
  have hmap : ∀ W, Below w.heap.size w W → W.heap[r]? = some ordO := fun W hb => by rw [hb.block r (lt_of_heap hmo)]; exact hmo
  have hbx := (Below.refl w.heap.size w).alloc (Nat.le_refl _) (.cells #[.int .i64 t.kind, .string ⟨t.name.toArray⟩, .string ⟨t.text.toArray⟩, .int .i64 t.line, .int .i64 t.col] 59)
  have hbo := hbx.alloc (by simp) (.cells #[.nilFunc, .nilFunc] 95)
  have hbp := (hbx.drew).alloc (by simp) (.cells #[.nilFunc, .nilFunc] 95)
  have hk1 := hlook _ (hmap _ hbx)
  have hk2 := hlook _ (hmap _ hbx.drew)
  have hk3 := hlook _ (hmap _ hbo)
  have hk4 := hlook _ (hmap _ hbo.drew)
  have hk5 := hlook _ (hmap _ hbp)
  clear hlook hmap hbx hbo hbp
  have qs0 : (((w.alloc (.cells #[.int .i64 t.kind, .string ⟨t.name.toArray⟩, .string ⟨t.text.toArray⟩, .int .i64 t.line, .int .i64 t.col] 59)).alloc (.cells #[.nilFunc, .nilFunc] 95)).drew).cell? ⟨w.heap.size + 1, 0, none⟩ = some .nilFunc := by simp
  have qs1 : (((w.alloc (.cells #[.int .i64 t.kind, .string ⟨t.name.toArray⟩, .string ⟨t.text.toArray⟩, .int .i64 t.line, .int .i64 t.col] 59)).alloc (.cells #[.nilFunc, .nilFunc] 95)).drew).cell? ⟨w.heap.size + 1, 1, none⟩ = some .nilFunc := by simp
  have qf0 : ∀ i, (((w.alloc (.cells #[.int .i64 t.kind, .string ⟨t.name.toArray⟩, .string ⟨t.text.toArray⟩, .int .i64 t.line, .int .i64 t.col] 59)).alloc (.cells #[.nilFunc, .nilFunc] 95)).drew).frozen? ⟨w.heap.size + 1, i, none⟩ = false := fun i => by simp
  have HX := Lib.hid h
  have HBW : Hid (Below w.heap.size w ((w.alloc (.cells #[.int .i64 t.kind, .string ⟨t.name.toArray⟩, .string ⟨t.text.toArray⟩, .int .i64 t.line, .int .i64 t.col] 59)).alloc (.cells #[.func (.func f) #[] #[], .func (.func g) #[] #[]] 95)).drew) := Lib.hid ((((Below.refl w.heap.size w).alloc (Nat.le_refl _) _).alloc (by simp) _).drew)
  have hef := hD.ef
  have heg := hD.eg
  clear hv hpn hmo c1 c2 c3 c5
  have hM := hD.may
  rw [hm] at hM
  have HM := Lib.hid hM
  have HDO := Lib.hid (hD.does hm)
  have HG := Lib.hid hg
  have hR := hD.nR
  have hE := hD.nE
  have hT := hD.nT
  have hN := hD.nN
  rw [hRR] at HDO
  clear hRR
  have HTI := Lib.hid (fun w => tidy_any t.text w hal)
  have HRES := Lib.hid (And.intro hr1 (And.intro hr2 hr3))
  clear hr1 hr2 hr3
  obtain ⟨LP, hLP⟩ : ∃ v, lastP s p = v := ⟨_, rfl⟩
  have hLC := fun W (hb : Below w.heap.size w W) => last_any B s p W (h.new hb)
  rw [hLP] at hLC
  have HLC := Lib.hid hLC
  have hcs : LP = .pointer none ∨ ∃ l, LP = .pointer (some ⟨p.q, p.r, none⟩) ∧ s.last = some l ∧ (l.table ≠ 1 ∨ (n ≠ 10 ∧ n ≠ 11) ∨ (l.table = 1 ∧ (n = 10 ∨ n = 11) ∧ ¬ 0 < l.rows) ∨ (l.table = 1 ∧ (n = 10 ∨ n = 11) ∧ 0 < l.rows ∧ ¬ l.cells < l.widths)) := by
    cases hl : s.last with
    | none => left; rw [← hLP, lastP_none hl]
    | some l =>
      right
      refine ⟨l, by rw [← hLP, lastP_some hl], rfl, ?_⟩
      unfold PS.shortRow at hsr
      rw [hl] at hsr
      simp only [Bool.and_eq_false_iff, Bool.or_eq_false_iff, beq_eq_false_iff_ne, decide_eq_false_iff_not] at hsr
      by_cases q1 : l.table = 1
      · by_cases q2 : n = 10 ∨ n = 11
        · by_cases q3 : 0 < l.rows
          · right; right; right
            refine ⟨q1, q2, q3, ?_⟩
            rcases hsr with ((h1 | ⟨h2, h3⟩) | h4) | h5
            · exact (h1 q1).elim
            · rcases q2 with q2 | q2
              · exact (h2 q2).elim
              · exact (h3 q2).elim
            · exact (h4 q3).elim
            · exact h5
          · exact .inr (.inr (.inl ⟨q1, q2, q3⟩))
        · exact .inr (.inl ⟨fun e => q2 (.inl e), fun e => q2 (.inr e)⟩)
      · exact .inl q1
  have HCS := Lib.hid hcs
  obtain ⟨bR, hbR⟩ : ∃ b, (n == 10) = b := ⟨_, rfl⟩
  obtain ⟨bE, hbE⟩ : ∃ b, (n == 11) = b := ⟨_, rfl⟩
  obtain ⟨bT, hbT⟩ : ∃ b, (n == 1) = b := ⟨_, rfl⟩
  obtain ⟨bN, hbN⟩ : ∃ b, (n == 2) = b := ⟨_, rfl⟩
  rw [hbR] at hR
  rw [hbE] at hE
  rw [hbT] at hT
  rw [hbN] at hN
  have HbR := Lib.hid hbR
  have HbE := Lib.hid hbE
  have HbT := Lib.hid hbT
  have HbN := Lib.hid hbN
  clear hLC hLP hcs hM hD h hm hg hsr hbR hbE hbT hbN hal
  go_enter Tryz.func14, Tryz.ntmps14
  go_upto_region 3 with fail
  go_cut [4, 5] (fun s4 s5 wx => s4 = .pointer (some ⟨w.heap.size + 1, 0, none⟩) ∧ s5 = .bool true ∧ wx = ((w.alloc (.cells #[.int .i64 t.kind, .string ⟨t.name.toArray⟩, .string ⟨t.text.toArray⟩, .int .i64 t.line, .int .i64 t.col] 59)).alloc (.cells #[.func (.func f) #[] #[], .func (.func g) #[] #[]] 95)).drew)
  case first =>
    go_region
    all_goals
      go_wp2_with fail
      go_meet
      exact ⟨rfl, rfl, rfl⟩
  case rest =>
    obtain ⟨w2, hw2⟩ : ∃ W, W = wc := ⟨wc, rfl⟩
    subst hw2
    obtain ⟨rfl, rfl, hwc⟩ := hcut
    have dt0 : w2.cell? ⟨w.heap.size, 0, none⟩ = some (.int .i64 t.kind) := by rw [hwc]; simp
    have dt1 : w2.cell? ⟨w.heap.size, 1, none⟩ = some (.string ⟨t.name.toArray⟩) := by rw [hwc]; simp
    have dt2 : w2.cell? ⟨w.heap.size, 2, none⟩ = some (.string ⟨t.text.toArray⟩) := by rw [hwc]; simp
    have dt3 : w2.cell? ⟨w.heap.size, 3, none⟩ = some (.int .i64 t.line) := by rw [hwc]; simp
    have dt4 : w2.cell? ⟨w.heap.size, 4, none⟩ = some (.int .i64 t.col) := by rw [hwc]; simp
    have du0 : w2.cell? ⟨w.heap.size + 1, 0, none⟩ = some (.func (.func f) #[] #[]) := by rw [hwc]; simp
    have du1 : w2.cell? ⟨w.heap.size + 1, 1, none⟩ = some (.func (.func g) #[] #[]) := by rw [hwc]; simp
    have hsz : w.heap.size + 1 < w2.heap.size := by rw [hwc]; simp
    rw [← hwc] at HBW
    clear hwc hk1 hk2 hk3 hk4 hk5 qs0 qs1 qf0
    go_upto_region 7 with (first
      | (go_at_fn f; refine (HM.out _ (HX.out.new HBW.out)).mono ?_; rintro e w3 ⟨rfl, k3, rfl⟩)
      | (go_at_call 44; refine (HLC.out _ (below_drewM HBW.out _)).mono ?_; rintro e w4 ⟨rfl, rfl⟩)
      | fail)
    go_cut [79] (fun s79 wx => s79 = .bool false ∧ Hid (Below w.heap.size w wx ∧ wx.heap = w2.heap))
    case first =>
      have hWB : ∀ k, Below w.heap.size w (w2.drewN k) := fun k => below_drewM HBW.out k
      have HWB := Lib.hid hWB
      clear hWB
      rcases HCS.out with rfl | ⟨l, rfl, hl, hq⟩
      · go_quiet (fail)
        go_wp2_with fail
        go_meet
        first | exact ⟨rfl, Lib.hid ⟨HWB.out _, rfl⟩⟩ | exact ⟨rfl, Lib.hid ⟨below_drewM (HWB.out _) _, rfl⟩⟩
      · obtain ⟨cap, -, -, d0, d1, d2, d3, d4, -⟩ := lvl_cells (HX.out.new HBW.out) hl
        have a1 : ((l.table : Int) == 1) = (l.table == 1) := by rw [Bool.eq_iff_iff]; simp; omega
        have a2 : decide ((0 : Int) < (l.rows : Int)) = decide (0 < l.rows) := by congr 1; simp
        have a3 : decide ((l.cells : Int) < (l.widths : Int)) = decide (l.cells < l.widths) := by congr 1; simp
        obtain ⟨x1, hx1⟩ : ∃ x, (l.table == 1) = x := ⟨_, rfl⟩
        obtain ⟨x2, hx2⟩ : ∃ x, decide (0 < l.rows) = x := ⟨_, rfl⟩
        obtain ⟨x3, hx3⟩ : ∃ x, decide (l.cells < l.widths) = x := ⟨_, rfl⟩
        have hsub : x1 = false ∨ (x1 = true ∧ bR = false ∧ bE = false) ∨ (x1 = true ∧ bR = true ∧ x2 = false) ∨ (x1 = true ∧ bR = false ∧ bE = true ∧ x2 = false) ∨ (x1 = true ∧ bR = true ∧ x2 = true ∧ x3 = false) ∨ (x1 = true ∧ bR = false ∧ bE = true ∧ x2 = true ∧ x3 = false) := by
          have h1 := HbR.out
          have h2 := HbE.out
          subst hx1 hx2 hx3 h1 h2
          simp only [beq_iff_eq, beq_eq_false_iff_ne, decide_eq_true_eq, decide_eq_false_iff_not]
          omega
        rw [hx1] at a1
        rw [hx2] at a2
        rw [hx3] at a3
        clear hl hq hx1 HCS HbR HbE
        rcases hsub with rfl | ⟨rfl, rfl, rfl⟩ | ⟨rfl, rfl, rfl⟩ | ⟨rfl, rfl, rfl, rfl⟩ | ⟨rfl, rfl, rfl, rfl⟩ | ⟨rfl, rfl, rfl, rfl, rfl⟩
        all_goals
          go_quiet (fail)
          go_wp2_with fail
          go_meet
          first | exact ⟨rfl, Lib.hid ⟨HWB.out _, rfl⟩⟩ | exact ⟨rfl, Lib.hid ⟨below_drewM (HWB.out _) _, rfl⟩⟩
    case rest =>
      obtain ⟨w5, hw5⟩ : ∃ W, W = wc := ⟨wc, rfl⟩
      subst hw5
      obtain ⟨rfl, hcut⟩ := hcut
      obtain ⟨hb5, hh5⟩ := hcut.out
      replace dt0 := cell_heap dt0 hh5
      replace dt1 := cell_heap dt1 hh5
      replace dt2 := cell_heap dt2 hh5
      replace dt3 := cell_heap dt3 hh5
      replace dt4 := cell_heap dt4 hh5
      replace du1 := cell_heap du1 hh5
      have HB5 := Lib.hid hb5
      have hsz5 : w.heap.size + 1 < w5.heap.size := by rw [hh5]; exact hsz
      clear hb5 hh5 hcut du0 hsz HBW HM HLC HCS HbR HbE hef
      obtain ⟨bb, hbb⟩ : ∃ b, (bT || bN) = b := ⟨_, rfl⟩
      have HX5 := Lib.hid (HX.out.new HB5.out)
      have hC := close_any B s p w5 HX5.out (by omega) hn
      have HN12 : Hid ((bb = true → (n = 1 ∨ n = 2)) ∧ (bb = false → ¬ (n = 1 ∨ n = 2))) := Lib.hid (by
        have h1 := HbT.out
        have h2 := HbN.out
        subst hbb h1 h2
        simp only [Bool.or_eq_true, Bool.or_eq_false_iff, beq_iff_eq, beq_eq_false_iff_ne]
        omega)
      have HC := Lib.hid hC
      clear HbT HbN hC
      go_upto_region 9 with fail
      go_cut [89] (fun s89 wx => s89 = .bool bb ∧ wx = w5)
      case first =>
        cases bT <;> cases bN
        all_goals
          simp only [Bool.or_false, Bool.or_true, Bool.or_self] at hbb
          subst hbb
          go_wp2_with fail
          go_meet
          exact ⟨rfl, rfl⟩
      case rest =>
        obtain ⟨rfl, rfl⟩ := hcut
        clear hT hN hbb
        go_upto_if 89 with fail
        go_cut [] (fun wx => Hid (RES = R ∧ Below w.heap.size w wx) ∧ wx.cell? ⟨w.heap.size, 0, none⟩ = some (.int .i64 t.kind) ∧ wx.cell? ⟨w.heap.size, 1, none⟩ = some (.string ⟨t.name.toArray⟩) ∧ wx.cell? ⟨w.heap.size, 2, none⟩ = some (.string ⟨t.text.toArray⟩) ∧ wx.cell? ⟨w.heap.size, 3, none⟩ = some (.int .i64 t.line) ∧ wx.cell? ⟨w.heap.size, 4, none⟩ = some (.int .i64 t.col) ∧ wx.cell? ⟨w.heap.size + 1, 1, none⟩ = some (.func (.func g) #[] #[]))
        case first =>
          cases bb with
          | false =>
            have hRe := HRES.out.2.2 (HN12.out.2 rfl)
            go_wp2_with fail
            go_meet
            exact ⟨Lib.hid ⟨hRe, HB5.out⟩, dt0, dt1, dt2, dt3, dt4, du1⟩
          | true =>
            have hC := HC.out
            unfold ClosePost at hC
            cases hce : s.close with
            | error fe =>
              have hRe := Lib.hid (HRES.out.1 (HN12.out.1 rfl) fe hce)
              rw [hce] at hC
              have HC2 := Lib.hid hC
              clear hC hce
              go_wp2_with (first
                | (go_at_call 53; refine HC2.out.mono ?_; rintro e w7 ⟨hb7, v, rfl, hf⟩)
                | fail)
              refine ⟨rfl, ?_⟩
              rw [hRe.out]
              exact ⟨(HB5.out.trans (hb7.mono HB5.out.size)).mono hB, v, rfl, hf⟩
            | ok s1 =>
              have hRe := Lib.hid (HRES.out.2.1 (HN12.out.1 rfl) s1 hce)
              rw [hce] at hC
              have HC2 := Lib.hid hC
              clear hC hce
              go_wp2_with (first
                | (go_at_call 53; refine HC2.out.mono ?_; rintro e w7 ⟨hb7, rfl⟩; have HB7 := Lib.hid hb7; clear hb7)
                | fail)
              go_meet
              exact ⟨Lib.hid ⟨hRe.out, HB5.out.trans (HB7.out.mono HB5.out.size)⟩, (HB7.out.cell (p := ⟨w.heap.size, 0, none⟩) (by simp only; omega)).trans dt0, (HB7.out.cell (p := ⟨w.heap.size, 1, none⟩) (by simp only; omega)).trans dt1, (HB7.out.cell (p := ⟨w.heap.size, 2, none⟩) (by simp only; omega)).trans dt2, (HB7.out.cell (p := ⟨w.heap.size, 3, none⟩) (by simp only; omega)).trans dt3, (HB7.out.cell (p := ⟨w.heap.size, 4, none⟩) (by simp only; omega)).trans dt4, (HB7.out.cell (p := ⟨w.heap.size + 1, 1, none⟩) (by simp only; omega)).trans du1⟩
        case rest =>
          obtain ⟨w7, hw7⟩ : ∃ W, W = wc := ⟨wc, rfl⟩
          subst hw7
          obtain ⟨hcut, dv0, dv1, dv2, dv3, dv4, dv5⟩ := hcut
          have hRe := hcut.out.1.symm
          have HB7 := Lib.hid hcut.out.2
          have hsz7 : w.heap.size + 1 < w7.heap.size := by rcases Nat.lt_or_ge (w.heap.size + 1) w7.heap.size with h | h; exact h; simp [World.cell?, Array.getElem?_eq_none h] at dv5
          clear hcut HRES HC dt0 dt1 dt2 dt3 dt4 du1 HN12
          subst hRe
          go_wp2_with fail
          go_region_with (first
            | (go_at_call 54; refine (HTI.out _).mono ?_; rintro e wt ⟨rfl, hbt⟩; have HBT : Hid (Below w7.heap.size w7 wt) := Lib.hid (by first | exact hbt | exact ((Below.refl _ _).drew).trans hbt); have dx0 : wt.cell? ⟨w.heap.size, 0, none⟩ = some (.int .i64 t.kind) := (HBT.out.cell (p := ⟨w.heap.size, 0, none⟩) (show w.heap.size < w7.heap.size by omega)).trans dv0; have dx1 : wt.cell? ⟨w.heap.size, 1, none⟩ = some (.string ⟨t.name.toArray⟩) := (HBT.out.cell (p := ⟨w.heap.size, 1, none⟩) (show w.heap.size < w7.heap.size by omega)).trans dv1; have dx2 : wt.cell? ⟨w.heap.size, 2, none⟩ = some (.string ⟨t.text.toArray⟩) := (HBT.out.cell (p := ⟨w.heap.size, 2, none⟩) (show w.heap.size < w7.heap.size by omega)).trans dv2; have dx3 : wt.cell? ⟨w.heap.size, 3, none⟩ = some (.int .i64 t.line) := (HBT.out.cell (p := ⟨w.heap.size, 3, none⟩) (show w.heap.size < w7.heap.size by omega)).trans dv3; have dx4 : wt.cell? ⟨w.heap.size, 4, none⟩ = some (.int .i64 t.col) := (HBT.out.cell (p := ⟨w.heap.size, 4, none⟩) (show w.heap.size < w7.heap.size by omega)).trans dv4; have dx5 : wt.cell? ⟨w.heap.size + 1, 1, none⟩ = some (.func (.func g) #[] #[]) := (HBT.out.cell (p := ⟨w.heap.size + 1, 1, none⟩) (show w.heap.size + 1 < w7.heap.size by omega)).trans dv5; clear hbt)
            | (go_at_fn g
               refine (HDO.out _ (HX.out.new (HB7.out.trans (HBT.out.mono HB7.out.size))) (by have := HBT.out.size; omega) (HG.out.below (HB7.out.trans (HBT.out.mono HB7.out.size)))).mono ?_
               rintro e w8 ⟨hb8, hm8⟩
               rcases R with fe | s2
               rotate_left
               obtain ⟨rfl, hp8⟩ := hm8
               rotate_left
               (obtain ⟨v, rfl, hf⟩ := hm8
                exact ⟨rfl, ((HB7.out.trans (HBT.out.mono HB7.out.size)).mono hB).trans hb8, v, rfl, hf⟩))
            | fail)
          all_goals
            go_wp2_with fail
            go_end0
            exact ⟨((HB7.out.trans (HBT.out.mono HB7.out.size)).mono hB).trans hb8, rfl, hp8⟩
end Go.Proofs.YtafhmagifoapfaaGreatDoor
