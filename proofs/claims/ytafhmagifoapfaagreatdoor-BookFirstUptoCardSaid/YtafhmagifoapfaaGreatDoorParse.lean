/- src.Parse: what its rounds come to. -/
import Derived.Test.YtafhmagifoapfaaGreatDoorPars
import Derived.Test.YtafhmagifoapfaaGreatDoorCatch
namespace Go.Proofs.YtafhmagifoapfaaGreatDoor
open Go.RowKit Find Bk
/-- How Parse ends. -/
def ParseEnd (T : Wd) (w : World) (e : Ending) (w' : World) : Prop := Below w.heap.size w w' ∧ (match parseM T with
  | none => ∃ a n c a2 n2 c2, e = .returned (.tuple #[.agg #[.slice a n c, .slice a2 n2 c2], .nilIface])
  | some (f, true) => ∃ v u, e = .returned (.tuple #[.agg #[.slice none 0 0, .slice none 0 0], v]) ∧ MarkV w' v [109, 97, 114, 107] 0 u ∧ FltV w' u f
  | some (f, false) => ∃ v, e = .returned (.tuple #[.agg #[.slice none 0 0, .slice none 0 0], v]) ∧ FltV w' v f)
theorem ToksAt.take {w : World} {a : Option Addr} {c : Nat} {l : List Tok} (h : ToksAt w a c l) (k : Nat) : ToksAt w a c (l.take k) := by
  refine ⟨Nat.le_trans (List.length_take_le' _ _) h.cap, fun t r e => ?_⟩
  obtain ⟨t0, r0, hl⟩ : ∃ t r, l = t :: r := by
    cases l with
    | nil => simp at e
    | cons t r => exact ⟨t, r, rfl⟩
  obtain ⟨g, o, ha, hg, hcl⟩ := h.at_ t0 r0 hl
  refine ⟨g, o, ha, hg, fun j x hj i hi => hcl j x ?_ i hi⟩
  rw [List.getElem?_take] at hj
  split at hj
  · exact hj
  · cases hj
/-- The first tokens of a slice, as the machine cuts it. -/
theorem slice_upto (g o n c k : Nat) (hk : k ≤ n) (hc : n ≤ c) (W : World) : (Instr.slice 45 (.slice (some ⟨g, o, none⟩) n c) none (some (.int .i64 k)) none).run Tryz.prog W = .ok (.slice (some ⟨g, o, none⟩) k c) W := by
  have hu : Tryz.prog.underlying 45 = some (.slice 59) := by kernel_rfl
  have hsz : (sizeOf 59).run Tryz.prog W = .ok 5 W := by kernel_rfl
  have h1 : (0 : Int) ≤ (k : Int) ∧ (k : Int) ≤ (c : Int) := by omega
  unfold Instr.slice
  simp only [Sem.run_bind, run_underlying hu, Result.andThen_ok, Instr.sliceBounds, Instr.sliceBound, asIntOf, Sem.run_pure, h1, if_true, and_self, hsz]
  simp [Addr.add]
/-- A paragraph: what it makes of the parser, or its fault. -/
theorem paragraph_any (w0 : World) (s : PS) (p : PV) (a : Option Addr) (c : Nat) (t : Tok) (r : List Tok) (w : World) (h : ParR w0.heap.size w s p) (hat : ToksAt w0 a c (t :: r)) (hbw : Below w0.heap.size w0 w)
    (hx : ∀ x ∈ t :: r, x.text.length ≤ 1000000) (hd : (dep 0 (t :: r)).isSome = true) (hL : (t :: r).length ≤ 1000000) (m : Nat) (hI : s.Inv m) (hm6 : m ≤ 1000000) :
    Calls Tryz.prog 15 #[parP p, .slice a (t :: r).length c] w (DoPost w0.heap.size p.b p.vm (s.paragraph (t :: r)) w) := by
  cases hm : s.mayPara with
  | false =>
    rw [show s.paragraph (t :: r) = .error ⟨if s.inRow then 54 else 52, t.line, t.col, []⟩ from by unfold PS.paragraph; simp only [hm, if_true]]
    exact paragraph_out w0 s p a c t r w h hat hbw hm
  | true =>
    exact paragraph_in w0 s p a c t r w h hat hbw hm hx hd hL (fun tp htp => by have := (hI.cur tp htp).2.2.1; omega) (fun l hl => by have := (hI.lv l hl).2.2; omega)
theorem parseL_dir {f : Nat} {s : PS} {t : Tok} {r : List Tok} (h : t.kind = 1) : parseL (f + 1) s (t :: r) = match s.directive t with
    | .ok s => parseL f s r
    | .error e => .error e := by
  conv => lhs; unfold parseL
  simp only [h, if_true]
  rfl
theorem parseL_gap {f : Nat} {s : PS} {t : Tok} {r : List Tok} (h : t.kind = 2) : parseL (f + 1) s (t :: r) = parseL f s r := by
  conv => lhs; unfold parseL
  simp only [h]
  rfl
theorem parseL_run {f : Nat} {s : PS} {t : Tok} {r : List Tok} (h1 : t.kind ≠ 1) (h2 : t.kind ≠ 2) : parseL (f + 1) s (t :: r) = match s.paragraph (t :: r.take (runLen r)) with
    | .ok s => parseL f s (r.drop (runLen r))
    | .error e => .error e := by
  conv => lhs; unfold parseL
  simp only [h1, h2, if_false]
  rw [Nat.add_comm 1 (runLen r), List.take_succ_cons, List.drop_succ_cons]
  rfl
/-- What is left when the results were laid: two cells, one cell. -/
structure StoredW (s e : Nat) (x y v : Value) (w w' : World) : Prop where
  bel : ∀ B, B ≤ s → B ≤ e → Below B w w'
  size : w'.heap.size = w.heap.size
  old : ∀ k, k ≠ s → k ≠ e → w'.heap[k]? = w.heap[k]?
  c0 : w'.cell? ⟨s, 0, none⟩ = some x
  c1 : w'.cell? ⟨s, 1, none⟩ = some y
  c2 : w'.cell? ⟨e, 0, none⟩ = some v
  s0 : w'.heap[s]? = some (.cells #[x, y] 28 (0, 0))
  e0 : w'.heap[e]? = some (.cells #[v] 30 (0, 0))
theorem stored_world {s e : Nat} {a b c x y v : Value} {w : World} (hs : w.heap[s]? = some (.cells #[a, b] 28 (0, 0))) (he : w.heap[e]? = some (.cells #[c] 30 (0, 0))) :
    StoredW s e x y v w (((w.setCell ⟨s, 0, none⟩ x).setCell ⟨s, 1, none⟩ y).setCell ⟨e, 0, none⟩ v) := by
  have hne : s ≠ e := fun h => by rw [h, he] at hs; cases hs
  have h1 : (((w.setCell ⟨s, 0, none⟩ x).setCell ⟨s, 1, none⟩ y).setCell ⟨e, 0, none⟩ v).heap[s]? = some (.cells #[x, y] 28 (0, 0)) := by
    rw [setCell_heap_ne' hne.symm, setCell_heap' (setCell_heap' hs _) _]; rfl
  have h2 : (((w.setCell ⟨s, 0, none⟩ x).setCell ⟨s, 1, none⟩ y).setCell ⟨e, 0, none⟩ v).heap[e]? = some (.cells #[v] 30 (0, 0)) := by
    rw [setCell_heap' (b := e) (c := #[c]) (by rw [setCell_heap_ne' hne, setCell_heap_ne' hne]; exact he) _]; rfl
  refine ⟨fun B hb1 hb2 => (((Below.refl B w).setCell hb1 _).setCell hb1 _).setCell hb2 _, by simp, fun k h3 h4 => ?_, ?_, ?_, ?_, h1, h2⟩
  · rw [setCell_heap_ne' (Ne.symm h4), setCell_heap_ne' (Ne.symm h3), setCell_heap_ne' (Ne.symm h3)]
  · rw [cell_of_heap h1]; rfl
  · rw [cell_of_heap h1]; rfl
  · rw [cell_of_heap h2]; rfl
theorem FltV.old {w w' : World} {v : Value} {f : Flt} {s e : Nat} {a b c : Value} (h : FltV w v f) (hs : w.heap[s]? = some (.cells #[a, b] 28 (0, 0))) (he : w.heap[e]? = some (.cells #[c] 30 (0, 0)))
    (ho : ∀ k, k < w.heap.size → k ≠ s → k ≠ e → w'.heap[k]? = w.heap[k]?) : FltV w' v f := by
  obtain ⟨g, hv, hg⟩ := h
  exact ⟨g, hv, by rw [ho g (lt_of_heap hg) (fun h => by rw [h, hs] at hg; cases hg) (fun h => by rw [h, he] at hg; cases hg)]; exact hg⟩
theorem MarkV.old {w w' : World} {v u : Value} {n : Wd} {k : Nat} {s e : Nat} {a b c : Value} (h : MarkV w v n k u) (hs : w.heap[s]? = some (.cells #[a, b] 28 (0, 0))) (he : w.heap[e]? = some (.cells #[c] 30 (0, 0)))
    (ho : ∀ k, k < w.heap.size → k ≠ s → k ≠ e → w'.heap[k]? = w.heap[k]?) : MarkV w' v n k u := by
  obtain ⟨g, hv, hg⟩ := h
  exact ⟨g, hv, by rw [ho g (lt_of_heap hg) (fun h => by rw [h, hs] at hg; cases hg) (fun h => by rw [h, he] at hg; cases hg)]; exact hg⟩
theorem two_blocks (w : World) (o1 o2 : Obj) : ((w.alloc o1).alloc o2).heap[w.heap.size]? = some o1 ∧ ((w.alloc o1).alloc o2).heap[w.heap.size + 1]? = some o2 :=
  ⟨(((Below.refl (w.heap.size + 1) _).alloc (by simp) _).block w.heap.size (by omega)).trans (heap_alloc_new w o1), two_newM w o1 o2⟩
/-- How far Parse has come. -/
structure PRel (w1 : World) (L : List Tok) (b : Nat) (ts : List Tok) (a : Option Addr) (c : Nat) (s : PS) (p : PV) (f : Nat) (wr : World) : Prop where
  at_ : ToksAt w1 a c ts
  par : ParR w1.heap.size wr s p
  pb : p.b = b
  eq : parseL (L.length + 1) PS.zero L = parseL f s ts
  fuel : ts.length < f
  bel : Below w1.heap.size w1 wr
  inv : s.Inv (2 * (L.length - ts.length))
  len : ts.length ≤ L.length
  dep : dep 0 ts = some 0
  txt : ∀ x ∈ ts, x.text.length ≤ 600000
/-- The parser when Parse begins. -/
def PV.new (n : Nat) : PV := ⟨n + 1, 0, 0, 0, 0, .map (some n), .slice none 0 0, .slice none 0 0, .slice none 0 0, .slice none 0 0, .slice none 0 0, .slice none 0 0, .slice none 0 0⟩
theorem parR_new (w1 : World) : ParR w1.heap.size ((w1.alloc ordO).alloc (.cells (PV.new w1.heap.size).cells 57)) PS.zero (PV.new w1.heap.size) := by
  have hb : Below w1.heap.size w1 ((w1.alloc ordO).alloc (.cells (PV.new w1.heap.size).cells 57)) := ((Below.refl _ _).alloc (Nat.le_refl _) _).alloc (by simp) _
  refine ⟨two_newM w1 _ _, ⟨w1.heap.size, rfl, ?_⟩, Nat.le_succ _, ⟨[], World.ownsRow_nil _ _ _ _⟩, fun _ => ⟨rfl, rfl⟩, (fun t ht => by cases ht), World.ownsRow_nil _ _ _ _, fun e => (e rfl).elim, World.ownsRow_nil _ _ _ _⟩
  exact (((Below.refl (w1.heap.size + 1) _).alloc (by simp) _).block w1.heap.size (by omega)).trans (heap_alloc_new w1 _)
end Go.Proofs.YtafhmagifoapfaaGreatDoor
namespace Go.Proofs.YtafhmagifoapfaaGreatDoor
open Go.RowKit Find Bk
attribute [local go_sem ↓] Go.wp_at_zero Go.wp_at_succ
abbrev S0 : Obj := .cells #[.slice none 0 0, .slice none 0 0] 28
abbrev E0 : Obj := .cells #[.nilIface] 30
set_option maxHeartbeats 3200000 in
set_option maxRecDepth 100000 in
theorem parse_lex (T : Wd) (w : World) (hg : Glb w) (hT : T.length ≤ 1000000) (f : Flt) (hl : lexM T = .error f) :
    Calls Tryz.prog 6 #[.string ⟨T.toArray⟩] w (ParseEnd T w) := by
  have HP := Lib.hid (show parseM T = some (f, true) from by unfold parseM; rw [hl])
  have hLX := fun (W : World) (hb : Below w.heap.size w W) => lex_any T W (hg.below hb) hT
  unfold LexEnd at hLX
  simp only [hl] at hLX
  have HLX := Lib.hid hLX
  have hmf : ∀ (fn : Fn) (first cap : Array Value) (w : World), (Instr.makeFunc fn first cap).run Tryz.prog w = .ok (.func fn first cap) w := fun _ _ _ _ => rfl
  clear hLX hg hl
  go_enter_defers Tryz.func6, Tryz.ntmps6
  go_wp2_with (first
    | (go_at_call 10; refine (HLX.out _ (((Below.refl _ _).alloc (Nat.le_refl _) _).alloc (by simp) _)).mono ?_; rintro e w1 ⟨hb1, v, rfl, g, rfl, hgg⟩)
    | (go_at_call 11
       refine (under_any 68 (some ⟨g, 0, none⟩) [109, 97, 114, 107] 0 w1).mono ?_
       rintro e w2 ⟨v2, rfl, ⟨mb, rfl, hmb⟩, hb2⟩
       obtain ⟨t1, t2⟩ := two_blocks w S0 E0
       have hS2 : w2.heap[w.heap.size]? = some S0 := (hb2.block _ (Nat.lt_of_lt_of_le (by simp; omega) hb1.size)).trans ((hb1.block _ (by simp; omega)).trans t1)
       have hE2 : w2.heap[w.heap.size + 1]? = some E0 := (hb2.block _ (Nat.lt_of_lt_of_le (by simp) hb1.size)).trans ((hb1.block _ (by simp)).trans t2)
       have cs0 : w2.cell? ⟨w.heap.size, 0, none⟩ = some (.slice none 0 0) := (by rw [cell_of_heap hS2]; rfl)
       have cs1 : w2.cell? ⟨w.heap.size, 1, none⟩ = some (.slice none 0 0) := (by rw [cell_of_heap hS2]; rfl)
       have ce0 : w2.cell? ⟨w.heap.size + 1, 0, none⟩ = some .nilIface := (by rw [cell_of_heap hE2]; rfl)
       have fs : ∀ i, w2.frozen? ⟨w.heap.size, i, none⟩ = false := (fun i => free_of_heap hS2)
       have fe : ∀ i, w2.frozen? ⟨w.heap.size + 1, i, none⟩ = false := (fun i => free_of_heap hE2)
       have HF : Hid (MarkV w2 (.iface 87 (.pointer (some ⟨mb, 0, none⟩))) [109, 97, 114, 107] 0 (.iface 68 (.pointer (some ⟨g, 0, none⟩))) ∧ FltV w2 (.iface 68 (.pointer (some ⟨g, 0, none⟩))) f) := Lib.hid ⟨⟨mb, rfl, hmb⟩, (show FltV w1 _ f from ⟨g, rfl, hgg⟩).new hb2⟩
       have HB2 : Hid (Below w.heap.size w w2) := Lib.hid ((((Below.refl w.heap.size w).alloc (Nat.le_refl _) S0).alloc (by simp) E0).trans ((hb1.mono (by simp; omega)).trans (hb2.mono (Nat.le_trans (by simp; omega) hb1.size))))
       have HS2 := Lib.hid hS2
       have HE2 := Lib.hid hE2
       have hlt2 := lt_of_heap hE2
       clear hS2 hE2 hb1 hb2 hmb hgg t1 t2)
    | fail)
  have hst := stored_world (x := .slice none 0 0) (y := .slice none 0 0) (v := .iface 87 (.pointer (some ⟨mb, 0, none⟩))) HS2.out HE2.out
  refine ⟨.tuple #[.agg #[.slice none 0 0, .slice none 0 0], .iface 87 (.pointer (some ⟨mb, 0, none⟩))], ?_, ?_⟩
  · have q0 := hst.c0
    have q1 := hst.c1
    have q2 := hst.c2
    simp [results, Tryz.results6, go_sem, q0, q1, q2]
  · refine ⟨HB2.out.trans (hst.bel _ (Nat.le_refl _) (Nat.le_succ _)), ?_⟩
    rw [HP.out]
    exact ⟨_, _, rfl, HF.out.1.old HS2.out HE2.out (fun k _ => hst.old k), HF.out.2.old HS2.out HE2.out (fun k _ => hst.old k)⟩
theorem runLen_run {t : Tok} {r : List Tok} (h : ¬ (t.kind = 1 ∨ t.kind = 2)) : runLen (t :: r) = runLen r + 1 := by
  show (if _ then _ else _) = _
  rw [if_neg h]
theorem src_vals {B : Nat} {w : World} {s : PS} {p : PV} (h : ParR B w s p) : (∃ a n c, p.vS = .slice a n c) ∧ ∃ a n c, p.vT = .slice a n c := by
  obtain ⟨xs, hx⟩ := h.sty
  obtain ⟨ys, hy⟩ := top_row h
  obtain ⟨a, c, h1⟩ := owns_slice hx
  obtain ⟨a2, c2, h2⟩ := owns_slice hy
  exact ⟨⟨a, _, c, h1⟩, ⟨a2, _, c2, h2⟩⟩
set_option maxHeartbeats 12800000 in
set_option maxRecDepth 100000 in
theorem parse_run (T : Wd) (w : World) (hg : Glb w) (hT : T.length ≤ 1000000) (L : List Tok) (hl : lexM T = .ok L) :
    Calls Tryz.prog 6 #[.string ⟨T.toArray⟩] w (ParseEnd T w) := by
  have HP := Lib.hid (show parseM T = match parseL (L.length + 1) PS.zero L with
    | .error f => some (f, false)
    | .ok s => match s.finish with
      | .error f => some (f, false)
      | .ok _ => none from by unfold parseM; rw [hl]; rfl)
  obtain ⟨hn, hx, hd⟩ := lexM_wf hl
  have hLX := fun (W : World) (hb : Below w.heap.size w W) => lex_any T W (hg.below hb) hT
  unfold LexEnd at hLX
  simp only [hl] at hLX
  have HLX := Lib.hid hLX
  have HG := Lib.hid hg
  have h4 := hg.size
  have HWF := Lib.hid (And.intro hx hd)
  have hmf : ∀ (fn : Fn) (first cap : Array Value) (w : World), (Instr.makeFunc fn first cap).run Tryz.prog w = .ok (.func fn first cap) w := fun _ _ _ _ => rfl
  clear hLX hg hl hx hd
  go_enter_defers Tryz.func6, Tryz.ntmps6
  go_wp2_with (first
    | (go_at_call 10
       refine (HLX.out _ (((Below.refl _ _).alloc (Nat.le_refl _) _).alloc (by simp) _)).mono ?_
       rintro e w1 ⟨hb1, v, rfl, hrow⟩
       obtain ⟨a0, c0, rfl, hat⟩ := ToksAt.of_row hrow rfl
       obtain ⟨t1, t2⟩ := two_blocks w S0 E0
       have hS1 : w1.heap[w.heap.size]? = some S0 := (hb1.block _ (by simp; omega)).trans t1
       have hE1 : w1.heap[w.heap.size + 1]? = some E0 := (hb1.block _ (by simp)).trans t2
       have HAT := Lib.hid hat
       have HB1 : Hid (Below w.heap.size w w1) := Lib.hid (((Below.refl w.heap.size w).alloc (Nat.le_refl _) S0).alloc (by simp) E0 |>.trans (hb1.mono (by simp; omega)))
       have HS1 := Lib.hid hS1
       have HE1 := Lib.hid hE1
       have hlt1 := lt_of_heap hE1
       clear hS1 hE1 hb1 hrow t1 t2 hat)
    | (go_at_call 13
       refine (orders_any _).mono ?_
       rintro e w2 ⟨rfl, rfl⟩)
    | fail)
  have hP0 := parR_new w1
  have hBn : Below w1.heap.size w1 ((w1.alloc ordO).alloc (.cells (PV.new w1.heap.size).cells 57)) := ((Below.refl _ _).alloc (Nat.le_refl _) _).alloc (by simp) _
  have hREL : PRel w1 L (w1.heap.size + 1) L a0 c0 PS.zero (PV.new w1.heap.size) (L.length + 1) ((w1.alloc ordO).alloc (.cells (PV.new w1.heap.size).cells 57)) :=
    ⟨HAT.out, hP0, rfl, rfl, Nat.lt_succ_self _, hBn, by rw [Nat.sub_self]; exact PS.zero_inv, Nat.le_refl _, HWF.out.2, HWF.out.1⟩
  have HREL := Lib.hid hREL
  clear hP0 hBn hREL
  go_loopw [4, 7] (fun s4 s7 wr => ∃ (ts : List Tok) (a : Option Addr) (c : Nat) (s : PS) (p : PV) (f : Nat), s4 = .slice a ts.length c ∧ PRel w1 L (w1.heap.size + 1) ts a c s p f wr) (fun s4 _ _ => sliceLen s4)
  case atStart => exact ⟨L, a0, c0, PS.zero, _, _, rfl, HREL.out⟩
  case round =>
    obtain ⟨W, hW⟩ : ∃ W, W = wr := ⟨wr, rfl⟩
    subst hW
    obtain ⟨ts, a, c, s, p, f, rfl, hp⟩ := hrel
    have HPR := Lib.hid hp
    have hbw := hp.bel.size
    have hpp : parP p = .pointer (some ⟨w1.heap.size + 1, 0, none⟩) := by unfold parP; rw [hp.pb]
    have hq : ∀ t, s.cur = some t → t.blks.length ≤ 4000000 ∧ bytesF t.blks ≤ 4000000000000 := fun t ht => by
      obtain ⟨q1, q2, q3, q4⟩ := hp.inv.cur t ht
      exact ⟨by omega, by omega⟩
    rcases ts with _ | ⟨t, r⟩
    · have hpm : parseM T = match s.finish with
        | .error f => some (f, false)
        | .ok _ => none := by
        rw [HP.out, hp.eq]; cases f <;> rfl
      have hFI := finish_any w1.heap.size s p W hp.par hbw hq
      unfold ClosePost at hFI
      rw [hpp] at hFI
      cases hfi : s.finish with
      | error fe =>
        rw [hfi] at hFI hpm
        have HFI := Lib.hid hFI
        have HPE := Lib.hid (show parseM T = some (fe, false) from hpm)
        clear hFI hfi hpm hq hp hpp
        go_wp2_with (first
          | (go_at_call 16; refine HFI.out.mono ?_; rintro e w9 ⟨hb9, v, rfl, hf⟩; have HB9 : Hid (Below w1.heap.size w1 w9) := Lib.hid (HPR.out.bel.trans (hb9.mono hbw)); clear hb9)
          | fail)
        obtain ⟨q, rfl, hgq⟩ := hf
        have hS9 : w9.heap[w.heap.size]? = some S0 := (HB9.out.block _ (by omega)).trans HS1.out
        have hE9 : w9.heap[w.heap.size + 1]? = some E0 := (HB9.out.block _ (by omega)).trans HE1.out
        refine leaves_cons (f := 12) (args := #[.pointer (some ⟨w.heap.size, 0, none⟩), .pointer (some ⟨w.heap.size + 1, 0, none⟩)]) (by simp) (by simp [go_sem]) ?_
        refine (catch_fault w.heap.size (w.heap.size + 1) ⟨q, 0, none⟩ [] w9 _ _ _ hS9 hE9).mono ?_
        rintro e' u' w10 ⟨rfl, rfl, hcw⟩
        refine ⟨.tuple #[.agg #[.slice none 0 0, .slice none 0 0], .iface 68 (.pointer (some ⟨q, 0, none⟩))], ?_, ?_⟩
        · have q0 := hcw.c0
          have q1 := hcw.c1
          have q2 := hcw.c2
          simp [results, Tryz.results6, go_sem, q0, q1, q2]
        · refine ⟨(HB1.out.trans (HB9.out.mono (by omega))).trans (hcw.bel _ (Nat.le_refl _) (Nat.le_succ _) (by have := HB9.out.size; omega)), ?_⟩
          rw [HPE.out]
          exact ⟨_, rfl, (show FltV w9 _ fe from ⟨q, rfl, hgq⟩).old hS9 hE9 hcw.old⟩
      | ok s9 =>
        rw [hfi] at hFI hpm
        have HFI := Lib.hid hFI
        have HPE := Lib.hid (show parseM T = none from hpm)
        obtain ⟨⟨va, vn, vc, hvS⟩, ⟨ta, tn, tc, hvT⟩⟩ := src_vals hp.par
        obtain ⟨-, p1, p2, -⟩ := par_cells hp.par
        rw [hp.pb, hvS] at p1
        rw [hp.pb, hvT] at p2
        have hpl := hp.par.lt
        rw [hp.pb] at hpl
        clear hFI hfi hpm hq hp hpp hvS hvT
        go_wp2_with (first
          | (go_at_call 16
             refine HFI.out.mono ?_
             rintro e w9 ⟨hb9, rfl⟩
             have c1' : w9.cell? ⟨w1.heap.size + 1, 1, none⟩ = some (.slice va vn vc) := (hb9.cell (p := ⟨w1.heap.size + 1, 1, none⟩) hpl).trans p1
             have c2' : w9.cell? ⟨w1.heap.size + 1, 2, none⟩ = some (.slice ta tn tc) := (hb9.cell (p := ⟨w1.heap.size + 1, 2, none⟩) hpl).trans p2
             have HB9 : Hid (Below w1.heap.size w1 w9) := Lib.hid (HPR.out.bel.trans (hb9.mono hbw))
             have hS9 : w9.heap[w.heap.size]? = some S0 := (HB9.out.block _ (by omega)).trans HS1.out
             have hE9 : w9.heap[w.heap.size + 1]? = some E0 := (HB9.out.block _ (by omega)).trans HE1.out
             have cs0 : w9.cell? ⟨w.heap.size, 0, none⟩ = some (.slice none 0 0) := (by rw [cell_of_heap hS9]; rfl)
             have cs1 : w9.cell? ⟨w.heap.size, 1, none⟩ = some (.slice none 0 0) := (by rw [cell_of_heap hS9]; rfl)
             have ce0 : w9.cell? ⟨w.heap.size + 1, 0, none⟩ = some .nilIface := (by rw [cell_of_heap hE9]; rfl)
             have fs : ∀ i, w9.frozen? ⟨w.heap.size, i, none⟩ = false := (fun i => free_of_heap hS9)
             have fe : ∀ i, w9.frozen? ⟨w.heap.size + 1, i, none⟩ = false := (fun i => free_of_heap hE9)
             have HS9 := Lib.hid hS9
             have HE9 := Lib.hid hE9
             clear hb9 p1 p2 hS9 hE9)
          | fail)
        have hst := stored_world (x := .slice va vn vc) (y := .slice ta tn tc) (v := .nilIface) HS9.out HE9.out
        refine leaves_cons (f := 12) (args := #[.pointer (some ⟨w.heap.size, 0, none⟩), .pointer (some ⟨w.heap.size + 1, 0, none⟩)]) (by simp) (by simp [go_sem]) ?_
        refine (catch_idle ⟨w.heap.size, 0, none⟩ ⟨w.heap.size + 1, 0, none⟩ _).mono ?_
        rintro e' u' w10 ⟨rfl, rfl, rfl⟩
        refine ⟨.tuple #[.agg #[.slice va vn vc, .slice ta tn tc], .nilIface], ?_, ?_⟩
        · have q0 := hst.c0
          have q1 := hst.c1
          have q2 := hst.c2
          simp [results, Tryz.results6, go_sem, q0, q1, q2]
        · refine ⟨(HB1.out.trans (HB9.out.mono (by omega))).trans (hst.bel _ (Nat.le_refl _) (Nat.le_succ _)), ?_⟩
          rw [HPE.out]
          exact ⟨_, _, _, _, _, _, rfl⟩
    obtain ⟨f, rfl⟩ : ∃ f', f = f' + 1 := ⟨f - 1, by have := hp.fuel; simp at this; omega⟩
    obtain ⟨g, o, rfl, hg, e0, e1, e2, e3, e4⟩ := hp.at_.first
    have hcap := hp.at_.cap
    replace e0 := (hp.bel.cell (p := ⟨g, o, none⟩) hg).trans e0
    replace e1 := (hp.bel.cell (p := ⟨g, o + 1, none⟩) hg).trans e1
    replace e2 := (hp.bel.cell (p := ⟨g, o + 2, none⟩) hg).trans e2
    replace e3 := (hp.bel.cell (p := ⟨g, o + 3, none⟩) hg).trans e3
    replace e4 := (hp.bel.cell (p := ⟨g, o + 4, none⟩) hg).trans e4
    have hfu := hp.fuel
    have hln := hp.len
    have hinv := hp.inv
    rw [List.length_cons] at hcap hfu hln hinv ⊢
    obtain ⟨n, hnn⟩ : ∃ n, r.length = n := ⟨_, rfl⟩
    have HN := Lib.hid hnn
    rw [hnn] at hcap hfu hln hinv ⊢
    have HI := Lib.hid hinv
    have hi0 : (0 : Int) < ((n + 1 : Nat) : Int) := by omega
    have hsl : ∀ W, (Instr.slice 45 (.slice (some ⟨g, o, none⟩) (n + 1) c) (some (.int .i64 1)) none none).run Tryz.prog W = .ok (cutV g o (n + 1) c 1) W := fun W => slice_cut g o (n + 1) c 1 (by omega) (by omega) W
    have hat1 := hp.at_.drop 1 (by simp)
    have HAT1 := Lib.hid hat1
    clear hat1 hnn hinv hq
    by_cases k1 : t.kind = 1
    · have kb1 : ((t.kind : Int) == 1) = true := by rw [beq_iff_eq]; omega
      have hdp : dep 0 r = some 0 := by
        have := hp.dep
        rw [dep_step, if_neg (by omega), if_neg (by omega), if_pos (.inl k1), if_pos rfl] at this
        exact this
      have hDI := sdirective_any w1.heap.size s p t (2 * (L.length - (n + 1))) W hp.par hbw (HG.out.of (HB1.out.trans (hp.bel.mono (by omega))) h4) HI.out (by omega) (by have := hp.txt t (by simp); omega)
      unfold DoPost at hDI
      rw [hpp, hp.pb] at hDI
      have heq := hp.eq.trans (parseL_dir k1)
      have HDP := Lib.hid hdp
      cases hds : s.directive t with
      | error fe =>
        rw [hds] at hDI heq
        have HDI := Lib.hid hDI
        have HPE := Lib.hid (show parseM T = some (fe, false) from by rw [HP.out, heq])
        clear hDI hds heq hp hpp k1 hdp
        go_wp2_with (first
          | (go_at_call 14; refine HDI.out.mono ?_; rintro e w9 ⟨hb9, v, rfl, hf⟩; have HB9 : Hid (Below w1.heap.size w1 w9) := Lib.hid (HPR.out.bel.trans hb9); clear hb9)
          | fail)
        obtain ⟨q, rfl, hgq⟩ := hf
        have hS9 : w9.heap[w.heap.size]? = some S0 := (HB9.out.block _ (by omega)).trans HS1.out
        have hE9 : w9.heap[w.heap.size + 1]? = some E0 := (HB9.out.block _ (by omega)).trans HE1.out
        refine leaves_cons (f := 12) (args := #[.pointer (some ⟨w.heap.size, 0, none⟩), .pointer (some ⟨w.heap.size + 1, 0, none⟩)]) (by simp) (by simp [go_sem]) ?_
        refine (catch_fault w.heap.size (w.heap.size + 1) ⟨q, 0, none⟩ [] w9 _ _ _ hS9 hE9).mono ?_
        rintro e' u' w10 ⟨rfl, rfl, hcw⟩
        refine ⟨.tuple #[.agg #[.slice none 0 0, .slice none 0 0], .iface 68 (.pointer (some ⟨q, 0, none⟩))], ?_, ?_⟩
        · have q0 := hcw.c0
          have q1 := hcw.c1
          have q2 := hcw.c2
          simp [results, Tryz.results6, go_sem, q0, q1, q2]
        · refine ⟨(HB1.out.trans (HB9.out.mono (by omega))).trans (hcw.bel _ (Nat.le_refl _) (Nat.le_succ _) (by have := HB9.out.size; omega)), ?_⟩
          rw [HPE.out]
          exact ⟨_, rfl, (show FltV w9 _ fe from ⟨q, rfl, hgq⟩).old hS9 hE9 hcw.old⟩
      | ok s1 =>
        rw [hds] at hDI heq
        have HDI := Lib.hid hDI
        have HEQ := Lib.hid heq
        have HI1 := Lib.hid (directive_inv HI.out hds)
        clear hDI hds heq hp hpp k1 hdp
        go_wp2_with (first
          | (go_at_call 14; refine HDI.out.mono ?_; rintro e w9 ⟨hb9, rfl, p9, hp9, hpb9, -⟩; have HB9 : Hid (Below w1.heap.size w1 w9) := Lib.hid (HPR.out.bel.trans hb9); have HP9 := Lib.hid hp9; have HPB9 := Lib.hid hpb9; clear hb9 hp9 hpb9)
          | fail)
        refine ⟨⟨r, _, c - 1, s1, p9, f, by unfold cutV; rw [HN.out]; rfl, HAT1.out, HP9.out, HPB9.out, HEQ.out, by rw [HN.out]; omega, HB9.out, ?_, by rw [HN.out]; omega, HDP.out, fun x hx => HPR.out.txt x (List.mem_cons_of_mem _ hx)⟩, ?_⟩
        · rw [HN.out, show 2 * (L.length - n) = 2 * (L.length - (n + 1)) + 2 by omega]; exact HI1.out
        · show n + 1 - 1 < n + 1; omega
    have kb1 : ((t.kind : Int) == 1) = false := by rw [beq_eq_false_iff_ne]; omega
    by_cases k2 : t.kind = 2
    · have kb2 : ((t.kind : Int) == 2) = true := by rw [beq_iff_eq]; omega
      have hdp : dep 0 r = some 0 := by
        have := hp.dep
        rw [dep_step, if_neg (by omega), if_neg (by omega), if_pos (.inr k2), if_pos rfl] at this
        exact this
      have HDP := Lib.hid hdp
      have HEQ := Lib.hid (hp.eq.trans (parseL_gap k2))
      clear hp hpp k1 k2 hdp
      go_wp2_with fail
      refine ⟨⟨r, _, c - 1, s, p, f, by unfold cutV; rw [HN.out]; rfl, HAT1.out, HPR.out.par, HPR.out.pb, HEQ.out, by rw [HN.out]; omega, HPR.out.bel, ?_, by rw [HN.out]; omega, HDP.out, fun x hx => HPR.out.txt x (List.mem_cons_of_mem _ hx)⟩, ?_⟩
      · rw [HN.out]; exact HI.out.mono (by omega)
      · show n + 1 - 1 < n + 1; omega
    have kb2 : ((t.kind : Int) == 2) = false := by rw [beq_eq_false_iff_ne]; omega
    have heq := hp.eq.trans (parseL_run k1 k2)
    have hrl := runLen_le r
    rw [HN.out] at hrl
    have hdr := dep_run (t :: r) 0 hp.dep
    rw [show runLen (t :: r) = runLen r + 1 from runLen_run (by omega), List.take_succ_cons, List.drop_succ_cons] at hdr
    have hPA := paragraph_any w1 s p (some ⟨g, o, none⟩) c t (r.take (runLen r)) W hp.par (by have := hp.at_.take (runLen r + 1); rwa [List.take_succ_cons] at this) hp.bel (fun x hx => by have := hp.txt x (by rcases List.mem_cons.1 hx with h | h; exact h ▸ List.mem_cons_self; exact List.mem_cons_of_mem _ (List.mem_of_mem_take h)); omega) (by rw [hdr.1]; rfl) (by simp; omega) (2 * (L.length - (n + 1))) HI.out (by omega)
    have hlen : (t :: r.take (runLen r)).length = runLen r + 1 := by simp only [List.length_cons, List.length_take, HN.out]; omega
    rw [hlen, hpp] at hPA
    unfold DoPost at hPA
    rw [hp.pb] at hPA
    have hat2 := hp.at_.drop (runLen r + 1) (by rw [List.length_cons, HN.out]; omega)
    rw [List.drop_succ_cons] at hat2
    have HAT2 := Lib.hid hat2
    have HDR := Lib.hid hdr.2
    have hxs := hp.txt
    have hcl : ∀ k x, (t :: r)[k]? = some x → W.cell? ⟨g, o + k * 5, none⟩ = some (.int .i64 x.kind) := fun k x hk => by
      obtain ⟨g', o', he, hg', hc'⟩ := hp.at_.at_ t r rfl
      cases he
      exact (hp.bel.cell (p := ⟨g, o + k * 5, none⟩) hg).trans (by have := hc' k x hk 0 (by omega); simpa [tokC] using this)
    have HCL := Lib.hid hcl
    have hPI : ∀ s1, s.paragraph (t :: r.take (runLen r)) = .ok s1 → s1.Inv (2 * (L.length - (n + 1)) + 2 * (runLen r + 1)) := fun s1 h => by
      have := paragraph_inv HI.out (fun x hx => hxs x (by rcases List.mem_cons.1 hx with h | h; exact h ▸ List.mem_cons_self; exact List.mem_cons_of_mem _ (List.mem_of_mem_take h))) h
      rwa [hlen] at this
    have HPI := Lib.hid hPI
    have hdl : (r.drop (runLen r)).length = n - runLen r := by rw [List.length_drop, HN.out]
    have HDL := Lib.hid hdl
    obtain ⟨RS, hRS⟩ : ∃ RS, s.paragraph (t :: r.take (runLen r)) = RS := ⟨_, rfl⟩
    rw [hRS] at hPA heq hPI HPI
    have HPA := Lib.hid hPA
    have HEQ := Lib.hid heq
    have HRL : Hid (∀ (k : Nat) (x : Tok), (t :: r)[k]? = some x → 1 ≤ k → (k < runLen r + 1 → x.kind ≠ 1 ∧ x.kind ≠ 2) ∧ (k = runLen r + 1 → x.kind = 1 ∨ x.kind = 2)) := Lib.hid fun k x hk h1 => by
      obtain ⟨j, rfl⟩ : ∃ j, k = j + 1 := ⟨k - 1, by omega⟩
      rw [List.getElem?_cons_succ] at hk
      exact ⟨fun h => runLen_in r j x hk (by omega), fun h => runLen_at r x (by rw [show runLen r = j by omega]; exact hk)⟩
    have HLN : Hid ((t :: r).length = n + 1) := Lib.hid (by rw [List.length_cons, HN.out])
    obtain ⟨R, hR⟩ : ∃ R, runLen r = R := ⟨_, rfl⟩
    simp only [hR] at HPA HEQ HRL HPI HDL HAT2 HDR hrl
    clear hp hpp k1 k2 heq hdr hPA hlen hat2 hxs hcl hPI hdl hsl e1 e2 e3 e4
    go_upto_region 9 with fail
    go_loop [7] (fun s7 => ∃ k : Nat, s7 = .int .i64 k ∧ 1 ≤ k ∧ k ≤ R + 1) (fun s7 => n + 1 - (intOf s7).toNat)
    case atStart => exact ⟨1, rfl, by omega, by omega⟩
    case round =>
      obtain ⟨k, rfl, hk1, hk2⟩ := hrel
      by_cases hkn : k < n + 1
      · obtain ⟨x, hx⟩ : ∃ x, (t :: r)[k]? = some x := ⟨_, List.getElem?_eq_getElem (by rw [HLN.out]; exact hkn)⟩
        have ex := HCL.out k x hx
        obtain ⟨hr1, hr2⟩ := HRL.out k x hx hk1
        have hkd : (k : Int) < (n : Int) + 1 := by omega
        by_cases hkr : k < R + 1
        · obtain ⟨h1, h2⟩ := hr1 hkr
          have q1 : ((x.kind : Int) != 1) = true := by rw [bne_iff_ne]; omega
          have q2 : ((x.kind : Int) != 2) = true := by rw [bne_iff_ne]; omega
          have q3 : ((x.kind : Int) == 1) = false := by rw [beq_eq_false_iff_ne]; omega
          have q4 : ((x.kind : Int) == 2) = false := by rw [beq_eq_false_iff_ne]; omega
          clear hr1 hr2 h1 h2 hx
          go_wp2_with fail
          go_round
          case rel => exact ⟨k + 1, by go_num, by omega, by omega⟩
          case measure => simp [intOf]; omega
        · have hke : k = R + 1 := by omega
          have HKE := Lib.hid hke
          have hkk := hr2 hke
          have q : (((x.kind : Int) != 1) = false ∧ ((x.kind : Int) == 1) = true) ∨ (((x.kind : Int) != 1) = true ∧ ((x.kind : Int) == 1) = false ∧ ((x.kind : Int) != 2) = false ∧ ((x.kind : Int) == 2) = true) := by
            rcases hkk with h | h
            · left; rw [h]; exact ⟨rfl, rfl⟩
            · right; rw [h]; exact ⟨rfl, rfl, rfl, rfl⟩
          clear hr1 hr2 hx hkk hke
          rcases q with ⟨q1, q3⟩ | ⟨q1, q3, q2, q4⟩
          all_goals
            have hsu : ∀ W, (Instr.slice 45 (.slice (some ⟨g, o, none⟩) (n + 1) c) none (some (.int .i64 k)) none).run Tryz.prog W = .ok (.slice (some ⟨g, o, none⟩) k c) W := fun W => slice_upto g o (n + 1) c k (by have := HKE.out; omega) (by omega) W
            have hsd : ∀ W, (Instr.slice 45 (.slice (some ⟨g, o, none⟩) (n + 1) c) (some (.int .i64 k)) none none).run Tryz.prog W = .ok (cutV g o (n + 1) c k) W := fun W => slice_cut g o (n + 1) c k (by have := HKE.out; omega) (by omega) W
            have HPA2 := HPA.out
            rw [← HKE.out] at HPA2
            have HPA3 := Lib.hid HPA2
            clear HPA2 HPA
            cases RS with
            | error fe =>
              have HPE := Lib.hid (show parseM T = some (fe, false) from by rw [HP.out, HEQ.out])
              go_wp2_with (first
                | (go_at_call 15; refine HPA3.out.mono ?_; rintro e w9 ⟨hb9, v, rfl, hf⟩; have HB9 : Hid (Below w1.heap.size w1 w9) := Lib.hid (HPR.out.bel.trans hb9); clear hb9)
                | fail)
              obtain ⟨q, rfl, hgq⟩ := hf
              have hS9 : w9.heap[w.heap.size]? = some S0 := (HB9.out.block _ (by omega)).trans HS1.out
              have hE9 : w9.heap[w.heap.size + 1]? = some E0 := (HB9.out.block _ (by omega)).trans HE1.out
              refine leaves_cons (f := 12) (args := #[.pointer (some ⟨w.heap.size, 0, none⟩), .pointer (some ⟨w.heap.size + 1, 0, none⟩)]) (by simp) (by simp [go_sem]) ?_
              refine (catch_fault w.heap.size (w.heap.size + 1) ⟨q, 0, none⟩ [] w9 _ _ _ hS9 hE9).mono ?_
              rintro e' u' w10 ⟨rfl, rfl, hcw⟩
              refine ⟨.tuple #[.agg #[.slice none 0 0, .slice none 0 0], .iface 68 (.pointer (some ⟨q, 0, none⟩))], ?_, ?_⟩
              · have q0 := hcw.c0
                have q1 := hcw.c1
                have q2 := hcw.c2
                simp [results, Tryz.results6, go_sem, q0, q1, q2]
              · refine ⟨(HB1.out.trans (HB9.out.mono (by omega))).trans (hcw.bel _ (Nat.le_refl _) (Nat.le_succ _) (by have := HB9.out.size; omega)), ?_⟩
                rw [HPE.out]
                exact ⟨_, rfl, (show FltV w9 _ fe from ⟨q, rfl, hgq⟩).old hS9 hE9 hcw.old⟩
            | ok s1 =>
              have HI1 := Lib.hid (HPI.out s1 rfl)
              go_wp2_with (first
                | (go_at_call 15; refine HPA3.out.mono ?_; rintro e w9 ⟨hb9, rfl, p9, hp9, hpb9, -⟩; have HB9 : Hid (Below w1.heap.size w1 w9) := Lib.hid (HPR.out.bel.trans hb9); have HP9 := Lib.hid hp9; have HPB9 := Lib.hid hpb9; clear hb9 hp9 hpb9)
                | fail)
              have hke := HKE.out
              refine ⟨⟨r.drop R, _, c - k, s1, p9, f, by unfold cutV; rw [HDL.out, hke, Nat.add_sub_add_right], by rw [hke]; exact HAT2.out, HP9.out, HPB9.out, HEQ.out, by rw [HDL.out]; omega, HB9.out, ?_, by rw [HDL.out]; omega, HDR.out, fun x hx => HPR.out.txt x (List.mem_cons_of_mem _ (List.mem_of_mem_drop hx))⟩, ?_⟩
              · rw [HDL.out, show 2 * (L.length - (n - R)) = 2 * (L.length - (n + 1)) + 2 * (R + 1) by omega]; exact HI1.out
              · show n + 1 - k < n + 1; omega
      · have hke : k = R + 1 := by omega
        have HKE := Lib.hid hke
        have hkd : decide ((k : Int) < (n : Int) + 1) = false := by rw [decide_eq_false_iff_not]; omega
        clear hke
        have hsu : ∀ W, (Instr.slice 45 (.slice (some ⟨g, o, none⟩) (n + 1) c) none (some (.int .i64 k)) none).run Tryz.prog W = .ok (.slice (some ⟨g, o, none⟩) k c) W := fun W => slice_upto g o (n + 1) c k (by have := HKE.out; omega) (by omega) W
        have hsd : ∀ W, (Instr.slice 45 (.slice (some ⟨g, o, none⟩) (n + 1) c) (some (.int .i64 k)) none none).run Tryz.prog W = .ok (cutV g o (n + 1) c k) W := fun W => slice_cut g o (n + 1) c k (by have := HKE.out; omega) (by omega) W
        have HPA2 := HPA.out
        rw [← HKE.out] at HPA2
        have HPA3 := Lib.hid HPA2
        clear HPA2 HPA
        cases RS with
        | error fe =>
          have HPE := Lib.hid (show parseM T = some (fe, false) from by rw [HP.out, HEQ.out])
          go_wp2_with (first
            | (go_at_call 15; refine HPA3.out.mono ?_; rintro e w9 ⟨hb9, v, rfl, hf⟩; have HB9 : Hid (Below w1.heap.size w1 w9) := Lib.hid (HPR.out.bel.trans hb9); clear hb9)
            | fail)
          obtain ⟨q, rfl, hgq⟩ := hf
          have hS9 : w9.heap[w.heap.size]? = some S0 := (HB9.out.block _ (by omega)).trans HS1.out
          have hE9 : w9.heap[w.heap.size + 1]? = some E0 := (HB9.out.block _ (by omega)).trans HE1.out
          refine leaves_cons (f := 12) (args := #[.pointer (some ⟨w.heap.size, 0, none⟩), .pointer (some ⟨w.heap.size + 1, 0, none⟩)]) (by simp) (by simp [go_sem]) ?_
          refine (catch_fault w.heap.size (w.heap.size + 1) ⟨q, 0, none⟩ [] w9 _ _ _ hS9 hE9).mono ?_
          rintro e' u' w10 ⟨rfl, rfl, hcw⟩
          refine ⟨.tuple #[.agg #[.slice none 0 0, .slice none 0 0], .iface 68 (.pointer (some ⟨q, 0, none⟩))], ?_, ?_⟩
          · have q0 := hcw.c0
            have q1 := hcw.c1
            have q2 := hcw.c2
            simp [results, Tryz.results6, go_sem, q0, q1, q2]
          · refine ⟨(HB1.out.trans (HB9.out.mono (by omega))).trans (hcw.bel _ (Nat.le_refl _) (Nat.le_succ _) (by have := HB9.out.size; omega)), ?_⟩
            rw [HPE.out]
            exact ⟨_, rfl, (show FltV w9 _ fe from ⟨q, rfl, hgq⟩).old hS9 hE9 hcw.old⟩
        | ok s1 =>
          have HI1 := Lib.hid (HPI.out s1 rfl)
          go_wp2_with (first
            | (go_at_call 15; refine HPA3.out.mono ?_; rintro e w9 ⟨hb9, rfl, p9, hp9, hpb9, -⟩; have HB9 : Hid (Below w1.heap.size w1 w9) := Lib.hid (HPR.out.bel.trans hb9); have HP9 := Lib.hid hp9; have HPB9 := Lib.hid hpb9; clear hb9 hp9 hpb9)
            | fail)
          have hke := HKE.out
          refine ⟨⟨r.drop R, _, c - k, s1, p9, f, by unfold cutV; rw [HDL.out, hke, Nat.add_sub_add_right], by rw [hke]; exact HAT2.out, HP9.out, HPB9.out, HEQ.out, by rw [HDL.out]; omega, HB9.out, ?_, by rw [HDL.out]; omega, HDR.out, fun x hx => HPR.out.txt x (List.mem_cons_of_mem _ (List.mem_of_mem_drop hx))⟩, ?_⟩
          · rw [HDL.out, show 2 * (L.length - (n - R)) = 2 * (L.length - (n + 1)) + 2 * (R + 1) by omega]; exact HI1.out
          · show n + 1 - k < n + 1; omega
end Go.Proofs.YtafhmagifoapfaaGreatDoor
