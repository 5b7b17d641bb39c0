/- book: its first passes. -/
import Derived.Test.YtafhmagifoapfaaGreatDoorParse
namespace Go.Proofs.YtafhmagifoapfaaGreatDoor
open Go.RowKit Find Bk
attribute [local go_sem ↓] Go.wp_at_zero Go.wp_at_succ
/-- src.Parse: any text. -/
theorem parse_any (T : Wd) (w : World) (hg : Glb w) (hT : T.length ≤ 1000000) : Calls Tryz.prog 6 #[.string ⟨T.toArray⟩] w (ParseEnd T w) := by
  cases hl : lexM T with
  | error f => exact parse_lex T w hg hT f hl
  | ok L => exact parse_run T w hg hT L hl
/-- The error of a text that can't be read. -/
def ErrV (w : World) (u : Value) (f : Flt) : Bool → Prop
  | true => ∃ u2, MarkV w u [109, 97, 114, 107] 0 u2 ∧ FltV w u2 f
  | false => FltV w u f
theorem ErrV.new {w w' : World} {u : Value} {f : Flt} {m : Bool} (h : ErrV w u f m) (hb : Below w.heap.size w w') : ErrV w' u f m := by
  cases m with
  | true => obtain ⟨u2, h1, h2⟩ := h; exact ⟨u2, h1.new hb, h2.new hb⟩
  | false => exact FltV.new h hb
theorem ErrV.form {w : World} {u : Value} {f : Flt} {m : Bool} (h : ErrV w u f m) : ∃ τ p, u = .iface τ (.pointer p) := by
  cases m with
  | true => obtain ⟨u2, ⟨b, h1, _⟩, h2⟩ := h; exact ⟨_, _, h1⟩
  | false => obtain ⟨g, h1, _⟩ := h; exact ⟨_, _, h1⟩
theorem parse_good (T : Wd) (w : World) (hg : Glb w) (hT : T.length ≤ 1000000) (h : parseM T = none) :
    Calls Tryz.prog 6 #[.string ⟨T.toArray⟩] w fun e w' => Below w.heap.size w w' ∧ ∃ a n c a2 n2 c2, e = .returned (.tuple #[.agg #[.slice a n c, .slice a2 n2 c2], .nilIface]) := by
  have := parse_any T w hg hT
  unfold ParseEnd at this
  rwa [h] at this
theorem parse_bad (T : Wd) (w : World) (hg : Glb w) (hT : T.length ≤ 1000000) (f : Flt) (m : Bool) (h : parseM T = some (f, m)) :
    Calls Tryz.prog 6 #[.string ⟨T.toArray⟩] w fun e w' => Below w.heap.size w w' ∧ ∃ v, e = .returned (.tuple #[.agg #[.slice none 0 0, .slice none 0 0], v]) ∧ ErrV w' v f m := by
  have := parse_any T w hg hT
  unfold ParseEnd at this
  rw [h] at this
  refine this.mono fun e w' ⟨h1, h2⟩ => ⟨h1, ?_⟩
  cases m with
  | true => obtain ⟨v, u, h3, h4, h5⟩ := h2; exact ⟨v, h3, u, h4, h5⟩
  | false => obtain ⟨v, h3, h4⟩ := h2; exact ⟨v, h3, h4⟩
/-- A slice reads as texts. -/
structure TxtAt (w : World) (a : Option Addr) (c : Nat) (l : List Wd) : Prop where
  cap : l.length ≤ c
  at_ : ∀ k x, l[k]? = some x → ∃ g o, a = some ⟨g, o, none⟩ ∧ g < w.heap.size ∧ w.cell? ⟨g, o + k, none⟩ = some (.string ⟨x.toArray⟩)
theorem TxtAt.below {w w' : World} {a : Option Addr} {c : Nat} {l : List Wd} (h : TxtAt w a c l) (hb : Below w.heap.size w w') : TxtAt w' a c l :=
  ⟨h.cap, fun k x hk => by
    obtain ⟨g, o, ha, hg, hcl⟩ := h.at_ k x hk
    exact ⟨g, o, ha, Nat.lt_of_lt_of_le hg hb.size, (hb.cell (p := ⟨g, o + k, none⟩) hg).trans hcl⟩⟩
/-! ### The passes -/
def workC (tx vs : Value) : Array Value := #[tx, vs, .slice none 0 0, .slice none 0 0, .int .i64 0, .slice none 0 0, .slice none 0 0, .slice none 0 0]
theorem info_src : (Tryz.prog.info? 28).map (fun i => (i.zero, i.size, i.bytes)) = some (some (.agg #[.slice none 0 0, .slice none 0 0]), 2, 48) := by kernel_rfl
set_option maxHeartbeats 1600000 in
set_option maxRecDepth 100000 in
theorem steps_any (w : World) : Calls Tryz.prog 59 #[] w fun e w' => e = .returned (.slice (some ⟨w.heap.size, 0, none⟩) 9 9) ∧ w' = w.alloc (.cells #[fnV 98, fnV 99, fnV 100, fnV 102, fnV 104, fnV 106, fnV 108, fnV 110, fnV 111] 125) := by
  go_enter Tryz.func59, Tryz.ntmps59
  go_wp2
  go_ret
  exact ⟨rfl, rfl⟩
set_option maxHeartbeats 1600000 in
set_option maxRecDepth 100000 in
theorem step1_any (b : Nat) (a : Option Addr) (n c : Nat) (vs : Value) (w : World) (h : w.heap[b]? = some (.cells (workC (.slice a n c) vs) 122 (0, 0))) (hn : n ≤ 64) :
    Calls Tryz.prog 98 #[.pointer (some ⟨b, 0, none⟩)] w fun e w' => e = .returned .nilIface ∧ w' = w := by
  have c0 : w.cell? ⟨b, 0, none⟩ = some (.slice a n c) := by rw [cell_of_heap h]; rfl
  have hd : decide ((64 : Int) < (n : Int)) = false := by rw [decide_eq_false_iff_not]; omega
  have hd2 : decide (64 < n) = false := by rw [decide_eq_false_iff_not]; omega
  clear h hn
  go_enter Tryz.func98, Tryz.ntmps98
  go_wp2
  go_ret
  exact ⟨rfl, rfl⟩
set_option maxHeartbeats 6400000 in
set_option maxRecDepth 100000 in
theorem bparse_any (w0 : World) (b : Nat) (a : Option Addr) (c : Nat) (ts : List Wd) (i : Nat) (T : Wd) (f : Flt) (m : Bool) (w : World) (h : w.heap[b]? = some (.cells (workC (.slice a ts.length c) (.slice none 0 0)) 122 (0, 0))) (hB : w0.heap.size ≤ b)
    (hbw : Below w0.heap.size w0 w) (hg : Glb w0) (hat : TxtAt w0 a c ts) (hlen : ts.length ≤ 64) (htx : ∀ x ∈ ts, x.length ≤ 1000000) (hT : ts[i]? = some T) (hj : ∀ k x, k < i → ts[k]? = some x → parseM x = none) (hf : parseM T = some (f, m)) :
    Calls Tryz.prog 99 #[.pointer (some ⟨b, 0, none⟩)] w fun e w' => ∃ v u, e = .returned v ∧ InV w' v i u ∧ ErrV w' u f m ∧ Below w0.heap.size w0 w' := by
  obtain ⟨i0, hi0, hz0, hz1, hz2⟩ := info_parts info_src
  have h4 := hg.size
  have HG := Lib.hid hg
  have HAT := Lib.hid hat
  have hil := (List.getElem?_eq_some_iff.1 hT).1
  have HJ := Lib.hid (And.intro hT (And.intro hj hf))
  have HTX := Lib.hid (show ∀ k x, ts[k]? = some x → x.length ≤ 1000000 from fun k x hk => htx x (List.mem_of_getElem? hk))
  have cc0 : w.cell? ⟨b, 0, none⟩ = some (.slice a ts.length c) := by rw [cell_of_heap h]; rfl
  have hbl := lt_of_heap h
  have HST : Hid (Below w0.heap.size w0 w ∧ w.heap[b]? = some (.cells (workC (.slice a ts.length c) (.slice none 0 0)) 122 (0, 0)) ∧ ∃ xs, w.ownsRow w0.heap.size 28 2 (.slice none 0 0) 0 xs) := Lib.hid ⟨hbw, h, [], World.ownsRow_nil _ _ _ _⟩
  obtain ⟨N, hN⟩ : ∃ N, ts.length = N := ⟨_, rfl⟩
  rw [hN] at cc0 hil hlen HST
  clear h hbw hg hat htx hT hj hf hN
  go_enter Tryz.func99, Tryz.ntmps99
  go_wp2
  go_loopw [12] (fun s12 wr => ∃ (k : Nat) (vs : Value), s12 = .int .i64 k ∧ k ≤ i ∧ Hid (Below w0.heap.size w0 wr ∧ wr.heap[b]? = some (.cells (workC (.slice a N c) vs) 122 (0, 0)) ∧ ∃ xs, wr.ownsRow w0.heap.size 28 2 vs k xs)) (fun s12 _ => i + 1 - (intOf s12).toNat)
  case atStart => exact ⟨0, _, rfl, Nat.zero_le _, HST⟩
  case round =>
    obtain ⟨W, hW⟩ : ∃ W, W = wr := ⟨wr, rfl⟩
    subst hW
    obtain ⟨k, vs, rfl, hki, hp⟩ := hrel
    obtain ⟨hbw, hwk, xs, hxs⟩ := hp.out
    have hkN : (k : Int) < (N : Int) := by omega
    have hsz := hbw.size
    have hblW := lt_of_heap hwk
    obtain ⟨x, hx⟩ : ∃ x, ts[k]? = some x := by
      have := (List.getElem?_eq_some_iff.1 HJ.out.1).1
      exact ⟨_, List.getElem?_eq_getElem (by omega)⟩
    obtain ⟨g, o, rfl, hgl, hcx⟩ := HAT.out.at_ k x hx
    have ex : W.cell? ⟨g, o + k, none⟩ = some (.string ⟨x.toArray⟩) := (hbw.cell (p := ⟨g, o + k, none⟩) hgl).trans hcx
    have HBW := Lib.hid hbw
    have HGW := Lib.hid (HG.out.of hbw h4)
    have hxl := HTX.out k x hx
    by_cases hlt : k < i
    · have HPG := Lib.hid (parse_good x W HGW.out hxl (HJ.out.2.1 k x hlt hx))
      obtain ⟨sa, sc, hv⟩ := owns_slice hxs
      subst hv
      have ag : some b ≠ (Value.slice sa k sc).ownBlock := fun e => owns_apart hxs hwk (by decide) e.symm
      have HXS := Lib.hid hxs
      have HWK := Lib.hid hwk
      clear hp hx hcx hbw hwk hxs hxl
      go_wp2_with (first
        | (go_at_call 6
           refine HPG.out.mono ?_
           rintro e w3 ⟨hb3, a1, n1, q1, a2, n2, q2, rfl⟩
           have hbk3 := (hb3.block b hblW).trans HWK.out
           have hs3 := owns_new HXS.out hb3
           have y0 : w3.cell? ⟨b, 1, none⟩ = some (.slice sa k sc) := (by rw [cell_of_heap hbk3]; rfl)
           have yf : ∀ i, w3.frozen? ⟨b, i, none⟩ = false := (fun i => free_of_heap hbk3)
           have hbl3 : b < w3.heap.size := Nat.lt_of_lt_of_le hblW hb3.size
           have HB3 : Hid (Below w0.heap.size w0 w3) := Lib.hid (HBW.out.trans (hb3.mono hsz))
           have hz3 : w0.heap.size ≤ w3.heap.size := Nat.le_trans hsz hb3.size
           have HBK3 := Lib.hid hbk3
           clear hb3 hbk3 HXS HWK)
        | fail)
      go_region_law
        ((refine step_append_lies _ (by rfl) _ _ _ (by rfl) w0.heap.size 28 i0 _ 2 48 Tryz.underlying118 hi0 hz0 hz1 hz2 rfl (by omega) (.slice sa k sc) k xs (by rfl) (((hs3.alloc _).drew).alloc _)
            ⟨w3.heap.size + 1, 0, none⟩ 1 1 [.slice a1 n1 q1, .slice a2 n2 q2] (by rfl) (by rfl) (World.news_of_block (cs := #[.slice a1 n1 q1, .slice a2 n2 q2]) (t := 28) (fr := (0, 0)) (two_newM w3 _ _)) (by simp [Value.oneCell'])
            (by omega) (by unfold maxLen; omega) (by omega) (by simp; omega) (w3.heap.size + 2) (by simp) ?_; intro gg cap w6 hown1 hgrow hat hlt1; have z2 := hgrow.cell_far ⟨b, 1, none⟩ (by simp; omega) ag; have z2f := hgrow.frozen_far ⟨b, 1, none⟩ (by simp; omega) ag; simp at z2 z2f))
      all_goals
        have hblk6 : w6.heap[b]? = some (.cells (workC (.slice (some ⟨g, o, none⟩) N c) (.slice sa k sc)) 122 (0, 0)) := by
          rw [hgrow.block b (by simp; omega) ag]
          exact ((((Below.refl w3.heap.size w3).alloc (Nat.le_refl _) _).alloc (by simp) _).block b hbl3).trans HBK3.out
        have HBK6 := Lib.hid hblk6
        have HB6 : Hid (Below w0.heap.size w0 w6) := Lib.hid ((((HB3.out.alloc hz3 _).drew).alloc (by simp; omega) _).grown hgrow (by simp; omega) fun k hk => (hs3.lt k hk).1)
        have Ho := Lib.hid hown1
        have hne := Lib.hid (show ∀ B', w6.ownsRow w0.heap.size 28 2 (.slice (some ⟨gg, 0, none⟩) (k + 1) cap) (k + 1) B' → (w6.setCell ⟨b, 1, none⟩ (.slice (some ⟨gg, 0, none⟩) (k + 1) cap)).ownsRow w0.heap.size 28 2 (.slice (some ⟨gg, 0, none⟩) (k + 1) cap) (k + 1) B' from fun B' h => owns_chg h (Chg.setCell hblk6 _) (by decide))
        clear hgrow hown1 hblk6
        go_wp2
        go_roundw
        case rel => exact ⟨k + 1, _, by go_num, by omega, Lib.hid ⟨HB6.out.setCell hB _, by rw [setCell_heap' HBK6.out]; rfl, _, hne.out _ Ho.out⟩⟩
        case measure => simp [intOf]; omega
    · have hke : k = i := by omega
      subst hke
      have hxT : x = T := Option.some.inj (hx.symm.trans HJ.out.1)
      subst hxT
      have HPB := Lib.hid (parse_bad x W HGW.out hxl f m HJ.out.2.2)
      clear hp hx hcx hbw hwk hxs hxl hlt
      go_wp2_with (first
        | (go_at_call 6
           refine HPB.out.mono ?_
           rintro e w3 ⟨hb3, v, rfl, hev⟩
           obtain ⟨τ, pp, rfl⟩ := hev.form
           have HEV := Lib.hid hev
           have HB3 : Hid (Below w0.heap.size w0 w3) := Lib.hid (HBW.out.trans (hb3.mono hsz))
           have hz3 : w0.heap.size ≤ w3.heap.size := Nat.le_trans hsz hb3.size
           clear hb3 hev)
        | (go_at_call 156; refine (in_any τ pp k _).mono ?_; rintro e w5 ⟨v5, rfl, hin, hb5⟩)
        | fail)
      go_ret
      have hba := (Below.refl w3.heap.size w3).alloc (Nat.le_refl _) (.cells #[.slice none 0 0, .slice none 0 0] 28)
      exact ⟨v5, _, rfl, hin, HEV.out.new (hba.trans (hb5.mono (by simp))), (HB3.out.alloc hz3 _).trans (hb5.mono (by simp; omega))⟩
/-- The error that compiling tells. -/
def BookV (w : World) (v : Value) (i : Nat) (f : Flt) (m : Bool) : Prop := ∃ u u2, MarkV w v [98, 111, 111, 107] 2 u ∧ InV w u i u2 ∧ ErrV w u2 f m
theorem BookV.new {w w' : World} {v : Value} {i : Nat} {f : Flt} {m : Bool} (h : BookV w v i f m) (hb : Below w.heap.size w w') : BookV w' v i f m := by
  obtain ⟨u, u2, h1, h2, h3⟩ := h
  exact ⟨u, u2, h1.new hb, h2.new hb, h3.new hb⟩
/-- .. where one block of another type alone has changed. -/
theorem BookV.old {w w' : World} {v : Value} {i : Nat} {f : Flt} {m : Bool} {s : Nat} {C : Array Value} {τ : TypeId} {fr : Nat × Nat} (h : BookV w v i f m) (hs : w.heap[s]? = some (.cells C τ fr)) (h1 : τ ≠ 89) (h2 : τ ≠ 263) (h3 : τ ≠ 260)
    (ho : ∀ k, k ≠ s → w'.heap[k]? = w.heap[k]?) : BookV w' v i f m := by
  have hk : ∀ {k : Nat} {D : Array Value} {σ : TypeId} {fq : Nat × Nat}, w.heap[k]? = some (.cells D σ fq) → σ ≠ τ → w'.heap[k]? = some (.cells D σ fq) := fun {k D σ fq} hq hne => by
    rw [ho k (fun e => by subst e; rw [hs] at hq; simp only [Option.some.injEq, Obj.cells.injEq] at hq; exact hne hq.2.1.symm)]; exact hq
  obtain ⟨u, u2, ⟨b1, e1, q1⟩, ⟨b2, e2, q2⟩, h3'⟩ := h
  refine ⟨u, u2, ⟨b1, e1, hk q1 (Ne.symm h1)⟩, ⟨b2, e2, hk q2 (Ne.symm h2)⟩, ?_⟩
  cases m with
  | true =>
    obtain ⟨u3, ⟨b3, e3, q3⟩, ⟨b4, e4, q4⟩⟩ := h3'
    exact ⟨u3, ⟨b3, e3, hk q3 (Ne.symm h1)⟩, ⟨b4, e4, hk q4 (Ne.symm h3)⟩⟩
  | false =>
    obtain ⟨b4, e4, q4⟩ := h3'
    exact ⟨b4, e4, hk q4 (Ne.symm h3)⟩
set_option maxHeartbeats 6400000 in
set_option maxRecDepth 100000 in
theorem make_any (w : World) (a : Option Addr) (c : Nat) (ts : List Wd) (i : Nat) (T : Wd) (f : Flt) (m : Bool)
    (hg : Glb w) (hat : TxtAt w a c ts) (hlen : ts.length ≤ 64) (htx : ∀ x ∈ ts, x.length ≤ 1000000) (hT : ts[i]? = some T) (hj : ∀ k x, k < i → ts[k]? = some x → parseM x = none) (hf : parseM T = some (f, m)) :
    Calls Tryz.prog 17 #[.slice a ts.length c] w fun e w' => ∃ v, e = .returned (.tuple #[.agg #[.int .i64 0, .slice none 0 0, .slice none 0 0, .slice none 0 0], v]) ∧ BookV w' v i f m ∧ Below w.heap.size w w' := by
  have hba := (Below.refl w.heap.size w).alloc (Nat.le_refl _) (.cells #[.int .i64 0, .slice none 0 0, .slice none 0 0, .slice none 0 0] 65)
  have hPA := fun (W : World) (h : W.heap[w.heap.size + 1]? = some (.cells (workC (.slice a ts.length c) (.slice none 0 0)) 122 (0, 0))) (hb : Below (w.alloc (.cells #[.int .i64 0, .slice none 0 0, .slice none 0 0, .slice none 0 0] 65)).heap.size (w.alloc (.cells #[.int .i64 0, .slice none 0 0, .slice none 0 0, .slice none 0 0] 65)) W) =>
    bparse_any (w.alloc (.cells #[.int .i64 0, .slice none 0 0, .slice none 0 0, .slice none 0 0] 65)) (w.heap.size + 1) a c ts i T f m W h (by simp) hb (hg.below hba) (hat.below hba) hlen htx hT hj hf
  have HPA := Lib.hid hPA
  have hst := fun (W : World) (h : W.heap[w.heap.size + 1]? = some (.cells (workC (.slice a ts.length c) (.slice none 0 0)) 122 (0, 0))) => step1_any (w.heap.size + 1) a ts.length c (.slice none 0 0) W h hlen
  have HST := Lib.hid hst
  clear hba hPA hst hg hat htx hT hj hf
  obtain ⟨N, hN⟩ : ∃ N, ts.length = N := ⟨_, rfl⟩
  rw [hN] at HPA HST ⊢
  clear hN hlen
  go_enter Tryz.func17, Tryz.ntmps17
  go_wp2_with fail
  refine (steps_any _).mono ?_
  rintro e w2 ⟨rfl, hw2⟩
  obtain ⟨t1, t2⟩ := two_blocks w (.cells #[.int .i64 0, .slice none 0 0, .slice none 0 0, .slice none 0 0] 65) (.cells (workC (.slice a N c) (.slice none 0 0)) 122)
  have hb2 : Below (w.heap.size + 2) ((w.alloc (.cells #[.int .i64 0, .slice none 0 0, .slice none 0 0, .slice none 0 0] 65)).alloc (.cells (workC (.slice a N c) (.slice none 0 0)) 122)) w2 := (by rw [hw2]; exact (Below.refl _ _).alloc (by simp) _)
  have HC2 : Hid (w2.heap[w.heap.size]? = some (.cells #[.int .i64 0, .slice none 0 0, .slice none 0 0, .slice none 0 0] 65 (0, 0))) := Lib.hid ((hb2.block _ (by omega)).trans t1)
  have HW2 : Hid (w2.heap[w.heap.size + 1]? = some (.cells (workC (.slice a N c) (.slice none 0 0)) 122 (0, 0))) := Lib.hid ((hb2.block _ (by omega)).trans t2)
  have hF2 : w2.heap[w.heap.size + 2]? = some (.cells #[fnV 98, fnV 99, fnV 100, fnV 102, fnV 104, fnV 106, fnV 108, fnV 110, fnV 111] 125 (0, 0)) := (by rw [hw2]; exact three_newM w _ _ _)
  have f0 : w2.cell? ⟨w.heap.size + 2, 0, none⟩ = some (.func (.func 98) #[] #[]) := (by rw [cell_of_heap hF2]; rfl)
  have f1 : w2.cell? ⟨w.heap.size + 2, 1, none⟩ = some (.func (.func 99) #[] #[]) := (by rw [cell_of_heap hF2]; rfl)
  have HB2 : Hid (Below (w.alloc (.cells #[.int .i64 0, .slice none 0 0, .slice none 0 0, .slice none 0 0] 65)).heap.size (w.alloc (.cells #[.int .i64 0, .slice none 0 0, .slice none 0 0, .slice none 0 0] 65)) w2) := Lib.hid (by rw [hw2]; exact ((Below.refl _ _).alloc (Nat.le_refl _) _).alloc (by simp) _)
  clear hw2 hb2 hF2 t1 t2
  go_wp2_with fail
  refine wp_loop_rounds 2 ?_
  rw [rounds_succ]
  go_wp2_with (first
    | (go_at_call 98; refine (HST.out _ HW2.out).mono ?_; rintro e w3 ⟨rfl, rfl⟩)
    | fail)
  rw [rounds_succ]
  go_wp2_with (first
    | (go_at_call 99
       refine (HPA.out _ HW2.out HB2.out).mono ?_
       rintro e w4 ⟨v, u, rfl, ⟨ib, rfl, hib⟩, hev, hb4⟩
       have HIE : Hid (InV w4 (.iface 261 (.pointer (some ⟨ib, 0, none⟩))) i u ∧ ErrV w4 u f m) := Lib.hid ⟨⟨ib, rfl, hib⟩, hev⟩
       have HB4 := Lib.hid hb4
       clear hib hev hb4)
    | (go_at_call 11
       refine (under_any 261 (some ⟨ib, 0, none⟩) [98, 111, 111, 107] 2 w4).mono ?_
       rintro e w5 ⟨v5, rfl, hm5, hb5⟩
       have hc5 : w5.heap[w.heap.size]? = some (.cells #[.int .i64 0, .slice none 0 0, .slice none 0 0, .slice none 0 0] 65 (0, 0)) := (hb5.block _ (Nat.lt_of_lt_of_le (by simp) HB4.out.size)).trans ((HB4.out.block _ (by simp)).trans (heap_alloc_new w _))
       have x0 : w5.cell? ⟨w.heap.size, 0, none⟩ = some (.int .i64 0) := (by rw [cell_of_heap hc5]; rfl)
       have x1 : w5.cell? ⟨w.heap.size, 1, none⟩ = some (.slice none 0 0) := (by rw [cell_of_heap hc5]; rfl)
       have x2 : w5.cell? ⟨w.heap.size, 2, none⟩ = some (.slice none 0 0) := (by rw [cell_of_heap hc5]; rfl)
       have x3 : w5.cell? ⟨w.heap.size, 3, none⟩ = some (.slice none 0 0) := (by rw [cell_of_heap hc5]; rfl)
       have xf : ∀ i, w5.frozen? ⟨w.heap.size, i, none⟩ = false := (fun i => free_of_heap hc5)
       have HM5 := Lib.hid hm5
       have HB5 := Lib.hid hb5
       have HC5 := Lib.hid hc5
       clear hm5 hb5 hc5)
    | fail)
  obtain ⟨W7, hW7⟩ : ∃ W, (((w5.setCell ⟨w.heap.size, 0, none⟩ (.int .i64 0)).setCell ⟨w.heap.size, 1, none⟩ (.slice none 0 0)).setCell ⟨w.heap.size, 2, none⟩ (.slice none 0 0)).setCell ⟨w.heap.size, 3, none⟩ (.slice none 0 0) = W := ⟨_, rfl⟩
  have hold : ∀ k, k ≠ w.heap.size → W7.heap[k]? = w5.heap[k]? := fun k hk => by
    rw [← hW7, setCell_heap_ne' (Ne.symm hk), setCell_heap_ne' (Ne.symm hk), setCell_heap_ne' (Ne.symm hk), setCell_heap_ne' (Ne.symm hk)]
  have hnew : W7.heap[w.heap.size]? = some (.cells #[.int .i64 0, .slice none 0 0, .slice none 0 0, .slice none 0 0] 65 (0, 0)) := by
    rw [← hW7, setCell_heap' (setCell_heap' (setCell_heap' (setCell_heap' HC5.out _) _) _) _]; rfl
  have hb7 : Below w.heap.size w W7 := by
    rw [← hW7]
    exact ((((((Below.refl w.heap.size w).alloc (Nat.le_refl _) _).trans (HB4.out.mono (by simp))).trans (HB5.out.mono (Nat.le_trans (by simp) HB4.out.size))).setCell (Nat.le_refl _) _).setCell (Nat.le_refl _) _).setCell (Nat.le_refl _) _ |>.setCell (Nat.le_refl _) _
  rw [hW7]
  refine ⟨rfl, .tuple #[.agg #[.int .i64 0, .slice none 0 0, .slice none 0 0, .slice none 0 0], v5], ?_, v5, rfl, ?_, hb7⟩
  · have q0 : W7.cell? ⟨w.heap.size, 0, none⟩ = some (.int .i64 0) := by rw [cell_of_heap hnew]; rfl
    have q1 : W7.cell? ⟨w.heap.size, 1, none⟩ = some (.slice none 0 0) := by rw [cell_of_heap hnew]; rfl
    have q2 : W7.cell? ⟨w.heap.size, 2, none⟩ = some (.slice none 0 0) := by rw [cell_of_heap hnew]; rfl
    have q3 : W7.cell? ⟨w.heap.size, 3, none⟩ = some (.slice none 0 0) := by rw [cell_of_heap hnew]; rfl
    simp [results, Tryz.results17, go_sem, q0, q1, q2, q3]
  · exact BookV.old ⟨_, _, HM5.out, HIE.out.1.new HB5.out, HIE.out.2.new HB5.out⟩ HC5.out (by decide) (by decide) (by decide) hold
def lenF (l : List Wd) : Nat := (l.map List.length).sum
def fewF (l : List Wd) : Bool := decide (lenF l ≤ 20000) && decide (l.length ≤ 100)
theorem lenF_take (l : List Wd) (k : Nat) (x : Wd) (h : l[k]? = some x) : lenF (l.take (k + 1)) = lenF (l.take k) + x.length := by
  obtain ⟨hk, rfl⟩ := List.getElem?_eq_some_iff.1 h
  unfold lenF
  rw [List.take_succ_eq_append_getElem hk, List.map_append, List.sum_append]
  simp
theorem lenF_le (l : List Wd) (k : Nat) : lenF (l.take k) ≤ lenF l := by
  have h : lenF l = lenF (l.take k) + lenF (l.drop k) := by
    unfold lenF
    rw [← List.sum_append, ← List.map_append, List.take_append_drop]
  omega
theorem lenF_mem {l : List Wd} {x : Wd} (h : x ∈ l) : x.length ≤ lenF l := by
  induction l with
  | nil => cases h
  | cons y l ih =>
    unfold lenF at ih ⊢
    simp only [List.map_cons, List.sum_cons]
    rcases List.mem_cons.1 h with rfl | h
    · omega
    · have := ih h; omega
set_option maxHeartbeats 6400000 in
set_option maxRecDepth 100000 in
theorem few_any (a : Option Addr) (c : Nat) (l : List Wd) (w : World) (h : TxtAt w a c l) (hl : l.length ≤ 4000000) (hs : lenF l ≤ 4000000) :
    Calls Tryz.prog 5 #[.slice a l.length c] w fun e w' => e = .returned (.bool (fewF l)) ∧ w = w' := by
  obtain ⟨N, hN⟩ : ∃ N, l.length = N := ⟨_, rfl⟩
  have HR := Lib.hid (show fewF l = (decide (lenF l ≤ 20000) && decide (N ≤ 100)) from by unfold fewF; rw [hN])
  have HAT := Lib.hid h
  have HN := Lib.hid hN
  have HTK := Lib.hid (lenF_take l)
  have HLE := Lib.hid (lenF_le l)
  rw [hN] at hl ⊢
  obtain ⟨M, hM⟩ : ∃ M, lenF l = M := ⟨_, rfl⟩
  rw [hM] at hs HR
  have HM := Lib.hid hM
  have d1 : decide ((M : Int) ≤ (20000 : Int)) = decide (M ≤ 20000) := by congr 1; simp; omega
  have d2 : decide ((N : Int) ≤ (100 : Int)) = decide (N ≤ 100) := by congr 1; simp; omega
  obtain ⟨b1, hb1⟩ : ∃ b, decide (M ≤ 20000) = b := ⟨_, rfl⟩
  obtain ⟨b2, hb2⟩ : ∃ b, decide (N ≤ 100) = b := ⟨_, rfl⟩
  rw [hb1] at d1 HR
  rw [hb2] at d2 HR
  clear h hN hM
  go_enter Tryz.func5, Tryz.ntmps5
  go_wp2
  go_loop [3, 8] (fun s3 s8 => ∃ k m : Nat, k ≤ N ∧ s8 = .int .i64 k ∧ s3 = .int .i64 m ∧ m ≤ M ∧ Hid (m = lenF (l.take k))) (fun _ s8 => N - (intOf s8).toNat)
  case atStart => exact ⟨0, 0, Nat.zero_le _, rfl, rfl, Nat.zero_le _, Lib.hid rfl⟩
  case round =>
    obtain ⟨k, m, hk, rfl, rfl, hm, heq⟩ := hrel
    by_cases hkn : k < N
    · have hkd : (k : Int) < (N : Int) := by omega
      obtain ⟨x, hx⟩ : ∃ x, l[k]? = some x := ⟨_, List.getElem?_eq_getElem (by rw [HN.out]; exact hkn)⟩
      obtain ⟨g, o, rfl, hg, hc⟩ := HAT.out.at_ k x hx
      have h1 := HTK.out k x hx
      have h2 := HLE.out (k + 1)
      rw [HM.out] at h2
      have hmx : m + x.length ≤ M := by rw [heq.out]; omega
      have HEQ := Lib.hid (show m + x.length = lenF (l.take (k + 1)) from by rw [h1, heq.out])
      clear h1 h2 hx
      go_wp2_with fail
      go_round
      case rel => exact ⟨k + 1, m + x.length, by omega, by go_num, by go_num, hmx, HEQ⟩
      case measure => simp [intOf]; omega
    · have hke : k = N := by omega
      subst hke
      have hmM : m = M := by rw [heq.out, ← HM.out, ← HN.out, List.take_length]
      subst hmM
      clear heq hkn hm
      cases b1 <;> cases b2
      all_goals
        go_wp2_with fail
        go_ret
        rw [HR.out]
        exact ⟨rfl, rfl⟩
end Go.Proofs.YtafhmagifoapfaaGreatDoor
