/- TableKeeps: it fits, and nothing is lost: for every flow and every width the law answers true. No condition beyond the form's own. -/
import Derived.Test.YtepacocajnobgaaOpen
import Derived.Test.YtepacocajnobgaaSigns
import Derived.Test.YtepacocajnobgaaKeepsSpec
namespace Go.Proofs.Ytepacocajnobgaa
open Go.ChangeShapes Go.WideShapes Go.ChangeAt Go.RowKit

theorem fillOf_zero {l : List Gl} {wide : Int} (h : (fillOf l wide).2 ≠ 0) : (fillOf l wide).1 = [] := by
  unfold fillOf at h ⊢
  split
  · rfl
  · rename_i h1
    rw [if_neg h1] at h
    split
    · rfl
    · rename_i h2
      rw [if_neg h2] at h
      exact absurd rfl h
/-- What is wanted of the first k. -/
def wantU (wide : Int) (l : List Gl) (k : Nat) : List Gl := ((l.take k).filter Gl.isSign).map (fixG wide)
theorem wantU_step (wide : Int) (l : List Gl) (k : Nat) (h : k < l.length) : wantU wide l (k + 1) = if l[k].isSign then wantU wide l k ++ [fixG wide l[k]] else wantU wide l k := by
  unfold wantU
  rw [List.take_succ_eq_append_getElem h, List.filter_append]
  split <;> simp [*]
theorem wantU_len (wide : Int) (l : List Gl) (k : Nat) : (wantU wide l k).length ≤ l.length := by
  unfold wantU
  rw [List.length_map]
  exact Nat.le_trans (List.length_filter_le _ _) (by simp; omega)
/-- What the law asks of a flow's lines. -/
theorem fillOf_keeps {l : List Gl} {wide : Int} (h0 : (fillOf l wide).2 = 0) (hl : l.length ≤ 3000000000000) :
    (∀ x ∈ (fillOf l wide).1, wideOf x ≤ wide) ∧ ((fillOf l wide).1.flatten.filter Gl.isSign = wantU wide l l.length) ∧ (l.any Gl.isTab = false → ∀ x ∈ (fillOf l wide).1, Tight x) := by
  have hf := (fillOf_fits l wide hl).1
  have hlen := fillOf_len l wide hl
  have he : (fillOf l wide).1 = fillS wide l := by
    unfold fillOf at h0 ⊢
    split at h0
    · cases h0
    · rename_i h1
      rw [if_neg h1]
      split at h0
      · rename_i h2; exact absurd h0 h2
      · rename_i h2; rw [if_neg h2]
  refine ⟨fun x hx => ?_, ?_, fun ht x hx => ?_⟩
  · rw [wideOf_snoc_of x (hf x hx).1 (by have := hlen x hx; omega)]; exact (hf x hx).2
  · rw [he, fillS_keeps]; simp [wantU]
  · rw [he] at hx
    exact fillS_tight wide l (fun g hg => by simpa using List.any_eq_false.1 ht g hg) x hx
theorem anyTab_succ (l : List Gl) (k : Nat) (h : k < l.length) : (l.take (k + 1)).any Gl.isTab = ((l.take k).any Gl.isTab || l[k].isTab) := by
  rw [List.take_succ_eq_append_getElem h, List.any_append]; simp

set_option maxRecDepth 100000 in
set_option maxHeartbeats 16000000 in
theorem keeps_walk (v : Value) (l : List Gl) (wide : Int) (w : World) (hv : GlSl w v l) (hl : l.length ≤ 2932031007317) (hgw : ∀ g ∈ l, -9223372036854775808 ≤ g.wide ∧ g.wide ≤ 9223372036854775807) (_ : -9223372036854775808 ≤ wide ∧ wide ≤ 9223372036854775807) :
    Calls Try.prog 7 #[v, .int .i64 wide] w fun e w' => e = .returned (.bool true) ∧ Below w.heap.size w w' := by
  have Hv := Lib.hid hv
  obtain ⟨a, c, rfl⟩ := hv.shape
  have Hlen := Lib.hid (fillOf_len l wide (by omega))
  have Hkeeps := Lib.hid (fun h => fillOf_keeps (l := l) (wide := wide) h (by omega))
  have Hz := Lib.hid (fun h => fillOf_zero (l := l) (wide := wide) h)
  have hfn := (fillOf_fits l wide (by omega)).2
  have Hat := Lib.hid (show ∀ k, k < l.length → ∃ b off, a = some ⟨b, off, none⟩ ∧ GlAt w b off l from fun k hlt => by
    rcases hv with ⟨_, h⟩ | ⟨b, off, cap, h, hat⟩
    · rw [h] at hlt; simp at hlt
    · injection h with h1 h2 h3; exact ⟨b, off, h1, hat⟩)
  have Hgw := Lib.hid hgw
  clear hv hgw
  obtain ⟨j0, hj0, jz0, jz1, jz2⟩ := info_parts info49
  go_enter Try.func7, Try.ntmps7
  go_wp2_with fail
  refine (awake_any _).mono ?_
  rintro e w0 ⟨rfl, hb0⟩
  have Hb0 := Lib.hid hb0
  clear hb0
  go_wp2_with fail
  refine (twin_any _ l _ (by omega) (Hv.out.new Hb0.out)).mono ?_
  rintro e w1 ⟨v1, rfl, hown1, hb1⟩
  have Hb1 := Lib.hid (Hb0.out.trans (hb1.mono Hb0.out.size))
  have Hg1 := Lib.hid (glSl_of_owns hown1)
  clear hown1 hb1
  go_wp2_with fail
  refine (fill_any _ l wide _ Hg1.out hl).mono ?_
  rintro e w2 ⟨v2, rfl, hnew2, hb2⟩
  have Hb2 := Lib.hid (Hb1.out.trans (hb2.mono Hb1.out.size))
  have Hr2 := Lib.hid (RowsSl.of_new hnew2)
  obtain ⟨la, lc, hls, _⟩ := (RowsSl.of_new hnew2).shape
  have hw2 : w.heap.size ≤ w2.heap.size := Hb2.out.size
  clear hnew2 hb2
  subst hls
  obtain ⟨x, hx⟩ : ∃ x, x = fillOf l wide := ⟨_, rfl⟩
  rw [← hx] at Hlen Hkeeps Hz Hr2 hfn ⊢
  clear hx
  obtain ⟨ll, err⟩ := x
  by_cases herr : err = 0
  · subst herr
    obtain ⟨k1, k2, k3⟩ := Hkeeps.out rfl
    have K1 := Lib.hid k1
    have K2 := Lib.hid k2
    have K3 := Lib.hid k3
    simp only at hfn
    clear k1 k2 k3 Hkeeps Hz Hg1 Hb0 Hb1
    go_wp2_with fail
    go_loopw [7, 8, 9] (fun tb v i wr => ∃ k : Nat, k ≤ l.length ∧ i = .int .i64 k ∧ tb = .bool ((l.take k).any Gl.isTab) ∧ (∃ av cv, v = .slice av (wantU wide l k).length cv ∧ wr.ownsRow w2.heap.size 49 5 (.slice av (wantU wide l k).length cv) (wantU wide l k).length (glCells (wantU wide l k))) ∧ Below w2.heap.size w2 wr) (fun _ _ i _ => l.length - (intOf i).toNat)
    case atStart => exact ⟨0, Nat.zero_le _, rfl, rfl, ⟨none, 0, rfl, World.ownsRow_nil _ _ _ _⟩, Below.refl _ _⟩
    case round =>
      obtain ⟨k, hk, rfl, rfl, ⟨av, cv, rfl, hown⟩, hbel⟩ := hrel
      have Hown := Lib.hid hown
      have Hbel := Lib.hid hbel
      have hwr : w2.heap.size ≤ wr.heap.size := hbel.size
      have hwl := wantU_len wide l k
      clear hown hbel
      by_cases hlt : k < l.length
      · obtain ⟨b, off, ha, hat⟩ := Hat.out k hlt
        subst ha
        have hbw := hat.lt (by omega)
        obtain ⟨c0, c1, c2, c3, c4⟩ := (hat.same (w' := wr) ((Hbel.out.block b (Nat.lt_of_lt_of_le hbw hw2)).trans (Hb2.out.block b hbw))) k hlt
        have Hws := Lib.hid (wantU_step wide l k hlt)
        have Hts := Lib.hid (anyTab_succ l k hlt)
        have hgb := Hgw.out l[k] (List.getElem_mem hlt)
        clear hat
        generalize l[k] = g at *
        generalize (l.take k).any Gl.isTab = tb at *
        generalize htxt : g.isTab = tx at *
        have Htx := Lib.hid htxt
        have htx2 : (g.text.toList == [9]) = tx := htxt
        clear htxt
        obtain ⟨gb1, gb2⟩ := hgb
        have Htx := Htx
        have hBlk : ∀ w3 : World, Below (wr.alloc (.cells #[.string g.text, .int .i64 g.wide, .int .i64 g.attr, .int .i64 g.color, .int .i64 g.link] 49)).heap.size (wr.alloc (.cells #[.string g.text, .int .i64 g.wide, .int .i64 g.attr, .int .i64 g.color, .int .i64 g.link] 49)) w3 →
            w3.heap[wr.heap.size]? = some (.cells #[.string g.text, .int .i64 g.wide, .int .i64 g.attr, .int .i64 g.color, .int .i64 g.link] 49 (0, 0)) := fun w3 h => (h.block _ (by simp)).trans (heap_alloc_new _ _)
        have HBlk := Lib.hid hBlk
        clear hBlk
        cases tb
        all_goals cases tx
        all_goals
          go_wp2_with fail
          refine (sign_any g _).mono ?_
          rintro e w3 ⟨rfl, hb3⟩
          have hblk := HBlk.out w3 hb3
          have d0 : w3.cell? ⟨wr.heap.size, 0, none⟩ = some (.string g.text) := by simp [World.cell?, hblk]
          have d1 : w3.cell? ⟨wr.heap.size, 1, none⟩ = some (.int .i64 g.wide) := by simp [World.cell?, hblk]
          have d2 : w3.cell? ⟨wr.heap.size, 2, none⟩ = some (.int .i64 g.attr) := by simp [World.cell?, hblk]
          have d3 : w3.cell? ⟨wr.heap.size, 3, none⟩ = some (.int .i64 g.color) := by simp [World.cell?, hblk]
          have d4 : w3.cell? ⟨wr.heap.size, 4, none⟩ = some (.int .i64 g.link) := by simp [World.cell?, hblk]
          have f0 : w3.frozen? ⟨wr.heap.size, 0, none⟩ = false := by simp [World.frozen?, hblk]
          have f1 : w3.frozen? ⟨wr.heap.size, 1, none⟩ = false := by simp [World.frozen?, hblk]
          have Hb3 := Lib.hid ((Hbel.out.alloc hwr _).trans (hb3.mono (by simp; omega)))
          have Hown3 := Lib.hid (bget_block Hown.out fun b' hb' => (hb3.block b' (by have := (Hown.out.lt b' hb').2; simp; omega)).trans (Below.heap_alloc _ _ _ (Hown.out.lt b' hb').2))
          have hp3 : wr.heap.size < w3.heap.size := heap_lt hblk
          have hw3 : w2.heap.size ≤ w3.heap.size := by omega
          have Hne := Lib.hid (show ∀ b', (Value.slice av (wantU wide l k).length cv).ownBlock = some b' → b' ≠ wr.heap.size from fun b' hb' => by have := (Hown.out.lt b' hb').2; omega)
          clear hb3 hblk c0 c1 c2 c3 c4
          cases hsg : g.isSign
          · rw [hsg] at Hws
            have Hws2 := Lib.hid (show wantU wide l (k + 1) = wantU wide l k from Hws.out)
            clear Hws hsg
            go_wp2_with fail
            go_roundw
            case rel => exact ⟨k + 1, by omega, by go_num, by rw [Hts.out]; rfl, ⟨av, cv, by rw [Hws2.out], by rw [Hws2.out]; exact Hown3.out⟩, Hb3.out⟩
            case measure => simp [intOf]; omega
          · rw [hsg] at Hws
            have Hws2 := Lib.hid (show wantU wide l (k + 1) = wantU wide l k ++ [fixG wide g] from Hws.out)
            clear Hws hsg
            by_cases hgt : wide < g.wide
            · have hfx : fixG wide g = fixed g := by unfold fixG; rw [if_pos hgt]; rfl
              have Hfx := Lib.hid hfx
              clear hfx
              go_wp2_with (at_builtin; go_loud (refine wpList_append_lies _ rfl (.tmp 52) (.tmp 54) 22 rfl w2.heap.size 49 j0 _ 5 48 Try.underlying22 hj0 jz0 jz1 jz2 rfl (by omega) (.slice av (wantU wide l k).length cv) (wantU wide l k).length (glCells (wantU wide l k)) rfl ((bget_block Hown3.out (w' := (w3.setCell ⟨wr.heap.size, 0, none⟩ (.string ⟨#[63]⟩)).setCell ⟨wr.heap.size, 1, none⟩ (.int .i64 1)) fun b' hb' => (Below.heap_setCell _ _ _ _ (Hne.out b' hb')).trans (Below.heap_setCell _ _ _ _ (Hne.out b' hb'))).alloc _) ⟨w3.heap.size, 0, none⟩ 1 1 (fixed g).cells rfl rfl (World.news_of_block (cs := (fixed g).cells.toArray) (t := 49) (fr := (0, 0)) (newblk w3 _ _ (by simp [World.setCell]))) (by simp [Value.oneCell', Gl.cells]) (by omega) (by unfold maxLen; omega) (by omega) (by simp [World.setCell]; omega) (w3.heap.size + 1) (by simp [World.setCell]) ?_); intro gg cap w6 hown hgrow hat3 hlt3; have Hg3 := Lib.hid hgrow; clear hgrow; have Ho := Lib.hid hown; clear hown)
              go_roundw
              case rel =>
                refine ⟨k + 1, by omega, by go_num, by rw [Hts.out]; rfl, ⟨some ⟨gg, 0, none⟩, cap, ?_, ?_⟩, ((((Hb3.out.setCell (p := ⟨wr.heap.size, 0, none⟩) hwr _).setCell (p := ⟨wr.heap.size, 1, none⟩) hwr _).alloc (by simp [World.setCell]; omega) _).grown Hg3.out (by simp [World.setCell]; omega) fun m hm => (Hown3.out.lt m hm).1)⟩
                · rw [Hws2.out]; simp
                · rw [Hws2.out, Hfx.out, glCells_append, show glCells [fixed g] = (fixed g).cells by simp [glCells], List.length_append]
                  exact Ho.out
              case measure => simp [intOf]; omega
            · have hfx : fixG wide g = g := by unfold fixG; rw [if_neg hgt]
              have Hfx := Lib.hid hfx
              clear hfx
              go_wp2_with (at_builtin; go_loud (refine wpList_append_lies _ rfl (.tmp 52) (.tmp 54) 22 rfl w2.heap.size 49 j0 _ 5 48 Try.underlying22 hj0 jz0 jz1 jz2 rfl (by omega) (.slice av (wantU wide l k).length cv) (wantU wide l k).length (glCells (wantU wide l k)) rfl (Hown3.out.alloc _) ⟨w3.heap.size, 0, none⟩ 1 1 g.cells rfl rfl (World.news_of_block (cs := g.cells.toArray) (t := 49) (fr := (0, 0)) (heap_alloc_new w3 _)) (by simp [Value.oneCell', Gl.cells]) (by omega) (by unfold maxLen; omega) (by omega) (by simp; omega) (w3.heap.size + 1) (by simp) ?_); intro gg cap w6 hown hgrow hat3 hlt3; have Hg3 := Lib.hid hgrow; clear hgrow; have Ho := Lib.hid hown; clear hown)
              go_roundw
              case rel =>
                refine ⟨k + 1, by omega, by go_num, by rw [Hts.out]; rfl, ⟨some ⟨gg, 0, none⟩, cap, ?_, ?_⟩, ((Hb3.out.alloc hw3 _).grown Hg3.out (by simp; omega) fun m hm => (Hown3.out.lt m hm).1)⟩
                · rw [Hws2.out]; simp
                · rw [Hws2.out, Hfx.out, glCells_append, show glCells [g] = g.cells by simp [glCells], List.length_append]
                  exact Ho.out
              case measure => simp [intOf]; omega
      · obtain rfl : k = l.length := by omega
        rw [List.take_length] at *
        obtain ⟨wk, rfl⟩ : ∃ wk : World, wk = wr := ⟨_, rfl⟩
        go_wp2_with fail
        go_loopw [11] (fun i wr => ∃ r : Nat, r ≤ ll.length ∧ i = .int .i64 r ∧ Below wk.heap.size wk wr) (fun i _ => ll.length - (intOf i).toNat)
        case atStart => exact ⟨0, Nat.zero_le _, rfl, Below.refl _ _⟩
        case round =>
          obtain ⟨r, hr, rfl, hbk⟩ := hrel
          have Hbk := Lib.hid hbk
          have hwk : wk.heap.size ≤ wr.heap.size := hbk.size
          clear hbk
          by_cases hrl : r < ll.length
          · obtain ⟨la', lc', hle, hlr⟩ := Hr2.out.shape
            injection hle with e1 e2 e3
            subst e1
            obtain ⟨b, off, u, ha, hbw, q0, gl⟩ := hlr r hrl
            subst ha
            have hmem : ll.getD r [] ∈ ll := by rw [List.getD_eq_getElem?_getD, List.getElem?_eq_getElem hrl]; exact List.getElem_mem hrl
            have hRl := Hlen.out _ hmem
            have hRw := K1.out _ hmem
            have HRt := Lib.hid (fun h => K3.out h _ hmem)
            have HRl := Lib.hid hRl
            (try simp only at hRl); (try simp only at hRw)
            have Hw2r := Lib.hid (Hbel.out.trans (Hbk.out.mono hwr))
            have hw2r : w2.heap.size ≤ wr.heap.size := by omega
            obtain ⟨ua, uc, hue⟩ := gl.shape
            subst hue
            have hbr : b < wr.heap.size := by omega
            have Hsl := Lib.hid (gl.new Hw2r.out)
            have c0 : wr.cell? ⟨b, off + r, none⟩ = some (.slice ua (ll.getD r []).length uc) := (Hw2r.out.cell (p := ⟨b, off + r, none⟩) hbw).trans q0
            clear gl q0 hlr hmem e2 e3
            generalize ll.getD r [] = R at *
            generalize htb : l.any Gl.isTab = tb at *
            have Htb := Lib.hid htb
            clear htb
            have i1 : (0 : Int) ≤ (r : Int) := by omega
            have i2 : (r : Int) < (ll.length : Int) := by omega
            have e1 : decide (wide < wideOf R) = false := by simp; omega
            by_cases hn : 0 < R.length
            · cases tb
              · obtain ⟨lb, lo, he, hga⟩ : ∃ b2 o2, ua = some ⟨b2, o2, none⟩ ∧ GlAt wr b2 o2 R := by
                  rcases Hsl.out with ⟨_, h⟩ | ⟨b', o', c', h, h'⟩
                  · rw [h] at hn; simp at hn
                  · injection h with h1 h2 h3; exact ⟨b', o', h1, h'⟩
                subst he
                have hlb := hga.lt hn
                obtain ⟨d0, _⟩ := hga (R.length - 1) (by omega)
                have ht := HRt.out rfl hn
                have Ht := Lib.hid ht
                have e2 : (R[R.length - 1].text.toList == [32]) = false := by
                  unfold Gl.isSign at ht; cases h : R[R.length - 1].text.toList == [32] with
                  | true => rw [h] at ht; simp at ht
                  | false => rfl
                have e3 : decide ((0 : Int) < (R.length : Int)) = true := by simp; omega
                have e4 : IntKind.i64.wrap ((R.length : Int) - 1) = (R.length : Int) - 1 := IntWalk.i64_in _ (by omega)
                have e5 : (0 : Int) ≤ (R.length : Int) - 1 := by omega
                have e6 : (R.length : Int) - 1 < (R.length : Int) := by omega
                have e7 : ((R.length : Int) - 1).toNat = R.length - 1 := by omega
                have e8 : (1 : Int) ≤ (R.length : Int) := by omega
                have e9 : 1 ≤ R.length := by omega
                clear hga ht
                generalize R[R.length - 1].text = tx at *
                go_wp2_with fail
                go_region_held3 (fun w' => w'.cell? ⟨b, off + r, none⟩ = some (.slice (some ⟨lb, lo, none⟩) R.length uc) ∧ w'.cell? ⟨lb, lo + (R.length - 1) * 5, none⟩ = some (.string tx))
                  (first | (go_keep; done) | exact ⟨(hb5.cell (p := ⟨b, off + r, none⟩) (by simpa using hbr)).trans (by simpa using c0), (hb5.cell (p := ⟨lb, lo + (R.length - 1) * 5, none⟩) (by simpa using hlb)).trans (by simpa using d0)⟩)
                  (first
                    | (go_at_call 24; refine (rwide_any _ R _ (by omega) (by exact Hsl.out.same fun _ _ _ => rfl)).mono ?_; rintro e w5 ⟨rfl, hw5⟩; subst hw5)
                    | (go_at_call 25; refine (pwide_any _ R _ (by omega) (by exact Hsl.out.same fun _ _ _ => rfl)).mono ?_; rintro e w5 ⟨rfl, hb5⟩)
                    | (go_at_call 24; refine (rwide_any _ R _ (by omega) (by exact (Hsl.out.same (w' := wr.drew) fun _ _ _ => rfl).new hb5)).mono ?_; rintro e w6 ⟨rfl, hw6⟩; subst hw6))
                clear e1 e2 e3 e4 e5 e6 e7 e8 e9
                have Hb6 := Lib.hid (Hbk.out.trans ((show Below wr.heap.size wr w6 from ((Below.refl wr.heap.size wr).drew).trans hb5).mono hwk))
                go_wp2
                go_roundw
                case rel => exact ⟨r + 1, by omega, by go_num, Hb6.out⟩
                case measure => simp [intOf]; omega
              · have e3 : decide ((0 : Int) < (R.length : Int)) = true := by simp; omega
                go_wp2_with fail
                refine wp_region_noPanic ?_
                refine wp_region_held_drew (S := (fun w' => w'.cell? ⟨b, off + r, none⟩ = some (.slice ua R.length uc))) (by kernel_rfl) ?_ (fun hHeld => ?_)
                · (try dsimp only)
                  first | (go_keep; done) | exact (hb5.cell (p := ⟨b, off + r, none⟩) (by simpa using hbr)).trans (by simpa using c0)
                refine wpAnyH_take (i := 0) (oi := { dst := some 67, op := Op.move (Operand.tmp 5), type := 23, pos := "outright.go:49", after := #[], guard := none }) (v := ?kv0) rfl (by kernel_rfl) (by kernel_rfl) (by kernel_rfl) (fun _ _ _ h => h) (Or.inl ⟨by rfl, ?kh0⟩) (by assumption) ?_
                case kh0 => (intro w hSw; (try dsimp only at hSw); go_simp; (try with_reducible rfl))
                simp only [Act.put, List.setIfInBounds_toArray, List.set_cons_succ, List.set_cons_zero]
                refine wpAnyH_take (i := 1) (oi := { dst := some 68, op := Op.move (Operand.tmp 11), type := 3, pos := "outright.go:49", after := #[], guard := none }) (v := ?kv1) rfl (by kernel_rfl) (by kernel_rfl) (by kernel_rfl) (fun _ _ _ h => h) (Or.inl ⟨by rfl, ?kh1⟩) (by assumption) ?_
                case kh1 => (intro w hSw; (try dsimp only at hSw); go_simp; (try with_reducible rfl))
                simp only [Act.put, List.setIfInBounds_toArray, List.set_cons_succ, List.set_cons_zero]
                refine wpAnyH_take (i := 2) (oi := { dst := some 69, op := Op.indexAddr 23 (Operand.tmp 67) (Operand.tmp 68), type := 0, pos := "outright.go:49", after := #[{ on := 0, ground := Ground.data }, { on := 1, ground := Ground.data }], guard := none }) (v := ?kv2) rfl (by kernel_rfl) (by kernel_rfl) (by kernel_rfl) (fun _ _ _ h => h) (Or.inl ⟨by rfl, ?kh2⟩) (by assumption) ?_
                case kh2 => (intro w hSw; (try dsimp only at hSw); go_simp; (try with_reducible rfl))
                simp only [Act.put, List.setIfInBounds_toArray, List.set_cons_succ, List.set_cons_zero]
                refine wpAnyH_take (i := 3) (oi := { dst := some 70, op := Op.load 22 (Operand.tmp 69), type := 22, pos := "outright.go:49", after := #[{ on := 2, ground := Ground.data }], guard := none }) (v := ?kv3) rfl (by kernel_rfl) (by kernel_rfl) (by kernel_rfl) (fun _ _ _ h => h) (Or.inl ⟨by rfl, ?kh3⟩) (by assumption) ?_
                case kh3 => (intro w hSw; (try dsimp only at hSw); go_simp; (try with_reducible rfl))
                simp only [Act.put, List.setIfInBounds_toArray, List.set_cons_succ, List.set_cons_zero]
                refine wpAnyH_take (i := 5) (oi := { dst := some 72, op := Op.move (Operand.tmp 1), type := 3, pos := "outright.go:49", after := #[], guard := none }) (v := ?kv5) rfl (by kernel_rfl) (by kernel_rfl) (by kernel_rfl) (fun _ _ _ h => h) (Or.inl ⟨by rfl, ?kh5⟩) (by assumption) ?_
                case kh5 => (intro w hSw; (try dsimp only at hSw); go_simp; (try with_reducible rfl))
                simp only [Act.put, List.setIfInBounds_toArray, List.set_cons_succ, List.set_cons_zero]
                refine wpAnyH_ready (rs := [4]) (by kernel_rfl) (by simp) ?_
                refine AllReadyH.cons (o := { dst := some 71, op := Op.call { callee := Callee.value (Operand.func 24), args := #[Operand.tmp 70], argTypes := #[22] }, type := 3, pos := "outright.go:49", after := #[{ on := 3, ground := Ground.data }], guard := none }) rfl (fun K hK => ?_) AllReadyH.nil
                go_simp
                go_at_call 24
                refine (rwide_any _ R _ (by have := HRl.out; omega) (by exact Hsl.out.same fun _ _ _ => rfl)).mono ?_
                rintro e w5 ⟨rfl, hw5⟩
                subst hw5
                go_wp2_with fail
                refine hK.out _ _ ?_ (fun hHeld => ?_)
                · (try dsimp only)
                  first | (go_keep; done) | exact (hb5.cell (p := ⟨b, off + r, none⟩) (by simpa using hbr)).trans (by simpa using c0)
                clear hK K
                try simp only [Act.put, List.setIfInBounds_toArray, List.set_cons_succ, List.set_cons_zero]
                refine wpAnyH_take (i := 6) (oi := { dst := some 73, op := Op.binOp BinOp.gtr 3 (Operand.tmp 71) (Operand.tmp 72) 3, type := 4, pos := "outright.go:49", after := #[{ on := 4, ground := Ground.data }, { on := 5, ground := Ground.data }], guard := none }) (v := ?kv6) rfl (by kernel_rfl) (by kernel_rfl) (by kernel_rfl) (fun _ _ _ h => h) (Or.inl ⟨by rfl, ?kh6⟩) (by assumption) ?_
                case kh6 => (intro w hSw; (try dsimp only at hSw); go_simp; (try with_reducible rfl))
                simp only [Act.put, List.setIfInBounds_toArray, List.set_cons_succ, List.set_cons_zero]
                refine wpAnyH_take (i := 7) (oi := { dst := some 74, op := Op.move (Operand.tmp 73), type := 4, pos := "outright.go:49", after := #[{ on := 6, ground := Ground.data }, { on := 4, ground := Ground.chain }], guard := none }) (v := ?kv7) rfl (by kernel_rfl) (by kernel_rfl) (by kernel_rfl) (fun _ _ _ h => h) (Or.inl ⟨by rfl, ?kh7⟩) (by assumption) ?_
                case kh7 => (intro w hSw; (try dsimp only at hSw); go_simp; (try with_reducible rfl))
                simp only [Act.put, List.setIfInBounds_toArray, List.set_cons_succ, List.set_cons_zero]
                refine wpAnyH_take (i := 8) (oi := { dst := some 75, op := Op.move (Operand.tmp 5), type := 23, pos := "outright.go:49", after := #[{ on := 7, ground := Ground.guard }], guard := some (7, false) }) (v := ?kv8) rfl (by kernel_rfl) (by kernel_rfl) (by kernel_rfl) (fun _ _ _ h => h) (Or.inl ⟨by rfl, ?kh8⟩) (by assumption) ?_
                case kh8 => (intro w hSw; (try dsimp only at hSw); go_simp; (try with_reducible rfl))
                simp only [Act.put, List.setIfInBounds_toArray, List.set_cons_succ, List.set_cons_zero]
                refine wpAnyH_take (i := 9) (oi := { dst := some 76, op := Op.move (Operand.tmp 11), type := 3, pos := "outright.go:49", after := #[{ on := 7, ground := Ground.guard }], guard := some (7, false) }) (v := ?kv9) rfl (by kernel_rfl) (by kernel_rfl) (by kernel_rfl) (fun _ _ _ h => h) (Or.inl ⟨by rfl, ?kh9⟩) (by assumption) ?_
                case kh9 => (intro w hSw; (try dsimp only at hSw); go_simp; (try with_reducible rfl))
                simp only [Act.put, List.setIfInBounds_toArray, List.set_cons_succ, List.set_cons_zero]
                refine wpAnyH_take (i := 10) (oi := { dst := some 77, op := Op.indexAddr 23 (Operand.tmp 75) (Operand.tmp 76), type := 0, pos := "outright.go:49", after := #[{ on := 8, ground := Ground.data }, { on := 9, ground := Ground.data }, { on := 7, ground := Ground.guard }], guard := some (7, false) }) (v := ?kv10) rfl (by kernel_rfl) (by kernel_rfl) (by kernel_rfl) (fun _ _ _ h => h) (Or.inl ⟨by rfl, ?kh10⟩) (by assumption) ?_
                case kh10 => (intro w hSw; (try dsimp only at hSw); go_simp; (try with_reducible rfl))
                simp only [Act.put, List.setIfInBounds_toArray, List.set_cons_succ, List.set_cons_zero]
                refine wpAnyH_take (i := 11) (oi := { dst := some 78, op := Op.load 22 (Operand.tmp 77), type := 22, pos := "outright.go:49", after := #[{ on := 10, ground := Ground.data }, { on := 7, ground := Ground.guard }], guard := some (7, false) }) (v := ?kv11) rfl (by kernel_rfl) (by kernel_rfl) (by kernel_rfl) (fun _ _ _ h => h) (Or.inl ⟨by rfl, ?kh11⟩) (by assumption) ?_
                case kh11 => (intro w hSw; (try dsimp only at hSw); go_simp; (try with_reducible rfl))
                simp only [Act.put, List.setIfInBounds_toArray, List.set_cons_succ, List.set_cons_zero]
                refine wpAnyH_take (i := 13) (oi := { dst := some 80, op := Op.move (Operand.tmp 5), type := 23, pos := "outright.go:49", after := #[{ on := 7, ground := Ground.guard }], guard := some (7, false) }) (v := ?kv13) rfl (by kernel_rfl) (by kernel_rfl) (by kernel_rfl) (fun _ _ _ h => h) (Or.inl ⟨by rfl, ?kh13⟩) (by assumption) ?_
                case kh13 => (intro w hSw; (try dsimp only at hSw); go_simp; (try with_reducible rfl))
                simp only [Act.put, List.setIfInBounds_toArray, List.set_cons_succ, List.set_cons_zero]
                refine wpAnyH_take (i := 14) (oi := { dst := some 81, op := Op.move (Operand.tmp 11), type := 3, pos := "outright.go:49", after := #[{ on := 7, ground := Ground.guard }], guard := some (7, false) }) (v := ?kv14) rfl (by kernel_rfl) (by kernel_rfl) (by kernel_rfl) (fun _ _ _ h => h) (Or.inl ⟨by rfl, ?kh14⟩) (by assumption) ?_
                case kh14 => (intro w hSw; (try dsimp only at hSw); go_simp; (try with_reducible rfl))
                simp only [Act.put, List.setIfInBounds_toArray, List.set_cons_succ, List.set_cons_zero]
                refine wpAnyH_take (i := 15) (oi := { dst := some 82, op := Op.indexAddr 23 (Operand.tmp 80) (Operand.tmp 81), type := 0, pos := "outright.go:49", after := #[{ on := 13, ground := Ground.data }, { on := 14, ground := Ground.data }, { on := 7, ground := Ground.guard }], guard := some (7, false) }) (v := ?kv15) rfl (by kernel_rfl) (by kernel_rfl) (by kernel_rfl) (fun _ _ _ h => h) (Or.inl ⟨by rfl, ?kh15⟩) (by assumption) ?_
                case kh15 => (intro w hSw; (try dsimp only at hSw); go_simp; (try with_reducible rfl))
                simp only [Act.put, List.setIfInBounds_toArray, List.set_cons_succ, List.set_cons_zero]
                refine wpAnyH_take (i := 16) (oi := { dst := some 83, op := Op.load 22 (Operand.tmp 82), type := 22, pos := "outright.go:49", after := #[{ on := 15, ground := Ground.data }, { on := 7, ground := Ground.guard }], guard := some (7, false) }) (v := ?kv16) rfl (by kernel_rfl) (by kernel_rfl) (by kernel_rfl) (fun _ _ _ h => h) (Or.inl ⟨by rfl, ?kh16⟩) (by assumption) ?_
                case kh16 => (intro w hSw; (try dsimp only at hSw); go_simp; (try with_reducible rfl))
                simp only [Act.put, List.setIfInBounds_toArray, List.set_cons_succ, List.set_cons_zero]
                refine wpAnyH_ready (rs := [12]) (by kernel_rfl) (by simp) ?_
                refine AllReadyH.cons (o := { dst := some 79, op := Op.call { callee := Callee.value (Operand.func 25), args := #[Operand.tmp 78], argTypes := #[22] }, type := 3, pos := "outright.go:49", after := #[{ on := 11, ground := Ground.data }, { on := 7, ground := Ground.chain }, { on := 7, ground := Ground.guard }], guard := some (7, false) }) rfl (fun K hK => ?_) AllReadyH.nil
                go_simp
                go_at_call 25
                refine (pwide_any _ R _ (by have := HRl.out; omega) (by exact Hsl.out.same fun _ _ _ => rfl)).mono ?_
                rintro e w5 ⟨rfl, hb5⟩
                go_wp2_with fail
                refine hK.out _ _ ?_ (fun hHeld => ?_)
                · (try dsimp only)
                  first | (go_keep; done) | exact (hb5.cell (p := ⟨b, off + r, none⟩) (by simpa using hbr)).trans (by simpa using c0)
                clear hK K
                try simp only [Act.put, List.setIfInBounds_toArray, List.set_cons_succ, List.set_cons_zero]
                refine wpAnyH_ready (rs := [17]) (by kernel_rfl) (by simp) ?_
                refine AllReadyH.cons (o := { dst := some 84, op := Op.call { callee := Callee.value (Operand.func 24), args := #[Operand.tmp 83], argTypes := #[22] }, type := 3, pos := "outright.go:49", after := #[{ on := 16, ground := Ground.data }, { on := 12, ground := Ground.chain }, { on := 7, ground := Ground.guard }], guard := some (7, false) }) rfl (fun K hK => ?_) AllReadyH.nil
                go_simp
                go_at_call 24
                refine (rwide_any _ R _ (by have := HRl.out; omega) (by exact (Hsl.out.same (w' := wr.drew) fun _ _ _ => rfl).new hb5)).mono ?_
                rintro e w6 ⟨rfl, hw6⟩
                subst hw6
                go_wp2_with fail
                refine hK.out _ _ ?_ (fun hHeld => ?_)
                · (try dsimp only)
                  first | (go_keep; done) | exact (hb5.cell (p := ⟨b, off + r, none⟩) (by simpa using hbr)).trans (by simpa using c0)
                clear hK K
                try simp only [Act.put, List.setIfInBounds_toArray, List.set_cons_succ, List.set_cons_zero]
                refine wpAnyH_take (i := 18) (oi := { dst := some 85, op := Op.binOp BinOp.neq 3 (Operand.tmp 79) (Operand.tmp 84) 3, type := 4, pos := "outright.go:49", after := #[{ on := 12, ground := Ground.data }, { on := 17, ground := Ground.data }, { on := 7, ground := Ground.guard }], guard := some (7, false) }) (v := ?kv18) rfl (by kernel_rfl) (by kernel_rfl) (by kernel_rfl) (fun _ _ _ h => h) (Or.inl ⟨by rfl, ?kh18⟩) (by assumption) ?_
                case kh18 => (intro w hSw; (try dsimp only at hSw); go_simp; (try with_reducible rfl))
                simp only [Act.put, List.setIfInBounds_toArray, List.set_cons_succ, List.set_cons_zero]
                refine wpAnyH_take (i := 19) (oi := { dst := some 86, op := Op.pick (Operand.tmp 74) (Operand.const (Value.bool true)) (Operand.tmp 85), type := 4, pos := "outright.go:49", after := #[{ on := 7, ground := Ground.data }, { on := 18, ground := Ground.data }], guard := none }) (v := ?kv19) rfl (by kernel_rfl) (by kernel_rfl) (by kernel_rfl) (fun _ _ _ h => h) (Or.inl ⟨by rfl, ?kh19⟩) (by assumption) ?_
                case kh19 => (intro w hSw; (try dsimp only at hSw); go_simp; (try with_reducible rfl))
                simp only [Act.put, List.setIfInBounds_toArray, List.set_cons_succ, List.set_cons_zero]
                refine wpAnyH_take (i := 20) (oi := { dst := some 87, op := Op.move (Operand.tmp 86), type := 4, pos := "outright.go:49", after := #[{ on := 19, ground := Ground.data }, { on := 17, ground := Ground.chain }], guard := none }) (v := ?kv20) rfl (by kernel_rfl) (by kernel_rfl) (by kernel_rfl) (fun _ _ _ h => h) (Or.inl ⟨by rfl, ?kh20⟩) (by assumption) ?_
                case kh20 => (intro w hSw; (try dsimp only at hSw); go_simp; (try with_reducible rfl))
                simp only [Act.put, List.setIfInBounds_toArray, List.set_cons_succ, List.set_cons_zero]
                refine wpAnyH_take (i := 21) (oi := { dst := some 88, op := Op.move (Operand.tmp 12), type := 3, pos := "outright.go:49", after := #[{ on := 20, ground := Ground.guard }], guard := some (20, false) }) (v := ?kv21) rfl (by kernel_rfl) (by kernel_rfl) (by kernel_rfl) (fun _ _ _ h => h) (Or.inl ⟨by rfl, ?kh21⟩) (by assumption) ?_
                case kh21 => (intro w hSw; (try dsimp only at hSw); go_simp; (try with_reducible rfl))
                simp only [Act.put, List.setIfInBounds_toArray, List.set_cons_succ, List.set_cons_zero]
                refine wpAnyH_take (i := 22) (oi := { dst := some 89, op := Op.binOp BinOp.gtr 3 (Operand.tmp 88) (Operand.const (Value.int IntKind.i64 0)) 3, type := 4, pos := "outright.go:49", after := #[{ on := 21, ground := Ground.data }, { on := 20, ground := Ground.guard }], guard := some (20, false) }) (v := ?kv22) rfl (by kernel_rfl) (by kernel_rfl) (by kernel_rfl) (fun _ _ _ h => h) (Or.inl ⟨by rfl, ?kh22⟩) (by assumption) ?_
                case kh22 => (intro w hSw; (try dsimp only at hSw); go_simp; (try with_reducible rfl))
                simp only [Act.put, List.setIfInBounds_toArray, List.set_cons_succ, List.set_cons_zero]
                refine wpAnyH_take (i := 23) (oi := { dst := some 90, op := Op.move (Operand.tmp 89), type := 4, pos := "outright.go:49", after := #[{ on := 22, ground := Ground.data }, { on := 20, ground := Ground.chain }, { on := 20, ground := Ground.guard }], guard := some (20, false) }) (v := ?kv23) rfl (by kernel_rfl) (by kernel_rfl) (by kernel_rfl) (fun _ _ _ h => h) (Or.inl ⟨by rfl, ?kh23⟩) (by assumption) ?_
                case kh23 => (intro w hSw; (try dsimp only at hSw); go_simp; (try with_reducible rfl))
                simp only [Act.put, List.setIfInBounds_toArray, List.set_cons_succ, List.set_cons_zero]
                refine wpAnyH_take (i := 24) (oi := { dst := some 91, op := Op.move (Operand.tmp 7), type := 4, pos := "outright.go:49", after := #[{ on := 23, ground := Ground.guard }], guard := some (23, true) }) (v := ?kv24) rfl (by kernel_rfl) (by kernel_rfl) (by kernel_rfl) (fun _ _ _ h => h) (Or.inl ⟨by rfl, ?kh24⟩) (by assumption) ?_
                case kh24 => (intro w hSw; (try dsimp only at hSw); go_simp; (try with_reducible rfl))
                simp only [Act.put, List.setIfInBounds_toArray, List.set_cons_succ, List.set_cons_zero]
                refine wpAnyH_take (i := 25) (oi := { dst := some 92, op := Op.unOp UnOp.not 4 (Operand.tmp 91), type := 4, pos := "outright.go:49", after := #[{ on := 24, ground := Ground.data }, { on := 23, ground := Ground.guard }], guard := some (23, true) }) (v := ?kv25) rfl (by kernel_rfl) (by kernel_rfl) (by kernel_rfl) (fun _ _ _ h => h) (Or.inl ⟨by rfl, ?kh25⟩) (by assumption) ?_
                case kh25 => (intro w hSw; (try dsimp only at hSw); go_simp; (try with_reducible rfl))
                simp only [Act.put, List.setIfInBounds_toArray, List.set_cons_succ, List.set_cons_zero]
                refine wpAnyH_take (i := 26) (oi := { dst := some 93, op := Op.pick (Operand.tmp 90) (Operand.tmp 92) (Operand.const (Value.bool false)), type := 4, pos := "outright.go:49", after := #[{ on := 23, ground := Ground.data }, { on := 25, ground := Ground.data }, { on := 20, ground := Ground.guard }], guard := some (20, false) }) (v := ?kv26) rfl (by kernel_rfl) (by kernel_rfl) (by kernel_rfl) (fun _ _ _ h => h) (Or.inl ⟨by rfl, ?kh26⟩) (by assumption) ?_
                case kh26 => (intro w hSw; (try dsimp only at hSw); go_simp; (try with_reducible rfl))
                simp only [Act.put, List.setIfInBounds_toArray, List.set_cons_succ, List.set_cons_zero]
                refine wpAnyH_take (i := 27) (oi := { dst := some 94, op := Op.move (Operand.tmp 93), type := 4, pos := "outright.go:49", after := #[{ on := 26, ground := Ground.data }, { on := 23, ground := Ground.chain }, { on := 20, ground := Ground.guard }], guard := some (20, false) }) (v := ?kv27) rfl (by kernel_rfl) (by kernel_rfl) (by kernel_rfl) (fun _ _ _ h => h) (Or.inl ⟨by rfl, ?kh27⟩) (by assumption) ?_
                case kh27 => (intro w hSw; (try dsimp only at hSw); go_simp; (try with_reducible rfl))
                simp only [Act.put, List.setIfInBounds_toArray, List.set_cons_succ, List.set_cons_zero]
                refine wpAnyH_take (i := 28) (oi := { dst := some 95, op := Op.move (Operand.tmp 5), type := 23, pos := "outright.go:49", after := #[{ on := 27, ground := Ground.guard }], guard := some (27, true) }) (v := undef) rfl (by kernel_rfl) (by kernel_rfl) (by kernel_rfl) (fun _ _ _ h => h) (Or.inr ⟨by rfl, rfl⟩) (by assumption) ?_
                simp only [Act.put, List.setIfInBounds_toArray, List.set_cons_succ, List.set_cons_zero]
                refine wpAnyH_take (i := 29) (oi := { dst := some 96, op := Op.move (Operand.tmp 11), type := 3, pos := "outright.go:49", after := #[{ on := 27, ground := Ground.guard }], guard := some (27, true) }) (v := undef) rfl (by kernel_rfl) (by kernel_rfl) (by kernel_rfl) (fun _ _ _ h => h) (Or.inr ⟨by rfl, rfl⟩) (by assumption) ?_
                simp only [Act.put, List.setIfInBounds_toArray, List.set_cons_succ, List.set_cons_zero]
                refine wpAnyH_take (i := 30) (oi := { dst := some 97, op := Op.indexAddr 23 (Operand.tmp 95) (Operand.tmp 96), type := 0, pos := "outright.go:49", after := #[{ on := 28, ground := Ground.data }, { on := 29, ground := Ground.data }, { on := 27, ground := Ground.guard }], guard := some (27, true) }) (v := undef) rfl (by kernel_rfl) (by kernel_rfl) (by kernel_rfl) (fun _ _ _ h => h) (Or.inr ⟨by rfl, rfl⟩) (by assumption) ?_
                simp only [Act.put, List.setIfInBounds_toArray, List.set_cons_succ, List.set_cons_zero]
                refine wpAnyH_take (i := 31) (oi := { dst := some 98, op := Op.load 22 (Operand.tmp 97), type := 22, pos := "outright.go:49", after := #[{ on := 30, ground := Ground.data }, { on := 27, ground := Ground.guard }], guard := some (27, true) }) (v := undef) rfl (by kernel_rfl) (by kernel_rfl) (by kernel_rfl) (fun _ _ _ h => h) (Or.inr ⟨by rfl, rfl⟩) (by assumption) ?_
                simp only [Act.put, List.setIfInBounds_toArray, List.set_cons_succ, List.set_cons_zero]
                refine wpAnyH_take (i := 32) (oi := { dst := some 99, op := Op.move (Operand.tmp 12), type := 3, pos := "outright.go:49", after := #[{ on := 27, ground := Ground.guard }], guard := some (27, true) }) (v := undef) rfl (by kernel_rfl) (by kernel_rfl) (by kernel_rfl) (fun _ _ _ h => h) (Or.inr ⟨by rfl, rfl⟩) (by assumption) ?_
                simp only [Act.put, List.setIfInBounds_toArray, List.set_cons_succ, List.set_cons_zero]
                refine wpAnyH_take (i := 33) (oi := { dst := some 100, op := Op.binOp BinOp.sub 3 (Operand.tmp 99) (Operand.const (Value.int IntKind.i64 1)) 3, type := 3, pos := "outright.go:49", after := #[{ on := 32, ground := Ground.data }, { on := 27, ground := Ground.guard }], guard := some (27, true) }) (v := undef) rfl (by kernel_rfl) (by kernel_rfl) (by kernel_rfl) (fun _ _ _ h => h) (Or.inr ⟨by rfl, rfl⟩) (by assumption) ?_
                simp only [Act.put, List.setIfInBounds_toArray, List.set_cons_succ, List.set_cons_zero]
                refine wpAnyH_take (i := 34) (oi := { dst := some 101, op := Op.indexAddr 22 (Operand.tmp 98) (Operand.tmp 100), type := 0, pos := "outright.go:49", after := #[{ on := 31, ground := Ground.data }, { on := 33, ground := Ground.data }, { on := 27, ground := Ground.guard }], guard := some (27, true) }) (v := undef) rfl (by kernel_rfl) (by kernel_rfl) (by kernel_rfl) (fun _ _ _ h => h) (Or.inr ⟨by rfl, rfl⟩) (by assumption) ?_
                simp only [Act.put, List.setIfInBounds_toArray, List.set_cons_succ, List.set_cons_zero]
                refine wpAnyH_take (i := 35) (oi := { dst := some 102, op := Op.fieldAddr 49 (Operand.tmp 101) 0, type := 0, pos := "outright.go:49", after := #[{ on := 34, ground := Ground.data }, { on := 27, ground := Ground.guard }], guard := some (27, true) }) (v := undef) rfl (by kernel_rfl) (by kernel_rfl) (by kernel_rfl) (fun _ _ _ h => h) (Or.inr ⟨by rfl, rfl⟩) (by assumption) ?_
                simp only [Act.put, List.setIfInBounds_toArray, List.set_cons_succ, List.set_cons_zero]
                refine wpAnyH_take (i := 36) (oi := { dst := some 103, op := Op.load 9 (Operand.tmp 102), type := 9, pos := "outright.go:49", after := #[{ on := 35, ground := Ground.data }, { on := 27, ground := Ground.guard }], guard := some (27, true) }) (v := undef) rfl (by kernel_rfl) (by kernel_rfl) (by kernel_rfl) (fun _ _ _ h => h) (Or.inr ⟨by rfl, rfl⟩) (by assumption) ?_
                simp only [Act.put, List.setIfInBounds_toArray, List.set_cons_succ, List.set_cons_zero]
                refine wpAnyH_take (i := 37) (oi := { dst := some 104, op := Op.binOp BinOp.eql 9 (Operand.tmp 103) (Operand.const (Value.string { data := #[32] })) 9, type := 4, pos := "outright.go:49", after := #[{ on := 36, ground := Ground.data }, { on := 27, ground := Ground.guard }], guard := some (27, true) }) (v := undef) rfl (by kernel_rfl) (by kernel_rfl) (by kernel_rfl) (fun _ _ _ h => h) (Or.inr ⟨by rfl, rfl⟩) (by assumption) ?_
                simp only [Act.put, List.setIfInBounds_toArray, List.set_cons_succ, List.set_cons_zero]
                refine wpAnyH_take (i := 38) (oi := { dst := some 105, op := Op.pick (Operand.tmp 94) (Operand.tmp 104) (Operand.const (Value.bool false)), type := 4, pos := "outright.go:49", after := #[{ on := 27, ground := Ground.data }, { on := 37, ground := Ground.data }, { on := 20, ground := Ground.guard }], guard := some (20, false) }) (v := ?kv38) rfl (by kernel_rfl) (by kernel_rfl) (by kernel_rfl) (fun _ _ _ h => h) (Or.inl ⟨by rfl, ?kh38⟩) (by assumption) ?_
                case kh38 => (intro w hSw; (try dsimp only at hSw); go_simp; (try with_reducible rfl))
                simp only [Act.put, List.setIfInBounds_toArray, List.set_cons_succ, List.set_cons_zero]
                refine wpAnyH_take (i := 39) (oi := { dst := some 106, op := Op.pick (Operand.tmp 87) (Operand.const (Value.bool true)) (Operand.tmp 105), type := 4, pos := "outright.go:49", after := #[{ on := 20, ground := Ground.data }, { on := 38, ground := Ground.data }], guard := none }) (v := ?kv39) rfl (by kernel_rfl) (by kernel_rfl) (by kernel_rfl) (fun _ _ _ h => h) (Or.inl ⟨by rfl, ?kh39⟩) (by assumption) ?_
                case kh39 => (intro w hSw; (try dsimp only at hSw); go_simp; (try with_reducible rfl))
                simp only [Act.put, List.setIfInBounds_toArray, List.set_cons_succ, List.set_cons_zero]
                refine wpAnyH_done (by kernel_rfl) ?_ _
                refine NoPanic.normal ?_
                have Hb6 := Lib.hid (Hbk.out.trans ((show Below wr.heap.size wr _ from ((Below.refl wr.heap.size wr).drew).trans hb5).mono hwk))
                clear e1 e3
                go_wp2
                go_roundw
                case rel => exact ⟨r + 1, by omega, by go_num, Hb6.out⟩
                case measure => simp [intOf]; omega
            · have e3 : decide ((0 : Int) < (R.length : Int)) = false := decide_eq_false (by omega)
              go_wp2_with fail
              refine wp_region_noPanic ?_
              refine wp_region_held_drew (S := (fun w' => w'.cell? ⟨b, off + r, none⟩ = some (.slice ua R.length uc))) (by kernel_rfl) ?_ (fun hHeld => ?_)
              · (try dsimp only)
                first | (go_keep; done) | exact (hb5.cell (p := ⟨b, off + r, none⟩) (by simpa using hbr)).trans (by simpa using c0)
              refine wpAnyH_take (i := 0) (oi := { dst := some 67, op := Op.move (Operand.tmp 5), type := 23, pos := "outright.go:49", after := #[], guard := none }) (v := ?mv0) rfl (by kernel_rfl) (by kernel_rfl) (by kernel_rfl) (fun _ _ _ h => h) (Or.inl ⟨by rfl, ?mh0⟩) (by assumption) ?_
              case mh0 => (intro w hSw; (try dsimp only at hSw); go_simp; (try with_reducible rfl))
              simp only [Act.put, List.setIfInBounds_toArray, List.set_cons_succ, List.set_cons_zero]
              refine wpAnyH_take (i := 1) (oi := { dst := some 68, op := Op.move (Operand.tmp 11), type := 3, pos := "outright.go:49", after := #[], guard := none }) (v := ?mv1) rfl (by kernel_rfl) (by kernel_rfl) (by kernel_rfl) (fun _ _ _ h => h) (Or.inl ⟨by rfl, ?mh1⟩) (by assumption) ?_
              case mh1 => (intro w hSw; (try dsimp only at hSw); go_simp; (try with_reducible rfl))
              simp only [Act.put, List.setIfInBounds_toArray, List.set_cons_succ, List.set_cons_zero]
              refine wpAnyH_take (i := 2) (oi := { dst := some 69, op := Op.indexAddr 23 (Operand.tmp 67) (Operand.tmp 68), type := 0, pos := "outright.go:49", after := #[{ on := 0, ground := Ground.data }, { on := 1, ground := Ground.data }], guard := none }) (v := ?mv2) rfl (by kernel_rfl) (by kernel_rfl) (by kernel_rfl) (fun _ _ _ h => h) (Or.inl ⟨by rfl, ?mh2⟩) (by assumption) ?_
              case mh2 => (intro w hSw; (try dsimp only at hSw); go_simp; (try with_reducible rfl))
              simp only [Act.put, List.setIfInBounds_toArray, List.set_cons_succ, List.set_cons_zero]
              refine wpAnyH_take (i := 3) (oi := { dst := some 70, op := Op.load 22 (Operand.tmp 69), type := 22, pos := "outright.go:49", after := #[{ on := 2, ground := Ground.data }], guard := none }) (v := ?mv3) rfl (by kernel_rfl) (by kernel_rfl) (by kernel_rfl) (fun _ _ _ h => h) (Or.inl ⟨by rfl, ?mh3⟩) (by assumption) ?_
              case mh3 => (intro w hSw; (try dsimp only at hSw); go_simp; (try with_reducible rfl))
              simp only [Act.put, List.setIfInBounds_toArray, List.set_cons_succ, List.set_cons_zero]
              refine wpAnyH_take (i := 5) (oi := { dst := some 72, op := Op.move (Operand.tmp 1), type := 3, pos := "outright.go:49", after := #[], guard := none }) (v := ?mv5) rfl (by kernel_rfl) (by kernel_rfl) (by kernel_rfl) (fun _ _ _ h => h) (Or.inl ⟨by rfl, ?mh5⟩) (by assumption) ?_
              case mh5 => (intro w hSw; (try dsimp only at hSw); go_simp; (try with_reducible rfl))
              simp only [Act.put, List.setIfInBounds_toArray, List.set_cons_succ, List.set_cons_zero]
              refine wpAnyH_ready (rs := [4]) (by kernel_rfl) (by simp) ?_
              refine AllReadyH.cons (o := { dst := some 71, op := Op.call { callee := Callee.value (Operand.func 24), args := #[Operand.tmp 70], argTypes := #[22] }, type := 3, pos := "outright.go:49", after := #[{ on := 3, ground := Ground.data }], guard := none }) rfl (fun K hK => ?_) AllReadyH.nil
              go_simp
              go_at_call 24
              refine (rwide_any _ R _ (by have := HRl.out; omega) (by exact Hsl.out.same fun _ _ _ => rfl)).mono ?_
              rintro e w5 ⟨rfl, hw5⟩
              subst hw5
              go_wp2_with fail
              refine hK.out _ _ ?_ (fun hHeld => ?_)
              · (try dsimp only)
                first | (go_keep; done) | exact (hb5.cell (p := ⟨b, off + r, none⟩) (by simpa using hbr)).trans (by simpa using c0)
              clear hK K
              try simp only [Act.put, List.setIfInBounds_toArray, List.set_cons_succ, List.set_cons_zero]
              refine wpAnyH_take (i := 6) (oi := { dst := some 73, op := Op.binOp BinOp.gtr 3 (Operand.tmp 71) (Operand.tmp 72) 3, type := 4, pos := "outright.go:49", after := #[{ on := 4, ground := Ground.data }, { on := 5, ground := Ground.data }], guard := none }) (v := ?mv6) rfl (by kernel_rfl) (by kernel_rfl) (by kernel_rfl) (fun _ _ _ h => h) (Or.inl ⟨by rfl, ?mh6⟩) (by assumption) ?_
              case mh6 => (intro w hSw; (try dsimp only at hSw); go_simp; (try with_reducible rfl))
              simp only [Act.put, List.setIfInBounds_toArray, List.set_cons_succ, List.set_cons_zero]
              refine wpAnyH_take (i := 7) (oi := { dst := some 74, op := Op.move (Operand.tmp 73), type := 4, pos := "outright.go:49", after := #[{ on := 6, ground := Ground.data }, { on := 4, ground := Ground.chain }], guard := none }) (v := ?mv7) rfl (by kernel_rfl) (by kernel_rfl) (by kernel_rfl) (fun _ _ _ h => h) (Or.inl ⟨by rfl, ?mh7⟩) (by assumption) ?_
              case mh7 => (intro w hSw; (try dsimp only at hSw); go_simp; (try with_reducible rfl))
              simp only [Act.put, List.setIfInBounds_toArray, List.set_cons_succ, List.set_cons_zero]
              refine wpAnyH_take (i := 8) (oi := { dst := some 75, op := Op.move (Operand.tmp 5), type := 23, pos := "outright.go:49", after := #[{ on := 7, ground := Ground.guard }], guard := some (7, false) }) (v := ?mv8) rfl (by kernel_rfl) (by kernel_rfl) (by kernel_rfl) (fun _ _ _ h => h) (Or.inl ⟨by rfl, ?mh8⟩) (by assumption) ?_
              case mh8 => (intro w hSw; (try dsimp only at hSw); go_simp; (try with_reducible rfl))
              simp only [Act.put, List.setIfInBounds_toArray, List.set_cons_succ, List.set_cons_zero]
              refine wpAnyH_take (i := 9) (oi := { dst := some 76, op := Op.move (Operand.tmp 11), type := 3, pos := "outright.go:49", after := #[{ on := 7, ground := Ground.guard }], guard := some (7, false) }) (v := ?mv9) rfl (by kernel_rfl) (by kernel_rfl) (by kernel_rfl) (fun _ _ _ h => h) (Or.inl ⟨by rfl, ?mh9⟩) (by assumption) ?_
              case mh9 => (intro w hSw; (try dsimp only at hSw); go_simp; (try with_reducible rfl))
              simp only [Act.put, List.setIfInBounds_toArray, List.set_cons_succ, List.set_cons_zero]
              refine wpAnyH_take (i := 10) (oi := { dst := some 77, op := Op.indexAddr 23 (Operand.tmp 75) (Operand.tmp 76), type := 0, pos := "outright.go:49", after := #[{ on := 8, ground := Ground.data }, { on := 9, ground := Ground.data }, { on := 7, ground := Ground.guard }], guard := some (7, false) }) (v := ?mv10) rfl (by kernel_rfl) (by kernel_rfl) (by kernel_rfl) (fun _ _ _ h => h) (Or.inl ⟨by rfl, ?mh10⟩) (by assumption) ?_
              case mh10 => (intro w hSw; (try dsimp only at hSw); go_simp; (try with_reducible rfl))
              simp only [Act.put, List.setIfInBounds_toArray, List.set_cons_succ, List.set_cons_zero]
              refine wpAnyH_take (i := 11) (oi := { dst := some 78, op := Op.load 22 (Operand.tmp 77), type := 22, pos := "outright.go:49", after := #[{ on := 10, ground := Ground.data }, { on := 7, ground := Ground.guard }], guard := some (7, false) }) (v := ?mv11) rfl (by kernel_rfl) (by kernel_rfl) (by kernel_rfl) (fun _ _ _ h => h) (Or.inl ⟨by rfl, ?mh11⟩) (by assumption) ?_
              case mh11 => (intro w hSw; (try dsimp only at hSw); go_simp; (try with_reducible rfl))
              simp only [Act.put, List.setIfInBounds_toArray, List.set_cons_succ, List.set_cons_zero]
              refine wpAnyH_take (i := 13) (oi := { dst := some 80, op := Op.move (Operand.tmp 5), type := 23, pos := "outright.go:49", after := #[{ on := 7, ground := Ground.guard }], guard := some (7, false) }) (v := ?mv13) rfl (by kernel_rfl) (by kernel_rfl) (by kernel_rfl) (fun _ _ _ h => h) (Or.inl ⟨by rfl, ?mh13⟩) (by assumption) ?_
              case mh13 => (intro w hSw; (try dsimp only at hSw); go_simp; (try with_reducible rfl))
              simp only [Act.put, List.setIfInBounds_toArray, List.set_cons_succ, List.set_cons_zero]
              refine wpAnyH_take (i := 14) (oi := { dst := some 81, op := Op.move (Operand.tmp 11), type := 3, pos := "outright.go:49", after := #[{ on := 7, ground := Ground.guard }], guard := some (7, false) }) (v := ?mv14) rfl (by kernel_rfl) (by kernel_rfl) (by kernel_rfl) (fun _ _ _ h => h) (Or.inl ⟨by rfl, ?mh14⟩) (by assumption) ?_
              case mh14 => (intro w hSw; (try dsimp only at hSw); go_simp; (try with_reducible rfl))
              simp only [Act.put, List.setIfInBounds_toArray, List.set_cons_succ, List.set_cons_zero]
              refine wpAnyH_take (i := 15) (oi := { dst := some 82, op := Op.indexAddr 23 (Operand.tmp 80) (Operand.tmp 81), type := 0, pos := "outright.go:49", after := #[{ on := 13, ground := Ground.data }, { on := 14, ground := Ground.data }, { on := 7, ground := Ground.guard }], guard := some (7, false) }) (v := ?mv15) rfl (by kernel_rfl) (by kernel_rfl) (by kernel_rfl) (fun _ _ _ h => h) (Or.inl ⟨by rfl, ?mh15⟩) (by assumption) ?_
              case mh15 => (intro w hSw; (try dsimp only at hSw); go_simp; (try with_reducible rfl))
              simp only [Act.put, List.setIfInBounds_toArray, List.set_cons_succ, List.set_cons_zero]
              refine wpAnyH_take (i := 16) (oi := { dst := some 83, op := Op.load 22 (Operand.tmp 82), type := 22, pos := "outright.go:49", after := #[{ on := 15, ground := Ground.data }, { on := 7, ground := Ground.guard }], guard := some (7, false) }) (v := ?mv16) rfl (by kernel_rfl) (by kernel_rfl) (by kernel_rfl) (fun _ _ _ h => h) (Or.inl ⟨by rfl, ?mh16⟩) (by assumption) ?_
              case mh16 => (intro w hSw; (try dsimp only at hSw); go_simp; (try with_reducible rfl))
              simp only [Act.put, List.setIfInBounds_toArray, List.set_cons_succ, List.set_cons_zero]
              refine wpAnyH_ready (rs := [12]) (by kernel_rfl) (by simp) ?_
              refine AllReadyH.cons (o := { dst := some 79, op := Op.call { callee := Callee.value (Operand.func 25), args := #[Operand.tmp 78], argTypes := #[22] }, type := 3, pos := "outright.go:49", after := #[{ on := 11, ground := Ground.data }, { on := 7, ground := Ground.chain }, { on := 7, ground := Ground.guard }], guard := some (7, false) }) rfl (fun K hK => ?_) AllReadyH.nil
              go_simp
              go_at_call 25
              refine (pwide_any _ R _ (by have := HRl.out; omega) (by exact Hsl.out.same fun _ _ _ => rfl)).mono ?_
              rintro e w5 ⟨rfl, hb5⟩
              go_wp2_with fail
              refine hK.out _ _ ?_ (fun hHeld => ?_)
              · (try dsimp only)
                first | (go_keep; done) | exact (hb5.cell (p := ⟨b, off + r, none⟩) (by simpa using hbr)).trans (by simpa using c0)
              clear hK K
              try simp only [Act.put, List.setIfInBounds_toArray, List.set_cons_succ, List.set_cons_zero]
              refine wpAnyH_ready (rs := [17]) (by kernel_rfl) (by simp) ?_
              refine AllReadyH.cons (o := { dst := some 84, op := Op.call { callee := Callee.value (Operand.func 24), args := #[Operand.tmp 83], argTypes := #[22] }, type := 3, pos := "outright.go:49", after := #[{ on := 16, ground := Ground.data }, { on := 12, ground := Ground.chain }, { on := 7, ground := Ground.guard }], guard := some (7, false) }) rfl (fun K hK => ?_) AllReadyH.nil
              go_simp
              go_at_call 24
              refine (rwide_any _ R _ (by have := HRl.out; omega) (by exact (Hsl.out.same (w' := wr.drew) fun _ _ _ => rfl).new hb5)).mono ?_
              rintro e w6 ⟨rfl, hw6⟩
              subst hw6
              go_wp2_with fail
              refine hK.out _ _ ?_ (fun hHeld => ?_)
              · (try dsimp only)
                first | (go_keep; done) | exact (hb5.cell (p := ⟨b, off + r, none⟩) (by simpa using hbr)).trans (by simpa using c0)
              clear hK K
              try simp only [Act.put, List.setIfInBounds_toArray, List.set_cons_succ, List.set_cons_zero]
              refine wpAnyH_take (i := 18) (oi := { dst := some 85, op := Op.binOp BinOp.neq 3 (Operand.tmp 79) (Operand.tmp 84) 3, type := 4, pos := "outright.go:49", after := #[{ on := 12, ground := Ground.data }, { on := 17, ground := Ground.data }, { on := 7, ground := Ground.guard }], guard := some (7, false) }) (v := ?mv18) rfl (by kernel_rfl) (by kernel_rfl) (by kernel_rfl) (fun _ _ _ h => h) (Or.inl ⟨by rfl, ?mh18⟩) (by assumption) ?_
              case mh18 => (intro w hSw; (try dsimp only at hSw); go_simp; (try with_reducible rfl))
              simp only [Act.put, List.setIfInBounds_toArray, List.set_cons_succ, List.set_cons_zero]
              refine wpAnyH_take (i := 19) (oi := { dst := some 86, op := Op.pick (Operand.tmp 74) (Operand.const (Value.bool true)) (Operand.tmp 85), type := 4, pos := "outright.go:49", after := #[{ on := 7, ground := Ground.data }, { on := 18, ground := Ground.data }], guard := none }) (v := ?mv19) rfl (by kernel_rfl) (by kernel_rfl) (by kernel_rfl) (fun _ _ _ h => h) (Or.inl ⟨by rfl, ?mh19⟩) (by assumption) ?_
              case mh19 => (intro w hSw; (try dsimp only at hSw); go_simp; (try with_reducible rfl))
              simp only [Act.put, List.setIfInBounds_toArray, List.set_cons_succ, List.set_cons_zero]
              refine wpAnyH_take (i := 20) (oi := { dst := some 87, op := Op.move (Operand.tmp 86), type := 4, pos := "outright.go:49", after := #[{ on := 19, ground := Ground.data }, { on := 17, ground := Ground.chain }], guard := none }) (v := ?mv20) rfl (by kernel_rfl) (by kernel_rfl) (by kernel_rfl) (fun _ _ _ h => h) (Or.inl ⟨by rfl, ?mh20⟩) (by assumption) ?_
              case mh20 => (intro w hSw; (try dsimp only at hSw); go_simp; (try with_reducible rfl))
              simp only [Act.put, List.setIfInBounds_toArray, List.set_cons_succ, List.set_cons_zero]
              refine wpAnyH_take (i := 21) (oi := { dst := some 88, op := Op.move (Operand.tmp 12), type := 3, pos := "outright.go:49", after := #[{ on := 20, ground := Ground.guard }], guard := some (20, false) }) (v := ?mv21) rfl (by kernel_rfl) (by kernel_rfl) (by kernel_rfl) (fun _ _ _ h => h) (Or.inl ⟨by rfl, ?mh21⟩) (by assumption) ?_
              case mh21 => (intro w hSw; (try dsimp only at hSw); go_simp; (try with_reducible rfl))
              simp only [Act.put, List.setIfInBounds_toArray, List.set_cons_succ, List.set_cons_zero]
              refine wpAnyH_take (i := 22) (oi := { dst := some 89, op := Op.binOp BinOp.gtr 3 (Operand.tmp 88) (Operand.const (Value.int IntKind.i64 0)) 3, type := 4, pos := "outright.go:49", after := #[{ on := 21, ground := Ground.data }, { on := 20, ground := Ground.guard }], guard := some (20, false) }) (v := ?mv22) rfl (by kernel_rfl) (by kernel_rfl) (by kernel_rfl) (fun _ _ _ h => h) (Or.inl ⟨by rfl, ?mh22⟩) (by assumption) ?_
              case mh22 => (intro w hSw; (try dsimp only at hSw); go_simp; (try with_reducible rfl))
              simp only [Act.put, List.setIfInBounds_toArray, List.set_cons_succ, List.set_cons_zero]
              refine wpAnyH_take (i := 23) (oi := { dst := some 90, op := Op.move (Operand.tmp 89), type := 4, pos := "outright.go:49", after := #[{ on := 22, ground := Ground.data }, { on := 20, ground := Ground.chain }, { on := 20, ground := Ground.guard }], guard := some (20, false) }) (v := ?mv23) rfl (by kernel_rfl) (by kernel_rfl) (by kernel_rfl) (fun _ _ _ h => h) (Or.inl ⟨by rfl, ?mh23⟩) (by assumption) ?_
              case mh23 => (intro w hSw; (try dsimp only at hSw); go_simp; (try with_reducible rfl))
              simp only [Act.put, List.setIfInBounds_toArray, List.set_cons_succ, List.set_cons_zero]
              refine wpAnyH_take (i := 24) (oi := { dst := some 91, op := Op.move (Operand.tmp 7), type := 4, pos := "outright.go:49", after := #[{ on := 23, ground := Ground.guard }], guard := some (23, true) }) (v := undef) rfl (by kernel_rfl) (by kernel_rfl) (by kernel_rfl) (fun _ _ _ h => h) (Or.inr ⟨by rfl, rfl⟩) (by assumption) ?_
              simp only [Act.put, List.setIfInBounds_toArray, List.set_cons_succ, List.set_cons_zero]
              refine wpAnyH_take (i := 25) (oi := { dst := some 92, op := Op.unOp UnOp.not 4 (Operand.tmp 91), type := 4, pos := "outright.go:49", after := #[{ on := 24, ground := Ground.data }, { on := 23, ground := Ground.guard }], guard := some (23, true) }) (v := undef) rfl (by kernel_rfl) (by kernel_rfl) (by kernel_rfl) (fun _ _ _ h => h) (Or.inr ⟨by rfl, rfl⟩) (by assumption) ?_
              simp only [Act.put, List.setIfInBounds_toArray, List.set_cons_succ, List.set_cons_zero]
              refine wpAnyH_take (i := 26) (oi := { dst := some 93, op := Op.pick (Operand.tmp 90) (Operand.tmp 92) (Operand.const (Value.bool false)), type := 4, pos := "outright.go:49", after := #[{ on := 23, ground := Ground.data }, { on := 25, ground := Ground.data }, { on := 20, ground := Ground.guard }], guard := some (20, false) }) (v := ?mv26) rfl (by kernel_rfl) (by kernel_rfl) (by kernel_rfl) (fun _ _ _ h => h) (Or.inl ⟨by rfl, ?mh26⟩) (by assumption) ?_
              case mh26 => (intro w hSw; (try dsimp only at hSw); go_simp; (try with_reducible rfl))
              simp only [Act.put, List.setIfInBounds_toArray, List.set_cons_succ, List.set_cons_zero]
              refine wpAnyH_take (i := 27) (oi := { dst := some 94, op := Op.move (Operand.tmp 93), type := 4, pos := "outright.go:49", after := #[{ on := 26, ground := Ground.data }, { on := 23, ground := Ground.chain }, { on := 20, ground := Ground.guard }], guard := some (20, false) }) (v := ?mv27) rfl (by kernel_rfl) (by kernel_rfl) (by kernel_rfl) (fun _ _ _ h => h) (Or.inl ⟨by rfl, ?mh27⟩) (by assumption) ?_
              case mh27 => (intro w hSw; (try dsimp only at hSw); go_simp; (try with_reducible rfl))
              simp only [Act.put, List.setIfInBounds_toArray, List.set_cons_succ, List.set_cons_zero]
              refine wpAnyH_take (i := 28) (oi := { dst := some 95, op := Op.move (Operand.tmp 5), type := 23, pos := "outright.go:49", after := #[{ on := 27, ground := Ground.guard }], guard := some (27, true) }) (v := undef) rfl (by kernel_rfl) (by kernel_rfl) (by kernel_rfl) (fun _ _ _ h => h) (Or.inr ⟨by rfl, rfl⟩) (by assumption) ?_
              simp only [Act.put, List.setIfInBounds_toArray, List.set_cons_succ, List.set_cons_zero]
              refine wpAnyH_take (i := 29) (oi := { dst := some 96, op := Op.move (Operand.tmp 11), type := 3, pos := "outright.go:49", after := #[{ on := 27, ground := Ground.guard }], guard := some (27, true) }) (v := undef) rfl (by kernel_rfl) (by kernel_rfl) (by kernel_rfl) (fun _ _ _ h => h) (Or.inr ⟨by rfl, rfl⟩) (by assumption) ?_
              simp only [Act.put, List.setIfInBounds_toArray, List.set_cons_succ, List.set_cons_zero]
              refine wpAnyH_take (i := 30) (oi := { dst := some 97, op := Op.indexAddr 23 (Operand.tmp 95) (Operand.tmp 96), type := 0, pos := "outright.go:49", after := #[{ on := 28, ground := Ground.data }, { on := 29, ground := Ground.data }, { on := 27, ground := Ground.guard }], guard := some (27, true) }) (v := undef) rfl (by kernel_rfl) (by kernel_rfl) (by kernel_rfl) (fun _ _ _ h => h) (Or.inr ⟨by rfl, rfl⟩) (by assumption) ?_
              simp only [Act.put, List.setIfInBounds_toArray, List.set_cons_succ, List.set_cons_zero]
              refine wpAnyH_take (i := 31) (oi := { dst := some 98, op := Op.load 22 (Operand.tmp 97), type := 22, pos := "outright.go:49", after := #[{ on := 30, ground := Ground.data }, { on := 27, ground := Ground.guard }], guard := some (27, true) }) (v := undef) rfl (by kernel_rfl) (by kernel_rfl) (by kernel_rfl) (fun _ _ _ h => h) (Or.inr ⟨by rfl, rfl⟩) (by assumption) ?_
              simp only [Act.put, List.setIfInBounds_toArray, List.set_cons_succ, List.set_cons_zero]
              refine wpAnyH_take (i := 32) (oi := { dst := some 99, op := Op.move (Operand.tmp 12), type := 3, pos := "outright.go:49", after := #[{ on := 27, ground := Ground.guard }], guard := some (27, true) }) (v := undef) rfl (by kernel_rfl) (by kernel_rfl) (by kernel_rfl) (fun _ _ _ h => h) (Or.inr ⟨by rfl, rfl⟩) (by assumption) ?_
              simp only [Act.put, List.setIfInBounds_toArray, List.set_cons_succ, List.set_cons_zero]
              refine wpAnyH_take (i := 33) (oi := { dst := some 100, op := Op.binOp BinOp.sub 3 (Operand.tmp 99) (Operand.const (Value.int IntKind.i64 1)) 3, type := 3, pos := "outright.go:49", after := #[{ on := 32, ground := Ground.data }, { on := 27, ground := Ground.guard }], guard := some (27, true) }) (v := undef) rfl (by kernel_rfl) (by kernel_rfl) (by kernel_rfl) (fun _ _ _ h => h) (Or.inr ⟨by rfl, rfl⟩) (by assumption) ?_
              simp only [Act.put, List.setIfInBounds_toArray, List.set_cons_succ, List.set_cons_zero]
              refine wpAnyH_take (i := 34) (oi := { dst := some 101, op := Op.indexAddr 22 (Operand.tmp 98) (Operand.tmp 100), type := 0, pos := "outright.go:49", after := #[{ on := 31, ground := Ground.data }, { on := 33, ground := Ground.data }, { on := 27, ground := Ground.guard }], guard := some (27, true) }) (v := undef) rfl (by kernel_rfl) (by kernel_rfl) (by kernel_rfl) (fun _ _ _ h => h) (Or.inr ⟨by rfl, rfl⟩) (by assumption) ?_
              simp only [Act.put, List.setIfInBounds_toArray, List.set_cons_succ, List.set_cons_zero]
              refine wpAnyH_take (i := 35) (oi := { dst := some 102, op := Op.fieldAddr 49 (Operand.tmp 101) 0, type := 0, pos := "outright.go:49", after := #[{ on := 34, ground := Ground.data }, { on := 27, ground := Ground.guard }], guard := some (27, true) }) (v := undef) rfl (by kernel_rfl) (by kernel_rfl) (by kernel_rfl) (fun _ _ _ h => h) (Or.inr ⟨by rfl, rfl⟩) (by assumption) ?_
              simp only [Act.put, List.setIfInBounds_toArray, List.set_cons_succ, List.set_cons_zero]
              refine wpAnyH_take (i := 36) (oi := { dst := some 103, op := Op.load 9 (Operand.tmp 102), type := 9, pos := "outright.go:49", after := #[{ on := 35, ground := Ground.data }, { on := 27, ground := Ground.guard }], guard := some (27, true) }) (v := undef) rfl (by kernel_rfl) (by kernel_rfl) (by kernel_rfl) (fun _ _ _ h => h) (Or.inr ⟨by rfl, rfl⟩) (by assumption) ?_
              simp only [Act.put, List.setIfInBounds_toArray, List.set_cons_succ, List.set_cons_zero]
              refine wpAnyH_take (i := 37) (oi := { dst := some 104, op := Op.binOp BinOp.eql 9 (Operand.tmp 103) (Operand.const (Value.string { data := #[32] })) 9, type := 4, pos := "outright.go:49", after := #[{ on := 36, ground := Ground.data }, { on := 27, ground := Ground.guard }], guard := some (27, true) }) (v := undef) rfl (by kernel_rfl) (by kernel_rfl) (by kernel_rfl) (fun _ _ _ h => h) (Or.inr ⟨by rfl, rfl⟩) (by assumption) ?_
              simp only [Act.put, List.setIfInBounds_toArray, List.set_cons_succ, List.set_cons_zero]
              refine wpAnyH_take (i := 38) (oi := { dst := some 105, op := Op.pick (Operand.tmp 94) (Operand.tmp 104) (Operand.const (Value.bool false)), type := 4, pos := "outright.go:49", after := #[{ on := 27, ground := Ground.data }, { on := 37, ground := Ground.data }, { on := 20, ground := Ground.guard }], guard := some (20, false) }) (v := ?mv38) rfl (by kernel_rfl) (by kernel_rfl) (by kernel_rfl) (fun _ _ _ h => h) (Or.inl ⟨by rfl, ?mh38⟩) (by assumption) ?_
              case mh38 => (intro w hSw; (try dsimp only at hSw); go_simp; (try with_reducible rfl))
              simp only [Act.put, List.setIfInBounds_toArray, List.set_cons_succ, List.set_cons_zero]
              refine wpAnyH_take (i := 39) (oi := { dst := some 106, op := Op.pick (Operand.tmp 87) (Operand.const (Value.bool true)) (Operand.tmp 105), type := 4, pos := "outright.go:49", after := #[{ on := 20, ground := Ground.data }, { on := 38, ground := Ground.data }], guard := none }) (v := ?mv39) rfl (by kernel_rfl) (by kernel_rfl) (by kernel_rfl) (fun _ _ _ h => h) (Or.inl ⟨by rfl, ?mh39⟩) (by assumption) ?_
              case mh39 => (intro w hSw; (try dsimp only at hSw); go_simp; (try with_reducible rfl))
              simp only [Act.put, List.setIfInBounds_toArray, List.set_cons_succ, List.set_cons_zero]
              refine wpAnyH_done (by kernel_rfl) ?_ _
              refine NoPanic.normal ?_
              have Hb6 := Lib.hid (Hbk.out.trans ((show Below wr.heap.size wr _ from ((Below.refl wr.heap.size wr).drew).trans hb5).mono hwk))
              clear e1 e3
              go_wp2
              go_roundw
              case rel => exact ⟨r + 1, by omega, by go_num, Hb6.out⟩
              case measure => simp [intOf]; omega
          · go_wp2_with fail
            have Hrk := Lib.hid (Hr2.out.new (Hbel.out.trans (Hbk.out.mono hwr)))
            refine (signs_any _ ll _ Hrk.out (by omega) (fun x hx => by have := Hlen.out x hx; omega) (by rw [K2.out]; omega)).mono ?_
            rintro e w5 ⟨v5, rfl, hown5, hb5⟩
            rw [K2.out] at hown5
            have Hg5 := Lib.hid (glSl_of_owns hown5)
            have Hb5 := Lib.hid (Hbel.out.trans ((Hbk.out.trans (hb5.mono hwk)).mono hwr))
            have Hw5 := Lib.hid ((glSl_of_owns Hown.out).new (Hbk.out.trans (hb5.mono hwk)))
            clear hown5 hb5
            go_wp2_with fail
            refine (same_any _ _ (wantU wide l l.length) _ (by omega) Hg5.out Hw5.out).mono ?_
            rintro e w6 ⟨rfl, n6, hw6⟩
            have Hb6 := Lib.hid (show Below w2.heap.size w2 w6 by rw [hw6]; exact below_drewN Hb5.out _)
            clear hw6
            go_wp2
            go_ret
            exact ⟨rfl, Hb2.out.trans (Hb6.out.mono hw2)⟩
  · have hz := Hz.out herr
    simp only at hz
    have he : (err != 0) = true := by simp [herr]
    subst hz
    clear herr Hkeeps
    go_wp2
    go_ret
    exact ⟨rfl, Hb2.out⟩
end Go.Proofs.Ytepacocajnobgaa
