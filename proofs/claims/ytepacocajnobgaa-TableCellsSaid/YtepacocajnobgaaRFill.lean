/- Fill of the reference. -/
import Derived.Test.YtepacocajnobgaaRWord
import Derived.Test.YtepacocajnobgaaFill2
namespace Go.Proofs.Ytepacocajnobgaa
open Go.RowKit
attribute [local go_sem ↓] Go.wp_at_zero Go.wp_at_succ

theorem isSign_kind (g : Gl) : g.isSign = (g.kind == 3) := by
  unfold Gl.isSign Gl.kind
  cases g.text.toList == [32] <;> cases g.text.toList == [9] <;> cases g.text.toList == [10] <;> decide
theorem good_sign {g : Gl} (h : g.bad = false) (hs : g.isSign = true) : (1 ≤ g.wide ∧ g.wide ≤ 2) ∧ g.text.toList ≠ [] := by
  rw [isSign_kind] at hs
  simp [Gl.bad, hs] at h
  refine ⟨by omega, ?_⟩
  have := h.1
  simpa using this
theorem goods {l : List Gl} (h : checkOf l = 0) (k : Nat) (hk : k < l.length) : l[k].bad = false := by
  unfold checkOf at h
  split at h
  · cases h
  · rename_i h1
    have := List.any_eq_false.1 (by simpa using h1) l[k] (List.getElem_mem hk)
    simpa using this


theorem FilR.same {w w' : World} {B p : Nat} {wide : Int} {s : St} {F : Nat → Prop} (H : FilR w B p wide s F) (hs : w.heap.size ≤ w'.heap.size) (h : ∀ b, F b → b < w.heap.size → w'.heap[b]? = w.heap[b]?) : FilR w' B p wide s F := by
  obtain ⟨vout, vline, vwaits, vs, hp, hF⟩ := H
  exact ⟨vout, vline, vwaits, vs, (h _ hF.base.2.1 hF.base.2.2).trans hp, hF.same hs fun b hb _ hl => h b hb hl⟩
theorem FilR.dom {w : World} {B p : Nat} {wide : Int} {s : St} {F : Nat → Prop} (H : FilR w B p wide s F) : ∀ b, F b → b < w.heap.size := by
  obtain ⟨vout, vline, vwaits, vs, hp, hF⟩ := H
  exact hF.dom
theorem FilR.hasp {w : World} {B p : Nat} {wide : Int} {s : St} {F : Nat → Prop} (H : FilR w B p wide s F) : F p := by
  obtain ⟨vout, vline, vwaits, vs, hp, hF⟩ := H
  exact hF.base.2.1
theorem FilR.rows {w : World} {B p : Nat} {wide : Int} {s : St} {F : Nat → Prop} (H : FilR w B p wide s F) : ∃ vo, w.cell? ⟨p, 0, none⟩ = some vo ∧ RowsNew w B vo s.out := by
  obtain ⟨vout, vline, vwaits, vs, hp, hF⟩ := H
  exact ⟨vout, by simp [World.cell?, hp], vs, hF.outO, hF.fin.same (Nat.le_refl _) (fun _ _ _ => rfl) fun b hb _ => hb.2.1⟩
theorem FilR.waits {w : World} {B p : Nat} {wide : Int} {s : St} {F : Nat → Prop} {g : Gl} (H : FilR w B p wide s F) :
    FilR ((w.setCell ⟨p, 3, none⟩ (.slice (some ⟨w.heap.size, 0, none⟩) 1 1)).alloc (.cells g.cells.toArray 49)) B p wide { s with waits := [g] } (fun b => F b ∨ b = w.heap.size) := by
  obtain ⟨vout, vline, vwaits, vs, hp, hF⟩ := H
  have hpl := hF.base.2.2
  refine ⟨vout, vline, .slice (some ⟨w.heap.size, 0, none⟩) 1 1, vs, ?_, ?_⟩
  · rw [Below.heap_alloc _ _ _ (by simp [World.setCell]; exact hpl), setCell_heap hp]; rfl
  · have hF1 := (hF.setp 3 (.slice (some ⟨w.heap.size, 0, none⟩) 1 1)).alloc (.cells g.cells.toArray 49)
    have hblk : ((w.setCell ⟨p, 3, none⟩ (.slice (some ⟨w.heap.size, 0, none⟩) 1 1)).alloc (.cells g.cells.toArray 49)).heap[w.heap.size]? = some (.cells g.cells.toArray 49 (0, 0)) := newblk _ _ _ (by simp [World.setCell])
    have hsz : w.heap.size < ((w.setCell ⟨p, 3, none⟩ (.slice (some ⟨w.heap.size, 0, none⟩) 1 1)).alloc (.cells g.cells.toArray 49)).heap.size := by simp [World.setCell]
    refine ⟨⟨hF1.base.1, .inl hF1.base.2.1, hF1.base.2.2⟩, hF1.lineO, fun b hb => ⟨.inl (hF1.lineF b hb).1, (hF1.lineF b hb).2⟩, hF1.outO, fun b hb => ⟨.inl (hF1.outF b hb).1, (hF1.outF b hb).2⟩,
      hF1.fin.same (Nat.le_refl _) (fun _ _ _ => rfl) (fun b hb _ => ⟨.inl hb.1, hb.2⟩), ?_, fun b hb => ?_, hF1.apart, ?_⟩
    · refine ⟨some ⟨w.heap.size, 0, none⟩, rfl, (fun h => by cases h), fun b hb => ?_⟩
      cases hb
      refine ⟨⟨hsz, fun j u hu => ?_⟩, rfl, rfl⟩
      rw [add_none, cell_of_row _ _ _ _ _ _ hblk]
      simpa [glCells] using hu
    · simp [Value.ownBlock] at hb
      subst hb
      refine ⟨.inr rfl, by omega, fun e => ?_, fun e => ?_⟩
      · have := (hF.lineO.lt _ e).2; omega
      · have := (hF.outO.lt _ e).2; omega
    · rintro b (hb | rfl)
      · exact hF1.dom b hb
      · exact hsz

/-- The word that stands from k on, as far as j. -/
def runW (wide : Int) (l : List Gl) (k j : Nat) : List Gl := ((l.take j).drop k).map (fixG wide)
theorem runW_self (wide : Int) (l : List Gl) (k : Nat) : runW wide l k k = [] := by
  unfold runW; rw [List.drop_eq_nil_of_le (by simp; omega)]; rfl
theorem runW_succ (wide : Int) (l : List Gl) (k j : Nat) (h : k ≤ j) (hj : j < l.length) : runW wide l k (j + 1) = runW wide l k j ++ [fixG wide l[j]] := by
  unfold runW
  rw [List.take_succ_eq_append_getElem hj, List.drop_append_of_le_length (by simp; omega), List.map_append]; rfl
theorem runW_length (wide : Int) (l : List Gl) (k j : Nat) (h : k ≤ j) (hj : j ≤ l.length) : (runW wide l k j).length = j - k := by
  simp [runW]; omega
theorem eat_run (wide : Int) (l : List Gl) (k : Nat) (hx : ((l.take k).foldl (eatS wide) (initS, [])).2 = []) :
    ∀ j, k ≤ j → j ≤ l.length → (∀ m (h : m < l.length), k ≤ m → m < j → l[m].isSign = true) → (l.take j).foldl (eatS wide) (initS, []) = (((l.take k).foldl (eatS wide) (initS, [])).1, runW wide l k j) := by
  intro j
  induction j with
  | zero => intro h1 _ _; obtain rfl : k = 0 := by omega
            exact Prod.ext rfl (by rw [runW_self]; exact hx)
  | succ j ih =>
    intro h1 h2 h3
    rcases Nat.lt_or_ge j k with h | h
    · obtain rfl : k = j + 1 := by omega
      exact Prod.ext rfl (by rw [runW_self]; exact hx)
    · rw [eatS_take wide l _ j (by omega), ih h (by omega) (fun m hm a b => h3 m hm a (by omega)), runW_succ wide l k j h (by omega)]
      have := h3 j (by omega) h (by omega)
      rw [isSign_kind] at this
      unfold eatS
      rw [if_pos (by simpa using this)]
theorem runW_fits {wide : Int} (hw : 1 ≤ wide) {l : List Gl} (hck : checkOf l = 0) (k j : Nat) (hj : j ≤ l.length) (hs : ∀ m (h : m < l.length), k ≤ m → m < j → l[m].isSign = true) : Fits wide (runW wide l k j) := by
  intro g hg
  obtain ⟨g', hg', rfl⟩ := List.mem_map.1 hg
  obtain ⟨m, hm, rfl⟩ := List.mem_iff_getElem.1 hg'
  simp at hm
  rw [List.getElem_drop, List.getElem_take]
  have h1 := good_sign (goods hck (k + m) (by omega)) (hs (k + m) (by omega) (by omega) (by omega))
  exact fixG_fits hw (by omega)
theorem blank_eq {g : Gl} (h : g.text.toList = [32]) : { g with wide := 1 } = blankOf g := by
  unfold blankOf
  have : g.text = ⟨#[32]⟩ := by
    have h2 : g.text.data.toList = [32] := by simpa [ByteArray.toList_eq] using h
    cases ht : g.text with
    | mk d => rw [ht] at h2; simp at h2; congr 1; exact Array.ext' h2
  rw [← this]

set_option maxRecDepth 100000 in
set_option maxHeartbeats 4000000 in
theorem rfill_good (v : Value) (l : List Gl) (wide : Int) (w : World) (hv : GlSl w v l) (hl : l.length ≤ 2932031007317) (hck : checkOf l = 0) (hw : 1 ≤ wide) (hw' : wide ≤ 200) :
    Calls Try.prog 13 #[v, .int .i64 wide] w fun e w' => FillRes .i64 (fillS wide l, 0) w e w' := by
  have hlv : ∃ a c, v = .slice a l.length c := by
    rcases hv with ⟨⟨a, c, rfl, _⟩, rfl⟩ | ⟨b, off, cap, rfl, _⟩
    · exact ⟨a, c, rfl⟩
    · exact ⟨_, _, rfl⟩
  obtain ⟨a, c, rfl⟩ := hlv
  have Hv := Lib.hid hv
  have Hck := Lib.hid hck
  clear hv hck
  have Hat := Lib.hid (show ∀ k, k < l.length → ∃ b off, a = some ⟨b, off, none⟩ ∧ GlAt w b off l from fun k hlt => by
    rcases Hv.out with ⟨_, h⟩ | ⟨b, off, cap, h, hat⟩
    · rw [h] at hlt; simp at hlt
    · injection h with h1 h2 h3; exact ⟨b, off, h1, hat⟩)
  go_enter Try.func13, Try.ntmps13
  go_wp2_with fail
  go_loopw [6] (fun i wr => ∃ k : Nat, k ≤ l.length ∧ i = .int .i64 k ∧ Below w.heap.size w wr) (fun i _ => l.length - (intOf i).toNat)
  case atStart => exact ⟨0, Nat.zero_le _, rfl, Below.refl _ _⟩
  case round =>
    obtain ⟨k, hk, rfl, hbl⟩ := hrel
    have Hb := Lib.hid hbl
    have hwr : w.heap.size ≤ wr.heap.size := hbl.size
    clear hbl
    by_cases hlt : k < l.length
    · obtain ⟨b, off, ha, hat⟩ := Hat.out k hlt
      subst ha
      obtain ⟨c0, c1, c2, c3, c4⟩ := (hat.same (Hb.out.block b (hat.lt (by omega)))) k hlt
      have hbad := goods Hck.out k hlt
      have hgs := fun hs => good_sign hbad hs
      have hbr : b < wr.heap.size := Nat.lt_of_lt_of_le (hat.lt (by omega)) hwr
      have Hgs := Lib.hid hgs
      clear hat hgs hbad
      generalize l[k] = g at *
      go_wp2_with fail
      refine (sign_any g _).mono ?_
      rintro e w2 ⟨rfl, hb2⟩
      obtain ⟨hc2, hfz2⟩ := bcell hb2
      have d0 : w2.cell? ⟨b, off + k * 5, none⟩ = some (.string g.text) := by rw [hc2 _ _ hbr]; exact c0
      have d1 : w2.cell? ⟨b, off + k * 5 + 1, none⟩ = some (.int .i64 g.wide) := by rw [hc2 _ _ hbr]; exact c1
      have Hb2 := Lib.hid (Hb.out.trans (hb2.mono hwr))
      clear hc2 hfz2 hb2 c0 c1 c2 c3 c4
      cases hs : g.isSign
      · go_wp2
        go_roundw
        case rel => exact ⟨k + 1, by omega, by go_num, Hb2.out⟩
        case measure => simp [intOf]; omega
      · obtain ⟨⟨g1, g2⟩, g3⟩ := Hgs.out hs
        have g4 : g.text.toList.isEmpty = false := by simpa using g3
        go_wp2
        go_roundw
        case rel => exact ⟨k + 1, by omega, by go_num, Hb2.out⟩
        case measure => simp [intOf]; omega
    · go_wp2_with fail
      have hbox := Hb.out.alloc hwr (.cells #[.slice none 0 0, .slice none 0 0, .int .i64 0, .slice none 0 0, .int .i64 wide] 71)
      obtain ⟨w1, hw1⟩ : ∃ w1, w1 = wr.alloc (.cells #[.slice none 0 0, .slice none 0 0, .int .i64 0, .slice none 0 0, .int .i64 wide] 71) := ⟨_, rfl⟩
      have hfil : FilR w1 w.heap.size wr.heap.size wide initS (fun b => b = wr.heap.size) := by
        rw [hw1]
        have hn : ∀ b, (Value.slice none 0 0).ownBlock = some b → False := fun b hb => by simp [Value.ownBlock] at hb
        exact ⟨.slice none 0 0, .slice none 0 0, .slice none 0 0, [], heap_alloc_new _ _, ⟨⟨hwr, rfl, by simp⟩, World.ownsRow_nil _ _ _ _, fun b hb => (hn b hb).elim, World.ownsRow_nil _ _ _ _, fun b hb => (hn b hb).elim, trivial, Wait.nil _, fun b hb => (hn b hb).elim, fun b hb => (hn b hb).elim, fun b hb => by simp; omega⟩⟩
      rw [← hw1] at hbox
      rw [← hw1]
      obtain ⟨p, hp⟩ : ∃ p, p = wr.heap.size := ⟨_, rfl⟩
      rw [← hp] at hfil hwr
      rw [← hp]
      have Hfil := Lib.hid hfil
      have Hbox := Lib.hid hbox
      clear hfil hbox hw1 hp Hb
      go_loopw [8] (fun i wr => ∃ k : Nat, k ≤ l.length ∧ i = .int .i64 k ∧ (((l.take k).foldl (eatS wide) (initS, [])).2 = [] ∨ ∀ h : k < l.length, l[k].isSign = false) ∧
          ∃ F, FilR wr w.heap.size p wide (flushS wide ((l.take k).foldl (eatS wide) (initS, []))) F ∧ (∀ b, F b → w.heap.size ≤ b) ∧ Below w.heap.size w wr) (fun i _ => l.length - (intOf i).toNat)
      case atStart => exact ⟨0, Nat.zero_le _, rfl, .inl rfl, _, Hfil.out, fun b hb => by rw [hb]; exact hwr, Hbox.out⟩
      case round =>
        obtain ⟨k, hk, rfl, hcase, F, hf, hbF, hb⟩ := hrel
        have Hcase := Lib.hid hcase
        have Hf := Lib.hid hf
        have Hb := Lib.hid hb
        have HbF := Lib.hid hbF
        clear hcase hf hb hbF
        by_cases hlt : k < l.length
        · obtain ⟨b, off, ha, hat⟩ := Hat.out k hlt
          subst ha
          have hbr : b < w.heap.size := hat.lt (by omega)
          obtain ⟨c0, c1, c2, c3, c4⟩ := (hat.same (Hb.out.block b hbr)) k hlt
          have hwr1 : w.heap.size ≤ wr.heap.size := Hb.out.size
          have Het := Lib.hid (eatS_take wide l (initS, []) k hlt)
          have Hsig := Lib.hid (isSign_kind l[k])
          have Hgd := Lib.hid (good_sign (goods Hck.out k hlt))
          have inv := Inv.eats hw hw' l (by
            have h := Hck.out
            unfold checkOf at h
            split at h
            · cases h
            · rename_i h1; simpa using h1) (by omega) k
          rw [show (l.take k).length = k by simp; omega] at inv
          have hok := Lib.hid (inv.flush hw' (by omega))
          have Hat1 := Lib.hid hat
          have Hgk : ∃ g, g = l[k] := ⟨_, rfl⟩
          obtain ⟨g, hg⟩ := Hgk
          rw [← hg] at c0 c1 c2 c3 c4 Het Hsig Hgd
          have Hg := Lib.hid hg
          obtain ⟨x, hx⟩ : ∃ x, x = (l.take k).foldl (eatS wide) (initS, []) := ⟨_, rfl⟩
          rw [← hx] at Hcase Hf Het hok
          have Hx := Lib.hid hx
          obtain ⟨s, hs⟩ : ∃ s, s = flushS wide x := ⟨_, rfl⟩
          rw [← hs] at Hf hok
          have Hs := Lib.hid hs
          clear hs hx inv hat hg
          obtain ⟨vo, al, cl, aw, e0, e1, e2, e3, e4, ef, lp, _, _⟩ := Hf.out.cells
          by_cases t32 : g.text.toList = [32]
          · have k0 : g.kind = 0 := by unfold Gl.kind; simp [t32]
            have Hnx := Lib.hid (show eatS wide x g = (waitS g s, []) by unfold eatS; rw [if_neg (by omega), if_pos k0, Hs.out])
            have Hbl := Lib.hid (blank_eq t32)
            have T32 : (g.text.toList == [32]) = true := by simp [t32]
            clear t32 k0
            by_cases hp1 : 0 < s.line.length
            · by_cases hp2 : s.waits.length = 0
              · have hp2' : ((s.waits.length : Int) == 0) = true := by simp [hp2]
                have Hp2 := Lib.hid hp2
                clear hp2
                go_wp2
                go_roundw
                case rel =>
                  refine ⟨k + 1, by omega, by go_num, .inl (by rw [Het.out, Hnx.out]), (fun b => F b ∨ b = (wr.alloc (.cells #[.string g.text, .int .i64 g.wide, .int .i64 g.attr, .int .i64 g.color, .int .i64 g.link] 49)).heap.size), ?_, fun b hb => ?_, ?_⟩
                  · rw [Het.out, Hnx.out, show waitS g s = { s with waits := [blankOf g] } by unfold waitS; rw [if_pos ⟨hp1, Hp2.out⟩, Hbl.out]]
                    have := (Hf.out.same (w' := wr.alloc (.cells #[.string g.text, .int .i64 g.wide, .int .i64 g.attr, .int .i64 g.color, .int .i64 g.link] 49)) (by simp) (fun b _ hl => Below.heap_alloc _ _ _ hl)).waits (g := blankOf g)
                    rw [World.setCell_alloc_past _ _ _ _ lp] at this
                    simp only [World.size_alloc] at this ⊢
                    exact this
                  · rcases hb with h | h
                    · exact HbF.out b h
                    · simp at h; omega
                  · exact ((Hb.out.setCell (p := ⟨p, 3, none⟩) (HbF.out _ Hf.out.hasp) _).alloc (by simp [World.setCell]; exact hwr1) _).alloc (by simp [World.setCell]; omega) _
                case measure => simp [intOf]; omega
              · have hp2' : ((s.waits.length : Int) == 0) = false := by rw [beq_eq_false_iff_ne]; omega
                have Hp2 := Lib.hid hp2
                clear hp2
                go_wp2
                go_roundw
                case rel =>
                  refine ⟨k + 1, by omega, by go_num, .inl (by rw [Het.out, Hnx.out]), F, ?_, HbF.out, Hb.out.alloc hwr1 _⟩
                  rw [Het.out, Hnx.out, show waitS g s = s by unfold waitS; rw [if_neg (fun h => Hp2.out h.2)]]
                  exact Hf.out.same (by simp) fun b _ hl => Below.heap_alloc _ _ _ hl
                case measure => simp [intOf]; omega
            · go_wp2
              go_roundw
              case rel =>
                refine ⟨k + 1, by omega, by go_num, .inl (by rw [Het.out, Hnx.out]), F, ?_, HbF.out, Hb.out.alloc hwr1 _⟩
                rw [Het.out, Hnx.out, show waitS g s = s by unfold waitS; rw [if_neg (fun h => hp1 h.1)]]
                exact Hf.out.same (by simp) fun b _ hl => Below.heap_alloc _ _ _ hl
              case measure => simp [intOf]; omega
          · have T32 : (g.text.toList == [32]) = false := by simp [t32]
            have Hf1 := Lib.hid (Hf.out.same (w' := wr.alloc (.cells #[.string g.text, .int .i64 g.wide, .int .i64 g.attr, .int .i64 g.color, .int .i64 g.link] 49)) (by simp) fun b _ hl => Below.heap_alloc _ _ _ hl)
            have Hb1 := Lib.hid (Hb.out.alloc hwr1 (.cells #[.string g.text, .int .i64 g.wide, .int .i64 g.attr, .int .i64 g.color, .int .i64 g.link] 49))
            by_cases t9 : g.text.toList = [9]
            · have k1 : g.kind = 1 := by unfold Gl.kind; simp [t9]
              have Hnx := Lib.hid (show eatS wide x g = (tabS wide g s, []) by unfold eatS leapS; rw [if_neg (by omega), if_neg (by omega), if_pos k1, Hs.out])
              have T9 : (g.text.toList == [9]) = true := by simp [t9]
              clear t9 k1 t32
              go_wp2_with fail
              refine (tab_anyR w.heap.size p wide s F g _ Hf1.out (by simp; omega) k hok.out (by omega) hw hw').mono ?_
              rintro e w4 ⟨rfl, hpost⟩
              obtain ⟨F4, hf4, he4⟩ := hpost
              have Hb4 := Lib.hid (Hb1.out.trans (he4.toBelow (by simp; omega) HbF.out))
              have HbF4 := Lib.hid (show ∀ b, F4 b → w.heap.size ≤ b from fun b hb => by
                rcases he4.foot b hb with h | h
                · exact HbF.out b h
                · simp at h; omega)
              go_wp2
              go_roundw
              case rel => exact ⟨k + 1, by omega, by go_num, .inl (by rw [Het.out, Hnx.out]), F4, by rw [Het.out, Hnx.out]; exact hf4, HbF4.out, Hb4.out⟩
              case measure => simp [intOf]; omega
            · have T9 : (g.text.toList == [9]) = false := by simp [t9]
              by_cases t10 : g.text.toList = [10]
              · have k1 : g.kind = 2 := by unfold Gl.kind; simp [t10]
                have Hnx := Lib.hid (show eatS wide x g = (endS (dropS s), []) by unfold eatS leapS; rw [if_neg (by omega), if_neg (by omega), if_neg (by omega), Hs.out]; rfl)
                have T10 : (g.text.toList == [10]) = true := by simp [t10]
                clear t9 k1 t32 t10
                have f1 := Hf1.out.drop
                obtain ⟨F3, hf3, he3⟩ := f1
                rw [World.setCell_alloc_past _ _ _ _ lp] at hf3 he3
                have Hf3 := Lib.hid hf3
                have He3 := Lib.hid he3
                clear hf3 he3
                go_wp2_with fail
                refine (end_anyR w.heap.size p wide (dropS s) F3 _ Hf3.out (by simp [World.setCell]; omega) (by have := hok.out.out; simp [dropS]; omega)).mono ?_
                rintro e w4 ⟨rfl, hpost⟩
                obtain ⟨F4, hf4, he4⟩ := hpost
                have he5 := He3.out.trans he4
                have Hb4 := Lib.hid (Hb1.out.trans (he5.toBelow (by simp; omega) HbF.out))
                have HbF4 := Lib.hid (show ∀ b, F4 b → w.heap.size ≤ b from fun b hb => by
                  rcases he5.foot b hb with h | h
                  · exact HbF.out b h
                  · simp at h; omega)
                clear he5
                go_wp2
                go_roundw
                case rel => exact ⟨k + 1, by omega, by go_num, .inl (by rw [Het.out, Hnx.out]), F4, by rw [Het.out, Hnx.out]; exact hf4, HbF4.out, Hb4.out⟩
                case measure => simp [intOf]; omega
              · have T10 : (g.text.toList == [10]) = false := by simp [t10]
                have hsg : g.isSign = true := by unfold Gl.isSign; simp [t32, t9, t10]
                have Hsg := Lib.hid hsg
                clear t32 t9 t10 hsg
                have hx0 : x.2 = [] := by
                  rcases Hcase.out with h | h
                  · exact h
                  · have := h hlt; rw [← Hg.out, Hsg.out] at this; cases this
                have hsx : s = x.1 := by rw [Hs.out]; unfold flushS; rw [if_neg (by simp [hx0])]
                have Hrun := Lib.hid (eat_run wide l k (by rw [← Hx.out]; exact hx0))
                have Hsx := Lib.hid hsx
                have Hx0 := Lib.hid hx0
                clear hx0 hsx
                obtain ⟨i0, hi0, hz0, hz1, hz2⟩ := info_parts info49
                have Hw1s : w.heap.size ≤ wr.heap.size + 1 := by omega
                go_wp2_with fail
                clear c0 c1 c2 c3 c4 e0 e1 e2 e3 e4 ef
                obtain ⟨w1, hw1⟩ : ∃ w1, w1 = wr.alloc (.cells #[.string g.text, .int .i64 g.wide, .int .i64 g.attr, .int .i64 g.color, .int .i64 g.link] 49) := ⟨_, rfl⟩
                rw [← hw1] at Hf1 Hb1
                rw [← hw1]
                clear hw1
                obtain ⟨wo, rfl⟩ : ∃ wo : World, wo = wr := ⟨_, rfl⟩
                go_loopw [8, 10] (fun i v wi => ∃ j : Nat, k ≤ j ∧ j ≤ l.length ∧ i = .int .i64 j ∧ (∀ m (h : m < l.length), k ≤ m → m < j → l[m].isSign = true) ∧
                    (∃ a c, v = .slice a (runW wide l k j).length c) ∧ wi.ownsRow w.heap.size 49 5 v (runW wide l k j).length (glCells (runW wide l k j)) ∧ (∀ b, v.ownBlock = some b → ¬ F b) ∧
                    FilR wi w.heap.size p wide s F ∧ Below w.heap.size w wi) (fun i _ _ => l.length - (intOf i).toNat)
                case atStart => exact ⟨k, Nat.le_refl _, by omega, rfl, fun m _ h1 h2 => by omega, ⟨none, 0, by rw [runW_self]; rfl⟩, by rw [runW_self]; exact World.ownsRow_nil _ _ _ _, fun b hb => by simp [Value.ownBlock] at hb, Hf1.out, Hb1.out⟩
                case round =>
                  obtain ⟨j, hkj, hj, rfl, hsigs, ⟨av, cv, hv⟩, hown, hvF, hfi, hbi⟩ := hrel
                  subst hv
                  have Hsigs := Lib.hid hsigs
                  have Hown := Lib.hid hown
                  have HvF := Lib.hid hvF
                  have Hfi := Lib.hid hfi
                  have Hbi := Lib.hid hbi
                  have hwi : w.heap.size ≤ wr.heap.size := hbi.size
                  have hrl : (runW wide l k j).length = j - k := runW_length wide l k j hkj hj
                  have hrl2 : (runW wide l k j).length ≤ 2932031007317 := by omega
                  have Hrl := Lib.hid hrl
                  clear hsigs hown hvF hfi hbi hrl
                  by_cases hlj : j < l.length
                  · obtain ⟨c0, c1, c2, c3, c4⟩ := (Hat1.out.same (Hbi.out.block b hbr)) j hlj
                    have Hrs := Lib.hid (runW_succ wide l k j hkj hlj)
                    have hsg := Hsigs.out
                    have Hgj := Lib.hid (fun hs => (good_sign (goods Hck.out j hlj) hs).1)
                    have hbi' : b < wr.heap.size := by omega
                    obtain ⟨g', hg'⟩ : ∃ g', g' = l[j] := ⟨_, rfl⟩
                    rw [← hg'] at c0 c1 c2 c3 c4 Hrs Hgj
                    have Hg' := Lib.hid hg'
                    clear hg' hsg
                    go_wp2_with fail
                    refine (sign_any g' _).mono ?_
                    rintro e w2 ⟨rfl, hb2⟩
                    obtain ⟨hc2, hfz2⟩ := bcell hb2
                    have d0 : w2.cell? ⟨b, off + j * 5, none⟩ = some (.string g'.text) := by rw [hc2 _ _ hbi']; exact c0
                    have d1 : w2.cell? ⟨b, off + j * 5 + 1, none⟩ = some (.int .i64 g'.wide) := by rw [hc2 _ _ hbi']; exact c1
                    have d2 : w2.cell? ⟨b, off + j * 5 + 2, none⟩ = some (.int .i64 g'.attr) := by rw [hc2 _ _ hbi']; exact c2
                    have d3 : w2.cell? ⟨b, off + j * 5 + 3, none⟩ = some (.int .i64 g'.color) := by rw [hc2 _ _ hbi']; exact c3
                    have d4 : w2.cell? ⟨b, off + j * 5 + 4, none⟩ = some (.int .i64 g'.link) := by rw [hc2 _ _ hbi']; exact c4
                    have Hb2 := Lib.hid (Hbi.out.trans (hb2.mono hwi))
                    have Hown2 := Lib.hid (bget_block Hown.out fun b' hb' => hb2.block b' (Hown.out.lt b' hb').2)
                    have Hfi2 := Lib.hid (Hfi.out.same hb2.size fun b' _ hl => hb2.block b' hl)
                    have hw2 : w.heap.size ≤ w2.heap.size := Hb2.out.size
                    have hbw2 : b < w2.heap.size := by omega
                    clear hc2 hfz2 hb2 c0 c1 c2 c3 c4
                    cases hs' : g'.isSign
                    · have Hstop := Lib.hid (show ∀ h : j < l.length, l[j].isSign = false from fun _ => by rw [← Hg'.out]; exact hs')
                      have Hjk := Lib.hid (show k < j from by
                        rcases Nat.lt_or_ge k j with h | h
                        · exact h
                        · have hkk : k = j := by omega
                          have h1 := Hsg.out
                          have h2 := Hg.out
                          subst hkk
                          rw [h2, ← Hg'.out, hs'] at h1; cases h1)
                      have Hfi3 := Hfi2
                      have Hb3 := Hb2
                      have Hown3 := Hown2
                      have Hw3s := hw2
                      have hj0 := Hjk.out
                      have hj1 : 0 < (runW wide l k j).length := by have := Hrl.out; omega
                      have HR := Lib.hid (Hrun.out j hkj hj Hsigs.out)
                      go_wp2_with fail
                      refine (word_anyR w.heap.size p wide s F _ Hfi3.out Hw3s k hok.out _ (runW wide l k j) (glSl_of_owns Hown3.out) (fun j' b' hj' hb' e => HvF.out b' hb' (e ▸ hj')) (runW_fits hw Hck.out k j hj Hsigs.out) hj1 (by omega) (by have := Hrl.out; omega) hw hw').mono ?_
                      rintro e w4 ⟨rfl, hpost⟩
                      obtain ⟨F4, hf4, he4⟩ := hpost
                      have Hb4 := Lib.hid (Hb3.out.trans (he4.toBelow Hw3s HbF.out))
                      have HbF4 := Lib.hid (show ∀ b, F4 b → w.heap.size ≤ b from fun b hb => by
                        rcases he4.foot b hb with h | h
                        · exact HbF.out b h
                        · omega)
                      have Hf4 := Lib.hid hf4
                      clear hf4 he4
                      go_wp2
                      go_roundw
                      case rel =>
                        refine ⟨j, by omega, by first | go_num | (congr 1; omega), .inr Hstop.out, F4, ?_, HbF4.out, Hb4.out⟩
                        rw [HR.out, ← Hx.out]
                        have : flushS wide (x.1, runW wide l k j) = wordS wide (runW wide l k j) x.1 := by unfold flushS; rw [if_pos hj1]
                        rw [this, ← Hsx.out]; exact Hf4.out
                      case measure => simp [intOf]; omega
                    · obtain ⟨g1, g2⟩ := Hgj.out hs'
                      have Hs' := Lib.hid hs'
                      clear hs'
                      by_cases hgt : wide < g'.wide
                      · go_wp2_with (at_builtin; go_loud (refine wpList_append_lies _ rfl (.tmp 89) (.tmp 91) 22 rfl w.heap.size 49 i0 _ 5 48 Try.underlying22 hi0 hz0 hz1 hz2 rfl (by omega) (.slice av (runW wide l k j).length cv) (runW wide l k j).length (glCells (runW wide l k j)) rfl ((Hown2.out.alloc _).alloc _) ⟨w2.heap.size + 1, 0, none⟩ 1 1 (fixed g').cells rfl rfl (World.news_of_block (cs := (fixed g').cells.toArray) (t := 49) (fr := (0, 0)) (two_new w2 _ _)) (by simp [Value.oneCell', Gl.cells]) (by omega) (by unfold maxLen; omega) (by omega) (by simp; omega) (w2.heap.size + 2) (by simp) ?_); intro gg cap w3 hown hgrow hat3 hlt3; have Hg3 := Lib.hid hgrow; clear hgrow; have Ho := Lib.hid hown; clear hown)
                        go_roundw
                        case rel =>
                          have hfx : fixG wide g' = (fixed g') := by unfold fixG; rw [if_pos hgt]; rfl
                          refine ⟨j + 1, by omega, by omega, by go_num, fun m hm h1 h2 => ?_, ⟨some ⟨gg, 0, none⟩, cap, ?_⟩, ?_, ?_, ?_, ?_⟩
                          · rcases Nat.lt_or_ge m j with h3 | h3
                            · exact Hsigs.out m hm h1 h3
                            · obtain rfl : m = j := by omega
                              rw [← Hg'.out]; exact Hs'.out
                          · rw [runW_length wide l k (j + 1) (by omega) (by omega), Hrl.out]; congr 1; omega
                          · have := Ho.out
                            rw [Hrs.out, hfx, glCells_append, show glCells [(fixed g')] = (fixed g').cells by simp [glCells], List.length_append]
                            exact this
                          · intro b' hb' hF'
                            simp [Value.ownBlock] at hb'
                            subst hb'
                            rcases hat3 with h | h
                            · exact HvF.out _ h hF'
                            · have := Hfi2.out.dom _ hF'; omega
                          · exact (Hfi2.out.same (w' := (w2.alloc _).alloc _) (by simp; omega) (fun b' _ hl => by rw [Below.heap_alloc _ _ _ (by simp; omega), Below.heap_alloc _ _ _ hl])).same Hg3.out.size fun b' hF' hl => Hg3.out.block b' hl fun e => HvF.out b' e.symm hF'
                          · exact (((Hb2.out.alloc hw2 _).alloc (by simp; omega) _).grown Hg3.out (by simp; omega) (fun m hm => (Hown2.out.lt m hm).1))
                        case measure => simp [intOf]; omega
                      · go_wp2_with (at_builtin; go_loud (refine wpList_append_lies _ rfl (.tmp 89) (.tmp 91) 22 rfl w.heap.size 49 i0 _ 5 48 Try.underlying22 hi0 hz0 hz1 hz2 rfl (by omega) (.slice av (runW wide l k j).length cv) (runW wide l k j).length (glCells (runW wide l k j)) rfl ((Hown2.out.alloc _).alloc _) ⟨w2.heap.size + 1, 0, none⟩ 1 1 g'.cells rfl rfl (World.news_of_block (cs := g'.cells.toArray) (t := 49) (fr := (0, 0)) (two_new w2 _ _)) (by simp [Value.oneCell', Gl.cells]) (by omega) (by unfold maxLen; omega) (by omega) (by simp; omega) (w2.heap.size + 2) (by simp) ?_); intro gg cap w3 hown hgrow hat3 hlt3; have Hg3 := Lib.hid hgrow; clear hgrow; have Ho := Lib.hid hown; clear hown)
                        go_roundw
                        case rel =>
                          have hfx : fixG wide g' = g' := by unfold fixG; rw [if_neg (by omega)]
                          refine ⟨j + 1, by omega, by omega, by go_num, fun m hm h1 h2 => ?_, ⟨some ⟨gg, 0, none⟩, cap, ?_⟩, ?_, ?_, ?_, ?_⟩
                          · rcases Nat.lt_or_ge m j with h3 | h3
                            · exact Hsigs.out m hm h1 h3
                            · obtain rfl : m = j := by omega
                              rw [← Hg'.out]; exact Hs'.out
                          · rw [runW_length wide l k (j + 1) (by omega) (by omega), Hrl.out]; congr 1; omega
                          · have := Ho.out
                            rw [Hrs.out, hfx, glCells_append, show glCells [g'] = g'.cells by simp [glCells], List.length_append]
                            exact this
                          · intro b' hb' hF'
                            simp [Value.ownBlock] at hb'
                            subst hb'
                            rcases hat3 with h | h
                            · exact HvF.out _ h hF'
                            · have := Hfi2.out.dom _ hF'; omega
                          · exact (Hfi2.out.same (w' := (w2.alloc _).alloc _) (by simp; omega) (fun b' _ hl => by rw [Below.heap_alloc _ _ _ (by simp; omega), Below.heap_alloc _ _ _ hl])).same Hg3.out.size fun b' hF' hl => Hg3.out.block b' hl fun e => HvF.out b' e.symm hF'
                          · exact (((Hb2.out.alloc hw2 _).alloc (by simp; omega) _).grown Hg3.out (by simp; omega) (fun m hm => (Hown2.out.lt m hm).1))
                        case measure => simp [intOf]; omega
                  · have Hstop := Lib.hid (show ∀ h : j < l.length, l[j].isSign = false from fun h => absurd h hlj)
                    have Hjk := Lib.hid (show k < j from by omega)
                    have Hfi3 := Hfi
                    have Hb3 := Hbi
                    have Hown3 := Hown
                    have Hw3s := hwi
                    have hj0 := Hjk.out
                    have hj1 : 0 < (runW wide l k j).length := by have := Hrl.out; omega
                    have HR := Lib.hid (Hrun.out j hkj hj Hsigs.out)
                    go_wp2_with fail
                    refine (word_anyR w.heap.size p wide s F _ Hfi3.out Hw3s k hok.out _ (runW wide l k j) (glSl_of_owns Hown3.out) (fun j' b' hj' hb' e => HvF.out b' hb' (e ▸ hj')) (runW_fits hw Hck.out k j hj Hsigs.out) hj1 (by omega) (by have := Hrl.out; omega) hw hw').mono ?_
                    rintro e w4 ⟨rfl, hpost⟩
                    obtain ⟨F4, hf4, he4⟩ := hpost
                    have Hb4 := Lib.hid (Hb3.out.trans (he4.toBelow Hw3s HbF.out))
                    have HbF4 := Lib.hid (show ∀ b, F4 b → w.heap.size ≤ b from fun b hb => by
                      rcases he4.foot b hb with h | h
                      · exact HbF.out b h
                      · omega)
                    have Hf4 := Lib.hid hf4
                    clear hf4 he4
                    go_wp2
                    go_roundw
                    case rel =>
                      refine ⟨j, by omega, by first | go_num | (congr 1; omega), .inr Hstop.out, F4, ?_, HbF4.out, Hb4.out⟩
                      rw [HR.out, ← Hx.out]
                      have : flushS wide (x.1, runW wide l k j) = wordS wide (runW wide l k j) x.1 := by unfold flushS; rw [if_pos hj1]
                      rw [this, ← Hsx.out]; exact Hf4.out
                    case measure => simp [intOf]; omega
        · have hkl : l.take k = l := List.take_of_length_le (by omega)
          rw [hkl] at Hf
          have inv := Inv.eats hw hw' l (by
            have h := Hck.out
            unfold checkOf at h
            split at h
            · cases h
            · rename_i h1; simpa using h1) (by omega) l.length
          rw [show (l.take l.length).length = l.length by simp, List.take_length] at inv
          have hok := (inv.flush hw' (by omega)).out
          obtain ⟨x, hx⟩ : ∃ x, x = l.foldl (eatS wide) (initS, []) := ⟨_, rfl⟩
          rw [← hx] at Hf hok
          have Hdone := Lib.hid (show fillS wide l = (doneS wide x).out by rw [hx]; rfl)
          obtain ⟨s, hs⟩ : ∃ s, s = flushS wide x := ⟨_, rfl⟩
          have Hfin := Lib.hid (show doneS wide x = if 0 < s.line.length then endS s else s by rw [hs]; rfl)
          rw [← hs] at Hf hok
          clear hs hx hkl inv
          have hB2 : w.heap.size ≤ wr.heap.size := Hb.out.size
          obtain ⟨vo, al, cl, aw, e0, e1, e2, e3, e4, ef, lp, _, _⟩ := Hf.out.cells
          by_cases hpos : 0 < s.line.length
          · go_wp2_with fail
            refine (end_anyR w.heap.size p wide s F _ Hf.out hB2 (by omega)).mono ?_
            rintro e w3 ⟨rfl, hpost⟩
            obtain ⟨F3, hf3, he3⟩ := hpost
            obtain ⟨vo3, hvo, hrows⟩ := hf3.rows
            have Hr := Lib.hid hrows
            have Hb3 := Lib.hid (Hb.out.trans (he3.toBelow hB2 HbF.out))
            clear e0 e1 e2 e3 e4 ef hrows hf3 he3
            go_wp2
            go_ret2
            exact ⟨vo3, rfl, by rw [show (fillS wide l, (0 : Int)).1 = _ from Hdone.out, Hfin.out, if_pos hpos]; exact Hr.out, Hb3.out⟩
          · obtain ⟨vo3, hvo, hrows⟩ := Hf.out.rows
            have Hr := Lib.hid hrows
            clear hrows e0
            go_wp2
            go_ret2
            exact ⟨vo3, rfl, by rw [show (fillS wide l, (0 : Int)).1 = _ from Hdone.out, Hfin.out, if_neg hpos]; exact Hr.out, Hb.out⟩
end Go.Proofs.Ytepacocajnobgaa
