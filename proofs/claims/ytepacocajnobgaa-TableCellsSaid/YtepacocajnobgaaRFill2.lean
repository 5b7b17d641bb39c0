/- Fill of the reference, at every input. -/
import Derived.Test.YtepacocajnobgaaRFill
namespace Go.Proofs.Ytepacocajnobgaa
open Go.RowKit
attribute [local go_sem ↓] Go.wp_at_zero Go.wp_at_succ

set_option maxRecDepth 100000 in
set_option maxHeartbeats 400000 in
theorem rfill_range (v : Value) (wide : Int) (w : World) (h : wide < 1 ∨ 200 < wide) :
    Calls Try.prog 13 #[v, .int .i64 wide] w fun e w' => FillRes .i64 ([], 1) w e w' := by
  rcases h with h | h
  · go_enter Try.func13, Try.ntmps13
    go_wp2
    go_ret2
    exact ⟨_, rfl, ⟨[], World.ownsRow_nil _ _ _ _, trivial⟩, Below.refl _ _⟩
  · have h1 : ¬ wide < 1 := by omega
    go_enter Try.func13, Try.ntmps13
    go_wp2
    go_ret2
    exact ⟨_, rfl, ⟨[], World.ownsRow_nil _ _ _ _, trivial⟩, Below.refl _ _⟩

theorem bad_sign {g : Gl} (h : g.bad = true) : g.isSign = true ∧ (g.wide < 1 ∨ 2 < g.wide ∨ g.text.toList = []) := by
  rw [isSign_kind]
  simp [Gl.bad] at h
  refine ⟨by simp [h.1], ?_⟩
  rcases h.2 with h | h
  · exact .inr (.inr h)
  · omega

set_option maxRecDepth 100000 in
set_option maxHeartbeats 1000000 in
theorem rfill_bad (v : Value) (l : List Gl) (wide : Int) (w : World) (hv : GlSl w v l) (hl : l.length ≤ 2932031007317) (hck : checkOf l = 120) (hw : 1 ≤ wide) (hw' : wide ≤ 200) :
    Calls Try.prog 13 #[v, .int .i64 wide] w fun e w' => FillRes .i64 ([], checkOf l) w e w' := by
  have hlv : ∃ a c, v = .slice a l.length c := by
    rcases hv with ⟨⟨a, c, rfl, _⟩, rfl⟩ | ⟨b, off, cap, rfl, _⟩
    · exact ⟨a, c, rfl⟩
    · exact ⟨_, _, rfl⟩
  obtain ⟨a, c, rfl⟩ := hlv
  have Hv := Lib.hid hv
  have Hck := Lib.hid hck
  clear hv hck
  have Hat := Lib.hid (show ∀ k, k < l.length → ∃ b off, a = some ⟨b, off, none⟩ ∧ GlAt w b off l from fun k hlt => by
    rcases Hv.out with ⟨_, h⟩ | ⟨b, off, cap, h, hat⟩
    · rw [h] at hlt; simp at hlt
    · injection h with h1 h2 h3; exact ⟨b, off, h1, hat⟩)
  go_enter Try.func13, Try.ntmps13
  go_wp2_with fail
  go_loopw [6] (fun i wr => ∃ k : Nat, k ≤ l.length ∧ i = .int .i64 k ∧ (l.take k).any Gl.bad = false ∧ Below w.heap.size w wr) (fun i _ => l.length - (intOf i).toNat)
  case atStart => exact ⟨0, Nat.zero_le _, rfl, rfl, Below.refl _ _⟩
  case round =>
    obtain ⟨k, hk, rfl, hany, hbl⟩ := hrel
    have Hb := Lib.hid hbl
    have Hany := Lib.hid hany
    have hwr : w.heap.size ≤ wr.heap.size := hbl.size
    clear hbl hany
    by_cases hlt : k < l.length
    · obtain ⟨b, off, ha, hat⟩ := Hat.out k hlt
      subst ha
      obtain ⟨c0, c1, c2, c3, c4⟩ := (hat.same (Hb.out.block b (hat.lt (by omega)))) k hlt
      have hbr : b < wr.heap.size := Nat.lt_of_lt_of_le (hat.lt (by omega)) hwr
      have Hnext := Lib.hid (any_take_succ l k hlt)
      have Hgs := Lib.hid (show l[k].bad = false → l[k].isSign = true → _ from fun hb hs => good_sign hb hs)
      have Hbs := Lib.hid (show l[k].bad = true → _ from fun hb => bad_sign hb)
      clear hat
      generalize l[k] = g at *
      go_wp2_with fail
      refine (sign_any g _).mono ?_
      rintro e w2 ⟨rfl, hb2⟩
      obtain ⟨hc2, hfz2⟩ := bcell hb2
      have d0 : w2.cell? ⟨b, off + k * 5, none⟩ = some (.string g.text) := by rw [hc2 _ _ hbr]; exact c0
      have d1 : w2.cell? ⟨b, off + k * 5 + 1, none⟩ = some (.int .i64 g.wide) := by rw [hc2 _ _ hbr]; exact c1
      have Hb2 := Lib.hid (Hb.out.trans (hb2.mono hwr))
      clear hc2 hfz2 hb2 c0 c1 c2 c3 c4
      by_cases hbad : g.bad = true
      · obtain ⟨hs, hcases⟩ := Hbs.out hbad
        have Hbad := Lib.hid hbad
        clear hbad
        rw [hs]
        clear hs
        by_cases h1 : g.wide < 1
        · go_wp2
          go_ret2
          exact ⟨.slice none 0 0, by rw [Hck.out]; rfl, ⟨[], World.ownsRow_nil _ _ _ _, trivial⟩, Hb2.out⟩
        · by_cases h2 : 2 < g.wide
          · go_wp2
            go_ret2
            exact ⟨.slice none 0 0, by rw [Hck.out]; rfl, ⟨[], World.ownsRow_nil _ _ _ _, trivial⟩, Hb2.out⟩
          · have h3 : g.text.toList = [] := by rcases hcases with h | h | h; omega; omega; exact h
            have h4 : g.text.toList.isEmpty = true := by simp [h3]
            clear hcases
            go_wp2
            go_ret2
            exact ⟨.slice none 0 0, by rw [Hck.out]; rfl, ⟨[], World.ownsRow_nil _ _ _ _, trivial⟩, Hb2.out⟩
      · have hbad' : g.bad = false := by simpa using hbad
        have Hbad := Lib.hid hbad'
        clear hbad hbad'
        cases hs : g.isSign
        · go_wp2
          go_roundw
          case rel => exact ⟨k + 1, by omega, by go_num, by rw [Hnext.out, Hany.out, Hbad.out]; rfl, Hb2.out⟩
          case measure => simp [intOf]; omega
        · obtain ⟨⟨g1, g2⟩, g3⟩ := Hgs.out Hbad.out hs
          have g4 : g.text.toList.isEmpty = false := by simpa using g3
          go_wp2
          go_roundw
          case rel => exact ⟨k + 1, by omega, by go_num, by rw [Hnext.out, Hany.out, Hbad.out]; rfl, Hb2.out⟩
          case measure => simp [intOf]; omega
    · exfalso
      have h1 := Hck.out
      have h2 := Hany.out
      rw [List.take_of_length_le (by omega)] at h2
      rw [checkOf_good l h2] at h1
      cases h1

/-- FILL, OF THE REFERENCE. -/
theorem rfill_any (v : Value) (l : List Gl) (wide : Int) (w : World) (hv : GlSl w v l) (hl : l.length ≤ 2932031007317) :
    Calls Try.prog 13 #[v, .int .i64 wide] w fun e w' => FillRes .i64 (fillOf l wide) w e w' := by
  unfold fillOf
  by_cases h : wide < 1 ∨ 200 < wide
  · rw [if_pos h]; exact rfill_range v wide w h
  · rw [if_neg h]
    rcases checkOf_cases l with h1 | h1
    · rw [if_neg (by simp [h1])]; exact rfill_good v l wide w hv hl h1 (by omega) (by omega)
    · rw [if_pos (by simp [h1])]; exact rfill_bad v l wide w hv hl h1 (by omega) (by omega)
end Go.Proofs.Ytepacocajnobgaa
