/- awake, reckoned: the calls that are reckoned are sound. -/
import Derived.Test.YtafhmagifoapfaaGreatDoorAwData
import Derived.Test.YtafhmagifoapfaaGreatDoorEvH
import Derived.Test.YtafhmagifoapfaaGreatDoorAsTwo
import Derived.Test.YtafhmagifoapfaaGreatDoorAwBoxes
import Derived.KernelRfl
import Derived.Test.YtafhmagifoapfaaGreatDoorAwA
import Derived.Test.YtafhmagifoapfaaGreatDoorAwB
import Derived.Test.YtafhmagifoapfaaGreatDoorAwC
import Derived.Test.YtafhmagifoapfaaGreatDoorAwE
namespace Go.Proofs.YtafhmagifoapfaaGreatDoor
open Go.RowKit
noncomputable section
/-- What the first world holds: errors' own word for the type error. -/
def ErrT (w : World) : Prop := w.cell? ⟨0, 0, none⟩ = some (.iface 208 (.agg #[.pointer (some ⟨9, 30, none⟩)]))
theorem ErrT.size {w : World} (h : ErrT w) : 0 < w.heap.size := by
  rcases Nat.eq_zero_or_pos w.heap.size with h0 | h0
  · simp [ErrT, World.cell?, h0] at h
  · exact h0
theorem ErrT.keep {w w' : World} (h : ErrT w) (hb : Below w.heap.size w w') : ErrT w' := by
  have := hb.block 0 h.size
  unfold ErrT at h ⊢
  rw [← h]
  simp only [World.cell?, this]
theorem aw_follows : Tryz.prog.follows .mixedOrders = true := by kernel_rfl
theorem rkE_TT (G : Nat) : (rkE G).TT = rkTT' := by delta rkE; with_reducible rfl
theorem rkE_EQ (G : Nat) : (rkE G).EQ = rkEQ' := by delta rkE; with_reducible rfl
theorem rkZ_FT : rkZ.FT = rkFT' := by delta rkZ; with_reducible rfl
theorem rkZ_XT : rkZ.XT = rkXT' := by delta rkZ; with_reducible rfl
theorem aw_env (G : Nat) : EnvOk Tryz.prog (rkE G) := ⟨by rw [rkE_TT, rkTT_eq]; delta rkTT; exact tdTab_ok _, by rw [rkE_EQ, rkEQ_eq]; delta rkEQ; exact eqOf_ok _ _⟩
theorem aw_xt : XTok Tryz.prog rkXT := fun f k h => by
  unfold rkXT at h
  rw [PT.get_set, PT.get_set, PT.get_set] at h
  by_cases e1 : f = 264
  · rw [if_pos e1] at h
    simp only [Option.some.injEq] at h
    subst e1 h
    exact ⟨_, Tryz.f264.params, Tryz.func264, by kernel_rfl, by kernel_rfl, by kernel_rfl, by kernel_rfl⟩
  · rw [if_neg e1] at h
    by_cases e2 : f = 262
    · rw [if_pos e2] at h
      simp only [Option.some.injEq] at h
      subst e2 h
      exact ⟨_, #[], Tryz.func262, by kernel_rfl, by kernel_rfl, by kernel_rfl, by kernel_rfl⟩
    · rw [if_neg e2] at h
      by_cases e3 : f = 256
      · rw [if_pos e3] at h
        simp only [Option.some.injEq] at h
        subst e3 h
        exact ⟨_, #[], Tryz.func256, by kernel_rfl, by kernel_rfl, by kernel_rfl, by kernel_rfl⟩
      · rw [if_neg e3] at h; cases h
theorem aw_fns : FnsOk Tryz.prog rkZ := ⟨fun f fn h => by
  rw [rkZ_FT, rkFT_eq] at h
  delta rkFT at h
  exact fnTab_ok h, by rw [rkZ_XT, rkXT_eq]; exact aw_xt⟩
theorem aw_base (w0 : World) (G : Nat) : CallOk Tryz.prog w0 G (awBase G) :=
  orX_ok (bxSum_ok fun w g o c bs hc hl => sum_any w g o c bs hc (by omega))
    (orX_ok (bxCopy_ok (fun w b o T c hT h0 hs hc hf => bx_fresh w b o T c hT h0 hs hc hf) fun w b o h => bx_used w b o h)
      (bxStr_ok Tryz.underlying5 (fun w b o h => bs_nil w b o h) fun w b o g c bs h h0 hs hc hb hl => bs_some w b o g c bs h h0 hs hc hb (by omega)))
theorem aw_tex (w0 : World) (G : Nat) : CallOk Tryz.prog w0 G (awTex G) :=
  textsX_ok (E := rkE G) aw_follows (aw_env G) aw_fns (fun w => (tower_ok (E := rkE G) aw_follows (aw_env G) aw_fns (aw_base w G) 1000000 40).1) (fun w => (tower_ok (E := rkE G) aw_follows (aw_env G) aw_fns (aw_base w G) 1000000 40).2) 1000000 _ _ w0
theorem aw_as (w0 : World) (h : ErrT w0) (G : Nat) : CallOk Tryz.prog w0 G (bxAs G 18 87 68 70) :=
  bxAs_ok fun w hb pb po e t old hp ht hf => (as_two pb po e t old w (h.keep hb) hp ht hf).mono fun ev w' hw => ⟨hw.1, _, ((((Below.refl _ _).alloc (Nat.le_refl _) _).alloc (by simp) _).alloc (by simp; omega) _).alloc (by simp; omega) _, hw.2⟩
theorem aw_ok {w0 : World} (h : ErrT w0) {G : Nat} {l : CallX} (hl : CallOk Tryz.prog w0 G l) : CallOk Tryz.prog w0 G (awC G l) :=
  (tower_ok (E := rkE G) aw_follows (aw_env G) aw_fns (orX_ok (aw_base w0 G) (orX_ok hl (orX_ok (aw_as w0 h G) (aw_tex w0 G)))) 1000000 60).1
theorem noX_ok {w0 : World} {G : Nat} : CallOk Tryz.prog w0 G noX := fun f args H nx cr H' nx' h => by cases h
/-- A box is sound, in every world that has come from one that holds errors' word. -/
theorem box_ok {b : Lit} {l : CallX} (hl : ∀ w, ErrT w → CallOk Tryz.prog w b.nx l) (hn : litN b = true) (hr : litC b (awC b.nx l) = true) {G : Nat} (hG : G ≤ b.nx) (h48 : 48 < G) (w0 : World) (h : ErrT w0) : CallOk Tryz.prog w0 G (litX b) :=
  litX_ok (fun w hb => aw_ok (h.keep hb) (hl w (h.keep hb))) hn hr hG h48
end
noncomputable section
theorem b68_ok {w : World} (h : ErrT w) {G : Nat} (hG : G ≤ 68) (h48 : 48 < G) : CallOk Tryz.prog w G (litX b68) := box_ok (fun _ _ => noX_ok) b68_names b68_run hG h48 w h
theorem b331_ok {w : World} (h : ErrT w) {G : Nat} (hG : G ≤ 331) (h48 : 48 < G) : CallOk Tryz.prog w G (litX b331) := box_ok (fun _ _ => noX_ok) b331_names b331_run hG h48 w h
theorem b359_ok {w : World} (h : ErrT w) {G : Nat} (hG : G ≤ 359) (h48 : 48 < G) : CallOk Tryz.prog w G (litX b359) := box_ok (fun _ _ => noX_ok) b359_names b359_run hG h48 w h
theorem b65_ok {w : World} (h : ErrT w) {G : Nat} (hG : G ≤ 65) (h48 : 48 < G) : CallOk Tryz.prog w G (litX b65) :=
  box_ok (fun _ h => orX_ok (b68_ok h (by decide) (by decide)) (orX_ok (b331_ok h (by decide) (by decide)) (orX_ok (b359_ok h (by decide) (by decide)) noX_ok))) b65_names b65_run hG h48 w h
theorem b711_ok {w : World} (h : ErrT w) {G : Nat} (hG : G ≤ 711) (h48 : 48 < G) : CallOk Tryz.prog w G (litX b711) := box_ok (fun _ _ => noX_ok) b711_names b711_run hG h48 w h
theorem b823_ok {w : World} (h : ErrT w) {G : Nat} (hG : G ≤ 823) (h48 : 48 < G) : CallOk Tryz.prog w G (litX b823) := box_ok (fun _ _ => noX_ok) b823_names b823_run hG h48 w h
theorem b1089_ok {w : World} (h : ErrT w) {G : Nat} (hG : G ≤ 1089) (h48 : 48 < G) : CallOk Tryz.prog w G (litX b1089) := box_ok (fun _ _ => noX_ok) b1089_names b1089_run hG h48 w h
theorem b1117_ok {w : World} (h : ErrT w) {G : Nat} (hG : G ≤ 1117) (h48 : 48 < G) : CallOk Tryz.prog w G (litX b1117) := box_ok (fun _ _ => noX_ok) b1117_names b1117_run hG h48 w h
theorem b820_ok {w : World} (h : ErrT w) {G : Nat} (hG : G ≤ 820) (h48 : 48 < G) : CallOk Tryz.prog w G (litX b820) :=
  box_ok (fun _ h => orX_ok (b823_ok h (by decide) (by decide)) (orX_ok (b1089_ok h (by decide) (by decide)) (orX_ok (b1117_ok h (by decide) (by decide)) noX_ok))) b820_names b820_run hG h48 w h
theorem b535_ok {w : World} (h : ErrT w) {G : Nat} (hG : G ≤ 535) (h48 : 48 < G) : CallOk Tryz.prog w G (litX b535) :=
  box_ok (fun _ h => orX_ok (b711_ok h (by decide) (by decide)) (orX_ok (b820_ok h (by decide) (by decide)) noX_ok)) b535_names b535_run hG h48 w h
theorem b1333_ok {w : World} (h : ErrT w) {G : Nat} (hG : G ≤ 1333) (h48 : 48 < G) : CallOk Tryz.prog w G (litX b1333) := box_ok (fun _ _ => noX_ok) b1333_names b1333_run hG h48 w h
theorem b534_ok {w : World} (h : ErrT w) {G : Nat} (hG : G ≤ 534) (h48 : 48 < G) : CallOk Tryz.prog w G (litX b534) :=
  box_ok (fun _ h => orX_ok (b535_ok h (by decide) (by decide)) (orX_ok (b1333_ok h (by decide) (by decide)) noX_ok)) b534_names b534_run hG h48 w h
theorem b1706_ok {w : World} (h : ErrT w) {G : Nat} (hG : G ≤ 1706) (h48 : 48 < G) : CallOk Tryz.prog w G (litX b1706) := box_ok (fun _ _ => noX_ok) b1706_names b1706_run hG h48 w h
def awX : CallX := orX (litX b65) (orX (litX b534) (orX (litX b1706) noX))
theorem aw_run : isTrue (awC 64 awX 4 [] .leaf 64) = true := by kernel_rfl
theorem isTrue_ok {r : Option (CR × PT O × Nat)} (h : isTrue r = true) : ∃ H nx, r = some (.ret (.b true), H, nx) := by
  unfold isTrue at h
  split at h
  · subst h; exact ⟨_, _, rfl⟩
  · cases h
theorem awake_any (w : World) (h : ErrT w) : Calls Tryz.prog 4 #[] w fun e w' => e = .returned (.bool true) ∧ Below w.heap.size w w' := by
  obtain ⟨H, nx, hr⟩ := isTrue_ok aw_run
  delta awX at hr
  have hc := aw_ok h (orX_ok (b65_ok h (by decide) (by decide)) (orX_ok (b534_ok h (by decide) (by decide)) (orX_ok (b1706_ok h (by decide) (by decide)) (noX_ok (w0 := w) (G := 64)))))
  refine (hc _ _ _ _ _ _ _ hr (fun g => if g < 48 then some ⟨g, 0, 0⟩ else none) w #[] (fun g _ hg => ⟨0, if_pos hg⟩) ⟨Below.refl _ _, fun n hn => if_neg (by omega), fun n o ho => (by cases ho), fun n q hq hn => ?_, fun n m q r e => absurd rfl e⟩ trivial).mono ?_
  · simp only [if_neg (show ¬ n < 48 by omega)] at hq; cases hq
  · rintro e w' ⟨σ', _, hm, u, rfl, hu⟩
    refine ⟨?_, hm.below⟩
    cases u <;> simp only [VR] at hu
    subst hu; rfl
end
end Go.Proofs.YtafhmagifoapfaaGreatDoor
