/- src: piece, alone, target; tokens in a slice. -/
import Derived.Test.YtafhmagifoapfaaGreatDoorParts
namespace Go.Proofs.YtafhmagifoapfaaGreatDoor
open Go.RowKit Find Bk
attribute [local go_sem ↓] Go.wp_at_zero Go.wp_at_succ
/-- A slice reads as tokens. -/
structure ToksAt (w : World) (a : Option Addr) (c : Nat) (l : List Tok) : Prop where
  cap : l.length ≤ c
  at_ : ∀ t r, l = t :: r → ∃ g o, a = some ⟨g, o, none⟩ ∧ g < w.heap.size ∧ ∀ j x, l[j]? = some x → ∀ i, i < 5 → w.cell? ⟨g, o + j * 5 + i, none⟩ = (tokC x)[i]?
theorem ToksAt.of_row {w : World} {B n : Nat} {v : Value} {l : List Tok} (h : w.ownsRow B 59 5 v n (toksC l)) (hn : l.length = n) : ∃ a c, v = .slice a n c ∧ ToksAt w a c l := by
  rcases h.2 with ⟨rfl, h0⟩ | ⟨g, cap, cur, hv, h1, h2, h3, h4, h5, h6⟩
  · subst h0
    exact ⟨none, 0, rfl, by omega, fun t r e => by rw [e] at hn; simp at hn⟩
  · refine ⟨_, cap, hv, by omega, fun t r _ => ⟨g, 0, rfl, lt_of_heap h2, fun j x hj i hi => ?_⟩⟩
    have hjl := (List.getElem?_eq_some_iff.1 hj).1
    rw [hv] at h
    rw [show 0 + j * 5 + i = j * 5 + i by omega, h.cellAt (j * 5 + i) (by omega)]
    exact flat_at tokC 5 (fun _ => rfl) l j x hj i hi
/-- Behind the first tokens. -/
theorem ToksAt.drop {w : World} {g o c : Nat} {l : List Tok} (h : ToksAt w (some ⟨g, o, none⟩) c l) (k : Nat) (hk : k ≤ l.length) : ToksAt w (if c - k = 0 then some ⟨g, o, none⟩ else some ⟨g, o + k * 5, none⟩) (c - k) (l.drop k) := by
  refine ⟨by have := h.cap; rw [List.length_drop]; omega, fun t r e => ?_⟩
  have hlt : k < l.length := by
    rcases Nat.lt_or_ge k l.length with h1 | h1
    · exact h1
    · rw [List.drop_eq_nil_of_le h1] at e; cases e
  have hc := h.cap
  rw [if_neg (by omega)]
  obtain ⟨t0, r0, hl⟩ : ∃ t r, l = t :: r := by cases l with
    | nil => simp at hlt
    | cons t r => exact ⟨t, r, rfl⟩
  obtain ⟨g', o', he, hg, hcl⟩ := h.at_ t0 r0 hl
  cases he
  refine ⟨g, o + k * 5, rfl, hg, fun j x hj i hi => ?_⟩
  rw [List.getElem?_drop] at hj
  rw [show o + k * 5 + j * 5 + i = o + (k + j) * 5 + i by rw [Nat.add_mul]; omega]
  exact hcl (k + j) x hj i hi
theorem ToksAt.below {w w' : World} {a : Option Addr} {c : Nat} {l : List Tok} (h : ToksAt w a c l) (hb : Below w.heap.size w w') : ToksAt w' a c l :=
  ⟨h.cap, fun t r e => by
    obtain ⟨g, o, ha, hg, hcl⟩ := h.at_ t r e
    exact ⟨g, o, ha, Nat.lt_of_lt_of_le hg hb.size, fun j x hj i hi => (hb.cell (p := ⟨g, o + j * 5 + i, none⟩) hg).trans (hcl j x hj i hi)⟩⟩
/-- The cells of the first token. -/
theorem ToksAt.first {w : World} {a : Option Addr} {c : Nat} {t : Tok} {r : List Tok} (h : ToksAt w a c (t :: r)) : ∃ g o, a = some ⟨g, o, none⟩ ∧ g < w.heap.size ∧ w.cell? ⟨g, o, none⟩ = some (.int .i64 t.kind) ∧ w.cell? ⟨g, o + 1, none⟩ = some (.string ⟨t.name.toArray⟩) ∧ w.cell? ⟨g, o + 2, none⟩ = some (.string ⟨t.text.toArray⟩) ∧ w.cell? ⟨g, o + 3, none⟩ = some (.int .i64 t.line) ∧ w.cell? ⟨g, o + 4, none⟩ = some (.int .i64 t.col) := by
  obtain ⟨g, o, ha, hg, hcl⟩ := h.at_ t r rfl
  have := hcl 0 t rfl
  simp only [Nat.zero_mul, Nat.add_zero] at this
  exact ⟨g, o, ha, hg, this 0 (by omega), this 1 (by omega), this 2 (by omega), this 3 (by omega), this 4 (by omega)⟩
/-- The cells of the second one. -/
theorem ToksAt.second {w : World} {g o c : Nat} {t u : Tok} {r : List Tok} (h : ToksAt w (some ⟨g, o, none⟩) c (t :: u :: r)) : w.cell? ⟨g, o + 5, none⟩ = some (.int .i64 u.kind) ∧ w.cell? ⟨g, o + 6, none⟩ = some (.string ⟨u.name.toArray⟩) ∧ w.cell? ⟨g, o + 7, none⟩ = some (.string ⟨u.text.toArray⟩) ∧ w.cell? ⟨g, o + 8, none⟩ = some (.int .i64 u.line) ∧ w.cell? ⟨g, o + 9, none⟩ = some (.int .i64 u.col) := by
  obtain ⟨g', o', ha, hg, hcl⟩ := h.at_ t (u :: r) rfl
  cases ha
  have := hcl 1 u rfl
  exact ⟨this 0 (by omega), this 1 (by omega), this 2 (by omega), this 3 (by omega), this 4 (by omega)⟩
set_option maxHeartbeats 1600000 in
set_option maxRecDepth 100000 in
theorem piece_any (k : Nat) (t : Tok) (x y : Wd) (w : World) :
    Calls Tryz.prog 95 #[.int .i64 k, tokV t, .string ⟨x.toArray⟩, .string ⟨y.toArray⟩] w fun e w' => e = .returned (.agg #[.int .i64 k, .string ⟨x.toArray⟩, .string ⟨y.toArray⟩, .int .i64 t.line, .int .i64 t.col]) ∧ Below w.heap.size w w' := by
  go_enter Tryz.func95, Tryz.ntmps95
  go_wp2
  refine bodyPost_ret (v := .agg #[.int .i64 k, .string ⟨x.toArray⟩, .string ⟨y.toArray⟩, .int .i64 t.line, .int .i64 t.col]) ?_ rfl ⟨rfl, ((Below.refl _ _).alloc (Nat.le_refl _) _).alloc (by simp) _⟩
  simp [results, Tryz.results95, go_sem]
/-- How a call that reads tokens ends: a fault is thrown, or it answers. -/
def GetPost (r : Except Flt Value) (w : World) (e : Ending) (w' : World) : Prop := Below w.heap.size w w' ∧ (match r with
  | .error f => ∃ v, e = .panicked [{ v := .iface 50 (.agg #[v]), recovered := false }] ∧ FltV w' v f
  | .ok v => e = .returned v)
/-- A slice without its first k tokens. -/
def cutV (g o n c k : Nat) : Value := .slice (if c - k = 0 then some ⟨g, o, none⟩ else some ⟨g, o + k * 5, none⟩) (n - k) (c - k)
set_option maxHeartbeats 1600000 in
set_option maxRecDepth 100000 in
theorem alone_bad (t : Tok) (a : Option Addr) (c : Nat) (l : List Tok) (w : World) (h : ToksAt w a c l) (hb : ∀ x r, l = x :: r → x.kind ≠ 5) :
    Calls Tryz.prog 96 #[tokV t, .slice a l.length c] w (GetPost (.error (t.flt 55)) w) := by
  have HE := fun w => stop_any 55 t.line t.col t.name w (by decide)
  cases l with
  | nil =>
    clear h hb
    go_enter Tryz.func96, Tryz.ntmps96
    go_wp2_with (go_at_call 56; refine (HE _).mono ?_; rintro e w9 ⟨v, rfl, hf, hb⟩)
    exact ⟨rfl, ((Below.refl _ _).alloc (Nat.le_refl _) _).trans (hb.mono (by simp)), v, rfl, hf⟩
  | cons x r =>
    obtain ⟨g, o, rfl, hg, e0, e1, e2, e3, e4⟩ := h.first
    have hk := hb x r rfl
    have e9 : ((x.kind : Int) != 5) = true := by rw [bne_iff_ne]; omega
    have e8 : ((x.kind : Int) == 5) = false := by rw [beq_eq_false_iff_ne]; omega
    obtain ⟨n, hn⟩ : ∃ n, r.length = n := ⟨_, rfl⟩
    rw [List.length_cons, hn]
    clear h hb hk hn
    go_enter Tryz.func96, Tryz.ntmps96
    go_wp2_with (go_at_call 56; refine (HE _).mono ?_; rintro e w9 ⟨v, rfl, hf, hb⟩)
    exact ⟨rfl, ((Below.refl _ _).alloc (Nat.le_refl _) _).trans (hb.mono (by simp)), v, rfl, hf⟩
set_option maxHeartbeats 1600000 in
set_option maxRecDepth 100000 in
theorem alone_good (t x : Tok) (g o c : Nat) (r : List Tok) (w : World) (h : ToksAt w (some ⟨g, o, none⟩) c (x :: r)) (hk : x.kind = 5) :
    Calls Tryz.prog 96 #[tokV t, .slice (some ⟨g, o, none⟩) (r.length + 1) c] w (GetPost (.ok (cutV g o (r.length + 1) c 1)) w) := by
  obtain ⟨g', o', he, hg, e0, e1, e2, e3, e4⟩ := h.first
  cases he
  have e9 : ((x.kind : Int) != 5) = false := by rw [hk]; rfl
  have e8 : ((x.kind : Int) == 5) = true := by rw [hk]; rfl
  have hc := h.cap
  rw [List.length_cons] at hc
  obtain ⟨n, hn⟩ : ∃ n, r.length = n := ⟨_, rfl⟩
  rw [hn] at hc ⊢
  obtain ⟨c', rfl⟩ : ∃ c', c = c' + 1 := ⟨c - 1, by omega⟩
  unfold cutV
  clear h hk hn
  by_cases hz : c' = 0
  · subst hz
    obtain rfl : n = 0 := by omega
    go_enter Tryz.func96, Tryz.ntmps96
    go_wp2
    go_ret
    exact ⟨(Below.refl _ _).alloc (Nat.le_refl _) _, rfl⟩
  · have hz1 : ¬ c' + 1 = 1 := by omega
    have hz2 : ¬ c' + 1 - 1 = 0 := by omega
    go_enter Tryz.func96, Tryz.ntmps96
    go_wp2
    go_ret
    exact ⟨(Below.refl _ _).alloc (Nat.le_refl _) _, rfl⟩
/-- What 'target' answers. -/
def targetF (t : Tok) (l : List Tok) (lk : Nat) : Except Flt Wd := match l with
  | a :: c :: _ => if lk = 1 ∨ a.kind ≠ 6 ∨ (c.kind ≠ 4 ∧ c.kind ≠ 5) then .error (t.flt 55) else if fitsF (tidyF a.text) 64 = false then .error (t.flt 55) else .ok (tidyF a.text)
  | _ => .error (t.flt 55)
def TargetPost (r : Except Flt Wd) (w : World) (e : Ending) (w' : World) : Prop := Below w.heap.size w w' ∧ (match r with
  | .error f => ∃ v, e = .panicked [{ v := .iface 50 (.agg #[v]), recovered := false }] ∧ FltV w' v f
  | .ok x => e = .returned (.string ⟨x.toArray⟩))
set_option maxHeartbeats 6400000 in
set_option maxRecDepth 100000 in
theorem target_any (t : Tok) (a : Option Addr) (c : Nat) (l : List Tok) (lk : Nat) (w : World) (h : ToksAt w a c l) (hx : ∀ x ∈ l, x.text.length ≤ 1000000) :
    Calls Tryz.prog 97 #[tokV t, .slice a l.length c, .int .i64 lk] w (TargetPost (targetF t l lk) w) := by
  have HE := fun w => stop_any 55 t.line t.col t.name w (by decide)
  by_cases hlk : lk = 1
  · have HP := Lib.hid (show targetF t l lk = .error (t.flt 55) from by unfold targetF; repeat' split; all_goals first | rfl | simp_all)
    subst hlk
    clear h hx
    go_enter Tryz.func97, Tryz.ntmps97
    go_wp2_with (first | (go_at_call 56; refine (HE _).mono ?_; rintro e w9 ⟨v, rfl, hf, hb⟩) | fail)
    refine ⟨rfl, ?_⟩
    rw [HP.out]
    exact ⟨((Below.refl _ _).alloc (Nat.le_refl _) _).trans (hb.mono (by simp)), v, rfl, hf⟩
  · have k0 : ((lk : Int) == 1) = false := by rw [beq_eq_false_iff_ne]; omega
    rcases l with _ | ⟨x, _ | ⟨y, r⟩⟩
    · have HP := Lib.hid (show targetF t [] lk = .error (t.flt 55) from rfl)
      clear h hx hlk
      go_enter Tryz.func97, Tryz.ntmps97
      go_wp2_with (first | (go_at_call 56; refine (HE _).mono ?_; rintro e w9 ⟨v, rfl, hf, hb⟩) | fail)
      refine ⟨rfl, ?_⟩
      rw [HP.out]
      exact ⟨((Below.refl _ _).alloc (Nat.le_refl _) _).trans (hb.mono (by simp)), v, rfl, hf⟩
    · have HP := Lib.hid (show targetF t [x] lk = .error (t.flt 55) from rfl)
      clear h hx hlk
      go_enter Tryz.func97, Tryz.ntmps97
      go_wp2_with (first | (go_at_call 56; refine (HE _).mono ?_; rintro e w9 ⟨v, rfl, hf, hb⟩) | fail)
      refine ⟨rfl, ?_⟩
      rw [HP.out]
      exact ⟨((Below.refl _ _).alloc (Nat.le_refl _) _).trans (hb.mono (by simp)), v, rfl, hf⟩
    · obtain ⟨g, o, rfl, hg, e0, e1, e2, e3, e4⟩ := h.first
      obtain ⟨f0, f1, f2, f3, f4⟩ := h.second
      have hc := h.cap
      have hxl := hx x (by simp)
      have HT := Lib.hid (fun w => tidy_any x.text w hxl)
      have htl := tidy_len x.text
      have hM : targetF t (x :: y :: r) lk = if x.kind ≠ 6 ∨ (y.kind ≠ 4 ∧ y.kind ≠ 5) then .error (t.flt 55) else if fitsF (tidyF x.text) 64 = false then .error (t.flt 55) else .ok (tidyF x.text) := by
        unfold targetF; simp only [hlk, false_or]
      obtain ⟨T, hT⟩ : ∃ T, tidyF x.text = T := ⟨_, rfl⟩
      rw [hT] at HT htl hM
      have HFI := Lib.hid (fun w => fits_any T 64 w (by omega))
      obtain ⟨fi, hfi⟩ : ∃ b, fitsF T 64 = b := ⟨_, rfl⟩
      rw [hfi] at HFI hM
      have HM := Lib.hid hM
      obtain ⟨n, hn⟩ : ∃ n, r.length = n := ⟨_, rfl⟩
      rw [List.length_cons, List.length_cons, hn] at hc ⊢
      clear h hx hlk hT hfi hn htl hM hxl
      have a1 : ((x.kind : Int) != 6) = (x.kind != 6) := by rw [Bool.eq_iff_iff, bne_iff_ne, bne_iff_ne]; omega
      have a2 : ((y.kind : Int) != 4) = (y.kind != 4) := by rw [Bool.eq_iff_iff, bne_iff_ne, bne_iff_ne]; omega
      have a3 : ((y.kind : Int) != 5) = (y.kind != 5) := by rw [Bool.eq_iff_iff, bne_iff_ne, bne_iff_ne]; omega
      obtain ⟨b1, hb1⟩ : ∃ b, (x.kind != 6) = b := ⟨_, rfl⟩
      obtain ⟨b2, hb2⟩ : ∃ b, (y.kind != 4) = b := ⟨_, rfl⟩
      obtain ⟨b3, hb3⟩ : ∃ b, (y.kind != 5) = b := ⟨_, rfl⟩
      have HB1 := Lib.hid hb1
      have HB2 := Lib.hid hb2
      have HB3 := Lib.hid hb3
      rw [hb1] at a1
      rw [hb2] at a2
      rw [hb3] at a3
      have q1 : ((x.kind : Int) == 6) = !b1 := by rw [← hb1, Bool.eq_iff_iff]; simp; omega
      have q2 : ((y.kind : Int) == 4) = !b2 := by rw [← hb2, Bool.eq_iff_iff]; simp; omega
      have q3 : ((y.kind : Int) == 5) = !b3 := by rw [← hb3, Bool.eq_iff_iff]; simp; omega
      clear hb1 hb2 hb3
      by_cases hbad : b1 = true ∨ (b2 = true ∧ b3 = true)
      · have HP := Lib.hid (show targetF t (x :: y :: r) lk = .error (t.flt 55) from by
          rw [HM.out, if_pos]
          rcases hbad with rfl | ⟨rfl, rfl⟩
          · exact .inl (by have := HB1.out; simpa using this)
          · exact .inr ⟨by have := HB2.out; simpa using this, by have := HB3.out; simpa using this⟩)
        have hcs : b1 = true ∨ (b1 = false ∧ b2 = true ∧ b3 = true) := by cases b1 <;> cases b2 <;> cases b3 <;> simp at hbad ⊢
        clear hbad HB1 HB2 HB3 HM
        rcases hcs with rfl | ⟨rfl, rfl, rfl⟩
        all_goals
          go_enter Tryz.func97, Tryz.ntmps97
          go_wp2_with (first | (go_at_call 56; refine (HE _).mono ?_; rintro e w9 ⟨v, rfl, hf, hb⟩) | fail)
          refine ⟨rfl, ?_⟩
          rw [HP.out]
          exact ⟨((Below.refl _ _).alloc (Nat.le_refl _) _).trans (hb.mono (by simp)), v, rfl, hf⟩
      · have hcs : b1 = false ∧ ((b2 = false ∧ b3 = false) ∨ (b2 = false ∧ b3 = true) ∨ (b2 = true ∧ b3 = false)) := by cases b1 <;> cases b2 <;> cases b3 <;> simp at hbad ⊢
        have hM2 : targetF t (x :: y :: r) lk = if fi = false then .error (t.flt 55) else .ok T := by
          rw [HM.out, if_neg]
          rintro (h1 | ⟨h1, h2⟩)
          · exact hbad (.inl (by rw [← HB1.out]; simpa using h1))
          · exact hbad (.inr ⟨by rw [← HB2.out]; simpa using h1, by rw [← HB3.out]; simpa using h2⟩)
        have HP := Lib.hid hM2
        clear hbad HB1 HB2 HB3 HM hM2
        obtain ⟨rfl, hcs⟩ := hcs
        rcases hcs with ⟨rfl, rfl⟩ | ⟨rfl, rfl⟩ | ⟨rfl, rfl⟩
        all_goals
          cases fi with
          | false =>
            go_enter Tryz.func97, Tryz.ntmps97
            go_wp2_with (first
              | (go_at_call 54; refine (HT.out _).mono ?_; rintro e w2 ⟨rfl, hb2⟩; have dt1 : w2.cell? ⟨w.heap.size, 1, none⟩ = some (.string ⟨t.name.toArray⟩) := (hb2.cell (by simp)).trans (by simp); have dt3 : w2.cell? ⟨w.heap.size, 3, none⟩ = some (.int .i64 t.line) := (hb2.cell (by simp)).trans (by simp); have dt4 : w2.cell? ⟨w.heap.size, 4, none⟩ = some (.int .i64 t.col) := (hb2.cell (by simp)).trans (by simp); have HB4 : Hid (Below w.heap.size w w2) := Lib.hid (((Below.refl _ _).alloc (Nat.le_refl _) _).trans (hb2.mono (by simp))); clear hb2 HT)
              | (go_at_call 86; refine (HFI.out _).mono ?_; rintro e w3 ⟨rfl, rfl⟩; clear HFI)
              | (go_at_call 56; refine (HE _).mono ?_; rintro e w9 ⟨v, rfl, hf, hb⟩)
              | fail)
            refine ⟨rfl, ?_⟩
            rw [HP.out]
            exact ⟨HB4.out.trans (hb.mono HB4.out.size), v, rfl, hf⟩
          | true =>
            go_enter Tryz.func97, Tryz.ntmps97
            go_wp2_with (first
              | (go_at_call 54; refine (HT.out _).mono ?_; rintro e w2 ⟨rfl, hb2⟩; have HB4 : Hid (Below w.heap.size w w2) := Lib.hid (((Below.refl _ _).alloc (Nat.le_refl _) _).trans (hb2.mono (by simp))); clear hb2 HT)
              | (go_at_call 86; refine (HFI.out _).mono ?_; rintro e w3 ⟨rfl, rfl⟩; clear HFI)
              | fail)
            go_ret
            rw [HP.out]
            exact ⟨HB4.out, rfl⟩
end Go.Proofs.YtafhmagifoapfaaGreatDoor
