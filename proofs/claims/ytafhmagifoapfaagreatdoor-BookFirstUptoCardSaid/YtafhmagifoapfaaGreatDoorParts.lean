/- src: tidy, halves, fits, bare. -/
import Derived.Test.YtafhmagifoapfaaGreatDoorStart
import Derived.Test.YtafhmagifoapfaaGreatDoorToks
import Derived.Shelf.Abstract
import Derived.Laws.EntriesVeiled
namespace Go.Proofs.YtafhmagifoapfaaGreatDoor
open Go.RowKit Find Bk
attribute [local go_sem ↓] Go.wp_at_zero Go.wp_at_succ
set_option maxHeartbeats 1600000 in
set_option maxRecDepth 100000 in
theorem sep_any (r : Nat) (W : World) : Calls Tryz.prog 94 #[.int .i32 r] W fun e w' => e = .returned (.bool (sepR r)) ∧ w' = W := by
  by_cases h1 : r = 32
  · subst h1
    go_enter Tryz.func94, Tryz.ntmps94
    go_wp2
    go_ret
    exact ⟨rfl, rfl⟩
  · by_cases h2 : r = 9
    · subst h2
      go_enter Tryz.func94, Tryz.ntmps94
      go_wp2
      go_ret
      exact ⟨rfl, rfl⟩
    · have HR := Lib.hid (show sepR r = false from by unfold sepR; simp [h1, h2])
      have e1 : ((r : Int) == 32) = false := by rw [beq_eq_false_iff_ne]; omega
      have e2 : ((r : Int) == 9) = false := by rw [beq_eq_false_iff_ne]; omega
      clear h1 h2
      go_enter Tryz.func94, Tryz.ntmps94
      go_wp2
      go_ret
      rw [HR.out]
      exact ⟨rfl, rfl⟩
/-- What a text's function answers. -/
def StrPost (l : Wd) (w : World) (e : Ending) (w' : World) : Prop := e = .returned (.string ⟨l.toArray⟩) ∧ Below w.heap.size w w'
theorem sep_grows (w : World) : PredGrows Tryz.prog 94 #[] sepR w := fun W x _ _ =>
  (sep_any x W).mono fun _ _ ⟨h1, h2⟩ => ⟨h1, h2 ▸ Below.refl _ _⟩
theorem fields_any (s : Wd) (w : World) (hs : s.length ≤ 1000000) : Calls Tryz.prog 93 #[.string ⟨s.toArray⟩, .func (.func 94) #[] #[]] w fun e w' => ∃ A, e = .returned (.slice (some ⟨A, 0, none⟩) (Lib.goFieldsP sepR ⟨s.toArray⟩).length (Lib.goFieldsP sepR ⟨s.toArray⟩).length) ∧ w.heap.size ≤ A ∧
      w'.ownsRow w.heap.size 9 1 (.slice (some ⟨A, 0, none⟩) (Lib.goFieldsP sepR ⟨s.toArray⟩).length (Lib.goFieldsP sepR ⟨s.toArray⟩).length) (Lib.goFieldsP sepR ⟨s.toArray⟩).length ((Lib.goFieldsP sepR ⟨s.toArray⟩).map Value.string) ∧ Below w.heap.size w w' :=
  Tryz.strings_FieldsFunc_grows 94 #[] (enters_of Tryz.func94 (by kernel_rfl) rfl) sepR ⟨s.toArray⟩ w (by rw [size_mk]; omega) (sep_grows w)
theorem tidyF_eq (s : Wd) : tidyF s = Lib.join ((Lib.goFieldsP sepR ⟨s.toArray⟩).map (·.data.toList)) [32] := rfl
set_option maxHeartbeats 1600000 in
set_option maxRecDepth 100000 in
theorem tidy_any (s : Wd) (w : World) (hs : s.length ≤ 1000000) : Calls Tryz.prog 54 #[.string ⟨s.toArray⟩] w (StrPost (tidyF s) w) := by
  have HF := Lib.hid (fun w => fields_any s w hs)
  have hfl := fields_len sepR ⟨s.toArray⟩
  rw [size_mk] at hfl
  have htl := tidy_len s
  have HT := Lib.hid (tidyF_eq s)
  have hmf : ∀ (fn : Fn) (first cap : Array Value) (w : World), (Instr.makeFunc fn first cap).run Tryz.prog w = .ok (.func fn first cap) w := fun _ _ _ _ => rfl
  have HJ : ∀ (A : Nat) (w' : World), Hid (w'.ownsRow w.heap.size 9 1 (.slice (some ⟨A, 0, none⟩) (Lib.goFieldsP sepR ⟨s.toArray⟩).length (Lib.goFieldsP sepR ⟨s.toArray⟩).length) (Lib.goFieldsP sepR ⟨s.toArray⟩).length ((Lib.goFieldsP sepR ⟨s.toArray⟩).map Value.string)) →
      Calls Tryz.prog 92 #[.slice (some ⟨A, 0, none⟩) (Lib.goFieldsP sepR ⟨s.toArray⟩).length (Lib.goFieldsP sepR ⟨s.toArray⟩).length, .string ⟨#[32]⟩] w' (StrPost (tidyF s) w') := fun A w' ho => by
    have hlt := (ho.out.lt A rfl).2
    refine (Tryz.strings_Join A 0 _ (Lib.goFieldsP sepR ⟨s.toArray⟩) ⟨#[32]⟩ w' (fun j x hx => ?_) hlt (by omega) (Nat.le_refl _) ?_).mono fun e w2 h => ⟨h.1, h.2⟩
    · have hj := (List.getElem?_eq_some_iff.1 hx).1
      rw [Nat.zero_add, ho.out.cellAt j (by omega), List.getElem?_map, hx]; rfl
    · show (Lib.join _ [32]).length ≤ _
      rw [← tidyF_eq]; omega
  have HJJ := Lib.hid HJ
  obtain ⟨N, hN⟩ : ∃ N, (Lib.goFieldsP sepR ⟨s.toArray⟩).length = N := ⟨_, rfl⟩
  obtain ⟨R, hR⟩ : ∃ R, (Lib.goFieldsP sepR ⟨s.toArray⟩).map Value.string = R := ⟨_, rfl⟩
  obtain ⟨T, hT⟩ : ∃ T, tidyF s = T := ⟨_, rfl⟩
  rw [hN, hR] at HF HJJ
  rw [hT] at HJJ ⊢
  clear HJ HT hN hR hT htl hfl
  go_enter Tryz.func54, Tryz.ntmps54
  go_wp2_with (first
    | (go_at_call 93; refine (HF.out _).mono ?_; rintro e w1 ⟨A, rfl, hA, ho, hb1⟩; have HO := Lib.hid ho; have HB1 := Lib.hid hb1; clear ho hb1)
    | (go_at_call 92; refine (HJJ.out _ _ HO).mono ?_; rintro e w2 ⟨rfl, hb2⟩; have HB2 := Lib.hid (HB1.out.trans (hb2.mono HB1.out.size)); clear hb2)
    | fail)
  go_ret
  exact ⟨rfl, HB2.out⟩
set_option maxHeartbeats 1600000 in
set_option maxRecDepth 100000 in
theorem fits_any (s : Wd) (m : Nat) (w : World) (hs : s.length ≤ 1000000) : Calls Tryz.prog 86 #[.string ⟨s.toArray⟩, .int .i64 m] w fun e w' => e = .returned (.bool (fitsF s m)) ∧ w = w' := by
  cases s with
  | nil =>
    go_enter Tryz.func86, Tryz.ntmps86
    go_wp2
    go_ret
    exact ⟨rfl, rfl⟩
  | cons c l =>
    have HR := Lib.hid (show fitsF (c :: l) m = decide ((c :: l).length ≤ m) from by unfold fitsF; rfl)
    obtain ⟨s, hs'⟩ : ∃ s, c :: l = s := ⟨_, rfl⟩
    have hs1 : ¬ (⟨s.toArray⟩ : ByteArray) = ⟨#[]⟩ := fun e => by have := congrArg (fun a : ByteArray => a.data.toList) e; rw [← hs'] at this; simp at this
    have hs2 : s.isEmpty = false := by rw [← hs']; rfl
    rw [hs'] at HR hs ⊢
    clear hs'
    have e1 : decide ((s.length : Int) ≤ (m : Int)) = decide (s.length ≤ m) := by congr 1; simp
    obtain ⟨x, hx⟩ : ∃ x, decide (s.length ≤ m) = x := ⟨_, rfl⟩
    rw [hx] at e1 HR
    cases x
    all_goals
      go_enter Tryz.func86, Tryz.ntmps86
      go_wp2
      go_ret
      rw [HR.out]
      exact ⟨rfl, rfl⟩
/-- A tidied pair. -/
def halvesF (s by_ : Wd) : Wd × Wd × Bool := (tidyF (Lib.cut s by_).1, tidyF (Lib.cut s by_).2.1, (Lib.cut s by_).2.2)
set_option maxHeartbeats 1600000 in
set_option maxRecDepth 100000 in
theorem halves_any (s y : Wd) (w : World) (hg : Glb w) (hs : s.length ≤ 1000000) : Calls Tryz.prog 85 #[.string ⟨s.toArray⟩, .string ⟨y.toArray⟩] w fun e w' => e = .returned (.tuple #[.string ⟨(halvesF s y).1.toArray⟩, .string ⟨(halvesF s y).2.1.toArray⟩, .bool (halvesF s y).2.2]) ∧ Below w.heap.size w w' := by
  obtain ⟨m, hm⟩ := hg.max
  have hc := Tryz.strings_Cut ⟨s.toArray⟩ ⟨y.toArray⟩ m w (by rw [size_mk]; omega) hm
  obtain ⟨l1, l2⟩ := cutW_len s y
  unfold halvesF
  simp only at hc ⊢
  obtain ⟨a, ha⟩ : ∃ a, (Lib.cut s y).1 = a := ⟨_, rfl⟩
  obtain ⟨b, hb⟩ : ∃ b, (Lib.cut s y).2.1 = b := ⟨_, rfl⟩
  obtain ⟨c, hcc⟩ : ∃ c, (Lib.cut s y).2.2 = c := ⟨_, rfl⟩
  rw [ha, hb, hcc] at hc
  rw [ha] at l1
  rw [hb] at l2
  rw [ha, hb, hcc]
  have HC := Lib.hid hc
  have HTa := Lib.hid (fun w => tidy_any a w (by omega))
  have HTb := Lib.hid (fun w => tidy_any b w (by omega))
  clear hc ha hb hcc hg hm
  go_enter Tryz.func85, Tryz.ntmps85
  go_wp2_with (first
    | (go_at_call 23; refine HC.out.mono ?_; rintro e w1 ⟨rfl, n1, rfl⟩; have HB1 := Lib.hid (below_drewN (Below.refl w.heap.size w) n1))
    | (go_at_call 54; refine (HTa.out _).mono ?_; rintro e w2 ⟨rfl, hb2⟩; have HB2 := Lib.hid (HB1.out.trans hb2); clear hb2 HTa)
    | (go_at_call 54; refine (HTb.out _).mono ?_; rintro e w3 ⟨rfl, hb3⟩; have HB3 := Lib.hid (HB2.out.trans (hb3.mono HB2.out.size)); clear hb3)
    | fail)
  go_ret3
  exact ⟨rfl, HB3.out⟩
set_option maxHeartbeats 1600000 in
set_option maxRecDepth 100000 in
theorem bare_nil (t : Tok) (w : World) : Calls Tryz.prog 89 #[tokV t, .string ⟨#[]⟩] w fun e w' => e = .returned (.tuple #[]) ∧ Below w.heap.size w w' := by
  go_enter Tryz.func89, Tryz.ntmps89
  go_wp2
  go_end0
  exact ⟨rfl, (Below.refl _ _).alloc (Nat.le_refl _) _⟩
/-- How a call on the parser ends. -/
def DoPost (B b : Nat) (vm : Value) (r : Except Flt PS) (w : World) (e : Ending) (w' : World) : Prop := Below B w w' ∧ (match r with
  | .error f => ∃ v, e = .panicked [{ v := .iface 50 (.agg #[v]), recovered := false }] ∧ FltV w' v f
  | .ok s' => e = .returned (.tuple #[]) ∧ ∃ p, ParR B w' s' p ∧ p.b = b ∧ p.vm = vm)
theorem arg_empty {l : Wd} (h : l ≠ []) : ¬ (⟨l.toArray⟩ : ByteArray) = ⟨#[]⟩ ∧ l.isEmpty = false := ⟨fun e => h (by have := congrArg (fun a : ByteArray => a.data.toList) e; simpa using this), by simpa using h⟩
theorem info_sty : (Tryz.prog.info? 173).map (fun i => (i.zero, i.size, i.bytes)) = some (some (.agg #[.string ⟨#[]⟩, .int .i64 0]), 2, 24) := by kernel_rfl
theorem doErr {B b : Nat} {vm v : Value} {f : Flt} {w w0 w1 : World} (hf : FltV w1 v f) (hb : Below w0.heap.size w0 w1) (h0 : Below B w w0) (hB : B ≤ w0.heap.size) : DoPost B b vm (.error f) w (.panicked [{ v := .iface 50 (.agg #[v]), recovered := false }]) w1 := ⟨h0.trans (hb.mono hB), v, rfl, hf⟩
set_option maxHeartbeats 3200000 in
set_option maxRecDepth 100000 in
theorem bare_bad (t : Tok) (arg : Wd) (w : World) (ha : arg ≠ []) : Calls Tryz.prog 89 #[tokV t, .string ⟨arg.toArray⟩] w fun e w' => ∃ v, e = .panicked [{ v := .iface 50 (.agg #[v]), recovered := false }] ∧ FltV w' v (t.flt 51) ∧ Below w.heap.size w w' := by
  obtain ⟨e1, e2⟩ := arg_empty ha
  have HE := fun c w hc => swrong_any c t w hc
  clear ha
  go_enter Tryz.func89, Tryz.ntmps89
  go_wp2_with (go_at_call 52; refine (HE 51 _ (by decide)).mono ?_; rintro e w1 ⟨v, rfl, hf, hb⟩)
  exact ⟨rfl, v, rfl, hf, ((Below.refl _ _).alloc (Nat.le_refl _) _).trans (hb.mono (by simp))⟩
set_option maxHeartbeats 3200000 in
set_option maxRecDepth 100000 in
theorem style_any (B : Nat) (s : PS) (p : PV) (t : Tok) (arg : Wd) (w : World) (h : ParR B w s p) (hB : B ≤ w.heap.size) (hm : s.nst ≤ 70) :
    Calls Tryz.prog 29 #[parP p, tokV t, .string ⟨arg.toArray⟩] w (DoPost B p.b p.vm (s.style t arg) w) := by
  obtain ⟨i0, hi0, hz0, hz1, hz2⟩ := info_parts info_sty
  have HE := fun c w hc => swrong_any c t w hc
  have HB0 : Hid (Below B w (w.alloc (.cells #[.int .i64 t.kind, .string ⟨t.name.toArray⟩, .string ⟨t.text.toArray⟩, .int .i64 t.line, .int .i64 t.col] 59))) := Lib.hid ((Below.refl B w).alloc hB _)
  have hb1 : B ≤ (w.alloc (.cells #[.int .i64 t.kind, .string ⟨t.name.toArray⟩, .string ⟨t.text.toArray⟩, .int .i64 t.line, .int .i64 t.col] 59)).heap.size := by simp; omega
  have HB1 := Lib.hid hb1
  clear hb1
  by_cases ha : arg = []
  · subst ha
    have HP := Lib.hid (show s.style t [] = .error (t.flt 51) from rfl)
    clear h
    go_enter Tryz.func29, Tryz.ntmps29
    go_wp2_with (go_at_call 52; refine (HE 51 _ (by decide)).mono ?_; rintro e w1 ⟨v, rfl, hf, hb⟩)
    refine ⟨rfl, ?_⟩
    rw [HP.out]
    exact doErr hf hb HB0.out HB1.out
  · obtain ⟨e1, e2⟩ := arg_empty ha
    obtain ⟨c0, c1, c2, c3, c4, c5, cf⟩ := par_cells h
    have hpb := h.base
    have hpl := h.lt
    obtain ⟨xs, hs⟩ := h.sty
    obtain ⟨sa, sc, hv⟩ := owns_slice hs
    have ag : some p.b ≠ p.vS.ownBlock := fun e => owns_apart hs h.blk (by decide) e.symm
    rw [hv] at c1
    have HX := Lib.hid h
    have HS := Lib.hid hs
    by_cases hn : 64 ≤ s.nst
    · have HP := Lib.hid (show s.style t arg = .error (t.flt 2) from by unfold PS.style; rw [if_neg ha, if_pos hn])
      have hd1 : decide ((64 : Int) ≤ (s.nst : Int)) = true := by rw [decide_eq_true_eq]; omega
      have hd2 : decide (64 ≤ s.nst) = true := by rw [decide_eq_true_eq]; omega
      clear h hs ha hn hv
      go_enter Tryz.func29, Tryz.ntmps29
      go_wp2_with (go_at_call 52; refine (HE 2 _ (by decide)).mono ?_; rintro e w1 ⟨v, rfl, hf, hb⟩)
      refine ⟨rfl, ?_⟩
      rw [HP.out]
      exact doErr hf hb HB0.out HB1.out
    · have HP := Lib.hid (show s.style t arg = .ok { s with nst := s.nst + 1 } from by unfold PS.style; rw [if_neg ha, if_neg hn])
      have hd1 : decide ((64 : Int) ≤ (s.nst : Int)) = false := by rw [decide_eq_false_iff_not]; omega
      have hd2 : decide (64 ≤ s.nst) = false := by rw [decide_eq_false_iff_not]; omega
      have HV := Lib.hid hv
      rw [hv] at hs ag
      clear h ha hn hv
      go_enter Tryz.func29, Tryz.ntmps29
      go_wp2_with fail
      go_region_law
        ((refine step_append_lies _ (by rfl) _ _ _ (by rfl) B 173 i0 _ 2 24 Tryz.underlying25 hi0 hz0 hz1 hz2 rfl (by omega) (.slice sa s.nst sc) s.nst xs (by rfl) (((hs.alloc _).drew).alloc _)
            ⟨w.heap.size + 1, 0, none⟩ 1 1 [.string ⟨arg.toArray⟩, .int .i64 t.line] (by rfl) (by rfl) (World.news_of_block (cs := #[.string ⟨arg.toArray⟩, .int .i64 t.line]) (t := 173) (fr := (0, 0)) (two_newM w _ _)) (by simp [Value.oneCell'])
            (by omega) (by unfold maxLen; omega) (by omega) (by simp; omega) (w.heap.size + 2) (by simp) ?_; intro gg cap w1 hown1 hgrow hat hlt1; have q2 := hgrow.cell_far ⟨p.b, 1, none⟩ (by simp; omega) ag; have q2f := hgrow.frozen_far ⟨p.b, 1, none⟩ (by simp; omega) ag; simp at q2 q2f))
      all_goals
        have HB : Hid (Below B w w1) := Lib.hid (((((Below.refl B w).alloc hB _).alloc (by simp; omega) _).drew).grown hgrow (by simp; omega) fun k hk => (hs.lt k hk).1)
        have Hg := Lib.hid hgrow
        have Ho := Lib.hid hown1
        clear hgrow hown1
        go_wp2
        go_end0
        have hq := (((HX.out.alloc _).alloc _).drew).styled rfl (((HS.out.alloc _).alloc _).drew) (by rw [HV.out]; exact Hg.out) Ho.out
        rw [HP.out]
        exact ⟨HB.out.setCell hpb _, rfl, _, hq, rfl, rfl⟩
theorem flat_at {α : Type} (f : α → List Value) (z : Nat) (hz : ∀ x, (f x).length = z) : ∀ (l : List α) (k : Nat) (x : α), l[k]? = some x → ∀ i, i < z → (l.flatMap f)[k * z + i]? = (f x)[i]?
  | [], k, x, h, i, hi => by simp at h
  | y :: l, 0, x, h, i, hi => by
    simp only [List.getElem?_cons_zero, Option.some.injEq] at h
    subst h
    rw [List.flatMap_cons, Nat.zero_mul, Nat.zero_add, List.getElem?_append_left (by rw [hz]; exact hi)]
  | y :: l, k + 1, x, h, i, hi => by
    rw [List.flatMap_cons, List.getElem?_append_right (by rw [hz, Nat.add_mul]; omega), hz, show (k + 1) * z + i - z = k * z + i by rw [Nat.add_mul]; omega]
    exact flat_at f z hz l k x (by simpa using h) i hi
theorem bytesB_take (l : List Pc) (j : Nat) (x : Pc) (h : l[j]? = some x) : bytesB (l.take (j + 1)) = bytesB (l.take j) + (if x.1 = 1 then x.2 else 0) := by
  rw [List.take_add_one, h]
  simp [bytesB]
theorem bytesF_take (l : List (List Pc)) (k : Nat) (x : List Pc) (h : l[k]? = some x) : bytesF (l.take (k + 1)) = bytesF (l.take k) + bytesB x := by
  rw [List.take_add_one, h]
  simp [bytesF]
theorem bytesB_le (l : List Pc) (j : Nat) : bytesB (l.take j) ≤ bytesB l := by
  have : bytesB (l.take j ++ l.drop j) = bytesB (l.take j) + bytesB (l.drop j) := by simp only [bytesB, List.map_append, List.sum_append]
  rw [List.take_append_drop] at this
  omega
theorem bytesF_le (l : List (List Pc)) (j : Nat) : bytesF (l.take j) ≤ bytesF l := by
  have : bytesF (l.take j ++ l.drop j) = bytesF (l.take j) + bytesF (l.drop j) := by simp only [bytesF, List.map_append, List.sum_append]
  rw [List.take_append_drop] at this
  omega
/-- The cells of one of several rows of z cells. -/
theorem row_at {w : World} {B : Nat} {e : TypeId} {z n : Nat} {v : Value} {α : Type} {f : α → List Value} {l : List α} (hz : ∀ x, (f x).length = z) (h : w.ownsRow B e z v n (l.flatMap f)) (k : Nat) (x : α) (hk : l[k]? = some x) (hn : l.length = n) :
    ∃ g cap, v = .slice (some ⟨g, 0, none⟩) n cap ∧ g < w.heap.size ∧ ∀ i, i < z → w.cell? ⟨g, k * z + i, none⟩ = (f x)[i]? := by
  have hkl := (List.getElem?_eq_some_iff.1 hk).1
  rcases h.2 with ⟨_, h0⟩ | ⟨g, cap, cur, hv, h1, h2, h3, h4, h5, h6⟩
  · omega
  · refine ⟨g, cap, hv, lt_of_heap h2, fun i hi => ?_⟩
    rw [hv] at h
    rw [h.cellAt (k * z + i) (by
      have : (k + 1) * z ≤ n * z := Nat.mul_le_mul_right _ (by omega)
      rw [Nat.add_mul] at this; omega)]
    exact flat_at f z hz l k x hk i hi
set_option maxHeartbeats 6400000 in
set_option maxRecDepth 100000 in
theorem bytes_any (B : Nat) (t : Top) (sn st vK vE vB : Value) (w : World) (hb : BlksR B w vB t.blks) (_hB : B ≤ w.heap.size) (hn : t.blks.length ≤ 4000000) (hs : bytesF t.blks ≤ 4000000000000) :
    Calls Tryz.prog 91 #[.agg #[.int .i64 t.kind, sn, st, .int .i64 t.level, vK, vE, vB, .int .i64 t.line]] w fun e w' => e = .returned (.int .i64 (bytesF t.blks : Nat)) ∧ Below w.heap.size w w' := by
  obtain ⟨xs, h1, h2, h3⟩ := hb
  obtain ⟨va, vc, hv⟩ := owns_slice h1
  have H1 := Lib.hid h1
  have H3 := Lib.hid h3
  have H2 := Lib.hid h2
  obtain ⟨N, hN⟩ : ∃ N, t.blks.length = N := ⟨_, rfl⟩
  obtain ⟨bl, hbl⟩ : ∃ bl, t.blks = bl := ⟨_, rfl⟩
  rw [hbl] at H1 H2 H3 hN hs ⊢
  rw [hN] at H1 H2
  rw [hbl, hN] at hn hv
  subst hv
  clear h1 h2 h3
  have HNB := Lib.hid hN
  clear hN hbl
  go_enter Tryz.func91, Tryz.ntmps91
  go_wp2
  obtain ⟨w0, hw0⟩ : ∃ w0, w.alloc (.cells #[.int .i64 t.kind, sn, st, .int .i64 t.level, vK, vE, .slice va N vc, .int .i64 t.line] 101) = w0 := ⟨_, rfl⟩
  have HB0 : Hid (Below w.heap.size w w0) := Lib.hid (by rw [← hw0]; exact (Below.refl _ _).alloc (Nat.le_refl _) _)
  rw [hw0]
  clear hw0
  go_loopw [3, 11] (fun n i wr => ∃ k : Nat, k ≤ N ∧ i = .int .i64 k ∧ n = .int .i64 (bytesF (bl.take k) : Nat) ∧ Below w.heap.size w wr) (fun _ i _ => N - (intOf i).toNat)
  case atStart => exact ⟨0, Nat.zero_le _, rfl, rfl, HB0.out⟩
  case round =>
    obtain ⟨W, hW⟩ : ∃ W, W = wr := ⟨wr, rfl⟩
    subst hW
    obtain ⟨k, hk, rfl, rfl, hbw⟩ := hrel
    by_cases hlt : k < N
    · obtain ⟨x, hx⟩ : ∃ x, xs[k]? = some x := ⟨_, List.getElem?_eq_getElem (by rw [H2.out]; exact hlt)⟩
      obtain ⟨y, hy⟩ : ∃ y, bl[k]? = some y := ⟨_, List.getElem?_eq_getElem (by rw [HNB.out]; exact hlt)⟩
      obtain ⟨g, cap, hvv, hgl, hcl⟩ := row_at (f := blkC) (z := 6) (fun _ => rfl) H1.out k x hx H2.out
      cases hvv
      obtain ⟨⟨il, hp, ho⟩, ⟨sy, hsy⟩, wa, wn, wc, hwd⟩ := H3.out k x y hx hy
      obtain ⟨ia, ic, hiv⟩ := owns_slice ho
      have e0 : W.cell? ⟨g, k * 6, none⟩ = some (.int .i64 x.kind) := (hbw.cell (p := ⟨g, k * 6, none⟩) hgl).trans (hcl 0 (by omega))
      have e1 : W.cell? ⟨g, k * 6 + 1, none⟩ = some (.int .i64 x.n) := (hbw.cell (p := ⟨g, k * 6 + 1, none⟩) hgl).trans (hcl 1 (by omega))
      have e2 : W.cell? ⟨g, k * 6 + 2, none⟩ = some x.style := (hbw.cell (p := ⟨g, k * 6 + 2, none⟩) hgl).trans (hcl 2 (by omega))
      have e3 : W.cell? ⟨g, k * 6 + 3, none⟩ = some x.widths := (hbw.cell (p := ⟨g, k * 6 + 3, none⟩) hgl).trans (hcl 3 (by omega))
      have e4 : W.cell? ⟨g, k * 6 + 4, none⟩ = some x.text := (hbw.cell (p := ⟨g, k * 6 + 4, none⟩) hgl).trans (hcl 4 (by omega))
      have e5 : W.cell? ⟨g, k * 6 + 5, none⟩ = some (.int .i64 x.line) := (hbw.cell (p := ⟨g, k * 6 + 5, none⟩) hgl).trans (hcl 5 (by omega))
      rw [hiv] at e4
      rw [hsy] at e2
      rw [hwd] at e3
      have hst := bytesF_take bl k y hy
      have hle := bytesF_le bl (k + 1)
      obtain ⟨m, hm⟩ : ∃ m, bytesF (bl.take k) = m := ⟨_, rfl⟩
      rw [hm] at hst ⊢
      have HST := Lib.hid hst
      have hmb : m + bytesB y ≤ 4000000000000 := by omega
      have HO := Lib.hid ho
      have HP := Lib.hid hp
      have HLT := Lib.hid hlt
      have HBW := Lib.hid hbw
      have hzw := hbw.size
      obtain ⟨L, hL⟩ : ∃ L, il.length = L := ⟨_, rfl⟩
      rw [hL] at e4 HO
      have HL := Lib.hid hL
      have hLm : L ≤ 9223372036854775807 := owns_max HO.out
      rw [hiv] at HO
      clear hcl hx hy hp ho hiv hm hst hle hbw hL hsy hwd
      go_wp2
      go_loopw [3, 18] (fun n i wr => ∃ j : Nat, j ≤ L ∧ i = .int .i64 j ∧ n = .int .i64 (m + bytesB (y.take j) : Nat) ∧ Below w.heap.size w wr) (fun _ i _ => L - (intOf i).toNat)
      case atStart => exact ⟨0, Nat.zero_le _, rfl, rfl, HBW.out.alloc (by omega) _⟩
      case round =>
        obtain ⟨V, hV⟩ : ∃ V, V = wr := ⟨wr, rfl⟩
        subst hV
        obtain ⟨j, hj, rfl, rfl, hbv⟩ := hrel
        have HBV := Lib.hid hbv
        have hzv := hbv.size
        by_cases hjl : j < L
        · obtain ⟨z, hz⟩ : ∃ z, il[j]? = some z := ⟨_, List.getElem?_eq_getElem (by rw [HL.out]; exact hjl)⟩
          have hyj : y[j]? = some z.pc := by rw [← HP.out, List.getElem?_map, hz]; rfl
          obtain ⟨g2, cap2, hv2, hgl2, hcl⟩ := row_at (f := inlC) (z := 5) (fun _ => rfl) HO.out j z hz HL.out
          cases hv2
          have f0 : V.cell? ⟨g2, j * 5, none⟩ = some (.int .i64 z.kind) := (hbv.cell (p := ⟨g2, j * 5, none⟩) hgl2).trans (hcl 0 (by omega))
          have f1 : V.cell? ⟨g2, j * 5 + 1, none⟩ = some (.string ⟨z.text.toArray⟩) := (hbv.cell (p := ⟨g2, j * 5 + 1, none⟩) hgl2).trans (hcl 1 (by omega))
          have f2 : V.cell? ⟨g2, j * 5 + 2, none⟩ = some (.string ⟨z.name.toArray⟩) := (hbv.cell (p := ⟨g2, j * 5 + 2, none⟩) hgl2).trans (hcl 2 (by omega))
          have f3 : V.cell? ⟨g2, j * 5 + 3, none⟩ = some (.int .i64 z.line) := (hbv.cell (p := ⟨g2, j * 5 + 3, none⟩) hgl2).trans (hcl 3 (by omega))
          have f4 : V.cell? ⟨g2, j * 5 + 4, none⟩ = some (.int .i64 z.col) := (hbv.cell (p := ⟨g2, j * 5 + 4, none⟩) hgl2).trans (hcl 4 (by omega))
          have hst := bytesB_take y j z.pc hyj
          have hle := bytesB_le y (j + 1)
          have HLJ := Lib.hid hjl
          by_cases hk1 : z.kind = 1
          · have e9 : ((z.kind : Int) == 1) = true := by rw [hk1]; rfl
            have hpc : (if z.pc.1 = 1 then z.pc.2 else 0) = z.text.length := by unfold Inl.pc; simp [hk1]
            rw [hpc] at hst
            obtain ⟨q, hq⟩ : ∃ q, bytesB (y.take j) = q := ⟨_, rfl⟩
            rw [hq] at hst ⊢
            have HST2 := Lib.hid hst
            have hqb : m + (q + z.text.length) ≤ 4000000000000 := by omega
            clear hcl hz hyj hst hle hpc hq hbv hk1
            go_wp2
            go_roundw
            case rel => exact ⟨j + 1, by have := HLJ.out; omega, by go_num, by rw [HST2.out]; simp only [Value.int.injEq, true_and]; omega, (HBV.out.alloc (by omega) _)⟩
            case measure => simp [intOf]; have := HLJ.out; omega
          · have e9 : ((z.kind : Int) == 1) = false := by rw [beq_eq_false_iff_ne]; omega
            have hpc : (if z.pc.1 = 1 then z.pc.2 else 0) = 0 := by unfold Inl.pc; simp [hk1]
            rw [hpc] at hst
            have HST2 := Lib.hid hst
            clear hcl hz hyj hst hle hpc hbv hk1
            go_wp2
            go_roundw
            case rel => exact ⟨j + 1, by have := HLJ.out; omega, by go_num, by rw [HST2.out]; rfl, (HBV.out.alloc (by omega) _)⟩
            case measure => simp [intOf]; have := HLJ.out; omega
        · have hjL : j = L := by omega
          subst hjL
          have hyl : y.take j = y := by rw [← HL.out, List.take_of_length_le]; rw [← HP.out, List.length_map]; exact Nat.le_refl _
          rw [hyl]
          have hkb : k + 1 ≤ N := by have := HLT.out; omega
          clear hyl hbv
          go_wp2
          go_roundw
          case rel => exact ⟨k + 1, hkb, by go_num, by rw [HST.out], HBV.out⟩
          case measure => simp [intOf]; omega
    · have hkn : k = N := by omega
      subst hkn
      have hfull : bl.take k = bl := by rw [← HNB.out, List.take_length]
      rw [hfull]
      have HBW := Lib.hid hbw
      clear hfull hbw
      go_wp2
      go_ret
      exact ⟨rfl, HBW.out⟩
/-- The closing of a topic; what is there stays as it is. -/
def ClosePost (_B : Nat) (_s : PS) (_p : PV) (r : Except Flt PS) (w : World) (e : Ending) (w' : World) : Prop := Below w.heap.size w w' ∧ (match r with
  | .error f => ∃ v, e = .panicked [{ v := .iface 50 (.agg #[v]), recovered := false }] ∧ FltV w' v f
  | .ok _ => e = .returned (.tuple #[]))
theorem close_ok {s s' : PS} (h : s.close = .ok s') : s' = s := by
  unfold PS.close at h
  repeat' split at h
  all_goals (cases h; try rfl)
set_option maxHeartbeats 6400000 in
set_option maxRecDepth 100000 in
theorem close_any (B : Nat) (s : PS) (p : PV) (w : World) (h : ParR B w s p) (hB : B ≤ w.heap.size) (hn : ∀ t, s.cur = some t → t.blks.length ≤ 4000000 ∧ bytesF t.blks ≤ 4000000000000) :
    Calls Tryz.prog 53 #[parP p] w (ClosePost B s p s.close w) := by
  have hL := last_any B s p w h
  cases hl : s.last with
  | some l =>
    have HP := Lib.hid (show s.close = .error (l.tok.flt 53) from by unfold PS.close; rw [hl])
    have HE := fun c w hc => swrong_any c l.tok w hc
    obtain ⟨cap, -, -, d0, d1, d2, d3, d4, d5, d6, d7, d8, d9, df, dq, dB⟩ := lvl_cells h hl
    rw [lastP_some hl] at hL
    have HL := Lib.hid hL
    clear h hl hL hn d0 d1 d2 d3 d4
    go_enter Tryz.func53, Tryz.ntmps53
    go_wp2_with (first
      | (go_at_call 44; refine HL.out.mono ?_; rintro e w1 ⟨rfl, rfl⟩; clear HL)
      | (go_at_call 52; refine (HE 53 _ (by decide)).mono ?_; rintro e w9 ⟨v, rfl, hf, hb⟩)
      | fail)
    refine ⟨rfl, ?_⟩
    rw [HP.out]
    exact ⟨hb, v, rfl, hf⟩
  | none =>
    have hT := topic_any B s p w h
    rw [lastP_none hl] at hL
    have HL := Lib.hid hL
    cases hc : s.cur with
    | none =>
      rw [topP_none hc] at hT
      have HT := Lib.hid hT
      have HP := Lib.hid (show s.close = .ok s from by unfold PS.close; rw [hl, hc])
      clear h hl hL hn hT hc
      go_enter Tryz.func53, Tryz.ntmps53
      go_wp2_with (first
        | (go_at_call 44; refine HL.out.mono ?_; rintro e w1 ⟨rfl, rfl⟩; clear HL)
        | (go_at_call 28; refine HT.out.mono ?_; rintro e w2 ⟨rfl, rfl⟩; clear HT)
        | fail)
      go_end0
      rw [HP.out]
      exact ⟨Below.refl _ _, rfl⟩
    | some t =>
      rw [topP_some hc] at hT
      have HT := Lib.hid hT
      obtain ⟨n1, n2⟩ := hn t hc
      obtain ⟨cap, sn, st, -, -, d0, d1, d2, d3, d4, d5, d6, d7, df, dl, dB⟩ := top_cells (h.top t hc).1
      have HBY := Lib.hid (bytes_any B t sn st p.vK p.vE p.vB w (h.top t hc).2.2.2 hB n1 n2)
      have HE : Hid (∀ w', Calls Tryz.prog 56 #[.int .i64 2, .int .i64 t.line, .int .i64 1, .string ⟨(if t.kind = 1 then ([110, 111, 116, 101] : Wd) else [116, 111, 112, 105, 99]).toArray⟩] w' (StopPost ⟨2, t.line, 1, if t.kind = 1 then [110, 111, 116, 101] else [116, 111, 112, 105, 99]⟩ w')) := Lib.hid (fun w' => stop_any 2 t.line 1 _ w' (by decide))
      by_cases hlong : 16384 < bytesF t.blks
      · have HP := Lib.hid (show s.close = .error ⟨2, t.line, 1, if t.kind = 1 then [110, 111, 116, 101] else [116, 111, 112, 105, 99]⟩ from by unfold PS.close; rw [hl, hc]; simp only [hlong, if_true])
        obtain ⟨m, hm⟩ : ∃ m, bytesF t.blks = m := ⟨_, rfl⟩
        rw [hm] at HBY hlong n2
        have e1 : decide ((16384 : Int) < (m : Int)) = true := by rw [decide_eq_true_eq]; omega
        have e2 : decide (16384 < m) = true := by rw [decide_eq_true_eq]; omega
        clear h hl hL hn hT hc hm hlong n2
        by_cases hk : t.kind = 1
        all_goals
          first
            | (have hkb : ((t.kind : Int) == 1) = true := by rw [hk]; rfl)
            | (have hkb : ((t.kind : Int) == 1) = false := by rw [beq_eq_false_iff_ne]; omega)
          simp only [hk, if_true, if_false] at HE HP
          clear hk
          go_enter Tryz.func53, Tryz.ntmps53
          go_wp2_with (first
            | (go_at_call 44; refine HL.out.mono ?_; rintro e w1 ⟨rfl, rfl⟩; clear HL)
            | (go_at_call 28; refine HT.out.mono ?_; rintro e w2 ⟨rfl, rfl⟩; clear HT)
            | (go_at_call 91; refine HBY.out.mono ?_; rintro e w3 ⟨rfl, hb3⟩; have d0' : w3.cell? ⟨p.g, p.o, none⟩ = some (.int .i64 t.kind) := (hb3.cell dl).trans d0; have d7' : w3.cell? ⟨p.g, p.o + 7, none⟩ = some (.int .i64 t.line) := (hb3.cell dl).trans d7; have HB3 := Lib.hid hb3; clear hb3 HBY)
            | (go_at_call 56; refine (HE.out _).mono ?_; rintro e w9 ⟨v, rfl, hf, hb⟩)
            | fail)
          refine ⟨rfl, ?_⟩
          rw [HP.out]
          exact ⟨HB3.out.trans (hb.mono HB3.out.size), v, rfl, hf⟩
      · have HP := Lib.hid (show s.close = .ok s from by unfold PS.close; rw [hl, hc]; simp only [hlong, if_false])
        obtain ⟨m, hm⟩ : ∃ m, bytesF t.blks = m := ⟨_, rfl⟩
        rw [hm] at HBY hlong n2
        have e1 : decide ((16384 : Int) < (m : Int)) = false := by rw [decide_eq_false_iff_not]; omega
        have e2 : decide (16384 < m) = false := by rw [decide_eq_false_iff_not]; omega
        clear h hl hL hn hT hc hm hlong
        go_enter Tryz.func53, Tryz.ntmps53
        go_wp2_with (first
          | (go_at_call 44; refine HL.out.mono ?_; rintro e w1 ⟨rfl, rfl⟩; clear HL)
          | (go_at_call 28; refine HT.out.mono ?_; rintro e w2 ⟨rfl, rfl⟩; clear HT)
          | (go_at_call 91; refine HBY.out.mono ?_; rintro e w3 ⟨rfl, hb3⟩; have HB3 := Lib.hid hb3; clear hb3 HBY)
          | fail)
        go_end0
        rw [HP.out]
        exact ⟨HB3.out, rfl⟩
set_option maxHeartbeats 6400000 in
set_option maxRecDepth 100000 in
theorem finish_any (B : Nat) (s : PS) (p : PV) (w : World) (h : ParR B w s p) (hB : B ≤ w.heap.size) (hn : ∀ t, s.cur = some t → t.blks.length ≤ 4000000 ∧ bytesF t.blks ≤ 4000000000000) :
    Calls Tryz.prog 16 #[parP p] w (ClosePost B s p s.finish w) := by
  obtain ⟨c0, c1, c2, c3, c4, c5, cf⟩ := par_cells h
  have hpa := h.para
  obtain ⟨pa, pc, hv⟩ := owns_slice hpa
  rw [hv] at c4
  clear c0 c1 c2 c3 c5
  cases hp : s.para with
  | none =>
    have hF : s.finish = s.close := by unfold PS.finish; rw [hp]
    rw [hF]
    have hC := close_any B s p w h hB hn
    rw [hp] at c4
    simp only [Option.toList_none, List.length_nil] at c4
    obtain ⟨R, hR⟩ : ∃ R, s.close = R := ⟨_, rfl⟩
    rw [hR] at hC ⊢
    clear h hn hpa hv hp hF hR
    unfold ClosePost at hC ⊢
    cases R with
    | error f =>
      have HC := Lib.hid hC
      clear hC
      go_enter Tryz.func16, Tryz.ntmps16
      go_wp2_with (go_at_call 53; refine HC.out.mono ?_; rintro e w9 ⟨hb, v, rfl, hf⟩)
      exact ⟨rfl, hb, v, rfl, hf⟩
    | ok s1 =>
      have HC := Lib.hid hC
      clear hC
      go_enter Tryz.func16, Tryz.ntmps16
      go_wp2_with (go_at_call 53; refine HC.out.mono ?_; rintro e w9 ⟨hb, rfl⟩)
      go_end0
      exact ⟨hb, rfl⟩
  | some t =>
    have HP := Lib.hid (show s.finish = .error (t.flt 53) from by unfold PS.finish; rw [hp])
    have HE := fun c w hc => swrong_any c t w hc
    rw [hv, hp] at hpa
    rw [hp] at c4
    simp only [Option.toList_some, List.length_singleton] at c4 hpa
    have hrow : ∃ g, pa = some ⟨g, 0, none⟩ ∧ ∀ i, i < 5 → w.cell? ⟨g, i, none⟩ = (tokC t)[i]? := by
      rcases hpa.2 with ⟨h0, _⟩ | ⟨g, cap, cur, he, h1, h2, h3, h4, h5⟩
      · cases h0
      · cases he
        exact ⟨g, rfl, fun i hi => by rw [hpa.cellAt i (by omega)]; simp [toksC]⟩
    obtain ⟨g, rfl, hcl⟩ := hrow
    have e0 : w.cell? ⟨g, 0, none⟩ = some (.int .i64 t.kind) := hcl 0 (by omega)
    have e1 : w.cell? ⟨g, 1, none⟩ = some (.string ⟨t.name.toArray⟩) := hcl 1 (by omega)
    have e2 : w.cell? ⟨g, 2, none⟩ = some (.string ⟨t.text.toArray⟩) := hcl 2 (by omega)
    have e3 : w.cell? ⟨g, 3, none⟩ = some (.int .i64 t.line) := hcl 3 (by omega)
    have e4 : w.cell? ⟨g, 4, none⟩ = some (.int .i64 t.col) := hcl 4 (by omega)
    clear h hn hpa hv hp hcl
    go_enter Tryz.func16, Tryz.ntmps16
    go_wp2_with (go_at_call 52; refine (HE 53 _ (by decide)).mono ?_; rintro e w9 ⟨v, rfl, hf, hb⟩)
    refine ⟨rfl, ?_⟩
    rw [HP.out]
    exact ⟨hb, v, rfl, hf⟩
set_option maxHeartbeats 3200000 in
set_option maxRecDepth 100000 in
theorem directive_open (B : Nat) (s : PS) (p : PV) (t q : Tok) (w : World) (h : ParR B w s p) (hB : B ≤ w.heap.size) (hp : s.para = some q) :
    Calls Tryz.prog 14 #[parP p, tokV t] w (DoPost B p.b p.vm (.error (q.flt 53)) w) := by
  have HB0 : Hid (Below B w (w.alloc (.cells #[.int .i64 t.kind, .string ⟨t.name.toArray⟩, .string ⟨t.text.toArray⟩, .int .i64 t.line, .int .i64 t.col] 59))) := Lib.hid ((Below.refl B w).alloc hB _)
  have hb1 : B ≤ (w.alloc (.cells #[.int .i64 t.kind, .string ⟨t.name.toArray⟩, .string ⟨t.text.toArray⟩, .int .i64 t.line, .int .i64 t.col] 59)).heap.size := by simp; omega
  have HB1 := Lib.hid hb1
  clear hb1
  have HE := fun c w hc => swrong_any c q w hc
  obtain ⟨c0, c1, c2, c3, c4, c5, cf⟩ := par_cells h
  have hpl := h.lt
  have hpa := h.para
  obtain ⟨pa, pc, hv⟩ := owns_slice hpa
  rw [hv, hp] at hpa
  rw [hv, hp] at c4
  simp only [Option.toList_some, List.length_singleton] at c4 hpa
  have hrow : ∃ g, pa = some ⟨g, 0, none⟩ ∧ g < w.heap.size ∧ ∀ i, i < 5 → w.cell? ⟨g, i, none⟩ = (tokC q)[i]? := by
    rcases hpa.2 with ⟨h0, _⟩ | ⟨g, cap, cur, he, h1, h2, h3, h4, h5⟩
    · cases h0
    · cases he
      exact ⟨g, rfl, lt_of_heap h2, fun i hi => by rw [hpa.cellAt i (by omega)]; simp [toksC]⟩
  obtain ⟨g, rfl, hgl, hcl⟩ := hrow
  have e0 : w.cell? ⟨g, 0, none⟩ = some (.int .i64 q.kind) := hcl 0 (by omega)
  have e1 : w.cell? ⟨g, 1, none⟩ = some (.string ⟨q.name.toArray⟩) := hcl 1 (by omega)
  have e2 : w.cell? ⟨g, 2, none⟩ = some (.string ⟨q.text.toArray⟩) := hcl 2 (by omega)
  have e3 : w.cell? ⟨g, 3, none⟩ = some (.int .i64 q.line) := hcl 3 (by omega)
  have e4 : w.cell? ⟨g, 4, none⟩ = some (.int .i64 q.col) := hcl 4 (by omega)
  clear h hpa hv hp hcl c0 c1 c2 c3 c5
  go_enter Tryz.func14, Tryz.ntmps14
  go_wp2_with (go_at_call 52; refine (HE 53 _ (by decide)).mono ?_; rintro e w9 ⟨v, rfl, hf, hb⟩)
  exact ⟨rfl, doErr hf hb HB0.out HB1.out⟩
set_option maxHeartbeats 3200000 in
set_option maxRecDepth 100000 in
theorem directive_miss (B : Nat) (s : PS) (p : PV) (t : Tok) (w : World) (h : ParR B w s p) (hB : B ≤ w.heap.size) (hpn : s.para = none) (hn : ∀ y ∈ PS.names, y ≠ t.name) :
    Calls Tryz.prog 14 #[parP p, tokV t] w (DoPost B p.b p.vm (.error (t.flt 50)) w) := by
  have HE := fun c w hc => swrong_any c t w hc
  obtain ⟨r, hvm, hmo⟩ := h.map
  have hlook := fun W hW => look_miss t.name (find_miss t.name PS.names ordF 0 0 hn) W r hW
  obtain ⟨c0, c1, c2, c3, c4, c5, cf⟩ := par_cells h
  have hpl := h.lt
  obtain ⟨pa, pc, hv⟩ := owns_slice h.para
  rw [hv, hpn] at c4
  simp only [Option.toList_none, List.length_nil] at c4
  rw [hvm] at c0
  have hmap : ∀ W, Below w.heap.size w W → W.heap[r]? = some ordO := fun W hb => by rw [hb.block r (lt_of_heap hmo)]; exact hmo
  have hbx := (Below.refl w.heap.size w).alloc (Nat.le_refl _) (.cells #[.int .i64 t.kind, .string ⟨t.name.toArray⟩, .string ⟨t.text.toArray⟩, .int .i64 t.line, .int .i64 t.col] 59)
  have hbo := hbx.alloc (by simp) (.cells #[.nilFunc, .nilFunc] 95)
  have hbp := (hbx.drew).alloc (by simp) (.cells #[.nilFunc, .nilFunc] 95)
  have hk1 := hlook _ (hmap _ hbx)
  have hk2 := hlook _ (hmap _ hbx.drew)
  have hk3 := hlook _ (hmap _ hbo)
  have hk4 := hlook _ (hmap _ hbo.drew)
  have hk5 := hlook _ (hmap _ hbp)
  clear hlook hmap hbx hbo hbp
  have qs0 : (((w.alloc (.cells #[.int .i64 t.kind, .string ⟨t.name.toArray⟩, .string ⟨t.text.toArray⟩, .int .i64 t.line, .int .i64 t.col] 59)).alloc (.cells #[.nilFunc, .nilFunc] 95)).drew).cell? ⟨w.heap.size + 1, 0, none⟩ = some .nilFunc := by simp
  have qs1 : (((w.alloc (.cells #[.int .i64 t.kind, .string ⟨t.name.toArray⟩, .string ⟨t.text.toArray⟩, .int .i64 t.line, .int .i64 t.col] 59)).alloc (.cells #[.nilFunc, .nilFunc] 95)).drew).cell? ⟨w.heap.size + 1, 1, none⟩ = some .nilFunc := by simp
  have qf0 : ∀ i, (((w.alloc (.cells #[.int .i64 t.kind, .string ⟨t.name.toArray⟩, .string ⟨t.text.toArray⟩, .int .i64 t.line, .int .i64 t.col] 59)).alloc (.cells #[.nilFunc, .nilFunc] 95)).drew).frozen? ⟨w.heap.size + 1, i, none⟩ = false := fun i => by simp
  have HB9 : Hid (∀ W, Below w.heap.size w W → Below B w W ∧ B ≤ W.heap.size) := Lib.hid fun W hb => ⟨hb.mono hB, Nat.le_trans hB hb.size⟩
  have HB8 : Hid (Below w.heap.size w ((w.alloc (.cells #[.int .i64 t.kind, .string ⟨t.name.toArray⟩, .string ⟨t.text.toArray⟩, .int .i64 t.line, .int .i64 t.col] 59)).alloc (.cells #[.nilFunc, .nilFunc] 95)).drew) := Lib.hid ((((Below.refl w.heap.size w).alloc (Nat.le_refl _) _).alloc (by simp) _).drew)
  clear h hv hpn hn hmo c1 c2 c3 c5
  go_enter Tryz.func14, Tryz.ntmps14
  go_wp2_with fail
  go_region
  all_goals
    go_wp2_with (go_at_call 52; refine (HE 50 _ (by decide)).mono ?_; rintro e w9 ⟨v, rfl, hf, hb⟩)
    exact ⟨rfl, doErr hf hb (HB9.out _ HB8.out).1 (HB9.out _ HB8.out).2⟩
/-- What is known of a directive that stands in the map. -/
structure DirH (B : Nat) (s : PS) (p : PV) (t : Tok) (n f g : Nat) : Prop where
  look : ∀ W r, W.heap[r]? = some ordO → (Instr.lookup 53 (.map (some r)) (.string ⟨t.name.toArray⟩) true).run Tryz.prog W = .ok (.tuple #[.agg #[.func (.func f) #[] #[], .func (.func g) #[] #[]], .bool true]) W
  ef : ∀ args w, (callFunc f args).run Tryz.prog w = .ok (.enter f args) w
  eg : ∀ args w, (callFunc g args).run Tryz.prog w = .ok (.enter g args) w
  may : ∀ W, ParR B W s p → Calls Tryz.prog f #[parP p] W (MayPostD (s.may n) W)
  does : s.may n = true → ∀ W, ParR B W s p → B ≤ W.heap.size → Glb W → Calls Tryz.prog g #[parP p, tokV t, .string ⟨(tidyF t.text).toArray⟩] W (DoPost B p.b p.vm (s.do_ t (tidyF t.text) n) W)
  nR : (t.name == [114, 111, 119]) = (n == 10)
  nE : (t.name == [101, 110, 100]) = (n == 11)
  nT : (t.name == [116, 111, 112, 105, 99]) = (n == 1)
  nN : (t.name == [110, 111, 116, 101]) = (n == 2)
set_option maxHeartbeats 6400000 in
set_option maxRecDepth 100000 in
theorem directive_not (B : Nat) (s : PS) (p : PV) (t : Tok) (n f g : Nat) (w : World) (h : ParR B w s p) (hB : B ≤ w.heap.size) (hpn : s.para = none) (hD : DirH B s p t n f g) (hm : s.may n = false) :
    Calls Tryz.prog 14 #[parP p, tokV t] w (DoPost B p.b p.vm (.error (t.flt 50)) w) := by
  have HE := fun c w hc => swrong_any c t w hc
  have hM := hD.may
  rw [hm] at hM
  have HM := Lib.hid hM
  obtain ⟨c0, c1, c2, c3, c4, c5, cf⟩ := par_cells h
  have hpl := h.lt
  obtain ⟨pa, pc, hv⟩ := owns_slice h.para
  rw [hv, hpn] at c4
  simp only [Option.toList_none, List.length_nil] at c4
  obtain ⟨r, hvm, hmo⟩ := h.map
  have hlook := fun W hW => hD.look W r hW
  rw [hvm] at c0
  have hmap : ∀ W, Below w.heap.size w W → W.heap[r]? = some ordO := fun W hb => by rw [hb.block r (lt_of_heap hmo)]; exact hmo
  have hbx := (Below.refl w.heap.size w).alloc (Nat.le_refl _) (.cells #[.int .i64 t.kind, .string ⟨t.name.toArray⟩, .string ⟨t.text.toArray⟩, .int .i64 t.line, .int .i64 t.col] 59)
  have hbo := hbx.alloc (by simp) (.cells #[.nilFunc, .nilFunc] 95)
  have hbp := (hbx.drew).alloc (by simp) (.cells #[.nilFunc, .nilFunc] 95)
  have hk1 := hlook _ (hmap _ hbx)
  have hk2 := hlook _ (hmap _ hbx.drew)
  have hk3 := hlook _ (hmap _ hbo)
  have hk4 := hlook _ (hmap _ hbo.drew)
  have hk5 := hlook _ (hmap _ hbp)
  clear hlook hmap hbx hbo hbp
  have qs0 : (((w.alloc (.cells #[.int .i64 t.kind, .string ⟨t.name.toArray⟩, .string ⟨t.text.toArray⟩, .int .i64 t.line, .int .i64 t.col] 59)).alloc (.cells #[.nilFunc, .nilFunc] 95)).drew).cell? ⟨w.heap.size + 1, 0, none⟩ = some .nilFunc := by simp
  have qs1 : (((w.alloc (.cells #[.int .i64 t.kind, .string ⟨t.name.toArray⟩, .string ⟨t.text.toArray⟩, .int .i64 t.line, .int .i64 t.col] 59)).alloc (.cells #[.nilFunc, .nilFunc] 95)).drew).cell? ⟨w.heap.size + 1, 1, none⟩ = some .nilFunc := by simp
  have qf0 : ∀ i, (((w.alloc (.cells #[.int .i64 t.kind, .string ⟨t.name.toArray⟩, .string ⟨t.text.toArray⟩, .int .i64 t.line, .int .i64 t.col] 59)).alloc (.cells #[.nilFunc, .nilFunc] 95)).drew).frozen? ⟨w.heap.size + 1, i, none⟩ = false := fun i => by simp
  have HX := Lib.hid h
  have HBW : Hid (Below w.heap.size w ((w.alloc (.cells #[.int .i64 t.kind, .string ⟨t.name.toArray⟩, .string ⟨t.text.toArray⟩, .int .i64 t.line, .int .i64 t.col] 59)).alloc (.cells #[.func (.func f) #[] #[], .func (.func g) #[] #[]] 95)).drew) := Lib.hid ((((Below.refl w.heap.size w).alloc (Nat.le_refl _) _).alloc (by simp) _).drew)
  have hef := hD.ef
  have heg := hD.eg
  clear hv hpn hmo c1 c2 c3 c5
  clear hM hD h hm
  go_enter Tryz.func14, Tryz.ntmps14
  go_wp2_with fail
  go_region
  all_goals
    go_wp2_with fail
    obtain ⟨w2, hWe⟩ : ∃ W, ((w.alloc (.cells #[.int .i64 t.kind, .string ⟨t.name.toArray⟩, .string ⟨t.text.toArray⟩, .int .i64 t.line, .int .i64 t.col] 59)).alloc (.cells #[.func (.func f) #[] #[], .func (.func g) #[] #[]] 95)).drew = W := ⟨_, rfl⟩
    have dt0 : w2.cell? ⟨w.heap.size, 0, none⟩ = some (.int .i64 t.kind) := by rw [← hWe]; simp
    have dt1 : w2.cell? ⟨w.heap.size, 1, none⟩ = some (.string ⟨t.name.toArray⟩) := by rw [← hWe]; simp
    have dt2 : w2.cell? ⟨w.heap.size, 2, none⟩ = some (.string ⟨t.text.toArray⟩) := by rw [← hWe]; simp
    have dt3 : w2.cell? ⟨w.heap.size, 3, none⟩ = some (.int .i64 t.line) := by rw [← hWe]; simp
    have dt4 : w2.cell? ⟨w.heap.size, 4, none⟩ = some (.int .i64 t.col) := by rw [← hWe]; simp
    have du0 : w2.cell? ⟨w.heap.size + 1, 0, none⟩ = some (.func (.func f) #[] #[]) := by rw [← hWe]; simp
    have du1 : w2.cell? ⟨w.heap.size + 1, 1, none⟩ = some (.func (.func g) #[] #[]) := by rw [← hWe]; simp
    have hsz : w.heap.size + 1 < w2.heap.size := by rw [← hWe]; simp
    rw [hWe] at HBW ⊢
    clear hWe hk1 hk2 hk3 hk4 hk5
    go_wp2_with (first
      | (go_at_fn f; refine (HM.out _ (HX.out.new HBW.out)).mono ?_; rintro e w3 ⟨rfl, k3, rfl⟩)
      | (go_at_call 52; refine (HE 50 _ (by decide)).mono ?_; rintro e w9 ⟨v, rfl, hf, hb⟩)
      | fail)
    have hb3 := below_drewM (HBW.out.mono hB) k3
    exact ⟨rfl, doErr hf hb hb3 (by have := HBW.out.size; simp; omega)⟩
end Go.Proofs.YtafhmagifoapfaaGreatDoor
