/- strings.Builder, at this dump: WriteByte, WriteString, WriteRune, String. (The arms of AppendRune are printed by gen_bld.py.) -/
import Derived.Test.YthpbdeiphagkiaaDoorBld
import Derived.Deep.AppendLies
namespace Go.Proofs.YthpbdeiphagkiaaDoor
open Go.RowKit

section
variable {P : Program}
/-- Appending a string's bytes: and where the new row lies. -/
theorem run_append_string_at (w : World) (base : Nat) (t u ty e : TypeId) (i : TypeInfo) (ht : P.underlying t = some (.slice e)) (hu : P.underlying u = some .string) (hi : P.info? e = some i) (hz : i.zero = some (.int .u8 0))
    (hsize : i.size = 1) (hby : i.bytes = 1)
    (v : Value) (n : Nat) (xs : List Value) (hown : w.ownsRow base e 1 v n xs) (s : ByteArray)
    (h63 : n + s.size ≤ maxLen) (hbytes : n + s.size ≤ 140737488355328) (hbase : base ≤ w.heap.size) :
    ∃ v' w', (Builtin.append_ #[t, u] ty #[v, .string s]).run P w = .ok v' w' ∧ w'.ownsRow base e 1 v' (n + s.size) (xs ++ Lib.strCells s) ∧ w.grownBy w' v.ownBlock ∧
      (∀ g, v'.ownBlock = some g → v.ownBlock = some g ∨ w.heap.size ≤ g) := by
  obtain ⟨v', w', hr, h2, h3, h4⟩ := Lib.run_append_own_string (P := P) w base t u ty e i ht hu hi hz hsize hby v n xs hown s h63 hbytes hbase
  refine ⟨v', w', hr, h2, h3, ?_⟩
  have hxl : xs.length = n := by simpa using hown.1
  rcases hown.2 with ⟨rfl, rfl⟩ | ⟨g, cap, cur, rfl, hbg, hg, hnc, hcm, hcs, htake⟩
  · by_cases hm : s.size = 0
    · rw [h4.2 ⟨rfl, hm⟩]; intro g hg; cases hg
    · have hr2 := run_append_nil_string (P := P) w t u ty e i (.int .u8 0) ht hu hi hz s (by omega) (by unfold maxLen at h63; omega) (by rw [hby]; omega)
      rw [hr] at hr2
      obtain ⟨rfl, _⟩ := Result.ok.inj hr2
      intro g hg
      right
      simp [Value.ownBlock] at hg; omega
  · by_cases hroom : n + s.size ≤ cap
    · have hcs' : cur.size = cap := by simpa using hcs
      have hr2 := Lib.run_append_room_string (P := P) w t u ty e i ht hu hi hsize g n cap cur hg s hroom (by omega)
      rw [hr] at hr2
      obtain ⟨rfl, _⟩ := Result.ok.inj hr2
      intro g hg
      left; exact hg
    · have holds : ∀ j u, xs[j]? = some u → w.cell? ((⟨g, 0, none⟩ : Addr).add j) = some u := hown.cells (g := g) rfl
      have hr2 := Lib.run_append_grow_string (P := P) w t u ty e i (.int .u8 0) ht hu hi hz ⟨g, 0, none⟩ n cap xs (by rw [hsize]; simpa using hxl) holds s (by omega) (by unfold maxLen at h63; omega) (by rw [hby]; exact growslice_fits (by omega) (by omega))
      rw [hr] at hr2
      obtain ⟨rfl, _⟩ := Result.ok.inj hr2
      intro g hg
      right
      simp [Value.ownBlock] at hg; omega
theorem wpList_append_string_at {w : World} {ops : Array Oper} {rest : List Oper} {o : Oper} {a : Act} {Q : Exit → Act → World → Prop} (hgd : o.guard = none) (sl x : Operand) (t u : TypeId)
    (ho : o.op = .call { callee := .builtin .append, args := #[sl, x], argTypes := #[t, u] })
    (base : Nat) (e : TypeId) (i : TypeInfo) (ht : P.underlying t = some (.slice e)) (hu : P.underlying u = some .string) (hi : P.info? e = some i) (hz : i.zero = some (.int .u8 0))
    (hsize : i.size = 1) (hby : i.bytes = 1)
    (v : Value) (n : Nat) (xs : List Value) (hs : a.eval sl = v) (hown : w.ownsRow base e 1 v n xs) (s : ByteArray) (hx : a.eval x = .string s)
    (h63 : n + s.size ≤ maxLen) (hbytes : n + s.size ≤ 140737488355328) (hbase : base ≤ w.heap.size)
    (h : ∀ v' w', w'.ownsRow base e 1 v' (n + s.size) (xs ++ Lib.strCells s) → w.grownBy w' v.ownBlock → (∀ g, v'.ownBlock = some g → v.ownBlock = some g ∨ w.heap.size ≤ g) → wpList P ops Q rest (a.put o.dst v') w') : wpList P ops Q (o :: rest) a w := by
  refine wpList_plain hgd fun K hK => ?_
  obtain ⟨v', w', hr, h2, h3, h4⟩ := run_append_string_at (P := P) w base t u o.type e i ht hu hi hz hsize hby v n xs hown s h63 hbytes hbase
  unfold Oper.wp execOp
  simp only [ho, resolve, invoke, builtin, Sem.run_bind, Sem.run_pure, Result.andThen_ok, List.map_toArray, List.map_cons, List.map_nil, hs, hx, hr]
  exact hK _ _ (h v' w' h2 h3 h4)
end

/-- A write's post. -/
def Wrote (b : Nat) (bs' : List UInt8) (F : Nat → Prop) (w w' : World) : Prop := Bld w' b bs' (fun k => F k ∨ w.heap.size ≤ k) ∧ Ev F w (fun k => F k ∨ w.heap.size ≤ k) w'

theorem slice_form {w : World} {B : Nat} {e : TypeId} {size : Nat} {v : Value} {n : Nat} {xs : List Value} (h : w.ownsRow B e size v n xs) : ∃ a c, v = .slice a n c := by
  rcases h.2 with ⟨rfl, h0⟩ | ⟨g, cap, cur, rfl, _⟩
  · exact ⟨none, 0, by rw [h0]⟩
  · exact ⟨_, _, rfl⟩

set_option maxHeartbeats 1600000 in
set_option maxRecDepth 100000 in
theorem writeByte_any (b : Nat) (bs : List UInt8) (F : Nat → Prop) (c : UInt8) (w : World) (h : Bld w b bs F) (hlen : bs.length + 1 ≤ 140737488355328) :
    Calls Tryd.prog 45 #[.pointer (some ⟨b, 0, none⟩), .int .u8 c.toNat] w fun e w' => e = .returned .nilIface ∧ Wrote b (bs ++ [c]) F w w' := by
  obtain ⟨i0, hi, hz0, hz1, hz2⟩ := info_parts info_byte
  have hFb : F b := by obtain ⟨_, _, _, _, _, hF, _⟩ := h; exact hF
  go_enter Tryd.func45, Tryd.ntmps45
  go_wp2_with (go_at_call 48; refine (check_any b bs F _ h).mono ?_)
  rintro e w1 ⟨rfl, v, hb, hown, hg, hev⟩
  have hne := Lib.ownBlock_ne hown hb (by decide)
  obtain ⟨ao, cap, rfl⟩ := slice_form hown
  have c0 : w1.cell? ⟨b, 0, none⟩ = some (.pointer (some ⟨b, 0, none⟩)) := by rw [Lib.cell_of_heap hb]; rfl
  have c1 : w1.cell? ⟨b, 1, none⟩ = some (.slice ao bs.length cap) := by rw [Lib.cell_of_heap hb]; rfl
  have HB := Lib.hid hb
  have HE := Lib.hid hev
  clear hb hev
  go_wp2_with (at_builtin; refine wpList_append_own_at _ rfl _ _ 69 rfl 0 5 i0 (.int .u8 0) 1 1 Tryd.underlying69 hi hz0 hz1 hz2 rfl (by decide) _ _ _ rfl (hown.alloc _) ⟨w1.heap.size, 0, none⟩ 1 1 [.int .u8 c.toNat] rfl rfl (cell_one_new _ _ _) (by simp [Value.oneCell']) (by unfold maxLen; omega) (by omega) (by simp) ?_)
  intro v' w2 hown' hgrow _ hat
  have hb1 : (w1.alloc (.cells #[.int .u8 c.toNat] 5)).heap[b]? = some (.cells #[.pointer (some ⟨b, 0, none⟩), .slice ao bs.length cap] 71 (0, 0)) := (Below.heap_alloc _ _ _ (lt_of_heap HB.out)).trans HB.out
  have HP := Lib.hid (Bld.of_put (w := w) (bs' := bs ++ [c]) (HE.out.alloc (.cells #[.int .u8 c.toNat] 5)) hb1 hFb hg hgrow (by rw [Lib.byteCells_append]; simp only [List.length_append, List.length_singleton]; exact hown') (fun g e => by
    rcases hat with h | h
    · left; rw [← h]; exact e
    · right; rw [h] at e; simp at e; simp; omega) hne)
  have d1 : w2.cell? ⟨b, 1, none⟩ = some (.slice ao bs.length cap) := by
    have : w2.heap[b]? = _ := (hgrow.block b (lt_of_heap hb1) (fun e => hne e.symm)).trans hb1
    rw [Lib.cell_of_heap this]; rfl
  have f1 : w2.frozen? ⟨b, 1, none⟩ = false := by
    have : w2.heap[b]? = _ := (hgrow.block b (lt_of_heap hb1) (fun e => hne e.symm)).trans hb1
    exact Lib.frozen_of_heap this 1
  obtain ⟨a', cap', rfl⟩ := slice_form hown'
  clear hown' hgrow hat hown c0 c1 hb1 hne
  go_wp2
  go_ret
  exact ⟨rfl, HP.out⟩

set_option maxHeartbeats 1600000 in
set_option maxRecDepth 100000 in
theorem writeString_any (b : Nat) (bs : List UInt8) (F : Nat → Prop) (s : ByteArray) (w : World) (h : Bld w b bs F) (hlen : bs.length + s.size ≤ 140737488355328) :
    Calls Tryd.prog 29 #[.pointer (some ⟨b, 0, none⟩), .string s] w fun e w' => e = .returned (.tuple #[.int .i64 s.size, .nilIface]) ∧ Wrote b (bs ++ s.data.toList) F w w' := by
  obtain ⟨i0, hi, hz0, hz1, hz2⟩ := info_parts info_byte
  have hFb : F b := by obtain ⟨_, _, _, _, _, hF, _⟩ := h; exact hF
  go_enter Tryd.func29, Tryd.ntmps29
  go_wp2_with (go_at_call 48; refine (check_any b bs F _ h).mono ?_)
  rintro e w1 ⟨rfl, v, hb, hown, hg, hev⟩
  have hne := Lib.ownBlock_ne hown hb (by decide)
  obtain ⟨ao, cap, rfl⟩ := slice_form hown
  have c0 : w1.cell? ⟨b, 0, none⟩ = some (.pointer (some ⟨b, 0, none⟩)) := by rw [Lib.cell_of_heap hb]; rfl
  have c1 : w1.cell? ⟨b, 1, none⟩ = some (.slice ao bs.length cap) := by rw [Lib.cell_of_heap hb]; rfl
  have HB := Lib.hid hb
  have HE := Lib.hid hev
  clear hb hev
  go_wp2_with (at_builtin; refine wpList_append_string_at rfl _ _ 69 9 rfl 0 5 i0 Tryd.underlying69 Tryd.underlying9 hi hz0 hz1 hz2 _ _ _ rfl hown s rfl (by unfold maxLen; omega) (by omega) (by simp) ?_)
  intro v' w2 hown' hgrow hat
  have hb1 := HB.out
  have hl : (bs ++ s.data.toList).length = bs.length + s.size := by rw [List.length_append, Array.length_toList]; rfl
  have HP := Lib.hid (Bld.of_put (w := w) (bs' := bs ++ s.data.toList) HE.out hb1 hFb hg hgrow (by rw [hl, Lib.byteCells_append]; exact hown') hat hne)
  have d1 : w2.cell? ⟨b, 1, none⟩ = some (.slice ao bs.length cap) := by
    have : w2.heap[b]? = _ := (hgrow.block b (lt_of_heap hb1) (fun e => hne e.symm)).trans hb1
    rw [Lib.cell_of_heap this]; rfl
  have f1 : w2.frozen? ⟨b, 1, none⟩ = false := by
    have : w2.heap[b]? = _ := (hgrow.block b (lt_of_heap hb1) (fun e => hne e.symm)).trans hb1
    exact Lib.frozen_of_heap this 1
  obtain ⟨a', cap', rfl⟩ := slice_form hown'
  clear hown' hgrow hat hown c0 c1 hb1 hne hl
  go_wp2
  go_ret2
  exact ⟨rfl, HP.out⟩

/-- What an append of bytes leaves: one block more, the row grown, and where it lies. -/
def Grew (w : World) (v : Value) (n : Nat) (xs news : List Value) (v' : Value) (w' : World) : Prop :=
  w'.ownsRow 0 5 1 v' (n + news.length) (xs ++ news) ∧ ∃ o, (w.alloc o).grownBy w' v.ownBlock ∧ ∀ g, v'.ownBlock = some g → v.ownBlock = some g ∨ (w.alloc o).heap.size ≤ g

set_option maxHeartbeats 1600000 in
set_option maxRecDepth 100000 in
theorem nonAscii_two (v : Value) (n : Nat) (xs : List Value) (r : Int) (h0 : 128 ≤ r) (h1 : r ≤ 2047) (w : World) (hown : w.ownsRow 0 5 1 v n xs) (hlen : n + 4 ≤ 140737488355328) :
    Calls Tryd.prog 85 #[v, .int .i32 r] w fun e w' => ∃ v', e = .returned v' ∧ Grew w v n xs [.int .u8 (192 + r / 64), .int .u8 (128 + r % 64)] v' w' := by
  obtain ⟨i0, hi, hz0, hz1, hz2⟩ := info_parts info_byte
  go_enter Tryd.func85, Tryd.ntmps85
  go_wp2_with (at_builtin; refine wpList_append_own_at _ rfl _ _ 69 rfl 0 5 i0 (.int .u8 0) 1 1 Tryd.underlying69 hi hz0 hz1 hz2 rfl (by decide) _ _ _ rfl (hown.alloc _) ⟨w.heap.size, 0, none⟩ 2 2 [.int .u8 (192 + r / 64), .int .u8 (128 + r % 64)] rfl rfl (World.news_of_block (heap_alloc_new w _)) (by intro u hu; simp at hu; rcases hu with rfl | rfl <;> rfl) (by unfold maxLen; omega) (by omega) (by simp) ?_)
  intro v' w2 hown' hgrow _ hat
  go_wp2
  go_ret
  exact ⟨_, rfl, hown', _, hgrow, fun g e => by
    have e' : v'.ownBlock = some g := e
    rcases hat with h | h
    · left; rw [← h]; exact e'
    · right; rw [h] at e'; simp at e'; simp; omega⟩

set_option maxHeartbeats 1600000 in
set_option maxRecDepth 100000 in
theorem nonAscii_three_lo (v : Value) (n : Nat) (xs : List Value) (r : Int) (h0 : 2048 ≤ r) (h1 : r < 55296) (w : World) (hown : w.ownsRow 0 5 1 v n xs) (hlen : n + 4 ≤ 140737488355328) :
    Calls Tryd.prog 85 #[v, .int .i32 r] w fun e w' => ∃ v', e = .returned v' ∧ Grew w v n xs [.int .u8 (224 + r / 4096), .int .u8 (128 + r / 64 % 64), .int .u8 (128 + r % 64)] v' w' := by
  obtain ⟨i0, hi, hz0, hz1, hz2⟩ := info_parts info_byte
  go_enter Tryd.func85, Tryd.ntmps85
  go_wp2_with (at_builtin; refine wpList_append_own_at _ rfl _ _ 69 rfl 0 5 i0 (.int .u8 0) 1 1 Tryd.underlying69 hi hz0 hz1 hz2 rfl (by decide) _ _ _ rfl (hown.alloc _) ⟨w.heap.size, 0, none⟩ 3 3 [.int .u8 (224 + r / 4096), .int .u8 (128 + r / 64 % 64), .int .u8 (128 + r % 64)] rfl rfl (World.news_of_block (heap_alloc_new w _)) (by intro u hu; simp at hu; rcases hu with rfl | rfl | rfl <;> rfl) (by unfold maxLen; omega) (by omega) (by simp) ?_)
  intro v' w2 hown' hgrow _ hat
  go_wp2
  go_ret
  exact ⟨_, rfl, hown', _, hgrow, fun g e => by
    have e' : v'.ownBlock = some g := e
    rcases hat with h | h
    · left; rw [← h]; exact e'
    · right; rw [h] at e'; simp at e'; simp; omega⟩

set_option maxHeartbeats 1600000 in
set_option maxRecDepth 100000 in
theorem nonAscii_three_hi (v : Value) (n : Nat) (xs : List Value) (r : Int) (h0 : 57343 < r) (h1 : r ≤ 65535) (w : World) (hown : w.ownsRow 0 5 1 v n xs) (hlen : n + 4 ≤ 140737488355328) :
    Calls Tryd.prog 85 #[v, .int .i32 r] w fun e w' => ∃ v', e = .returned v' ∧ Grew w v n xs [.int .u8 (224 + r / 4096), .int .u8 (128 + r / 64 % 64), .int .u8 (128 + r % 64)] v' w' := by
  obtain ⟨i0, hi, hz0, hz1, hz2⟩ := info_parts info_byte
  go_enter Tryd.func85, Tryd.ntmps85
  go_wp2_with (at_builtin; refine wpList_append_own_at _ rfl _ _ 69 rfl 0 5 i0 (.int .u8 0) 1 1 Tryd.underlying69 hi hz0 hz1 hz2 rfl (by decide) _ _ _ rfl (hown.alloc _) ⟨w.heap.size, 0, none⟩ 3 3 [.int .u8 (224 + r / 4096), .int .u8 (128 + r / 64 % 64), .int .u8 (128 + r % 64)] rfl rfl (World.news_of_block (heap_alloc_new w _)) (by intro u hu; simp at hu; rcases hu with rfl | rfl | rfl <;> rfl) (by unfold maxLen; omega) (by omega) (by simp) ?_)
  intro v' w2 hown' hgrow _ hat
  go_wp2
  go_ret
  exact ⟨_, rfl, hown', _, hgrow, fun g e => by
    have e' : v'.ownBlock = some g := e
    rcases hat with h | h
    · left; rw [← h]; exact e'
    · right; rw [h] at e'; simp at e'; simp; omega⟩

set_option maxHeartbeats 1600000 in
set_option maxRecDepth 100000 in
theorem nonAscii_four (v : Value) (n : Nat) (xs : List Value) (r : Int) (h0 : 65536 ≤ r) (h1 : r ≤ 1114111) (w : World) (hown : w.ownsRow 0 5 1 v n xs) (hlen : n + 4 ≤ 140737488355328) :
    Calls Tryd.prog 85 #[v, .int .i32 r] w fun e w' => ∃ v', e = .returned v' ∧ Grew w v n xs [.int .u8 (240 + r / 262144), .int .u8 (128 + r / 4096 % 64), .int .u8 (128 + r / 64 % 64), .int .u8 (128 + r % 64)] v' w' := by
  obtain ⟨i0, hi, hz0, hz1, hz2⟩ := info_parts info_byte
  go_enter Tryd.func85, Tryd.ntmps85
  go_wp2_with (at_builtin; refine wpList_append_own_at _ rfl _ _ 69 rfl 0 5 i0 (.int .u8 0) 1 1 Tryd.underlying69 hi hz0 hz1 hz2 rfl (by decide) _ _ _ rfl (hown.alloc _) ⟨w.heap.size, 0, none⟩ 4 4 [.int .u8 (240 + r / 262144), .int .u8 (128 + r / 4096 % 64), .int .u8 (128 + r / 64 % 64), .int .u8 (128 + r % 64)] rfl rfl (World.news_of_block (heap_alloc_new w _)) (by intro u hu; simp at hu; rcases hu with rfl | rfl | rfl | rfl <;> rfl) (by unfold maxLen; omega) (by omega) (by simp) ?_)
  intro v' w2 hown' hgrow _ hat
  go_wp2
  go_ret
  exact ⟨_, rfl, hown', _, hgrow, fun g e => by
    have e' : v'.ownBlock = some g := e
    rcases hat with h | h
    · left; rw [← h]; exact e'
    · right; rw [h] at e'; simp at e'; simp; omega⟩

set_option maxHeartbeats 1600000 in
set_option maxRecDepth 100000 in
theorem nonAscii_neg (v : Value) (n : Nat) (xs : List Value) (r : Int) (h0 : r < 0) (h1 : -2147483648 ≤ r) (w : World) (hown : w.ownsRow 0 5 1 v n xs) (hlen : n + 4 ≤ 140737488355328) :
    Calls Tryd.prog 85 #[v, .int .i32 r] w fun e w' => ∃ v', e = .returned v' ∧ Grew w v n xs [.int .u8 (239), .int .u8 (191), .int .u8 (189)] v' w' := by
  obtain ⟨i0, hi, hz0, hz1, hz2⟩ := info_parts info_byte
  go_enter Tryd.func85, Tryd.ntmps85
  go_wp2_with (at_builtin; refine wpList_append_own_at _ rfl _ _ 69 rfl 0 5 i0 (.int .u8 0) 1 1 Tryd.underlying69 hi hz0 hz1 hz2 rfl (by decide) _ _ _ rfl (hown.alloc _) ⟨w.heap.size, 0, none⟩ 3 3 [.int .u8 (239), .int .u8 (191), .int .u8 (189)] rfl rfl (World.news_of_block (heap_alloc_new w _)) (by intro u hu; simp at hu; rcases hu with rfl | rfl | rfl <;> rfl) (by unfold maxLen; omega) (by omega) (by simp) ?_)
  intro v' w2 hown' hgrow _ hat
  go_wp2
  go_ret
  exact ⟨_, rfl, hown', _, hgrow, fun g e => by
    have e' : v'.ownBlock = some g := e
    rcases hat with h | h
    · left; rw [← h]; exact e'
    · right; rw [h] at e'; simp at e'; simp; omega⟩

set_option maxHeartbeats 1600000 in
set_option maxRecDepth 100000 in
theorem nonAscii_surr (v : Value) (n : Nat) (xs : List Value) (r : Int) (h0 : 55296 ≤ r) (h1 : r ≤ 57343) (w : World) (hown : w.ownsRow 0 5 1 v n xs) (hlen : n + 4 ≤ 140737488355328) :
    Calls Tryd.prog 85 #[v, .int .i32 r] w fun e w' => ∃ v', e = .returned v' ∧ Grew w v n xs [.int .u8 (239), .int .u8 (191), .int .u8 (189)] v' w' := by
  obtain ⟨i0, hi, hz0, hz1, hz2⟩ := info_parts info_byte
  go_enter Tryd.func85, Tryd.ntmps85
  go_wp2_with (at_builtin; refine wpList_append_own_at _ rfl _ _ 69 rfl 0 5 i0 (.int .u8 0) 1 1 Tryd.underlying69 hi hz0 hz1 hz2 rfl (by decide) _ _ _ rfl (hown.alloc _) ⟨w.heap.size, 0, none⟩ 3 3 [.int .u8 (239), .int .u8 (191), .int .u8 (189)] rfl rfl (World.news_of_block (heap_alloc_new w _)) (by intro u hu; simp at hu; rcases hu with rfl | rfl | rfl <;> rfl) (by unfold maxLen; omega) (by omega) (by simp) ?_)
  intro v' w2 hown' hgrow _ hat
  go_wp2
  go_ret
  exact ⟨_, rfl, hown', _, hgrow, fun g e => by
    have e' : v'.ownBlock = some g := e
    rcases hat with h | h
    · left; rw [← h]; exact e'
    · right; rw [h] at e'; simp at e'; simp; omega⟩

set_option maxHeartbeats 1600000 in
set_option maxRecDepth 100000 in
theorem nonAscii_far (v : Value) (n : Nat) (xs : List Value) (r : Int) (h0 : 1114111 < r) (h1 : r ≤ 2147483647) (w : World) (hown : w.ownsRow 0 5 1 v n xs) (hlen : n + 4 ≤ 140737488355328) :
    Calls Tryd.prog 85 #[v, .int .i32 r] w fun e w' => ∃ v', e = .returned v' ∧ Grew w v n xs [.int .u8 (239), .int .u8 (191), .int .u8 (189)] v' w' := by
  obtain ⟨i0, hi, hz0, hz1, hz2⟩ := info_parts info_byte
  go_enter Tryd.func85, Tryd.ntmps85
  go_wp2_with (at_builtin; refine wpList_append_own_at _ rfl _ _ 69 rfl 0 5 i0 (.int .u8 0) 1 1 Tryd.underlying69 hi hz0 hz1 hz2 rfl (by decide) _ _ _ rfl (hown.alloc _) ⟨w.heap.size, 0, none⟩ 3 3 [.int .u8 (239), .int .u8 (191), .int .u8 (189)] rfl rfl (World.news_of_block (heap_alloc_new w _)) (by intro u hu; simp at hu; rcases hu with rfl | rfl | rfl <;> rfl) (by unfold maxLen; omega) (by omega) (by simp) ?_)
  intro v' w2 hown' hgrow _ hat
  go_wp2
  go_ret
  exact ⟨_, rfl, hown', _, hgrow, fun g e => by
    have e' : v'.ownBlock = some g := e
    rcases hat with h | h
    · left; rw [← h]; exact e'
    · right; rw [h] at e'; simp at e'; simp; omega⟩

set_option maxHeartbeats 1600000 in
set_option maxRecDepth 100000 in
theorem appendRune_ascii (v : Value) (n : Nat) (xs : List Value) (r : Int) (h0 : 0 ≤ r) (h1 : r ≤ 127) (w : World) (hown : w.ownsRow 0 5 1 v n xs) (hlen : n + 4 ≤ 140737488355328) :
    Calls Tryd.prog 64 #[v, .int .i32 r] w fun e w' => ∃ v', e = .returned v' ∧ Grew w v n xs [.int .u8 (r)] v' w' := by
  obtain ⟨i0, hi, hz0, hz1, hz2⟩ := info_parts info_byte
  go_enter Tryd.func64, Tryd.ntmps64
  go_wp2_with (at_builtin; refine wpList_append_own_at _ rfl _ _ 69 rfl 0 5 i0 (.int .u8 0) 1 1 Tryd.underlying69 hi hz0 hz1 hz2 rfl (by decide) _ _ _ rfl (hown.alloc _) ⟨w.heap.size, 0, none⟩ 1 1 [.int .u8 (r)] rfl rfl (World.news_of_block (heap_alloc_new w _)) (by intro u hu; simp at hu; rcases hu with rfl <;> rfl) (by unfold maxLen; omega) (by omega) (by simp) ?_)
  intro v' w2 hown' hgrow _ hat
  go_wp2
  go_ret
  exact ⟨_, rfl, hown', _, hgrow, fun g e => by
    have e' : v'.ownBlock = some g := e
    rcases hat with h | h
    · left; rw [← h]; exact e'
    · right; rw [h] at e'; simp at e'; simp; omega⟩

theorem nonAscii_any (v : Value) (n : Nat) (xs : List Value) (r : Int) (h : r < 0 ∨ 127 < r) (h0 : -2147483648 ≤ r) (h1 : r ≤ 2147483647) (w : World) (hown : w.ownsRow 0 5 1 v n xs) (hlen : n + 4 ≤ 140737488355328) :
    Calls Tryd.prog 85 #[v, .int .i32 r] w fun e w' => ∃ v', e = .returned v' ∧ Grew w v n xs (Lib.runeCells r) v' w' := by
  unfold Lib.runeCells
  by_cases a1 : r < 0
  · rw [Lib.encodeRuneZ_bad (.inl a1)]; exact nonAscii_neg v n xs r a1 h0 w hown hlen
  by_cases a2 : r ≤ 2047
  · rw [Lib.encodeRuneZ_two (by omega) a2]; exact nonAscii_two v n xs r (by omega) a2 w hown hlen
  by_cases a3 : r < 55296
  · rw [Lib.encodeRuneZ_three (by omega)]; exact nonAscii_three_lo v n xs r (by omega) a3 w hown hlen
  by_cases a4 : r ≤ 57343
  · rw [Lib.encodeRuneZ_bad (by omega)]; exact nonAscii_surr v n xs r (by omega) a4 w hown hlen
  by_cases a5 : r ≤ 65535
  · rw [Lib.encodeRuneZ_three (by omega)]; exact nonAscii_three_hi v n xs r (by omega) a5 w hown hlen
  by_cases a6 : r ≤ 1114111
  · rw [Lib.encodeRuneZ_four (by omega) a6]; exact nonAscii_four v n xs r (by omega) a6 w hown hlen
  · rw [Lib.encodeRuneZ_bad (by omega)]; exact nonAscii_far v n xs r (by omega) h1 w hown hlen

set_option maxHeartbeats 800000 in
theorem appendRune_any (v : Value) (n : Nat) (xs : List Value) (r : Int) (h0 : -2147483648 ≤ r) (h1 : r ≤ 2147483647) (w : World) (hown : w.ownsRow 0 5 1 v n xs) (hlen : n + 4 ≤ 140737488355328) :
    Calls Tryd.prog 64 #[v, .int .i32 r] w fun e w' => ∃ v', e = .returned v' ∧ Grew w v n xs (Lib.runeCells r) v' w' := by
  by_cases c : 0 ≤ r ∧ r ≤ 127
  · rw [show Lib.runeCells r = [.int .u8 r] by simp [Lib.runeCells, Lib.encodeRuneZ_one c.1 c.2]]
    exact appendRune_ascii v n xs r c.1 c.2 w hown hlen
  · rcases (by omega : r < 0 ∨ 127 < r) with hr | hr
    all_goals
      have H := Lib.hid (nonAscii_any v n xs r (by omega) h0 h1 w hown hlen)
      clear hown c
      go_enter Tryd.func64, Tryd.ntmps64
      go_wp2_with (go_at_call 85; refine H.out.mono ?_)
      rintro e w1 ⟨v', rfl, hg⟩
      go_wp2
      go_ret
      exact ⟨_, rfl, hg⟩

set_option maxHeartbeats 1600000 in
set_option maxRecDepth 100000 in
theorem writeRune_any (b : Nat) (bs : List UInt8) (F : Nat → Prop) (r : Int) (h0 : -2147483648 ≤ r) (h1 : r ≤ 2147483647) (w : World) (h : Bld w b bs F) (hlen : bs.length + 4 ≤ 140737488355328) :
    Calls Tryd.prog 46 #[.pointer (some ⟨b, 0, none⟩), .int .i32 r] w fun e w' => (∃ z, e = .returned (.tuple #[.int .i64 z, .nilIface])) ∧ Wrote b (bs ++ Lib.encodeRune r) F w w' := by
  have hFb : F b := by obtain ⟨_, _, _, _, _, hF, _⟩ := h; exact hF
  have hk4 := Lib.runeCells_le r
  go_enter Tryd.func46, Tryd.ntmps46
  go_wp2_with (go_at_call 48; refine (check_any b bs F _ h).mono ?_)
  rintro e w1 ⟨rfl, v, hb, hown, hg, hev⟩
  have hne := Lib.ownBlock_ne hown hb (by decide)
  obtain ⟨ao, cap, rfl⟩ := slice_form hown
  have c0 : w1.cell? ⟨b, 0, none⟩ = some (.pointer (some ⟨b, 0, none⟩)) := by rw [Lib.cell_of_heap hb]; rfl
  have c1 : w1.cell? ⟨b, 1, none⟩ = some (.slice ao bs.length cap) := by rw [Lib.cell_of_heap hb]; rfl
  have HB := Lib.hid hb
  have HE := Lib.hid hev
  have HA := Lib.hid (appendRune_any (.slice ao bs.length cap) bs.length _ r h0 h1 w1 hown (by omega))
  clear hb hev
  go_wp2_with (go_at_call 64; refine HA.out.mono ?_)
  rintro e w2 ⟨v', rfl, hown', o, hgrow, hat⟩
  have hb1 : (w1.alloc o).heap[b]? = some (.cells #[.pointer (some ⟨b, 0, none⟩), .slice ao bs.length cap] 71 (0, 0)) := (Below.heap_alloc _ _ _ (lt_of_heap HB.out)).trans HB.out
  have hl : (bs ++ Lib.encodeRune r).length = bs.length + (Lib.runeCells r).length := by rw [List.length_append, Lib.runeCells_length]
  have HP := Lib.hid (Bld.of_put (w := w) (bs' := bs ++ Lib.encodeRune r) (HE.out.alloc o) hb1 hFb hg hgrow (by rw [hl, Lib.byteCells_append, Lib.byteCells_encodeRune]; exact hown') (fun g e => by
    rcases hat g e with h | h
    · exact .inl h
    · right; exact h) hne)
  have d0 : w2.heap[b]? = some (.cells #[.pointer (some ⟨b, 0, none⟩), .slice ao bs.length cap] 71 (0, 0)) := (hgrow.block b (lt_of_heap hb1) (fun e => hne e.symm)).trans hb1
  have d1 : w2.cell? ⟨b, 1, none⟩ = some (.slice ao bs.length cap) := by rw [Lib.cell_of_heap d0]; rfl
  have f1 : w2.frozen? ⟨b, 1, none⟩ = false := Lib.frozen_of_heap d0 1
  obtain ⟨a', cap', rfl⟩ := slice_form hown'
  clear hown' hgrow hat hown c0 c1 hb1 hne hl d0
  go_wp2
  go_ret2
  exact ⟨⟨_, rfl⟩, HP.out⟩
end Go.Proofs.YthpbdeiphagkiaaDoor
