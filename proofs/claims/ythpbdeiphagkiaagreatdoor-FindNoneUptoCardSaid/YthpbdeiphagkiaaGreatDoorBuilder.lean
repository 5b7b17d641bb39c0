/- strings.Builder, at this dump: every write, String, Reset, Len; the frame exact. -/
import Derived.Test.YthpbdeiphagkiaaGreatDoorEv
import Derived.Lib.Builder
import Derived.Lib.UnsafeStr
import Derived.Lib.RuneBytes
import Derived.Lib.FrozenHead
import Derived.OwnWalk
import Derived.RegionTactic
import Derived.Lib.AppendStr
import Derived.Test.YthpbdeiphagkiaaGreatDoorShelf
import Derived.Deep.AppendLies
import Derived.Shelf.RegionOpen
namespace Go.Proofs.YthpbdeiphagkiaaGreatDoor
open Go.RowKit

/-- A builder in block b whose bytes are bs; F holds its blocks. -/
def Bld (w : World) (b : Nat) (bs : List UInt8) (F : Nat → Prop) : Prop :=
  ∃ p v, (p = .pointer none ∨ p = .pointer (some ⟨b, 0, none⟩)) ∧ w.heap[b]? = some (.cells #[p, v] 73 (0, 0)) ∧ w.ownsRow 0 5 1 v bs.length (Lib.byteCells bs) ∧ F b ∧ ∀ g, v.ownBlock = some g → F g
/-- A builder that has been read: some of its row is frozen; it is only reset or left behind. -/
def BldR (w : World) (b : Nat) (F : Nat → Prop) : Prop := ∃ p v, w.heap[b]? = some (.cells #[p, v] 73 (0, 0)) ∧ F b

theorem Bld.lt {w : World} {b : Nat} {bs : List UInt8} {F : Nat → Prop} (h : Bld w b bs F) : b < w.heap.size := by
  obtain ⟨p, v, _, hb, _⟩ := h
  exact lt_of_heap hb
theorem Bld.fresh (w : World) (F : Nat → Prop) (hF : F w.heap.size) : Bld (w.alloc (.cells #[.pointer none, .slice none 0 0] 73)) w.heap.size [] F :=
  ⟨_, _, .inl rfl, heap_alloc_new _ _, World.ownsRow_nil _ _ _ _, hF, fun g hg => by cases hg⟩
theorem Bld.keep {w w' : World} {b : Nat} {bs : List UInt8} {F : Nat → Prop} (h : Bld w b bs F) (hk : ∀ k, F k → k < w.heap.size → w'.heap[k]? = w.heap[k]?) : Bld w' b bs F := by
  obtain ⟨p, v, hp, hb, hown, hF, hg⟩ := h
  refine ⟨p, v, hp, by rw [hk b hF (lt_of_heap hb)]; exact hb, ⟨hown.1, ?_⟩, hF, hg⟩
  rcases hown.2 with h0 | ⟨g, cap, cur, rfl, h1, h2, h3⟩
  · exact .inl h0
  · exact .inr ⟨g, cap, cur, rfl, h1, by rw [hk g (hg g rfl) (lt_of_heap h2)]; exact h2, h3⟩
theorem Bld.alloc {w : World} {b : Nat} {bs : List UInt8} {F : Nat → Prop} (h : Bld w b bs F) (o : Obj) : Bld (w.alloc o) b bs F :=
  h.keep fun k _ hk => Below.heap_alloc _ _ _ hk
theorem Bld.wide {w : World} {b : Nat} {bs : List UInt8} {F G : Nat → Prop} (h : Bld w b bs F) (hw : ∀ k, F k → G k) : Bld w b bs G := by
  obtain ⟨p, v, hp, hb, hown, hF, hg⟩ := h
  exact ⟨p, v, hp, hb, hown, hw _ hF, fun g e => hw _ (hg g e)⟩
theorem Bld.cells {w : World} {b : Nat} {bs : List UInt8} {F : Nat → Prop} (h : Bld w b bs F) :
    ∃ p a c, (p = .pointer none ∨ p = .pointer (some ⟨b, 0, none⟩)) ∧ w.cell? ⟨b, 0, none⟩ = some p ∧ w.cell? ⟨b, 1, none⟩ = some (.slice a bs.length c) ∧ (∀ i, w.frozen? ⟨b, i, none⟩ = false) ∧ w.shape? b = some (73, 2) := by
  obtain ⟨p, v, hp, hb, hown, hF, hg⟩ := h
  obtain ⟨a, c, rfl⟩ : ∃ a c, v = .slice a bs.length c := by
    rcases hown.2 with ⟨rfl, h0⟩ | ⟨g, cap, cur, rfl, _⟩
    · exact ⟨none, 0, by rw [h0]⟩
    · exact ⟨_, _, rfl⟩
  exact ⟨p, a, c, hp, by simp [World.cell?, hb], by simp [World.cell?, hb], fun i => by simp [World.frozen?, hb], by simp [World.shape?, hb]⟩

theorem info_byte : (Tryz.prog.info? 5).map (fun i => (i.zero, i.size, i.bytes)) = some (some (.int .u8 0), 1, 1) := by kernel_rfl
theorem info_bld : (Tryz.prog.info? 73).map (·.size) = some 2 := by kernel_rfl
theorem lies_bld : liesAt Tryz.prog Tryz.prog.depth 73 (2 / Tryz.prog.cellsOf 73) 0 73 1 = true := by kernel_rfl

set_option maxHeartbeats 800000 in
theorem len_any (b : Nat) (bs : List UInt8) (F : Nat → Prop) (w : World) (h : Bld w b bs F) :
    Calls Tryz.prog 46 #[.pointer (some ⟨b, 0, none⟩)] w fun e w' => e = .returned (.int .i64 bs.length) ∧ w = w' := by
  obtain ⟨p, a, c, hp, c0, c1, cf, hsh⟩ := h.cells
  clear h hp
  go_enter Tryz.func46, Tryz.ntmps46
  go_wp2
  go_ret
  exact ⟨rfl, rfl⟩

set_option maxHeartbeats 800000 in
theorem reset_any (b : Nat) (F : Nat → Prop) (w : World) (h : BldR w b F) :
    Calls Tryz.prog 62 #[.pointer (some ⟨b, 0, none⟩)] w fun e w' => e = .returned (.tuple #[]) ∧ Bld w' b [] F ∧ Ev F w F w' := by
  obtain ⟨p, v, hb, hF⟩ := h
  have c0 : w.cell? ⟨b, 0, none⟩ = some p := by simp [World.cell?, hb]
  have c1 : w.cell? ⟨b, 1, none⟩ = some v := by simp [World.cell?, hb]
  have cf : ∀ i, w.frozen? ⟨b, i, none⟩ = false := fun i => by simp [World.frozen?, hb]
  have HB := Lib.hid hb
  clear hb
  go_enter Tryz.func62, Tryz.ntmps62
  go_wp2
  go_end0
  refine ⟨rfl, ⟨.pointer none, .slice none 0 0, .inl rfl, ?_, World.ownsRow_nil _ _ _ _, hF, fun g hg => by cases hg⟩, ((Ev.refl F w).setCell (.inl hF) _).setCell (.inl hF) _⟩
  have h1 := setCell_heap (i := 0) HB.out (.pointer none)
  have h2 := setCell_heap (i := 1) h1 (.slice none 0 0)
  rw [h2]; rfl

set_option maxHeartbeats 800000 in
set_option maxRecDepth 100000 in
theorem check_fresh (b : Nat) (w : World) (h0 : w.cell? ⟨b, 0, none⟩ = some (.pointer none)) (hsh : w.shape? b = some (73, 2)) (hfz : w.frozen? ⟨b, 0, none⟩ = false) :
    Calls Tryz.prog 41 #[.pointer (some ⟨b, 0, none⟩)] w fun e w' => e = .returned (.tuple #[]) ∧ w' = w.setCell ⟨b, 0, none⟩ (.pointer (some ⟨b, 0, none⟩)) := by
  obtain ⟨j, hj, hjs⟩ := Option.map_eq_some_iff.1 info_bld
  go_enter Tryz.func41, Tryz.ntmps41
  go_wp2
  rw [Lib.run_to_unsafe w ⟨b, 0, none⟩ Tryz.underlying71 Tryz.underlying131 hj (by rw [hjs]; decide) hsh (Nat.zero_lt_succ 1)]
  simp only [Result.andThen]
  rw [Oper.upon_value]
  go_wp2
  rw [run_callFunc_extern Tryz.func68 (by kernel_rfl) (by kernel_rfl) (by kernel_rfl) (e := Extern.AbiNoEscape.same) (by kernel_rfl)]
  rw [Lib.run_noEscape]
  simp only [Result.andThen]
  rw [Oper.upon_value]
  go_wp2
  rw [Lib.run_from_unsafe w ⟨b, 0, none⟩ Tryz.underlying131 Tryz.underlying71 hj hsh lies_bld]
  simp only [Result.andThen]
  rw [Oper.upon_value]
  go_wp2
  go_end0
  exact ⟨rfl, rfl⟩

set_option maxHeartbeats 800000 in
set_option maxRecDepth 100000 in
theorem check_used (b : Nat) (w : World) (h0 : w.cell? ⟨b, 0, none⟩ = some (.pointer (some ⟨b, 0, none⟩))) :
    Calls Tryz.prog 41 #[.pointer (some ⟨b, 0, none⟩)] w fun e w' => e = .returned (.tuple #[]) ∧ w' = w := by
  obtain ⟨j, hj, hjs⟩ := Option.map_eq_some_iff.1 info_bld
  have hne := Lib.run_neq_ptr_same (P := Tryz.prog) (w := w) ⟨b, 0, none⟩ Tryz.underlying71 hj
  go_enter Tryz.func41, Tryz.ntmps41
  go_wp2
  go_end0
  exact ⟨rfl, rfl⟩

/-- Behind the check a builder knows its own address. -/
theorem check_any (b : Nat) (bs : List UInt8) (F : Nat → Prop) (w : World) (h : Bld w b bs F) :
    Calls Tryz.prog 41 #[.pointer (some ⟨b, 0, none⟩)] w fun e w' => e = .returned (.tuple #[]) ∧ ∃ v, w'.heap[b]? = some (.cells #[.pointer (some ⟨b, 0, none⟩), v] 73 (0, 0)) ∧ w'.ownsRow 0 5 1 v bs.length (Lib.byteCells bs) ∧ (∀ g, v.ownBlock = some g → F g) ∧ Ev F w F w' := by
  obtain ⟨p, v, hp, hb, hown, hF, hg⟩ := h
  rcases hp with rfl | rfl
  · refine (check_fresh b w (by simp [World.cell?, hb]) (by simp [World.shape?, hb]) (by simp [World.frozen?, hb])).mono ?_
    rintro e w' ⟨rfl, rfl⟩
    refine ⟨rfl, v, by rw [setCell_heap hb]; rfl, ⟨hown.1, ?_⟩, hg, (Ev.refl F w).setCell (.inl hF) _⟩
    have hne := Lib.ownBlock_ne hown hb (by decide)
    rcases hown.2 with h0 | ⟨g, cap, cur, rfl, h1, h2, h3⟩
    · exact .inl h0
    · exact .inr ⟨g, cap, cur, rfl, h1, by rw [setCell_heap_ne (fun e => hne (by rw [e]; rfl))]; exact h2, h3⟩
  · refine (check_used b w (by simp [World.cell?, hb])).mono ?_
    rintro e w' ⟨rfl, rfl⟩
    exact ⟨rfl, v, hb, hown, hg, Ev.refl F _⟩

/-- What a write leaves. -/
theorem Bld.of_put {w1 w2 : World} {b : Nat} {bs' : List UInt8} {F : Nat → Prop} {w : World} {v v' : Value} (hev : Ev F w F w1) (hb : w1.heap[b]? = some (.cells #[.pointer (some ⟨b, 0, none⟩), v] 73 (0, 0))) (hF : F b)
    (hg : ∀ g, v.ownBlock = some g → F g) (hgr : w1.grownBy w2 v.ownBlock) (hown : w2.ownsRow 0 5 1 v' bs'.length (Lib.byteCells bs')) (hnew : ∀ g, v'.ownBlock = some g → v.ownBlock = some g ∨ w1.heap.size ≤ g) (hne : v.ownBlock ≠ some b) :
    Bld (w2.setCell ⟨b, 1, none⟩ v') b bs' (fun k => F k ∨ w.heap.size ≤ k) ∧ Ev F w (fun k => F k ∨ w.heap.size ≤ k) (w2.setCell ⟨b, 1, none⟩ v') := by
  have hb2 : w2.heap[b]? = some (.cells #[.pointer (some ⟨b, 0, none⟩), v] 73 (0, 0)) := by rw [hgr.block b (lt_of_heap hb) (fun e => hne e.symm)]; exact hb
  have hne2 := Lib.ownBlock_ne hown hb2 (by decide)
  refine ⟨⟨_, v', .inr rfl, by rw [setCell_heap hb2]; rfl, ⟨hown.1, ?_⟩, .inl hF, fun g e => ?_⟩, ?_⟩
  · rcases hown.2 with h0 | ⟨g, cap, cur, rfl, h1, h2, h3⟩
    · exact .inl h0
    · exact .inr ⟨g, cap, cur, rfl, h1, by rw [setCell_heap_ne (fun e => hne2 (by rw [e]; rfl))]; exact h2, h3⟩
  · rcases hnew g e with h | h
    · exact .inl (hg g h)
    · exact .inr (Nat.le_trans hev.size h)
  · exact ((hev.grown hgr fun k hk => .inl (hg k hk)).setCell (.inl hF) _).now fun k hk => hk
end Go.Proofs.YthpbdeiphagkiaaGreatDoor
/- strings.Builder, at this dump: WriteByte, WriteString, WriteRune, String. (The arms of AppendRune are printed by gen_bld.py.) -/
namespace Go.Proofs.YthpbdeiphagkiaaGreatDoor
open Go.RowKit

section
variable {P : Program}
/-- Appending a string's bytes: and where the new row lies. -/
theorem run_append_string_at (w : World) (base : Nat) (t u ty e : TypeId) (i : TypeInfo) (ht : P.underlying t = some (.slice e)) (hu : P.underlying u = some .string) (hi : P.info? e = some i) (hz : i.zero = some (.int .u8 0))
    (hsize : i.size = 1) (hby : i.bytes = 1)
    (v : Value) (n : Nat) (xs : List Value) (hown : w.ownsRow base e 1 v n xs) (s : ByteArray)
    (h63 : n + s.size ≤ maxLen) (hbytes : n + s.size ≤ 140737488355328) (hbase : base ≤ w.heap.size) :
    ∃ v' w', (Builtin.append_ #[t, u] ty #[v, .string s]).run P w = .ok v' w' ∧ w'.ownsRow base e 1 v' (n + s.size) (xs ++ Lib.strCells s) ∧ w.grownBy w' v.ownBlock ∧
      (∀ g, v'.ownBlock = some g → v.ownBlock = some g ∨ w.heap.size ≤ g) := by
  obtain ⟨v', w', hr, h2, h3, h4⟩ := Lib.run_append_own_string (P := P) w base t u ty e i ht hu hi hz hsize hby v n xs hown s h63 hbytes hbase
  refine ⟨v', w', hr, h2, h3, ?_⟩
  have hxl : xs.length = n := by simpa using hown.1
  rcases hown.2 with ⟨rfl, rfl⟩ | ⟨g, cap, cur, rfl, hbg, hg, hnc, hcm, hcs, htake⟩
  · by_cases hm : s.size = 0
    · rw [h4.2 ⟨rfl, hm⟩]; intro g hg; cases hg
    · have hr2 := run_append_nil_string (P := P) w t u ty e i (.int .u8 0) ht hu hi hz s (by omega) (by unfold maxLen at h63; omega) (by rw [hby]; omega)
      rw [hr] at hr2
      obtain ⟨rfl, _⟩ := Result.ok.inj hr2
      intro g hg
      right
      simp [Value.ownBlock] at hg; omega
  · by_cases hroom : n + s.size ≤ cap
    · have hcs' : cur.size = cap := by simpa using hcs
      have hr2 := Lib.run_append_room_string (P := P) w t u ty e i ht hu hi hsize g n cap cur hg s hroom (by omega)
      rw [hr] at hr2
      obtain ⟨rfl, _⟩ := Result.ok.inj hr2
      intro g hg
      left; exact hg
    · have holds : ∀ j u, xs[j]? = some u → w.cell? ((⟨g, 0, none⟩ : Addr).add j) = some u := hown.cells (g := g) rfl
      have hr2 := Lib.run_append_grow_string (P := P) w t u ty e i (.int .u8 0) ht hu hi hz ⟨g, 0, none⟩ n cap xs (by rw [hsize]; simpa using hxl) holds s (by omega) (by unfold maxLen at h63; omega) (by rw [hby]; exact growslice_fits (by omega) (by omega))
      rw [hr] at hr2
      obtain ⟨rfl, _⟩ := Result.ok.inj hr2
      intro g hg
      right
      simp [Value.ownBlock] at hg; omega
theorem wpList_append_string_at {w : World} {ops : Array Oper} {rest : List Oper} {o : Oper} {a : Act} {Q : Exit → Act → World → Prop} (hgd : o.guard = none) (sl x : Operand) (t u : TypeId)
    (ho : o.op = .call { callee := .builtin .append, args := #[sl, x], argTypes := #[t, u] })
    (base : Nat) (e : TypeId) (i : TypeInfo) (ht : P.underlying t = some (.slice e)) (hu : P.underlying u = some .string) (hi : P.info? e = some i) (hz : i.zero = some (.int .u8 0))
    (hsize : i.size = 1) (hby : i.bytes = 1)
    (v : Value) (n : Nat) (xs : List Value) (hs : a.eval sl = v) (hown : w.ownsRow base e 1 v n xs) (s : ByteArray) (hx : a.eval x = .string s)
    (h63 : n + s.size ≤ maxLen) (hbytes : n + s.size ≤ 140737488355328) (hbase : base ≤ w.heap.size)
    (h : ∀ v' w', w'.ownsRow base e 1 v' (n + s.size) (xs ++ Lib.strCells s) → w.grownBy w' v.ownBlock → (∀ g, v'.ownBlock = some g → v.ownBlock = some g ∨ w.heap.size ≤ g) → wpList P ops Q rest (a.put o.dst v') w') : wpList P ops Q (o :: rest) a w := by
  refine wpList_plain hgd fun K hK => ?_
  obtain ⟨v', w', hr, h2, h3, h4⟩ := run_append_string_at (P := P) w base t u o.type e i ht hu hi hz hsize hby v n xs hown s h63 hbytes hbase
  unfold Oper.wp execOp
  simp only [ho, resolve, invoke, builtin, Sem.run_bind, Sem.run_pure, Result.andThen_ok, List.map_toArray, List.map_cons, List.map_nil, hs, hx, hr]
  exact hK _ _ (h v' w' h2 h3 h4)
end

/-- A write's post. -/
def Wrote (b : Nat) (bs' : List UInt8) (F : Nat → Prop) (w w' : World) : Prop := Bld w' b bs' (fun k => F k ∨ w.heap.size ≤ k) ∧ Ev F w (fun k => F k ∨ w.heap.size ≤ k) w'

theorem slice_form {w : World} {B : Nat} {e : TypeId} {size : Nat} {v : Value} {n : Nat} {xs : List Value} (h : w.ownsRow B e size v n xs) : ∃ a c, v = .slice a n c := by
  rcases h.2 with ⟨rfl, h0⟩ | ⟨g, cap, cur, rfl, _⟩
  · exact ⟨none, 0, by rw [h0]⟩
  · exact ⟨_, _, rfl⟩

set_option maxHeartbeats 1600000 in
set_option maxRecDepth 100000 in
theorem writeByte_any (b : Nat) (bs : List UInt8) (F : Nat → Prop) (c : UInt8) (w : World) (h : Bld w b bs F) (hlen : bs.length + 1 ≤ 140737488355328) :
    Calls Tryz.prog 21 #[.pointer (some ⟨b, 0, none⟩), .int .u8 c.toNat] w fun e w' => e = .returned .nilIface ∧ Wrote b (bs ++ [c]) F w w' := by
  obtain ⟨i0, hi, hz0, hz1, hz2⟩ := info_parts info_byte
  have hFb : F b := by obtain ⟨_, _, _, _, _, hF, _⟩ := h; exact hF
  go_enter Tryz.func21, Tryz.ntmps21
  go_wp2_with (go_at_call 41; refine (check_any b bs F _ h).mono ?_)
  rintro e w1 ⟨rfl, v, hb, hown, hg, hev⟩
  have hne := Lib.ownBlock_ne hown hb (by decide)
  obtain ⟨ao, cap, rfl⟩ := slice_form hown
  have c0 : w1.cell? ⟨b, 0, none⟩ = some (.pointer (some ⟨b, 0, none⟩)) := by rw [Lib.cell_of_heap hb]; rfl
  have c1 : w1.cell? ⟨b, 1, none⟩ = some (.slice ao bs.length cap) := by rw [Lib.cell_of_heap hb]; rfl
  have HB := Lib.hid hb
  have HE := Lib.hid hev
  clear hb hev
  go_wp2_with (at_builtin; refine wpList_append_own_at _ rfl _ _ 33 rfl 0 5 i0 (.int .u8 0) 1 1 Tryz.underlying33 hi hz0 hz1 hz2 rfl (by decide) _ _ _ rfl (hown.alloc _) ⟨w1.heap.size, 0, none⟩ 1 1 [.int .u8 c.toNat] rfl rfl (cell_one_new _ _ _) (by simp [Value.oneCell']) (by unfold maxLen; omega) (by omega) (by simp) ?_)
  intro v' w2 hown' hgrow _ hat
  have hb1 : (w1.alloc (.cells #[.int .u8 c.toNat] 5)).heap[b]? = some (.cells #[.pointer (some ⟨b, 0, none⟩), .slice ao bs.length cap] 73 (0, 0)) := (Below.heap_alloc _ _ _ (lt_of_heap HB.out)).trans HB.out
  have HP := Lib.hid (Bld.of_put (w := w) (bs' := bs ++ [c]) (HE.out.alloc (.cells #[.int .u8 c.toNat] 5)) hb1 hFb hg hgrow (by rw [Lib.byteCells_append]; simp only [List.length_append, List.length_singleton]; exact hown') (fun g e => by
    rcases hat with h | h
    · left; rw [← h]; exact e
    · right; rw [h] at e; simp at e; simp; omega) hne)
  have d1 : w2.cell? ⟨b, 1, none⟩ = some (.slice ao bs.length cap) := by
    have : w2.heap[b]? = _ := (hgrow.block b (lt_of_heap hb1) (fun e => hne e.symm)).trans hb1
    rw [Lib.cell_of_heap this]; rfl
  have f1 : w2.frozen? ⟨b, 1, none⟩ = false := by
    have : w2.heap[b]? = _ := (hgrow.block b (lt_of_heap hb1) (fun e => hne e.symm)).trans hb1
    exact Lib.frozen_of_heap this 1
  obtain ⟨a', cap', rfl⟩ := slice_form hown'
  clear hown' hgrow hat hown c0 c1 hb1 hne
  go_wp2
  go_ret
  exact ⟨rfl, HP.out⟩

set_option maxHeartbeats 1600000 in
set_option maxRecDepth 100000 in
theorem writeString_any (b : Nat) (bs : List UInt8) (F : Nat → Prop) (s : ByteArray) (w : World) (h : Bld w b bs F) (hlen : bs.length + s.size ≤ 140737488355328) :
    Calls Tryz.prog 20 #[.pointer (some ⟨b, 0, none⟩), .string s] w fun e w' => e = .returned (.tuple #[.int .i64 s.size, .nilIface]) ∧ Wrote b (bs ++ s.data.toList) F w w' := by
  obtain ⟨i0, hi, hz0, hz1, hz2⟩ := info_parts info_byte
  have hFb : F b := by obtain ⟨_, _, _, _, _, hF, _⟩ := h; exact hF
  go_enter Tryz.func20, Tryz.ntmps20
  go_wp2_with (go_at_call 41; refine (check_any b bs F _ h).mono ?_)
  rintro e w1 ⟨rfl, v, hb, hown, hg, hev⟩
  have hne := Lib.ownBlock_ne hown hb (by decide)
  obtain ⟨ao, cap, rfl⟩ := slice_form hown
  have c0 : w1.cell? ⟨b, 0, none⟩ = some (.pointer (some ⟨b, 0, none⟩)) := by rw [Lib.cell_of_heap hb]; rfl
  have c1 : w1.cell? ⟨b, 1, none⟩ = some (.slice ao bs.length cap) := by rw [Lib.cell_of_heap hb]; rfl
  have HB := Lib.hid hb
  have HE := Lib.hid hev
  clear hb hev
  go_wp2_with (at_builtin; refine wpList_append_string_at rfl _ _ 33 9 rfl 0 5 i0 Tryz.underlying33 Tryz.underlying9 hi hz0 hz1 hz2 _ _ _ rfl hown s rfl (by unfold maxLen; omega) (by omega) (by simp) ?_)
  intro v' w2 hown' hgrow hat
  have hb1 := HB.out
  have hl : (bs ++ s.data.toList).length = bs.length + s.size := by rw [List.length_append, Array.length_toList]; rfl
  have HP := Lib.hid (Bld.of_put (w := w) (bs' := bs ++ s.data.toList) HE.out hb1 hFb hg hgrow (by rw [hl, Lib.byteCells_append]; exact hown') hat hne)
  have d1 : w2.cell? ⟨b, 1, none⟩ = some (.slice ao bs.length cap) := by
    have : w2.heap[b]? = _ := (hgrow.block b (lt_of_heap hb1) (fun e => hne e.symm)).trans hb1
    rw [Lib.cell_of_heap this]; rfl
  have f1 : w2.frozen? ⟨b, 1, none⟩ = false := by
    have : w2.heap[b]? = _ := (hgrow.block b (lt_of_heap hb1) (fun e => hne e.symm)).trans hb1
    exact Lib.frozen_of_heap this 1
  obtain ⟨a', cap', rfl⟩ := slice_form hown'
  clear hown' hgrow hat hown c0 c1 hb1 hne hl
  go_wp2
  go_ret2
  exact ⟨rfl, HP.out⟩

/-- What an append of bytes leaves: one block more, the row grown, and where it lies. -/
def Grew (w : World) (v : Value) (n : Nat) (xs news : List Value) (v' : Value) (w' : World) : Prop :=
  w'.ownsRow 0 5 1 v' (n + news.length) (xs ++ news) ∧ ∃ o, (w.alloc o).grownBy w' v.ownBlock ∧ ∀ g, v'.ownBlock = some g → v.ownBlock = some g ∨ (w.alloc o).heap.size ≤ g

set_option maxHeartbeats 1600000 in
set_option maxRecDepth 100000 in
theorem nonAscii_two (v : Value) (n : Nat) (xs : List Value) (r : Int) (h0 : 128 ≤ r) (h1 : r ≤ 2047) (w : World) (hown : w.ownsRow 0 5 1 v n xs) (hlen : n + 4 ≤ 140737488355328) :
    Calls Tryz.prog 95 #[v, .int .i32 r] w fun e w' => ∃ v', e = .returned v' ∧ Grew w v n xs [.int .u8 (192 + r / 64), .int .u8 (128 + r % 64)] v' w' := by
  obtain ⟨i0, hi, hz0, hz1, hz2⟩ := info_parts info_byte
  go_enter Tryz.func95, Tryz.ntmps95
  go_wp2_with (at_builtin; refine wpList_append_own_at _ rfl _ _ 33 rfl 0 5 i0 (.int .u8 0) 1 1 Tryz.underlying33 hi hz0 hz1 hz2 rfl (by decide) _ _ _ rfl (hown.alloc _) ⟨w.heap.size, 0, none⟩ 2 2 [.int .u8 (192 + r / 64), .int .u8 (128 + r % 64)] rfl rfl (World.news_of_block (heap_alloc_new w _)) (by intro u hu; simp at hu; rcases hu with rfl | rfl <;> rfl) (by unfold maxLen; omega) (by omega) (by simp) ?_)
  intro v' w2 hown' hgrow _ hat
  go_wp2
  go_ret
  exact ⟨_, rfl, hown', _, hgrow, fun g e => by
    have e' : v'.ownBlock = some g := e
    rcases hat with h | h
    · left; rw [← h]; exact e'
    · right; rw [h] at e'; simp at e'; simp; omega⟩

set_option maxHeartbeats 1600000 in
set_option maxRecDepth 100000 in
theorem nonAscii_three_lo (v : Value) (n : Nat) (xs : List Value) (r : Int) (h0 : 2048 ≤ r) (h1 : r < 55296) (w : World) (hown : w.ownsRow 0 5 1 v n xs) (hlen : n + 4 ≤ 140737488355328) :
    Calls Tryz.prog 95 #[v, .int .i32 r] w fun e w' => ∃ v', e = .returned v' ∧ Grew w v n xs [.int .u8 (224 + r / 4096), .int .u8 (128 + r / 64 % 64), .int .u8 (128 + r % 64)] v' w' := by
  obtain ⟨i0, hi, hz0, hz1, hz2⟩ := info_parts info_byte
  go_enter Tryz.func95, Tryz.ntmps95
  go_wp2_with (at_builtin; refine wpList_append_own_at _ rfl _ _ 33 rfl 0 5 i0 (.int .u8 0) 1 1 Tryz.underlying33 hi hz0 hz1 hz2 rfl (by decide) _ _ _ rfl (hown.alloc _) ⟨w.heap.size, 0, none⟩ 3 3 [.int .u8 (224 + r / 4096), .int .u8 (128 + r / 64 % 64), .int .u8 (128 + r % 64)] rfl rfl (World.news_of_block (heap_alloc_new w _)) (by intro u hu; simp at hu; rcases hu with rfl | rfl | rfl <;> rfl) (by unfold maxLen; omega) (by omega) (by simp) ?_)
  intro v' w2 hown' hgrow _ hat
  go_wp2
  go_ret
  exact ⟨_, rfl, hown', _, hgrow, fun g e => by
    have e' : v'.ownBlock = some g := e
    rcases hat with h | h
    · left; rw [← h]; exact e'
    · right; rw [h] at e'; simp at e'; simp; omega⟩

set_option maxHeartbeats 1600000 in
set_option maxRecDepth 100000 in
theorem nonAscii_three_hi (v : Value) (n : Nat) (xs : List Value) (r : Int) (h0 : 57343 < r) (h1 : r ≤ 65535) (w : World) (hown : w.ownsRow 0 5 1 v n xs) (hlen : n + 4 ≤ 140737488355328) :
    Calls Tryz.prog 95 #[v, .int .i32 r] w fun e w' => ∃ v', e = .returned v' ∧ Grew w v n xs [.int .u8 (224 + r / 4096), .int .u8 (128 + r / 64 % 64), .int .u8 (128 + r % 64)] v' w' := by
  obtain ⟨i0, hi, hz0, hz1, hz2⟩ := info_parts info_byte
  go_enter Tryz.func95, Tryz.ntmps95
  go_wp2_with (at_builtin; refine wpList_append_own_at _ rfl _ _ 33 rfl 0 5 i0 (.int .u8 0) 1 1 Tryz.underlying33 hi hz0 hz1 hz2 rfl (by decide) _ _ _ rfl (hown.alloc _) ⟨w.heap.size, 0, none⟩ 3 3 [.int .u8 (224 + r / 4096), .int .u8 (128 + r / 64 % 64), .int .u8 (128 + r % 64)] rfl rfl (World.news_of_block (heap_alloc_new w _)) (by intro u hu; simp at hu; rcases hu with rfl | rfl | rfl <;> rfl) (by unfold maxLen; omega) (by omega) (by simp) ?_)
  intro v' w2 hown' hgrow _ hat
  go_wp2
  go_ret
  exact ⟨_, rfl, hown', _, hgrow, fun g e => by
    have e' : v'.ownBlock = some g := e
    rcases hat with h | h
    · left; rw [← h]; exact e'
    · right; rw [h] at e'; simp at e'; simp; omega⟩

set_option maxHeartbeats 1600000 in
set_option maxRecDepth 100000 in
theorem nonAscii_four (v : Value) (n : Nat) (xs : List Value) (r : Int) (h0 : 65536 ≤ r) (h1 : r ≤ 1114111) (w : World) (hown : w.ownsRow 0 5 1 v n xs) (hlen : n + 4 ≤ 140737488355328) :
    Calls Tryz.prog 95 #[v, .int .i32 r] w fun e w' => ∃ v', e = .returned v' ∧ Grew w v n xs [.int .u8 (240 + r / 262144), .int .u8 (128 + r / 4096 % 64), .int .u8 (128 + r / 64 % 64), .int .u8 (128 + r % 64)] v' w' := by
  obtain ⟨i0, hi, hz0, hz1, hz2⟩ := info_parts info_byte
  go_enter Tryz.func95, Tryz.ntmps95
  go_wp2_with (at_builtin; refine wpList_append_own_at _ rfl _ _ 33 rfl 0 5 i0 (.int .u8 0) 1 1 Tryz.underlying33 hi hz0 hz1 hz2 rfl (by decide) _ _ _ rfl (hown.alloc _) ⟨w.heap.size, 0, none⟩ 4 4 [.int .u8 (240 + r / 262144), .int .u8 (128 + r / 4096 % 64), .int .u8 (128 + r / 64 % 64), .int .u8 (128 + r % 64)] rfl rfl (World.news_of_block (heap_alloc_new w _)) (by intro u hu; simp at hu; rcases hu with rfl | rfl | rfl | rfl <;> rfl) (by unfold maxLen; omega) (by omega) (by simp) ?_)
  intro v' w2 hown' hgrow _ hat
  go_wp2
  go_ret
  exact ⟨_, rfl, hown', _, hgrow, fun g e => by
    have e' : v'.ownBlock = some g := e
    rcases hat with h | h
    · left; rw [← h]; exact e'
    · right; rw [h] at e'; simp at e'; simp; omega⟩

set_option maxHeartbeats 1600000 in
set_option maxRecDepth 100000 in
theorem nonAscii_neg (v : Value) (n : Nat) (xs : List Value) (r : Int) (h0 : r < 0) (h1 : -2147483648 ≤ r) (w : World) (hown : w.ownsRow 0 5 1 v n xs) (hlen : n + 4 ≤ 140737488355328) :
    Calls Tryz.prog 95 #[v, .int .i32 r] w fun e w' => ∃ v', e = .returned v' ∧ Grew w v n xs [.int .u8 (239), .int .u8 (191), .int .u8 (189)] v' w' := by
  obtain ⟨i0, hi, hz0, hz1, hz2⟩ := info_parts info_byte
  go_enter Tryz.func95, Tryz.ntmps95
  go_wp2_with (at_builtin; refine wpList_append_own_at _ rfl _ _ 33 rfl 0 5 i0 (.int .u8 0) 1 1 Tryz.underlying33 hi hz0 hz1 hz2 rfl (by decide) _ _ _ rfl (hown.alloc _) ⟨w.heap.size, 0, none⟩ 3 3 [.int .u8 (239), .int .u8 (191), .int .u8 (189)] rfl rfl (World.news_of_block (heap_alloc_new w _)) (by intro u hu; simp at hu; rcases hu with rfl | rfl | rfl <;> rfl) (by unfold maxLen; omega) (by omega) (by simp) ?_)
  intro v' w2 hown' hgrow _ hat
  go_wp2
  go_ret
  exact ⟨_, rfl, hown', _, hgrow, fun g e => by
    have e' : v'.ownBlock = some g := e
    rcases hat with h | h
    · left; rw [← h]; exact e'
    · right; rw [h] at e'; simp at e'; simp; omega⟩

set_option maxHeartbeats 1600000 in
set_option maxRecDepth 100000 in
theorem nonAscii_surr (v : Value) (n : Nat) (xs : List Value) (r : Int) (h0 : 55296 ≤ r) (h1 : r ≤ 57343) (w : World) (hown : w.ownsRow 0 5 1 v n xs) (hlen : n + 4 ≤ 140737488355328) :
    Calls Tryz.prog 95 #[v, .int .i32 r] w fun e w' => ∃ v', e = .returned v' ∧ Grew w v n xs [.int .u8 (239), .int .u8 (191), .int .u8 (189)] v' w' := by
  obtain ⟨i0, hi, hz0, hz1, hz2⟩ := info_parts info_byte
  go_enter Tryz.func95, Tryz.ntmps95
  go_wp2_with (at_builtin; refine wpList_append_own_at _ rfl _ _ 33 rfl 0 5 i0 (.int .u8 0) 1 1 Tryz.underlying33 hi hz0 hz1 hz2 rfl (by decide) _ _ _ rfl (hown.alloc _) ⟨w.heap.size, 0, none⟩ 3 3 [.int .u8 (239), .int .u8 (191), .int .u8 (189)] rfl rfl (World.news_of_block (heap_alloc_new w _)) (by intro u hu; simp at hu; rcases hu with rfl | rfl | rfl <;> rfl) (by unfold maxLen; omega) (by omega) (by simp) ?_)
  intro v' w2 hown' hgrow _ hat
  go_wp2
  go_ret
  exact ⟨_, rfl, hown', _, hgrow, fun g e => by
    have e' : v'.ownBlock = some g := e
    rcases hat with h | h
    · left; rw [← h]; exact e'
    · right; rw [h] at e'; simp at e'; simp; omega⟩

set_option maxHeartbeats 1600000 in
set_option maxRecDepth 100000 in
theorem nonAscii_far (v : Value) (n : Nat) (xs : List Value) (r : Int) (h0 : 1114111 < r) (h1 : r ≤ 2147483647) (w : World) (hown : w.ownsRow 0 5 1 v n xs) (hlen : n + 4 ≤ 140737488355328) :
    Calls Tryz.prog 95 #[v, .int .i32 r] w fun e w' => ∃ v', e = .returned v' ∧ Grew w v n xs [.int .u8 (239), .int .u8 (191), .int .u8 (189)] v' w' := by
  obtain ⟨i0, hi, hz0, hz1, hz2⟩ := info_parts info_byte
  go_enter Tryz.func95, Tryz.ntmps95
  go_wp2_with (at_builtin; refine wpList_append_own_at _ rfl _ _ 33 rfl 0 5 i0 (.int .u8 0) 1 1 Tryz.underlying33 hi hz0 hz1 hz2 rfl (by decide) _ _ _ rfl (hown.alloc _) ⟨w.heap.size, 0, none⟩ 3 3 [.int .u8 (239), .int .u8 (191), .int .u8 (189)] rfl rfl (World.news_of_block (heap_alloc_new w _)) (by intro u hu; simp at hu; rcases hu with rfl | rfl | rfl <;> rfl) (by unfold maxLen; omega) (by omega) (by simp) ?_)
  intro v' w2 hown' hgrow _ hat
  go_wp2
  go_ret
  exact ⟨_, rfl, hown', _, hgrow, fun g e => by
    have e' : v'.ownBlock = some g := e
    rcases hat with h | h
    · left; rw [← h]; exact e'
    · right; rw [h] at e'; simp at e'; simp; omega⟩

set_option maxHeartbeats 1600000 in
set_option maxRecDepth 100000 in
theorem appendRune_ascii (v : Value) (n : Nat) (xs : List Value) (r : Int) (h0 : 0 ≤ r) (h1 : r ≤ 127) (w : World) (hown : w.ownsRow 0 5 1 v n xs) (hlen : n + 4 ≤ 140737488355328) :
    Calls Tryz.prog 73 #[v, .int .i32 r] w fun e w' => ∃ v', e = .returned v' ∧ Grew w v n xs [.int .u8 (r)] v' w' := by
  obtain ⟨i0, hi, hz0, hz1, hz2⟩ := info_parts info_byte
  go_enter Tryz.func73, Tryz.ntmps73
  go_wp2_with (at_builtin; refine wpList_append_own_at _ rfl _ _ 33 rfl 0 5 i0 (.int .u8 0) 1 1 Tryz.underlying33 hi hz0 hz1 hz2 rfl (by decide) _ _ _ rfl (hown.alloc _) ⟨w.heap.size, 0, none⟩ 1 1 [.int .u8 (r)] rfl rfl (World.news_of_block (heap_alloc_new w _)) (by intro u hu; simp at hu; rcases hu with rfl <;> rfl) (by unfold maxLen; omega) (by omega) (by simp) ?_)
  intro v' w2 hown' hgrow _ hat
  go_wp2
  go_ret
  exact ⟨_, rfl, hown', _, hgrow, fun g e => by
    have e' : v'.ownBlock = some g := e
    rcases hat with h | h
    · left; rw [← h]; exact e'
    · right; rw [h] at e'; simp at e'; simp; omega⟩

theorem nonAscii_any (v : Value) (n : Nat) (xs : List Value) (r : Int) (h : r < 0 ∨ 127 < r) (h0 : -2147483648 ≤ r) (h1 : r ≤ 2147483647) (w : World) (hown : w.ownsRow 0 5 1 v n xs) (hlen : n + 4 ≤ 140737488355328) :
    Calls Tryz.prog 95 #[v, .int .i32 r] w fun e w' => ∃ v', e = .returned v' ∧ Grew w v n xs (Lib.runeCells r) v' w' := by
  unfold Lib.runeCells
  by_cases a1 : r < 0
  · rw [Lib.encodeRuneZ_bad (.inl a1)]; exact nonAscii_neg v n xs r a1 h0 w hown hlen
  by_cases a2 : r ≤ 2047
  · rw [Lib.encodeRuneZ_two (by omega) a2]; exact nonAscii_two v n xs r (by omega) a2 w hown hlen
  by_cases a3 : r < 55296
  · rw [Lib.encodeRuneZ_three (by omega)]; exact nonAscii_three_lo v n xs r (by omega) a3 w hown hlen
  by_cases a4 : r ≤ 57343
  · rw [Lib.encodeRuneZ_bad (by omega)]; exact nonAscii_surr v n xs r (by omega) a4 w hown hlen
  by_cases a5 : r ≤ 65535
  · rw [Lib.encodeRuneZ_three (by omega)]; exact nonAscii_three_hi v n xs r (by omega) a5 w hown hlen
  by_cases a6 : r ≤ 1114111
  · rw [Lib.encodeRuneZ_four (by omega) a6]; exact nonAscii_four v n xs r (by omega) a6 w hown hlen
  · rw [Lib.encodeRuneZ_bad (by omega)]; exact nonAscii_far v n xs r (by omega) h1 w hown hlen

set_option maxHeartbeats 800000 in
theorem appendRune_any (v : Value) (n : Nat) (xs : List Value) (r : Int) (h0 : -2147483648 ≤ r) (h1 : r ≤ 2147483647) (w : World) (hown : w.ownsRow 0 5 1 v n xs) (hlen : n + 4 ≤ 140737488355328) :
    Calls Tryz.prog 73 #[v, .int .i32 r] w fun e w' => ∃ v', e = .returned v' ∧ Grew w v n xs (Lib.runeCells r) v' w' := by
  by_cases c : 0 ≤ r ∧ r ≤ 127
  · rw [show Lib.runeCells r = [.int .u8 r] by simp [Lib.runeCells, Lib.encodeRuneZ_one c.1 c.2]]
    exact appendRune_ascii v n xs r c.1 c.2 w hown hlen
  · rcases (by omega : r < 0 ∨ 127 < r) with hr | hr
    all_goals
      have H := Lib.hid (nonAscii_any v n xs r (by omega) h0 h1 w hown hlen)
      clear hown c
      go_enter Tryz.func73, Tryz.ntmps73
      go_wp2_with (go_at_call 95; refine H.out.mono ?_)
      rintro e w1 ⟨v', rfl, hg⟩
      go_wp2
      go_ret
      exact ⟨_, rfl, hg⟩

set_option maxHeartbeats 1600000 in
set_option maxRecDepth 100000 in
theorem writeRune_any (b : Nat) (bs : List UInt8) (F : Nat → Prop) (r : Int) (h0 : -2147483648 ≤ r) (h1 : r ≤ 2147483647) (w : World) (h : Bld w b bs F) (hlen : bs.length + 4 ≤ 140737488355328) :
    Calls Tryz.prog 47 #[.pointer (some ⟨b, 0, none⟩), .int .i32 r] w fun e w' => (∃ z, e = .returned (.tuple #[.int .i64 z, .nilIface])) ∧ Wrote b (bs ++ Lib.encodeRune r) F w w' := by
  have hFb : F b := by obtain ⟨_, _, _, _, _, hF, _⟩ := h; exact hF
  have hk4 := Lib.runeCells_le r
  go_enter Tryz.func47, Tryz.ntmps47
  go_wp2_with (go_at_call 41; refine (check_any b bs F _ h).mono ?_)
  rintro e w1 ⟨rfl, v, hb, hown, hg, hev⟩
  have hne := Lib.ownBlock_ne hown hb (by decide)
  obtain ⟨ao, cap, rfl⟩ := slice_form hown
  have c0 : w1.cell? ⟨b, 0, none⟩ = some (.pointer (some ⟨b, 0, none⟩)) := by rw [Lib.cell_of_heap hb]; rfl
  have c1 : w1.cell? ⟨b, 1, none⟩ = some (.slice ao bs.length cap) := by rw [Lib.cell_of_heap hb]; rfl
  have HB := Lib.hid hb
  have HE := Lib.hid hev
  have HA := Lib.hid (appendRune_any (.slice ao bs.length cap) bs.length _ r h0 h1 w1 hown (by omega))
  clear hb hev
  go_wp2_with (go_at_call 73; refine HA.out.mono ?_)
  rintro e w2 ⟨v', rfl, hown', o, hgrow, hat⟩
  have hb1 : (w1.alloc o).heap[b]? = some (.cells #[.pointer (some ⟨b, 0, none⟩), .slice ao bs.length cap] 73 (0, 0)) := (Below.heap_alloc _ _ _ (lt_of_heap HB.out)).trans HB.out
  have hl : (bs ++ Lib.encodeRune r).length = bs.length + (Lib.runeCells r).length := by rw [List.length_append, Lib.runeCells_length]
  have HP := Lib.hid (Bld.of_put (w := w) (bs' := bs ++ Lib.encodeRune r) (HE.out.alloc o) hb1 hFb hg hgrow (by rw [hl, Lib.byteCells_append, Lib.byteCells_encodeRune]; exact hown') (fun g e => by
    rcases hat g e with h | h
    · exact .inl h
    · right; exact h) hne)
  have d0 : w2.heap[b]? = some (.cells #[.pointer (some ⟨b, 0, none⟩), .slice ao bs.length cap] 73 (0, 0)) := (hgrow.block b (lt_of_heap hb1) (fun e => hne e.symm)).trans hb1
  have d1 : w2.cell? ⟨b, 1, none⟩ = some (.slice ao bs.length cap) := by rw [Lib.cell_of_heap d0]; rfl
  have f1 : w2.frozen? ⟨b, 1, none⟩ = false := Lib.frozen_of_heap d0 1
  obtain ⟨a', cap', rfl⟩ := slice_form hown'
  clear hown' hgrow hat hown c0 c1 hb1 hne hl d0
  go_wp2
  go_ret2
  exact ⟨⟨_, rfl⟩, HP.out⟩
end Go.Proofs.YthpbdeiphagkiaaGreatDoor
/- strings.Builder.String, at this dump. -/
namespace Go.Proofs.YthpbdeiphagkiaaGreatDoor
open Go.RowKit

theorem freeze_other {w : World} {g k n : Nat} (h : k ≠ g) : (w.freeze ⟨g, 0, none⟩ n).heap[k]? = w.heap[k]? := by
  unfold World.freeze
  split
  · rfl
  · simp only [Array.getElem?_modify, if_neg (Ne.symm h)]
theorem Ev.freeze {F F' : Nat → Prop} {a w : World} (h : Ev F a F' w) {g : Nat} (hg : F' g) (n : Nat) : Ev F a F' (w.freeze ⟨g, 0, none⟩ n) := by
  unfold World.freeze
  split
  · exact h
  · exact h.put (.inl hg) _
theorem cells_u8 : Tryz.prog.cellsOf 5 = 1 := by kernel_rfl
theorem byteCells_length' (l : List UInt8) : (Lib.byteCells l).length = l.length := by simp [Lib.byteCells]

set_option maxHeartbeats 1600000 in
set_option maxRecDepth 100000 in
theorem string_some (b : Nat) (l : List UInt8) (F : Nat → Prop) (w : World) (h : Bld w b l F) (h0 : l ≠ []) :
    Calls Tryz.prog 22 #[.pointer (some ⟨b, 0, none⟩)] w fun e w' => e = .returned (.string ⟨l.toArray⟩) ∧ BldR w' b F ∧ Ev F w F w' := by
  obtain ⟨p, v, hp, hbk, hown, hF, hgF⟩ := h
  have hl0 : l.length ≠ 0 := by simpa using h0
  have hne := Lib.ownBlock_ne hown hbk (by decide)
  obtain ⟨g, cap, cur, rfl, _, hg, hnc, hcm, hcs, htake⟩ : ∃ g cap cur, v = .slice (some ⟨g, 0, none⟩) l.length cap ∧ 0 ≤ g ∧ w.heap[g]? = some (.cells cur 5 (0, 0)) ∧ l.length ≤ cap ∧ cap ≤ maxLen ∧ cur.size = cap * 1 ∧ cur.toList.take (l.length * 1) = Lib.byteCells l := by
    rcases hown.2 with ⟨_, hz⟩ | ⟨g, cap, cur, hv, r⟩
    · exact absurd hz hl0
    · exact ⟨g, cap, cur, hv, r⟩
  have hgb : g ≠ b := fun e => hne (by rw [← e]; rfl)
  have hFg := hgF g rfl
  have c1 : w.drew.cell? ⟨b, 1, none⟩ = some (.slice (some ⟨g, 0, none⟩) l.length cap) := by
    have : w.drew.heap[b]? = some (.cells #[p, .slice (some ⟨g, 0, none⟩) l.length cap] 73 (0, 0)) := hbk
    rw [Lib.cell_of_heap this]; rfl
  have hSD : (Builtin.unsafeSliceData_ #[33] 114 #[.slice (some ⟨g, 0, none⟩) l.length cap]).run Tryz.prog w.drew = .ok (.pointer (some ⟨g, 0, none⟩)) w.drew :=
    Lib.run_unsafeSliceData_row _ _ _ _ _ _ (by omega)
  have hUS : (Builtin.unsafeString_ #[114, 3] 9 #[.pointer (some ⟨g, 0, none⟩), .int .i64 l.length]).run Tryz.prog w.drew = .ok (.string ⟨l.toArray⟩) (w.drew.freeze ⟨g, 0, none⟩ l.length) := by
    refine Lib.run_unsafeString_row w.drew 114 3 9 5 Tryz.underlying114 cells_u8 g cur.size (by have hg' : w.drew.heap[g]? = some (.cells cur 5 (0, 0)) := hg; simp [World.shape?, hg']) l h0 (by omega) (by unfold maxLen at hcm; omega) ?_
    intro j x hx
    have := hown.cells (g := g) rfl j (.int .u8 x.toNat) (by simp [Lib.byteCells, hx])
    exact this
  have hP : BldR (w.drew.freeze ⟨g, 0, none⟩ l.length) b F ∧ Ev F w F (w.drew.freeze ⟨g, 0, none⟩ l.length) :=
    ⟨⟨p, _, by rw [freeze_other (Ne.symm hgb)]; exact hbk, hF⟩, ((Ev.refl F w).drew).freeze hFg _⟩
  have HP := Lib.hid hP
  clear hP hown hbk hg htake hcs hcm hnc hne hgF h0
  go_enter Tryz.func22, Tryz.ntmps22
  go_wp2
  go_region
  all_goals (go_wp2; go_ret; exact ⟨rfl, HP.out⟩)

theorem unsafeString_none (w : World) (p : Option Addr) : (Builtin.unsafeString_ #[114, 3] 9 #[.pointer p, .int .i64 0]).run Tryz.prog w = .ok (.string .empty) w :=
  Lib.run_unsafeString_none (P := Tryz.prog) (w := w) 114 3 9 p

set_option maxHeartbeats 1600000 in
set_option maxRecDepth 100000 in
theorem string_none (b : Nat) (F : Nat → Prop) (w : World) (h : Bld w b [] F) :
    Calls Tryz.prog 22 #[.pointer (some ⟨b, 0, none⟩)] w fun e w' => e = .returned (.string ⟨#[]⟩) ∧ BldR w' b F ∧ Ev F w F w' := by
  have hUS := unsafeString_none
  obtain ⟨p, v, hp, hbk, hown, hF, hgF⟩ := h
  rcases hown.2 with ⟨rfl, _⟩ | ⟨g, cap, cur, rfl, _, hg, _⟩
  · have c1 : w.drew.cell? ⟨b, 1, none⟩ = some (.slice none 0 0) := by
      have : w.drew.heap[b]? = some (.cells #[p, .slice none 0 0] 73 (0, 0)) := hbk
      rw [Lib.cell_of_heap this]; rfl
    have hSD : (Builtin.unsafeSliceData_ #[33] 114 #[.slice none 0 0]).run Tryz.prog w.drew = .ok (.pointer none) w.drew := rfl
    have HP := Lib.hid (show BldR w.drew b F ∧ Ev F w F w.drew from ⟨⟨p, _, hbk, hF⟩, (Ev.refl F w).drew⟩)
    clear hown hbk hgF
    go_enter Tryz.func22, Tryz.ntmps22
    go_wp2
    go_region
    all_goals (go_wp2; go_ret; exact ⟨rfl, HP.out⟩)
  · by_cases hc0 : cap = 0
    · subst hc0
      have hlt : b < w.heap.size := lt_of_heap hbk
      have c1 : w.drew.cell? ⟨b, 1, none⟩ = some (.slice (some ⟨g, 0, none⟩) 0 0) := by
        have : w.drew.heap[b]? = some (.cells #[p, .slice (some ⟨g, 0, none⟩) 0 0] 73 (0, 0)) := hbk
        rw [Lib.cell_of_heap this]; rfl
      have hSD : (Builtin.unsafeSliceData_ #[33] 114 #[.slice (some ⟨g, 0, none⟩) 0 0]).run Tryz.prog w.drew = .ok (.pointer (some ⟨w.drew.heap.size, 0, none⟩)) (w.drew.alloc (.view ⟨g, 0, none⟩ 5)) :=
        Lib.run_unsafeSliceData_zero w.drew _ _ 5 Tryz.underlying114 ⟨g, 0, none⟩ 0 (5, cur.size) (by have hg' : w.drew.heap[g]? = some (.cells cur 5 (0, 0)) := hg; simp [World.shape?, hg'])
      have hb2 : (w.drew.alloc (.view ⟨g, 0, none⟩ 5)).heap[b]? = some (.cells #[p, .slice (some ⟨g, 0, none⟩) 0 0] 73 (0, 0)) := (Lib.alloc_old w.drew _ b hlt).trans hbk
      have c2 : (w.drew.alloc (.view ⟨g, 0, none⟩ 5)).cell? ⟨b, 1, none⟩ = some (.slice (some ⟨g, 0, none⟩) 0 0) := by
        rw [Lib.cell_of_heap hb2]; rfl
      have c3 : (w.alloc (.view ⟨g, 0, none⟩ 5)).drew.cell? ⟨b, 1, none⟩ = some (.slice (some ⟨g, 0, none⟩) 0 0) := c2
      have c0 : w.cell? ⟨b, 1, none⟩ = some (.slice (some ⟨g, 0, none⟩) 0 0) := c1
      have HP := Lib.hid (show BldR (w.drew.alloc (.view ⟨g, 0, none⟩ 5)) b F ∧ Ev F w F (w.drew.alloc (.view ⟨g, 0, none⟩ 5)) from ⟨⟨p, _, hb2, hF⟩, ((Ev.refl F w).drew).alloc _⟩)
      clear hown hbk hgF hb2
      go_enter Tryz.func22, Tryz.ntmps22
      go_wp2
      go_region
      all_goals (go_wp2; go_ret; exact ⟨rfl, HP.out⟩)
    · have c1 : w.drew.cell? ⟨b, 1, none⟩ = some (.slice (some ⟨g, 0, none⟩) 0 cap) := by
        have : w.drew.heap[b]? = some (.cells #[p, .slice (some ⟨g, 0, none⟩) 0 cap] 73 (0, 0)) := hbk
        rw [Lib.cell_of_heap this]; rfl
      have hSD : (Builtin.unsafeSliceData_ #[33] 114 #[.slice (some ⟨g, 0, none⟩) 0 cap]).run Tryz.prog w.drew = .ok (.pointer (some ⟨g, 0, none⟩)) w.drew :=
        Lib.run_unsafeSliceData_row _ _ _ _ _ _ hc0
      have HP := Lib.hid (show BldR w.drew b F ∧ Ev F w F w.drew from ⟨⟨p, _, hbk, hF⟩, (Ev.refl F w).drew⟩)
      clear hown hbk hgF hc0
      go_enter Tryz.func22, Tryz.ntmps22
      go_wp2
      go_region
      all_goals (go_wp2; go_ret; exact ⟨rfl, HP.out⟩)

/-- String: whatever the builder holds. -/
theorem string_any (b : Nat) (l : List UInt8) (F : Nat → Prop) (w : World) (h : Bld w b l F) :
    Calls Tryz.prog 22 #[.pointer (some ⟨b, 0, none⟩)] w fun e w' => e = .returned (.string ⟨l.toArray⟩) ∧ BldR w' b F ∧ Ev F w F w' := by
  cases l with
  | nil => exact string_none b F w h
  | cons x r => exact string_some b (x :: r) F w h (by simp)
end Go.Proofs.YthpbdeiphagkiaaGreatDoor
