/- A map keyed by strings, entry by entry: look-up, store. Any program. -/
import Derived.Test.YthpbdeiphagkiaaGreatDoorEv
import Derived.MapKept
import Derived.MapFrom
import Derived.RangeFuncFrom
namespace Go.Proofs.YthpbdeiphagkiaaGreatDoor
open Go.RowKit Find Go.MapKept

@[reducible] def st (l : Wd) : Value := .string ⟨l.toArray⟩
theorem st_inj {a b : Wd} (h : st a = st b) : a = b := by
  have h1 : (⟨a.toArray⟩ : ByteArray) = ⟨b.toArray⟩ := Value.string.inj h
  have h2 : a.toArray = b.toArray := ByteArray.mk.inj h1
  have := congrArg Array.toList h2
  simpa using this

theorem nodup_inj {α : Type} {l : List α} (h : l.Nodup) {i j : Nat} (hi : i < l.length) (hj : j < l.length) (e : l[i] = l[j]) : i = j := by
  have hp := List.pairwise_iff_getElem.1 h
  rcases Nat.lt_trichotomy i j with hlt | heq | hgt
  · exact absurd e (hp i j hi hj hlt)
  · exact heq
  · exact absurd e.symm (hp j i hj hi hgt)
abbrev Entries := List (Wd × Value)
def lookE (M : Entries) (k : Wd) : Option Value := (M.find? fun p => p.1 == k).map (·.2)
def updE (M : Entries) (k : Wd) (v : Value) : Entries := if k ∈ M.map (·.1) then M.map fun p => if p.1 = k then (k, v) else p else M ++ [(k, v)]

/-- Block m is a map whose entries are M, in the order of their birth; no key twice. -/
def MapIs (w : World) (m : Nat) (M : Entries) : Prop := ∃ es clock, w.heap[m]? = some (.map es clock) ∧ Stamped es clock ∧ es.toList.map (fun e => (e.key, e.val)) = M.map fun p => (st p.1, p.2)

theorem MapIs.lt {w : World} {m : Nat} {M : Entries} (h : MapIs w m M) : m < w.heap.size := by obtain ⟨es, c, hb, _⟩ := h; exact lt_of_heap hb
theorem MapIs.keep {w w' : World} {m : Nat} {M : Entries} (h : MapIs w m M) (hk : w'.heap[m]? = w.heap[m]?) : MapIs w' m M := by
  obtain ⟨es, c, hb, r⟩ := h; exact ⟨es, c, hk.trans hb, r⟩
theorem MapIs.made (w : World) : MapIs (w.alloc (.map #[] 0)) w.heap.size [] := ⟨#[], 0, heap_alloc_new _ _, stamped_empty 0, rfl⟩
theorem MapIs.nodup {w : World} {m : Nat} {M : Entries} (h : MapIs w m M) : (M.map (·.1)).Nodup := by
  obtain ⟨es, c, hb, hs, he⟩ := h
  have h1 : es.toList.map (·.key) = M.map fun p => st p.1 := by
    have := congrArg (List.map Prod.fst) he
    rw [List.map_map, List.map_map] at this
    exact this
  have h2 := hs.2.2
  rw [h1] at h2
  have h3 : (M.map (·.1)).map st = M.map fun p => st p.1 := by rw [List.map_map]; rfl
  rw [← h3] at h2
  exact (List.pairwise_map.1 h2).imp fun hne e => hne (by rw [e])

section
variable {P : Program} {w : World} {m : Nat} {M : Entries} {T K E : TypeId}

/-- The entries against the model's search. -/
theorem find_entry (h : MapIs w m M) (k : Wd) : ∃ es clock, w.heap[m]? = some (.map es clock) ∧ (∀ x ∈ es.toList, IsKey .string x.key) ∧ Stamped es clock ∧ es.toList.map (fun e => (e.key, e.val)) = M.map (fun p => (st p.1, p.2)) ∧
    ((Instr.findNow .string (st k) es.toList 0 = some none ∧ lookE M k = none ∧ (∀ x ∈ es.toList, x.key ≠ st k) ∧ k ∉ M.map (·.1)) ∨
     ∃ j e, Instr.findNow .string (st k) es.toList 0 = some (some (j, e.val)) ∧ es[j]? = some e ∧ e.key = st k ∧ lookE M k = some e.val ∧ k ∈ M.map (·.1)) := by
  have hnd := h.nodup
  obtain ⟨es, clock, hb, hs, he⟩ := h
  have hkeys : ∀ x ∈ es.toList, IsKey .string x.key := by
    intro x hx
    have : (x.key, x.val) ∈ M.map (fun p => (st p.1, p.2)) := by rw [← he]; exact List.mem_map.2 ⟨x, hx, rfl⟩
    obtain ⟨p, _, hp⟩ := List.mem_map.1 this
    have : x.key = st p.1 := (congrArg Prod.fst hp).symm
    rw [this]; trivial
  refine ⟨es, clock, hb, hkeys, hs, he, ?_⟩
  rcases findNow_spec (d := .string) (k := st k) trivial es.toList 0 hkeys with ⟨h1, h2⟩ | ⟨j, e, h1, h2, h3⟩
  · left
    have hn : k ∉ M.map (·.1) := by
      intro hk
      obtain ⟨p, hp, rfl⟩ := List.mem_map.1 hk
      have : (st p.1, p.2) ∈ es.toList.map (fun e => (e.key, e.val)) := by rw [he]; exact List.mem_map.2 ⟨p, hp, rfl⟩
      obtain ⟨x, hx, hxe⟩ := List.mem_map.1 this
      exact h2 x hx (congrArg Prod.fst hxe)
    refine ⟨h1, ?_, h2, hn⟩
    unfold lookE
    rw [List.find?_eq_none.2 fun p hp => ?_]; rfl
    simp only [beq_iff_eq]
    exact fun e => hn (List.mem_map.2 ⟨p, hp, e⟩)
  · right
    have hj : es[j]? = some e := by simpa using h2
    have hjl : j < es.toList.length := (List.getElem?_eq_some_iff.1 h2).1
    have hM : M[j]?.map (fun p => (st p.1, p.2)) = some (e.key, e.val) := by
      rw [← List.getElem?_map, ← he, List.getElem?_map, h2]; rfl
    obtain ⟨p, hp, hpe⟩ := Option.map_eq_some_iff.1 hM
    have hpk : p.1 = k := st_inj ((congrArg Prod.fst hpe).trans h3)
    have hpm : p ∈ M := List.mem_of_getElem? hp
    refine ⟨j, e, by simpa using h1, hj, h3, ?_, List.mem_map.2 ⟨p, hpm, hpk⟩⟩
    unfold lookE
    have : M.find? (fun p => p.1 == k) = some p := by
      cases hf : M.find? (fun p => p.1 == k) with
      | none => exact absurd (List.find?_eq_none.1 hf p hpm) (by simp [hpk])
      | some q =>
        have hq1 : q.1 = k := by simpa using List.find?_some hf
        have hq2 := List.mem_of_find?_eq_some hf
        obtain ⟨i1, hi1, e1⟩ := List.mem_iff_getElem.1 hq2
        obtain ⟨i2, hi2, e2⟩ := List.mem_iff_getElem.1 hpm
        have : i1 = i2 := nodup_inj hnd (i := i1) (j := i2) (by simpa using hi1) (by simpa using hi2) (by simp only [List.getElem_map]; rw [e1, e2, hq1, hpk])
        subst this
        rw [← e1, ← e2]
    rw [this]
    exact congrArg (fun o => some (Prod.snd o)) hpe

theorem run_lookE (hT : P.underlying T = some (.map K E)) (hK : P.underlying K = some .string) {z : Value} (hz : ∀ w, (zeroValue E).run P w = .ok z w) (h : MapIs w m M) (k : Wd) :
    (Instr.lookup T (.map (some m)) (st k) false).run P w = .ok ((lookE M k).getD z) w := by
  obtain ⟨es, clock, hb, hks, _, _, hf⟩ := find_entry h k
  have hik : IsKey .string (st k) := trivial
  rcases hf with ⟨h1, h2, _⟩ | ⟨j, e, h1, _, _, h2, _⟩
  · simp [Instr.lookup, run_underlying hT, MapKept.run_getObj_map hb, run_checkKey hK hik, run_findKey hK h1, hz, Result.andThen, h2]
  · simp [Instr.lookup, run_underlying hT, MapKept.run_getObj_map hb, run_checkKey hK hik, run_findKey hK h1, Result.andThen, h2]

theorem run_updE (hT : P.underlying T = some (.map K E)) (hK : P.underlying K = some .string) (h : MapIs w m M) (k : Wd) (v : Value) :
    ∃ o, (Instr.mapUpdate T (.map (some m)) (st k) v).run P w = .ok () (w.putObj m o) ∧ MapIs (w.putObj m o) m (updE M k v) := by
  obtain ⟨es, clock, hb, hks, hs, he, hf⟩ := find_entry h k
  have hik : IsKey .string (st k) := trivial
  have hput : ∀ o, ({ w with heap := w.heap.setIfInBounds m o } : World) = w.putObj m o := fun o => rfl
  have hlt := lt_of_heap hb
  rcases hf with ⟨h1, h2, h3, h4⟩ | ⟨j, e, h1, hj, h3, h2, h4⟩
  · refine ⟨.map (es.push { key := st k, val := v, born := clock }) (clock + 1), ?_, ?_⟩
    · simp [Instr.mapUpdate, run_underlying hT, MapKept.run_getObj_map hb, run_checkKey hK hik, run_findKey hK h1, run_setObj_map _ hb, Result.andThen, hput]
    · refine ⟨_, _, World.putObj_heap_same hlt, stamped_push hs h3, ?_⟩
      rw [updE, if_neg h4]
      simp [he]
  · refine ⟨.map (es.modify j fun e => { e with key := st k, val := v }) clock, ?_, ?_⟩
    · simp [Instr.mapUpdate, run_underlying hT, MapKept.run_getObj_map hb, run_checkKey hK hik, run_findKey hK h1, hj, h3, run_keyThatStays hik, run_setObj_map _ hb, Result.andThen, hput]
    · refine ⟨_, _, World.putObj_heap_same hlt, stamped_modify hs j _ (fun _ _ => rfl) (fun x _ hx => by rw [hj] at hx; cases hx; exact h3.symm), ?_⟩
      rw [updE, if_pos h4]
      have hnd := h.nodup
      apply List.ext_getElem?
      intro i
      have hi := congrArg (fun l : List (Value × Value) => l[i]?) he
      simp only [List.getElem?_map, Array.toList_modify, List.getElem?_modify] at hi ⊢
      cases hM : M[i]? with
      | none =>
        rw [hM] at hi
        cases hE : es.toList[i]? with
        | none => simp
        | some x => rw [hE] at hi; simp at hi
      | some p =>
        rw [hM] at hi
        cases hE : es.toList[i]? with
        | none => rw [hE] at hi; simp at hi
        | some x =>
          rw [hE] at hi
          simp only [Option.map_some, Option.some.injEq, Prod.mk.injEq] at hi
          by_cases hij : j = i
          · subst hij
            have hx : x = e := by
              have h5 : es.toList[j]? = some e := by simpa using hj
              rw [h5] at hE; exact (Option.some.inj hE).symm
            subst hx
            have : p.1 = k := st_inj (hi.1.symm.trans h3)
            simp [this]
          · have : p.1 ≠ k := by
              rintro rfl
              apply hij
              have hn := hs.2.2
              have h5 : es.toList[j]? = some e := by simpa using hj
              obtain ⟨l1, e1⟩ := List.getElem?_eq_some_iff.1 h5
              obtain ⟨l2, e2⟩ := List.getElem?_eq_some_iff.1 hE
              exact nodup_inj hn (i := j) (j := i) (by simpa using l1) (by simpa using l2) (by simp only [List.getElem_map]; rw [e1, e2, h3, hi.1])
            simp [this, hij, hi.1, hi.2]
end
end Go.Proofs.YthpbdeiphagkiaaGreatDoor
