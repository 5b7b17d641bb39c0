/- A reckoner for closed runs, part 35: maps written, made. -/
import Derived.Test.YtafhmagifoapfaaGreatDoorEvC
import Derived.Lib.Bytealg
import Derived.Lib.MakeNoZero
import Derived.Laws.Externs
import Derived.RangeFuncLeaves
import Derived.TacticsIn
import Derived.OrdersIn
namespace Go.Proofs.YtafhmagifoapfaaGreatDoor
open Go.RowKit
noncomputable section
def mput (H : PT O) (n : Nat) (l : List (V × V)) (bs : List Nat) (ck : Nat) : PT O := PT.force (H.set (.mp l bs ck) n) fun H => H
theorem mput_eq (H : PT O) (n : Nat) (l : List (V × V)) (bs : List Nat) (ck : Nat) : mput H n l bs ck = H.set (.mp l bs ck) n := by unfold mput; rw [PT.force_eq]
/-- The type of a map's keys, of its values. -/
def mapT (TT : PT TD) (t : TypeId) : Option (TypeDesc × Nat) :=
  match TT.get t with
  | some d => match mapD d.d with
    | some (kt, e) => match TT.get kt with
      | some kd => cond (keyT kd.d) (some (kd.d, e)) none
      | none => none
    | none => none
  | none => none
theorem keyEq_same {σ : Sig} {k k' : V} {u x : Value} (h : keyEq k k' = some true) (hu : VR σ k u) (hx : VR σ k' x) : x = u ∧ Instr.sameBits 10000 x u = true := by
  unfold keyEq at h
  split at h
  · obtain rfl := VR_i hu
    obtain rfl := VR_i hx
    rename_i ka a kb b
    cases hc : Nat.beq (kidx ka) (kidx kb) with
    | false => rw [hc] at h; cases h
    | true =>
      rw [hc] at h
      have := kidx_inj hc
      subst this
      simp only [cond_true, Option.some.injEq, ieq_eq, beq_iff_eq] at h
      subst h
      exact ⟨rfl, by simp [Instr.sameBits]⟩
  · obtain ⟨rfl, h1⟩ := VR_s hu
    obtain ⟨rfl, h2⟩ := VR_s hx
    simp only [Option.some.injEq] at h
    rw [strEq_eq h1 h2, beq_iff_eq] at h
    have e : ∀ {la xa lb xb : Nat}, bytesOf la xa = bytesOf lb xb → bstr la xa = bstr lb xb := fun e => by unfold bstr; rw [e]
    rw [e h]
    exact ⟨rfl, by rw [Instr.sameBits, beq_toListBytes]; simp⟩
  · obtain rfl := VR_b hu
    obtain rfl := VR_b hx
    simp only [Option.some.injEq, beq_iff_eq] at h
    subst h
    exact ⟨rfl, by simp [Instr.sameBits]⟩
  · cases h
theorem VRs_modify {σ : Sig} {v : V} {u : Value} {g : MapEntry → Value} {f : MapEntry → MapEntry} (hf : ∀ e, g (f e) = u) (hv : VR σ v u) : ∀ {l : List V} {es : List MapEntry} (j : Nat), VRs σ l (es.map g) → VRs σ (l.set j v) ((es.modify j f).map g)
  | [], [], j, _ => by cases j <;> simp [VRs]
  | _ :: _, _ :: _, 0, h => by
    simp only [List.set_cons_zero, List.modify_zero_cons, List.map_cons, hf]
    exact ⟨hv, h.2⟩
  | _ :: _, _ :: _, j + 1, h => by
    simp only [List.set_cons_succ, List.modify_succ_cons, List.map_cons]
    exact ⟨h.1, VRs_modify hf hv j h.2⟩
  | [], _ :: _, _, h => by simp [VRs] at h
  | _ :: _, [], _, h => by simp [VRs] at h
theorem born_modify {f : MapEntry → MapEntry} (hf : ∀ e, (f e).born = e.born) : ∀ (es : List MapEntry) (j : Nat), (es.modify j f).map (·.born) = es.map (·.born)
  | [], j => by cases j <;> rfl
  | e :: es, 0 => by simp [hf]
  | e :: es, j + 1 => by simp [born_modify hf es j]
section
variable {P : Program} {w0 w : World} {G nx : Nat} {σ : Sig} {H : PT O} {TT : PT TD}
theorem mapT_ok (hT : TTok P TT) {t : TypeId} {kd : TypeDesc} {e : Nat} (h : mapT TT t = some (kd, e)) : ∃ kt, P.underlying t = some (.map kt e) ∧ P.underlying kt = some kd ∧ keyT kd = true := by
  unfold mapT at h
  cases hd : TT.get t with
  | none => rw [hd] at h; cases h
  | some d =>
    rw [hd] at h
    simp only at h
    cases hm : mapD d.d with
    | none => rw [hm] at h; cases h
    | some p =>
      obtain ⟨kt, e'⟩ := p
      rw [hm] at h
      simp only at h
      cases hk : TT.get kt with
      | none => rw [hk] at h; cases h
      | some k =>
        rw [hk] at h
        simp only at h
        cases hc : keyT k.d with
        | false => rw [hc] at h; cases h
        | true =>
          rw [hc] at h
          simp only [cond_true, Option.some.injEq, Prod.mk.injEq] at h
          obtain ⟨rfl, rfl⟩ := h
          exact ⟨kt, by rw [(hT t d hd).1, mapD_eq hm], (hT kt k hk).1, hc⟩
/-- A map's object. -/
theorem HR.map (h : HR w0 G σ H nx w) {n : Nat} {l : List (V × V)} {bs : List Nat} {ck : Nat} {u : Value} (hn : H.get n = some (.mp l bs ck)) (hx : VR σ (.mp n) u) : ∃ q es, u = .map (some q.blk) ∧ σ n = some q ∧ w.heap[q.blk]? = some (.map es ck) ∧ es.toList.map (·.born) = bs ∧
    VRs σ (l.map (·.1)) (es.toList.map (·.key)) ∧ VRs σ (l.map (·.2)) (es.toList.map (·.val)) := by
  obtain ⟨r, q, rfl, hq, rfl⟩ := VR_mp hx
  obtain ⟨q', ob, hq', hob, es, rfl, h1, h2, h3⟩ := h.obj n _ hn
  rw [hq] at hq'
  simp only [Option.some.injEq] at hq'
  subst hq'
  exact ⟨q, es, rfl, hq, hob, h1, h2, h3⟩
theorem run_getObj {r : Nat} {ob : Obj} (h : w.heap[r]? = some ob) (hc : ∀ c t f, ob ≠ .cells c t f) : (getObj r).run P w = .ok ob w := by
  cases ob <;> first | exact absurd rfl (hc _ _ _) | simp [getObj, Sem.run, h]
theorem run_setObj {r : Nat} {ob o : Obj} (h : w.heap[r]? = some ob) (hc : ∀ c t f, ob ≠ .cells c t f) : (setObj r o).run P w = .ok () (putObj w r o) := by
  cases ob <;> first | exact absurd rfl (hc _ _ _) | simp [setObj, Sem.run, h, putObj]
/-- An entry is written, or made. -/
def mapSet (TT : PT TD) (G : Nat) (t : TypeId) (H : PT O) (m k v : V) : Option (PT O) :=
  match m with
  | .mp n => match mapT TT t, H.get n with
    | some (kd, _), some (.mp l bs ck) => cond (Nat.ble G n) (match findE kd k l 0 with
      | some (some (j, _, _)) => some (mput H n (l.set j (k, v)) bs ck)
      | some none => some (nforce (ck + 1) fun c => mput H n (l ++ [(k, v)]) (bs ++ [ck]) c)
      | none => none) none
    | _, _ => none
  | _ => none
theorem mapSet_ok (hT : TTok P TT) (h : HR w0 G σ H nx w) {t : TypeId} {m k v : V} {mu ku vu : Value} {H' : PT O} (ha : mapSet TT G t H m k v = some H') (hm : VR σ m mu) (hk : VR σ k ku) (hv : VR σ v vu) : ∃ w', HR w0 G σ H' nx w' ∧ (Instr.mapUpdate t mu ku vu).run P w = .ok () w' := by
  unfold mapSet at ha
  split at ha
  · rename_i n
    split at ha
    · rename_i kd e l bs ck hmt hn
      obtain ⟨kt, ht, hkt, hkk⟩ := mapT_ok hT hmt
      cases hc : Nat.ble G n with
      | false => rw [hc] at ha; cases ha
      | true =>
        rw [hc] at ha
        simp only [cond_true] at ha
        have hGn := Nat.le_of_ble_eq_true hc
        obtain ⟨q, es, rfl, hq, hob, h1, h2, h3⟩ := h.map hn hm
        have hget := run_getObj (P := P) hob (fun _ _ _ e => by cases e)
        cases hf : findE kd k l 0 with
        | none => rw [hf] at ha; cases ha
        | some r =>
          rw [hf] at ha
          have hfo := findE_ok hk hf h2 h3
          cases r with
          | none =>
            simp only [mput_eq, Option.some.injEq] at ha
            simp only at hfo
            subst ha
            refine ⟨_, h.put (ob' := .map (es.push { key := ku, val := vu, born := ck }) (ck + 1)) hGn hn hq hob ⟨_, rfl, by simp [h1], ?_, ?_⟩, ?_⟩
            · simpa using VRs_append h2 (show VRs σ [k] [ku] from ⟨hk, trivial⟩)
            · simpa using VRs_append h3 (show VRs σ [v] [vu] from ⟨hv, trivial⟩)
            · simp only [Instr.mapUpdate, Sem.run_bind, run_underlying ht, Result.andThen_ok, hget, run_checkKey hkt hkk, run_findKey hkt hfo]
              exact run_setObj hob (fun _ _ _ e => by cases e)
          | some p =>
            obtain ⟨j, k', v'⟩ := p
            simp only [mput_eq, Option.some.injEq] at ha
            obtain ⟨e, e1, e2, e3, e4, e5, e6, e7⟩ := hfo
            rw [Nat.sub_zero] at e2 e3
            subst ha
            obtain ⟨hke, hsb⟩ := keyEq_same e4 hk e5
            refine ⟨_, h.put (ob' := .map (es.modify j fun e => { e with key := ku, val := vu }) ck) hGn hn hq hob ⟨_, rfl, ?_, ?_, ?_⟩, ?_⟩
            · rw [Array.toList_modify]; exact (born_modify (f := fun e => { e with key := ku, val := vu }) (fun _ => rfl) _ _).trans h1
            · rw [List.map_set, Array.toList_modify]; exact VRs_modify (f := fun e => { e with key := ku, val := vu }) (g := fun e => e.key) (fun _ => rfl) hk j h2
            · rw [List.map_set, Array.toList_modify]; exact VRs_modify (f := fun e => { e with key := ku, val := vu }) (g := fun e => e.val) (fun _ => rfl) hv j h3
            · simp only [Instr.mapUpdate, Sem.run_bind, run_underlying ht, Result.andThen_ok, hget, run_checkKey hkt hkk, run_findKey hkt e7]
              have hkey : (((es[j]?).map (·.key)).getD ku) = ku := by
                rw [← Array.getElem?_toList, e3]; exact hke
              have hst : (Instr.keyThatStays (((es[j]?).map (·.key)).getD ku) ku).run P w = .ok ku w := by
                rw [hkey]
                unfold Instr.keyThatStays
                rw [if_pos (by rw [← hke]; rw [hke] at hsb ⊢; exact hsb)]; rfl
              simp only [hst, Result.andThen_ok]
              exact run_setObj hob (fun _ _ _ e => by cases e)
    · cases ha
  · cases ha
/-- A new map. -/
def makeMapE (G : Nat) (H : PT O) (nx : Nat) : Option (V × PT O × Nat) :=
  cond (Nat.ble G nx) (nforce (nx + 1) fun n1 => some (.mp nx, mput H nx [] [] 0, n1)) none
theorem makeMapE_ok (h : HR w0 G σ H nx w) {t : TypeId} {r : Option Value} {v : V} {H' : PT O} {nx' : Nat} (ha : makeMapE G H nx = some (v, H', nx')) (hr : r = none ∨ ∃ k n kt e, r = some (.int k n) ∧ P.underlying t = some (.map kt e)) :
    ∃ σ' u w', σ.le σ' ∧ HR w0 G σ' H' nx' w' ∧ VR σ' v u ∧ (Instr.makeMap t r).run P w = .ok u w' := by
  unfold makeMapE at ha
  cases hc : Nat.ble G nx with
  | false => rw [hc] at ha; cases ha
  | true =>
    rw [hc] at ha
    simp only [cond_true, mput_eq, Option.some.injEq, Prod.mk.injEq] at ha
    obtain ⟨rfl, rfl, rfl⟩ := ha
    have hle := Sig.le_ext (q := ⟨w.heap.size, 0, 0⟩) (h.dom nx (Nat.le_refl _))
    have hm := h.make (o := .mp [] [] 0) (ob := .map #[] 0) (q := ⟨w.heap.size, 0, 0⟩) (Nat.le_of_ble_eq_true hc) rfl ⟨#[], rfl, rfl, trivial, trivial⟩
    refine ⟨_, .map (some w.heap.size), _, hle, hm, ?_, ?_⟩
    · simp only [VR]
      exact ⟨⟨w.heap.size, 0, 0⟩, by unfold Sig.ext; rw [if_pos rfl], rfl⟩
    · rcases hr with rfl | ⟨k, n, kt, e, rfl, ht⟩
      · rfl
      · simp only [Instr.makeMap, Sem.run_bind, run_underlying ht, Result.andThen_ok, asInt, asIntOf]
        rfl
end
end
end Go.Proofs.YtafhmagifoapfaaGreatDoor
namespace Go.Proofs.YtafhmagifoapfaaGreatDoor
open Go.RowKit
noncomputable section
def oput (H : PT O) (n : Nat) (o : O) : PT O := PT.force (H.set o n) fun H => H
theorem oput_eq (H : PT O) (n : Nat) (o : O) : oput H n o = H.set o n := by unfold oput; rw [PT.force_eq]
/-- A new walk. -/
def newO (G : Nat) (o : O) (H : PT O) (nx : Nat) : Option (V × PT O × Nat) :=
  cond (Nat.ble G nx) (nforce (nx + 1) fun n1 => some (.p nx 0, oput H nx o, n1)) none
def rangeE (TT : PT TD) (G : Nat) (t : TypeId) (x : V) (H : PT O) (nx : Nat) : Option (V × PT O × Nat) :=
  match TT.get t with
  | none => none
  | some d => match x with
    | .s len y => cond (strD d.d) (newO G (.it len y 0) H nx) none
    | .mn => match mapD d.d with
      | some _ => newO G (.mi none 0 [] 0) H nx
      | none => none
    | .mp n => match mapD d.d, H.get n with
      | some _, some (.mp _ _ ck) => newO G (.mi (some n) ck [] ck) H nx
      | _, _ => none
    | _ => none
/-- One character. -/
def decE (len x pos : Nat) : Nat × Nat :=
  nforce (x / 256 ^ pos % 256) fun b => cond (Nat.blt b 128) (b, 1) (Utf8.decode (bstr len x) pos)
theorem decE_ok {len x pos : Nat} (h : pos < len) : decE len x pos = Utf8.decode (bstr len x) pos := by
  unfold decE
  rw [nforce_eq]
  cases hb : Nat.blt (x / 256 ^ pos % 256) 128 with
  | false => rfl
  | true =>
    simp only [cond_true]
    have hb : x / 256 ^ pos % 256 < 128 := Nat.le_of_ble_eq_true hb
    have hg : ((bstr len x).get! (pos + 0)).toNat = x / 256 ^ pos % 256 := by
      have h1 : pos < (bytesOf len x).length := by rw [bytesOf_length]; exact h
      have h2 := bytesOf_get len x pos h
      have h3 : (bstr len x).get! (pos + 0) = (bytesOf len x)[pos]'h1 := by
        show (bytesOf len x).toArray[pos + 0]! = _
        simp [h1]
      rw [h3, h2]
      simp
    have e : (Utf8.decode (bstr len x) pos) = (((bstr len x).get! (pos + 0)).toNat, 1) := by
      unfold Utf8.decode
      simp only
      rw [if_pos (by rw [hg]; exact hb)]
    rw [e, hg]
def memN (b : Nat) : List Nat → Bool
  | [] => false
  | x :: l => cond (Nat.beq b x) true (memN b l)
theorem memN_eq (b : Nat) : ∀ l : List Nat, memN b l = l.contains b
  | [] => rfl
  | x :: l => by
    unfold memN
    rw [List.contains_cons, memN_eq b l]
    cases h : Nat.beq b x with
    | true =>
      have := Nat.eq_of_beq_eq_true h
      subst this; simp
    | false =>
      have : b ≠ x := fun e => by rw [beqT e] at h; cases h
      simp [this]
def leftV (seen : List Nat) : List (V × V) → List Nat → List (V × V × Nat)
  | (k, v) :: l, b :: bs => cond (memN b seen) (leftV seen l bs) ((k, v, b) :: leftV seen l bs)
  | _, _ => []
def LR (σ : Sig) : List (V × V × Nat) → List MapEntry → Prop
  | [], [] => True
  | (k, v, b) :: l, e :: es => VR σ k e.key ∧ VR σ v e.val ∧ e.born = b ∧ LR σ l es
  | _, _ => False
theorem leftV_ok {σ : Sig} (seen : List Nat) : ∀ {l : List (V × V)} {es : List MapEntry}, VRs σ (l.map (·.1)) (es.map (·.key)) → VRs σ (l.map (·.2)) (es.map (·.val)) → LR σ (leftV seen l (es.map (·.born))) (es.filter fun e => !seen.contains e.born)
  | [], [], _, _ => trivial
  | (k, v) :: l, e :: es, h1, h2 => by
    have ih := leftV_ok seen (l := l) (es := es) h1.2 h2.2
    rw [List.map_cons, leftV, memN_eq]
    cases hc : seen.contains e.born with
    | true =>
      rw [List.filter_cons_of_neg (by simp only [hc]; simp)]
      exact ih
    | false =>
      rw [List.filter_cons_of_pos (by simp only [hc]; simp)]
      exact ⟨h1.1, h2.1, rfl, ih⟩
  | [], _ :: _, h, _ => by simp [VRs] at h
  | _ :: _, [], h, _ => by simp [VRs] at h
def allGe (last : Nat) : List Nat → Bool
  | [] => true
  | b :: bs => cond (Nat.ble last b) (allGe last bs) false
theorem allGe_eq (last : Nat) : ∀ bs : List Nat, allGe last bs = bs.all fun b => decide (b ≥ last)
  | [] => rfl
  | b :: bs => by
    unfold allGe
    rw [List.all_cons, allGe_eq last bs]
    cases h : Nat.ble last b with
    | true => have := Nat.le_of_ble_eq_true h; simp [this]
    | false =>
      have : ¬ last ≤ b := fun e => by rw [Nat.ble_eq_true_of_le e] at h; cases h
      simp [this]
def emptyL {α : Type} : List α → Bool
  | [] => true
  | _ => false
def overV : V := .tup [.b false]
/-- The next of a walk. -/
def nextE (G : Nat) (isS : Bool) (x : V) (H : PT O) : Option (V × PT O) :=
  match x with
  | .p n o => cond (Nat.beq o 0 && Nat.ble G n) (match H.get n with
    | some (.it len y pos) => cond isS (cond (Nat.blt pos len) (match decE len y pos with
      | (c, wd) => nforce c fun c => nforce (pos + wd) fun p => some (.tup [.b true, .i .i64 (.ofNat pos), .i .i32 (.ofNat c)], oput H n (.it len y p))) (some (overV, H))) none
    | some (.mi none _ _ _) => cond isS none (some (overV, H))
    | some (.mi (some m) since seen last) => cond isS none (match H.get m with
      | some (.mp l bs ck) => cond (!emptyL seen && (!emptyL bs && allGe last bs)) none (match leftV seen l bs with
        | [] => some (overV, H)
        | [(k, v, b)] => cond (Nat.blt b since) (some (.tup [.b true, k, v], oput H n (.mi (some m) since (seen ++ [b]) ck))) none
        | _ => none)
      | _ => none)
    | _ => none) none
  | _ => none
section
variable {P : Program} {w0 w : World} {G nx : Nat} {σ : Sig} {H : PT O} {TT : PT TD}
theorem newO_ok (h : HR w0 G σ H nx w) {o : O} {ob : Obj} {v : V} {H' : PT O} {nx' : Nat} (ha : newO G o H nx = some (v, H', nx')) (ho : ∀ σ' q, σ.le σ' → q.off = 0 → OR σ' q o ob) : ∃ σ' u, σ.le σ' ∧ HR w0 G σ' H' nx' (w.alloc ob) ∧ VR σ' v u ∧ u = .pointer (some ⟨w.heap.size, 0, none⟩) := by
  unfold newO at ha
  cases hc : Nat.ble G nx with
  | false => rw [hc] at ha; cases ha
  | true =>
    rw [hc] at ha
    simp only [cond_true, oput_eq, Option.some.injEq, Prod.mk.injEq] at ha
    obtain ⟨rfl, rfl, rfl⟩ := ha
    have hle := Sig.le_ext (q := ⟨w.heap.size, 0, 0⟩) (h.dom nx (Nat.le_refl _))
    refine ⟨_, _, hle, h.make (q := ⟨w.heap.size, 0, 0⟩) (Nat.le_of_ble_eq_true hc) rfl (ho _ _ hle rfl), ?_, rfl⟩
    simp only [VR]
    unfold addrOf Sig.ext
    rw [if_pos rfl]; simp
theorem rangeE_ok (hT : TTok P TT) (h : HR w0 G σ H nx w) {t : TypeId} {x v : V} {u : Value} {H' : PT O} {nx' : Nat} (ha : rangeE TT G t x H nx = some (v, H', nx')) (hx : VR σ x u) : ∃ σ' r w', σ.le σ' ∧ HR w0 G σ' H' nx' w' ∧ VR σ' v r ∧ (Instr.range t u).run P w = .ok r w' := by
  unfold rangeE at ha
  cases hd : TT.get t with
  | none => rw [hd] at ha; cases ha
  | some d =>
    rw [hd] at ha
    have hu := (hT t d hd).1
    simp only at ha
    split at ha
    · rename_i len y
      obtain ⟨rfl, hs⟩ := VR_s hx
      cases hc : strD d.d with
      | false => rw [hc] at ha; cases ha
      | true =>
        rw [hc] at ha
        rw [strD_eq hc] at hu
        obtain ⟨σ', r, h1, h2, h3, rfl⟩ := newO_ok h ha (ob := .stringIter (bstr len y) 0) (fun _ _ _ e => ⟨e, rfl⟩)
        refine ⟨σ', _, _, h1, h2, h3, ?_⟩
        simp only [Instr.range, Sem.run_bind, run_underlying hu, Result.andThen_ok]
        rfl
    · obtain rfl := VR_mn hx
      cases hm : mapD d.d with
      | none => rw [hm] at ha; cases ha
      | some p =>
        rw [hm] at ha
        rw [mapD_eq (k := p.1) (e := p.2) hm] at hu
        obtain ⟨σ', r, h1, h2, h3, rfl⟩ := newO_ok h ha (ob := .mapIter none 0 #[] 0) (fun _ _ _ e => ⟨e, none, rfl, rfl⟩)
        refine ⟨σ', _, _, h1, h2, h3, ?_⟩
        simp only [Instr.range, Sem.run_bind, run_underlying hu, Result.andThen_ok]
        rfl
    · rename_i n
      split at ha
      · rename_i p l bs ck hm hn
        rw [mapD_eq (k := p.1) (e := p.2) hm] at hu
        obtain ⟨q, es, rfl, hq, hob, _, _, _⟩ := h.map hn hx
        obtain ⟨σ', r, h1, h2, h3, rfl⟩ := newO_ok h ha (ob := .mapIter (some q.blk) ck #[] ck) (fun σ' _ hl e => ⟨e, some q.blk, rfl, q, hl _ _ hq, rfl⟩)
        refine ⟨σ', _, _, h1, h2, h3, ?_⟩
        have hget := run_getObj (P := P) hob (fun _ _ _ e => by cases e)
        simp only [Instr.range, Sem.run_bind, run_underlying hu, Result.andThen_ok, hget]
        rfl
      · cases ha
    · cases ha
theorem HR.iter (h : HR w0 G σ H nx w) {n : Nat} {o : O} {u : Value} (hn : H.get n = some o) (hx : VR σ (.p n 0) u) : ∃ q ob, u = .pointer (some ⟨q.blk, q.off, none⟩) ∧ σ n = some q ∧ w.heap[q.blk]? = some ob ∧ OR σ q o ob := by
  obtain ⟨a, rfl, ha⟩ := VR_p hx
  obtain ⟨q, ob, hq, hob, ho⟩ := h.obj n o hn
  unfold addrOf at ha
  rw [hq] at ha
  simp only [Option.map_some, Option.some.injEq, Nat.add_zero] at ha
  subst ha
  exact ⟨q, ob, rfl, hq, hob, ho⟩
theorem nextE_ok (h : HR w0 G σ H nx w) {isS : Bool} {x v : V} {u : Value} {H' : PT O} {ty : TypeId} (ha : nextE G isS x H = some (v, H')) (hx : VR σ x u) : ∃ r w', HR w0 G σ H' nx w' ∧ VR σ v r ∧ (Instr.next u isS ty).run P w = .ok r w' := by
  unfold nextE at ha
  split at ha
  · rename_i n o
    cases hc : (Nat.beq o 0 && Nat.ble G n) with
    | false => rw [hc] at ha; cases ha
    | true =>
      rw [hc] at ha
      simp only [cond_true] at ha
      simp only [Bool.and_eq_true] at hc
      have ho := Nat.eq_of_beq_eq_true hc.1
      have hG := Nat.le_of_ble_eq_true hc.2
      subst ho
      split at ha
      · rename_i len y pos hn
        obtain ⟨q, ob, rfl, hq, hob, h0, rfl⟩ := h.iter hn hx
        have hget := run_getObj (P := P) hob (fun _ _ _ e => by cases e)
        cases isS with
        | false => cases ha
        | true =>
          simp only [cond_true] at ha
          cases hp : Nat.blt pos len with
          | false =>
            rw [hp] at ha
            simp only [cond_false, Option.some.injEq, Prod.mk.injEq] at ha
            obtain ⟨rfl, rfl⟩ := ha
            have hp' : ¬ pos < (bstr len y).size := fun e => by
              rw [bstr_size] at e
              have : Nat.blt pos len = true := Nat.ble_eq_true_of_le e
              rw [this] at hp; cases hp
            refine ⟨.tuple #[.bool false], w, h, ⟨rfl, trivial⟩, ?_⟩
            simp only [Instr.next, h0, Sem.run_bind, hget, Result.andThen_ok]
            rw [if_neg hp']; rfl
          | true =>
            rw [hp] at ha
            have hp : pos < len := Nat.le_of_ble_eq_true hp
            simp only [cond_true, decE_ok hp, nforce_eq, oput_eq, Option.some.injEq, Prod.mk.injEq] at ha
            obtain ⟨rfl, rfl⟩ := ha
            have hp' : pos < (bstr len y).size := by rw [bstr_size]; exact hp
            refine ⟨.tuple #[.bool true, goInt pos, .int .i32 (Utf8.decode (bstr len y) pos).1], _, h.put (ob' := .stringIter (bstr len y) (pos + (Utf8.decode (bstr len y) pos).2)) hG hn hq hob ⟨h0, rfl⟩, ⟨rfl, ⟨rfl, rfl⟩, ⟨rfl, rfl⟩, trivial⟩, ?_⟩
            simp only [Instr.next, h0, Sem.run_bind, hget, Result.andThen_ok]
            rw [if_pos hp']
            simp only [Sem.run_bind, run_setObj hob (fun _ _ _ e => by cases e), Result.andThen_ok]
            rfl
      · rename_i since seen last hn
        obtain ⟨q, ob, rfl, hq, hob, h0, r, rfl, rfl⟩ := h.iter hn hx
        have hget := run_getObj (P := P) hob (fun _ _ _ e => by cases e)
        cases isS with
        | true => cases ha
        | false =>
          simp only [cond_false, Option.some.injEq, Prod.mk.injEq] at ha
          obtain ⟨rfl, rfl⟩ := ha
          refine ⟨.tuple #[.bool false], w, h, ⟨rfl, trivial⟩, ?_⟩
          simp only [Instr.next, h0, Sem.run_bind, hget, Result.andThen_ok]
          rfl
      · rename_i m since seen last hn
        obtain ⟨q, ob, rfl, hq, hob, h0, r, rfl, qm, hqm, rfl⟩ := h.iter hn hx
        have hget := run_getObj (P := P) hob (fun _ _ _ e => by cases e)
        cases isS with
        | true => cases ha
        | false =>
          simp only [cond_false] at ha
          split at ha
          · rename_i l bs ck hm
            obtain ⟨qm', obm, hqm', hobm, es, rfl, e1, e2, e3⟩ := h.obj m _ hm
            rw [hqm] at hqm'
            simp only [Option.some.injEq] at hqm'
            subst hqm'
            have hgm := run_getObj (P := P) hobm (fun _ _ _ e => by cases e)
            cases hb : (!emptyL seen && (!emptyL bs && allGe last bs)) with
            | true => rw [hb] at ha; cases ha
            | false =>
              rw [hb] at ha
              simp only [cond_false] at ha
              have hcond : (!seen.toArray.isEmpty && !es.isEmpty && es.all fun e => decide (e.born ≥ last)) = false := by
                have q1 : seen.toArray.isEmpty = emptyL seen := by cases seen <;> simp [emptyL]
                have q2 : es.isEmpty = emptyL bs := by
                  rw [← e1, ← Array.isEmpty_toList]
                  cases es.toList <;> simp [emptyL]
                have q3 : (es.all fun e => decide (e.born ≥ last)) = allGe last bs := by
                  rw [allGe_eq, ← e1, List.all_map, ← Array.all_toList]; rfl
                rw [q1, q2, q3, Bool.and_assoc]; exact hb
              have hlr := leftV_ok seen e2 e3
              rw [e1] at hlr
              have hleft : (es.filter fun e => !seen.toArray.contains e.born) = (es.toList.filter fun e => !seen.contains e.born).toArray := by
                apply Array.toList_inj.1
                simp
              split at ha
              · rename_i hl
                rw [hl] at hlr
                simp only [Option.some.injEq, Prod.mk.injEq] at ha
                obtain ⟨rfl, rfl⟩ := ha
                have hnil : (es.toList.filter fun e => !seen.contains e.born) = [] := by
                  cases hf : (es.toList.filter fun e => !seen.contains e.born) with
                  | nil => rfl
                  | cons _ _ => rw [hf] at hlr; simp [LR] at hlr
                rw [hnil] at hleft
                refine ⟨.tuple #[.bool false], w, h, ⟨rfl, trivial⟩, ?_⟩
                simp only [Instr.next, h0, Sem.run_bind, hget, hgm, Result.andThen_ok, hcond, hleft]
                simp [choose, Sem.run, Question.forced]
              · rename_i k y b hl
                rw [hl] at hlr
                cases hbs : Nat.blt b since with
                | false => rw [hbs] at ha; cases ha
                | true =>
                  rw [hbs] at ha
                  have hbs : b < since := Nat.le_of_ble_eq_true hbs
                  simp only [cond_true, oput_eq, Option.some.injEq, Prod.mk.injEq] at ha
                  obtain ⟨rfl, rfl⟩ := ha
                  obtain ⟨e, hone, hk, hy, hbe⟩ : ∃ e, (es.toList.filter fun e => !seen.contains e.born) = [e] ∧ VR σ k e.key ∧ VR σ y e.val ∧ e.born = b := by
                    cases hf : (es.toList.filter fun e => !seen.contains e.born) with
                    | nil => rw [hf] at hlr; simp [LR] at hlr
                    | cons e rest =>
                      rw [hf] at hlr
                      obtain ⟨a1, a2, a3, a4⟩ := hlr
                      cases rest with
                      | nil => exact ⟨e, rfl, a1, a2, a3⟩
                      | cons _ _ => simp [LR] at a4
                  rw [hone] at hleft
                  subst hbe
                  have hold : (#[e].filter fun x => decide (x.born < since)) = #[e] := by simp [hbs]
                  have hnew : (#[e].filter fun x => decide (x.born ≥ since)) = #[] := by simp; omega
                  refine ⟨.tuple #[.bool true, e.key, e.val], _, h.put (ob' := .mapIter (some qm.blk) since (seen.toArray.push e.born) ck) hG hn hq hob ⟨h0, some qm.blk, by simp, qm, hqm, rfl⟩, ⟨rfl, hk, hy, trivial⟩, ?_⟩
                  simp only [Instr.next, h0, Sem.run_bind, hget, hgm, Result.andThen_ok, hcond, hleft, Bool.false_eq_true, if_false]
                  simp only [show ([e].toArray.filter fun x => decide (x.born < since)) = #[e] from hold, show ([e].toArray.filter fun x => decide (x.born ≥ since)) = #[] from hnew]
                  simp [choose, Sem.run, Question.forced, run_setObj hob (fun _ _ _ e => by cases e)]
              · cases ha
          · cases ha
      · cases ha
  · cases ha
end
end
end Go.Proofs.YtafhmagifoapfaaGreatDoor
namespace Go.Proofs.YtafhmagifoapfaaGreatDoor
open Go.RowKit
noncomputable section
def findB (b : Nat) : List (V × V) → List Nat → Option (V × V)
  | p :: l, c :: bs => cond (Nat.beq c b) (some p) (findB b l bs)
  | _, _ => none
def lastN : List Nat → Option Nat
  | [] => none
  | [b] => some b
  | _ :: l => lastN l
theorem lastN_eq : ∀ l : List Nat, lastN l = l.getLast?
  | [] => rfl
  | [b] => rfl
  | a :: b :: l => by rw [lastN, lastN_eq (b :: l), List.getLast?_cons_cons]; simp
/-- The entry at which a walk stands. -/
def entryE (H : PT O) (x : V) : Option V :=
  match x with
  | .p n o => cond (Nat.beq o 0) (match H.get n with
    | some (.mi (some m) _ seen last) => match lastN seen, H.get m with
      | some b, some (.mp l bs ck) => cond (Nat.beq ck last) (match findB b l bs with
        | some (k, v) => some (.tup [k, v])
        | none => none) none
      | _, _ => none
    | _ => none) none
  | _ => none
theorem findB_ok {σ : Sig} {b : Nat} {k v : V} : ∀ {l : List (V × V)} {es : List MapEntry}, findB b l (es.map (·.born)) = some (k, v) → VRs σ (l.map (·.1)) (es.map (·.key)) → VRs σ (l.map (·.2)) (es.map (·.val)) →
    ∃ e, es.find? (fun e => e.born == b) = some e ∧ VR σ k e.key ∧ VR σ v e.val
  | [], es, h, _, _ => by cases es <;> simp [findB] at h
  | p :: l, [], _, h, _ => by simp [VRs] at h
  | (k', v') :: l, e :: es, h, h1, h2 => by
    rw [List.map_cons, findB] at h
    cases hc : Nat.beq e.born b with
    | true =>
      rw [hc] at h
      simp only [cond_true, Option.some.injEq, Prod.mk.injEq] at h
      obtain ⟨rfl, rfl⟩ := h
      have := Nat.eq_of_beq_eq_true hc
      exact ⟨e, by simp [this], h1.1, h2.1⟩
    | false =>
      rw [hc] at h
      have : e.born ≠ b := fun e' => by rw [beqT e'] at hc; cases hc
      obtain ⟨e', a1, a2, a3⟩ := findB_ok h h1.2 h2.2
      exact ⟨e', by rw [List.find?_cons_of_neg (by simpa using this)]; exact a1, a2, a3⟩
section
variable {P : Program} {w0 w : World} {G nx : Nat} {σ : Sig} {H : PT O} {TT : PT TD}
theorem entryE_ok (h : HR w0 G σ H nx w) {x v : V} {u : Value} (ha : entryE H x = some v) (hx : VR σ x u) : ∃ r, VR σ v r ∧ (Instr.entry u).run P w = .ok r w := by
  unfold entryE at ha
  split at ha
  · rename_i n o
    cases hc : Nat.beq o 0 with
    | false => rw [hc] at ha; cases ha
    | true =>
      rw [hc] at ha
      simp only [cond_true] at ha
      have ho := Nat.eq_of_beq_eq_true hc
      subst ho
      split at ha
      · rename_i m since seen last hn
        split at ha
        · rename_i b l bs ck hb hm
          cases hck : Nat.beq ck last with
          | false => rw [hck] at ha; cases ha
          | true =>
            rw [hck] at ha
            simp only [cond_true] at ha
            have hck := Nat.eq_of_beq_eq_true hck
            split at ha
            · rename_i k y hf
              simp only [Option.some.injEq] at ha
              subst ha
              obtain ⟨q, ob, rfl, hq, hob, h0, r, rfl, qm, hqm, rfl⟩ := h.iter hn hx
              obtain ⟨qm', obm, hqm', hobm, es, rfl, e1, e2, e3⟩ := h.obj m _ hm
              rw [hqm] at hqm'
              simp only [Option.some.injEq] at hqm'
              subst hqm'
              have hget := run_getObj (P := P) hob (fun _ _ _ e => by cases e)
              have hgm := run_getObj (P := P) hobm (fun _ _ _ e => by cases e)
              rw [← e1] at hf
              obtain ⟨e, f1, f2, f3⟩ := findB_ok hf e2 e3
              refine ⟨.tuple #[e.key, e.val], ⟨f2, f3, trivial⟩, ?_⟩
              have hback : seen.toArray.back? = some b := by rw [lastN_eq] at hb; simpa using hb
              have hfind : es.find? (fun e => e.born == b) = some e := by rw [← Array.find?_toList]; exact f1
              simp only [Instr.entry, h0, Sem.run_bind, hget, Result.andThen_ok, hback, hgm]
              simp [hck, hfind]
            · cases ha
        · cases ha
      · cases ha
  · cases ha
end
/-- Functions without a body that the reckoner knows. -/
inductive XK where
  | idxByte
  | cntByte
  | mkNoZero (t : Nat)
def XK.row : XK → Array TypeId → Array Value → Sem Value
  | .idxByte, _ => Extern.BytealgIndexByte.indexByte
  | .cntByte, _ => Extern.BytealgCount.count
  | .mkNoZero t, ps => Extern.BytealgMakeNoZero.makeNoZero ps #[t]
def XTok (P : Program) (XT : PT XK) : Prop := ∀ f k, XT.get f = some k → ∃ fn ps, P.funcs[f]? = some fn ∧ (fn.name == "runtime.NumGoroutine") = false ∧ fn.body.isNone = true ∧ Extern.findNext fn = none ∧ Extern.find fn = some (k.row ps)
/-- A function without a body. -/
def extE (TT : PT TD) (G : Nat) (k : XK) (args : List V) (H : PT O) (nx : Nat) : Option (V × PT O × Nat) :=
  match k, args with
  | .idxByte, [.s l x, .i .u8 (.ofNat c)] => some (vint .i64 (Lib.indexByte (bytesOf l x) c.toUInt8), H, nx)
  | .cntByte, [.s l x, .i .u8 (.ofNat c)] => some (vi64 (Lib.countByte (bytesOf l x) c.toUInt8), H, nx)
  | .mkNoZero t, [.i .i64 (.ofNat n)] => match TT.get t with
    | some d => match sliceD d.d with
      | some e => cond (Nat.ble n 1073741824 && Nat.ble G nx) (nforce n fun n => nforce (nx + 1) fun n1 => some (.slu nx 0 n 1, oput H nx (.row e n .leaf 0 false), n1)) none
      | none => none
    | none => none
  | _, _ => none
section
variable {P : Program} {w0 w : World} {G nx : Nat} {σ : Sig} {H : PT O} {TT : PT TD}
theorem extE_ok (hT : TTok P TT) (h : HR w0 G σ H nx w) {k : XK} {ps : Array TypeId} {args : List V} {us : Array Value} {v : V} {H' : PT O} {nx' : Nat} (ha : extE TT G k args H nx = some (v, H', nx')) (hx : VRs σ args us.toList) :
    ∃ σ' u w', σ.le σ' ∧ HR w0 G σ' H' nx' w' ∧ VR σ' v u ∧ (k.row ps us).run P w = .ok u w' := by
  unfold extE at ha
  split at ha
  · simp only [vint_eq, Option.some.injEq, Prod.mk.injEq] at ha
    obtain ⟨rfl, rfl, rfl⟩ := ha
    obtain ⟨u1, r1, e1, k1, k2⟩ := VRs_cons hx
    obtain ⟨u2, r2, rfl, k3, k4⟩ := VRs_cons k2
    obtain rfl := VRs_nil k4
    obtain ⟨rfl, _⟩ := VR_s k1
    obtain rfl := VR_i k3
    rename_i l x c _
    rw [arr_of_toList e1]
    have r := Lib.run_indexByteString (P := P) (bstr l x) (Int.ofNat c) w
    rw [bstr_list] at r
    exact ⟨σ, .int .i64 (Lib.indexByte (bytesOf l x) c.toUInt8), w, Sig.le_refl σ, h, ⟨rfl, rfl⟩, r⟩
  · simp only [vi64_eq, Option.some.injEq, Prod.mk.injEq] at ha
    obtain ⟨rfl, rfl, rfl⟩ := ha
    obtain ⟨u1, r1, e1, k1, k2⟩ := VRs_cons hx
    obtain ⟨u2, r2, rfl, k3, k4⟩ := VRs_cons k2
    obtain rfl := VRs_nil k4
    obtain ⟨rfl, _⟩ := VR_s k1
    obtain rfl := VR_i k3
    rename_i l x c _
    rw [arr_of_toList e1]
    have r := Lib.run_countString (P := P) (bstr l x) (Int.ofNat c) w
    rw [bstr_list] at r
    exact ⟨σ, .int .i64 (Lib.countByte (bytesOf l x) c.toUInt8), w, Sig.le_refl σ, h, ⟨rfl, rfl⟩, r⟩
  · rename_i t n
    split at ha
    · rename_i d hd
      split at ha
      · rename_i e he
        cases hc : (Nat.ble n 1073741824 && Nat.ble G nx) with
        | false => rw [hc] at ha; cases ha
        | true =>
          rw [hc] at ha
          simp only [cond_true, nforce_eq, oput_eq, Option.some.injEq, Prod.mk.injEq] at ha
          obtain ⟨rfl, rfl, rfl⟩ := ha
          simp only [Bool.and_eq_true] at hc
          have c1 := Nat.le_of_ble_eq_true hc.1
          have c2 := Nat.le_of_ble_eq_true hc.2
          obtain ⟨u1, r1, e1, k1, k2⟩ := VRs_cons hx
          obtain rfl := VRs_nil k2
          obtain rfl := VR_i k1
          rw [arr_of_toList e1]
          have ht : P.underlying t = some (.slice e) := by rw [(hT t d hd).1, sliceD_eq he]
          obtain ⟨cs, r1, r2, _⟩ := Lib.run_makeNoZero (P := P) w ps t e ht n (by omega)
          have hle := Sig.le_ext (q := ⟨w.heap.size, 0, cs.size⟩) (h.dom nx (Nat.le_refl _))
          have hm := h.drew.drew.make (o := .row e n .leaf 0 false) (ob := .cells cs e) (q := ⟨w.heap.size, 0, cs.size⟩) c2 rfl
            ⟨cs, 0, 0, rfl, ⟨rfl, by simp⟩, r2, fun j _ _ hh => by omega, fun j v hj => by cases hj⟩
          refine ⟨_, _, _, hle, hm, ?_, r1⟩
          simp only [VR]
          refine ⟨?_, trivial, r2, _, by unfold Sig.ext; rw [if_pos rfl], by simp⟩
          unfold addrOf Sig.ext
          rw [if_pos rfl]; simp
      · cases ha
    · cases ha
  · cases ha
/-- The function behind a method of an interface's value. -/
def ptrD : TypeDesc → Bool
  | .pointer _ => true
  | _ => false
def methE (TT : PT TD) (t : TypeId) (name : String) : Option Nat :=
  match TT.get t with
  | some d => match d.i.methods.find? (·.name == name) with
    | some m => match m.path.toList, m.func with
      | [], some (f, p) => cond (p == ptrD d.d) (some f) none
      | _, _ => none
    | none => none
  | none => none
theorem ptrD_true {d : TypeDesc} (h : ptrD d = true) : ∃ e, d = .pointer e := by
  cases d <;> simp [ptrD] at h
  exact ⟨_, rfl⟩
theorem methE_ok (hT : TTok P TT) {t f : TypeId} {name : String} (h : methE TT t name = some f) (v : Value) (w : World) (fuel : Nat) : (method (fuel + 1) t v name).run P w = .ok (f, v) w := by
  unfold methE at h
  cases hd : TT.get t with
  | none => rw [hd] at h; cases h
  | some d =>
    rw [hd] at h
    obtain ⟨hu, hi⟩ := hT t d hd
    simp only at h
    cases hm : d.i.methods.find? (·.name == name) with
    | none => rw [hm] at h; cases h
    | some m =>
      rw [hm] at h
      simp only at h
      split at h
      · rename_i f' p hp hf
        cases hc : (p == ptrD d.d) with
        | false => rw [hc] at h; cases h
        | true =>
          rw [hc] at h
          simp only [cond_true, Option.some.injEq] at h
          subst h
          have hc := beq_iff_eq.1 hc
          have hpath : m.path = #[] := by rw [← Array.toList_eq_nil_iff]; exact hp
          unfold method
          simp only [Sem.run_bind, run_tinfo hi, Result.andThen_ok, hm, hp, follow, Sem.run_pure, hf, receiverAt, run_underlying hu]
          subst hc
          cases hpd : ptrD d.d with
          | true =>
            obtain ⟨e, he⟩ := ptrD_true hpd
            rw [he]
            rfl
          | false =>
            generalize d.d = dd at hpd
            cases dd <;> first | (simp [ptrD] at hpd; done) | rfl
      · cases h
end
end
end Go.Proofs.YtafhmagifoapfaaGreatDoor
namespace Go.Proofs.YtafhmagifoapfaaGreatDoor
open Go.RowKit
noncomputable section
def isIntD (d : TypeDesc) : Bool := match intD d with
  | some _ => true
  | none => false
theorem isIntD_eq {d : TypeDesc} (h : isIntD d = true) : ∃ k, d = .int k := by
  cases d <;> simp [isIntD, intD] at h
  exact ⟨_, rfl⟩
theorem zeroCells_made (z : Array Value) (n : Nat) : Builtin.zeroCells z n = madeCells z (n * z.size) := rfl
def appendZE (TT : PT TD) (G : Nat) (t u : TypeId) (x y : V) (H : PT O) (nx : Nat) : Option (V × PT O × Nat) :=
  match TT.get t, TT.get u with
  | some d, some du => match sliceD d.d with
    | some e => match TT.get e, zeroE TT e, lenV x, y with
      | some te, some z, some sl, .i _ (.ofNat n) =>
        cond (isIntD du.d && Nat.beq (cellsV z).length te.i.size && Nat.ble G nx && Nat.ble ((sl + n) * te.i.bytes) 140737488355328 && Nat.ble (sl + n) 140737488355328 && Nat.blt 0 (cellsV z).length)
          (match srcCells H te.i.size sl x with
          | some olds => appendG G e te.i.size x sl n olds (zerosE (cellsV z) (n * te.i.size)) H nx
          | none => none) none
      | _, _, _, _ => none
    | none => none
  | _, _ => none
section
variable {P : Program} {w : World}
theorem wrap_small {n : Nat} (h : n ≤ 140737488355328) : IntKind.i64.wrap (n : Int) = (n : Int) := by
  rw [← wrapF_eq]
  show cond (inI64 (n : Int)) (n : Int) _ = _
  have : inI64 (n : Int) = true := by rw [inI64_iff]; omega
  rw [this]; rfl
theorem run_appz_in {t u ty e : TypeId} {i : TypeInfo} {k k' : IntKind} {z : Value} (ht : P.underlying t = some (.slice e)) (hu : P.underlying u = some (.int k')) (hi : P.info? e = some i) (hz : i.zero = some z) (hs : z.cells.size = i.size)
    {base : Option Addr} {sLen sCap n : Nat} {news : List Value} (hx : news = (Builtin.zeroCells z.cells n).toList) (hn : n ≤ 140737488355328) (hb : n * i.bytes ≤ 281474976710656) (hroom : sLen + n ≤ sCap) :
    (Builtin.append_ #[t, u] ty #[.slice base sLen sCap, .int k (Int.ofNat n)]).run P w = match base with
      | some a => ((storeCells (a.add (sLen * i.size)) news).run P w).andThen fun _ w' => .ok (.slice base (sLen + n) sCap) w'
      | none => .ok (.slice base (sLen + n) sCap) w := by
  have hw := wrap_small hn
  have h1 : ¬ ((n : Int) < 0) := by omega
  have h2 : ¬ ((281474976710656 : Int) < (n : Int) * (i.bytes : Int)) := by
    rw [← Int.natCast_mul]; omega
  have hz0 : n * i.size = 0 → news = [] := fun e => by
    rw [hx]; apply List.eq_nil_of_length_eq_zero
    rw [Array.length_toList, size_zeroCells, hs, e]
  by_cases h0 : n * i.size = 0
  · have hnil := hz0 h0
    have hze : Builtin.zeroCells z.cells n = #[] := by
      apply Array.toList_inj.1; rw [← hx, hnil]
    rw [hnil]
    cases base <;> simp [Builtin.append_, run_underlying ht, run_underlying hu, sizeOf, typeInfo, hi, asInt, asIntOf, hw, h1, h2, hroom, hze, storeCells, zeroValue, hz]
  · cases base <;> simp [Builtin.append_, run_underlying ht, run_underlying hu, sizeOf, typeInfo, zeroValue, hi, hz, asInt, asIntOf, hw, h1, h2, h0, hroom, hx]
theorem run_appz_out {t u ty e : TypeId} {i : TypeInfo} {k k' : IntKind} {z : Value} (ht : P.underlying t = some (.slice e)) (hu : P.underlying u = some (.int k')) (hi : P.info? e = some i) (hz : i.zero = some z) (hs : z.cells.size = i.size)
    {base : Option Addr} {sLen sCap n : Nat} {news olds : List Value} (hx : news = (Builtin.zeroCells z.cells n).toList) (hold : (Builtin.firstCells i.size sLen (.slice base sLen sCap)).run P w.drew = .ok olds.toArray w.drew) (hn : n ≤ 140737488355328) (hb : n * i.bytes ≤ 281474976710656)
    (hg : sCap < sLen + n) (h63 : ((sLen + n : Nat) : Int) ≤ 9223372036854775807) (hfit : Builtin.nextslicecap (sLen + n) sCap * i.bytes ≤ 281474976710656) :
    (Builtin.append_ #[t, u] ty #[.slice base sLen sCap, .int k (Int.ofNat n)]).run P w =
      .ok (.slice (some ⟨w.heap.size, 0, none⟩) (sLen + n) (grownCap w (sLen + n) sCap e))
        (w.drew.alloc (.cells (olds.toArray ++ news.toArray ++ Builtin.zeroCells z.cells (grownCap w (sLen + n) sCap e - (sLen + n))) e (0, 0))) := by
  have hw := wrap_small hn
  have h1 : ¬ ((n : Int) < 0) := by omega
  have h2 : ¬ ((281474976710656 : Int) < (n : Int) * (i.bytes : Int)) := by
    rw [← Int.natCast_mul]; omega
  have hn' : ¬ (sLen + n ≤ sCap) := by omega
  have h63' : ¬ (9223372036854775807 < ((sLen : Int) + (n : Int))) := by omega
  have h48' : ¬ (281474976710656 < Builtin.nextslicecap (sLen + n) sCap * i.bytes) := by omega
  have hz0 : n * i.size = 0 → news = [] := fun e => by
    rw [hx]; apply List.eq_nil_of_length_eq_zero
    rw [Array.length_toList, size_zeroCells, hs, e]
  by_cases h0 : n * i.size = 0
  · have hnil := hz0 h0
    have hze : Builtin.zeroCells z.cells n = #[] := by
      apply Array.toList_inj.1; rw [← hx, hnil]
    rw [hnil]
    simp [Builtin.append_, run_underlying ht, run_underlying hu, sizeOf, typeInfo, zeroValue, hi, hz, asInt, asIntOf, hw, h1, h2, hn', h63', h48', Question.forced, hold, newRow, grownCap, hze]
  · simp [Builtin.append_, run_underlying ht, run_underlying hu, sizeOf, typeInfo, zeroValue, hi, hz, asInt, asIntOf, hw, h1, h2, h0, hn', h63', h48', Question.forced, hold, newRow, grownCap, hx]
end
section
variable {P : Program} {w0 w : World} {G nx : Nat} {σ : Sig} {H : PT O} {TT : PT TD}
theorem appendZE_ok (hT : TTok P TT) (h : HR w0 G σ H nx w) {t u ty : TypeId} {x y v : V} {xu yu : Value} {H' : PT O} {nx' : Nat} (ha : appendZE TT G t u x y H nx = some (v, H', nx')) (hx : VR σ x xu) (hy : VR σ y yu) :
    ∃ σ' r w', σ.le σ' ∧ HR w0 G σ' H' nx' w' ∧ VR σ' v r ∧ (Builtin.append_ #[t, u] ty #[xu, yu]).run P w = .ok r w' := by
  unfold appendZE at ha
  split at ha
  · rename_i d du hd hdu
    cases hsd : sliceD d.d with
    | none => rw [hsd] at ha; cases ha
    | some e =>
      rw [hsd] at ha
      simp only at ha
      split at ha
      · rename_i te z sl ky n hte hz hsl
        cases hcc : (isIntD du.d && Nat.beq (cellsV z).length te.i.size && Nat.ble G nx && Nat.ble ((sl + n) * te.i.bytes) 140737488355328 && Nat.ble (sl + n) 140737488355328 && Nat.blt 0 (cellsV z).length) with
        | false => rw [hcc] at ha; cases ha
        | true =>
          rw [hcc] at ha
          simp only [cond_true] at ha
          simp only [Bool.and_eq_true] at hcc
          obtain ⟨⟨⟨⟨⟨c1, c2⟩, c3⟩, c4⟩, c5⟩, c6⟩ := hcc
          have c6 : 0 < (cellsV z).length := Nat.le_of_ble_eq_true c6
          obtain ⟨ku, c1⟩ := isIntD_eq c1
          obtain rfl := VR_i hy
          have c2 := Nat.eq_of_beq_eq_true c2
          have c3 := Nat.le_of_ble_eq_true c3
          have c4 := Nat.le_of_ble_eq_true c4
          have c5 := Nat.le_of_ble_eq_true c5
          split at ha
          · rename_i lo hlo
            obtain ⟨ln, hln⟩ : ∃ ln, ln = zerosE (cellsV z) (n * te.i.size) := ⟨_, rfl⟩
            rw [← hln] at ha
            obtain ⟨i, zu, hi, hzz, hzv⟩ := zeroE_zero hT hz
            have hti : te.i = i := by have := (hT e te hte).2; rw [hi] at this; simpa using this.symm
            subst hti
            have ht : P.underlying t = some (.slice e) := (hT t d hd).1.trans (congrArg some (sliceD_eq hsd))
            have hu : P.underlying u = some (.int ku) := by rw [(hT u du hdu).1, c1]
            obtain ⟨olds, o1, o2, o3, o4⟩ := srcCells_ok (P := P) h hlo hx
            have hzs0 : zu.cells.size = te.i.size := by
              have := VRs_length (cellsV_ok (hzv σ))
              rw [← c2, ← Array.length_toList, this]
            obtain ⟨news, hnews⟩ : ∃ l, l = (Builtin.zeroCells zu.cells n).toList := ⟨_, rfl⟩
            have n1 : news.length = n * te.i.size := by rw [hnews, Array.length_toList, size_zeroCells, hzs0]
            have n2 : VRs σ ln news := by
              rw [hln, hnews]
              have := zerosE_ok (n := n * te.i.size) (cellsV_ok (hzv σ)) (.inr c6)
              rw [zeroCells_made, hzs0]; exact this
            have c7 : n * te.i.bytes ≤ 140737488355328 := by
              refine Nat.le_trans (Nat.mul_le_mul_right _ (Nat.le_add_left n sl)) c4
            have l1 := VRs_length o2
            have l2 := VRs_length n2
            have hzs : zu.cells.size = te.i.size := by
              have := VRs_length (cellsV_ok (hzv σ))
              rw [← c2, ← Array.length_toList, this]
            -- a new row
            have hnew : ∀ {base : Option Addr} {sCap : Nat} {H1 : PT O} , HR w0 G σ H1 nx w → xu = .slice base sl sCap → sCap < sl + n → (v, H', nx') = grownV e te.i.size (sl + n) lo ln H1 nx →
                ∃ σ' r w', σ.le σ' ∧ HR w0 G σ' H' nx' w' ∧ VR σ' v r ∧ (Builtin.append_ #[t, u] ty #[xu, .int ky (Int.ofNat n)]).run P w = .ok r w' := fun {base sCap H1} h1 ex hg ev => by
              subst ex
              have hge := grownCap_ge w (sl + n) sCap e
              have hr := run_appz_out (P := P) (ty := ty) (k := ky) ht hu hi hzz hzs0 hnews o4 (by omega) (by omega) hg (by omega) (growslice_fits hg c4)
              have hgr := grow_ok h1 c3 (e := e) (zs := Builtin.zeroCells zu.cells (grownCap w (sl + n) sCap e - (sl + n))) o2 n2
              unfold grownV at ev
              rw [nforce_eq] at ev
              simp only [Prod.mk.injEq] at ev
              obtain ⟨rfl, ev⟩ := ev
              have e1 : H' = (growE e lo ln H1 nx).1 := by rw [← ev]
              have e2 : nx' = (growE e lo ln H1 nx).2 := by rw [← ev]
              rw [← e1, ← e2] at hgr
              refine ⟨_, _, _, Sig.le_ext (h.dom nx (Nat.le_refl _)), hgr, ?_, hr⟩
              simp only [VR]
              refine ⟨?_, trivial, hge, _, by unfold Sig.ext; rw [if_pos rfl], ?_⟩
              · unfold addrOf Sig.ext; rw [if_pos rfl]; simp
              · simp only [size_zeroCells, hzs, ← l1, ← l2, o1, n1, Nat.zero_add]
                rw [← Nat.add_mul, ← Nat.add_mul]
                congr 1; omega
            unfold appendG at ha
            split at ha
            · -- nothing yet
              cases xu with
              | slice a l c =>
                cases a with
                | some a => simp [VR] at hx
                | none =>
                  cases l with
                  | succ _ => simp [VR] at hx
                  | zero =>
                    cases c with
                    | succ _ => simp [VR] at hx
                    | zero =>
                      simp only [lenV, Option.some.injEq] at hsl
                      subst hsl
                      cases hb : Nat.beq n 0 with
                      | true =>
                        rw [hb] at ha
                        simp only [cond_true, Option.some.injEq, Prod.mk.injEq] at ha
                        obtain ⟨rfl, rfl, rfl⟩ := ha
                        have hn0 := Nat.eq_of_beq_eq_true hb
                        subst hn0
                        exact ⟨σ, .slice none 0 0, w, Sig.le_refl σ, h, trivial, run_appz_in (P := P) (ty := ty) (k := ky) ht hu hi hzz hzs0 hnews (by omega) (by omega) (Nat.le_refl _)⟩
                      | false =>
                        rw [hb] at ha
                        simp only [cond_false, Option.some.injEq] at ha
                        have hn0 : n ≠ 0 := fun e => by rw [beqT e] at hb; cases hb
                        exact hnew h rfl (by omega) ha.symm
              | _ => simp [VR] at hx
            · cases hb : Nat.beq n 0 with
              | false => rw [hb] at ha; cases ha
              | true =>
                rw [hb] at ha
                simp only [cond_true, Option.some.injEq, Prod.mk.injEq] at ha
                obtain ⟨rfl, rfl, rfl⟩ := ha
                have hn0 := Nat.eq_of_beq_eq_true hb
                subst hn0
                have hnil : news = [] := List.eq_nil_of_length_eq_zero (by rw [n1, Nat.zero_mul])
                simp only [lenV, Option.some.injEq] at hsl
                subst hsl
                obtain ⟨a, c, rfl⟩ := VR_sz hx
                refine ⟨σ, .slice (some a) 0 c, w, Sig.le_refl σ, h, hx, ?_⟩
                rw [run_appz_in (P := P) (ty := ty) (k := ky) ht hu hi hzz hzs0 hnews (by omega) (by omega) (by omega), hnil]
                rfl
            · rename_i m o len cap
              cases xu with
              | slice a l c =>
                cases a with
                | none => simp [VR] at hx
                | some a =>
                  simp only [VR] at hx
                  obtain ⟨haa, rfl, rfl, hlc⟩ := hx
                  simp only [lenV, Option.some.injEq] at hsl
                  subst hsl
                  cases hb : Nat.ble (len + n) cap with
                  | false =>
                    rw [hb] at ha
                    simp only [cond_false, Option.some.injEq] at ha
                    have : ¬ (len + n ≤ cap) := fun e => by rw [Nat.ble_eq_true_of_le e] at hb; cases hb
                    exact hnew h rfl (by omega) ha.symm
                  | true =>
                    rw [hb] at ha
                    have hb := Nat.le_of_ble_eq_true hb
                    simp only [cond_true] at ha
                    split at ha
                    · rename_i rt k cs fz hm
                      cases hc : (Nat.ble G m && Nat.ble (o + len * te.i.size + ln.length) k && Nat.ble fz (o + len * te.i.size) && allC ln) with
                      | false => rw [hc] at ha; cases ha
                      | true =>
                        rw [hc] at ha
                        simp only [cond_true, PT.force_eq, vsl_eq, Option.some.injEq, Prod.mk.injEq] at ha
                        obtain ⟨rfl, rfl, rfl⟩ := ha
                        simp only [Bool.and_eq_true] at hc
                        obtain ⟨⟨⟨d1, d2⟩, d3⟩, d4⟩ := hc
                        have d1 := Nat.le_of_ble_eq_true d1
                        have d2 := Nat.le_of_ble_eq_true d2
                        have d3 := Nat.le_of_ble_eq_true d3
                        have hadd := addrOf_add (i := len * te.i.size) haa
                        obtain ⟨w', r1, r2⟩ := storeCells_ok (P := P) d1 ln news cs H (o + len * te.i.size) 0 (a.add (len * te.i.size)) w h hm d4 n2 d2 d3 (by rw [hadd]; rfl) (fun j => by rw [Nat.zero_add]; exact addrOf_add hadd)
                        refine ⟨σ, .slice (some a) (len + n) cap, w', Sig.le_refl σ, r2, by simp only [VR]; exact ⟨haa, trivial, trivial, hb⟩, ?_⟩
                        rw [run_appz_in (P := P) (ty := ty) (k := ky) ht hu hi hzz hzs0 hnews (by omega) (by omega) hb]
                        simp only [r1, Result.andThen_ok]
                    · cases ha
              | _ => simp [VR] at hx
            · rename_i m o len es
              have hx0 := hx
              cases xu with
              | slice a l c =>
                cases a with
                | none => simp [VR] at hx
                | some a =>
                  simp only [VR] at hx
                  obtain ⟨haa, rfl, hlc, q, hq, hqt⟩ := hx
                  simp only [lenV, Option.some.injEq] at hsl
                  subst hsl
                  cases hb : Nat.beq n 0 with
                  | true =>
                    rw [hb] at ha
                    simp only [cond_true, Option.some.injEq, Prod.mk.injEq] at ha
                    obtain ⟨rfl, rfl, rfl⟩ := ha
                    have hn0 := Nat.eq_of_beq_eq_true hb
                    subst hn0
                    have hnil : news = [] := List.eq_nil_of_length_eq_zero (by rw [n1, Nat.zero_mul])
                    refine ⟨σ, .slice (some a) len c, w, Sig.le_refl σ, h, hx0, ?_⟩
                    rw [run_appz_in (P := P) (ty := ty) (k := ky) ht hu hi hzz hzs0 hnews (by omega) (by omega) (by omega), hnil]
                    rfl
                  | false =>
                    rw [hb] at ha
                    simp only [cond_false] at ha
                    have hn0 : n ≠ 0 := fun e => by rw [beqT e] at hb; cases hb
                    split at ha
                    · rename_i rt k cs fz hm
                      cases hc : (Nat.ble G m && Nat.beq rt e && Nat.beq es te.i.size && Nat.ble fz o && allC ln && Nat.beq o 0) with
                      | false => rw [hc] at ha; cases ha
                      | true =>
                        rw [hc] at ha
                        simp only [cond_true, PT.force_eq, Option.some.injEq] at ha
                        simp only [Bool.and_eq_true] at hc
                        obtain ⟨⟨⟨⟨⟨d1, d2⟩, d3⟩, d4⟩, d5⟩, d6⟩ := hc
                        have d6 := Nat.eq_of_beq_eq_true d6
                        have d1 := Nat.le_of_ble_eq_true d1
                        have d2 := Nat.eq_of_beq_eq_true d2
                        have d3 := Nat.eq_of_beq_eq_true d3
                        have d4 := Nat.le_of_ble_eq_true d4
                        subst d2
                        by_cases hroom : len + n ≤ c
                        · have hlo' : cellsG cs (len * te.i.size) o = some lo := by
                            simp only [srcCells, hm] at hlo
                            cases hble : Nat.ble len len with
                            | false => rw [hble] at hlo; cases hlo
                            | true => rw [hble] at hlo; exact hlo
                          have hmul : (len + n) * te.i.size ≤ c * te.i.size := Nat.mul_le_mul_right _ hroom
                          rw [Nat.add_mul] at hmul
                          rw [d3] at hqt
                          obtain ⟨w', r0, r1, r2⟩ := own_ok (P := P) h c3 d1 hm hq haa hlo' n2 d5 d6 d4 (by omega)
                          unfold grownV at ha
                          rw [nforce_eq] at ha
                          simp only [Prod.mk.injEq] at ha
                          obtain ⟨rfl, ev⟩ := ha
                          have e1 : H' = (growE rt lo ln (H.del m) nx).1 := by rw [ev]
                          have e2 : nx' = (growE rt lo ln (H.del m) nx).2 := by rw [ev]
                          rw [← e1, ← e2] at r2
                          refine ⟨_, .slice (some a) (len + n) c, w', r0, r2, ?_, ?_⟩
                          · simp only [VR]
                            refine ⟨?_, trivial, hroom, _, by unfold Sig.ext; rw [if_pos rfl], by simp only; omega⟩
                            unfold addrOf at haa ⊢
                            rw [hq] at haa
                            simp only [Option.map_some, Option.some.injEq] at haa
                            subst haa
                            unfold Sig.ext
                            rw [if_pos rfl]; simp
                          · rw [run_appz_in (P := P) (ty := ty) (k := ky) ht hu hi hzz hzs0 hnews (by omega) (by omega) hroom]
                            simp only [r1, Result.andThen_ok]
                        · exact hnew (h.del m) rfl (by omega) ha.symm
                    · cases ha
              | _ => simp [VR] at hx
            · cases ha
          · cases ha
      · cases ha
  · cases ha
end
end
end Go.Proofs.YtafhmagifoapfaaGreatDoor
namespace Go.Proofs.YtafhmagifoapfaaGreatDoor
open Go.RowKit
noncomputable section
/-- What an operation comes to. -/
inductive OpX where
  | val (v : V) (H : PT O) (nx : Nat)
  | skip (H : PT O) (nx : Nat)
  | call (f : Nat) (args : List V)
  | yld (n : Nat) (args : List V)
  | pan (v : V)
  | dfr (g : Nat) (args : List V)
def vx : Option (V × PT O × Nat) → Option OpX
  | some (v, H, nx) => some (.val v H nx)
  | none => none
/-- A slice of bytes turned into its own type: its row is marked. -/
def markE (TT : PT TD) (G : Nat) (src dst : TypeId) (x : V) (H : PT O) : Bool :=
  match TT.get src with
  | some s => match sliceD s.d with
    | some e => Nat.beq src dst && u8D TT e && (match baseV x with
      | some (n, _, _) => match H.get n with
        | some (.row _ _ _ fz _) => Nat.beq fz 0 && Nat.ble G n
        | _ => false
      | none => false)
    | none => false
  | none => false
section
variable {P : Program} {w0 w : World} {G nx : Nat} {σ : Sig} {H : PT O} {TT : PT TD}
theorem freeze_put {b off n : Nat} {arr : Array Value} {t : TypeId} {lo hi : Nat} (h : w.heap[b]? = some (.cells arr t (lo, hi))) (hn : n ≠ 0) :
    w.freeze { block := b, off := off } n = putObj w b (.cells arr t (if lo == hi then (off, off + n) else (min lo off, max hi (off + n)))) := by
  unfold World.freeze putObj
  rw [if_neg hn]
  congr 1
  apply Array.ext_getElem?
  intro i
  rw [Array.getElem?_modify]
  by_cases e : i = b
  · subst e
    obtain ⟨hlt, hge⟩ := Array.getElem?_eq_some_iff.1 h
    simp [hlt, hge]
  · have e' : ¬ b = i := fun h => e h.symm
    simp [e']
theorem markE_ok (hT : TTok P TT) (h : HR w0 G σ H nx w) {src dst : TypeId} {x : V} {u : Value} (ha : markE TT G src dst x H = true) (hx : VR σ x u) : ∃ w', HR w0 G σ H nx w' ∧ (convert src dst u).run P w = .ok u w' := by
  unfold markE at ha
  cases hs : TT.get src with
  | none => rw [hs] at ha; cases ha
  | some s =>
    rw [hs] at ha
    simp only at ha
    cases hsl : sliceD s.d with
    | none => rw [hsl] at ha; cases ha
    | some e =>
      rw [hsl] at ha
      simp only [Bool.and_eq_true] at ha
      obtain ⟨⟨h1, h2⟩, h3⟩ := ha
      have h1 := Nat.eq_of_beq_eq_true h1
      subst h1
      have hu8 := u8D_ok hT h2
      have ht : P.underlying src = some (.slice e) := by rw [(hT src s hs).1, sliceD_eq hsl]
      split at h3
      · rename_i n o len hb
        obtain ⟨a, c, rfl, haa⟩ := baseV_ok hb hx
        split at h3
        · rename_i t k cs fz ro hn
          simp only [Bool.and_eq_true] at h3
          have hf := Nat.eq_of_beq_eq_true h3.1
          have hG := Nat.le_of_ble_eq_true h3.2
          subst hf
          obtain ⟨q, ob, hq, hob, arr, lo, hi, rfl, a1, a2, a3, a4⟩ := h.obj n _ hn
          unfold addrOf at haa
          rw [hq] at haa
          simp only [Option.map_some, Option.some.injEq] at haa
          subst haa
          have hfr := freeze_put (w := w) (off := arr.size) (n := 1) hob (by decide)
          obtain ⟨l2, h2', hpair, p1, p2⟩ : ∃ l2 h2, (if lo == hi then (arr.size, arr.size + 1) else (min lo arr.size, max hi (arr.size + 1))) = (l2, h2) ∧ l2 ≤ h2 ∧ ∀ j, j < q.tot → ¬ (l2 ≤ q.off + j ∧ q.off + j < h2) := by
            by_cases e : lo = hi
            · refine ⟨arr.size, arr.size + 1, by simp [e], by omega, fun j hj hh => by omega⟩
            · refine ⟨min lo arr.size, max hi (arr.size + 1), by simp [e], by omega, fun j hj hh => ?_⟩
              have := a3 (lo - q.off)
              omega
          rw [hpair] at hfr
          have hput := h.put (x' := .row t k cs 0 ro) (ob' := .cells arr t (l2, h2')) hG hn hq hob
            ⟨arr, l2, h2', rfl, ⟨a1.1, a1.2.1, p1⟩, a2, fun j _ hj => p2 j hj, a4⟩
          have hsame : ∀ m, H.get m = (H.set (.row t k cs 0 ro) n).get m := fun m => by
            rw [PT.get_set]; split
            · rename_i e; subst e; exact hn
            · rfl
          refine ⟨putObj w q.blk (.cells arr t (l2, h2')), hput.same hsame, ?_⟩
          rw [← hfr]
          have hshape : w.shape? q.blk = some (t, arr.size) := by simp [World.shape?, hob]
          simp [convert, run_underlying ht, run_underlying hu8, markStringish, shape, freeze, Sem.run, hshape]
        · cases h3
      · cases h3
end
/-- What stands in for a program's functions. -/
structure Fns where
  FT : PT Func
  XT : PT XK
structure FnsOk (P : Program) (Z : Fns) : Prop where
  ft : ∀ f fn, Z.FT.get f = some fn → P.funcs[f]? = some fn ∧ (fn.name == "runtime.NumGoroutine") = false ∧ fn.body.isSome = true
  xt : XTok P Z.XT
def callX (E : Env) (Z : Fns) (f : Nat) (args : List V) (H : PT O) (nx : Nat) : Option OpX :=
  match Z.FT.get f with
  | some _ => some (.call f args)
  | none => match Z.XT.get f with
    | some k => vx (extE E.TT E.G k args H nx)
    | none => none
/-- An operation that makes or turns memory, or calls. -/
def eve (E : Env) (Z : Fns) (o : Oper) (T : PT V) (H : PT O) (nx : Nat) : Option OpX :=
  match o.op with
  | .alloc t => vx (allocE E.TT E.G t H nx)
  | .box t x => match evG E.G T x with
    | some v => vx (boxE E.G t v H nx)
    | none => none
  | .buildSlice t len parts => match evPs E.G T parts.toList with
    | some ps => vx (buildSliceE E.TT E.G t len ps H nx)
    | none => none
  | .insert t m k x => match evG E.G T m, evG E.G T k, evG E.G T x with
    | some m, some k, some x => match mapSet E.TT E.G t H m k x with
      | some H => some (.skip H nx)
      | none => none
    | _, _, _ => none
  | .mapUpdate t m k x => match evG E.G T m, evG E.G T k, evG E.G T x with
    | some m, some k, some x => match mapSet E.TT E.G t H m k x with
      | some H => some (.skip H nx)
      | none => none
    | _, _, _ => none
  | .store t p x => match evG E.G T p, evG E.G T x with
    | some (.p n o), some v => match storeE E.TT E.G H t n o v with
      | some H => some (.skip H nx)
      | none => none
    | _, _ => none
  | .makeMap t r => match r with
    | none => vx (makeMapE E.G H nx)
    | some x => match evG E.G T x, E.TT.get t with
      | some (.i _ _), some d => match mapD d.d with
        | some _ => vx (makeMapE E.G H nx)
        | none => none
      | _, _ => none
  | .makeSlice t l c => match evG E.G T l, evG E.G T c with
    | some l, some c => vx (makeSliceE E.TT E.G t l c H nx)
    | _, _ => none
  | .convert s d x => match evG E.G T x with
    | some (.s len y) => vx (toBytesE E.TT E.G s d len y H nx)
    | some v => cond (markE E.TT E.G s d v H) (some (.val v H nx)) none
    | none => none
  | .range t x => match evG E.G T x with
    | some v => vx (rangeE E.TT E.G t v H nx)
    | none => none
  | .next it isS => match evG E.G T it with
    | some v => match nextE E.G isS v H with
      | some (r, H) => some (.val r H nx)
      | none => none
    | none => none
  | .entry it => match evG E.G T it with
    | some v => match entryE H v with
      | some r => some (.val r H nx)
      | none => none
    | none => none
  | .panic x => match evG E.G T x with
    | some (.ifc t v) => some (.pan (.ifc t v))
    | _ => none
  | .defer c => match c.callee with
    | .value g => match evG E.G T g, evL E.G T c.args.toList with
      | some (.f f first caps), some args => some (.dfr f (first ++ args ++ caps))
      | _, _ => none
    | _ => none
  | .call c => match c.callee with
    | .builtin b => match b with
      | .append => match c.argTypes.toList, evL E.G T c.args.toList with
        | [t, u], some [x, y] => match appendE E.TT E.G t u x y H nx with
          | some (v, H, nx) => some (.val v H nx)
          | none => vx (appendZE E.TT E.G t u x y H nx)
        | _, _ => none
      | .copy => match c.argTypes.toList, evL E.G T c.args.toList with
        | [t, _], some [x, y] => match copyE E.TT E.G t x y H with
          | some (v, H) => some (.val v H nx)
          | none => none
        | _, _ => none
      | _ => none
    | .value g => match evG E.G T g, evL E.G T c.args.toList with
      | some (.f f first caps), some args => callX E Z f (first ++ args ++ caps) H nx
      | some (.y n), some args => some (.yld n args)
      | _, _ => none
    | .invoke r m => match evG E.G T r, evL E.G T c.args.toList with
      | some (.ifc t v), some args => match methE E.TT t m with
        | some f => callX E Z f (v :: args) H nx
        | none => none
      | _, _ => none
  | _ => none
/-- What such an operation says of the model's. -/
def OpXR (P : Program) (w0 : World) (G : Nat) (σ : Sig) (w : World) (run : Result Next) : OpX → Prop
  | .val v H nx => ∃ σ' u w', σ.le σ' ∧ HR w0 G σ' H nx w' ∧ VR σ' v u ∧ run = .ok (.value u) w'
  | .skip H nx => ∃ σ' w', σ.le σ' ∧ HR w0 G σ' H nx w' ∧ run = .ok .skip w'
  | .call f args => ∃ us : Array Value, VRs σ args us.toList ∧ run = .ok (.enter f us) w
  | .yld n args => ∃ (us : Array Value) (q : Spot), VRs σ args us.toList ∧ σ n = some q ∧ run = (Instr.yield q.blk us).run P w
  | .pan v => ∃ u, VR σ v u ∧ run = .halt (.panic u) w
  | .dfr g args => ∃ (a b : Array Value), VRs σ args (a ++ b).toList ∧ run = .ok (.defer { target := .fn (.func g) b, args := a }) w
section
variable {P : Program} {w0 w : World} {nx : Nat} {σ : Sig} {T : PT V} {H : PT O} {E : Env} {Z : Fns} {a : Act}
theorem vx_ok {G : Nat} {r : Option (V × PT O × Nat)} {x : OpX} {s : Sem Value} (h : vx r = some x) (hr : ∀ v H nx, r = some (v, H, nx) → ∃ σ' u w', σ.le σ' ∧ HR w0 G σ' H nx w' ∧ VR σ' v u ∧ s.run P w = .ok u w') : OpXR P w0 G σ w ((do pure (Next.value (← s)) : Sem Next).run P w) x := by
  unfold vx at h
  split at h
  · rename_i v H nx
    simp only [Option.some.injEq] at h
    subst h
    obtain ⟨σ', u, w', h1, h2, h3, h4⟩ := hr v H nx rfl
    exact ⟨σ', u, w', h1, h2, h3, run_v h4⟩
  · cases h
theorem callX_ok (hE : EnvOk P E) (hZ : FnsOk P Z) (h : HR w0 E.G σ H nx w) {f : Nat} {args : List V} {us : Array Value} {x : OpX} (ha : callX E Z f args H nx = some x) (hu : VRs σ args us.toList) : OpXR P w0 E.G σ w ((callFunc f us).run P w) x := by
  unfold callX at ha
  split at ha
  · rename_i fn hf
    simp only [Option.some.injEq] at ha
    subst ha
    obtain ⟨h1, h2, h3⟩ := hZ.ft f fn hf
    have h4 : fn.name ≠ "runtime.NumGoroutine" := by simpa using h2
    obtain ⟨c, hc⟩ := Option.isSome_iff_exists.1 h3
    exact ⟨us, hu, by simp [callFunc, h1, h4, hc]⟩
  · split at ha
    · rename_i k hk
      obtain ⟨fn, ps, h1, h2, h3, h4, h5⟩ := hZ.xt f k hk
      rw [run_callFunc_extern h1 h2 h3 h4 h5]
      unfold vx at ha
      split at ha
      · rename_i v H' nx' he
        simp only [Option.some.injEq] at ha
        subst ha
        obtain ⟨σ', u, w', k1, k2, k3, k4⟩ := extE_ok (ps := ps) hE.tt h he hu
        exact ⟨σ', u, w', k1, k2, k3, by rw [k4]; rfl⟩
      · cases ha
    · cases ha
theorem VRs_app {l m : List V} {x y : Array Value} (h1 : VRs σ l x.toList) (h2 : VRs σ m y.toList) : VRs σ (l ++ m) (x ++ y).toList := by
  rw [Array.toList_append]; exact VRs_append h1 h2
set_option maxHeartbeats 1000000 in
theorem eve_ok (hE : EnvOk P E) (hZ : FnsOk P Z) (hG : Globs σ E.G) (h : HR w0 E.G σ H nx w) (hA : AR σ T a) {o : Oper} {x : OpX} (hv : eve E Z o T H nx = some x) : OpXR P w0 E.G σ w ((execOp a.eval o).run P w) x := by
  have hT := hE.tt
  obtain ⟨dst, op, type, pos, after, guard⟩ := o
  unfold eve at hv
  unfold execOp
  cases op <;> simp only at hv ⊢
  case alloc t => exact vx_ok hv fun v H' nx' he => allocE_ok hT h he
  case box t y =>
    split at hv
    · rename_i p hy
      exact vx_ok hv fun v H' nx' he => boxE_ok h he (evG_ok hG hA hy)
    · cases hv
  case buildSlice t len parts =>
    split at hv
    · rename_i ps hp
      exact vx_ok hv fun v H' nx' he => buildSliceE_ok hT h he (evPs_arr hG hA hp)
    · cases hv
  case insert t m k y =>
    split at hv
    · rename_i vm vk vy hm hk hy
      split at hv
      · rename_i H' he
        simp only [Option.some.injEq] at hv
        subst hv
        obtain ⟨w', h1, h2⟩ := mapSet_ok hT h he (evG_ok hG hA hm) (evG_ok hG hA hk) (evG_ok hG hA hy)
        exact ⟨σ, w', Sig.le_refl σ, h1, run_u h2⟩
      · cases hv
    · cases hv
  case mapUpdate t m k y =>
    split at hv
    · rename_i vm vk vy hm hk hy
      split at hv
      · rename_i H' he
        simp only [Option.some.injEq] at hv
        subst hv
        obtain ⟨w', h1, h2⟩ := mapSet_ok hT h he (evG_ok hG hA hm) (evG_ok hG hA hk) (evG_ok hG hA hy)
        exact ⟨σ, w', Sig.le_refl σ, h1, run_u h2⟩
      · cases hv
    · cases hv
  case store t p y =>
    split at hv
    · rename_i n o v hp hy
      split at hv
      · rename_i H' he
        simp only [Option.some.injEq] at hv
        subst hv
        obtain ⟨ad, e, hp⟩ := VR_p (evG_ok hG hA hp)
        obtain ⟨w', h1, h2⟩ := storeE_ok hT h he (evG_ok hG hA hy) hp
        exact ⟨σ, w', Sig.le_refl σ, h2, by rw [e]; exact run_u (by simpa [Instr.storeAt, Instr.sureAddr] using h1)⟩
      · cases hv
    · cases hv
  case makeMap t r =>
    split at hv
    · exact vx_ok hv fun v H' nx' he => makeMapE_ok h he (.inl rfl)
    · rename_i y
      split at hv
      · rename_i k n d hy hd
        split at hv
        · rename_i p hp
          refine vx_ok hv fun v H' nx' he => makeMapE_ok h he (.inr ⟨k, n, p.1, p.2, ?_, ?_⟩)
          · rw [Option.map_some, VR_i (evG_ok hG hA hy)]
          · rw [(hT t d hd).1, mapD_eq (k := p.1) (e := p.2) hp]
        · cases hv
      · cases hv
  case makeSlice t l c =>
    split at hv
    · rename_i vl vc hl hc
      exact vx_ok hv fun v H' nx' he => makeSliceE_ok hT h he (evG_ok hG hA hl) (evG_ok hG hA hc)
    · cases hv
  case convert s d y =>
    split at hv
    · rename_i len z hy
      obtain ⟨e, _⟩ := VR_s (evG_ok hG hA hy)
      exact vx_ok hv fun v H' nx' he => by rw [e]; exact toBytesE_ok hT h he
    · rename_i v _ hy
      cases hm : markE E.TT E.G s d v H with
      | false => rw [hm] at hv; cases hv
      | true =>
        rw [hm] at hv
        simp only [cond_true, Option.some.injEq] at hv
        subst hv
        obtain ⟨w', h1, h2⟩ := markE_ok hT h hm (evG_ok hG hA hy)
        exact ⟨σ, _, w', Sig.le_refl σ, h1, evG_ok hG hA hy, run_v h2⟩
    · cases hv
  case range t y =>
    split at hv
    · rename_i v hy
      exact vx_ok hv fun v H' nx' he => rangeE_ok hT h he (evG_ok hG hA hy)
    · cases hv
  case next it isS =>
    split at hv
    · rename_i v hy
      split at hv
      · rename_i r H' he
        simp only [Option.some.injEq] at hv
        subst hv
        obtain ⟨u, w', h1, h2, h3⟩ := nextE_ok (ty := type) h he (evG_ok hG hA hy)
        exact ⟨σ, u, w', Sig.le_refl σ, h1, h2, run_v h3⟩
      · cases hv
    · cases hv
  case entry it =>
    split at hv
    · rename_i v hy
      split at hv
      · rename_i r he
        simp only [Option.some.injEq] at hv
        subst hv
        obtain ⟨u, h2, h3⟩ := entryE_ok (P := P) h he (evG_ok hG hA hy)
        exact ⟨σ, u, w, Sig.le_refl σ, h, h2, run_v h3⟩
      · cases hv
    · cases hv
  case panic y =>
    split at hv
    · rename_i t v hy
      simp only [Option.some.injEq] at hv
      subst hv
      have hu := evG_ok hG hA hy
      obtain ⟨u, e, _⟩ := VR_ifc hu
      refine ⟨_, hu, ?_⟩
      rw [e]; rfl
    · cases hv
  case defer c =>
    split at hv
    · rename_i g hcal
      split at hv
      · rename_i f first caps args hg hargs
        simp only [Option.some.injEq] at hv
        subst hv
        obtain ⟨p, q, e, h1, h2⟩ := VR_f (evG_ok hG hA hg)
        refine ⟨p ++ c.args.map a.eval, q, VRs_app (VRs_app h1 (evL_arr hG hA hargs)) h2, ?_⟩
        simp only [resolve, hcal, e, Deferred.ofValue, Sem.run_bind, Sem.run_pure, Result.andThen_ok]
      · cases hv
    · cases hv
  case call c =>
    split at hv
    · rename_i b hcal
      split at hv
      · split at hv
        · rename_i t u y z hts hargs
          obtain ⟨y', us', e1, k1, k2⟩ := VRs_cons (evL_arr hG hA hargs)
          obtain ⟨z', us'', rfl, k3, k4⟩ := VRs_cons k2
          obtain rfl := VRs_nil k4
          have e1 := arr_of_toList e1
          have key : ∀ v H' nx', (appendE E.TT E.G t u y z H nx = some (v, H', nx') ∨ appendZE E.TT E.G t u y z H nx = some (v, H', nx')) → ∃ σ' r w', σ.le σ' ∧ HR w0 E.G σ' H' nx' w' ∧ VR σ' v r ∧ (Builtin.append_ #[t, u] type #[y', z']).run P w = .ok r w' := fun v H' nx' he => by
            rcases he with he | he
            · exact appendE_ok hT h he k1 k3
            · exact appendZE_ok hT h he k1 k3
          simp only [resolve, hcal, Sem.run_bind, Sem.run_pure, Result.andThen_ok, invoke, builtin, arr_of_toList hts, e1]
          split at hv
          · rename_i v H' nx' he
            simp only [Option.some.injEq] at hv
            subst hv
            obtain ⟨σ', r, w', h1, h2, h3, h4⟩ := key v H' nx' (.inl he)
            exact ⟨σ', r, w', h1, h2, h3, by rw [h4]; rfl⟩
          · unfold vx at hv
            split at hv
            · rename_i v H' nx' he
              simp only [Option.some.injEq] at hv
              subst hv
              obtain ⟨σ', r, w', h1, h2, h3, h4⟩ := key v H' nx' (.inr he)
              exact ⟨σ', r, w', h1, h2, h3, by rw [h4]; rfl⟩
            · cases hv
        · cases hv
      · split at hv
        · rename_i t u y z hts hargs
          obtain ⟨y', us', e1, k1, k2⟩ := VRs_cons (evL_arr hG hA hargs)
          obtain ⟨z', us'', rfl, k3, k4⟩ := VRs_cons k2
          obtain rfl := VRs_nil k4
          have e1 := arr_of_toList e1
          split at hv
          · rename_i v H' he
            simp only [Option.some.injEq] at hv
            subst hv
            obtain ⟨r, w', h2, h3, h4⟩ := copyE_ok (P := P) (u := u) (ty := type) hT h he k1 k3
            refine ⟨σ, r, w', Sig.le_refl σ, h2, h3, ?_⟩
            simp only [resolve, hcal, Sem.run_bind, Sem.run_pure, Result.andThen_ok, invoke, builtin, arr_of_toList hts, e1]
            rw [h4]; rfl
          · cases hv
        · cases hv
      · cases hv
    · rename_i g hcal
      split at hv
      · rename_i f first caps args hg hargs
        obtain ⟨p, q, e, h1, h2⟩ := VR_f (evG_ok hG hA hg)
        have := callX_ok hE hZ h hv (VRs_app (VRs_app h1 (evL_arr hG hA hargs)) h2)
        simp only [resolve, hcal, e, Deferred.ofValue, Sem.run_bind, Sem.run_pure, Result.andThen_ok, invoke]
        exact this
      · rename_i n args hg hargs
        simp only [Option.some.injEq] at hv
        subst hv
        have hy := evG_ok hG hA hg
        obtain ⟨l, q, e, hq, rfl⟩ : ∃ l q, a.eval g = .func (.yield l) #[] #[] ∧ σ n = some q ∧ q.blk = l := by
          generalize a.eval g = z at hy
          cases z with
          | func fn b c => cases fn with
            | yield l =>
              simp only [VR] at hy
              obtain ⟨rfl, rfl, q, h1, h2⟩ := hy
              exact ⟨l, q, rfl, h1, h2⟩
            | _ => simp [VR] at hy
          | _ => simp [VR] at hy
        refine ⟨c.args.map a.eval, q, evL_arr hG hA hargs, hq, ?_⟩
        simp only [resolve, hcal, e, Deferred.ofValue, Sem.run_bind, Sem.run_pure, Result.andThen_ok, invoke]
        simp
      · cases hv
    · rename_i r m hcal
      split at hv
      · rename_i t v args hr hargs
        split at hv
        · rename_i f hm
          obtain ⟨u, e, hu⟩ := VR_ifc (evG_ok hG hA hr)
          have hcx := callX_ok hE hZ h hv (us := #[u] ++ c.args.map a.eval) (by rw [Array.toList_append]; exact ⟨hu, evL_arr hG hA hargs⟩)
          have hme := methE_ok (P := P) hT hm u w (P.types.size + 99)
          simp only [resolve, hcal, e, Sem.run_bind, Sem.run_pure, Result.andThen_ok, invoke]
          have : (callMethod (.iface t u) m (c.args.map a.eval)).run P w = (callFunc f (#[u] ++ c.args.map a.eval)).run P w := by
            unfold callMethod
            simp only [Sem.run_bind, run_program, Result.andThen_ok]
            rw [show P.types.size + Made.depth = P.types.size + 99 + 1 from rfl, hme]
            rfl
          have e2 : ((#[Value.iface t u] ++ c.args.map a.eval)[0]? : Option Value) = some (.iface t u) := by rw [Array.getElem?_append_left (by simp)]; rfl
          have e3 : (#[Value.iface t u] ++ c.args.map a.eval).extract 1 (#[Value.iface t u] ++ c.args.map a.eval).size = c.args.map a.eval := by
            apply Array.toList_inj.1
            simp
            exact List.take_of_length_le (by simp)
          rw [e2]
          simp only [e3]
          rw [this]
          exact hcx
        · cases hv
      · cases hv
  all_goals cases hv
end
end
end Go.Proofs.YtafhmagifoapfaaGreatDoor
namespace Go.Proofs.YtafhmagifoapfaaGreatDoor
open Go.RowKit
noncomputable section
/-- What waits for a function's end: a mark of a loop over a function, a call. -/
inductive DV where
  | mark (n : Nat)
  | clo (g : Nat) (args : List V)
structure SX where
  T : PT V
  H : PT O
  nx : Nat
  ds : List DV
inductive XR where
  | go (s : SX)
  | pan (v : V) (s : SX)
/-- What a call comes to. -/
inductive CR where
  | ret (v : V)
  | pan (v : V)
abbrev CallX := Nat → List V → PT O → Nat → Option (CR × PT O × Nat)
abbrev YldX := Nat → List V → PT O → Nat → Option (Bool × PT O × Nat)
/-- The fence of a plain frame, of a round's. -/
def FW (r : Option Nat) : Fence := { Fence.wide with round := r }
def DR (σ : Sig) : List DV → List Deferred → Prop
  | [], [] => True
  | .mark n :: l, d :: r => (∃ q, σ n = some q ∧ d.target = .collected q.blk) ∧ DR σ l r
  | .clo g args :: l, d :: r => (∃ a b : Array Value, d = { target := .fn (.func g) b, args := a } ∧ VRs σ args (a ++ b).toList) ∧ DR σ l r
  | _, _ => False
theorem DR.le {σ τ : Sig} (h : σ.le τ) : ∀ {l : List DV} {r : List Deferred}, DR σ l r → DR τ l r
  | [], [], _ => trivial
  | .mark n :: l, d :: r, e => by
    obtain ⟨⟨q, h1, h2⟩, h3⟩ := e
    exact ⟨⟨q, h _ _ h1, h2⟩, DR.le h h3⟩
  | .clo g args :: l, d :: r, e => by
    obtain ⟨⟨a, b, h1, h2⟩, h3⟩ := e
    exact ⟨⟨a, b, h1, h2.le h⟩, DR.le h h3⟩
  | [], _ :: _, e => by simp [DR] at e
  | .mark _ :: _, [], e => by simp [DR] at e
  | .clo _ _ :: _, [], e => by simp [DR] at e
/-- How a state stands for an activation and a world. -/
structure RX (w0 : World) (G nt : Nat) (σ : Sig) (s : SX) (a : Act) (w : World) : Prop where
  globs : Globs σ G
  mem : HR w0 G σ s.H s.nx w
  act : AR σ s.T a
  size : a.tmps.size = nt
  defers : DR σ s.ds a.defers
/-- How a panic stands. -/
structure PX (w0 : World) (G nt : Nat) (σ : Sig) (s : SX) (v : V) (u : Value) (a : Act) (w : World) : Prop where
  globs : Globs σ G
  mem : HR w0 G σ s.H s.nx w
  act : AR σ s.T a
  size : a.tmps.size = nt
  val : VR σ v u
  defers : DR σ s.ds a.defers
def CRok (w0 : World) (G : Nat) (σ : Sig) (cr : CR) (H : PT O) (nx : Nat) (e : Ending) (w : World) : Prop :=
  ∃ σ', σ.le σ' ∧ HR w0 G σ' H nx w ∧ match cr with
    | .ret v => ∃ u, e = .returned u ∧ VR σ' v u
    | .pan v => ∃ u, e = .panicked [{ v := u, recovered := false }] ∧ VR σ' v u
def CallOk (P : Program) (w0 : World) (G : Nat) (cf : CallX) : Prop := ∀ f args H nx cr H' nx', cf f args H nx = some (cr, H', nx') → ∀ σ w (us : Array Value), Globs σ G → HR w0 G σ H nx w → VRs σ args us.toList →
  Calls P f us w (CRok w0 G σ cr H' nx')
def YldOk (P : Program) (w0 : World) (G : Nat) (yf : YldX) : Prop := ∀ n args H nx b H' nx', yf n args H nx = some (b, H', nx') → ∀ σ w (us : Array Value) q, Globs σ G → HR w0 G σ H nx w → VRs σ args us.toList → σ n = some q →
  ∃ fid tmps asg body, (Instr.yield q.blk us).run P w = .ok (.round q.blk fid tmps asg body) w ∧
    RoundIn Fence.wide 0 P q.blk fid tmps asg body w fun e w' => ∃ σ', e = .returned (.bool b) ∧ σ.le σ' ∧ HR w0 G σ' H' nx' w'
/-- Operations, one behind the other. -/
def execL (E : Env) (Z : Fns) (cf : CallX) (yf : YldX) (nt : Nat) (inR : Bool) (ops : Array Oper) : List Oper → SX → Option XR
  | [], s => some (.go s)
  | o :: rest, s =>
    match wantE ops s.T o with
    | none => none
    | some false => match put1 nt s.T o.dst (.tup []) with
      | some T => execL E Z cf yf nt inR ops rest ⟨T, s.H, s.nx, s.ds⟩
      | none => none
    | some true => match evq E o s.T s.H with
      | some v => match put1 nt s.T o.dst v with
        | some T => execL E Z cf yf nt inR ops rest ⟨T, s.H, s.nx, s.ds⟩
        | none => none
      | none => match eve E Z o s.T s.H s.nx with
        | none => none
        | some (.val v H nx) => match put1 nt s.T o.dst v with
          | some T => execL E Z cf yf nt inR ops rest ⟨T, H, nx, s.ds⟩
          | none => none
        | some (.skip H nx) => match put1 nt s.T o.dst (.tup []) with
          | some T => execL E Z cf yf nt inR ops rest ⟨T, H, nx, s.ds⟩
          | none => none
        | some (.call f args) => match cf f args s.H s.nx with
          | some (.ret v, H, nx) => match put1 nt s.T o.dst v with
            | some T => execL E Z cf yf nt inR ops rest ⟨T, H, nx, s.ds⟩
            | none => none
          | some (.pan v, H, nx) => some (.pan v ⟨s.T, H, nx, s.ds⟩)
          | none => none
        | some (.yld n args) => match yf n args s.H s.nx with
          | some (b, H, nx) => match put1 nt s.T o.dst (.b b) with
            | some T => execL E Z cf yf nt inR ops rest ⟨T, H, nx, s.ds⟩
            | none => none
          | none => none
        | some (.pan v) => some (.pan v s)
        | some (.dfr g args) => cond inR none (match put1 nt s.T o.dst (.tup []) with
          | some T => execL E Z cf yf nt inR ops rest ⟨T, s.H, s.nx, .clo g args :: s.ds⟩
          | none => none)
theorem evq_defer {E : Env} {o : Oper} {T : PT V} {H : PT O} {c : Call} (h : o.op = .defer c) : evq E o T H = none := by
  unfold evq; rw [h]
theorem eve_defer {E : Env} {Z : Fns} {o : Oper} {T : PT V} {H : PT O} {nx : Nat} {c : Call} {x : OpX} (h : o.op = .defer c) (hx : eve E Z o T H nx = some x) : ∃ g args, x = .dfr g args := by
  unfold eve at hx
  rw [h] at hx
  simp only at hx
  split at hx
  · split at hx
    · simp only [Option.some.injEq] at hx
      exact ⟨_, _, hx.symm⟩
    · cases hx
  · cases hx
def XRpost (w0 : World) (G nt : Nat) (σ : Sig) (Q : Exit → Act → World → Prop) : XR → Prop
  | .go s => ∀ σ' a w, σ.le σ' → RX w0 G nt σ' s a w → Q .normal a w
  | .pan v s => ∀ σ' a w u, σ.le σ' → PX w0 G nt σ' s v u a w → Q (.panic [{ v := u, recovered := false }]) a w
theorem XRpost.le {w0 : World} {G nt : Nat} {σ τ : Sig} {Q : Exit → Act → World → Prop} {x : XR} (hl : σ.le τ) (h : XRpost w0 G nt σ Q x) : XRpost w0 G nt τ Q x := by
  cases x with
  | go s => exact fun σ' a w h' => h σ' a w (Sig.le_trans hl h')
  | pan v s => exact fun σ' a w u h' => h σ' a w u (Sig.le_trans hl h')
section
variable {P : Program} {w0 : World} {E : Env} {Z : Fns} {cf : CallX} {yf : YldX} {r : Option Nat}
theorem fw_depth {n : Nat} : (FW r).depth.isSome = true → 1 ≤ n := fun h => by simp [FW, Fence.wide] at h
theorem callsIn_fw {n : Nat} {f : FuncId} {args : Array Value} {w : World} {R : Ending → World → Prop} (h : Calls P f args w R) : CallsIn (FW r) n P f args w R := (callsIn_wide (n := n)).2 h
theorem roundIn_fw {n : Nat} {l : Nat} {f : FuncId} {tmps : Array Value} {asg body : Code} {w : World} {R : Ending → World → Prop} (h : RoundIn Fence.wide n P l f tmps asg body w R) : RoundIn (FW r) n P l f tmps asg body w R := h
theorem RX.put {σ : Sig} {s : SX} {a : Act} {w w' : World} {G nt : Nat} (h : RX w0 G nt σ s a w) {σ' : Sig} (hl : σ.le σ') {H : PT O} {nx : Nat} (hm : HR w0 G σ' H nx w') {d : Option Tmp} {v : V} {u : Value} {T : PT V} (hv : VR σ' v u) (hp : put1 nt s.T d v = some T) : RX w0 G nt σ' ⟨T, H, nx, s.ds⟩ (a.put d u) w' := by
  obtain ⟨h1, h2, h3⟩ := (h.act.le hl).put h.size hv hp
  exact ⟨h.globs.le hl, hm, h1, h2, by rw [h3]; exact h.defers.le hl⟩
set_option maxHeartbeats 1000000 in
theorem execL_ok (hE : EnvOk P E) (hZ : FnsOk P Z) (hC : CallOk P w0 E.G cf) (hY : YldOk P w0 E.G yf) {nt n : Nat} {ops : Array Oper} {Q : Exit → Act → World → Prop} : ∀ (l : List Oper) (s : SX) (x : XR), execL E Z cf yf nt r.isSome ops l s = some x →
    ∀ σ a w, RX w0 E.G nt σ s a w → XRpost w0 E.G nt σ Q x → wpListIn (FW r) n P ops Q l a w
  | [], s, x, h, σ, a, w, hr, hq => by
    simp only [execL, Option.some.injEq] at h
    subst h
    exact hq σ a w (Sig.le_refl σ) hr
  | o :: rest, s, x, h, σ, a, w, hr, hq => by
    unfold execL at h
    unfold wpListIn
    have nab : ∀ f, o.about P w a.eval = some f → (FW r).fn f := fun _ _ => trivial
    cases hwt : wantE ops s.T o with
    | none => rw [hwt] at h; cases h
    | some b =>
      rw [hwt] at h
      rw [wantE_ok hr.act hwt]
      cases b with
      | false =>
        simp only at h
        rw [if_neg (by simp)]
        refine ⟨nab, ?_⟩
        cases hp : put1 nt s.T o.dst (.tup []) with
        | none => rw [hp] at h; cases h
        | some T =>
          rw [hp] at h
          exact execL_ok hE hZ hC hY rest _ x h σ _ w (hr.put (Sig.le_refl σ) hr.mem undef_ok hp) hq
      | true =>
        simp only at h
        rw [if_pos rfl]
        refine ⟨nab, ?_⟩
        cases hev : evq E o s.T s.H with
        | some v =>
          rw [hev] at h
          simp only at h
          have hnd : ∀ c, o.op ≠ .defer c := fun c e => by rw [evq_defer e] at hev; cases hev
          rw [Oper.semAt_eq _ _ _ hnd]
          obtain ⟨u, h1, h2⟩ := evq_ok hE hr.globs hr.mem hr.act hev
          cases hp : put1 nt s.T o.dst v with
          | none => rw [hp] at h; cases h
          | some T =>
            rw [hp] at h
            rw [h2, Oper.uponIn_value]
            exact execL_ok hE hZ hC hY rest _ x h σ _ w (hr.put (Sig.le_refl σ) hr.mem h1 hp) hq
        | none =>
          rw [hev] at h
          simp only at h
          cases hee : eve E Z o s.T s.H s.nx with
          | none => rw [hee] at h; cases h
          | some ox =>
            rw [hee] at h
            have hs := eve_ok hE hZ hr.globs hr.mem hr.act hee
            have hnd : (∀ g args, ox ≠ .dfr g args) → ∀ c, o.op ≠ .defer c := fun hn c e => by
              obtain ⟨g, args, e2⟩ := eve_defer e hee
              exact hn g args e2
            cases ox with
            | val v H nx =>
              simp only at h
              rw [Oper.semAt_eq _ _ _ (hnd (fun _ _ e => by cases e))]
              obtain ⟨σ', u, w', hl, hm, hv, hrun⟩ := hs
              cases hp : put1 nt s.T o.dst v with
              | none => rw [hp] at h; cases h
              | some T =>
                rw [hp] at h
                rw [hrun, Oper.uponIn_value]
                exact execL_ok hE hZ hC hY rest _ x h σ' _ w' (hr.put hl hm hv hp) (hq.le hl)
            | skip H nx =>
              simp only at h
              rw [Oper.semAt_eq _ _ _ (hnd (fun _ _ e => by cases e))]
              obtain ⟨σ', w', hl, hm, hrun⟩ := hs
              cases hp : put1 nt s.T o.dst (.tup []) with
              | none => rw [hp] at h; cases h
              | some T =>
                rw [hp] at h
                rw [hrun, Oper.uponIn_skip]
                exact execL_ok hE hZ hC hY rest _ x h σ' _ w' (hr.put hl hm undef_ok hp) (hq.le hl)
            | call f args =>
              simp only at h
              rw [Oper.semAt_eq _ _ _ (hnd (fun _ _ e => by cases e))]
              obtain ⟨us, hus, hrun⟩ := hs
              rw [hrun, Oper.uponIn_enter]
              refine ⟨fw_depth, callsIn_fw ?_⟩
              cases hc : cf f args s.H s.nx with
              | none => rw [hc] at h; cases h
              | some cr =>
                obtain ⟨cr, H, nx⟩ := cr
                rw [hc] at h
                refine (hC f args s.H s.nx cr H nx hc σ w us hr.globs hr.mem hus).mono ?_
                rintro e w' ⟨σ', hl, hm, hcr⟩
                cases cr with
                | ret v =>
                  simp only at h
                  obtain ⟨u, rfl, hv⟩ := hcr
                  cases hp : put1 nt s.T o.dst v with
                  | none => rw [hp] at h; cases h
                  | some T =>
                    rw [hp] at h
                    exact execL_ok hE hZ hC hY rest _ x h σ' _ w' (hr.put hl hm hv hp) (hq.le hl)
                | pan v =>
                  simp only [Option.some.injEq] at h
                  subst h
                  obtain ⟨u, rfl, hv⟩ := hcr
                  exact hq σ' a w' u hl ⟨hr.globs.le hl, hm, hr.act.le hl, hr.size, hv, hr.defers.le hl⟩
            | yld m args =>
              simp only at h
              rw [Oper.semAt_eq _ _ _ (hnd (fun _ _ e => by cases e))]
              obtain ⟨us, q, hus, hq1, hrun⟩ := hs
              cases hc : yf m args s.H s.nx with
              | none => rw [hc] at h; cases h
              | some cr =>
                obtain ⟨b, H, nx⟩ := cr
                rw [hc] at h
                simp only at h
                obtain ⟨fid, tmps, asg, body, k1, k2⟩ := hY m args s.H s.nx b H nx hc σ w us q hr.globs hr.mem hus hq1
                rw [hrun, k1, Oper.uponIn_round]
                refine ⟨fw_depth, roundIn_fw ?_⟩
                have k2' : RoundIn Fence.wide (n - 1) P q.blk fid tmps asg body w _ := ⟨k2.1, fun c cs _ => k2.2 c cs (room_wide _)⟩
                refine k2'.mono ?_
                rintro e w' ⟨σ', rfl, hl, hm⟩
                cases hp : put1 nt s.T o.dst (.b b) with
                | none => rw [hp] at h; cases h
                | some T =>
                  rw [hp] at h
                  exact execL_ok hE hZ hC hY rest _ x h σ' _ w' (hr.put hl hm (show VR σ' (.b b) (.bool b) from rfl) hp) (hq.le hl)
            | pan v =>
              simp only [Option.some.injEq] at h
              subst h
              rw [Oper.semAt_eq _ _ _ (hnd (fun _ _ e => by cases e))]
              obtain ⟨u, hv, hrun⟩ := hs
              rw [hrun, Oper.uponIn_panic]
              exact hq σ a w u (Sig.le_refl σ) ⟨hr.globs, hr.mem, hr.act, hr.size, hv, hr.defers⟩
            | dfr g args =>
              simp only at h
              cases hri : r.isSome with
              | true => rw [hri] at h; cases h
              | false =>
                have hround : (FW r).round = none := by
                  show r = none
                  simpa using hri
                have h' : (match put1 nt s.T o.dst (.tup []) with
                  | some T => execL E Z cf yf nt r.isSome ops rest ⟨T, s.H, s.nx, .clo g args :: s.ds⟩
                  | none => none) = some x := by
                  rw [hri] at h ⊢; exact h
                obtain ⟨p, q, hpq, hrun⟩ := hs
                have : o.semAt (FW r).round a.eval = execOp a.eval o := by rw [hround]; rfl
                rw [this, hrun, Oper.uponIn_defer]
                cases hp : put1 nt s.T o.dst (.tup []) with
                | none => rw [hp] at h'; cases h'
                | some T =>
                  rw [hp] at h'
                  obtain ⟨g1, g2, g3⟩ := (show AR σ s.T { a with defers := { target := .fn (.func g) q, args := p } :: a.defers } from ⟨hr.act.tmp⟩).put (nt := nt) hr.size undef_ok hp
                  refine execL_ok hE hZ hC hY rest _ x h' σ _ w ⟨hr.globs, hr.mem, g1, g2, ?_⟩ hq
                  rw [g3]
                  exact ⟨⟨p, q, rfl, hpq⟩, hr.defers⟩
end
end
end Go.Proofs.YtafhmagifoapfaaGreatDoor
