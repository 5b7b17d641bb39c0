/- A reckoner for closed runs, part 41: a region that draws its order: what every order comes to. -/
import Derived.Test.YtafhmagifoapfaaGreatDoorEvD
namespace Go.Proofs.YtafhmagifoapfaaGreatDoor
open Go.RowKit
noncomputable section
def tmpsOf : List Operand → List Nat
  | [] => []
  | .tmp t :: l => t :: tmpsOf l
  | _ :: l => tmpsOf l
/-- The temporaries that an operation names. -/
def namesE (ops : Array Oper) (o : Oper) : List Nat :=
  o.dst.toList ++ ((match o.guard with
    | some (g, _) => ((ops[g]?).bind (·.dst)).toList
    | none => []) ++ tmpsOf o.op.operands.toList)
def restr (T : PT V) : List Nat → PT V
  | [] => .leaf
  | t :: l => match T.get t with
    | some v => PT.force (restr T l) fun A => PT.force (A.set v t) fun A => A
    | none => restr T l
theorem restr_get {T : PT V} : ∀ {l : List Nat} {t : Nat} {v : V}, (restr T l).get t = some v → t ∈ l ∧ T.get t = some v
  | [], t, v, h => by cases h
  | x :: l, t, v, h => by
    unfold restr at h
    cases hx : T.get x with
    | none =>
      rw [hx] at h
      have := restr_get h
      exact ⟨List.mem_cons_of_mem _ this.1, this.2⟩
    | some y =>
      rw [hx] at h
      simp only [PT.force_eq] at h
      rw [PT.get_set] at h
      by_cases e : t = x
      · subst e
        rw [if_pos rfl] at h
        simp only [Option.some.injEq] at h
        subst h
        exact ⟨List.mem_cons_self, hx⟩
      · rw [if_neg e] at h
        have := restr_get h
        exact ⟨List.mem_cons_of_mem _ this.1, this.2⟩
/-- One operation that makes or turns memory, or calls. -/
def eff1 (E : Env) (Z : Fns) (cf : CallX) (yf : YldX) (o : Oper) (T : PT V) (H : PT O) (nx : Nat) : Option (V × PT O × Nat) :=
  match eve E Z o T H nx with
  | some (.val v H nx) => some (v, H, nx)
  | some (.skip H nx) => some (.tup [], H, nx)
  | some (.call f args) => match cf f args H nx with
    | some (.ret v, H, nx) => some (v, H, nx)
    | _ => none
  | some (.yld n args) => match yf n args H nx with
    | some (b, H, nx) => some (.b b, H, nx)
    | none => none
  | _ => none
section
variable {P : Program} {w0 : World} {E : Env} {Z : Fns} {cf : CallX} {yf : YldX} {r : Option Nat} {n : Nat} {Q : Exit → Act → World → Prop}
theorem eff1_ok (hE : EnvOk P E) (hZ : FnsOk P Z) (hC : CallOk P w0 E.G cf) (hY : YldOk P w0 E.G yf) {o : Oper} {T : PT V} {H : PT O} {nx : Nat} {v : V} {H' : PT O} {nx' : Nat} (h : eff1 E Z cf yf o T H nx = some (v, H', nx'))
    {σ : Sig} {a : Act} {w : World} (hG : Globs σ E.G) (hm : HR w0 E.G σ H nx w) (hA : AR σ T a) {K : Act → World → Prop} (hK : ∀ σ' u w', σ.le σ' → HR w0 E.G σ' H' nx' w' → VR σ' v u → K (a.put o.dst u) w') : o.wpIn (FW r) n P a w K Q := by
  refine ⟨fun _ _ => trivial, ?_⟩
  unfold eff1 at h
  cases hee : eve E Z o T H nx with
  | none => rw [hee] at h; cases h
  | some ox =>
    rw [hee] at h
    have hs := eve_ok hE hZ hG hm hA hee
    have hnd : (∀ g args, ox ≠ .dfr g args) → ∀ c, o.op ≠ .defer c := fun hn c e => by
      obtain ⟨g, args, e2⟩ := eve_defer e hee
      exact hn g args e2
    cases ox with
    | val x H1 n1 =>
      simp only [Option.some.injEq, Prod.mk.injEq] at h
      obtain ⟨rfl, rfl, rfl⟩ := h
      rw [Oper.semAt_eq _ _ _ (hnd (fun _ _ e => by cases e))]
      obtain ⟨σ', u, w', hl, hm', hv, hrun⟩ := hs
      rw [hrun, Oper.uponIn_value]
      exact hK σ' u w' hl hm' hv
    | skip H1 n1 =>
      simp only [Option.some.injEq, Prod.mk.injEq] at h
      obtain ⟨rfl, rfl, rfl⟩ := h
      rw [Oper.semAt_eq _ _ _ (hnd (fun _ _ e => by cases e))]
      obtain ⟨σ', w', hl, hm', hrun⟩ := hs
      rw [hrun, Oper.uponIn_skip]
      exact hK σ' undef w' hl hm' undef_ok
    | call f args =>
      simp only at h
      rw [Oper.semAt_eq _ _ _ (hnd (fun _ _ e => by cases e))]
      obtain ⟨us, hus, hrun⟩ := hs
      rw [hrun, Oper.uponIn_enter]
      refine ⟨fw_depth, callsIn_fw ?_⟩
      cases hc : cf f args H nx with
      | none => rw [hc] at h; cases h
      | some cr =>
        obtain ⟨cr, H1, n1⟩ := cr
        rw [hc] at h
        cases cr with
        | pan v => cases h
        | ret x =>
          simp only [Option.some.injEq, Prod.mk.injEq] at h
          obtain ⟨rfl, rfl, rfl⟩ := h
          refine (hC f args H nx _ H1 n1 hc σ w us hG hm hus).mono ?_
          rintro e w' ⟨σ', hl, hm', u, rfl, hv⟩
          exact hK σ' u w' hl hm' hv
    | yld m args =>
      simp only at h
      rw [Oper.semAt_eq _ _ _ (hnd (fun _ _ e => by cases e))]
      obtain ⟨us, q, hus, hq1, hrun⟩ := hs
      cases hc : yf m args H nx with
      | none => rw [hc] at h; cases h
      | some cr =>
        obtain ⟨b, H1, n1⟩ := cr
        rw [hc] at h
        simp only [Option.some.injEq, Prod.mk.injEq] at h
        obtain ⟨rfl, rfl, rfl⟩ := h
        obtain ⟨fid, tmps, asg, body, k1, k2⟩ := hY m args H nx b H1 n1 hc σ w us q hG hm hus hq1
        rw [hrun, k1, Oper.uponIn_round]
        refine ⟨fw_depth, roundIn_fw ?_⟩
        have k2' : RoundIn Fence.wide (n - 1) P q.blk fid tmps asg body w _ := ⟨k2.1, fun c cs _ => k2.2 c cs (room_wide _)⟩
        refine k2'.mono ?_
        rintro e w' ⟨σ', rfl, hl, hm'⟩
        exact hK σ' (.bool b) w' hl hm' (show VR σ' (.b b) (.bool b) from rfl)
    | pan v => cases h
    | dfr g args => cases h
end
/-- What a walk in the order of the text has found. -/
structure Plan where
  o : Nat → Oper
  Tm : Nat → PT V
  vl : Nat → V
  wn : Nat → Bool
  ef : Nat → Bool
  st : Nat → Nat
  M : Nat → PT O × Nat
  B : Nat → Nat
def confE (ops : Array Oper) (a b : Oper) : Prop := (∃ t, a.dst = some t ∧ t ∈ namesE ops b) ∨ ∃ t, b.dst = some t ∧ t ∈ namesE ops a
structure PlanOk (E : Env) (Z : Fns) (cf : CallX) (yf : YldX) (nt : Nat) (ops : Array Oper) (p : Plan) : Prop where
  op : ∀ j, j < ops.size → ops[j]? = some (p.o j)
  edge : ∀ j, j < ops.size → ∀ e ∈ (p.o j).after, Region.binds .any e = true → e.on < j
  bef : ∀ j, j < ops.size → ∀ i, i < ops.size → (p.B j).testBit i = true → ∃ e ∈ (p.o j).after, Region.binds .any e = true ∧ (e.on = i ∨ (p.B e.on).testBit i = true)
  conf : ∀ j, j < ops.size → ∀ i, i < j → confE ops (p.o i) (p.o j) → (p.B j).testBit i = true
  put : ∀ j, j < ops.size → put1 nt (p.Tm j) (p.o j).dst (p.vl j) = some (p.Tm (j + 1))
  want : ∀ j, j < ops.size → wantE ops (restr (p.Tm j) (namesE ops (p.o j))) (p.o j) = some (p.wn j)
  skip : ∀ j, j < ops.size → p.wn j = false → p.vl j = .tup [] ∧ p.ef j = false
  quiet : ∀ j, j < ops.size → p.wn j = true → p.ef j = false → ∀ m, m ≤ p.st ops.size → (∀ i, i < ops.size → p.ef i = true → (p.B j).testBit i = true → p.st i < m) → (∀ i, i < ops.size → p.ef i = true → (p.B i).testBit j = true → m ≤ p.st i) →
    evq E (p.o j) (restr (p.Tm j) (namesE ops (p.o j))) (p.M m).1 = some (p.vl j)
  eff : ∀ j, j < ops.size → p.wn j = true → p.ef j = true → eff1 E Z cf yf (p.o j) (restr (p.Tm j) (namesE ops (p.o j))) (p.M (p.st j)).1 (p.M (p.st j)).2 = some (p.vl j, (p.M (p.st j + 1)).1, (p.M (p.st j + 1)).2)
  st0 : p.st 0 = 0
  sts : ∀ j, j < ops.size → p.st (j + 1) = p.st j + (if p.ef j then 1 else 0)
  chain : ∀ j, j < ops.size → p.ef j = true → ∀ i, i < j → p.ef i = true → (p.B j).testBit i = true
section
variable {P : Program} {w0 : World} {E : Env} {Z : Fns} {cf : CallX} {yf : YldX} {nt : Nat} {ops : Array Oper} {p : Plan}
theorem PlanOk.mono (h : PlanOk E Z cf yf nt ops p) : ∀ {i j : Nat}, i ≤ j → j ≤ ops.size → p.st i ≤ p.st j := by
  intro i j hij hj
  induction j with
  | zero => rw [Nat.le_zero.1 hij]; exact Nat.le_refl _
  | succ j ih =>
    by_cases e : i = j + 1
    · rw [e]; exact Nat.le_refl _
    · have h1 := ih (by omega) (by omega)
      have h2 := h.sts j (by omega)
      omega
theorem PlanOk.lt (h : PlanOk E Z cf yf nt ops p) {i j : Nat} (hij : i < j) (hj : j ≤ ops.size) (he : p.ef i = true) : p.st i < p.st j := by
  have h1 := h.mono (i := i + 1) (j := j) hij hj
  have h2 := h.sts i (by omega)
  rw [he] at h2
  simp only [if_true] at h2
  omega
theorem PlanOk.surj (h : PlanOk E Z cf yf nt ops p) : ∀ {j m : Nat}, j ≤ ops.size → m < p.st j → ∃ i, i < j ∧ p.ef i = true ∧ p.st i = m := by
  intro j
  induction j with
  | zero => intro m _ hm; rw [h.st0] at hm; omega
  | succ j ih =>
    intro m hj hm
    have h2 := h.sts j (by omega)
    by_cases hlt : m < p.st j
    · obtain ⟨i, h1, h3, h4⟩ := ih (by omega) hlt
      exact ⟨i, by omega, h3, h4⟩
    · cases he : p.ef j with
      | false => rw [he] at h2; simp only [Bool.false_eq_true, if_false] at h2; omega
      | true =>
        rw [he] at h2
        simp only [if_true] at h2
        exact ⟨j, by omega, he, by omega⟩
theorem PlanOk.keep (h : PlanOk E Z cf yf nt ops p) {t : Nat} : ∀ {i j : Nat}, i ≤ j → j ≤ ops.size → (∀ k, i ≤ k → k < j → (p.o k).dst ≠ some t) → (p.Tm j).get t = (p.Tm i).get t := by
  intro i j hij hj hno
  induction j with
  | zero => rw [Nat.le_zero.1 hij]
  | succ j ih =>
    by_cases e : i = j + 1
    · rw [e]
    · have h1 := ih (by omega) (by omega) (fun k hk1 hk2 => hno k hk1 (by omega))
      have h2 := h.put j (by omega)
      have h3 := hno j (by omega) (by omega)
      rw [← h1]
      unfold put1 at h2
      cases hd : (p.o j).dst with
      | none =>
        rw [hd] at h2
        simp only [Option.some.injEq] at h2
        rw [h2]
      | some d =>
        rw [hd] at h2 h3
        simp only at h2
        cases hc : Nat.blt d nt with
        | false => rw [hc] at h2; cases h2
        | true =>
          rw [hc] at h2
          simp only [cond_true, PT.force_eq, Option.some.injEq] at h2
          rw [← h2, PT.get_set, if_neg (fun e => h3 (by rw [e]))]
theorem PlanOk.closed (h : PlanOk E Z cf yf nt ops p) {L : Nat → Bool} (hd : ∀ j, j < ops.size → L j = true → ∀ e ∈ (p.o j).after, Region.binds .any e = true → L e.on = true) : ∀ (j : Nat), j < ops.size → L j = true → ∀ i, i < ops.size → (p.B j).testBit i = true → L i = true := by
  intro j
  induction j using Nat.strongRecOn with
  | _ j ih =>
    intro hj hL i hi hb
    obtain ⟨e, he, hbn, h1 | h1⟩ := h.bef j hj i hi hb
    · rw [← h1]; exact hd j hj hL e he hbn
    · have hlt := h.edge j hj e he hbn
      exact ih e.on hlt (by omega) (hd j hj hL e he hbn) i hi h1
theorem PlanOk.ahead (h : PlanOk E Z cf yf nt ops p) {L : Nat → Bool} (hd : ∀ j, j < ops.size → L j = true → ∀ e ∈ (p.o j).after, Region.binds .any e = true → L e.on = true) {j : Nat} (hj : j < ops.size) (hr : ∀ e ∈ (p.o j).after, Region.binds .any e = true → L e.on = true) {i : Nat} (hi : i < ops.size) (hb : (p.B j).testBit i = true) : L i = true := by
  obtain ⟨e, he, hbn, h1 | h1⟩ := h.bef j hj i hi hb
  · rw [← h1]; exact hr e he hbn
  · have hlt := h.edge j hj e he hbn
    exact h.closed hd e.on (by omega) (hr e he hbn) i hi h1
/-- Where an order stands. -/
structure DI (w0 : World) (G nt : Nat) (ops : Array Oper) (p : Plan) (ds : List DV) (L : Nat → Bool) (m : Nat) (σ : Sig) (a : Act) (w : World) : Prop where
  globs : Globs σ G
  mem : HR w0 G σ (p.M m).1 (p.M m).2 w
  tmp : ∀ j, j ≤ ops.size → (j < ops.size → L j = false) → ∀ t, (j < ops.size → t ∈ namesE ops (p.o j)) → (∀ i, i < j → (p.o i).dst = some t → L i = true) → (∀ i, j ≤ i → i < ops.size → (p.o i).dst = some t → L i = false) → ∀ v, (p.Tm j).get t = some v → ∃ u, a.tmps[t]? = some u ∧ VR σ v u
  size : a.tmps.size = nt
  defers : DR σ ds a.defers
  stage : ∀ i, i < ops.size → p.ef i = true → (L i = true ↔ p.st i < m)
  mle : m ≤ p.st ops.size
  down : ∀ j, j < ops.size → L j = true → ∀ e ∈ (p.o j).after, Region.binds .any e = true → L e.on = true
theorem DI.step (h : PlanOk E Z cf yf nt ops p) {G : Nat} {ds : List DV} {L L' : Nat → Bool} {m : Nat} {σ : Sig} {a : Act} {w : World} (hI : DI w0 G nt ops p ds L m σ a w) {i : Nat} (hi : i < ops.size) (hLi : L i = false) (hr : ∀ e ∈ (p.o i).after, Region.binds .any e = true → L e.on = true)
    (hL' : ∀ j, L' j = if j = i then true else L j) {σ' : Sig} {u : Value} {w' : World} (hl : σ.le σ') (hv : VR σ' (p.vl i) u) {m' : Nat} (hm : HR w0 G σ' (p.M m').1 (p.M m').2 w')
    (hst : ∀ k, k < ops.size → p.ef k = true → (L' k = true ↔ p.st k < m')) (hle : m' ≤ p.st ops.size) : DI w0 G nt ops p ds L' m' σ' (a.put (p.o i).dst u) w' := by
  have hput := h.put i hi
  have L'i : L' i = true := by rw [hL', if_pos rfl]
  have L'o : ∀ j, j ≠ i → L' j = L j := fun j hj => by rw [hL', if_neg hj]
  refine ⟨hI.globs.le hl, hm, fun j hj hLj t ht hw1 hw2 v hv' => ?_, ?_, ?_, hst, hle, fun j hj hLj e he hb => ?_⟩
  · by_cases hd : (p.o i).dst = some t
    · have hij : i < j := by
        by_cases hc : i < j
        · exact hc
        · have := hw2 i (by omega) hi hd
          rw [L'i] at this; cases this
      have hlast : ∀ k, i + 1 ≤ k → k < j → (p.o k).dst ≠ some t := fun k hk1 hk2 hdk => by
        have h1 := hw1 k hk2 hdk
        rw [L'o k (by omega)] at h1
        have hb := h.conf k (by omega) i (by omega) (.inl ⟨t, hd, by unfold namesE; rw [hdk]; simp⟩)
        have := h.closed hI.down k (by omega) h1 i hi hb
        rw [hLi] at this; cases this
      have hk := h.keep (t := t) (show i + 1 ≤ j from hij) hj hlast
      rw [hk] at hv'
      unfold put1 at hput
      rw [hd] at hput
      simp only at hput
      cases hc : Nat.blt t nt with
      | false => rw [hc] at hput; cases hput
      | true =>
        rw [hc] at hput
        have hc : t < nt := Nat.le_of_ble_eq_true hc
        simp only [cond_true, PT.force_eq, Option.some.injEq] at hput
        rw [← hput, PT.get_set, if_pos rfl] at hv'
        simp only [Option.some.injEq] at hv'
        subst hv'
        exact ⟨u, by rw [hd]; simp [Act.put, hI.size, hc], hv⟩
    · have hne : ∀ k, (p.o k).dst = some t → k ≠ i := fun k hk e => by rw [e] at hk; exact hd hk
      obtain ⟨x, h1, h2⟩ := hI.tmp j hj (fun hlt => by
          have := hLj hlt
          by_cases e : j = i
          · rw [e, L'i] at this; cases this
          · rw [L'o j e] at this; exact this) t ht
        (fun k hk hdk => by have := hw1 k hk hdk; rw [L'o k (hne k hdk)] at this; exact this)
        (fun k hk1 hk2 hdk => by have := hw2 k hk1 hk2 hdk; rw [L'o k (hne k hdk)] at this; exact this) v hv'
      refine ⟨x, ?_, h2.le hl⟩
      cases hdd : (p.o i).dst with
      | none => exact h1
      | some d =>
        have hdt : d ≠ t := fun e => hd (by rw [hdd, e])
        simp only [Act.put]
        rw [Array.getElem?_setIfInBounds_ne hdt]; exact h1
  · cases hdd : (p.o i).dst with
    | none => exact hI.size
    | some d => simp [Act.put, hI.size]
  · have : (a.put (p.o i).dst u).defers = a.defers := by cases (p.o i).dst <;> rfl
    rw [this]; exact hI.defers.le hl
  · by_cases e1 : e.on = i
    · rw [e1]; exact L'i
    · rw [L'o _ e1]
      by_cases e2 : j = i
      · subst e2; exact hr e he hb
      · rw [L'o j e2] at hLj
        exact hI.down j hj hLj e he hb
end
end
end Go.Proofs.YtafhmagifoapfaaGreatDoor
namespace Go.Proofs.YtafhmagifoapfaaGreatDoor
open Go.RowKit
noncomputable section
/-- How many of the first are not listed. -/
def unl (listed : Array Bool) : Nat → Nat
  | 0 => 0
  | k + 1 => unl listed k + (if listed.getD k true then 0 else 1)
theorem unl_set (listed : Array Bool) {i : Nat} (hi : i < listed.size) (hf : listed.getD i true = false) : ∀ k, unl (listed.setIfInBounds i true) k + (if i < k then 1 else 0) = unl listed k
  | 0 => rfl
  | k + 1 => by
    have ih := unl_set listed hi hf k
    unfold unl
    by_cases e : k = i
    · subst e
      have h1 : (listed.setIfInBounds k true).getD k true = true := by simp [Array.getD, hi]
      rw [h1, hf]
      simp only [Nat.lt_irrefl, if_false, Nat.add_zero] at ih
      simp; omega
    · have h1 : (listed.setIfInBounds i true).getD k true = listed.getD k true := by
        rw [Array.getD_eq_getD_getElem?, Array.getD_eq_getD_getElem?, Array.getElem?_setIfInBounds_ne (fun h => e h.symm)]
      rw [h1]
      by_cases h2 : i < k
      · rw [if_pos h2] at ih
        rw [if_pos (show i < k + 1 by omega)]; omega
      · rw [if_neg h2] at ih
        rw [if_neg (show ¬ i < k + 1 by omega)]; omega
theorem unl_zero (listed : Array Bool) : ∀ {k : Nat}, unl listed k = 0 → ∀ j, j < k → listed.getD j true = true
  | k + 1, h, j, hj => by
    unfold unl at h
    by_cases e : j = k
    · subst e
      cases hc : listed.getD j true with
      | true => rfl
      | false => rw [hc] at h; simp at h
    · exact unl_zero listed (k := k) (by omega) j (by omega)
theorem unl_start (n : Nat) : ∀ k, k ≤ n → unl (Array.replicate n false) k = k
  | 0, _ => rfl
  | k + 1, h => by
    unfold unl
    rw [unl_start n k (by omega)]
    have : (Array.replicate n false).getD k true = false := by simp [Array.getD, show k < n by omega]
    rw [this]; rfl
section
variable {P : Program} {w0 : World} {E : Env} {Z : Fns} {cf : CallX} {yf : YldX} {nt : Nat} {ops : Array Oper} {p : Plan} {r : Option Nat} {n : Nat} {Q : Exit → Act → World → Prop}
theorem draw_end (h : PlanOk E Z cf yf nt ops p) {G : Nat} {ds : List DV} {L : Nat → Bool} {m : Nat} {σ : Sig} {a : Act} {w : World} (hI : DI w0 G nt ops p ds L m σ a w) (hall : ∀ j, j < ops.size → L j = true) :
    RX w0 G nt σ ⟨p.Tm ops.size, (p.M (p.st ops.size)).1, (p.M (p.st ops.size)).2, ds⟩ a w := by
  have hm : m = p.st ops.size := by
    have hle := hI.mle
    by_cases e : m < p.st ops.size
    · obtain ⟨i, h1, h2, h3⟩ := h.surj (Nat.le_refl _) e
      have := (hI.stage i h1 h2).1 (hall i h1)
      omega
    · omega
  subst hm
  refine ⟨hI.globs, hI.mem, ⟨fun t v hv => ?_⟩, hI.size, hI.defers⟩
  exact hI.tmp ops.size (Nat.le_refl _) (fun hlt => absurd hlt (Nat.lt_irrefl _)) t (fun hlt => absurd hlt (Nat.lt_irrefl _)) (fun i hi _ => hall i hi) (fun i h1 h2 _ => by omega) v hv
theorem draw_any (hE : EnvOk P E) (hZ : FnsOk P Z) (hC : CallOk P w0 E.G cf) (hY : YldOk P w0 E.G yf) (h : PlanOk E Z cf yf nt ops p) {ds : List DV} : ∀ (fuel : Nat) (listed : Array Bool) (σ : Sig) (m : Nat) (a : Act) (w : World), listed.size = ops.size → unl listed ops.size = fuel →
    DI w0 E.G nt ops p ds (fun j => listed.getD j true) m σ a w → (∀ σ' a' w', σ.le σ' → RX w0 E.G nt σ' ⟨p.Tm ops.size, (p.M (p.st ops.size)).1, (p.M (p.st ops.size)).2, ds⟩ a' w' → Q .normal a' w') →
    wpAnyIn (FW r) n P .any ops Q fuel listed a w
  | 0, listed, σ, m, a, w, hsz, hu, hI, hq => by
    have hall := unl_zero listed hu
    refine ⟨?_, hq σ a w (Sig.le_refl σ) (draw_end h hI hall)⟩
    cases hr : Region.ready .any ops listed with
    | nil => rfl
    | cons i l =>
      have hi : i ∈ Region.ready .any ops listed := by rw [hr]; exact List.mem_cons_self
      obtain ⟨h1, o, ho, _⟩ := mem_ready.1 hi
      have hlt : i < ops.size := (Array.getElem?_eq_some_iff.1 ho).1
      rw [hall i hlt] at h1; cases h1
  | fuel + 1, listed, σ, m, a, w, hsz, hu, hI, hq => by
    have hgd : ∀ k, k < ops.size → listed.getD k false = listed.getD k true := fun k hk => by
      simp [Array.getD, show k < listed.size by omega]
    refine ⟨fun hr => ?_, fun i hi => ?_⟩
    · -- nothing may come up: all is listed
      have hall : ∀ j, j < ops.size → listed.getD j true = true := by
        intro j
        induction j using Nat.strongRecOn with
        | _ j ih =>
          intro hj
          cases hc : listed.getD j true with
          | true => rfl
          | false =>
            have : j ∈ Region.ready .any ops listed := mem_ready.2 ⟨hc, p.o j, h.op j hj, fun e he hb => by
              have hlt := h.edge j hj e he hb
              rw [hgd e.on (by omega)]
              exact ih e.on hlt (by omega)⟩
            rw [hr] at this; cases this
      exact hq σ a w (Sig.le_refl σ) (draw_end h hI hall)
    · obtain ⟨hLi, o, ho, hpre⟩ := mem_ready.1 hi
      have hlt : i < ops.size := (Array.getElem?_eq_some_iff.1 ho).1
      have hop := h.op i hlt
      rw [ho] at hop
      simp only [Option.some.injEq] at hop
      subst hop
      have hpre' : ∀ e ∈ (p.o i).after, Region.binds .any e = true → listed.getD e.on true = true := fun e he hb => by
        have hl := h.edge i hlt e he hb
        rw [← hgd e.on (by omega)]; exact hpre e he hb
      have hAR : AR σ (restr (p.Tm i) (namesE ops (p.o i))) a := ⟨fun t v hv => by
        obtain ⟨ht, hv⟩ := restr_get hv
        refine hI.tmp i (Nat.le_of_lt hlt) (fun _ => hLi) t (fun _ => ht) (fun k hk hdk => ?_) (fun k hk1 hk2 hdk => ?_) v hv
        · exact h.ahead hI.down hlt hpre' (by omega) (h.conf i hlt k hk (.inl ⟨t, hdk, ht⟩))
        · by_cases e : k = i
          · rw [e]; exact hLi
          · cases hc : listed.getD k true with
            | false => rfl
            | true =>
              have := h.closed hI.down k hk2 hc i hlt (h.conf k hk2 i (by omega) (.inr ⟨t, hdk, ht⟩))
              rw [hLi] at this; cases this⟩
      have hset : ∀ j, (listed.setIfInBounds i true).getD j true = if j = i then true else listed.getD j true := fun j => by
        by_cases e : j = i
        · subst e; simp [Array.getD, show j < listed.size by omega]
        · rw [if_neg e, Array.getD_eq_getD_getElem?, Array.getD_eq_getD_getElem?, Array.getElem?_setIfInBounds_ne (fun h => e h.symm)]
      have hun : unl (listed.setIfInBounds i true) ops.size = fuel := by
        have := unl_set listed (by omega) hLi ops.size
        rw [if_pos hlt, hu] at this
        omega
      have go : ∀ (σ' : Sig) (u : Value) (w' : World) (m' : Nat), σ.le σ' → VR σ' (p.vl i) u → HR w0 E.G σ' (p.M m').1 (p.M m').2 w' → (∀ k, k < ops.size → p.ef k = true → ((listed.setIfInBounds i true).getD k true = true ↔ p.st k < m')) → m' ≤ p.st ops.size →
          wpAnyIn (FW r) n P .any ops Q fuel (listed.setIfInBounds i true) (a.put (p.o i).dst u) w' := fun σ' u w' m' hl hv hm hst hle =>
        draw_any hE hZ hC hY h fuel _ σ' m' _ w' (by simpa using hsz) hun (DI.step h hI hlt hLi hpre' hset hl hv hm hst hle) (fun σ2 a2 w2 hl2 => hq σ2 a2 w2 (Sig.le_trans hl hl2))
      have same : p.ef i = false → ∀ k, k < ops.size → p.ef k = true → ((listed.setIfInBounds i true).getD k true = true ↔ p.st k < m) := fun hef k hk hek => by
        have hne : k ≠ i := fun e => by rw [e, hef] at hek; cases hek
        rw [hset, if_neg hne]; exact hI.stage k hk hek
      unfold wpOpIn
      rw [ho]
      simp only
      rw [wantE_ok hAR (h.want i hlt)]
      cases hwn : p.wn i with
      | false =>
        rw [if_neg (by simp)]
        obtain ⟨hvl, hef⟩ := h.skip i hlt hwn
        exact ⟨fun _ _ => trivial, go σ undef w m (Sig.le_refl σ) (by rw [hvl]; exact undef_ok) hI.mem (same hef) hI.mle⟩
      | true =>
        rw [if_pos rfl]
        cases hef : p.ef i with
        | false =>
          have hv := h.quiet i hlt hwn hef m hI.mle (fun k hk hek hb => (hI.stage k hk hek).1 (h.ahead hI.down hlt hpre' hk hb)) (fun k hk hek hb => by
            by_cases hc : p.st k < m
            · have := (hI.stage k hk hek).2 hc
              have := h.closed hI.down k hk this i hlt hb
              rw [hLi] at this; cases this
            · omega)
          obtain ⟨u, h1, h2⟩ := evq_ok hE hI.globs hI.mem hAR hv
          refine ⟨fun _ _ => trivial, ?_⟩
          have hnd : ∀ c, (p.o i).op ≠ .defer c := fun c e => by rw [evq_defer e] at hv; cases hv
          rw [Oper.semAt_eq _ _ _ hnd, h2, Oper.uponIn_value]
          exact go σ u w m (Sig.le_refl σ) h1 hI.mem (same hef) hI.mle
        | true =>
          have hsm : p.st i = m := by
            have h1 : ¬ p.st i < m := fun hc => by
              have := (hI.stage i hlt hef).2 hc
              rw [hLi] at this; cases this
            by_cases h2 : m < p.st i
            · obtain ⟨k, k1, k2, k3⟩ := h.surj (Nat.le_of_lt hlt) h2
              have hb := h.chain i hlt hef k k1 k2
              have hL := h.ahead hI.down hlt hpre' (by omega) hb
              have := (hI.stage k (by omega) k2).1 hL
              omega
            · omega
          have hee := h.eff i hlt hwn hef
          rw [hsm] at hee
          have hlt2 : m < p.st ops.size := by rw [← hsm]; exact h.lt hlt (Nat.le_refl _) hef
          refine eff1_ok hE hZ hC hY hee hI.globs hI.mem hAR fun σ' u w' hl hm hv => go σ' u w' (m + 1) hl hv hm (fun k hk hek => ?_) hlt2
          rw [hset]
          by_cases e : k = i
          · subst e
            rw [if_pos rfl]
            constructor
            · intro _; omega
            · intro _; rfl
          · rw [if_neg e]
            have h1 := hI.stage k hk hek
            constructor
            · intro hc; have := h1.1 hc; omega
            · intro hc
              by_cases h2 : p.st k < m
              · exact h1.2 h2
              · rcases Nat.lt_or_gt_of_ne e with h3 | h3
                · have := h.lt h3 (Nat.le_of_lt hlt) hek; omega
                · have := h.lt h3 (Nat.le_of_lt hk) hef; omega
theorem draw_ok (hP : P.follows .mixedOrders = true) (hE : EnvOk P E) (hZ : FnsOk P Z) (hC : CallOk P w0 E.G cf) (hY : YldOk P w0 E.G yf) (h : PlanOk E Z cf yf nt ops p) {s : SX} (h0 : p.Tm 0 = s.T) (hM : p.M 0 = (s.H, s.nx)) {σ : Sig} {a : Act} {w : World} (hr : RX w0 E.G nt σ s a w) {id : Nat}
    (hq : ∀ σ' a' w', σ.le σ' → RX w0 E.G nt σ' ⟨p.Tm ops.size, (p.M (p.st ops.size)).1, (p.M (p.st ops.size)).2, s.ds⟩ a' w' → Q .normal a' w') : (Code.region id ops true).wpIn (FW r) n P Q a w := by
  refine wpIn_region_any hP (draw_any hE hZ hC hY h (ds := s.ds) ops.size _ σ 0 a _ (by simp) (unl_start _ _ (Nat.le_refl _)) ?_ hq)
  have hf : ∀ j, j < ops.size → (Array.replicate ops.size false).getD j true = false := fun j hj => by simp [Array.getD, hj]
  refine ⟨hr.globs, by rw [hM]; exact hr.mem.drew, fun j hj hLj t ht h1 h2 v hv => ?_, hr.size, hr.defers, fun i hi he => ?_, by omega, fun j hj hLj => ?_⟩
  · have hno : ∀ k, 0 ≤ k → k < j → (p.o k).dst ≠ some t := fun k _ hk e => by
      have := h1 k hk e
      rw [hf k (by omega)] at this; cases this
    rw [h.keep (Nat.zero_le j) hj hno, h0] at hv
    exact hr.act.tmp t v hv
  · rw [hf i hi]
    constructor
    · intro e; cases e
    · intro e; omega
  · rw [hf j hj] at hLj; cases hLj
end
end
end Go.Proofs.YtafhmagifoapfaaGreatDoor
namespace Go.Proofs.YtafhmagifoapfaaGreatDoor
open Go.RowKit
noncomputable section
structure RC where
  o : Oper
  T : PT V
  v : V
  wn : Bool
  ef : Bool
  st : Nat
/-- The walk in the order of the text: what each operation comes to, the memory behind each that turns it. -/
def lexR (E : Env) (Z : Fns) (cf : CallX) (yf : YldX) (nt : Nat) (ops : Array Oper) : List Oper → PT V → Nat → PT O → Nat → Option (List RC × PT V × Nat × List (PT O × Nat))
  | [], T, st, _, _ => some ([], T, st, [])
  | o :: l, T, st, H, nx =>
    PT.force (restr T (namesE ops o)) fun R =>
    match wantE ops R o with
    | none => none
    | some false => match put1 nt T o.dst (.tup []) with
      | some T' => match lexR E Z cf yf nt ops l T' st H nx with
        | some (rs, Tf, sf, Ms) => some (⟨o, T, .tup [], false, false, st⟩ :: rs, Tf, sf, Ms)
        | none => none
      | none => none
    | some true => match evq E o R H with
      | some v => match put1 nt T o.dst v with
        | some T' => match lexR E Z cf yf nt ops l T' st H nx with
          | some (rs, Tf, sf, Ms) => some (⟨o, T, v, true, false, st⟩ :: rs, Tf, sf, Ms)
          | none => none
        | none => none
      | none => match eff1 E Z cf yf o R H nx with
        | some (v, H', nx') => match put1 nt T o.dst v with
          | some T' => match lexR E Z cf yf nt ops l T' (st + 1) H' nx' with
            | some (rs, Tf, sf, Ms) => some (⟨o, T, v, true, true, st⟩ :: rs, Tf, sf, (H', nx') :: Ms)
            | none => none
          | none => none
        | none => none
def TmOf (rs : List RC) (Tf : PT V) (j : Nat) : PT V := match rs[j]? with
  | some r => r.T
  | none => Tf
def stOf (rs : List RC) (sf : Nat) (j : Nat) : Nat := match rs[j]? with
  | some r => r.st
  | none => sf
def MOf (Ms : List (PT O × Nat)) (m : Nat) : PT O × Nat := match Ms[m]? with
  | some x => x
  | none => (.leaf, 0)
structure LexOk (E : Env) (Z : Fns) (cf : CallX) (yf : YldX) (nt : Nat) (ops : Array Oper) (l : List Oper) (T : PT V) (st : Nat) (L0 : List (PT O × Nat)) (rs : List RC) (Tf : PT V) (sf : Nat) : Prop where
  len : rs.length = l.length
  op : ∀ (j : Nat) (r : RC), rs[j]? = some r → l[j]? = some r.o
  t0 : TmOf rs Tf 0 = T
  put : ∀ (j : Nat) (r : RC), rs[j]? = some r → put1 nt r.T r.o.dst r.v = some (TmOf rs Tf (j + 1))
  s0 : stOf rs sf 0 = st
  sts : ∀ (j : Nat) (r : RC), rs[j]? = some r → stOf rs sf (j + 1) = r.st + (if r.ef then 1 else 0)
  want : ∀ (j : Nat) (r : RC), rs[j]? = some r → wantE ops (restr r.T (namesE ops r.o)) r.o = some r.wn
  skip : ∀ (j : Nat) (r : RC), rs[j]? = some r → r.wn = false → r.v = .tup [] ∧ r.ef = false
  quiet : ∀ (j : Nat) (r : RC), rs[j]? = some r → r.wn = true → r.ef = false → ∃ H, evq E r.o (restr r.T (namesE ops r.o)) H = some r.v
  low : ∀ (j : Nat) (r : RC), rs[j]? = some r → st ≤ r.st
  eff : ∀ (j : Nat) (r : RC), rs[j]? = some r → r.wn = true → r.ef = true → eff1 E Z cf yf r.o (restr r.T (namesE ops r.o)) (MOf L0 (r.st - st)).1 (MOf L0 (r.st - st)).2 = some (r.v, (MOf L0 (r.st - st + 1)).1, (MOf L0 (r.st - st + 1)).2)
theorem MOf_cons {x : PT O × Nat} {l : List (PT O × Nat)} {m : Nat} : MOf (x :: l) (m + 1) = MOf l m := by
  unfold MOf; rw [List.getElem?_cons_succ]
section
variable {E : Env} {Z : Fns} {cf : CallX} {yf : YldX} {nt : Nat} {ops : Array Oper}
theorem LexOk.cons {o : Oper} {l : List Oper} {T T' : PT V} {v : V} {wn ef : Bool} {st : Nat} {M0 M1 : PT O × Nat} {L0 : List (PT O × Nat)} {rs : List RC} {Tf : PT V} {sf : Nat}
    (h : LexOk E Z cf yf nt ops l T' (st + (if ef then 1 else 0)) L0 rs Tf sf) (hp : put1 nt T o.dst v = some T') (hw : wantE ops (restr T (namesE ops o)) o = some wn) (hs : wn = false → v = .tup [] ∧ ef = false)
    (hq : wn = true → ef = false → ∃ H, evq E o (restr T (namesE ops o)) H = some v) {L1 : List (PT O × Nat)} (hL : L1 = if ef then M0 :: L0 else L0) (h0 : ef = true → ∃ r, L0 = M1 :: r)
    (he : ef = true → eff1 E Z cf yf o (restr T (namesE ops o)) M0.1 M0.2 = some (v, M1.1, M1.2)) : LexOk E Z cf yf nt ops (o :: l) T st L1 (⟨o, T, v, wn, ef, st⟩ :: rs) Tf sf := by
  have htm : ∀ j, TmOf (⟨o, T, v, wn, ef, st⟩ :: rs) Tf (j + 1) = TmOf rs Tf j := fun j => by unfold TmOf; rw [List.getElem?_cons_succ]
  have hst : ∀ j, stOf (⟨o, T, v, wn, ef, st⟩ :: rs) sf (j + 1) = stOf rs sf j := fun j => by unfold stOf; rw [List.getElem?_cons_succ]
  refine ⟨by simp [h.len], fun j r hj => ?_, rfl, fun j r hj => ?_, rfl, fun j r hj => ?_, fun j r hj => ?_, fun j r hj => ?_, fun j r hj => ?_, fun j r hj => ?_, fun j r hj => ?_⟩
  · cases j with
    | zero =>
      simp only [List.getElem?_cons_zero, Option.some.injEq] at hj ⊢
      rw [← hj]
    | succ j => rw [List.getElem?_cons_succ] at hj ⊢; exact h.op j r hj
  · rw [htm]
    cases j with
    | zero =>
      simp only [List.getElem?_cons_zero, Option.some.injEq] at hj
      subst hj
      rw [h.t0]; exact hp
    | succ j => rw [List.getElem?_cons_succ] at hj; exact h.put j r hj
  · rw [hst]
    cases j with
    | zero =>
      simp only [List.getElem?_cons_zero, Option.some.injEq] at hj
      subst hj
      rw [h.s0]
    | succ j => rw [List.getElem?_cons_succ] at hj; exact h.sts j r hj
  · cases j with
    | zero =>
      simp only [List.getElem?_cons_zero, Option.some.injEq] at hj
      subst hj
      exact hw
    | succ j => rw [List.getElem?_cons_succ] at hj; exact h.want j r hj
  · cases j with
    | zero =>
      simp only [List.getElem?_cons_zero, Option.some.injEq] at hj
      subst hj
      exact hs
    | succ j => rw [List.getElem?_cons_succ] at hj; exact h.skip j r hj
  · cases j with
    | zero =>
      simp only [List.getElem?_cons_zero, Option.some.injEq] at hj
      subst hj
      exact hq
    | succ j => rw [List.getElem?_cons_succ] at hj; exact h.quiet j r hj
  · cases j with
    | zero =>
      simp only [List.getElem?_cons_zero, Option.some.injEq] at hj
      subst hj
      exact Nat.le_refl _
    | succ j =>
      rw [List.getElem?_cons_succ] at hj
      have := h.low j r hj
      omega
  · cases j with
    | zero =>
      simp only [List.getElem?_cons_zero, Option.some.injEq] at hj
      subst hj
      intro _ hef
      simp only at hef
      obtain ⟨L2, e2⟩ := h0 hef
      rw [hL, hef, e2]
      simp only [if_true, Nat.sub_self]
      have e1 := he hef
      exact e1
    | succ j =>
      rw [List.getElem?_cons_succ] at hj
      intro h1 h2
      have e := h.eff j r hj h1 h2
      have hlow := h.low j r hj
      rw [hL]
      cases ef with
      | false => simpa using e
      | true =>
        simp only [if_true] at e hlow ⊢
        have e3 : r.st - st = (r.st - (st + 1)) + 1 := by omega
        rw [e3, MOf_cons, MOf_cons]
        exact e
theorem lexR_ok : ∀ (l : List Oper) (T : PT V) (st : Nat) (H : PT O) (nx : Nat) (rs : List RC) (Tf : PT V) (sf : Nat) (Ms : List (PT O × Nat)), lexR E Z cf yf nt ops l T st H nx = some (rs, Tf, sf, Ms) → LexOk E Z cf yf nt ops l T st ((H, nx) :: Ms) rs Tf sf
  | [], T, st, H, nx, rs, Tf, sf, Ms, h => by
    simp only [lexR, Option.some.injEq, Prod.mk.injEq] at h
    obtain ⟨rfl, rfl, rfl, rfl⟩ := h
    exact ⟨rfl, fun j r hj => by simp at hj, rfl, fun j r hj => by simp at hj, rfl, fun j r hj => by simp at hj, fun j r hj => by simp at hj, fun j r hj => by simp at hj, fun j r hj => by simp at hj, fun j r hj => by simp at hj, fun j r hj => by simp at hj⟩
  | o :: l, T, st, H, nx, rs, Tf, sf, Ms, h => by
    unfold lexR at h
    rw [PT.force_eq] at h
    cases hw : wantE ops (restr T (namesE ops o)) o with
    | none => rw [hw] at h; cases h
    | some b =>
      rw [hw] at h
      cases b with
      | false =>
        simp only at h
        cases hp : put1 nt T o.dst (.tup []) with
        | none => rw [hp] at h; cases h
        | some T' =>
          rw [hp] at h
          simp only at h
          cases hl : lexR E Z cf yf nt ops l T' st H nx with
          | none => rw [hl] at h; cases h
          | some x =>
            obtain ⟨rs', Tf', sf', Ms'⟩ := x
            rw [hl] at h
            simp only [Option.some.injEq, Prod.mk.injEq] at h
            obtain ⟨rfl, rfl, rfl, rfl⟩ := h
            have ih := lexR_ok l T' st H nx rs' Tf' sf' Ms' hl
            exact LexOk.cons (ef := false) (M0 := (H, nx)) (M1 := (H, nx)) (by simpa using ih) hp hw (fun _ => ⟨rfl, rfl⟩) (fun e => by cases e) rfl (fun e => by cases e) (fun e => by cases e)
      | true =>
        simp only at h
        cases hq : evq E o (restr T (namesE ops o)) H with
        | some v =>
          rw [hq] at h
          simp only at h
          cases hp : put1 nt T o.dst v with
          | none => rw [hp] at h; cases h
          | some T' =>
            rw [hp] at h
            simp only at h
            cases hl : lexR E Z cf yf nt ops l T' st H nx with
            | none => rw [hl] at h; cases h
            | some x =>
              obtain ⟨rs', Tf', sf', Ms'⟩ := x
              rw [hl] at h
              simp only [Option.some.injEq, Prod.mk.injEq] at h
              obtain ⟨rfl, rfl, rfl, rfl⟩ := h
              have ih := lexR_ok l T' st H nx rs' Tf' sf' Ms' hl
              exact LexOk.cons (ef := false) (M0 := (H, nx)) (M1 := (H, nx)) (by simpa using ih) hp hw (fun e => by cases e) (fun _ _ => ⟨H, hq⟩) rfl (fun e => by cases e) (fun e => by cases e)
        | none =>
          rw [hq] at h
          simp only at h
          cases he : eff1 E Z cf yf o (restr T (namesE ops o)) H nx with
          | none => rw [he] at h; cases h
          | some y =>
            obtain ⟨v, H', nx'⟩ := y
            rw [he] at h
            simp only at h
            cases hp : put1 nt T o.dst v with
            | none => rw [hp] at h; cases h
            | some T' =>
              rw [hp] at h
              simp only at h
              cases hl : lexR E Z cf yf nt ops l T' (st + 1) H' nx' with
              | none => rw [hl] at h; cases h
              | some x =>
                obtain ⟨rs', Tf', sf', Ms'⟩ := x
                rw [hl] at h
                simp only [Option.some.injEq, Prod.mk.injEq] at h
                obtain ⟨rfl, rfl, rfl, rfl⟩ := h
                have ih := lexR_ok l T' (st + 1) H' nx' rs' Tf' sf' Ms' hl
                exact LexOk.cons (ef := true) (M0 := (H, nx)) (M1 := (H', nx')) (by simpa using ih) hp hw (fun e => by cases e) (fun _ e => by cases e) rfl (fun _ => ⟨_, rfl⟩) (fun _ => he)
end
/-- Whether two values are the same word. -/
def kindEq (a b : IntKind) : Bool := Nat.beq (kidx a) (kidx b)
mutual
def veq : V → V → Bool
  | .b x, .b y => x == y
  | .i k n, .i k' n' => kindEq k k' && ieq n n'
  | .s l x, .s l' x' => Nat.beq l l' && Nat.beq x x'
  | .p n o, .p n' o' => Nat.beq n n' && Nat.beq o o'
  | .pn, .pn => true
  | .sl n o l c, .sl n' o' l' c' => Nat.beq n n' && (Nat.beq o o' && (Nat.beq l l' && Nat.beq c c'))
  | .slu n o l c, .slu n' o' l' c' => Nat.beq n n' && (Nat.beq o o' && (Nat.beq l l' && Nat.beq c c'))
  | .sln, .sln => true
  | .sz, .sz => true
  | .mp n, .mp n' => Nat.beq n n'
  | .mn, .mn => true
  | .nf, .nf => true
  | .ni, .ni => true
  | .ifc t v, .ifc t' v' => Nat.beq t t' && veq v v'
  | .agg l, .agg l' => veqs l l'
  | .tup l, .tup l' => veqs l l'
  | .f n a b, .f n' a' b' => Nat.beq n n' && (veqs a a' && veqs b b')
  | _, _ => false
def veqs : List V → List V → Bool
  | [], [] => true
  | a :: l, b :: r => veq a b && veqs l r
  | _, _ => false
end
theorem ieq_true {a b : Int} (h : ieq a b = true) : a = b := by rw [ieq_eq] at h; simpa using h
mutual
theorem veq_ok : ∀ {a b : V}, veq a b = true → a = b
  | .b x, b, h => by cases b <;> simp_all [veq]
  | .i k n, b, h => by
    cases b <;> simp only [veq, Bool.and_eq_true, Bool.false_eq_true] at h
    rw [kidx_inj h.1, ieq_true h.2]
  | .s l x, b, h => by
    cases b <;> simp only [veq, Bool.and_eq_true, Bool.false_eq_true] at h
    rw [Nat.eq_of_beq_eq_true h.1, Nat.eq_of_beq_eq_true h.2]
  | .p n o, b, h => by
    cases b <;> simp only [veq, Bool.and_eq_true, Bool.false_eq_true] at h
    rw [Nat.eq_of_beq_eq_true h.1, Nat.eq_of_beq_eq_true h.2]
  | .pn, b, h => by cases b <;> simp_all [veq]
  | .sl n o l c, b, h => by
    cases b <;> simp only [veq, Bool.and_eq_true, Bool.false_eq_true] at h
    rw [Nat.eq_of_beq_eq_true h.1, Nat.eq_of_beq_eq_true h.2.1, Nat.eq_of_beq_eq_true h.2.2.1, Nat.eq_of_beq_eq_true h.2.2.2]
  | .slu n o l c, b, h => by
    cases b <;> simp only [veq, Bool.and_eq_true, Bool.false_eq_true] at h
    rw [Nat.eq_of_beq_eq_true h.1, Nat.eq_of_beq_eq_true h.2.1, Nat.eq_of_beq_eq_true h.2.2.1, Nat.eq_of_beq_eq_true h.2.2.2]
  | .sln, b, h => by cases b <;> simp_all [veq]
  | .sz, b, h => by cases b <;> simp_all [veq]
  | .mp n, b, h => by
    cases b <;> simp only [veq, Bool.false_eq_true] at h
    rw [Nat.eq_of_beq_eq_true h]
  | .mn, b, h => by cases b <;> simp_all [veq]
  | .nf, b, h => by cases b <;> simp_all [veq]
  | .ni, b, h => by cases b <;> simp_all [veq]
  | .ifc t v, b, h => by
    cases b <;> simp only [veq, Bool.and_eq_true, Bool.false_eq_true] at h
    rw [Nat.eq_of_beq_eq_true h.1, veq_ok h.2]
  | .agg l, b, h => by
    cases b <;> simp only [veq, Bool.false_eq_true] at h
    rw [veqs_ok h]
  | .tup l, b, h => by
    cases b <;> simp only [veq, Bool.false_eq_true] at h
    rw [veqs_ok h]
  | .f n x y, b, h => by
    cases b <;> simp only [veq, Bool.and_eq_true, Bool.false_eq_true] at h
    rw [Nat.eq_of_beq_eq_true h.1, veqs_ok h.2.1, veqs_ok h.2.2]
  | .y n, b, h => by cases b <;> simp [veq] at h
theorem veqs_ok : ∀ {a b : List V}, veqs a b = true → a = b
  | [], b, h => by cases b <;> simp_all [veqs]
  | x :: l, b, h => by
    cases b with
    | nil => simp [veqs] at h
    | cons y r =>
      simp only [veqs, Bool.and_eq_true] at h
      rw [veq_ok h.1, veqs_ok h.2]
end
/-- Operations that do not look at memory. -/
def pureO (o : Oper) : Bool :=
  match o.op with
  | .load _ _ => false
  | .convert _ _ _ => false
  | .lookup _ _ _ _ => false
  | .call _ => false
  | _ => true
theorem pureO_ok {E : Env} {o : Oper} (h : pureO o = true) (T : PT V) (H H' : PT O) : evq E o T H = evq E o T H' := by
  obtain ⟨dst, op, type, pos, after, guard⟩ := o
  unfold pureO at h
  unfold evq
  cases op <;> first | rfl | (cases h)
end
end Go.Proofs.YtafhmagifoapfaaGreatDoor
namespace Go.Proofs.YtafhmagifoapfaaGreatDoor
open Go.RowKit
noncomputable section
def allLt (f : Nat → Bool) : Nat → Bool
  | 0 => true
  | n + 1 => cond (f n) (allLt f n) false
theorem allLt_ok {f : Nat → Bool} : ∀ {n : Nat}, allLt f n = true → ∀ j, j < n → f j = true
  | n + 1, h, j, hj => by
    unfold allLt at h
    cases hc : f n with
    | false => rw [hc] at h; cases h
    | true =>
      rw [hc] at h
      by_cases e : j = n
      · rw [e]; exact hc
      · exact allLt_ok h j (by omega)
def imp (a b : Bool) : Bool := cond a b true
theorem imp_ok {a b : Bool} (h : imp a b = true) (ha : a = true) : b = true := by subst ha; exact h
def bitAt (B : List Nat) (j i : Nat) : Bool := match B[j]? with
  | some b => b.testBit i
  | none => false
def befStep (acc : List Nat) (o : Oper) : Nat := o.after.toList.foldl (fun s e => cond (Region.binds .any e) (Nat.lor (Nat.lor s (2 ^ e.on)) (match acc[e.on]? with
  | some b => b
  | none => 0)) s) 0
def befL : List Oper → List Nat → List Nat
  | [], acc => acc
  | o :: l, acc => nforce (befStep acc o) fun b => befL l (acc ++ [b])
def dstIn (ops : Array Oper) (a b : Oper) : Bool := match a.dst with
  | some t => memN t (namesE ops b)
  | none => false
def withO (L : List Oper) (j : Nat) (f : Oper → Bool) : Bool := match L[j]? with
  | some o => f o
  | none => false
def edgeB (L : List Oper) (n : Nat) : Bool := allLt (fun j => withO L j fun o => o.after.toList.all fun e => imp (Region.binds .any e) (Nat.blt e.on j)) n
def befB (L : List Oper) (B : List Nat) (n : Nat) : Bool := allLt (fun j => withO L j fun o => allLt (fun i => imp (bitAt B j i) (o.after.toList.any fun e => Region.binds .any e && (Nat.beq e.on i || bitAt B e.on i))) n) n
def confL (ops : Array Oper) (L : List Oper) (B : List Nat) (n : Nat) : Bool := allLt (fun j => withO L j fun b => allLt (fun i => withO L i fun a => imp (dstIn ops a b || dstIn ops b a) (bitAt B j i)) j) n
def statB (ops : Array Oper) (L : List Oper) (B : List Nat) (n : Nat) : Bool := edgeB L n && (befB L B n && confL ops L B n)
def withR (rs : List RC) (j : Nat) (f : RC → Bool) : Bool := match rs[j]? with
  | some r => f r
  | none => false
def chainB (rs : List RC) (B : List Nat) (n : Nat) : Bool := allLt (fun j => withR rs j fun r => imp r.ef (allLt (fun i => withR rs i fun q => imp q.ef (bitAt B j i)) j)) n
def quietB (E : Env) (ops : Array Oper) (rs : List RC) (B : List Nat) (L0 : List (PT O × Nat)) (sf n : Nat) : Bool :=
  allLt (fun j => withR rs j fun r => imp (r.wn && (!r.ef && !pureO r.o)) (allLt (fun m =>
    imp (allLt (fun i => withR rs i fun q => imp (q.ef && bitAt B j i) (Nat.blt q.st m)) n && allLt (fun i => withR rs i fun q => imp (q.ef && bitAt B i j) (Nat.ble m q.st)) n)
      (match evq E r.o (restr r.T (namesE ops r.o)) (MOf L0 m).1 with
      | some v => veq v r.v
      | none => false)) (sf + 1))) n
/-- A region that draws its order. -/
def drawX (E : Env) (Z : Fns) (cf : CallX) (yf : YldX) (nt : Nat) (ops : Array Oper) (s : SX) : Option SX :=
  cond (statB ops ops.toList (befL ops.toList []) ops.toList.length) (match lexR E Z cf yf nt ops ops.toList s.T 0 s.H s.nx with
    | none => none
    | some (rs, Tf, sf, Ms) => cond (chainB rs (befL ops.toList []) ops.toList.length && quietB E ops rs (befL ops.toList []) ((s.H, s.nx) :: Ms) sf ops.toList.length) (match MOf ((s.H, s.nx) :: Ms) sf with
      | (H, nx) => some ⟨Tf, H, nx, s.ds⟩) none) none
def planOf (rs : List RC) (Tf : PT V) (sf : Nat) (L0 : List (PT O × Nat)) (B : List Nat) : Plan where
  o j := match rs[j]? with
    | some r => r.o
    | none => default
  Tm := TmOf rs Tf
  vl j := match rs[j]? with
    | some r => r.v
    | none => .pn
  wn j := match rs[j]? with
    | some r => r.wn
    | none => false
  ef j := match rs[j]? with
    | some r => r.ef
    | none => false
  st := stOf rs sf
  M := MOf L0
  B j := match B[j]? with
    | some b => b
    | none => 0
theorem withO_ok {L : List Oper} {j : Nat} {f : Oper → Bool} {o : Oper} (h : withO L j f = true) (ho : L[j]? = some o) : f o = true := by
  unfold withO at h; rw [ho] at h; exact h
theorem withR_ok {L : List RC} {j : Nat} {f : RC → Bool} {o : RC} (h : withR L j f = true) (ho : L[j]? = some o) : f o = true := by
  unfold withR at h; rw [ho] at h; exact h
theorem bitAt_eq (B : List Nat) (j i : Nat) : bitAt B j i = (match B[j]? with
    | some b => b
    | none => 0).testBit i := by
  unfold bitAt
  cases B[j]? with
  | none => simp
  | some b => rfl
theorem dstIn_of {ops : Array Oper} {a b : Oper} (h : ∃ t, a.dst = some t ∧ t ∈ namesE ops b) : dstIn ops a b = true := by
  obtain ⟨t, h1, h2⟩ := h
  unfold dstIn
  rw [h1]
  simp only
  rw [memN_eq, List.contains_iff_mem]; exact h2
section
variable {E : Env} {Z : Fns} {cf : CallX} {yf : YldX} {nt : Nat} {ops : Array Oper}
set_option maxHeartbeats 1000000 in
theorem planOf_ok {T : PT V} {M0 : PT O × Nat} {rs : List RC} {Tf : PT V} {sf : Nat} {Ms : List (PT O × Nat)} {B : List Nat} (h : LexOk E Z cf yf nt ops ops.toList T 0 (M0 :: Ms) rs Tf sf) (hs : statB ops ops.toList B ops.toList.length = true) (hc : chainB rs B ops.toList.length = true) (hq : quietB E ops rs B (M0 :: Ms) sf ops.toList.length = true) :
    PlanOk E Z cf yf nt ops (planOf rs Tf sf (M0 :: Ms) B) := by
  have hn : ops.toList.length = ops.size := Array.length_toList
  simp only [statB, Bool.and_eq_true] at hs
  obtain ⟨s1, s2, s3⟩ := hs
  rw [hn] at s1 s2 s3 hc hq
  have hr : ∀ j, j < ops.size → ∃ r, rs[j]? = some r := fun j hj => ⟨rs[j]'(by rw [h.len, hn]; exact hj), List.getElem?_eq_getElem _⟩
  have hend : stOf rs sf ops.size = sf := by
    unfold stOf
    rw [List.getElem?_eq_none (by rw [h.len, hn]; exact Nat.le_refl _)]
  refine ⟨fun j hj => ?_, fun j hj e he hb => ?_, fun j hj i hi hb => ?_, fun j hj i hi hcf => ?_, fun j hj => ?_, fun j hj => ?_, fun j hj hw => ?_, fun j hj hw he m hm h1 h2 => ?_, fun j hj hw he => ?_, h.s0, fun j hj => ?_, fun j hj he i hi hei => ?_⟩
  · obtain ⟨r, e⟩ := hr j hj
    simp only [planOf, e]
    rw [← Array.getElem?_toList]; exact h.op j r e
  · obtain ⟨r, e'⟩ := hr j hj
    simp only [planOf, e'] at he
    have := withO_ok (allLt_ok s1 j hj) (h.op j r e')
    have := List.all_eq_true.1 this e (Array.mem_toList_iff.2 he)
    exact Nat.le_of_ble_eq_true (imp_ok this hb)
  · obtain ⟨r, e'⟩ := hr j hj
    simp only [planOf, e'] at hb ⊢
    rw [← bitAt_eq] at hb
    have := allLt_ok (withO_ok (allLt_ok s2 j hj) (h.op j r e')) i hi
    obtain ⟨e, k1, k2⟩ := List.any_eq_true.1 (imp_ok this hb)
    simp only [Bool.and_eq_true, Bool.or_eq_true] at k2
    refine ⟨e, Array.mem_toList_iff.1 k1, k2.1, ?_⟩
    rcases k2.2 with k3 | k3
    · exact .inl (Nat.eq_of_beq_eq_true k3)
    · rw [bitAt_eq] at k3; exact .inr k3
  · obtain ⟨r, e'⟩ := hr j hj
    obtain ⟨q, e2⟩ := hr i (by omega)
    simp only [planOf, e', e2] at hcf ⊢
    rw [← bitAt_eq]
    have := withO_ok (allLt_ok (withO_ok (allLt_ok s3 j hj) (h.op j r e')) i hi) (h.op i q e2)
    refine imp_ok this ?_
    rcases hcf with hcf | hcf
    · rw [dstIn_of hcf]; rfl
    · rw [dstIn_of hcf]; simp
  · obtain ⟨r, e'⟩ := hr j hj
    have : TmOf rs Tf j = r.T := by unfold TmOf; rw [e']
    simp only [planOf, e', this]
    exact h.put j r e'
  · obtain ⟨r, e'⟩ := hr j hj
    have : TmOf rs Tf j = r.T := by unfold TmOf; rw [e']
    simp only [planOf, e', this]
    exact h.want j r e'
  · obtain ⟨r, e'⟩ := hr j hj
    simp only [planOf, e'] at hw ⊢
    exact h.skip j r e' hw
  · obtain ⟨r, e'⟩ := hr j hj
    have hT : TmOf rs Tf j = r.T := by unfold TmOf; rw [e']
    simp only [planOf, e', hT] at hw he hm h1 h2 ⊢
    rw [hend] at hm
    have hqj := withR_ok (allLt_ok hq j hj) e'
    cases hp : pureO r.o with
    | true =>
      obtain ⟨H, hH⟩ := h.quiet j r e' hw he
      rw [pureO_ok hp _ _ H]; exact hH
    | false =>
      have := allLt_ok (imp_ok hqj (by simp [hw, he, hp])) m (by omega)
      have := imp_ok this (by
        rw [Bool.and_eq_true]
        constructor
        · have : ∀ k, k ≤ ops.size → allLt (fun i => withR rs i fun q => imp (q.ef && bitAt B j i) (Nat.blt q.st m)) k = true := by
            intro k
            induction k with
            | zero => intro _; rfl
            | succ k ih =>
              intro hk
              unfold allLt
              obtain ⟨q, eq⟩ := hr k (by omega)
              have hs1 := h1 k (by omega)
              simp only [eq] at hs1
              have hq1 : withR rs k (fun q => imp (q.ef && bitAt B j k) (Nat.blt q.st m)) = true := by
                unfold withR
                rw [eq]
                simp only
                cases h3 : (q.ef && bitAt B j k) with
                | false => rfl
                | true =>
                  simp only [Bool.and_eq_true] at h3
                  rw [bitAt_eq] at h3
                  have := hs1 h3.1 h3.2
                  have hst : stOf rs sf k = q.st := by unfold stOf; rw [eq]
                  rw [hst] at this
                  exact Nat.ble_eq_true_of_le this
              rw [hq1]
              exact ih (by omega)
          exact this ops.size (Nat.le_refl _)
        · have : ∀ k, k ≤ ops.size → allLt (fun i => withR rs i fun q => imp (q.ef && bitAt B i j) (Nat.ble m q.st)) k = true := by
            intro k
            induction k with
            | zero => intro _; rfl
            | succ k ih =>
              intro hk
              unfold allLt
              obtain ⟨q, eq⟩ := hr k (by omega)
              have hs1 := h2 k (by omega)
              simp only [eq] at hs1
              have hq1 : withR rs k (fun q => imp (q.ef && bitAt B k j) (Nat.ble m q.st)) = true := by
                unfold withR
                rw [eq]
                simp only
                cases h3 : (q.ef && bitAt B k j) with
                | false => rfl
                | true =>
                  simp only [Bool.and_eq_true] at h3
                  rw [bitAt_eq] at h3
                  have := hs1 h3.1 h3.2
                  have hst : stOf rs sf k = q.st := by unfold stOf; rw [eq]
                  rw [hst] at this
                  exact Nat.ble_eq_true_of_le this
              rw [hq1]
              exact ih (by omega)
          exact this ops.size (Nat.le_refl _))
      split at this
      · rename_i v hv
        rw [hv, veq_ok this]
      · cases this
  · obtain ⟨r, e'⟩ := hr j hj
    have hT : TmOf rs Tf j = r.T := by unfold TmOf; rw [e']
    have hst : stOf rs sf j = r.st := by unfold stOf; rw [e']
    simp only [planOf, e', hT, hst] at hw he ⊢
    have := h.eff j r e' hw he
    rw [Nat.sub_zero] at this
    exact this
  · obtain ⟨r, e'⟩ := hr j hj
    have hst : stOf rs sf j = r.st := by unfold stOf; rw [e']
    simp only [planOf, e', hst]
    exact h.sts j r e'
  · obtain ⟨r, e'⟩ := hr j hj
    obtain ⟨q, e2⟩ := hr i (by omega)
    simp only [planOf, e', e2] at he hei ⊢
    rw [← bitAt_eq]
    exact imp_ok (withR_ok (allLt_ok (imp_ok (withR_ok (allLt_ok hc j hj) e') he) i hi) e2) hei
end
section
variable {P : Program} {w0 : World} {E : Env} {Z : Fns} {cf : CallX} {yf : YldX} {nt : Nat} {ops : Array Oper} {r : Option Nat} {n : Nat} {Q : Exit → Act → World → Prop}
theorem drawX_ok (hP : P.follows .mixedOrders = true) (hE : EnvOk P E) (hZ : FnsOk P Z) (hC : CallOk P w0 E.G cf) (hY : YldOk P w0 E.G yf) {s s' : SX} (h : drawX E Z cf yf nt ops s = some s') {σ : Sig} {a : Act} {w : World} (hr : RX w0 E.G nt σ s a w) {id : Nat}
    (hq : ∀ σ' a' w', σ.le σ' → RX w0 E.G nt σ' s' a' w' → Q .normal a' w') : (Code.region id ops true).wpIn (FW r) n P Q a w := by
  unfold drawX at h
  cases hs : statB ops ops.toList (befL ops.toList []) ops.toList.length with
  | false => rw [hs] at h; cases h
  | true =>
    rw [hs] at h
    simp only [cond_true] at h
    split at h
    · cases h
    · rename_i rs Tf sf Ms hl
      cases hd : (chainB rs (befL ops.toList []) ops.toList.length && quietB E ops rs (befL ops.toList []) ((s.H, s.nx) :: Ms) sf ops.toList.length) with
      | false => rw [hd] at h; cases h
      | true =>
        rw [hd] at h
        simp only [cond_true, Option.some.injEq] at h
        rw [Bool.and_eq_true] at hd
        have hlex := lexR_ok _ _ _ _ _ _ _ _ _ hl
        have hp := planOf_ok hlex hs hd.1 hd.2
        have hn : rs.length = ops.size := by rw [hlex.len]; exact Array.length_toList
        refine draw_ok hP hE hZ hC hY hp hlex.t0 rfl hr fun σ' a' w' hl' hr' => hq σ' a' w' hl' ?_
        have e1 : (planOf rs Tf sf ((s.H, s.nx) :: Ms) (befL ops.toList [])).Tm ops.size = Tf := by
          show TmOf rs Tf ops.size = Tf
          unfold TmOf
          rw [List.getElem?_eq_none (by omega)]
        have e2 : (planOf rs Tf sf ((s.H, s.nx) :: Ms) (befL ops.toList [])).st ops.size = sf := by
          show stOf rs sf ops.size = sf
          unfold stOf
          rw [List.getElem?_eq_none (by omega)]
        rw [e1, e2] at hr'
        rw [← h]
        exact hr'
end
end
end Go.Proofs.YtafhmagifoapfaaGreatDoor
namespace Go.Proofs.YtafhmagifoapfaaGreatDoor
open Go.RowKit
noncomputable section
def upd (L : Nat → Bool) (i : Nat) : Nat → Bool := fun j => if j = i then true else L j
structure PB (nt : Nat) (ops : Array Oper) (p : Plan) : Prop where
  op : ∀ j, j < ops.size → ops[j]? = some (p.o j)
  edge : ∀ j, j < ops.size → ∀ e ∈ (p.o j).after, Region.binds .any e = true → e.on < j
  bef : ∀ j, j < ops.size → ∀ i, i < ops.size → (p.B j).testBit i = true → ∃ e ∈ (p.o j).after, Region.binds .any e = true ∧ (e.on = i ∨ (p.B e.on).testBit i = true)
  conf : ∀ j, j < ops.size → ∀ i, i < j → confE ops (p.o i) (p.o j) → (p.B j).testBit i = true
  put : ∀ j, j < ops.size → put1 nt (p.Tm j) (p.o j).dst (p.vl j) = some (p.Tm (j + 1))
  want : ∀ j, j < ops.size → wantE ops (restr (p.Tm j) (namesE ops (p.o j))) (p.o j) = some (p.wn j)
  skip : ∀ j, j < ops.size → p.wn j = false → p.vl j = .tup []
section
variable {nt : Nat} {ops : Array Oper} {p : Plan}
theorem PB.keep (h : PB nt ops p) {t : Nat} : ∀ {i j : Nat}, i ≤ j → j ≤ ops.size → (∀ k, i ≤ k → k < j → (p.o k).dst ≠ some t) → (p.Tm j).get t = (p.Tm i).get t := by
  intro i j hij hj hno
  induction j with
  | zero => rw [Nat.le_zero.1 hij]
  | succ j ih =>
    by_cases e : i = j + 1
    · rw [e]
    · have h1 := ih (by omega) (by omega) (fun k hk1 hk2 => hno k hk1 (by omega))
      have h2 := h.put j (by omega)
      have h3 := hno j (by omega) (by omega)
      rw [← h1]
      unfold put1 at h2
      cases hd : (p.o j).dst with
      | none =>
        rw [hd] at h2
        simp only [Option.some.injEq] at h2
        rw [h2]
      | some d =>
        rw [hd] at h2 h3
        simp only at h2
        cases hc : Nat.blt d nt with
        | false => rw [hc] at h2; cases h2
        | true =>
          rw [hc] at h2
          simp only [cond_true, PT.force_eq, Option.some.injEq] at h2
          rw [← h2, PT.get_set, if_neg (fun e => h3 (by rw [e]))]
theorem PB.closed (h : PB nt ops p) {L : Nat → Bool} (hd : ∀ j, j < ops.size → L j = true → ∀ e ∈ (p.o j).after, Region.binds .any e = true → L e.on = true) : ∀ (j : Nat), j < ops.size → L j = true → ∀ i, i < ops.size → (p.B j).testBit i = true → L i = true := by
  intro j
  induction j using Nat.strongRecOn with
  | _ j ih =>
    intro hj hL i hi hb
    obtain ⟨e, he, hbn, h1 | h1⟩ := h.bef j hj i hi hb
    · rw [← h1]; exact hd j hj hL e he hbn
    · have hlt := h.edge j hj e he hbn
      exact ih e.on hlt (by omega) (hd j hj hL e he hbn) i hi h1
theorem PB.ahead (h : PB nt ops p) {L : Nat → Bool} (hd : ∀ j, j < ops.size → L j = true → ∀ e ∈ (p.o j).after, Region.binds .any e = true → L e.on = true) {j : Nat} (hj : j < ops.size) (hr : ∀ e ∈ (p.o j).after, Region.binds .any e = true → L e.on = true) {i : Nat} (hi : i < ops.size) (hb : (p.B j).testBit i = true) : L i = true := by
  obtain ⟨e, he, hbn, h1 | h1⟩ := h.bef j hj i hi hb
  · rw [← h1]; exact hr e he hbn
  · have hlt := h.edge j hj e he hbn
    exact h.closed hd e.on (by omega) (hr e he hbn) i hi h1
/-- Where an order stands. -/
structure GI (G nt : Nat) (ops : Array Oper) (p : Plan) (ds : List DV) (I : (Nat → Bool) → Sig → World → Prop) (L : Nat → Bool) (σ : Sig) (a : Act) (w : World) : Prop where
  globs : Globs σ G
  mem : I L σ w
  tmp : ∀ j, j ≤ ops.size → (j < ops.size → L j = false) → ∀ t, (j < ops.size → t ∈ namesE ops (p.o j)) → (∀ i, i < j → (p.o i).dst = some t → L i = true) → (∀ i, j ≤ i → i < ops.size → (p.o i).dst = some t → L i = false) → ∀ v, (p.Tm j).get t = some v → ∃ u, a.tmps[t]? = some u ∧ VR σ v u
  size : a.tmps.size = nt
  defers : DR σ ds a.defers
  down : ∀ j, j < ops.size → L j = true → ∀ e ∈ (p.o j).after, Region.binds .any e = true → L e.on = true
theorem GI.step (h : PB nt ops p) {G : Nat} {ds : List DV} {I : (Nat → Bool) → Sig → World → Prop} {L : Nat → Bool} {σ : Sig} {a : Act} {w : World} (hI : GI G nt ops p ds I L σ a w) {i : Nat} (hi : i < ops.size) (hLi : L i = false) (hr : ∀ e ∈ (p.o i).after, Region.binds .any e = true → L e.on = true)
    {σ' : Sig} {u : Value} {w' : World} (hl : σ.le σ') (hv : VR σ' (p.vl i) u) (hm : I (upd L i) σ' w') : GI G nt ops p ds I (upd L i) σ' (a.put (p.o i).dst u) w' := by
  have hput := h.put i hi
  have Li1 : upd L i i = true := by unfold upd; rw [if_pos rfl]
  have Lo1 : ∀ j, j ≠ i → upd L i j = L j := fun j hj => by unfold upd; rw [if_neg hj]
  refine ⟨hI.globs.le hl, hm, fun j hj hLj t ht hw1 hw2 v hv' => ?_, ?_, ?_, fun j hj hLj e he hb => ?_⟩
  · by_cases hd : (p.o i).dst = some t
    · have hij : i < j := by
        by_cases hc : i < j
        · exact hc
        · have := hw2 i (by omega) hi hd
          rw [Li1] at this; cases this
      have hlast : ∀ k, i + 1 ≤ k → k < j → (p.o k).dst ≠ some t := fun k hk1 hk2 hdk => by
        have h1 := hw1 k hk2 hdk
        rw [Lo1 k (by omega)] at h1
        have hb := h.conf k (by omega) i (by omega) (.inl ⟨t, hd, by unfold namesE; rw [hdk]; simp⟩)
        have := h.closed hI.down k (by omega) h1 i hi hb
        rw [hLi] at this; cases this
      have hk := h.keep (t := t) (show i + 1 ≤ j from hij) hj hlast
      rw [hk] at hv'
      unfold put1 at hput
      rw [hd] at hput
      simp only at hput
      cases hc : Nat.blt t nt with
      | false => rw [hc] at hput; cases hput
      | true =>
        rw [hc] at hput
        have hc : t < nt := Nat.le_of_ble_eq_true hc
        simp only [cond_true, PT.force_eq, Option.some.injEq] at hput
        rw [← hput, PT.get_set, if_pos rfl] at hv'
        simp only [Option.some.injEq] at hv'
        subst hv'
        exact ⟨u, by rw [hd]; simp [Act.put, hI.size, hc], hv⟩
    · have hne : ∀ k, (p.o k).dst = some t → k ≠ i := fun k hk e => by rw [e] at hk; exact hd hk
      obtain ⟨x, h1, h2⟩ := hI.tmp j hj (fun hlt => by
          have := hLj hlt
          by_cases e : j = i
          · rw [e, Li1] at this; cases this
          · rw [Lo1 j e] at this; exact this) t ht
        (fun k hk hdk => by have := hw1 k hk hdk; rw [Lo1 k (hne k hdk)] at this; exact this)
        (fun k hk1 hk2 hdk => by have := hw2 k hk1 hk2 hdk; rw [Lo1 k (hne k hdk)] at this; exact this) v hv'
      refine ⟨x, ?_, h2.le hl⟩
      cases hdd : (p.o i).dst with
      | none => exact h1
      | some d =>
        have hdt : d ≠ t := fun e => hd (by rw [hdd, e])
        simp only [Act.put]
        rw [Array.getElem?_setIfInBounds_ne hdt]; exact h1
  · cases hdd : (p.o i).dst with
    | none => exact hI.size
    | some d => simp [Act.put, hI.size]
  · have : (a.put (p.o i).dst u).defers = a.defers := by cases (p.o i).dst <;> rfl
    rw [this]; exact hI.defers.le hl
  · by_cases e1 : e.on = i
    · rw [e1]; exact Li1
    · rw [Lo1 _ e1]
      by_cases e2 : j = i
      · subst e2; exact hr e he hb
      · rw [Lo1 j e2] at hLj
        exact hI.down j hj hLj e he hb
end
section
variable {P : Program} {w0 : World} {E : Env} {Z : Fns} {cf : CallX} {yf : YldX} {nt : Nat} {ops : Array Oper} {p : Plan} {r : Option Nat} {n : Nat} {Q : Exit → Act → World → Prop}
theorem gen_end (_h : PB nt ops p) {G : Nat} {ds : List DV} {I : (Nat → Bool) → Sig → World → Prop} {L : Nat → Bool} {σ : Sig} {a : Act} {w : World} (hI : GI G nt ops p ds I L σ a w) (hall : ∀ j, j < ops.size → L j = true) {H : PT O} {nx : Nat} (hF : HR w0 G σ H nx w) :
    RX w0 G nt σ ⟨p.Tm ops.size, H, nx, ds⟩ a w := by
  refine ⟨hI.globs, hF, ⟨fun t v hv => ?_⟩, hI.size, hI.defers⟩
  exact hI.tmp ops.size (Nat.le_refl _) (fun hlt => absurd hlt (Nat.lt_irrefl _)) t (fun hlt => absurd hlt (Nat.lt_irrefl _)) (fun i hi _ => hall i hi) (fun i h1 h2 _ => by omega) v hv
/-- What one operation asks. -/
def StepOk (P : Program) (G _nt : Nat) (ops : Array Oper) (p : Plan) (r : Option Nat) (n : Nat) (Q : Exit → Act → World → Prop) (I : (Nat → Bool) → Sig → World → Prop) : Prop :=
  ∀ j, j < ops.size → ∀ L σ a w, L j = false → (∀ i, i < ops.size → (p.B j).testBit i = true → L i = true) → Globs σ G → I L σ w → AR σ (restr (p.Tm j) (namesE ops (p.o j))) a →
    (p.wn j = false → I (upd L j) σ w) ∧ (p.wn j = true → ∀ K : Act → World → Prop, (∀ σ' u w', σ.le σ' → VR σ' (p.vl j) u → I (upd L j) σ' w' → K (a.put (p.o j).dst u) w') → (p.o j).wpIn (FW r) n P a w K Q)
theorem draw_gen (h : PB nt ops p) {I : (Nat → Bool) → Sig → World → Prop} {G : Nat} (hS : StepOk P G nt ops p r n Q I) {ds : List DV} {H : PT O} {nx : Nat} (hF : ∀ L σ w, (∀ j, j < ops.size → L j = true) → I L σ w → HR w0 G σ H nx w) : ∀ (fuel : Nat) (listed : Array Bool) (σ : Sig) (a : Act) (w : World), listed.size = ops.size → unl listed ops.size = fuel →
    GI G nt ops p ds I (fun j => listed.getD j true) σ a w → (∀ σ' a' w', σ.le σ' → RX w0 G nt σ' ⟨p.Tm ops.size, H, nx, ds⟩ a' w' → Q .normal a' w') →
    wpAnyIn (FW r) n P .any ops Q fuel listed a w
  | 0, listed, σ, a, w, hsz, hu, hI, hq => by
    have hall := unl_zero listed hu
    refine ⟨?_, hq σ a w (Sig.le_refl σ) (gen_end h hI hall (hF _ σ w hall hI.mem))⟩
    cases hr : Region.ready .any ops listed with
    | nil => rfl
    | cons i l =>
      have hi : i ∈ Region.ready .any ops listed := by rw [hr]; exact List.mem_cons_self
      obtain ⟨h1, o, ho, _⟩ := mem_ready.1 hi
      have hlt : i < ops.size := (Array.getElem?_eq_some_iff.1 ho).1
      rw [hall i hlt] at h1; cases h1
  | fuel + 1, listed, σ, a, w, hsz, hu, hI, hq => by
    have hgd : ∀ k, k < ops.size → listed.getD k false = listed.getD k true := fun k hk => by
      simp [Array.getD, show k < listed.size by omega]
    refine ⟨fun hr => ?_, fun i hi => ?_⟩
    · -- nothing may come up: all is listed
      have hall : ∀ j, j < ops.size → listed.getD j true = true := by
        intro j
        induction j using Nat.strongRecOn with
        | _ j ih =>
          intro hj
          cases hc : listed.getD j true with
          | true => rfl
          | false =>
            have : j ∈ Region.ready .any ops listed := mem_ready.2 ⟨hc, p.o j, h.op j hj, fun e he hb => by
              have hlt := h.edge j hj e he hb
              rw [hgd e.on (by omega)]
              exact ih e.on hlt (by omega)⟩
            rw [hr] at this; cases this
      exact hq σ a w (Sig.le_refl σ) (gen_end h hI hall (hF _ σ w hall hI.mem))
    · obtain ⟨hLi, o, ho, hpre⟩ := mem_ready.1 hi
      have hlt : i < ops.size := (Array.getElem?_eq_some_iff.1 ho).1
      have hop := h.op i hlt
      rw [ho] at hop
      simp only [Option.some.injEq] at hop
      subst hop
      have hpre' : ∀ e ∈ (p.o i).after, Region.binds .any e = true → listed.getD e.on true = true := fun e he hb => by
        have hl := h.edge i hlt e he hb
        rw [← hgd e.on (by omega)]; exact hpre e he hb
      have hAR : AR σ (restr (p.Tm i) (namesE ops (p.o i))) a := ⟨fun t v hv => by
        obtain ⟨ht, hv⟩ := restr_get hv
        refine hI.tmp i (Nat.le_of_lt hlt) (fun _ => hLi) t (fun _ => ht) (fun k hk hdk => ?_) (fun k hk1 hk2 hdk => ?_) v hv
        · exact h.ahead hI.down hlt hpre' (by omega) (h.conf i hlt k hk (.inl ⟨t, hdk, ht⟩))
        · by_cases e : k = i
          · rw [e]; exact hLi
          · cases hc : listed.getD k true with
            | false => rfl
            | true =>
              have := h.closed hI.down k hk2 hc i hlt (h.conf k hk2 i (by omega) (.inr ⟨t, hdk, ht⟩))
              rw [hLi] at this; cases this⟩
      have hset : ∀ j, (listed.setIfInBounds i true).getD j true = if j = i then true else listed.getD j true := fun j => by
        by_cases e : j = i
        · subst e; simp [Array.getD, show j < listed.size by omega]
        · rw [if_neg e, Array.getD_eq_getD_getElem?, Array.getD_eq_getD_getElem?, Array.getElem?_setIfInBounds_ne (fun h => e h.symm)]
      have hun : unl (listed.setIfInBounds i true) ops.size = fuel := by
        have := unl_set listed (by omega) hLi ops.size
        rw [if_pos hlt, hu] at this
        omega
      have hLe : (fun j => (listed.setIfInBounds i true).getD j true) = upd (fun j => listed.getD j true) i := by
        funext j; rw [hset]; rfl
      have go : ∀ (σ' : Sig) (u : Value) (w' : World), σ.le σ' → VR σ' (p.vl i) u → I (upd (fun j => listed.getD j true) i) σ' w' →
          wpAnyIn (FW r) n P .any ops Q fuel (listed.setIfInBounds i true) (a.put (p.o i).dst u) w' := fun σ' u w' hl hv hm =>
        draw_gen h hS hF fuel _ σ' _ w' (by simpa using hsz) hun (by rw [hLe]; exact GI.step h hI hlt hLi hpre' hl hv hm) (fun σ2 a2 w2 hl2 => hq σ2 a2 w2 (Sig.le_trans hl hl2))
      have hst := hS i hlt (fun j => listed.getD j true) σ a w hLi (fun k hk hb => h.ahead hI.down hlt hpre' hk hb) hI.globs hI.mem hAR
      unfold wpOpIn
      rw [ho]
      simp only
      rw [wantE_ok hAR (h.want i hlt)]
      cases hwn : p.wn i with
      | false =>
        rw [if_neg (by simp)]
        exact ⟨fun _ _ => trivial, go σ undef w (Sig.le_refl σ) (by rw [h.skip i hlt hwn]; exact undef_ok) (hst.1 hwn)⟩
      | true =>
        rw [if_pos rfl]
        exact hst.2 hwn _ go
theorem gen_ok (hP : P.follows .mixedOrders = true) (h : PB nt ops p) {I : (Nat → Bool) → Sig → World → Prop} {G : Nat} (hS : StepOk P G nt ops p r n Q I) {H : PT O} {nx : Nat} (hF : ∀ L σ w, (∀ j, j < ops.size → L j = true) → I L σ w → HR w0 G σ H nx w) {s : SX} (h0 : p.Tm 0 = s.T)
    {σ : Sig} {a : Act} {w : World} (hr : RX w0 G nt σ s a w) (hI : I (fun j => (Array.replicate ops.size false).getD j true) σ w.drew) {id : Nat}
    (hq : ∀ σ' a' w', σ.le σ' → RX w0 G nt σ' ⟨p.Tm ops.size, H, nx, s.ds⟩ a' w' → Q .normal a' w') : (Code.region id ops true).wpIn (FW r) n P Q a w := by
  refine wpIn_region_any hP (draw_gen h hS hF (ds := s.ds) ops.size _ σ a _ (by simp) (unl_start _ _ (Nat.le_refl _)) ?_ hq)
  have hf : ∀ j, j < ops.size → (Array.replicate ops.size false).getD j true = false := fun j hj => by simp [Array.getD, hj]
  refine ⟨hr.globs, hI, fun j hj hLj t ht h1 h2 v hv => ?_, hr.size, hr.defers, fun j hj hLj => ?_⟩
  · have hno : ∀ k, 0 ≤ k → k < j → (p.o k).dst ≠ some t := fun k _ hk e => by
      have := h1 k hk e
      rw [hf k (by omega)] at this; cases this
    rw [h.keep (Nat.zero_le j) hj hno, h0] at hv
    exact hr.act.tmp t v hv
  · rw [hf j hj] at hLj; cases hLj
end
end
end Go.Proofs.YtafhmagifoapfaaGreatDoor
namespace Go.Proofs.YtafhmagifoapfaaGreatDoor
open Go.RowKit
noncomputable section
structure BX where
  a : Nat
  s : Nat
  N : Nat
  t : Nat
  k : Nat
  z : PT V
  f : PT V
def mkBX (E : Env) (ops : Array Oper) (rs : List RC) (B : List Nat) (n0 nE a s : Nat) : Option BX :=
  match rs[a]?, rs[s]? with
  | some ra, some rb => match ra.o.op, rb.o.op with
    | .alloc t, .store t2 p x => match zeroE E.TT t, ra.v, evG E.G (restr rb.T (namesE ops rb.o)) p, evG E.G (restr rb.T (namesE ops rb.o)) x, sizeE E.TT t2 with
      | some z, .p N q, some (.p N2 o), some v, some m =>
        cond ((ra.wn && (ra.ef && (rb.wn && (rb.ef && (Nat.beq N N2 && (veq rb.v (.tup []) && Nat.beq q 0)))))) && (Nat.ble n0 N && (Nat.blt N nE && (Nat.ble E.G N && (Nat.beq (cellsV v).length m && (Nat.ble (o + m) (cellsV z).length && (allC (cellsV v) && (bitAt B s a && !Nat.beq a s))))))))
          (some ⟨a, s, N, t, (cellsV z).length, setG (cellsV z) .leaf 0, setG (cellsV v) (setG (cellsV z) .leaf 0) o⟩) none
      | _, _, _, _, _ => none
    | _, _ => none
  | _, _ => none
structure BXok (E : Env) (ops : Array Oper) (rs : List RC) (B : List Nat) (n0 nE : Nat) (b : BX) : Prop where
  al : ∃ ra z, rs[b.a]? = some ra ∧ ra.o.op = .alloc b.t ∧ zeroE E.TT b.t = some z ∧ b.k = (cellsV z).length ∧ b.z = setG (cellsV z) .leaf 0 ∧ ra.v = .p b.N 0 ∧ ra.wn = true ∧ ra.ef = true
  st : ∃ rb t2 p x o v m, rs[b.s]? = some rb ∧ rb.o.op = .store t2 p x ∧ evG E.G (restr rb.T (namesE ops rb.o)) p = some (.p b.N o) ∧ evG E.G (restr rb.T (namesE ops rb.o)) x = some v ∧ sizeE E.TT t2 = some m ∧ (cellsV v).length = m ∧ o + m ≤ b.k ∧ allC (cellsV v) = true ∧ b.f = setG (cellsV v) b.z o ∧ rb.v = .tup [] ∧ rb.wn = true ∧ rb.ef = true
  lo : n0 ≤ b.N
  hi : b.N < nE
  g : E.G ≤ b.N
  bit : bitAt B b.s b.a = true
  ne : b.a ≠ b.s
theorem mkBX_ok {E : Env} {ops : Array Oper} {rs : List RC} {B : List Nat} {n0 nE a s : Nat} {b : BX} (h : mkBX E ops rs B n0 nE a s = some b) : BXok E ops rs B n0 nE b := by
  unfold mkBX at h
  split at h
  · rename_i ra rb ha hb
    split at h
    · rename_i t t2 p x hoa hob
      split at h
      · rename_i z N q N2 o v m hz hv hp hx hm
        cases hc : ((ra.wn && (ra.ef && (rb.wn && (rb.ef && (Nat.beq N N2 && (veq rb.v (.tup []) && Nat.beq q 0)))))) && (Nat.ble n0 N && (Nat.blt N nE && (Nat.ble E.G N && (Nat.beq (cellsV v).length m && (Nat.ble (o + m) (cellsV z).length && (allC (cellsV v) && (bitAt B s a && !Nat.beq a s)))))))) with
        | false => rw [hc] at h; cases h
        | true =>
          rw [hc] at h
          simp only [cond_true, Option.some.injEq] at h
          subst h
          simp only [Bool.and_eq_true] at hc
          obtain ⟨⟨c1, c2, c3, c4, c5, c6, c7⟩, d1, d2, d3, d4, d5, d6, d7, d8⟩ := hc
          have c5 := Nat.eq_of_beq_eq_true c5
          have c7 := Nat.eq_of_beq_eq_true c7
          subst c5 c7
          exact ⟨⟨ra, z, ha, hoa, hz, rfl, rfl, hv, c1, c2⟩, ⟨rb, t2, p, x, o, v, m, hb, hob, hp, hx, hm, Nat.eq_of_beq_eq_true d4, Nat.le_of_ble_eq_true d5, d6, rfl, veq_ok c6, c3, c4⟩, Nat.le_of_ble_eq_true d1, Nat.le_of_ble_eq_true d2, Nat.le_of_ble_eq_true d3, d7, fun e => by
            have e : a = s := e
            rw [beqT e] at d8; cases d8⟩
      · cases h
    · cases h
  · cases h
def apartB (b c : BX) : Bool := !Nat.beq b.N c.N && (!Nat.beq b.a c.a && (!Nat.beq b.s c.s && (!Nat.beq b.a c.s && !Nat.beq b.s c.a)))
def distB : List BX → Bool
  | [] => true
  | b :: l => l.all (apartB b) && distB l
def Apart (b c : BX) : Prop := b.N ≠ c.N ∧ b.a ≠ c.a ∧ b.s ≠ c.s ∧ b.a ≠ c.s ∧ b.s ≠ c.a
theorem nbeq {a b : Nat} (h : (!Nat.beq a b) = true) : a ≠ b := fun e => by rw [beqT e] at h; cases h
theorem apartB_ok {b c : BX} (h : apartB b c = true) : Apart b c := by
  simp only [apartB, Bool.and_eq_true] at h
  obtain ⟨h1, h2, h3, h4, h5⟩ := h
  exact ⟨nbeq h1, nbeq h2, nbeq h3, nbeq h4, nbeq h5⟩
theorem Apart.symm {b c : BX} (h : Apart b c) : Apart c b := ⟨h.1.symm, h.2.1.symm, h.2.2.1.symm, h.2.2.2.2.symm, h.2.2.2.1.symm⟩
theorem distB_ok : ∀ {l : List BX}, distB l = true → ∀ b ∈ l, ∀ c ∈ l, b = c ∨ Apart b c
  | [], _, b, hb, _, _ => by cases hb
  | x :: l, h, b, hb, c, hc => by
    simp only [distB, Bool.and_eq_true, List.all_eq_true] at h
    rcases List.mem_cons.1 hb with rfl | hb
    · rcases List.mem_cons.1 hc with rfl | hc
      · exact .inl rfl
      · exact .inr (apartB_ok (h.1 c hc))
    · rcases List.mem_cons.1 hc with e | hc
      · rw [e]; exact .inr (apartB_ok (h.1 b hb)).symm
      · exact distB_ok h.2 b hb c hc
def bxO (L : Nat → Bool) (b : BX) : Option O := cond (L b.s) (some (.row b.t b.k b.f 0 false)) (cond (L b.a) (some (.row b.t b.k b.z 0 false)) none)
def fillBX : List BX → PT O → PT O
  | [], H => H
  | b :: l, H => PT.force (fillBX l H) fun H => H.set (.row b.t b.k b.f 0 false) b.N
theorem fill_get {H : PT O} : ∀ {l : List BX} {n : Nat} {o : O}, (fillBX l H).get n = some o → (∃ b ∈ l, n = b.N ∧ o = .row b.t b.k b.f 0 false) ∨ H.get n = some o
  | [], n, o, h => .inr h
  | b :: l, n, o, h => by
    unfold fillBX at h
    rw [PT.force_eq, PT.get_set] at h
    by_cases e : n = b.N
    · rw [if_pos e] at h
      simp only [Option.some.injEq] at h
      exact .inl ⟨b, List.mem_cons_self, e, h.symm⟩
    · rw [if_neg e] at h
      rcases fill_get h with ⟨c, hc, h1⟩ | h1
      · exact .inl ⟨c, List.mem_cons_of_mem _ hc, h1⟩
      · exact .inr h1
def findS (E : Env) (ops : Array Oper) (N : Nat) : List RC → Nat → Option Nat
  | [], _ => none
  | r :: l, i => match r.o.op with
    | .store _ p _ => match evG E.G (restr r.T (namesE ops r.o)) p with
      | some (.p N2 _) => cond (Nat.beq N N2) (some i) (findS E ops N l (i + 1))
      | _ => findS E ops N l (i + 1)
    | _ => findS E ops N l (i + 1)
def bxsOf (E : Env) (ops : Array Oper) (all : List RC) (B : List Nat) (n0 nE : Nat) : List RC → Nat → Option (List BX)
  | [], _ => some []
  | r :: l, i => match r.o.op with
    | .alloc _ => match r.v with
      | .p N _ => match findS E ops N all 0 with
        | some s => match mkBX E ops all B n0 nE i s, bxsOf E ops all B n0 nE l (i + 1) with
          | some b, some bs => some (b :: bs)
          | _, _ => none
        | none => none
      | _ => none
    | _ => bxsOf E ops all B n0 nE l (i + 1)
theorem bxsOf_ok {E : Env} {ops : Array Oper} {all : List RC} {B : List Nat} {n0 nE : Nat} : ∀ {l : List RC} {i : Nat} {bs : List BX}, bxsOf E ops all B n0 nE l i = some bs → ∀ b ∈ bs, BXok E ops all B n0 nE b
  | [], i, bs, h, b, hb => by
    simp only [bxsOf, Option.some.injEq] at h
    subst h; cases hb
  | r :: l, i, bs, h, b, hb => by
    unfold bxsOf at h
    split at h
    · split at h
      · split at h
        · split at h
          · rename_i b' bs' h1 h2
            simp only [Option.some.injEq] at h
            subst h
            rcases List.mem_cons.1 hb with rfl | hb
            · exact mkBX_ok h1
            · exact bxsOf_ok h2 b hb
          · cases h
        · cases h
      · cases h
    · exact bxsOf_ok h b hb
def covB (bs : List BX) (rs : List RC) (n : Nat) : Bool := allLt (fun j => withR rs j fun r => imp r.ef (bs.any fun b => Nat.beq b.a j || Nat.beq b.s j)) n
def quietH (E : Env) (ops : Array Oper) (rs : List RC) (H : PT O) (n : Nat) : Bool := allLt (fun j => withR rs j fun r => imp (r.wn && !r.ef) (match evq E r.o (restr r.T (namesE ops r.o)) H with
  | some v => veq v r.v
  | none => false)) n
def boxX (E : Env) (Z : Fns) (cf : CallX) (yf : YldX) (nt : Nat) (ops : Array Oper) (s : SX) : Option SX :=
  cond (statB ops ops.toList (befL ops.toList []) ops.toList.length) (match lexR E Z cf yf nt ops ops.toList s.T 0 s.H s.nx with
    | none => none
    | some (rs, Tf, sf, Ms) => match MOf ((s.H, s.nx) :: Ms) sf with
      | (_, nE) => match bxsOf E ops rs (befL ops.toList []) s.nx nE rs 0 with
        | none => none
        | some bs => cond (distB bs && (covB bs rs ops.toList.length && (quietH E ops rs s.H ops.toList.length && Nat.ble s.nx nE))) (PT.force (fillBX bs s.H) fun H => some ⟨Tf, H, nE, s.ds⟩) none) none
section
variable {P : Program} {w0 w : World} {G nx : Nat} {σ : Sig} {H : PT O}
theorem HR.sub (h : HR w0 G σ H nx w) {H2 : PT O} (e : ∀ n o, H2.get n = some o → H.get n = some o) : HR w0 G σ H2 nx w := by
  have e' : ∀ n, H2.get n ≠ none → H.get n ≠ none := fun n hn => by
    obtain ⟨o, ho⟩ := Option.ne_none_iff_exists'.1 hn
    rw [e n o ho]; simp
  exact ⟨h.below, h.dom, fun n o hn => h.obj n o (e n o hn), h.high, fun n m q r h1 h2 => h.apart n m q r (e' n h1) (e' m h2)⟩
theorem HR.up (h : HR w0 G σ H nx w) {n : Nat} (hn : nx ≤ n) : HR w0 G σ H n w := ⟨h.below, fun m hm => h.dom m (by omega), h.obj, h.high, h.apart⟩
theorem HR.gone (h : HR w0 G σ H nx w) {n : Nat} (hn : σ n = none) : H.get n = none := by
  cases e : H.get n with
  | none => rfl
  | some o =>
    obtain ⟨q, _, hq, _⟩ := h.obj n o e
    rw [hn] at hq; cases hq
theorem HR.makeAt (h : HR w0 G σ H nx w) {n : Nat} {o : O} {ob : Obj} {q : Spot} (hG : G ≤ n) (hs : σ n = Option.none) (hn : n < nx) (hq : q.blk = w.heap.size) (ho : OR (σ.ext n q) q o ob) : HR w0 G (σ.ext n q) (H.set o n) nx (w.alloc ob) := by
  have hle := Sig.le_ext (q := q) hs
  have hlt : ∀ m r, H.get m ≠ Option.none → σ m = some r → r.blk < w.heap.size := fun m r hm hr => by
    obtain ⟨o', ho'⟩ := Option.ne_none_iff_exists'.1 hm
    obtain ⟨r', ob', hr', hob', _⟩ := h.obj m o' ho'
    rw [hr] at hr'
    simp only [Option.some.injEq] at hr'
    subst hr'
    exact (Array.getElem?_eq_some_iff.1 hob').1
  have hext : ∀ m, m ≠ n → σ.ext n q m = σ m := fun m hm => by unfold Sig.ext; rw [if_neg hm]
  have hself : σ.ext n q n = some q := by unfold Sig.ext; rw [if_pos rfl]
  refine ⟨h.below.alloc h.below.size ob, fun m hm => by rw [hext m (by omega)]; exact h.dom m hm, fun m o' hm => ?_, fun m r hr hGm => ?_, fun m1 m2 q1 q2 h1 h2 hq1 hq2 hne => ?_⟩
  · rw [PT.get_set] at hm
    by_cases e : m = n
    · subst e
      rw [if_pos rfl] at hm
      simp only [Option.some.injEq] at hm
      subst hm
      exact ⟨q, ob, hself, by rw [hq]; exact heap_alloc_new w ob, ho⟩
    · rw [if_neg e] at hm
      obtain ⟨r, ob', hr, hob', hor⟩ := h.obj m o' hm
      refine ⟨r, ob', hle m r hr, ?_, hor.le hle⟩
      rw [Below.heap_alloc _ _ _ (Array.getElem?_eq_some_iff.1 hob').1]
      exact hob'
  · by_cases e : m = n
    · subst e
      rw [hself] at hr
      simp only [Option.some.injEq] at hr
      subst hr
      rw [hq]; exact h.below.size
    · rw [hext m e] at hr
      exact h.high m r hr hGm
  · rw [PT.get_set] at h1 h2
    by_cases e1 : m1 = n
    · subst e1
      rw [hself] at hq1
      simp only [Option.some.injEq] at hq1
      subst hq1
      rw [if_neg (fun e => hne e.symm)] at h2
      rw [hext m2 (fun e => hne e.symm)] at hq2
      have := hlt m2 q2 h2 hq2
      omega
    · rw [if_neg e1] at h1
      rw [hext m1 e1] at hq1
      by_cases e2 : m2 = n
      · subst e2
        rw [hself] at hq2
        simp only [Option.some.injEq] at hq2
        subst hq2
        have := hlt m1 q1 h1 hq1
        omega
      · rw [if_neg e2] at h2
        rw [hext m2 e2] at hq2
        exact h.apart m1 m2 q1 q2 h1 h2 hq1 hq2 hne
/-- Where the boxes stand. -/
def IB (w0 : World) (G : Nat) (H0 : PT O) (nE : Nat) (bs : List BX) (L : Nat → Bool) (σ : Sig) (w : World) : Prop :=
  ∃ H, HR w0 G σ H nE w ∧ (∀ b ∈ bs, H.get b.N = bxO L b) ∧ (∀ n o, H0.get n = some o → H.get n = some o) ∧ (∀ b ∈ bs, L b.a = false → σ b.N = Option.none) ∧ ∀ b ∈ bs, L b.s = true → L b.a = true
theorem IB.other {H0 : PT O} {nE : Nat} {bs : List BX} {L : Nat → Bool} {j : Nat} (h : IB w0 G H0 nE bs L σ w) (hj : ∀ b ∈ bs, b.a ≠ j ∧ b.s ≠ j) : IB w0 G H0 nE bs (upd L j) σ w := by
  obtain ⟨H, h1, h2, h3, h4, h5⟩ := h
  have ea : ∀ b ∈ bs, upd L j b.a = L b.a := fun b hb => by unfold upd; rw [if_neg (hj b hb).1]
  have es : ∀ b ∈ bs, upd L j b.s = L b.s := fun b hb => by unfold upd; rw [if_neg (hj b hb).2]
  exact ⟨H, h1, fun b hb => by rw [h2 b hb]; unfold bxO; rw [ea b hb, es b hb], h3, fun b hb hl => h4 b hb (by rw [← ea b hb]; exact hl), fun b hb hl => by rw [ea b hb]; rw [es b hb] at hl; exact h5 b hb hl⟩
end
end
end Go.Proofs.YtafhmagifoapfaaGreatDoor
namespace Go.Proofs.YtafhmagifoapfaaGreatDoor
open Go.RowKit
noncomputable section
section
variable {E : Env} {Z : Fns} {cf : CallX} {yf : YldX} {nt : Nat} {ops : Array Oper}
theorem planOf_pb {T : PT V} {M0 : PT O × Nat} {rs : List RC} {Tf : PT V} {sf : Nat} {Ms : List (PT O × Nat)} {B : List Nat} (h : LexOk E Z cf yf nt ops ops.toList T 0 (M0 :: Ms) rs Tf sf) (hs : statB ops ops.toList B ops.toList.length = true) :
    PB nt ops (planOf rs Tf sf (M0 :: Ms) B) := by
  have hn : ops.toList.length = ops.size := Array.length_toList
  simp only [statB, Bool.and_eq_true] at hs
  obtain ⟨s1, s2, s3⟩ := hs
  rw [hn] at s1 s2 s3
  have hr : ∀ j, j < ops.size → ∃ r, rs[j]? = some r := fun j hj => ⟨rs[j]'(by rw [h.len, hn]; exact hj), List.getElem?_eq_getElem _⟩
  have hend : stOf rs sf ops.size = sf := by
    unfold stOf
    rw [List.getElem?_eq_none (by rw [h.len, hn]; exact Nat.le_refl _)]
  refine ⟨fun j hj => ?_, fun j hj e he hb => ?_, fun j hj i hi hb => ?_, fun j hj i hi hcf => ?_, fun j hj => ?_, fun j hj => ?_, fun j hj hw => ?_⟩
  · obtain ⟨r, e⟩ := hr j hj
    simp only [planOf, e]
    rw [← Array.getElem?_toList]; exact h.op j r e
  · obtain ⟨r, e'⟩ := hr j hj
    simp only [planOf, e'] at he
    have := withO_ok (allLt_ok s1 j hj) (h.op j r e')
    have := List.all_eq_true.1 this e (Array.mem_toList_iff.2 he)
    exact Nat.le_of_ble_eq_true (imp_ok this hb)
  · obtain ⟨r, e'⟩ := hr j hj
    simp only [planOf, e'] at hb ⊢
    rw [← bitAt_eq] at hb
    have := allLt_ok (withO_ok (allLt_ok s2 j hj) (h.op j r e')) i hi
    obtain ⟨e, k1, k2⟩ := List.any_eq_true.1 (imp_ok this hb)
    simp only [Bool.and_eq_true, Bool.or_eq_true] at k2
    refine ⟨e, Array.mem_toList_iff.1 k1, k2.1, ?_⟩
    rcases k2.2 with k3 | k3
    · exact .inl (Nat.eq_of_beq_eq_true k3)
    · rw [bitAt_eq] at k3; exact .inr k3
  · obtain ⟨r, e'⟩ := hr j hj
    obtain ⟨q, e2⟩ := hr i (by omega)
    simp only [planOf, e', e2] at hcf ⊢
    rw [← bitAt_eq]
    have := withO_ok (allLt_ok (withO_ok (allLt_ok s3 j hj) (h.op j r e')) i hi) (h.op i q e2)
    refine imp_ok this ?_
    rcases hcf with hcf | hcf
    · rw [dstIn_of hcf]; rfl
    · rw [dstIn_of hcf]; simp
  · obtain ⟨r, e'⟩ := hr j hj
    have : TmOf rs Tf j = r.T := by unfold TmOf; rw [e']
    simp only [planOf, e', this]
    exact h.put j r e'
  · obtain ⟨r, e'⟩ := hr j hj
    have : TmOf rs Tf j = r.T := by unfold TmOf; rw [e']
    simp only [planOf, e', this]
    exact h.want j r e'
  · obtain ⟨r, e'⟩ := hr j hj
    simp only [planOf, e'] at hw ⊢
    exact (h.skip j r e' hw).1
end
section
variable {P : Program} {w0 : World} {E : Env} {Z : Fns} {cf : CallX} {yf : YldX} {nt : Nat} {ops : Array Oper} {r : Option Nat} {n : Nat} {Q : Exit → Act → World → Prop}
theorem wp_val {o : Oper} {a : Act} {w w' : World} {u : Value} {K : Act → World → Prop} (hnd : ∀ c, o.op ≠ .defer c) (hrun : (execOp a.eval o).run P w = .ok (.value u) w') (hK : K (a.put o.dst u) w') : o.wpIn (FW r) n P a w K Q := by
  refine ⟨fun _ _ => trivial, ?_⟩
  rw [Oper.semAt_eq _ _ _ hnd, hrun, Oper.uponIn_value]
  exact hK
theorem wp_skip {o : Oper} {a : Act} {w w' : World} {K : Act → World → Prop} (hnd : ∀ c, o.op ≠ .defer c) (hrun : (execOp a.eval o).run P w = .ok .skip w') (hK : K (a.put o.dst undef) w') : o.wpIn (FW r) n P a w K Q := by
  refine ⟨fun _ _ => trivial, ?_⟩
  rw [Oper.semAt_eq _ _ _ hnd, hrun, Oper.uponIn_skip]
  exact hK
theorem ib_alloc (hE : EnvOk P E) {H0 : PT O} {nE n0 : Nat} {bs : List BX} {B : List Nat} {rs : List RC} (hd : ∀ b ∈ bs, ∀ c ∈ bs, b = c ∨ Apart b c) {L : Nat → Bool} {σ : Sig} {w : World} (hI : IB w0 E.G H0 nE bs L σ w) {b : BX} (hb : b ∈ bs) (hbo : BXok E ops rs B n0 nE b) (hL : L b.a = false)
    (h0 : ∀ m, n0 ≤ m → H0.get m = none) {o : Oper} (ho : o.op = .alloc b.t) {a : Act} : ∃ σ' u w', σ.le σ' ∧ VR σ' (.p b.N 0) u ∧ IB w0 E.G H0 nE bs (upd L b.a) σ' w' ∧ (execOp a.eval o).run P w = .ok (.value u) w' := by
  obtain ⟨H, h1, h2, h3, h4, h5⟩ := hI
  obtain ⟨ra, z, _, _, hz, hk, hzz, _, _, _⟩ := hbo.al
  obtain ⟨u, hu, hr⟩ := zeroE_ok (σ := σ) hE.tt hz
  have hv := cellsV_ok hu
  have hs := h4 b hb hL
  have hLs : L b.s = false := by
    cases e : L b.s with
    | false => rfl
    | true => rw [h5 b hb e] at hL; cases hL
  have hle := Sig.le_ext (q := ⟨w.heap.size, 0, (cellsV z).length⟩) hs
  have hl := VRs_length hv
  have hsz : u.cells.size = (cellsV z).length := by rw [← Array.length_toList, hl]
  have hm := h1.makeAt (o := .row b.t b.k b.z 0 false) (ob := .cells u.cells b.t (0, 0)) (q := ⟨w.heap.size, 0, (cellsV z).length⟩) hbo.g hs hbo.hi rfl (by
    refine ⟨u.cells, 0, 0, rfl, by simp [hsz], by rw [hk]; exact Nat.le_refl _, fun j _ _ hh => by omega, fun j v hj => ?_⟩
    rw [hzz, setG_get] at hj
    by_cases hr : 0 ≤ j ∧ j < 0 + (cellsV z).length
    · rw [if_pos hr, Nat.sub_zero] at hj
      obtain ⟨u, k1, k2⟩ := VRs_get hv hj
      exact ⟨by omega, u, by rw [Nat.zero_add, ← Array.getElem?_toList]; exact k1, VR.le hle _ _ k2⟩
    · rw [if_neg hr] at hj; cases hj)
  refine ⟨_, .pointer (some ⟨w.heap.size, 0, none⟩), w.alloc (.cells u.cells b.t (0, 0)), hle, ?_, ⟨_, hm, fun c hc => ?_, fun m x hx => ?_, fun c hc hl => ?_, fun c hc hl => ?_⟩, ?_⟩
  · simp only [VR]
    unfold addrOf Sig.ext
    rw [if_pos rfl]; simp
  · rw [PT.get_set]
    rcases hd b hb c hc with e | e
    · subst e
      rw [if_pos rfl]
      unfold bxO upd
      rw [if_neg hbo.ne.symm, hLs, if_pos rfl]; rfl
    · rw [if_neg e.1.symm, h2 c hc]
      unfold bxO upd
      rw [if_neg e.2.1.symm, if_neg e.2.2.2.1.symm]
  · rw [PT.get_set]
    have : m ≠ b.N := fun e => by
      have := h0 b.N hbo.lo
      rw [← e, hx] at this; cases this
    rw [if_neg this]; exact h3 m x hx
  · rcases hd b hb c hc with e | e
    · subst e
      unfold upd at hl; rw [if_pos rfl] at hl; cases hl
    · unfold upd at hl; rw [if_neg e.2.1.symm] at hl
      unfold Sig.ext; rw [if_neg e.1.symm]; exact h4 c hc hl
  · rcases hd b hb c hc with e | e
    · subst e; unfold upd; rw [if_pos rfl]
    · unfold upd at hl ⊢
      rw [if_neg e.2.2.2.1.symm] at hl
      rw [if_neg e.2.1.symm]; exact h5 c hc hl
  · obtain ⟨dst, op, type, pos, after, guard⟩ := o
    simp only at ho
    subst ho
    unfold execOp
    simp only
    refine run_v ?_
    unfold Instr.alloc
    simp only [Sem.run_bind, hr, Result.andThen_ok, newVar]
    rfl
theorem ib_store (hE : EnvOk P E) {H0 : PT O} {nE n0 : Nat} {bs : List BX} {B : List Nat} {rs : List RC} (hd : ∀ b ∈ bs, ∀ c ∈ bs, b = c ∨ Apart b c) {L : Nat → Bool} {σ : Sig} {w : World} (hI : IB w0 E.G H0 nE bs L σ w) {b : BX} (hb : b ∈ bs) (hbo : BXok E ops rs B n0 nE b) (hL : L b.s = false) (hLa : L b.a = true)
    (h0 : ∀ m, n0 ≤ m → H0.get m = none) {rb : RC} (hrb : rs[b.s]? = some rb) {a : Act} (hG : Globs σ E.G) (hA : AR σ (restr rb.T (namesE ops rb.o)) a) : ∃ w', IB w0 E.G H0 nE bs (upd L b.s) σ w' ∧ (execOp a.eval rb.o).run P w = .ok .skip w' := by
  obtain ⟨H, h1, h2, h3, h4, h5⟩ := hI
  obtain ⟨rb', t2, p, x, o, v, m, hrb', hop, hp, hx, hm, hlen, hok, hall, hf, _⟩ := hbo.st
  rw [hrb] at hrb'
  simp only [Option.some.injEq] at hrb'
  subst hrb'
  have hrow : H.get b.N = some (.row b.t b.k b.z 0 false) := by
    rw [h2 b hb]; unfold bxO; rw [hL, hLa]; rfl
  have hst : storeE E.TT E.G H t2 b.N o v = some (H.set (.row b.t b.k b.f 0 false) b.N) := by
    unfold storeE
    rw [hrow, hm]
    simp only
    rw [Nat.ble_eq_true_of_le hbo.g, hlen, beqT rfl, Nat.ble_eq_true_of_le hok, Nat.ble_eq_true_of_le (Nat.zero_le o), hall]
    simp only [Bool.and_self, cond_true, PT.force_eq]
    rw [hf]
  obtain ⟨ad, e, hpa⟩ := VR_p (evG_ok hG hA hp)
  obtain ⟨w', k1, k2⟩ := storeE_ok hE.tt h1 hst (evG_ok hG hA hx) hpa
  refine ⟨w', ⟨_, k2, fun c hc => ?_, fun n y hy => ?_, fun c hc hl => ?_, fun c hc hl => ?_⟩, ?_⟩
  · rw [PT.get_set]
    rcases hd b hb c hc with e | e
    · subst e
      rw [if_pos rfl]
      unfold bxO upd
      rw [if_pos rfl]; rfl
    · rw [if_neg e.1.symm, h2 c hc]
      unfold bxO upd
      rw [if_neg e.2.2.1.symm, if_neg e.2.2.2.2.symm]
  · rw [PT.get_set]
    have : n ≠ b.N := fun e => by
      have := h0 b.N hbo.lo
      rw [← e, hy] at this; cases this
    rw [if_neg this]; exact h3 n y hy
  · rcases hd b hb c hc with e | e
    · subst e
      unfold upd at hl; rw [if_neg hbo.ne, hLa] at hl; cases hl
    · unfold upd at hl; rw [if_neg e.2.2.2.2.symm] at hl
      exact h4 c hc hl
  · rcases hd b hb c hc with e | e
    · subst e; unfold upd; rw [if_neg hbo.ne]; exact hLa
    · unfold upd at hl ⊢
      rw [if_neg e.2.2.1.symm] at hl
      rw [if_neg e.2.2.2.2.symm]; exact h5 c hc hl
  · generalize rb.o = oo at hop
    obtain ⟨dst, op, type, pos, after, guard⟩ := oo
    simp only at hop
    subst hop
    unfold execOp
    simp only
    rw [e]
    exact run_u (by simpa [Instr.storeAt, Instr.sureAddr] using k1)
theorem boxX_ok (hP : P.follows .mixedOrders = true) (hE : EnvOk P E) {s s' : SX} (h : boxX E Z cf yf nt ops s = some s') {σ : Sig} {a : Act} {w : World} (hr : RX w0 E.G nt σ s a w) {id : Nat}
    (hq : ∀ σ' a' w', σ.le σ' → RX w0 E.G nt σ' s' a' w' → Q .normal a' w') : (Code.region id ops true).wpIn (FW r) n P Q a w := by
  unfold boxX at h
  cases hs : statB ops ops.toList (befL ops.toList []) ops.toList.length with
  | false => rw [hs] at h; cases h
  | true =>
    rw [hs] at h
    simp only [cond_true] at h
    split at h
    · cases h
    · rename_i rs Tf sf Ms hl
      generalize (MOf ((s.H, s.nx) :: Ms) sf).2 = nE at h
      split at h
      · cases h
      · rename_i bs hbs
        cases hd : (distB bs && (covB bs rs ops.toList.length && (quietH E ops rs s.H ops.toList.length && Nat.ble s.nx nE))) with
        | false => rw [hd] at h; cases h
        | true =>
          rw [hd] at h
          simp only [cond_true, PT.force_eq, Option.some.injEq] at h
          simp only [Bool.and_eq_true] at hd
          obtain ⟨d1, d2, d3, d4⟩ := hd
          have d4 := Nat.le_of_ble_eq_true d4
          have hlex := lexR_ok _ _ _ _ _ _ _ _ _ hl
          have hpb := planOf_pb hlex hs
          have hn : rs.length = ops.size := by rw [hlex.len]; exact Array.length_toList
          have hnl : ops.toList.length = ops.size := Array.length_toList
          rw [hnl] at d2 d3
          have hbo := bxsOf_ok hbs
          have hdist := distB_ok d1
          have h0 : ∀ m, s.nx ≤ m → s.H.get m = none := fun m hm => HR.gone hr.mem (hr.mem.dom m hm)
          have hra : ∀ b ∈ bs, b.a < ops.size := fun b hb => by
            obtain ⟨ra, _, e, _⟩ := (hbo b hb).al
            rw [← hn]; exact (List.getElem?_eq_some_iff.1 e).1
          have hrs : ∀ b ∈ bs, b.s < ops.size := fun b hb => by
            obtain ⟨rb, _, _, _, _, _, _, e, _⟩ := (hbo b hb).st
            rw [← hn]; exact (List.getElem?_eq_some_iff.1 e).1
          have hIf : ∀ j, j < ops.size → (Array.replicate ops.size false).getD j true = false := fun j hj => by simp [Array.getD, hj]
          refine gen_ok hP hpb (I := IB w0 E.G s.H nE bs) (H := fillBX bs s.H) (nx := nE) ?_ ?_ hlex.t0 hr ?_ fun σ' a' w' hl' hr' => hq σ' a' w' hl' ?_
          · intro j hj L σ1 a1 w1 hLj hB hG hI hA
            obtain ⟨rc, e'⟩ : ∃ rc, rs[j]? = some rc := ⟨rs[j]'(by rw [hn]; exact hj), List.getElem?_eq_getElem _⟩
            have hT : TmOf rs Tf j = rc.T := by unfold TmOf; rw [e']
            simp only [planOf, e', hT] at hA hB ⊢
            have noefB : rc.ef = false → ∀ b ∈ bs, b.a ≠ j ∧ b.s ≠ j := fun hef b hb => by
              obtain ⟨ra, _, k1, _, _, _, _, _, _, k2⟩ := (hbo b hb).al
              obtain ⟨rb, _, _, _, _, _, _, k3, _, _, _, _, _, _, _, _, _, _, k4⟩ := (hbo b hb).st
              constructor
              · intro e; rw [e, e'] at k1; simp only [Option.some.injEq] at k1; rw [← k1, hef] at k2; cases k2
              · intro e; rw [e, e'] at k3; simp only [Option.some.injEq] at k3; rw [← k3, hef] at k4; cases k4
            refine ⟨fun hwn => hI.other (noefB (hlex.skip j rc e' hwn).2), fun hwn K hK => ?_⟩
            cases hef : rc.ef with
            | false =>
              have hq := withR_ok (allLt_ok d3 j hj) e'
              have hq := imp_ok hq (by rw [hwn, hef]; rfl)
              split at hq
              · rename_i v hv
                rw [veq_ok hq] at hv
                obtain ⟨H, i1, i2, i3, i4, i5⟩ := (show IB w0 E.G s.H nE bs L σ1 w1 from hI)
                obtain ⟨u, k1, k2⟩ := evq_ok hE hG (i1.sub i3) hA hv
                exact wp_val (fun c e => by rw [evq_defer e] at hv; cases hv) k2 (hK σ1 u w1 (Sig.le_refl σ1) k1 (hI.other (noefB hef)))
              · cases hq
            | true =>
              have hc := imp_ok (withR_ok (allLt_ok d2 j hj) e') hef
              obtain ⟨b, hb, hbj⟩ := List.any_eq_true.1 hc
              rw [Bool.or_eq_true] at hbj
              rcases hbj with hbj | hbj
              · have hbj := Nat.eq_of_beq_eq_true hbj
                subst hbj
                obtain ⟨ra, z, k1, k2, _, _, _, k3, _⟩ := (hbo b hb).al
                rw [e'] at k1
                simp only [Option.some.injEq] at k1
                subst k1
                obtain ⟨σ2, u, w2, m1, m2, m3, m4⟩ := ib_alloc hE hdist hI hb (hbo b hb) hLj h0 k2 (a := a1)
                exact wp_val (fun c e => by rw [k2] at e; cases e) m4 (hK σ2 u w2 m1 (by rw [k3]; exact m2) m3)
              · have hbj := Nat.eq_of_beq_eq_true hbj
                subst hbj
                obtain ⟨rb, t2, p, x, o, v, m, k1, k2, _, _, _, _, _, _, _, k3, _⟩ := (hbo b hb).st
                rw [e'] at k1
                simp only [Option.some.injEq] at k1
                subst k1
                have hLa := hB b.a (hra b hb) (by rw [← bitAt_eq]; exact (hbo b hb).bit)
                obtain ⟨w2, m1, m2⟩ := ib_store hE hdist hI hb (hbo b hb) hLj hLa h0 e' hG hA
                exact wp_skip (fun c e => by rw [k2] at e; cases e) m2 (hK σ1 undef w2 (Sig.le_refl σ1) (by rw [k3]; exact undef_ok) m1)
          · rintro L σ1 w1 hall ⟨H, i1, i2, i3, i4, i5⟩
            refine i1.sub fun m x hx => ?_
            rcases fill_get hx with ⟨b, hb, rfl, rfl⟩ | hx
            · rw [i2 b hb]; unfold bxO; rw [hall b.s (hrs b hb)]; rfl
            · exact i3 m x hx
          · refine ⟨s.H, (hr.mem.drew).up d4, fun b hb => ?_, fun _ _ hx => hx, fun b hb _ => hr.mem.dom _ (hbo b hb).lo, fun b hb hl => ?_⟩
            · unfold bxO
              have e1 := hIf b.s (hrs b hb)
              have e2 := hIf b.a (hra b hb)
              simp only [e1, e2, cond_false]
              exact h0 _ (hbo b hb).lo
            · have e1 := hIf b.s (hrs b hb)
              simp only [e1] at hl; cases hl
          · have e1 : (planOf rs Tf sf ((s.H, s.nx) :: Ms) (befL ops.toList [])).Tm ops.size = Tf := by
              show TmOf rs Tf ops.size = Tf
              unfold TmOf
              rw [List.getElem?_eq_none (by omega)]
            rw [e1] at hr'
            rw [← h]
            exact hr'
/-- A region that draws its order. -/
def drawY (E : Env) (Z : Fns) (cf : CallX) (yf : YldX) (nt : Nat) (ops : Array Oper) (s : SX) : Option SX :=
  match drawX E Z cf yf nt ops s with
  | some s => some s
  | none => boxX E Z cf yf nt ops s
theorem drawY_ok (hP : P.follows .mixedOrders = true) (hE : EnvOk P E) (hZ : FnsOk P Z) (hC : CallOk P w0 E.G cf) (hY : YldOk P w0 E.G yf) {s s' : SX} (h : drawY E Z cf yf nt ops s = some s') {σ : Sig} {a : Act} {w : World} (hr : RX w0 E.G nt σ s a w) {id : Nat}
    (hq : ∀ σ' a' w', σ.le σ' → RX w0 E.G nt σ' s' a' w' → Q .normal a' w') : (Code.region id ops true).wpIn (FW r) n P Q a w := by
  unfold drawY at h
  split at h
  · rename_i s1 h1
    simp only [Option.some.injEq] at h
    subst h
    exact drawX_ok hP hE hZ hC hY h1 hr hq
  · exact boxX_ok hP hE h hr hq
end
end
end Go.Proofs.YtafhmagifoapfaaGreatDoor
