/- A reckoner for closed runs: several ends: walks over maps in every order. -/
import Derived.Test.YtafhmagifoapfaaGreatDoorEvF
namespace Go.Proofs.YtafhmagifoapfaaGreatDoor
open Go.RowKit
noncomputable section
def bindL {α β : Type} : List α → (α → Option (List β)) → Option (List β)
  | [], _ => some []
  | a :: l, k => match k a with
    | some x => match bindL l k with
      | some y => some (x ++ y)
      | none => none
    | none => none
theorem bindL_mem {α β : Type} : ∀ {l : List α} {k : α → Option (List β)} {r : List β}, bindL l k = some r → ∀ a ∈ l, ∃ x, k a = some x ∧ ∀ y ∈ x, y ∈ r
  | [], _, _, _, a, ha => by cases ha
  | b :: l, k, r, h, a, ha => by
    unfold bindL at h
    split at h
    · rename_i x hx
      split at h
      · rename_i y hy
        simp only [Option.some.injEq] at h
        subst h
        rcases List.mem_cons.1 ha with rfl | ha
        · exact ⟨x, hx, fun z hz => List.mem_append_left _ hz⟩
        · obtain ⟨x', h1, h2⟩ := bindL_mem hy a ha
          exact ⟨x', h1, fun z hz => List.mem_append_right _ (h2 z hz)⟩
      · cases h
    · cases h
def ltL (since : Nat) : List (V × V × Nat) → Bool
  | [] => true
  | (_, _, b) :: l => cond (Nat.blt b since) (ltL since l) false
def pickL (H : PT O) (n m since : Nat) (seen : List Nat) (ck : Nat) : List (V × V × Nat) → List (V × PT O)
  | [] => []
  | (k, v, b) :: l => (.tup [.b true, k, v], oput H n (.mi (some m) since (seen ++ [b]) ck)) :: pickL H n m since seen ck l
/-- The next of a walk over a map, whatever it is. -/
def nextM (G : Nat) (x : V) (H : PT O) : Option (List (V × PT O)) :=
  match x with
  | .p n o => cond (Nat.beq o 0 && Nat.ble G n) (match H.get n with
    | some (.mi (some m) since seen last) => match H.get m with
      | some (.mp l bs ck) => cond (!emptyL seen && (!emptyL bs && allGe last bs)) none (match leftV seen l bs with
        | [] => none
        | lv => cond (ltL since lv) (some (pickL H n m since seen ck lv)) none)
      | _ => none
    | _ => none) none
  | _ => none
theorem ltL_ok {σ : Sig} {since : Nat} : ∀ {l : List (V × V × Nat)} {es : List MapEntry}, ltL since l = true → LR σ l es → ∀ e ∈ es, e.born < since
  | [], [], _, _, e, he => by cases he
  | (k, v, b) :: l, e :: es, h, hr, e', he => by
    unfold ltL at h
    cases hb : Nat.blt b since with
    | false => rw [hb] at h; cases h
    | true =>
      rw [hb] at h
      obtain ⟨_, _, h3, h4⟩ := hr
      rcases List.mem_cons.1 he with rfl | he
      · rw [h3]; exact Nat.le_of_ble_eq_true hb
      · exact ltL_ok (l := l) h h4 e' he
  | [], _ :: _, _, hr, _, _ => by simp [LR] at hr
  | _ :: _, [], _, hr, _, _ => by simp [LR] at hr
theorem pickL_ok {σ : Sig} {H : PT O} {n m since ck : Nat} {seen : List Nat} : ∀ {l : List (V × V × Nat)} {es : List MapEntry} {i : Nat} {e : MapEntry}, LR σ l es → es[i]? = some e →
    ∃ k v, VR σ k e.key ∧ VR σ v e.val ∧ (V.tup [.b true, k, v], oput H n (.mi (some m) since (seen ++ [e.born]) ck)) ∈ pickL H n m since seen ck l
  | [], [], i, e, _, he => by simp at he
  | (k, v, b) :: l, e0 :: es, i, e, hr, he => by
    obtain ⟨h1, h2, h3, h4⟩ := hr
    cases i with
    | zero =>
      simp only [List.getElem?_cons_zero, Option.some.injEq] at he
      subst he h3
      exact ⟨k, v, h1, h2, List.mem_cons_self⟩
    | succ i =>
      rw [List.getElem?_cons_succ] at he
      obtain ⟨k', v', k1, k2, k3⟩ := pickL_ok (H := H) (n := n) (m := m) (since := since) (ck := ck) (seen := seen) h4 he
      exact ⟨k', v', k1, k2, List.mem_cons_of_mem _ k3⟩
  | [], _ :: _, _, _, hr, _ => by simp [LR] at hr
  | _ :: _, [], _, _, hr, _ => by simp [LR] at hr
theorem run_choose (P : Program) (w : World) {n : Nat} (hn : 0 < n) : ∃ i w', i < n ∧ (w' = w ∨ w' = w.drew) ∧ (choose (.mapNext n)).run P w = .ok i w' := by
  by_cases h : n ≤ 1
  · exact ⟨0, w, hn, .inl rfl, by simp [choose, Sem.run, Question.forced, h]⟩
  · refine ⟨w.tape w.drawn (.mapNext n) % n, w.drew, Nat.mod_lt _ hn, .inr rfl, ?_⟩
    simp [choose, Sem.run, Question.forced, h, Question.cut]
section
variable {P : Program} {w0 w : World} {G nx : Nat} {σ : Sig} {H : PT O} {TT : PT TD}
theorem nextM_ok (h : HR w0 G σ H nx w) {x : V} {u : Value} {L : List (V × PT O)} {ty : TypeId} (ha : nextM G x H = some L) (hx : VR σ x u) : ∃ v H' r w', (v, H') ∈ L ∧ HR w0 G σ H' nx w' ∧ VR σ v r ∧ (Instr.next u false ty).run P w = .ok r w' := by
  unfold nextM at ha
  split at ha
  · rename_i n o
    cases hc : (Nat.beq o 0 && Nat.ble G n) with
    | false => rw [hc] at ha; cases ha
    | true =>
      rw [hc] at ha
      simp only [cond_true] at ha
      simp only [Bool.and_eq_true] at hc
      have ho := Nat.eq_of_beq_eq_true hc.1
      have hG := Nat.le_of_ble_eq_true hc.2
      subst ho
      split at ha
      · rename_i m since seen last hn
        obtain ⟨q, ob, rfl, hq, hob, h0, r, rfl, qm, hqm, rfl⟩ := h.iter hn hx
        have hget := run_getObj (P := P) hob (fun _ _ _ e => by cases e)
        split at ha
        · rename_i l bs ck hm
          obtain ⟨qm', obm, hqm', hobm, es, rfl, e1, e2, e3⟩ := h.obj m _ hm
          rw [hqm] at hqm'
          simp only [Option.some.injEq] at hqm'
          subst hqm'
          have hgm := run_getObj (P := P) hobm (fun _ _ _ e => by cases e)
          cases hb : (!emptyL seen && (!emptyL bs && allGe last bs)) with
          | true => rw [hb] at ha; cases ha
          | false =>
            rw [hb] at ha
            simp only [cond_false] at ha
            have hcond : (!seen.toArray.isEmpty && !es.isEmpty && es.all fun e => decide (e.born ≥ last)) = false := by
              have q1 : seen.toArray.isEmpty = emptyL seen := by cases seen <;> simp [emptyL]
              have q2 : es.isEmpty = emptyL bs := by
                rw [← e1, ← Array.isEmpty_toList]
                cases es.toList <;> simp [emptyL]
              have q3 : (es.all fun e => decide (e.born ≥ last)) = allGe last bs := by
                rw [allGe_eq, ← e1, List.all_map, ← Array.all_toList]; rfl
              rw [q1, q2, q3, Bool.and_assoc]; exact hb
            have hlr := leftV_ok seen e2 e3
            rw [e1] at hlr
            have hleft : (es.filter fun e => !seen.toArray.contains e.born) = (es.toList.filter fun e => !seen.contains e.born).toArray := by
              apply Array.toList_inj.1
              simp
            split at ha
            · cases ha
            · rename_i lv hne
              cases hlt : ltL since (leftV seen l bs) with
              | false => rw [hlt] at ha; cases ha
              | true =>
                rw [hlt] at ha
                simp only [cond_true, Option.some.injEq] at ha
                subst ha
                have hold := ltL_ok hlt hlr
                generalize (es.toList.filter fun e => !seen.contains e.born) = F at hlr hleft hold
                have hF : 0 < F.length := by
                  cases F with
                  | nil =>
                    cases hl : leftV seen l bs with
                    | nil => exact absurd hl hne
                    | cons _ _ => rw [hl] at hlr; simp [LR] at hlr
                  | cons _ _ => simp
                have f1 : (F.toArray.filter fun x => decide (x.born < since)) = F.toArray := by
                  apply Array.toList_inj.1
                  simp only [Array.toList_filter]
                  exact List.filter_eq_self.2 fun e he => by simpa using hold e he
                have f2 : (F.toArray.filter fun x => decide (x.born ≥ since)) = #[] := by
                  apply Array.toList_inj.1
                  simp only [Array.toList_filter]
                  rw [List.filter_eq_nil_iff.2 fun e he => by have := hold e he; simp; omega]
                have f3 : F.toArray.isEmpty = false := by cases F with
                  | nil => simp at hF
                  | cons _ _ => rfl
                obtain ⟨i, w1, hi, hw1, hch⟩ := run_choose P w hF
                obtain ⟨k, v, p1, p2, p3⟩ := pickL_ok (H := H) (n := n) (m := m) (since := since) (ck := ck) (seen := seen) hlr (List.getElem?_eq_getElem hi)
                have h1 : HR w0 G σ H nx w1 := by rcases hw1 with rfl | rfl; exact h; exact h.drew
                have hob1 : w1.heap[q.blk]? = some (.mapIter (some qm.blk) since seen.toArray last) := by rcases hw1 with rfl | rfl <;> exact hob
                refine ⟨_, _, .tuple #[.bool true, F[i].key, F[i].val], putObj w1 q.blk (.mapIter (some qm.blk) since (seen.toArray.push F[i].born) ck), p3, ?_, ⟨rfl, p1, p2, trivial⟩, ?_⟩
                · rw [oput_eq]
                  exact h1.put (ob' := .mapIter (some qm.blk) since (seen.toArray.push F[i].born) ck) hG hn hq hob1 ⟨h0, some qm.blk, by simp, qm, hqm, rfl⟩
                · simp only [Instr.next, h0, Sem.run_bind, hget, hgm, Result.andThen_ok, hcond, hleft, Bool.false_eq_true, if_false, f1, f2, f3]
                  have g1 : (#[] ++ Array.map some (F.toArray ++ #[])) = (F.map some).toArray := by simp
                  rw [g1]
                  have g2 : (F.map some).toArray.size = F.length := by simp
                  rw [g2, hch]
                  simp only [Result.andThen_ok]
                  have g3 : (F.map some).toArray[i]? = some (some F[i]) := by simp [hi]
                  rw [g3]
                  simp only [Sem.run_bind, run_setObj hob1 (fun _ _ _ e => by cases e), Result.andThen_ok]
                  rfl
        · cases ha
      · cases ha
  · cases ha
end
end
end Go.Proofs.YtafhmagifoapfaaGreatDoor
namespace Go.Proofs.YtafhmagifoapfaaGreatDoor
open Go.RowKit
noncomputable section
abbrev CallM := Nat → List V → PT O → Nat → Option (List (CR × PT O × Nat))
def CallMOk (P : Program) (w0 : World) (G : Nat) (mf : CallM) : Prop := ∀ f args H nx L, mf f args H nx = some L → ∀ σ w (us : Array Value), Globs σ G → HR w0 G σ H nx w → VRs σ args us.toList →
  Calls P f us w fun e w' => ∃ x ∈ L, CRok w0 G σ x.1 x.2.1 x.2.2 e w'
def isNextM (o : Oper) : Option Operand :=
  match o.op with
  | .next it isS => cond isS none (some it)
  | _ => none
/-- One operation, several ends. -/
def op1M (E : Env) (Z : Fns) (cf : CallX) (yf : YldX) (mf : CallM) (nt : Nat) (inR : Bool) (ops : Array Oper) (o : Oper) (s : SX) : Option (List XR) :=
  match wantE ops s.T o with
  | some true => match isNextM o with
    | some it => match evG E.G s.T it with
      | some x => match nextM E.G x s.H with
        | some L => bindL L fun (v, H) => match put1 nt s.T o.dst v with
          | some T => some [.go ⟨T, H, s.nx, s.ds⟩]
          | none => none
        | none => match execL E Z cf yf nt inR ops [o] s with
          | some r => some [r]
          | none => none
      | none => none
    | none => match evq E o s.T s.H with
      | some _ => match execL E Z cf yf nt inR ops [o] s with
        | some r => some [r]
        | none => none
      | none => match eve E Z o s.T s.H s.nx with
        | some (.call f args) => match mf f args s.H s.nx with
          | some L => bindL L fun (cr, H, nx) => match cr with
            | .ret v => match put1 nt s.T o.dst v with
              | some T => some [.go ⟨T, H, nx, s.ds⟩]
              | none => none
            | .pan _ => none
          | none => match execL E Z cf yf nt inR ops [o] s with
            | some r => some [r]
            | none => none
        | _ => match execL E Z cf yf nt inR ops [o] s with
          | some r => some [r]
          | none => none
  | _ => match execL E Z cf yf nt inR ops [o] s with
    | some r => some [r]
    | none => none
def execLM (E : Env) (Z : Fns) (cf : CallX) (yf : YldX) (mf : CallM) (nt : Nat) (inR : Bool) (ops : Array Oper) : List Oper → SX → Option (List XR)
  | [], s => some [.go s]
  | o :: rest, s => match op1M E Z cf yf mf nt inR ops o s with
    | some L => bindL L fun x => match x with
      | .go s => execLM E Z cf yf mf nt inR ops rest s
      | .pan v s => some [.pan v s]
    | none => none
section
variable {P : Program} {w0 : World} {E : Env} {Z : Fns} {cf : CallX} {yf : YldX} {mf : CallM} {r : Option Nat}
theorem wpListIn_single {n : Nat} {ops : Array Oper} {Q : Exit → Act → World → Prop} {o : Oper} {rest : List Oper} {a : Act} {w : World} (h : wpListIn (FW r) n P ops (Exit.then (wpListIn (FW r) n P ops Q rest) Q) [o] a w) : wpListIn (FW r) n P ops Q (o :: rest) a w := by
  unfold wpListIn at h ⊢
  split
  · rename_i hw
    rw [if_pos hw] at h
    refine ⟨h.1, ?_⟩
    have h2 := h.2
    generalize (o.semAt (FW r).round a.eval).run P w = R at h2 ⊢
    cases R with
    | ok x w' => cases x <;> exact h2
    | halt hh w' => cases hh <;> exact h2
  · rename_i hw
    rw [if_neg hw] at h
    exact h
set_option maxHeartbeats 1000000 in
theorem op1M_ok (hE : EnvOk P E) (hZ : FnsOk P Z) (hC : CallOk P w0 E.G cf) (hY : YldOk P w0 E.G yf) (hM : CallMOk P w0 E.G mf) {nt n : Nat} {ops : Array Oper} {Q : Exit → Act → World → Prop} {o : Oper} {s : SX} {L : List XR} (h : op1M E Z cf yf mf nt r.isSome ops o s = some L)
    {σ : Sig} {a : Act} {w : World} (hr : RX w0 E.G nt σ s a w) (hq : ∀ x ∈ L, XRpost w0 E.G nt σ Q x) : wpListIn (FW r) n P ops Q [o] a w := by
  have det : ∀ {L : List XR}, (match execL E Z cf yf nt r.isSome ops [o] s with
      | some r => some [r]
      | none => none) = some L → (∀ x ∈ L, XRpost w0 E.G nt σ Q x) → wpListIn (FW r) n P ops Q [o] a w := fun {L} h hq => by
    split at h
    · rename_i x hx
      simp only [Option.some.injEq] at h
      subst h
      exact execL_ok hE hZ hC hY [o] s x hx σ a w hr (hq x List.mem_cons_self)
    · cases h
  unfold op1M at h
  split at h
  · rename_i hwt
    split at h
    · rename_i it hit
      split at h
      · rename_i x hx
        split at h
        · rename_i L' hL
          have hop : ∃ ty, o.op = .next it false ∧ ty = o.type := by
            unfold isNextM at hit
            split at hit
            · rename_i it' isS he
              cases isS with
              | true => cases hit
              | false =>
                simp only [cond_false, Option.some.injEq] at hit
                subst hit
                exact ⟨_, he, rfl⟩
            · cases hit
          obtain ⟨ty, hop, _⟩ := hop
          obtain ⟨v, H', u, w', hmem, hm, hv, hrun⟩ := nextM_ok (P := P) (ty := o.type) hr.mem hL (evG_ok hr.globs hr.act hx)
          obtain ⟨y, hy, hyL⟩ := bindL_mem h _ hmem
          simp only at hy
          cases hp : put1 nt s.T o.dst v with
          | none => rw [hp] at hy; cases hy
          | some T =>
            rw [hp] at hy
            simp only [Option.some.injEq] at hy
            subst hy
            have hpost := hq _ (hyL _ List.mem_cons_self)
            unfold wpListIn
            rw [wantE_ok hr.act hwt, if_pos rfl]
            refine wp_val (fun c e => by rw [hop] at e; cases e) (u := u) (w' := w') ?_ ?_
            · obtain ⟨dst, op, type, pos, after, guard⟩ := o
              simp only at hop
              subst hop
              unfold execOp
              exact run_v hrun
            · exact hpost σ _ w' (Sig.le_refl σ) (hr.put (Sig.le_refl σ) hm hv hp)
        · exact det h hq
      · cases h
    · split at h
      · exact det h hq
      · split at h
        · rename_i f args hee
          split at h
          · rename_i L' hL
            have hs := eve_ok hE hZ hr.globs hr.mem hr.act hee
            obtain ⟨us, hus, hrun⟩ := hs
            unfold wpListIn
            rw [wantE_ok hr.act hwt, if_pos rfl]
            refine ⟨fun _ _ => trivial, ?_⟩
            rw [Oper.semAt_eq _ _ _ (fun c e => by
              obtain ⟨g, args, e2⟩ := eve_defer e hee
              cases e2), hrun, Oper.uponIn_enter]
            refine ⟨fw_depth, callsIn_fw ?_⟩
            refine (hM f args s.H s.nx L' hL σ w us hr.globs hr.mem hus).mono ?_
            rintro e w' ⟨⟨cr, H, nx⟩, hmem, σ', hl, hm, hcr⟩
            obtain ⟨y, hy, hyL⟩ := bindL_mem h _ hmem
            cases cr with
            | pan v => cases hy
            | ret v =>
              simp only at hy hcr hm
              obtain ⟨u, rfl, hv⟩ := hcr
              cases hp : put1 nt s.T o.dst v with
              | none => rw [hp] at hy; cases hy
              | some T =>
                rw [hp] at hy
                simp only [Option.some.injEq] at hy
                subst hy
                exact hq _ (hyL _ List.mem_cons_self) σ' _ w' hl (hr.put hl hm hv hp)
          · exact det h hq
        · exact det h hq
  · exact det h hq
theorem execLM_ok (hE : EnvOk P E) (hZ : FnsOk P Z) (hC : CallOk P w0 E.G cf) (hY : YldOk P w0 E.G yf) (hM : CallMOk P w0 E.G mf) {nt n : Nat} {ops : Array Oper} {Q : Exit → Act → World → Prop} : ∀ (l : List Oper) (s : SX) (L : List XR), execLM E Z cf yf mf nt r.isSome ops l s = some L →
    ∀ σ a w, RX w0 E.G nt σ s a w → (∀ x ∈ L, XRpost w0 E.G nt σ Q x) → wpListIn (FW r) n P ops Q l a w
  | [], s, L, h, σ, a, w, hr, hq => by
    simp only [execLM, Option.some.injEq] at h
    subst h
    exact hq _ List.mem_cons_self σ a w (Sig.le_refl σ) hr
  | o :: rest, s, L, h, σ, a, w, hr, hq => by
    unfold execLM at h
    split at h
    · rename_i L1 h1
      refine wpListIn_single (op1M_ok hE hZ hC hY hM h1 hr fun x hx => ?_)
      obtain ⟨y, hy, hyL⟩ := bindL_mem h x hx
      cases x with
      | go s1 =>
        intro σ' a' w' hl hr'
        exact execLM_ok hE hZ hC hY hM rest s1 y hy σ' a' w' hr' fun z hz => (hq z (hyL z hz)).le hl
      | pan v s1 =>
        simp only [Option.some.injEq] at hy
        subst hy
        exact hq _ (hyL _ List.mem_cons_self)
    · cases h
end
def toEY : XR → EY × SX
  | .go s => (.normal, s)
  | .pan v s => (.pan v, s)
/-- Code, several ends. -/
def stepM (E : Env) (Z : Fns) (cf : CallX) (yf : YldX) (mf : CallM) (nt : Nat) (inR : Bool) (fuel : Nat) (rec : Code → SX → Option (List (EY × SX))) (c : Code) (s : SX) : Option (List (EY × SX)) :=
  match c with
  | .region _ ops false => match execLM E Z cf yf mf nt inR ops ops.toList s with
    | some L => some (L.map toEY)
    | none => none
  | .seq x y => match rec x s with
    | some L => bindL L fun (e, s) => match e with
      | .normal => rec y s
      | e => some [(e, s)]
    | none => none
  | .cond x y z => match evG E.G s.T x with
    | some (.b true) => rec y s
    | some (.b false) => rec z s
    | _ => none
  | .block id x => match rec x s with
    | some L => bindL L fun (e, s) => match e with
      | .exit i => cond (Nat.beq i id) (some [(.normal, s)]) (some [(.exit i, s)])
      | e => some [(e, s)]
    | none => none
  | .loop x => match rec x s with
    | some L => bindL L fun (e, s) => match e with
      | .normal => rec (.loop x) s
      | e => some [(e, s)]
    | none => none
  | .scope x => rec x s
  | c => match execX E Z cf yf nt inR fuel c s with
    | some r => some [r]
    | none => none
def execM (E : Env) (Z : Fns) (cf : CallX) (yf : YldX) (mf : CallM) (nt : Nat) (inR : Bool) (fuel f : Nat) : Code → SX → Option (List (EY × SX)) :=
  Nat.rec (motive := fun _ => Code → SX → Option (List (EY × SX))) (fun _ _ => none) (fun _ ih => stepM E Z cf yf mf nt inR fuel ih) f
section
variable {P : Program} {w0 : World} {E : Env} {Z : Fns} {cf : CallX} {yf : YldX} {mf : CallM} {nt : Nat} {r : Option Nat} {n : Nat}
set_option maxHeartbeats 1000000 in
theorem execM_ok (hP : P.follows .mixedOrders = true) (hE : EnvOk P E) (hZ : FnsOk P Z) (hC : CallOk P w0 E.G cf) (hY : YldOk P w0 E.G yf) (hM : CallMOk P w0 E.G mf) (fuel : Nat) : ∀ (f : Nat) (c : Code) (s : SX) (L : List (EY × SX)), execM E Z cf yf mf nt r.isSome fuel f c s = some L →
    ∀ σ a w Q, RX w0 E.G nt σ s a w → (∀ x ∈ L, EYpost w0 E.G nt σ Q x.1 x.2) → c.wpIn (FW r) n P Q a w ∧ ∀ x, c = .loop x → Code.roundsIn (FW r) n P x Q f a w
  | 0, c, s, L, h, _, _, _, _, _, _ => by cases h
  | f + 1, c, s, L, h, σ, a, w, Q, hr, hq => by
    have ih := execM_ok hP hE hZ hC hY hM fuel f
    change stepM E Z cf yf mf nt r.isSome fuel (execM E Z cf yf mf nt r.isSome fuel f) c s = some L at h
    have nl : ∀ {c : Code}, (∀ x, c ≠ .loop x) → c.wpIn (FW r) n P Q a w → c.wpIn (FW r) n P Q a w ∧ ∀ x, c = .loop x → Code.roundsIn (FW r) n P x Q (f + 1) a w := fun hne hwp => ⟨hwp, fun x e => absurd e (hne x)⟩
    have det : ∀ {c : Code} {L : List (EY × SX)}, (∀ x, c ≠ .loop x) → (match execX E Z cf yf nt r.isSome fuel c s with
        | some r => some [r]
        | none => none) = some L → (∀ x ∈ L, EYpost w0 E.G nt σ Q x.1 x.2) → c.wpIn (FW r) n P Q a w ∧ ∀ x, c = .loop x → Code.roundsIn (FW r) n P x Q (f + 1) a w := fun {c L} hne h hq => by
      split at h
      · rename_i x hx
        obtain ⟨ey, s'⟩ := x
        simp only [Option.some.injEq] at h
        subst h
        exact nl hne (execX_ok hP hE hZ hC hY fuel c s ey s' hx σ a w Q hr (hq _ List.mem_cons_self)).1
      · cases h
    cases c with
    | region id ops d =>
      cases d with
      | true => exact det (by simp) h hq
      | false =>
        simp only [stepM] at h
        refine nl (by simp) (wpIn_region_list ?_)
        split at h
        · rename_i L1 h1
          simp only [Option.some.injEq] at h
          subst h
          refine execLM_ok hE hZ hC hY hM _ _ _ h1 σ a w hr fun x hx => ?_
          have := hq (toEY x) (List.mem_map_of_mem hx)
          cases x <;> exact this
        · cases h
    | seq x y =>
      simp only [stepM] at h
      refine nl (by simp) (wpIn_seq ?_)
      split at h
      · rename_i L1 h1
        refine (ih x s L1 h1 σ a w _ hr fun p hp => ?_).1
        obtain ⟨e1, s1⟩ := p
        obtain ⟨z, hz, hzL⟩ := bindL_mem h _ hp
        cases e1 with
        | normal => exact fun σ' a' w' hl hr' => (ih y s1 z hz σ' a' w' Q hr' fun t ht => (hq t (hzL t ht)).le hl).1
        | exit id =>
          simp only [Option.some.injEq] at hz
          subst hz
          exact hq _ (hzL _ List.mem_cons_self)
        | ret =>
          simp only [Option.some.injEq] at hz
          subst hz
          exact hq _ (hzL _ List.mem_cons_self)
        | pan v =>
          simp only [Option.some.injEq] at hz
          subst hz
          exact hq _ (hzL _ List.mem_cons_self)
      · cases h
    | cond x y z =>
      simp only [stepM] at h
      cases hx : evG E.G s.T x with
      | none => rw [hx] at h; cases h
      | some v =>
        rw [hx] at h
        have hv := evG_ok hr.globs hr.act hx
        cases v with
        | b t =>
          have he := VR_b hv
          cases t with
          | true => exact nl (by simp) (wpIn_cond_true he (ih y s L h σ a w Q hr hq).1)
          | false => exact nl (by simp) (wpIn_cond_false he (ih z s L h σ a w Q hr hq).1)
        | _ => cases h
    | block id x =>
      simp only [stepM] at h
      refine nl (by simp) (wpIn_block ?_)
      split at h
      · rename_i L1 h1
        refine (ih x s L1 h1 σ a w _ hr fun p hp => ?_).1
        obtain ⟨e1, s1⟩ := p
        obtain ⟨z, hz, hzL⟩ := bindL_mem h _ hp
        cases e1 with
        | normal =>
          simp only [Option.some.injEq] at hz
          subst hz
          exact hq _ (hzL _ List.mem_cons_self)
        | ret =>
          simp only [Option.some.injEq] at hz
          subst hz
          exact hq _ (hzL _ List.mem_cons_self)
        | pan v =>
          simp only [Option.some.injEq] at hz
          subst hz
          exact hq _ (hzL _ List.mem_cons_self)
        | exit i =>
          simp only at hz
          cases hi : Nat.beq i id
          · rw [hi] at hz
            simp only [cond_false, Option.some.injEq] at hz
            subst hz
            have hne : i ≠ id := fun e => by rw [beqT e] at hi; cases hi
            intro σ' a' w' hl hr'
            show Exit.inBlock id Q (.exit i) a' w'
            simp only [Exit.inBlock, if_neg hne]
            exact hq _ (hzL _ List.mem_cons_self) σ' a' w' hl hr'
          · rw [hi] at hz
            simp only [cond_true, Option.some.injEq] at hz
            subst hz
            have he := Nat.eq_of_beq_eq_true hi
            intro σ' a' w' hl hr'
            show Exit.inBlock id Q (.exit i) a' w'
            simp only [Exit.inBlock, if_pos he]
            exact hq _ (hzL _ List.mem_cons_self) σ' a' w' hl hr'
      · cases h
    | loop x =>
      simp only [stepM] at h
      have key : Code.roundsIn (FW r) n P x Q (f + 1) a w := by
        rw [roundsIn_succ]
        split at h
        · rename_i L1 h1
          refine (ih x s L1 h1 σ a w _ hr fun p hp => ?_).1
          obtain ⟨e1, s1⟩ := p
          obtain ⟨z, hz, hzL⟩ := bindL_mem h _ hp
          cases e1 with
          | normal => exact fun σ' a' w' hl hr' => (ih (.loop x) s1 z hz σ' a' w' Q hr' fun t ht => (hq t (hzL t ht)).le hl).2 x rfl
          | exit id =>
            simp only [Option.some.injEq] at hz
            subst hz
            exact hq _ (hzL _ List.mem_cons_self)
          | ret =>
            simp only [Option.some.injEq] at hz
            subst hz
            exact hq _ (hzL _ List.mem_cons_self)
          | pan v =>
            simp only [Option.some.injEq] at hz
            subst hz
            exact hq _ (hzL _ List.mem_cons_self)
        · cases h
      exact ⟨wpIn_loop_rounds _ key, fun y e => by injection e with e; subst e; exact key⟩
    | scope x =>
      simp only [stepM] at h
      refine nl (by simp) (wpIn_scopeX ?_)
      refine (ih x s L h σ a w _ hr fun p hp => ?_).1
      have := hq p hp
      obtain ⟨e1, s1⟩ := p
      cases e1 <;> exact this
    | _ => exact det (by simp) h hq
end
/-- A function that defers nothing, several ends. -/
def fnM (E : Env) (Z : Fns) (cf : CallX) (yf : YldX) (mf : CallM) (fuel : Nat) (f : Nat) (args : List V) (H : PT O) (nx : Nat) : Option (List (CR × PT O × Nat)) :=
  match Z.FT.get f with
  | none => none
  | some fn => match fn.body with
    | none => none
    | some c => match execM E Z cf yf mf (args.length + (fn.ntmps - args.length)) false fuel fuel c ⟨args0 args, H, nx, []⟩ with
      | none => none
      | some L => bindL L fun (e, s) => match e, s.ds with
        | .normal, [] => match resX E.TT fn.results s.T s.H with
          | some v => some [(.ret v, s.H, s.nx)]
          | none => none
        | .ret, [] => match resX E.TT fn.results s.T s.H with
          | some v => some [(.ret v, s.H, s.nx)]
          | none => none
        | _, _ => none
section
variable {P : Program} {w0 : World} {E : Env} {Z : Fns} {cf : CallX} {yf : YldX} {mf : CallM}
theorem fnM_ok (hP : P.follows .mixedOrders = true) (hE : EnvOk P E) (hZ : FnsOk P Z) (hC : CallOk P w0 E.G cf) (hY : YldOk P w0 E.G yf) (hM : CallMOk P w0 E.G mf) (fuel : Nat) : CallMOk P w0 E.G (fnM E Z cf yf mf fuel) := by
  intro f args H nx L h σ w us hG hm hus
  unfold fnM at h
  split at h
  · cases h
  · rename_i fn hf
    obtain ⟨f1, _, _⟩ := hZ.ft f fn hf
    split at h
    · cases h
    · rename_i c hb
      split at h
      · cases h
      · rename_i L1 h1
        have hA := args0_ok (ds := []) hus fn.ntmps
        have hS := args0_size hus fn.ntmps
        have hRX : RX w0 E.G (args.length + (fn.ntmps - args.length)) σ ⟨args0 args, H, nx, []⟩ { tmps := us ++ Array.replicate (fn.ntmps - us.size) undef, defers := [] } w := ⟨hG, hm, hA, hS, by simp [DR]⟩
        refine calls_of_wp f1 hb (wp_of_fw (n := 0) ?_)
        refine (execM_ok (r := none) hP hE hZ hC hY hM fuel fuel c _ L1 h1 σ _ w _ hRX fun p hp => ?_).1
        obtain ⟨e, s⟩ := p
        obtain ⟨z, hz, hzL⟩ := bindL_mem h _ hp
        have fin : ∀ v, s.ds = [] → resX E.TT fn.results s.T s.H = some v → z = [(.ret v, s.H, s.nx)] → ∀ σ' a2 w2, σ.le σ' → RX w0 E.G (args.length + (fn.ntmps - args.length)) σ' s a2 w2 → a2.defers = [] ∧ ∃ u, (results fn a2.tmps).run P w2 = .ok u w2 ∧ ∃ x ∈ L, CRok w0 E.G σ x.1 x.2.1 x.2.2 (.returned u) w2 := by
          intro v hds hv hz σ' a2 w2 hl hr2
          have hd := hr2.defers
          rw [hds] at hd
          have hd2 : a2.defers = [] := by
            cases hx : a2.defers with
            | nil => rfl
            | cons _ _ => rw [hx] at hd; simp [DR] at hd
          obtain ⟨u, u1, u2⟩ := resX_ok (P := P) hE.tt hr2.mem hr2.act hv
          subst hz
          exact ⟨hd2, u, u2, _, hzL _ List.mem_cons_self, σ', hl, hr2.mem, u, rfl, u1⟩
        simp only at hz
        split at hz
        · rename_i hds
          split at hz
          · rename_i v hv
            simp only [Option.some.injEq] at hz
            exact fin v hds hv hz.symm
          · cases hz
        · rename_i hds
          split at hz
          · rename_i v hv
            simp only [Option.some.injEq] at hz
            exact fin v hds hv hz.symm
          · cases hz
        · cases hz
end
end
end Go.Proofs.YtafhmagifoapfaaGreatDoor
namespace Go.Proofs.YtafhmagifoapfaaGreatDoor
open Go.RowKit
noncomputable section
def textV : V → Bool
  | .s _ _ => true
  | _ => false
def allS : List V → Bool
  | [] => true
  | v :: l => cond (textV v) (allS l) false
theorem allS_get : ∀ {l : List V} {j : Nat} {v : V}, allS l = true → l[j]? = some v → textV v = true
  | [], _, _, _, h => by simp at h
  | x :: l, j, v, h, hj => by
    unfold allS at h
    cases hx : textV x with
    | false => rw [hx] at h; cases h
    | true =>
      rw [hx] at h
      cases j with
      | zero =>
        simp only [List.getElem?_cons_zero, Option.some.injEq] at hj
        rw [← hj]; exact hx
      | succ j => rw [List.getElem?_cons_succ] at hj; exact allS_get h hj
theorem textV_any {σ τ : Sig} {v : V} {u : Value} (h : textV v = true) (hv : VR σ v u) : VR τ v u := by
  cases v <;> first | (cases h; done) | skip
  cases u <;> simp only [VR] at hv ⊢
  exact hv
/-- A slice of texts under the name G - 1, and its row alone. -/
def lone1 (G : Nat) (x : V) (H : PT O) : Option (V × PT O) :=
  match x with
  | .sl m o len cap => match H.get m with
    | some (.row t k cs fz _) => match cellsG cs len o with
      | some l => cond (allS l && Nat.ble 1 G) (nforce (G - 1) fun g => PT.force (setG l .leaf o) fun cs => PT.force (PT.set .leaf (.row t k cs fz true) g) fun H => some (.sl g o len cap, H)) none
      | none => none
    | _ => none
  | .slu m o len es => match H.get m with
    | some (.row t k cs fz _) => match cellsG cs len o with
      | some l => cond (allS l && Nat.ble 1 G) (nforce (G - 1) fun g => PT.force (setG l .leaf o) fun cs => PT.force (PT.set .leaf (.row t k cs fz true) g) fun H => some (.slu g o len es, H)) none
      | none => none
    | _ => none
  | _ => none
/-- Texts handed back: nil, or the type of the row and what it holds. -/
def outX (G : Nat) (v : V) (H : PT O) : Option (Option (Nat × List V)) :=
  match v with
  | .sln => some none
  | .slu m o len es => match H.get m with
    | some (.row t _ cs fz _) => match cellsG cs len 0 with
      | some l => cond (Nat.ble G m && (Nat.beq o 0 && (Nat.beq es 1 && (Nat.beq fz 0 && allS l)))) (some (some (t, l))) none
      | none => none
    | _ => none
  | _ => none
def sameO : Option (Nat × List V) → Option (Nat × List V) → Bool
  | none, none => true
  | some (t, l), some (t', l') => Nat.beq t t' && veqs l l'
  | _, _ => false
theorem sameO_ok {a b : Option (Nat × List V)} (h : sameO a b = true) : a = b := by
  cases a with
  | none => cases b with
    | none => rfl
    | some _ => cases h
  | some p => cases b with
    | none => cases h
    | some q =>
      obtain ⟨t, l⟩ := p
      obtain ⟨t', l'⟩ := q
      simp only [sameO, Bool.and_eq_true] at h
      rw [Nat.eq_of_beq_eq_true h.1, veqs_ok h.2]
def allO (G : Nat) (o : Option (Nat × List V)) : List (CR × PT O × Nat) → Bool
  | [] => true
  | (cr, H, _) :: l => cond (match cr with
    | .ret v => match outX G v H with
      | some o' => sameO o' o
      | none => false
    | .pan _ => false) (allO G o l) false
def joinO (G : Nat) : List (CR × PT O × Nat) → Option (Option (Nat × List V))
  | [] => none
  | (cr, H, nx) :: l => match cr with
    | .ret v => match outX G v H with
      | some o => cond (allO G o ((cr, H, nx) :: l)) (some o) none
      | none => none
    | .pan _ => none
theorem allO_ok {G : Nat} {o : Option (Nat × List V)} : ∀ {l : List (CR × PT O × Nat)}, allO G o l = true → ∀ x ∈ l, ∃ v, x.1 = .ret v ∧ outX G v x.2.1 = some o
  | [], _, x, hx => by cases hx
  | (cr, H, nx) :: l, h, x, hx => by
    unfold allO at h
    cases hc : (match cr with
      | .ret v => match outX G v H with
        | some o' => sameO o' o
        | none => false
      | .pan _ => false) with
    | false => rw [hc] at h; cases h
    | true =>
      rw [hc] at h
      rcases List.mem_cons.1 hx with rfl | hx
      · cases cr with
        | pan v => cases hc
        | ret v =>
          simp only at hc ⊢
          split at hc
          · rename_i o' ho
            rw [sameO_ok hc] at ho
            exact ⟨v, rfl, ho⟩
          · cases hc
      · exact allO_ok h x hx
theorem joinO_ok {G : Nat} {l : List (CR × PT O × Nat)} {o : Option (Nat × List V)} (h : joinO G l = some o) : ∀ x ∈ l, ∃ v, x.1 = .ret v ∧ outX G v x.2.1 = some o := by
  unfold joinO at h
  split at h
  · cases h
  · split at h
    · split at h
      · rename_i v _ o' ho
        cases hc : allO G o' _ with
        | false => rw [hc] at h; cases h
        | true =>
          rw [hc] at h
          simp only [cond_true, Option.some.injEq] at h
          subst h
          exact allO_ok hc
      · cases h
    · cases h
/-- The function number cid, that calls the function number gid, both with walks over maps. -/
def textsX (E : Env) (Z : Fns) (cf : CallX) (yf : YldX) (fuel gid cid : Nat) : CallX := fun f args H nx =>
  cond (Nat.beq f cid) (match args with
    | [x] => match lone1 E.G x H with
      | some (x', H1) => match fnM E Z cf yf (fun f args H nx => cond (Nat.beq f gid) (fnM E Z cf yf (fun _ _ _ _ => none) fuel f args H nx) none) fuel f [x'] H1 E.G with
        | some L => match joinO E.G L with
          | some none => some (.ret .sln, H, nx)
          | some (some (t, l)) => cond (Nat.ble E.G nx) (nforce l.length fun k => PT.force (setG l .leaf 0) fun cs => PT.force (H.set (.row t k cs 0 false) nx) fun H => nforce (nx + 1) fun nx1 => some (.ret (.slu nx 0 k 1), H, nx1)) none
          | none => none
        | none => none
      | none => none
    | _ => none) none
section
variable {P : Program} {w0 w w' : World} {G nx : Nat} {σ : Sig} {H : PT O}
theorem HR.keep (h : HR w0 G σ H nx w) (hb : Below w.heap.size w w') : HR w0 G σ H nx w' := by
  refine ⟨h.below.trans (hb.mono h.below.size), h.dom, fun n o hn => ?_, h.high, h.apart⟩
  obtain ⟨q, ob, hq, hob, ho⟩ := h.obj n o hn
  exact ⟨q, ob, hq, by rw [hb.block _ (Array.getElem?_eq_some_iff.1 hob).1]; exact hob, ho⟩
theorem HR.found (h : HR w0 G σ H nx w) {o : O} {ob : Obj} {q : Spot} (hG : G ≤ nx) (hb : ∀ m r, H.get m ≠ none → σ m = some r → r.blk ≠ q.blk) (hq : w0.heap.size ≤ q.blk) (hob : w.heap[q.blk]? = some ob) (ho : OR (σ.ext nx q) q o ob) : HR w0 G (σ.ext nx q) (H.set o nx) (nx + 1) w := by
  have hle := Sig.le_ext (q := q) (h.dom nx (Nat.le_refl _))
  have hext : ∀ m, m ≠ nx → σ.ext nx q m = σ m := fun m hm => by unfold Sig.ext; rw [if_neg hm]
  have hself : σ.ext nx q nx = some q := by unfold Sig.ext; rw [if_pos rfl]
  refine ⟨h.below, fun m hm => by rw [hext m (by omega)]; exact h.dom m (by omega), fun m o' hm => ?_, fun m r hr hGm => ?_, fun m1 m2 q1 q2 h1 h2 hq1 hq2 hne => ?_⟩
  · rw [PT.get_set] at hm
    by_cases e : m = nx
    · subst e
      rw [if_pos rfl] at hm
      simp only [Option.some.injEq] at hm
      subst hm
      exact ⟨q, ob, hself, hob, ho⟩
    · rw [if_neg e] at hm
      obtain ⟨r, ob', hr, hob', hor⟩ := h.obj m o' hm
      exact ⟨r, ob', hle m r hr, hob', hor.le hle⟩
  · by_cases e : m = nx
    · subst e
      rw [hself] at hr
      simp only [Option.some.injEq] at hr
      subst hr
      exact hq
    · rw [hext m e] at hr
      exact h.high m r hr hGm
  · rw [PT.get_set] at h1 h2
    by_cases e1 : m1 = nx
    · subst e1
      rw [hself] at hq1
      simp only [Option.some.injEq] at hq1
      subst hq1
      rw [if_neg (fun e => hne e.symm)] at h2
      rw [hext m2 (fun e => hne e.symm)] at hq2
      exact (hb m2 q2 h2 hq2).symm
    · rw [if_neg e1] at h1
      rw [hext m1 e1] at hq1
      by_cases e2 : m2 = nx
      · subst e2
        rw [hself] at hq2
        simp only [Option.some.injEq] at hq2
        subst hq2
        exact hb m1 q1 h1 hq1
      · rw [if_neg e2] at h2
        rw [hext m2 e2] at hq2
        exact h.apart m1 m2 q1 q2 h1 h2 hq1 hq2 hne
/-- Names: the program's variables, and one row under the name G - 1. -/
def sigL (σ : Sig) (G : Nat) (q : Spot) : Sig := fun n => if n + 1 < G then σ n else if n + 1 = G then some q else none
theorem row_part {σ τ : Sig} {q : Spot} {t k fz o : Nat} {cs : PT V} {ob : Obj} {l : List V} (h : RowR σ q t k cs fz ob) (hl : ∀ j v, l[j]? = some v → cs.get (o + j) = some v) (hs : allS l = true) : RowR τ q t k (setG l .leaf o) fz ob := by
  obtain ⟨arr, lo, hi, h1, h2, h3, h4, h5⟩ := h
  refine ⟨arr, lo, hi, h1, h2, h3, h4, fun j v hj => ?_⟩
  rw [setG_get] at hj
  split at hj
  · rename_i hr
    have := hl (j - o) v hj
    rw [show o + (j - o) = j by omega] at this
    obtain ⟨k1, u, k2, k3⟩ := h5 j v this
    exact ⟨k1, u, k2, textV_any (allS_get hs hj) k3⟩
  · cases hj
theorem lone1_ok (hG : Globs σ G) (h : HR w0 G σ H nx w) {x x' : V} {H1 : PT O} {u : Value} (hx : VR σ x u) (hl : lone1 G x H = some (x', H1)) : ∃ σ1, Globs σ1 G ∧ HR w G σ1 H1 G w ∧ VR σ1 x' u := by
  have key : ∀ (m o len t k fz : Nat) (ro : Bool) (cs : PT V) (l : List V) (a : Addr), H.get m = some (.row t k cs fz ro) → cellsG cs len o = some l → (allS l && Nat.ble 1 G) = true → addrOf σ m o = some a →
      ∃ q, σ m = some q ∧ Globs (sigL σ G q) G ∧ HR w G (sigL σ G q) (PT.set .leaf (.row t k (setG l .leaf o) fz true) (G - 1)) G w ∧ addrOf (sigL σ G q) (G - 1) o = some a ∧ sigL σ G q (G - 1) = some q := by
    intro m o len t k fz ro cs l a hm hc hb ha
    rw [Bool.and_eq_true] at hb
    have h1 := Nat.le_of_ble_eq_true hb.2
    obtain ⟨q, ob, hq, hob, hrow⟩ := h.obj m _ hm
    have hs : sigL σ G q (G - 1) = some q := by unfold sigL; rw [if_neg (by omega), if_pos (by omega)]
    refine ⟨q, hq, fun g hg hg2 => ?_, ⟨Below.refl _ _, fun n hn => ?_, fun n o' hn => ?_, fun n r hr hn => ?_, fun n1 n2 q1 q2 e1 e2 _ _ hne => ?_⟩, ?_, hs⟩
    · obtain ⟨t', ht'⟩ := hG g hg hg2
      exact ⟨t', by unfold sigL; rw [if_pos hg]; exact ht'⟩
    · unfold sigL; rw [if_neg (by omega), if_neg (by omega)]
    · rw [PT.get_set] at hn
      by_cases e : n = G - 1
      · rw [if_pos e] at hn
        simp only [Option.some.injEq] at hn
        subst hn
        exact ⟨q, ob, by rw [e]; exact hs, hob, row_part hrow (fun j v hj => cellsG_get hc j v hj) hb.1⟩
      · rw [if_neg e] at hn
        cases hn
    · unfold sigL at hr; rw [if_neg (by omega), if_neg (by omega)] at hr; cases hr
    · have f : ∀ n, (PT.set .leaf (O.row t k (setG l .leaf o) fz true) (G - 1)).get n ≠ none → n = G - 1 := fun n hn => by
        rw [PT.get_set] at hn
        by_cases e : n = G - 1
        · exact e
        · rw [if_neg e] at hn; exact absurd rfl hn
      exact absurd ((f n1 e1).trans (f n2 e2).symm) hne
    · unfold addrOf at ha ⊢
      rw [hs]; rw [hq] at ha; exact ha
  unfold lone1 at hl
  split at hl
  · rename_i m o len cap
    split at hl
    · rename_i t k cs fz ro hm
      split at hl
      · rename_i l hc
        cases hb : (allS l && Nat.ble 1 G) with
        | false => rw [hb] at hl; cases hl
        | true =>
          rw [hb] at hl
          simp only [cond_true, nforce_eq, PT.force_eq, Option.some.injEq, Prod.mk.injEq] at hl
          obtain ⟨rfl, rfl⟩ := hl
          obtain ⟨a, rfl, ha, hle⟩ := VR_sl hx
          obtain ⟨q, _, k1, k2, k3, _⟩ := key m o len t k fz ro cs l a hm hc hb ha
          exact ⟨_, k1, k2, by simp only [VR]; exact ⟨k3, trivial, trivial, hle⟩⟩
      · cases hl
    · cases hl
  · rename_i m o len es
    split at hl
    · rename_i t k cs fz ro hm
      split at hl
      · rename_i l hc
        cases hb : (allS l && Nat.ble 1 G) with
        | false => rw [hb] at hl; cases hl
        | true =>
          rw [hb] at hl
          simp only [cond_true, nforce_eq, PT.force_eq, Option.some.injEq, Prod.mk.injEq] at hl
          obtain ⟨rfl, rfl⟩ := hl
          cases u with
          | slice a l' c =>
            cases a with
            | none => simp [VR] at hx
            | some a =>
              simp only [VR] at hx
              obtain ⟨ha, e1, e2, q', hq', e3⟩ := hx
              obtain ⟨q, hq, k1, k2, k3, k4⟩ := key m o len t k fz ro cs l a hm hc hb ha
              rw [hq] at hq'
              simp only [Option.some.injEq] at hq'
              subst hq'
              exact ⟨_, k1, k2, by simp only [VR]; exact ⟨k3, e1, e2, q, k4, e3⟩⟩
          | _ => simp [VR] at hx
      · cases hl
    · cases hl
  · cases hl
theorem textsX_ok {E : Env} {Z : Fns} {cf : CallX} {yf : YldX} (hP : P.follows .mixedOrders = true) (hE : EnvOk P E) (hZ : FnsOk P Z) (hC : ∀ w0, CallOk P w0 E.G cf) (hY : ∀ w0, YldOk P w0 E.G yf) (fuel gid cid : Nat) (w0 : World) : CallOk P w0 E.G (textsX E Z cf yf fuel gid cid) := by
  intro f args H nx cr H' nx' h σ w us hG hm hus
  unfold textsX at h
  cases hf : Nat.beq f cid with
  | false => rw [hf] at h; cases h
  | true =>
    rw [hf] at h
    simp only [cond_true] at h
    split at h
    · rename_i x
      split at h
      · rename_i x' H1 hl1
        split at h
        · rename_i L hL
          have hux : ∃ u, us.toList = [u] ∧ VR σ x u := by
            cases hu : us.toList with
            | nil => rw [hu] at hus; simp [VRs] at hus
            | cons u r => rw [hu] at hus; cases r with
              | nil => exact ⟨u, rfl, hus.1⟩
              | cons _ _ => simp [VRs] at hus
          obtain ⟨u, hu, hx⟩ := hux
          obtain ⟨σ1, g1, g2, g3⟩ := lone1_ok hG hm hx hl1
          have hM0 : CallMOk P w E.G (fun _ _ _ _ => none) := fun f args H nx L h => by cases h
          have hM1 := fnM_ok hP hE hZ (hC w) (hY w) hM0 fuel
          have hM2 : CallMOk P w E.G (fun f args H nx => cond (Nat.beq f gid) (fnM E Z cf yf (fun _ _ _ _ => none) fuel f args H nx) none) := fun f args H nx L h => by
            simp only at h
            cases hg : Nat.beq f gid with
            | false => rw [hg] at h; cases h
            | true => rw [hg] at h; exact hM1 f args H nx L h
          have hcall := fnM_ok hP hE hZ (hC w) (hY w) hM2 fuel f [x'] H1 E.G L hL σ1 w us g1 g2 (by rw [hu]; exact ⟨g3, trivial⟩)
          split at h
          · rename_i hj
            simp only [Option.some.injEq, Prod.mk.injEq] at h
            obtain ⟨rfl, rfl, rfl⟩ := h
            refine hcall.mono ?_
            rintro e w' ⟨y, hy, σ2, hl, hm2, hcr⟩
            obtain ⟨v, hv, ho⟩ := joinO_ok hj y hy
            rw [hv] at hcr
            obtain ⟨r, rfl, hvr⟩ := hcr
            have hvn : v = .sln := by
              unfold outX at ho
              split at ho
              · rfl
              · split at ho
                · rename_i t n cs fz ro _
                  split at ho
                  · rename_i l _
                    cases hb : (Nat.ble E.G _ && (Nat.beq _ 0 && (Nat.beq _ 1 && (Nat.beq fz 0 && allS l)))) with
                    | false => rw [hb] at ho; cases ho
                    | true => rw [hb] at ho; cases ho
                  · cases ho
                · cases ho
              · cases ho
            subst hvn
            rw [VR_sln hvr]
            exact ⟨σ, Sig.le_refl σ, hm.keep hm2.below, .slice none 0 0, rfl, trivial⟩
          · rename_i t l hj
            cases hg : Nat.ble E.G nx with
            | false => rw [hg] at h; cases h
            | true =>
              rw [hg] at h
              have hgn := Nat.le_of_ble_eq_true hg
              simp only [cond_true, nforce_eq, PT.force_eq, Option.some.injEq, Prod.mk.injEq] at h
              obtain ⟨rfl, rfl, rfl⟩ := h
              refine hcall.mono ?_
              rintro e w' ⟨y, hy, σ2, hl, hm2, hcr⟩
              obtain ⟨v, hv, ho⟩ := joinO_ok hj y hy
              rw [hv] at hcr
              obtain ⟨r, rfl, hvr⟩ := hcr
              unfold outX at ho
              split at ho
              · cases ho
              · rename_i m o len es
                split at ho
                · rename_i t' n cs fz ro hrow
                  split at ho
                  · rename_i l' hcl
                    cases hb : (Nat.ble E.G m && (Nat.beq o 0 && (Nat.beq es 1 && (Nat.beq fz 0 && allS l')))) with
                    | false => rw [hb] at ho; cases ho
                    | true =>
                      rw [hb] at ho
                      simp only [cond_true, Option.some.injEq, Prod.mk.injEq] at ho
                      obtain ⟨rfl, rfl⟩ := ho
                      simp only [Bool.and_eq_true] at hb
                      obtain ⟨b1, b2, b3, b4, b5⟩ := hb
                      have b1 := Nat.le_of_ble_eq_true b1
                      have b2 := Nat.eq_of_beq_eq_true b2
                      have b3 := Nat.eq_of_beq_eq_true b3
                      have b4 := Nat.eq_of_beq_eq_true b4
                      subst b2 b3 b4
                      cases r with
                      | slice a l2 c =>
                        cases a with
                        | none => simp [VR] at hvr
                        | some a =>
                          simp only [VR] at hvr
                          obtain ⟨ha, rfl, hlc, q, hq, hqt⟩ := hvr
                          obtain ⟨q', ob, hq', hob, hR⟩ := hm2.obj m _ hrow
                          rw [hq] at hq'
                          simp only [Option.some.injEq] at hq'
                          subst hq'
                          have hlen := cellsG_length hcl
                          have hhigh := hm2.high m q hq b1
                          have hk := hm.keep hm2.below
                          have hR' : RowR (σ.ext nx q) q t' l'.length (setG l' .leaf 0) 0 ob := by
                            have := row_part (τ := σ.ext nx q) (o := 0) hR (fun j v hj => cellsG_get hcl j v hj) b5
                            obtain ⟨arr, lo, hi, h1, h2, h3, h4, h5⟩ := this
                            refine ⟨arr, lo, hi, h1, h2, by rw [hlen]; omega, h4, fun j v hj => ?_⟩
                            obtain ⟨_, k2⟩ := h5 j v hj
                            rw [setG_get] at hj
                            split at hj
                            · rename_i hr; exact ⟨by omega, k2⟩
                            · cases hj
                          have hfound := hk.found (o := .row t' l'.length (setG l' .leaf 0) 0 false) (ob := ob) (q := q) hgn (fun m' r' e1 e2 => by
                            obtain ⟨o', ho'⟩ := Option.ne_none_iff_exists'.1 e1
                            obtain ⟨q2, ob2, hq2, hob2, _⟩ := hm.obj m' o' ho'
                            rw [e2] at hq2
                            simp only [Option.some.injEq] at hq2
                            subst hq2
                            have := (Array.getElem?_eq_some_iff.1 hob2).1
                            omega) (Nat.le_trans hm.below.size hhigh) hob hR'
                          refine ⟨_, Sig.le_ext (hm.dom nx (Nat.le_refl _)), hfound, .slice (some a) len c, rfl, ?_⟩
                          simp only [VR]
                          refine ⟨?_, hlen, by rw [hlen]; exact hlc, q, by unfold Sig.ext; rw [if_pos rfl], hqt⟩
                          unfold addrOf at ha ⊢
                          unfold Sig.ext
                          rw [if_pos rfl]; rw [hq] at ha; exact ha
                      | _ => simp [VR] at hvr
                  · cases ho
                · cases ho
              · cases ho
          · cases h
        · cases h
      · cases h
    · cases h
end
end
end Go.Proofs.YtafhmagifoapfaaGreatDoor
namespace Go.Proofs.YtafhmagifoapfaaGreatDoor
open Go.RowKit
noncomputable section
def tabI {α : Type} (f : Nat → Option α) : List Nat → PT α
  | [] => .leaf
  | i :: l => match f i with
    | some a => PT.force (tabI f l) fun T => PT.force (T.set a i) fun T => T
    | none => tabI f l
theorem tabI_get {α : Type} {f : Nat → Option α} : ∀ {l : List Nat} {i : Nat} {a : α}, (tabI f l).get i = some a → f i = some a
  | [], i, a, h => by cases h
  | j :: l, i, a, h => by
    unfold tabI at h
    cases hj : f j with
    | none => rw [hj] at h; exact tabI_get h
    | some b =>
      rw [hj] at h
      simp only [PT.force_eq] at h
      rw [PT.get_set] at h
      by_cases e : i = j
      · rw [if_pos e] at h
        rw [e, hj]; exact h
      · rw [if_neg e] at h; exact tabI_get h
def tdOf (P : Program) (t : Nat) : Option TD := match P.underlying t, P.info? t with
  | some d, some i => some ⟨d, i⟩
  | _, _ => none
/-- A table of a list's elements. -/
def tabL {α β : Type} (g : Nat → α → Option β) : List α → Nat → PT β
  | [], _ => .leaf
  | a :: l, i => nforce (i + 1) fun i1 => PT.force (tabL g l i1) fun T => match g i a with
    | some b => PT.force (T.set b i) fun T => T
    | none => T
theorem tabL_get {α β : Type} {g : Nat → α → Option β} : ∀ {l : List α} {i j : Nat} {b : β}, (tabL g l i).get j = some b → ∃ a, i ≤ j ∧ l[j - i]? = some a ∧ g j a = some b
  | [], i, j, b, h => by cases h
  | a :: l, i, j, b, h => by
    unfold tabL at h
    rw [nforce_eq, PT.force_eq] at h
    have rest : (tabL g l (i + 1)).get j = some b → ∃ a', i ≤ j ∧ (a :: l)[j - i]? = some a' ∧ g j a' = some b := fun h => by
      obtain ⟨a', h1, h2, h3⟩ := tabL_get h
      refine ⟨a', by omega, ?_, h3⟩
      rw [show j - i = (j - (i + 1)) + 1 by omega, List.getElem?_cons_succ]; exact h2
    cases hg : g i a with
    | none => rw [hg] at h; exact rest h
    | some c =>
      rw [hg] at h
      simp only [PT.force_eq] at h
      rw [PT.get_set] at h
      by_cases e : j = i
      · rw [if_pos e] at h
        subst e
        exact ⟨a, Nat.le_refl _, by rw [Nat.sub_self]; rfl, by rw [hg]; exact h⟩
      · rw [if_neg e] at h; exact rest h
def tdG (IT : PT TypeInfo) (_ : Nat) (a : TypeInfo) : Option TD := match a.desc with
  | .named _ u => match IT.get u with
    | some i => some ⟨i.desc, a⟩
    | none => none
  | d => some ⟨d, a⟩
def tdTab (P : Program) : PT TD := PT.force (tabL (fun _ a => some a) P.types.toList 0) fun IT => tabL (tdG IT) P.types.toList 0
def fnG (_ : Nat) (fn : Func) : Option Func := cond (fn.body.isSome && !(fn.name == "runtime.NumGoroutine")) (some fn) none
def fnTab (P : Program) : PT Func := tabL fnG P.funcs.toList 0
theorem info_of {P : Program} {t : Nat} {a : TypeInfo} (h : P.types.toList[t - 0]? = some a) : P.info? t = some a := by
  rw [Nat.sub_zero, Array.getElem?_toList] at h
  have hlt := (Array.getElem?_eq_some_iff.1 h).1
  unfold Tables.info?
  rw [if_pos hlt]; exact h
theorem tdTab_ok (P : Program) : TTok P (tdTab P) := fun t x h => by
  unfold tdTab at h
  rw [PT.force_eq] at h
  obtain ⟨a, _, h1, h2⟩ := tabL_get h
  have hi := info_of h1
  unfold tdG at h2
  split at h2
  · rename_i n u hd
    split at h2
    · rename_i i hu
      simp only [Option.some.injEq] at h2
      subst h2
      obtain ⟨b, _, k1, k2⟩ := tabL_get hu
      simp only [Option.some.injEq] at k2
      subst k2
      refine ⟨?_, hi⟩
      unfold Program.underlying
      rw [hi]
      obtain ⟨desc, _⟩ := a
      simp only at hd
      subst hd
      simp only [info_of k1]
      rfl
    · cases h2
  · rename_i d hne
    simp only [Option.some.injEq] at h2
    subst h2
    refine ⟨?_, hi⟩
    unfold Program.underlying
    rw [hi]
    obtain ⟨desc, _⟩ := a
    cases desc <;> first | rfl | (exact absurd rfl (hne _ _))
theorem fnTab_ok {P : Program} {f : Nat} {fn : Func} (h : (fnTab P).get f = some fn) : P.funcs[f]? = some fn ∧ (fn.name == "runtime.NumGoroutine") = false ∧ fn.body.isSome = true := by
  obtain ⟨a, _, h1, h2⟩ := tabL_get h
  rw [Nat.sub_zero, Array.getElem?_toList] at h1
  unfold fnG at h2
  cases hc : (a.body.isSome && !(a.name == "runtime.NumGoroutine")) with
  | false => rw [hc] at h2; cases h2
  | true =>
    rw [hc] at h2
    simp only [cond_true, Option.some.injEq] at h2
    subst h2
    rw [Bool.and_eq_true] at hc
    exact ⟨h1, by simpa using hc.2, hc.1⟩
def eqOf (P : Program) (t : Nat) : Option (List (Nat × Nat)) := cond (P.eqGuardType P.depth t) none (match P.underlying t with
  | some (.struct fs) => cond (P.stoodInHeld t) none (some ((fs.toList.filter fun f => f.name ≠ "_").map fun f => (f.offset, f.type)))
  | some (.array n e) => match P.info? e with
    | some _ => some ((List.range n).map fun j => (j * P.cellsOf e, e))
    | none => none
  | _ => none)
theorem eqOf_ok (P : Program) (l : List Nat) : EQok P (tabI (eqOf P) l) := fun t x h => by
  have := tabI_get h
  unfold eqOf at this
  cases hg : P.eqGuardType P.depth t with
  | true => rw [hg] at this; cases this
  | false =>
    rw [hg] at this
    refine ⟨rfl, ?_⟩
    simp only [cond_false] at this
    split at this
    · rename_i fs hu
      cases hs : P.stoodInHeld t with
      | true => rw [hs] at this; cases this
      | false =>
        rw [hs] at this
        simp only [cond_false, Option.some.injEq] at this
        have hf : P.fieldsOf t = fs := by unfold Program.fieldsOf; rw [hu]
        exact .inl ⟨by rw [hf]; exact hu, rfl, by rw [hf]; exact this⟩
    · rename_i n e hu
      split at this
      · rename_i i hi
        simp only [Option.some.injEq] at this
        exact .inr ⟨n, e, i, hu, hi, this⟩
      · cases this
    · cases this
def memP (a b : Nat) : List (Nat × Nat) → Bool
  | [] => false
  | (x, y) :: l => cond (Nat.beq a x && Nat.beq b y) true (memP a b l)
/-- (*strings.Builder).copyCheck; 'L': the rows' types, and where in them a builder lies. -/
def bxCopy (G id : Nat) (L : List (Nat × Nat)) : CallX := fun f args H nx => cond (Nat.beq f id) (match args with
  | [.p n o] => match H.get n with
    | some (.row t k cs fz false) => cond (memP t o L && (Nat.ble (o + 2) k && (Nat.ble G n && Nat.ble fz o))) (match cs.get o with
      | some .pn => PT.force (cs.set (.p n o) o) fun cs => PT.force (H.set (.row t k cs fz false) n) fun H => some (.ret (.tup []), H, nx)
      | some (.p m q) => cond (Nat.beq m n && Nat.beq q o) (some (.ret (.tup []), H, nx)) none
      | _ => none) none
    | _ => none
  | _ => none) none
/-- (*strings.Builder).String. -/
def bxStr (G id u : Nat) : CallX := fun f args H nx => cond (Nat.beq f id) (match args with
  | [.p n o] => match H.get n with
    | some (.row _ _ cs _ _) => match cs.get (o + 1) with
      | some .sln => some (.ret (.s 0 0), H, nx)
      | some x => match baseV x with
        | some (m, p, len) => cond (Nat.beq p 0 && (Nat.blt 0 len && (Nat.ble len 1000000 && (Nat.ble G m && !Nat.beq m n)))) (match H.get m with
          | some (.row t2 _ cs2 _ _) => cond (Nat.beq t2 u) (match cellsG cs2 len 0 with
            | some l => match packV l with
              | some y => PT.force (H.del m) fun H => some (.ret (.s len y), H, nx)
              | none => none
            | none => none) none
          | _ => none) none
        | none => none
      | none => none
    | _ => none
  | _ => none) none
/-- errors.As of an error with a layer's mark about it, a variable for it. -/
def bxAs (G id tU tE tT : Nat) : CallX := fun f args H nx => cond (Nat.beq f id) (match args with
  | [.ifc t (.p n o), .ifc t2 (.p m q)] => cond (Nat.beq t tU && Nat.beq t2 tT) (match H.get n with
    | some (.row _ _ cs _ _) => match cs.get (o + 2) with
      | some (.ifc t3 (.p e p)) => cond (Nat.beq t3 tE) (match H.get m with
        | some (.row t4 k cs2 fz false) => cond (Nat.ble G m && (Nat.blt q k && Nat.ble fz q)) (PT.force (cs2.set (.p e p) q) fun cs2 => PT.force (H.set (.row t4 k cs2 fz false) m) fun H => some (.ret (.b true), H, nx)) none
        | _ => none) none
      | _ => none
    | _ => none) none
  | _ => none) none
def step1 (r : Nat) : Nat := cond (Nat.beq (r % 2) 1) (Nat.xor (r / 2) 3988292384) (r / 2)
def itF (f : Nat → Nat) : Nat → Nat → Nat
  | 0, r => r
  | n + 1, r => f (itF f n r)
def sumF : List UInt8 → Nat → Nat
  | [], r => r
  | b :: l, r => sumF l (itF step1 8 (Nat.xor r b.toNat))
def step8 (r : Nat) (k : Nat → Option Nat) : Option Nat := nforce (step1 r) fun r => nforce (step1 r) fun r => nforce (step1 r) fun r => nforce (step1 r) fun r => nforce (step1 r) fun r => nforce (step1 r) fun r => nforce (step1 r) fun r => nforce (step1 r) k
def crcL : List V → Nat → Option Nat
  | [], r => some r
  | .i .u8 (.ofNat x) :: l, r => cond (Nat.blt x 256) (step8 (Nat.xor r x) fun r => crcL l r) none
  | _ :: _, _ => none
/-- octet.Sum. -/
def bxSum (id : Nat) : CallX := fun f args H nx => cond (Nat.beq f id) (match args with
  | [x] => match baseV x with
    | some (m, p, n) => cond (Nat.ble n 1000000) (match H.get m with
      | some (.row _ _ cs _ _) => match cellsG cs n p with
        | some l => match crcL l 4294967295 with
          | some r => nforce (Nat.xor r 4294967295) fun r => some (.ret (.i .u32 (.ofNat r)), H, nx)
          | none => none
        | none => none
      | _ => none) none
    | none => none
  | _ => none) none
theorem crcL_ok {σ : Sig} : ∀ {l : List V} {us : List Value} {r r' : Nat}, crcL l r = some r' → VRs σ l us → ∃ bs : List UInt8, us = bs.map (fun b => Value.int .u8 (b.toNat : Int)) ∧ bs.length = l.length ∧ r' = sumF bs r
  | [], [], r, r', h, _ => by
    simp only [crcL, Option.some.injEq] at h
    exact ⟨[], rfl, rfl, h.symm⟩
  | v :: l, u :: us, r, r', h, hv => by
    unfold crcL at h
    split at h
    · rename_i h'; cases h'
    · rename_i b l' h'
      simp only [List.cons.injEq] at h'
      obtain ⟨rfl, rfl⟩ := h'
      cases hb : Nat.blt b 256 with
      | false => rw [hb] at h; cases h
      | true =>
        rw [hb] at h
        have hb : b < 256 := Nat.le_of_ble_eq_true hb
        simp only [cond_true, step8, nforce_eq] at h
        obtain ⟨bs, h1, h2, h3⟩ := crcL_ok h hv.2
        have hv1 := hv.1
        cases u <;> simp only [VR] at hv1
        obtain ⟨rfl, rfl⟩ := hv1
        have hbn : (UInt8.ofNat b).toNat = b := by simp; omega
        refine ⟨UInt8.ofNat b :: bs, ?_, by simp [h2], ?_⟩
        · rw [h1, List.map_cons, hbn]; rfl
        · rw [h3]
          rw [sumF, hbn]; rfl
    · cases h
  | [], _ :: _, _, _, _, h => by simp [VRs] at h
  | _ :: _, [], _, _, _, h => by simp [VRs] at h
def orX (a b : CallX) : CallX := fun f args H nx => match a f args H nx with
  | some r => some r
  | none => b f args H nx
theorem orX_ok {P : Program} {w0 : World} {G : Nat} {a b : CallX} (ha : CallOk P w0 G a) (hb : CallOk P w0 G b) : CallOk P w0 G (orX a b) := fun f args H nx cr H' nx' h => by
  unfold orX at h
  split at h
  · rename_i r hr
    simp only [Option.some.injEq] at h
    subst h
    exact ha f args H nx cr H' nx' hr
  · exact hb f args H nx cr H' nx' h
def isTrue : Option (CR × PT O × Nat) → Bool
  | some (.ret (.b b), _, _) => b
  | _ => false
end
end Go.Proofs.YtafhmagifoapfaaGreatDoor
