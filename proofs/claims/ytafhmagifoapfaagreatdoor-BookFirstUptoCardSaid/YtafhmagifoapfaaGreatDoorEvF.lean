/- A reckoner for closed runs, part 45: the forms of code. -/
import Derived.Test.YtafhmagifoapfaaGreatDoorEvE
import Derived.LoopNIn
import Derived.Recover
namespace Go.Proofs.YtafhmagifoapfaaGreatDoor
open Go.RowKit
noncomputable section
/-- How a piece of code is left. -/
inductive EY where
  | normal
  | exit (id : Nat)
  | ret
  | pan (v : V)
section
variable {P : Program} {F : Fence} {n : Nat} {Q : Exit → Act → World → Prop} {a : Act} {w : World}
theorem stepR_scopeX {b : Frame} {k : List Item} {cs : List Frame} {c : Code} : step P (lone (b.atR a (.code (.scope c) :: k)) cs w) = .next (lone (b.atR a (.code c :: .inScope c :: k)) cs w) :=
  step_lone_go (by simp [stepG, stepG.exec, Frame.atR])
theorem stepR_inScopeX {b : Frame} {k : List Item} {cs : List Frame} {c : Code} : step P (lone (b.atR a (.inScope c :: k)) cs w) = .next (lone (b.atR a k) cs w) :=
  step_lone_go (by simp [stepG, stepG.exec, Frame.atR])
theorem wpIn_scopeX {c : Code} (h : c.wpIn F n P (Exit.noGoto Q) a w) : (Code.scope c).wpIn F n P Q a w := by
  intro b k cs hro hb hr
  have h0 : (lone (b.atR a (.code (.scope c) :: k)) cs w).fenced P F := fenced_calm hb hr rfl
  obtain ⟨e, a₁, w₁, hq, harr⟩ := h b (.inScope c :: k) cs hro hb hr
  cases e with
  | normal => exact ⟨.normal, a₁, w₁, hq, .head h0 stepR_scopeX (StepsIn.trans harr (.one (fenced_calm hb hr rfl) stepR_inScopeX))⟩
  | exit id =>
    have hx : exitTo id (.inScope c :: k) = exitTo id k := by simp [exitTo]
    exact ⟨.exit id, a₁, w₁, hq, fun k' hk => .head h0 stepR_scopeX (harr.1 k' (by rw [hx]; exact hk)),
      fun hr' hk => let ⟨k₁, h1, h2⟩ := harr.2 hr' (by rw [hx]; exact hk); ⟨k₁, h1, .head h0 stepR_scopeX h2⟩⟩
  | goto l => exact hq.elim
  | ret => exact ⟨_, a₁, w₁, hq, .of_steps (.one h0 stepR_scopeX) harr⟩
  | panic ch => exact ⟨_, a₁, w₁, hq, .of_steps (.one h0 stepR_scopeX) harr⟩
  | outgrown => exact ⟨_, a₁, w₁, hq, .of_steps (.one h0 stepR_scopeX) harr⟩
end
/-- The loop over a function is entered. -/
def enterX (G nt : Nat) (ps : List Nat) (asg body : Code) (s : SX) : Option SX :=
  cond (Nat.ble G s.nx) (PT.force (s.H.set (.df true) s.nx) fun H => PT.force (H.set (.lp .ready none s.T nt ps asg body) (s.nx + 1)) fun H => nforce (s.nx + 2) fun nx => some ⟨s.T, H, nx, .mark s.nx :: s.ds⟩) none
/-- The loop over a function is over. -/
def overX (G : Nat) (l : Nat) (H : PT O) : Option (Option Code × PT O) :=
  cond (Nat.ble G l) (match H.get l with
    | some (.lp st pd T nt ps asg body) => match st with
      | .busy => none
      | _ => PT.force (H.set (.lp .exhausted pd T nt ps asg body) l) fun H => some (pd, H)
    | _ => none) none
/-- One form of code. -/
def stepX (E : Env) (Z : Fns) (cf : CallX) (yf : YldX) (nt : Nat) (inR : Bool) (rec : Code → SX → Option (EY × SX)) (c : Code) (s : SX) : Option (EY × SX) :=
  match c with
  | .skip => some (.normal, s)
  | .label _ => some (.normal, s)
  | .region _ ops false => match execL E Z cf yf nt inR ops ops.toList s with
    | some (.go s) => some (.normal, s)
    | some (.pan v s) => some (.pan v, s)
    | none => none
  | .region _ ops true => match drawY E Z cf yf nt ops s with
    | some s => some (.normal, s)
    | none => none
  | .seq x y => match rec x s with
    | some (.normal, s) => rec y s
    | r => r
  | .cond x y z => match evG E.G s.T x with
    | some (.b true) => rec y s
    | some (.b false) => rec z s
    | _ => none
  | .block id x => match rec x s with
    | some (.exit i, s) => cond (Nat.beq i id) (some (.normal, s)) (some (.exit i, s))
    | r => r
  | .loop x => match rec x s with
    | some (.normal, s) => rec (.loop x) s
    | r => r
  | .scope x => rec x s
  | .exit id => some (.exit id, s)
  | .ret => some (.ret, s)
  | .rangeFunc f ps asg body => cond inR none (match evG E.G s.T f with
    | some (.f g first caps) => match enterX E.G nt ps.toList asg body s with
      | some s1 => match Z.FT.get g with
        | some _ => match cf g (first ++ .y (s.nx + 1) :: caps) s1.H s1.nx with
          | some (.ret _, H, nx) => match overX E.G (s.nx + 1) H with
            | some (none, H) => some (.normal, ⟨s.T, H, nx, s1.ds⟩)
            | some (some c, H) => rec c ⟨s.T, H, nx, s1.ds⟩
            | none => none
          | _ => none
        | none => none
      | none => none
    | _ => none)
  | _ => none
def execX (E : Env) (Z : Fns) (cf : CallX) (yf : YldX) (nt : Nat) (inR : Bool) (f : Nat) : Code → SX → Option (EY × SX) :=
  Nat.rec (motive := fun _ => Code → SX → Option (EY × SX)) (fun _ _ => none) (fun _ ih => stepX E Z cf yf nt inR ih) f
/-- What stands behind the code. -/
def EYpost (w0 : World) (G nt : Nat) (σ : Sig) (Q : Exit → Act → World → Prop) : EY → SX → Prop
  | .normal, s => ∀ σ' a w, σ.le σ' → RX w0 G nt σ' s a w → Q .normal a w
  | .exit id, s => ∀ σ' a w, σ.le σ' → RX w0 G nt σ' s a w → Q (.exit id) a w
  | .ret, s => ∀ σ' a w, σ.le σ' → RX w0 G nt σ' s a w → Q .ret a w
  | .pan v, s => ∀ σ' a w u, σ.le σ' → PX w0 G nt σ' s v u a w → Q (.panic [{ v := u, recovered := false }]) a w
theorem EYpost.le {w0 : World} {G nt : Nat} {σ τ : Sig} {Q : Exit → Act → World → Prop} {x : EY} {s : SX} (hl : σ.le τ) (h : EYpost w0 G nt σ Q x s) : EYpost w0 G nt τ Q x s := by
  cases x with
  | pan v => exact fun σ' a w u h' => h σ' a w u (Sig.le_trans hl h')
  | _ => exact fun σ' a w h' => h σ' a w (Sig.le_trans hl h')
section
variable {P : Program} {w0 w : World} {G nx : Nat} {σ : Sig} {H : PT O}
theorem enterX_ok {nt : Nat} {ps : Array Nat} {asg body : Code} {s s1 : SX} {a : Act} (h : enterX G nt ps.toList asg body s = some s1) (hr : RX w0 G nt σ s a w) (fid : FuncId) : ∃ l mark w1 σ', (Instr.enterLoop fid a.tmps ps asg body none).run P w = .ok (l, mark) w1 ∧ σ.le σ' ∧
    HR w0 G σ' s1.H s1.nx w1 ∧ DR σ' s1.ds (mark ++ a.defers) ∧ (∃ q, σ' (s.nx + 1) = some q ∧ q.blk = l) ∧ (∃ r, mark = [{ target := .collected r, args := #[] }]) := by
  unfold enterX at h
  cases hc : Nat.ble G s.nx with
  | false => rw [hc] at h; cases h
  | true =>
    rw [hc] at h
    simp only [cond_true, PT.force_eq, Option.some.injEq] at h
    have hG := Nat.le_of_ble_eq_true hc
    subst h
    have hle1 := Sig.le_ext (q := ⟨w.heap.size, 0, 0⟩) (hr.mem.dom s.nx (Nat.le_refl _))
    have hm1 := hr.mem.make (o := .df true) (ob := .deferred (some [])) (q := ⟨w.heap.size, 0, 0⟩) hG rfl rfl
    have hle2 := Sig.le_ext (q := ⟨w.heap.size + 1, 0, 0⟩) (hm1.dom (s.nx + 1) (Nat.le_refl _))
    have hsz : (w.alloc (.deferred (some []))).heap.size = w.heap.size + 1 := by simp
    have hm2 := hm1.make (o := .lp .ready none s.T nt ps.toList asg body) (ob := .loop { state := .ready, pending := none, fn := fid, tmps := a.tmps, params := ps, assign := asg, body := body, defers := w.heap.size }) (q := ⟨w.heap.size + 1, 0, 0⟩) (by omega) hsz.symm
      ⟨fid, a.tmps, w.heap.size, by simp, hr.size, fun t v hv => by
        obtain ⟨u, h1, h2⟩ := hr.act.tmp t v hv
        exact ⟨u, h1, h2.le (Sig.le_trans hle1 hle2)⟩⟩
    refine ⟨w.heap.size + 1, [{ target := .collected w.heap.size, args := #[] }], _, _, ?_, Sig.le_trans hle1 hle2, hm2, ⟨⟨⟨w.heap.size, 0, 0⟩, hle2 _ _ (by unfold Sig.ext; rw [if_pos rfl]), rfl⟩, hr.defers.le (Sig.le_trans hle1 hle2)⟩, ⟨⟨w.heap.size + 1, 0, 0⟩, by unfold Sig.ext; rw [if_pos rfl], rfl⟩, _, rfl⟩
    simp [Instr.enterLoop, newObj, Sem.run]
theorem overX_ok {l : Nat} {H' : PT O} {pd : Option Code} (h : overX G l H = some (pd, H')) (hm : HR w0 G σ H nx w) {q : Spot} (hq : σ l = some q) : ∃ w', (Instr.endLoop q.blk).run P w = .ok pd w' ∧ HR w0 G σ H' nx w' := by
  unfold overX at h
  cases hc : Nat.ble G l with
  | false => rw [hc] at h; cases h
  | true =>
    rw [hc] at h
    simp only [cond_true] at h
    have hG := Nat.le_of_ble_eq_true hc
    split at h
    · rename_i st pd' T nt ps asg body hl
      obtain ⟨q', ob, hq', hob, fid, tmps, ds, rfl, h1, h2⟩ := hm.obj l _ hl
      rw [hq] at hq'
      simp only [Option.some.injEq] at hq'
      subst hq'
      have hget := run_getObj (P := P) hob (fun _ _ _ e => by cases e)
      have fin : ∀ st', st' ≠ LoopState.busy → st = st' → pd' = pd → H.set (.lp .exhausted pd' T nt ps asg body) l = H' → ∃ w', (Instr.endLoop q.blk).run P w = .ok pd w' ∧ HR w0 G σ H' nx w' := fun st' hne e1 e2 e3 => by
        subst e1 e2 e3
        refine ⟨_, ?_, hm.put (ob' := .loop { state := .exhausted, pending := pd', fn := fid, tmps := tmps, params := ps.toArray, assign := asg, body := body, defers := ds }) hG hl hq hob ⟨fid, tmps, ds, rfl, h1, h2⟩⟩
        have hb : (st == LoopState.busy) = false := by simpa using hne
        simp only [Instr.endLoop, Instr.getLoop, Sem.run_bind, hget, Result.andThen_ok, Sem.run_pure, hb, Bool.false_eq_true, if_false, run_setObj hob (fun _ _ _ e => by cases e)]
      split at h
      · cases h
      · rename_i hne
        simp only [PT.force_eq, Option.some.injEq, Prod.mk.injEq] at h
        exact fin st (fun e => hne e) rfl h.1 h.2
    · cases h
end
section
variable {P : Program} {w0 : World} {E : Env} {Z : Fns} {cf : CallX} {yf : YldX} {nt : Nat} {r : Option Nat} {n : Nat}
set_option maxHeartbeats 1000000 in
theorem execX_ok (hP : P.follows .mixedOrders = true) (hE : EnvOk P E) (hZ : FnsOk P Z) (hC : CallOk P w0 E.G cf) (hY : YldOk P w0 E.G yf) : ∀ (f : Nat) (c : Code) (s : SX) (ex : EY) (s' : SX), execX E Z cf yf nt r.isSome f c s = some (ex, s') →
    ∀ σ a w Q, RX w0 E.G nt σ s a w → EYpost w0 E.G nt σ Q ex s' → c.wpIn (FW r) n P Q a w ∧ ∀ x, c = .loop x → Code.roundsIn (FW r) n P x Q f a w
  | 0, c, s, ex, s', h, _, _, _, _, _, _ => by cases h
  | f + 1, c, s, ex, s', h, σ, a, w, Q, hr, hq => by
    have ih := execX_ok hP hE hZ hC hY f
    change stepX E Z cf yf nt r.isSome (execX E Z cf yf nt r.isSome f) c s = some (ex, s') at h
    have nl : ∀ {c : Code}, (∀ x, c ≠ .loop x) → c.wpIn (FW r) n P Q a w → c.wpIn (FW r) n P Q a w ∧ ∀ x, c = .loop x → Code.roundsIn (FW r) n P x Q (f + 1) a w := fun hne hwp => ⟨hwp, fun x e => absurd e (hne x)⟩
    cases c with
    | skip =>
      simp only [stepX, Option.some.injEq, Prod.mk.injEq] at h
      obtain ⟨rfl, rfl⟩ := h
      exact nl (by simp) (wpIn_skip (hq σ a w (Sig.le_refl σ) hr))
    | label l =>
      simp only [stepX, Option.some.injEq, Prod.mk.injEq] at h
      obtain ⟨rfl, rfl⟩ := h
      exact nl (by simp) (wpIn_label (hq σ a w (Sig.le_refl σ) hr))
    | exit id =>
      simp only [stepX, Option.some.injEq, Prod.mk.injEq] at h
      obtain ⟨rfl, rfl⟩ := h
      exact nl (by simp) (wpIn_exit (hq σ a w (Sig.le_refl σ) hr))
    | ret =>
      simp only [stepX, Option.some.injEq, Prod.mk.injEq] at h
      obtain ⟨rfl, rfl⟩ := h
      exact nl (by simp) (wpIn_ret (hq σ a w (Sig.le_refl σ) hr))
    | region id ops d =>
      refine nl (by simp) ?_
      cases d with
      | false =>
        simp only [stepX] at h
        refine wpIn_region_list ?_
        cases he : execL E Z cf yf nt r.isSome ops ops.toList s with
        | none => rw [he] at h; cases h
        | some x =>
          rw [he] at h
          refine execL_ok hE hZ hC hY _ _ _ he σ a w hr ?_
          cases x with
          | go s1 =>
            simp only [Option.some.injEq, Prod.mk.injEq] at h
            obtain ⟨rfl, rfl⟩ := h
            exact hq
          | pan v s1 =>
            simp only [Option.some.injEq, Prod.mk.injEq] at h
            obtain ⟨rfl, rfl⟩ := h
            exact hq
      | true =>
        simp only [stepX] at h
        cases he : drawY E Z cf yf nt ops s with
        | none => rw [he] at h; cases h
        | some s1 =>
          rw [he] at h
          simp only [Option.some.injEq, Prod.mk.injEq] at h
          obtain ⟨rfl, rfl⟩ := h
          exact drawY_ok hP hE hZ hC hY he hr hq
    | seq x y =>
      simp only [stepX] at h
      refine nl (by simp) (wpIn_seq ?_)
      cases hx : execX E Z cf yf nt r.isSome f x s with
      | none => rw [hx] at h; cases h
      | some p =>
        obtain ⟨e1, s1⟩ := p
        rw [hx] at h
        cases e1 with
        | normal =>
          simp only at h
          exact (ih x s .normal s1 hx σ a w _ hr fun σ' a' w' hl hr' => (ih y s1 ex s' h σ' a' w' Q hr' (hq.le hl)).1).1
        | exit id =>
          simp only [Option.some.injEq, Prod.mk.injEq] at h
          obtain ⟨rfl, rfl⟩ := h
          exact (ih x s _ _ hx σ a w (Exit.then (fun a w => y.wpIn (FW r) n P Q a w) Q) hr hq).1
        | ret =>
          simp only [Option.some.injEq, Prod.mk.injEq] at h
          obtain ⟨rfl, rfl⟩ := h
          exact (ih x s _ _ hx σ a w (Exit.then (fun a w => y.wpIn (FW r) n P Q a w) Q) hr hq).1
        | pan v =>
          simp only [Option.some.injEq, Prod.mk.injEq] at h
          obtain ⟨rfl, rfl⟩ := h
          exact (ih x s _ _ hx σ a w (Exit.then (fun a w => y.wpIn (FW r) n P Q a w) Q) hr hq).1
    | cond x y z =>
      simp only [stepX] at h
      cases hx : evG E.G s.T x with
      | none => rw [hx] at h; cases h
      | some v =>
        rw [hx] at h
        have hv := evG_ok hr.globs hr.act hx
        cases v with
        | b t =>
          have he := VR_b hv
          cases t with
          | true => exact nl (by simp) (wpIn_cond_true he (ih y s ex s' h σ a w Q hr hq).1)
          | false => exact nl (by simp) (wpIn_cond_false he (ih z s ex s' h σ a w Q hr hq).1)
        | _ => cases h
    | block id x =>
      simp only [stepX] at h
      refine nl (by simp) (wpIn_block ?_)
      cases hx : execX E Z cf yf nt r.isSome f x s with
      | none => rw [hx] at h; cases h
      | some p =>
        obtain ⟨e1, s1⟩ := p
        rw [hx] at h
        cases e1 with
        | normal =>
          simp only [Option.some.injEq, Prod.mk.injEq] at h
          obtain ⟨rfl, rfl⟩ := h
          exact (ih x s _ _ hx σ a w (Exit.inBlock id Q) hr hq).1
        | ret =>
          simp only [Option.some.injEq, Prod.mk.injEq] at h
          obtain ⟨rfl, rfl⟩ := h
          exact (ih x s _ _ hx σ a w (Exit.inBlock id Q) hr hq).1
        | pan v =>
          simp only [Option.some.injEq, Prod.mk.injEq] at h
          obtain ⟨rfl, rfl⟩ := h
          exact (ih x s _ _ hx σ a w (Exit.inBlock id Q) hr hq).1
        | exit i =>
          simp only at h
          cases hi : Nat.beq i id
          · rw [hi] at h
            simp only [cond_false, Option.some.injEq, Prod.mk.injEq] at h
            obtain ⟨rfl, rfl⟩ := h
            have hne : i ≠ id := fun e => by rw [beqT e] at hi; cases hi
            refine (ih x s _ _ hx σ a w _ hr fun σ' a' w' hl hr' => ?_).1
            show Exit.inBlock id Q (.exit i) a' w'
            simp only [Exit.inBlock, if_neg hne]
            exact hq σ' a' w' hl hr'
          · rw [hi] at h
            simp only [cond_true, Option.some.injEq, Prod.mk.injEq] at h
            obtain ⟨rfl, rfl⟩ := h
            have he := Nat.eq_of_beq_eq_true hi
            refine (ih x s _ _ hx σ a w _ hr fun σ' a' w' hl hr' => ?_).1
            show Exit.inBlock id Q (.exit i) a' w'
            simp only [Exit.inBlock, if_pos he]
            exact hq σ' a' w' hl hr'
    | loop x =>
      simp only [stepX] at h
      have key : Code.roundsIn (FW r) n P x Q (f + 1) a w := by
        rw [roundsIn_succ]
        cases hx : execX E Z cf yf nt r.isSome f x s with
        | none => rw [hx] at h; cases h
        | some p =>
          obtain ⟨e1, s1⟩ := p
          rw [hx] at h
          cases e1 with
          | normal =>
            simp only at h
            exact (ih x s .normal s1 hx σ a w _ hr fun σ' a' w' hl hr' => (ih (.loop x) s1 ex s' h σ' a' w' Q hr' (hq.le hl)).2 x rfl).1
          | exit id =>
            simp only [Option.some.injEq, Prod.mk.injEq] at h
            obtain ⟨rfl, rfl⟩ := h
            exact (ih x s _ _ hx σ a w (Exit.then (Code.roundsIn (FW r) n P x Q f) Q) hr hq).1
          | ret =>
            simp only [Option.some.injEq, Prod.mk.injEq] at h
            obtain ⟨rfl, rfl⟩ := h
            exact (ih x s _ _ hx σ a w (Exit.then (Code.roundsIn (FW r) n P x Q f) Q) hr hq).1
          | pan v =>
            simp only [Option.some.injEq, Prod.mk.injEq] at h
            obtain ⟨rfl, rfl⟩ := h
            exact (ih x s _ _ hx σ a w (Exit.then (Code.roundsIn (FW r) n P x Q f) Q) hr hq).1
      exact ⟨wpIn_loop_rounds _ key, fun y e => by injection e with e; subst e; exact key⟩
    | scope x =>
      simp only [stepX] at h
      refine nl (by simp) (wpIn_scopeX ?_)
      refine (ih x s ex s' h σ a w _ hr ?_).1
      cases ex <;> exact hq
    | rangeFunc g ps asg body =>
      simp only [stepX] at h
      refine nl (by simp) ?_
      cases hri : r.isSome with
      | true => rw [hri] at h; cases h
      | false =>
        rw [hri] at h ih
        simp only [cond_false] at h
        have hround : (FW r).round = none := by
          show r = none
          simpa using hri
        split at h
        · rename_i gf first caps hg
          split at h
          · rename_i s1 hent
            split at h
            · rename_i fn hfn
              split at h
              · rename_i rv H nx hcf
                obtain ⟨p, q, e, h1, h2⟩ := VR_f (evG_ok hr.globs hr.act hg)
                refine wpIn_rangeFunc fun fid _ => ?_
                rw [hround]
                obtain ⟨l, mark, w1, σ1, k1, k2, k3, k4, ⟨ql, k5, k6⟩, k7⟩ := enterX_ok (P := P) hent hr fid
                subst k6
                obtain ⟨f1, f2, f3⟩ := hZ.ft gf fn hfn
                obtain ⟨c, hc⟩ := Option.isSome_iff_exists.1 f3
                have f4 : fn.name ≠ "runtime.NumGoroutine" := by simpa using f2
                refine ⟨ql.blk, mark, w1, { target := .fn (.func gf) q, args := p ++ #[.func (.yield ql.blk) #[] #[]] }, w1, gf, p ++ #[.func (.yield ql.blk) #[] #[]] ++ q, w1, k1, ?_, fun _ _ => trivial, ?_, fw_depth, callsIn_fw ?_⟩
                · have e3 : (rangeCall g ql.blk).args.map a.eval = #[Value.func (.yield ql.blk) #[] #[]] := by
                    simp; rfl
                  simp only [resolve, e3]
                  simp only [e, Deferred.ofValue]
                  rfl
                · simp [invoke, callFunc, f1, f4, hc]
                · have hargs : VRs σ1 (first ++ .y (s.nx + 1) :: caps) (p ++ #[Value.func (.yield ql.blk) #[] #[]] ++ q).toList := by
                    rw [Array.toList_append, Array.toList_append, List.append_assoc]
                    exact VRs_append (h1.le k2) (show VRs σ1 (.y (s.nx + 1) :: caps) ((Value.func (.yield ql.blk) #[] #[]) :: q.toList) from ⟨⟨rfl, rfl, ql, k5, rfl⟩, h2.le k2⟩)
                  refine (hC gf _ s1.H s1.nx _ H nx hcf σ1 w1 _ (hr.globs.le k2) k3 hargs).mono ?_
                  rintro en w2 ⟨σ2, m1, m2, u, rfl, _⟩
                  have hl2 := Sig.le_trans k2 m1
                  have hRX : ∀ (H' : PT O) (w3 : World), HR w0 E.G σ2 H' nx w3 → RX w0 E.G nt σ2 ⟨s.T, H', nx, s1.ds⟩ { a with defers := mark ++ a.defers } w3 := fun H' w3 hm => ⟨hr.globs.le hl2, hm, ⟨fun t v hv => by
                    obtain ⟨x, x1, x2⟩ := hr.act.tmp t v hv
                    exact ⟨x, x1, x2.le hl2⟩⟩, hr.size, k4.le m1⟩
                  split at h
                  · rename_i H' hov
                    simp only [Option.some.injEq, Prod.mk.injEq] at h
                    obtain ⟨rfl, rfl⟩ := h
                    obtain ⟨w3, o1, o2⟩ := overX_ok (P := P) hov m2 (m1 _ _ k5)
                    exact ⟨none, w3, o1, hq σ2 _ w3 hl2 (hRX H' w3 o2)⟩
                  · rename_i c' H' hov
                    obtain ⟨w3, o1, o2⟩ := overX_ok (P := P) hov m2 (m1 _ _ k5)
                    exact ⟨some c', w3, o1, (ih c' _ ex s' h σ2 _ w3 Q (hRX H' w3 o2) (hq.le hl2)).1⟩
                  · cases h
              · cases h
            · cases h
          · cases h
        · cases h
    | _ => cases h
end
end
end Go.Proofs.YtafhmagifoapfaaGreatDoor
namespace Go.Proofs.YtafhmagifoapfaaGreatDoor
open Go.RowKit
noncomputable section
def resL (TT : PT TD) (T : PT V) (H : PT O) : List ResultVar → Option (List V)
  | [] => some []
  | .tmp t :: l => match T.get t with
    | some v => match resL TT T H l with
      | some r => some (v :: r)
      | none => none
    | none => none
  | .cell a t :: l => match T.get a with
    | some (.p n o) => match loadE TT H t n o with
      | some v => match resL TT T H l with
        | some r => some (v :: r)
        | none => none
      | none => none
    | _ => none
def oneV : List V → V
  | [v] => v
  | l => .tup l
/-- What a function hands back. -/
def resX (TT : PT TD) (rs : Array ResultVar) (T : PT V) (H : PT O) : Option V :=
  match resL TT T H rs.toList with
  | some l => some (oneV l)
  | none => none
def resOf (tmps : Array Value) (x : ResultVar) : Sem Value :=
  match x with
  | .tmp t => pure (tmps.getD t undef)
  | .cell p t => do loadVar t (← asAddr (tmps.getD p undef))
theorem results_eq (fn : Func) (tmps : Array Value) : results fn tmps = (do
    let vs ← fn.results.mapM (resOf tmps)
    pure (if h : vs.size = 1 then vs[0] else .tuple vs)) := rfl
section
variable {P : Program} {w0 w : World} {G nx : Nat} {σ : Sig} {H : PT O} {TT : PT TD} {T : PT V} {a : Act}
theorem resL_ok (hT : TTok P TT) (h : HR w0 G σ H nx w) (hA : AR σ T a) : ∀ {rs : List ResultVar} {l : List V}, resL TT T H rs = some l → ∃ us : List Value, VRs σ l us ∧
    (rs.mapM (resOf a.tmps)).run P w = .ok us w
  | [], l, e => by
    simp only [resL, Option.some.injEq] at e
    subst e
    exact ⟨[], trivial, rfl⟩
  | .tmp t :: rs, l, e => by
    unfold resL at e
    cases hv : T.get t with
    | none => rw [hv] at e; cases e
    | some v =>
      rw [hv] at e
      simp only at e
      cases hr : resL TT T H rs with
      | none => rw [hr] at e; cases e
      | some r =>
        rw [hr] at e
        simp only [Option.some.injEq] at e
        subst e
        obtain ⟨u, h1, h2⟩ := hA.tmp t v hv
        obtain ⟨us, h3, h4⟩ := resL_ok hT h hA hr
        refine ⟨u :: us, ⟨h2, h3⟩, ?_⟩
        rw [List.mapM_cons]
        have e1 : a.tmps.getD t undef = u := by rw [Array.getD_eq_getD_getElem?, h1]; rfl
        simp only [resOf, Sem.run_bind, e1, Sem.run_pure, Result.andThen_ok, h4]
  | .cell p t :: rs, l, e => by
    unfold resL at e
    split at e
    · rename_i n o hp
      split at e
      · rename_i v hv
        split at e
        · rename_i r hr
          simp only [Option.some.injEq] at e
          subst e
          obtain ⟨u, h1, h2⟩ := hA.tmp p _ hp
          obtain ⟨ad, rfl, h3⟩ := VR_p h2
          obtain ⟨x, h5, h6⟩ := loadE_ok hT h hv h3
          obtain ⟨us, h7, h8⟩ := resL_ok hT h hA hr
          refine ⟨x :: us, ⟨h5, h7⟩, ?_⟩
          rw [List.mapM_cons]
          have e1 : a.tmps.getD p undef = .pointer (some ad) := by rw [Array.getD_eq_getD_getElem?, h1]; rfl
          have e2 : (resOf a.tmps (.cell p t)).run P w = .ok x w := by
            simp only [resOf, Sem.run_bind, e1, asAddr, Sem.run_pure, Result.andThen_ok, h6]
          simp only [Sem.run_bind, e2, Sem.run_pure, Result.andThen_ok, h8]
        · cases e
      · cases e
    · cases e
theorem resX_ok (hT : TTok P TT) (h : HR w0 G σ H nx w) (hA : AR σ T a) {fn : Func} {v : V} (e : resX TT fn.results T H = some v) : ∃ u, VR σ v u ∧ (results fn a.tmps).run P w = .ok u w := by
  unfold resX at e
  cases hl : resL TT T H fn.results.toList with
  | none => rw [hl] at e; cases e
  | some l =>
    rw [hl] at e
    simp only [Option.some.injEq] at e
    subst e
    obtain ⟨us, h1, h2⟩ := resL_ok hT h hA hl
    have hlen := VRs_length h1
    rw [results_eq, Array.mapM_eq_mapM_toList]
    have h2' : (List.toArray <$> (fn.results.toList.mapM (resOf a.tmps))).run P w = .ok us.toArray w := by
      rw [map_eq_pure_bind]
      simp only [Sem.run_bind, h2, Result.andThen_ok, Sem.run_pure]
    simp only [Sem.run_bind, h2', Result.andThen_ok, Sem.run_pure]
    cases l with
    | nil =>
      cases us with
      | nil => exact ⟨.tuple #[], h1, rfl⟩
      | cons _ _ => simp at hlen
    | cons x l =>
      cases us with
      | nil => simp at hlen
      | cons u us =>
        cases l with
        | nil =>
          cases us with
          | nil => exact ⟨u, h1.1, rfl⟩
          | cons _ _ => simp at hlen
        | cons y l =>
          cases us with
          | nil => simp at hlen
          | cons z us =>
            refine ⟨.tuple (u :: z :: us).toArray, h1, ?_⟩
            rw [dif_neg (by simp)]
end
/-- The marks of loops over functions are taken away. -/
def marksX (G : Nat) : List DV → PT O → Option (PT O)
  | [], H => some H
  | .mark n :: l, H => cond (Nat.ble G n) (match H.get n with
    | some (.df true) => PT.force (H.set (.df false) n) fun H => marksX G l H
    | _ => none) none
  | .clo _ _ :: _, _ => none
def args0 (l : List V) : PT V := setG l .leaf 0
def isRec (o : Oper) : Bool :=
  match o.op with
  | .call c => match c.callee with
    | .builtin .recover => match o.guard with
      | none => true
      | some _ => false
    | _ => false
  | _ => false
/-- Operations that leave memory alone, one behind the other. -/
def execQ (E : Env) (nt : Nat) (ops : Array Oper) : List Oper → PT V → PT O → Option (PT V)
  | [], T, _ => some T
  | o :: l, T, H => match wantE ops T o with
    | some true => match evq E o T H with
      | some v => match put1 nt T o.dst v with
        | some T => execQ E nt ops l T H
        | none => none
      | none => none
    | _ => none
def pvV : Option V → V
  | some v => v
  | none => .ni
/-- A call that was deferred; 'pv': the panic that is under way. -/
def defX (E : Env) (Z : Fns) (cf : CallX) (yf : YldX) (fuel : Nat) (g : Nat) (args : List V) (pv : Option V) (H : PT O) (nx : Nat) : Option (PT O × Nat) :=
  match Z.FT.get g with
  | none => none
  | some fn => match fn.body with
    | some (.seq (.region _ ops false) rest) => match ops.toList, fn.results.toList with
      | o :: l, [] => cond (isRec o) (match put1 (args.length + (fn.ntmps - args.length)) (args0 args) o.dst (pvV pv) with
        | some T => match execQ E (args.length + (fn.ntmps - args.length)) ops l T H with
          | some T => match execX E Z cf yf (args.length + (fn.ntmps - args.length)) false fuel rest ⟨T, H, nx, []⟩ with
            | some (.normal, s) => match s.ds with
              | [] => some (s.H, s.nx)
              | _ => none
            | some (.ret, s) => match s.ds with
              | [] => some (s.H, s.nx)
              | _ => none
            | _ => none
          | none => none
        | none => none) none
      | _, _ => none
    | _ => none
/-- A function's end. -/
def endX (E : Env) (Z : Fns) (cf : CallX) (yf : YldX) (fuel : Nat) (fn : Func) (s : SX) : Option (CR × PT O × Nat) :=
  match s.ds with
  | [] => match resX E.TT fn.results s.T s.H with
    | some v => some (.ret v, s.H, s.nx)
    | none => none
  | .mark n :: l => match marksX E.G (.mark n :: l) s.H with
    | some H => match resX E.TT fn.results s.T H with
      | some v => some (.ret v, H, s.nx)
      | none => none
    | none => none
  | [.clo g args] => match defX E Z cf yf fuel g args none s.H s.nx with
    | some (H, nx) => match resX E.TT fn.results s.T H with
      | some v => some (.ret v, H, nx)
      | none => none
    | none => none
  | _ => none
/-- A function's end by a panic. -/
def panX (E : Env) (Z : Fns) (cf : CallX) (yf : YldX) (fuel : Nat) (fn : Func) (v : V) (s : SX) : Option (CR × PT O × Nat) :=
  match s.ds with
  | [] => some (.pan v, s.H, s.nx)
  | [.clo g args] => match defX E Z cf yf fuel g args (some v) s.H s.nx with
    | some (H, nx) => match resX E.TT fn.results s.T H with
      | some r => some (.ret r, H, nx)
      | none => none
    | none => none
  | _ => none
def fnX (E : Env) (Z : Fns) (cf : CallX) (yf : YldX) (fuel : Nat) (f : Nat) (args : List V) (H : PT O) (nx : Nat) : Option (CR × PT O × Nat) :=
  match Z.FT.get f with
  | none => none
  | some fn => match fn.body with
    | none => none
    | some c => match execX E Z cf yf (args.length + (fn.ntmps - args.length)) false fuel c ⟨args0 args, H, nx, []⟩ with
      | some (.normal, s) => endX E Z cf yf fuel fn s
      | some (.ret, s) => endX E Z cf yf fuel fn s
      | some (.pan v, s) => panX E Z cf yf fuel fn v s
      | _ => none
section
variable {P : Program} {w0 : World} {E : Env} {Z : Fns} {cf : CallX} {yf : YldX}
theorem args0_ok {σ : Sig} {args : List V} {us : Array Value} {ds : List Deferred} (h : VRs σ args us.toList) (k : Nat) : AR σ (args0 args) { tmps := us ++ Array.replicate (k - us.size) undef, defers := ds } := ⟨fun t v hv => by
  unfold args0 at hv
  rw [setG_get] at hv
  by_cases hr : 0 ≤ t ∧ t < 0 + args.length
  · rw [if_pos hr, Nat.sub_zero] at hv
    obtain ⟨u, h1, h2⟩ := VRs_get h hv
    have hlen := VRs_length h
    refine ⟨u, ?_, h2⟩
    rw [Array.getElem?_append_left (by rw [← Array.length_toList, hlen]; omega), ← Array.getElem?_toList]
    exact h1
  · rw [if_neg hr] at hv; cases hv⟩
theorem args0_size {σ : Sig} {args : List V} {us : Array Value} (h : VRs σ args us.toList) (k : Nat) : (us ++ Array.replicate (k - us.size) undef).size = args.length + (k - args.length) := by
  have hlen := VRs_length h
  rw [Array.length_toList] at hlen
  simp [hlen]
theorem marksX_ok {fn : Func} {tmps : Array Value} {R : Ending → World → Prop} {G nx : Nat} : ∀ (l : List DV) (ds : List Deferred) (H H' : PT O) (σ : Sig) (w : World), marksX G l H = some H' → HR w0 G σ H nx w → DR σ l ds →
    (∀ w', HR w0 G σ H' nx w' → ∃ v, (results fn tmps).run P w' = .ok v w' ∧ R (.returned v) w') → LeavesInM Fence.wide 0 P fn tmps R ds .returning w
  | [], ds, H, H', σ, w, h, hm, hd, hr => by
    cases ds with
    | cons _ _ => simp [DR] at hd
    | nil =>
      simp only [marksX, Option.some.injEq] at h
      subst h
      exact hr w hm
  | .mark n :: l, ds, H, H', σ, w, h, hm, hd, hr => by
    cases ds with
    | nil => simp [DR] at hd
    | cons d ds =>
      obtain ⟨⟨q, hq, ht⟩, hd⟩ := hd
      unfold marksX at h
      cases hc : Nat.ble G n with
      | false => rw [hc] at h; cases h
      | true =>
        rw [hc] at h
        simp only [cond_true] at h
        split at h
        · rename_i hn
          rw [PT.force_eq] at h
          obtain ⟨q', ob, hq', hob, rfl⟩ := hm.obj n _ hn
          rw [hq] at hq'
          simp only [Option.some.injEq] at hq'
          subst hq'
          have hob' : w.heap[q.blk]? = some (.deferred (some [])) := hob
          have hp := hm.put (x' := .df false) (ob' := .deferred none) (Nat.le_of_ble_eq_true hc) hn hq hob rfl
          refine ⟨by simp, .inl ⟨q.blk, _, ht, ?_, marksX_ok l ds _ H' σ _ h hp hd hr⟩⟩
          simp only [Instr.takeDeferred, Sem.run_bind, run_getObj hob' (fun _ _ _ e => by cases e), Result.andThen_ok, run_setObj hob' (fun _ _ _ e => by cases e)]
          rfl
        · cases h
  | .clo _ _ :: _, _, _, _, _, _, h, _, _, _ => by cases h
theorem execQ_ok (hE : EnvOk P E) {nt : Nat} {ops : Array Oper} {Q : Exit → Act → List Frame → World → Prop} {cs : List Frame} {σ : Sig} {H : PT O} {nx : Nat} {w : World} (hG : Globs σ E.G) (hm : HR w0 E.G σ H nx w) : ∀ (l : List Oper) (k : Nat) (T T' : PT V) (a : Act), (∀ j, l[j]? = ops[k + j]?) → execQ E nt ops l T H = some T' → AR σ T a → a.tmps.size = nt →
    (∀ a', AR σ T' a' → a'.tmps.size = nt → a'.defers = a.defers → Q .normal a' cs w) → wpOpsS P ops Q (List.range' k l.length) a cs w
  | [], k, T, T', a, hl, h, hA, hs, hq => by
    simp only [execQ, Option.some.injEq] at h
    subst h
    simp only [List.length_nil, List.range'_zero, wpOpsS]
    exact hq a hA hs rfl
  | o :: l, k, T, T', a, hl, h, hA, hs, hq => by
    have h0 : ops[k]? = some o := by simpa using (hl 0).symm
    unfold execQ at h
    cases hw : wantE ops T o with
    | none => rw [hw] at h; cases h
    | some b =>
      rw [hw] at h
      cases b with
      | false => cases h
      | true =>
        simp only at h
        cases hv : evq E o T H with
        | none => rw [hv] at h; cases h
        | some v =>
          rw [hv] at h
          simp only at h
          cases hp : put1 nt T o.dst v with
          | none => rw [hp] at h; cases h
          | some T1 =>
            rw [hp] at h
            simp only at h
            obtain ⟨u, u1, u2⟩ := evq_ok hE hG hm hA hv
            obtain ⟨p1, p2, p3⟩ := hA.put hs u1 hp
            rw [List.length_cons, List.range'_succ, wpOpsS]
            simp only [h0, wantE_ok hA hw, if_true, u2]
            rw [Oper.upon_value]
            exact execQ_ok hE hG hm l (k + 1) T1 T' _ (fun j => by have := hl (j + 1); simpa [Nat.add_assoc, Nat.add_comm 1 j] using this) h p1 p2 (fun a' a1 a2 a3 => hq a' a1 a2 (a3.trans p3))
end
end
end Go.Proofs.YtafhmagifoapfaaGreatDoor
namespace Go.Proofs.YtafhmagifoapfaaGreatDoor
open Go.RowKit
noncomputable section
/-- What a round is handed. -/
def putL (nt : Nat) : List Nat → List V → PT V → Option (PT V)
  | [], [], T => some T
  | t :: ps, v :: vs, T => cond (Nat.blt t nt) (PT.force (T.set v t) fun T => putL nt ps vs T) none
  | _, _, _ => none
def lput (H : PT O) (n : Nat) (st : LoopState) (pd : Option Code) (T : PT V) (nt : Nat) (ps : List Nat) (asg body : Code) : PT O := PT.force (H.set (.lp st pd T nt ps asg body) n) fun H => H
theorem lput_eq (H : PT O) (n : Nat) (st : LoopState) (pd : Option Code) (T : PT V) (nt : Nat) (ps : List Nat) (asg body : Code) : lput H n st pd T nt ps asg body = H.set (.lp st pd T nt ps asg body) n := by unfold lput; rw [PT.force_eq]
/-- A round's end. -/
def rendX (n : Nat) (ey : EY) (s : SX) : Option (Bool × PT O × Nat) :=
  match s.ds with
  | [] => match s.H.get n with
    | some (.lp _ _ T nt ps asg body) => match ey with
      | .normal => some (true, lput s.H n .ready none T nt ps asg body, s.nx)
      | .ret => some (false, lput s.H n .done (some .ret) T nt ps asg body, s.nx)
      | .exit id => some (false, lput s.H n .done (some (.exit id)) T nt ps asg body, s.nx)
      | .pan _ => none
    | _ => none
  | _ => none
/-- A round. -/
def yldX (E : Env) (Z : Fns) (cf : CallX) (yf : YldX) (fuel : Nat) (n : Nat) (args : List V) (H : PT O) (nx : Nat) : Option (Bool × PT O × Nat) :=
  cond (Nat.ble E.G n) (match H.get n with
  | some (.lp st _ T nt ps asg body) => match st with
    | .ready => match putL nt ps args T with
      | some T1 => match execX E Z cf yf nt true fuel asg ⟨T1, H, nx, []⟩ with
        | some (.normal, s1) => match s1.ds, s1.H.get n with
          | [], some (.lp st1 pd1 T1 nt1 ps1 asg1 body1) => match st1 with
            | .ready => match execX E Z cf yf nt true fuel body ⟨s1.T, lput s1.H n .busy pd1 T1 nt1 ps1 asg1 body1, s1.nx, []⟩ with
              | some (ey, s2) => rendX n ey s2
              | none => none
            | _ => none
          | _, _ => none
        | _ => none
      | none => none
    | _ => none
  | _ => none) none
section
variable {P : Program} {w0 : World} {E : Env} {Z : Fns} {cf : CallX} {yf : YldX}
theorem putL_ok {σ : Sig} {nt : Nat} : ∀ {ps : List Nat} {vs : List V} {us : List Value} {T T' : PT V} {tmps : Array Value}, putL nt ps vs T = some T' → VRs σ vs us → tmps.size = nt → (∀ t v, T.get t = some v → ∃ u, tmps[t]? = some u ∧ VR σ v u) →
    us.length = ps.length ∧ ((ps.zip us).foldl (fun (tmps : Array Value) (p : Nat × Value) => tmps.setIfInBounds p.1 p.2) tmps).size = nt ∧ ∀ t v, T'.get t = some v → ∃ u, ((ps.zip us).foldl (fun (tmps : Array Value) (p : Nat × Value) => tmps.setIfInBounds p.1 p.2) tmps)[t]? = some u ∧ VR σ v u
  | [], [], us, T, T', tmps, h, hv, hs, hT => by
    simp only [putL, Option.some.injEq] at h
    subst h
    obtain rfl := VRs_nil hv
    exact ⟨rfl, hs, hT⟩
  | t :: ps, v :: vs, us, T, T', tmps, h, hv, hs, hT => by
    obtain ⟨u, us', rfl, h1, h2⟩ := VRs_cons hv
    unfold putL at h
    cases hc : Nat.blt t nt with
    | false => rw [hc] at h; cases h
    | true =>
      rw [hc] at h
      simp only [cond_true, PT.force_eq] at h
      have ht : t < nt := Nat.le_of_ble_eq_true hc
      obtain ⟨k1, k2, k3⟩ := putL_ok (tmps := tmps.setIfInBounds t u) h h2 (by simp [hs]) (fun x y hx => by
        rw [PT.get_set] at hx
        by_cases e : x = t
        · subst e
          rw [if_pos rfl] at hx
          simp only [Option.some.injEq] at hx
          subst hx
          exact ⟨u, by simp [hs, ht], h1⟩
        · rw [if_neg e] at hx
          obtain ⟨z, z1, z2⟩ := hT x y hx
          exact ⟨z, by rw [Array.getElem?_setIfInBounds_ne (fun e' => e e'.symm)]; exact z1, z2⟩)
      exact ⟨by simp [k1], by simpa using k2, by simpa using k3⟩
  | [], _ :: _, _, _, _, _, h, _, _, _ => by cases h
  | _ :: _, [], _, _, _, _, h, _, _, _ => by cases h
theorem HR.loop {G nx : Nat} {σ : Sig} {H : PT O} {w : World} (h : HR w0 G σ H nx w) {n : Nat} {st : LoopState} {pd : Option Code} {T : PT V} {nt : Nat} {ps : List Nat} {asg body : Code} (hn : H.get n = some (.lp st pd T nt ps asg body)) {q : Spot} (hq : σ n = some q) :
    ∃ fid tmps ds, w.heap[q.blk]? = some (.loop { state := st, pending := pd, fn := fid, tmps := tmps, params := ps.toArray, assign := asg, body := body, defers := ds }) ∧ tmps.size = nt ∧ (∀ t v, T.get t = some v → ∃ u, tmps[t]? = some u ∧ VR σ v u) ∧
    (Instr.getLoop q.blk).run P w = .ok { state := st, pending := pd, fn := fid, tmps := tmps, params := ps.toArray, assign := asg, body := body, defers := ds } w ∧
    ∀ (st' : LoopState) (pd' : Option Code), G ≤ n → (setObj q.blk (.loop { state := st', pending := pd', fn := fid, tmps := tmps, params := ps.toArray, assign := asg, body := body, defers := ds })).run P w = .ok () (putObj w q.blk (.loop { state := st', pending := pd', fn := fid, tmps := tmps, params := ps.toArray, assign := asg, body := body, defers := ds })) ∧
      HR w0 G σ (lput H n st' pd' T nt ps asg body) nx (putObj w q.blk (.loop { state := st', pending := pd', fn := fid, tmps := tmps, params := ps.toArray, assign := asg, body := body, defers := ds })) := by
  obtain ⟨q', ob, hq', hob, fid, tmps, ds, rfl, h1, h2⟩ := h.obj n _ hn
  rw [hq] at hq'
  simp only [Option.some.injEq] at hq'
  subst hq'
  refine ⟨fid, tmps, ds, hob, h1, h2, ?_, fun st' pd' hG => ⟨run_setObj hob (fun _ _ _ e => by cases e), ?_⟩⟩
  · simp only [Instr.getLoop, Sem.run_bind, run_getObj hob (fun _ _ _ e => by cases e), Result.andThen_ok, Sem.run_pure]
  · rw [lput_eq]
    exact h.put hG hn hq hob ⟨fid, tmps, ds, rfl, h1, h2⟩
set_option maxHeartbeats 1000000 in
theorem yldX_ok (hP : P.follows .mixedOrders = true) (hE : EnvOk P E) (hZ : FnsOk P Z) (hC : CallOk P w0 E.G cf) (hY : YldOk P w0 E.G yf) (fuel : Nat) : YldOk P w0 E.G (yldX E Z cf yf fuel) := by
  intro n args H nx b H' nx' h σ w us q hG hm hus hq
  unfold yldX at h
  cases hc : Nat.ble E.G n with
  | false => rw [hc] at h; cases h
  | true =>
    rw [hc] at h
    simp only [cond_true] at h
    have hGn := Nat.le_of_ble_eq_true hc
    split at h
    · rename_i st pd T nt ps asg body hn
      split at h
      · split at h
        · rename_i T1 hpl
          split at h
          · rename_i s1 he1
            split at h
            · rename_i st1 pd1 T1' nt1 ps1 asg1 body1 hds1 hn1
              split at h
              · split at h
                · rename_i ey s2 he2
                  obtain ⟨fid, tmps, ds, hob, l1, l2, l3, _⟩ := hm.loop (P := P) hn hq
                  obtain ⟨p1, p2, p3⟩ := putL_ok hpl hus l1 l2
                  have hz : (ps.toArray.zip us).foldl (fun (tmps : Array Value) (p : Nat × Value) => tmps.setIfInBounds p.1 p.2) tmps = (ps.zip us.toList).foldl (fun (tmps : Array Value) (p : Nat × Value) => tmps.setIfInBounds p.1 p.2) tmps := by
                    rw [← Array.foldl_toList]; simp
                  refine ⟨fid, (ps.zip us.toList).foldl (fun (tmps : Array Value) (p : Nat × Value) => tmps.setIfInBounds p.1 p.2) tmps, asg, body, ?_, ?_⟩
                  · have hsz : ¬ us.size ≠ ps.toArray.size := by
                      rw [Array.length_toList] at p1
                      simp [p1]
                    simp only [Instr.yield, Sem.run_bind, l3, Result.andThen_ok]
                    rw [if_neg hsz, ← hz]
                    rfl
                  · refine roundIn_of_wpIn (F := Fence.wide) (l := q.blk) trivial ?_
                    refine (execX_ok (r := some q.blk) hP hE hZ hC hY fuel asg _ _ _ he1 σ { tmps := (ps.zip us.toList).foldl (fun (tmps : Array Value) (p : Nat × Value) => tmps.setIfInBounds p.1 p.2) tmps, defers := [] } w _ ⟨hG, hm, ⟨p3⟩, p2, by simp [DR]⟩ ?_).1
                    intro σ1 a1 w1 hl1 hr1
                    have hd1 : a1.defers = [] := by
                      have := hr1.defers
                      rw [hds1] at this
                      cases hx : a1.defers with
                      | nil => rfl
                      | cons _ _ => rw [hx] at this; simp [DR] at this
                    obtain ⟨fid1, tmps1, ds1, hob1, m1, m2, m3, m4⟩ := hr1.mem.loop (P := P) hn1 (hl1 _ _ hq)
                    obtain ⟨m5, m6⟩ := m4 .busy pd1 hGn
                    refine ⟨putObj w1 q.blk (.loop { state := .busy, pending := pd1, fn := fid1, tmps := tmps1, params := ps1.toArray, assign := asg1, body := body1, defers := ds1 }), ?_, ?_⟩
                    · simp only [Instr.beginRound, Sem.run_bind, m3, Result.andThen_ok, m5]
                      rfl
                    · refine (execX_ok (r := some q.blk) hP hE hZ hC hY fuel body _ _ _ he2 σ1 a1 (putObj w1 q.blk (.loop { state := .busy, pending := pd1, fn := fid1, tmps := tmps1, params := ps1.toArray, assign := asg1, body := body1, defers := ds1 })) _ ⟨hr1.globs, m6, hr1.act, hr1.size, by rw [hd1]; simp [DR]⟩ ?_).1
                      have key : ∀ (e2 : EY), ey = e2 → ∀ σ2 w2, σ1.le σ2 → HR w0 E.G σ2 s2.H s2.nx w2 → match e2 with
                          | .normal => ∃ v w', (Instr.endRound q.blk none).run P w2 = .ok v w' ∧ ∃ σ', Ending.returned v = .returned (.bool b) ∧ σ.le σ' ∧ HR w0 E.G σ' H' nx' w'
                          | .ret => ∃ v w', (Instr.endRound q.blk (some .ret)).run P w2 = .ok v w' ∧ ∃ σ', Ending.returned v = .returned (.bool b) ∧ σ.le σ' ∧ HR w0 E.G σ' H' nx' w'
                          | .exit id => ∃ v w', (Instr.endRound q.blk (some (.exit id))).run P w2 = .ok v w' ∧ ∃ σ', Ending.returned v = .returned (.bool b) ∧ σ.le σ' ∧ HR w0 E.G σ' H' nx' w'
                          | .pan _ => False := by
                        intro e2 ee σ2 w2 hl2 hm2
                        unfold rendX at h
                        split at h
                        · split at h
                          · rename_i st2 pd2 T2 nt2 ps2 asg2 body2 hn2
                            obtain ⟨fid2, tmps2, ds2, hob2, o1, o2, o3, o4⟩ := hm2.loop (P := P) hn2 (hl2 _ _ (hl1 _ _ hq))
                            have hle := Sig.le_trans hl1 hl2
                            subst ee
                            split at h
                            · simp only [Option.some.injEq, Prod.mk.injEq] at h
                              obtain ⟨rfl, rfl, rfl⟩ := h
                              obtain ⟨o5, o6⟩ := o4 .ready none hGn
                              exact ⟨_, _, by simp only [Instr.endRound, Sem.run_bind, o3, Result.andThen_ok, Option.isNone_none, if_true, o5]; rfl, σ2, rfl, hle, o6⟩
                            · simp only [Option.some.injEq, Prod.mk.injEq] at h
                              obtain ⟨rfl, rfl, rfl⟩ := h
                              obtain ⟨o5, o6⟩ := o4 .done (some .ret) hGn
                              exact ⟨_, _, by simp only [Instr.endRound, Sem.run_bind, o3, Result.andThen_ok, Option.isNone_some, Bool.false_eq_true, if_false, o5]; rfl, σ2, rfl, hle, o6⟩
                            · rename_i id
                              simp only [Option.some.injEq, Prod.mk.injEq] at h
                              obtain ⟨rfl, rfl, rfl⟩ := h
                              obtain ⟨o5, o6⟩ := o4 .done (some (.exit id)) hGn
                              exact ⟨_, _, by simp only [Instr.endRound, Sem.run_bind, o3, Result.andThen_ok, Option.isNone_some, Bool.false_eq_true, if_false, o5]; rfl, σ2, rfl, hle, o6⟩
                            · cases h
                          · cases h
                        · cases h
                      cases ey with
                      | normal => exact fun σ2 a2 w2 hl2 hr2 => key .normal rfl σ2 w2 hl2 hr2.mem
                      | ret => exact fun σ2 a2 w2 hl2 hr2 => key .ret rfl σ2 w2 hl2 hr2.mem
                      | exit id => exact fun σ2 a2 w2 hl2 hr2 => key (.exit id) rfl σ2 w2 hl2 hr2.mem
                      | pan v => exact fun σ2 a2 w2 u hl2 hr2 => (key (.pan v) rfl σ2 w2 hl2 hr2.mem).elim
                · cases h
              · cases h
            · cases h
          · cases h
        · cases h
      · cases h
    · cases h
end
end
end Go.Proofs.YtafhmagifoapfaaGreatDoor
namespace Go.Proofs.YtafhmagifoapfaaGreatDoor
open Go.RowKit
noncomputable section
section
variable {P : Program} {w0 : World} {E : Env} {Z : Fns} {cf : CallX} {yf : YldX}
theorem isRec_ok {o : Oper} (h : isRec o = true) (ρ : Operand → Value) (w : World) : o.guard = none ∧ (execOp ρ o).run P w = .ok .recover w := by
  unfold isRec at h
  split at h
  · rename_i c hop
    split at h
    · rename_i hc
      split at h
      · rename_i hg
        refine ⟨hg, ?_⟩
        unfold execOp
        rw [hop]
        simp only [resolve, hc, Sem.run_bind, Sem.run_pure, Result.andThen_ok, invoke, builtin]
      · cases h
    · cases h
  · cases h
/-- The mode of a frame on its way out, and behind a call that was deferred. -/
def modeOf (pv : Option Value) (rec : Bool) : FrameMode :=
  match pv with
  | none => .returning
  | some u => .panicking [{ v := u, recovered := rec }]
theorem wp_of_fw {n : Nat} {c : Code} {Q : Exit → Act → World → Prop} {a : Act} {w : World} (h : c.wpIn (FW none) n P Q a w) : c.wp P Q a w := (wpIn_wide (n := n)).1 h
set_option maxHeartbeats 1000000 in
theorem defX_ok (hP : P.follows .mixedOrders = true) (hE : EnvOk P E) (hZ : FnsOk P Z) (hC : CallOk P w0 E.G cf) (hY : YldOk P w0 E.G yf) {fuel g : Nat} {args : List V} {pv : Option V} {H H' : PT O} {nx nx' : Nat} (h : defX E Z cf yf fuel g args pv H nx = some (H', nx'))
    {σ : Sig} {w : World} {us : Array Value} {pu : Option Value} (hG : Globs σ E.G) (hm : HR w0 E.G σ H nx w) (hus : VRs σ args us.toList) (hp : match pv, pu with
      | none, none => True
      | some v, some u => VR σ v u
      | _, _ => False) :
    CallsD P g us (modeOf pu false) w fun e u' w' => (∃ v, e = .returned v) ∧ u' = modeOf pu true ∧ ∃ σ', σ.le σ' ∧ HR w0 E.G σ' H' nx' w' := by
  unfold defX at h
  split at h
  · cases h
  · rename_i fn hf
    obtain ⟨f1, _, _⟩ := hZ.ft g fn hf
    split at h
    · rename_i id ops rest hb
      split at h
      · rename_i o l hops hres
        cases hir : isRec o with
        | false => rw [hir] at h; cases h
        | true =>
          rw [hir] at h
          simp only [cond_true] at h
          split at h
          · rename_i T1 hp1
            split at h
            · rename_i T2 hq2
              refine callsD_of_wpS f1 hb fun c₀ cs hmode => wpS_seq (wpS_region ?_)
              have hsz : ops.size = l.length + 1 := by rw [← Array.length_toList, hops]; rfl
              rw [List.range_eq_range', hsz, List.range'_succ]
              have h0 : ops[0]? = some o := by rw [← Array.getElem?_toList, hops]; rfl
              unfold wpOpsS
              obtain ⟨hgd, hrun⟩ := isRec_ok (P := P) hir ({ tmps := us ++ Array.replicate (fn.ntmps - us.size) undef, defers := [] } : Act).eval w
              have hwt : Region.wanted o (yielded ops (us ++ Array.replicate (fn.ntmps - us.size) undef)) = true := by unfold Region.wanted; rw [hgd]
              simp only [h0, hwt, if_true, hrun]
              have hA := args0_ok (ds := []) hus fn.ntmps
              have hS := args0_size hus fn.ntmps
              -- what is recovered, and how the frame below stands
              have key : ∀ (u : Value) (cs' : List Frame), VR σ (pvV pv) u → (∃ c', cs' = c' :: cs ∧ c' = { c₀ with mode := modeOf pu true }) →
                  wpOpsS P ops (Exit.thenS (Code.wpS P rest (bodyPostS P fn c₀ cs fun e u' w' => (∃ v, e = .returned v) ∧ u' = modeOf pu true ∧ ∃ σ', σ.le σ' ∧ HR w0 E.G σ' H' nx' w')) (bodyPostS P fn c₀ cs fun e u' w' => (∃ v, e = .returned v) ∧ u' = modeOf pu true ∧ ∃ σ', σ.le σ' ∧ HR w0 E.G σ' H' nx' w')) (List.range' (0 + 1) l.length)
                    (({ tmps := us ++ Array.replicate (fn.ntmps - us.size) undef, defers := [] } : Act).put o.dst u) cs' w := by
                rintro u cs' hu ⟨c', rfl, rfl⟩
                obtain ⟨p1, p2, p3⟩ := hA.put hS hu hp1
                refine execQ_ok hE hG hm l 1 T1 T2 _ (fun j => ?_) hq2 p1 p2 fun a' a1 a2 a3 => ?_
                · rw [← Array.getElem?_toList, hops, Nat.add_comm, List.getElem?_cons_succ]
                · have hdef : a'.defers = [] := a3.trans p3
                  refine wpS_of_wp (wp_of_fw (n := 0) ?_)
                  have fin : ∀ (ey : EY) (s : SX), execX E Z cf yf (args.length + (fn.ntmps - args.length)) false fuel rest ⟨T2, H, nx, []⟩ = some (ey, s) → (ey = .normal ∨ ey = .ret) → s.ds = [] → H' = s.H → nx' = s.nx →
                      rest.wpIn (FW none) 0 P (fun e a w' => bodyPostS P fn c₀ cs (fun e u' w' => (∃ v, e = .returned v) ∧ u' = modeOf pu true ∧ ∃ σ', σ.le σ' ∧ HR w0 E.G σ' H' nx' w') e a ({ c₀ with mode := modeOf pu true } :: cs) w') a' w := by
                    intro ey s he hey hds e1 e2
                    refine (execX_ok (r := none) hP hE hZ hC hY fuel rest _ ey s he σ a' w _ ⟨hG, hm, a1, a2, by rw [hdef]; simp [DR]⟩ ?_).1
                    have post : ∀ σ' a2 w2, σ.le σ' → RX w0 E.G (args.length + (fn.ntmps - args.length)) σ' s a2 w2 → a2.defers = [] ∧ ∃ u', { c₀ with mode := modeOf pu true } :: cs = { c₀ with mode := u' } :: cs ∧ ∃ v, (results fn a2.tmps).run P w2 = .ok v w2 ∧ ((∃ v', Ending.returned v = .returned v') ∧ u' = modeOf pu true ∧ ∃ σ', σ.le σ' ∧ HR w0 E.G σ' H' nx' w2) := fun σ' a2 w2 hl hr => by
                      have hd2 : a2.defers = [] := by
                        have := hr.defers
                        rw [hds] at this
                        cases hx : a2.defers with
                        | nil => rfl
                        | cons _ _ => rw [hx] at this; simp [DR] at this
                      refine ⟨hd2, _, rfl, _, results_none (arr_of_toList hres) a2.tmps P w2, ⟨_, rfl⟩, rfl, σ', hl, ?_⟩
                      rw [e1, e2]; exact hr.mem
                    rcases hey with rfl | rfl
                    · exact post
                    · exact post
                  split at h
                  · rename_i s he
                    split at h
                    · rename_i hds
                      simp only [Option.some.injEq, Prod.mk.injEq] at h
                      exact fin _ _ he (.inl rfl) hds h.1.symm h.2.symm
                    · cases h
                  · rename_i s he
                    split at h
                    · rename_i hds
                      simp only [Option.some.injEq, Prod.mk.injEq] at h
                      exact fin _ _ he (.inr rfl) hds h.1.symm h.2.symm
                    · cases h
                  · cases h
              cases pv with
              | none =>
                cases pu with
                | some _ => simp at hp
                | none =>
                  have hmode' : c₀.mode = .returning := hmode
                  have hrec : recoverD (c₀ :: cs) = none := by simp [recoverD, hmode']
                  rw [hrec]
                  have hc : c₀ = { c₀ with mode := modeOf none true } := by
                    have : modeOf none true = c₀.mode := by rw [hmode']; rfl
                    rw [this]
                  exact key .nilIface _ (show VR σ .ni .nilIface from trivial) ⟨c₀, rfl, hc⟩
              | some v =>
                cases pu with
                | none => simp at hp
                | some u =>
                  have hmode' : c₀.mode = .panicking [{ v := u, recovered := false }] := hmode
                  have hrec : recoverD (c₀ :: cs) = some (u, { c₀ with mode := .panicking [{ v := u, recovered := true }] } :: cs) := by simp [recoverD, hmode']
                  rw [hrec]
                  exact key u _ hp ⟨_, rfl, rfl⟩
            · cases h
          · cases h
      · cases h
    · cases h
/-- A function. -/
theorem fnX_calls (hP : P.follows .mixedOrders = true) (hE : EnvOk P E) (hZ : FnsOk P Z) (hC : CallOk P w0 E.G cf) (hY : YldOk P w0 E.G yf) (fuel : Nat) : CallOk P w0 E.G (fnX E Z cf yf fuel) := by
  intro f args H nx cr H' nx' h σ w us hG hm hus
  unfold fnX at h
  split at h
  · cases h
  · rename_i fn hf
    obtain ⟨f1, _, _⟩ := hZ.ft f fn hf
    split at h
    · cases h
    · rename_i c hb
      have hA := args0_ok (ds := []) hus fn.ntmps
      have hS := args0_size hus fn.ntmps
      have hRX : RX w0 E.G (args.length + (fn.ntmps - args.length)) σ ⟨args0 args, H, nx, []⟩ { tmps := us ++ Array.replicate (fn.ntmps - us.size) undef, defers := [] } w := ⟨hG, hm, hA, hS, by simp [DR]⟩
      -- an ordinary end
      have hend : ∀ (ey : EY) (s : SX), execX E Z cf yf (args.length + (fn.ntmps - args.length)) false fuel c ⟨args0 args, H, nx, []⟩ = some (ey, s) → (ey = .normal ∨ ey = .ret) → endX E Z cf yf fuel fn s = some (cr, H', nx') → Calls P f us w (CRok w0 E.G σ cr H' nx') := by
        intro ey s he hey hen
        unfold endX at hen
        have marks : ∀ (l : List DV) (H1 : PT O), s.ds = l → marksX E.G l s.H = some H1 → ∀ v, resX E.TT fn.results s.T H1 = some v → cr = .ret v → H' = H1 → nx' = s.nx → Calls P f us w (CRok w0 E.G σ cr H' nx') := by
          intro l H1 hl hmk v hv e1 e2 e3
          subst e1 e2 e3
          refine (callsIn_wide (n := 0)).1 (callsIn_of_wp_marks (F := Fence.wide) f1 hb trivial ?_)
          refine (execX_ok (r := none) (n := 0) hP hE hZ hC hY fuel c _ ey s he σ _ w _ hRX ?_).1
          have post : ∀ σ' a2 w2, σ.le σ' → RX w0 E.G (args.length + (fn.ntmps - args.length)) σ' s a2 w2 → LeavesInM Fence.wide 0 P fn a2.tmps (CRok w0 E.G σ (.ret v) H' s.nx) a2.defers .returning w2 := fun σ' a2 w2 hl2 hr2 => by
            refine marksX_ok (P := P) (fn := fn) l a2.defers s.H H' σ' w2 hmk hr2.mem (by rw [← hl]; exact hr2.defers) fun w3 hm3 => ?_
            obtain ⟨u, u1, u2⟩ := resX_ok (P := P) hE.tt hm3 hr2.act hv
            exact ⟨u, u2, σ', hl2, hm3, u, rfl, u1⟩
          rcases hey with rfl | rfl
          · exact post
          · exact post
        split at hen
        · rename_i hds
          split at hen
          · rename_i v hv
            simp only [Option.some.injEq, Prod.mk.injEq] at hen
            obtain ⟨rfl, rfl, rfl⟩ := hen
            exact marks [] s.H hds rfl v hv rfl rfl rfl
          · cases hen
        · rename_i n l hds
          split at hen
          · rename_i H1 hmk
            split at hen
            · rename_i v hv
              simp only [Option.some.injEq, Prod.mk.injEq] at hen
              obtain ⟨rfl, rfl, rfl⟩ := hen
              exact marks _ _ hds hmk v hv rfl rfl rfl
            · cases hen
          · cases hen
        · rename_i g dargs hds
          split at hen
          · rename_i H1 n1 hdx
            split at hen
            · rename_i v hv
              simp only [Option.some.injEq, Prod.mk.injEq] at hen
              obtain ⟨rfl, rfl, rfl⟩ := hen
              refine calls_of_wp_defers f1 hb (wp_of_fw (n := 0) ?_)
              refine (execX_ok (r := none) hP hE hZ hC hY fuel c _ ey s he σ _ w _ hRX ?_).1
              have post : ∀ σ' a2 w2, σ.le σ' → RX w0 E.G (args.length + (fn.ntmps - args.length)) σ' s a2 w2 → Leaves P fn a2.tmps (CRok w0 E.G σ (.ret v) H1 n1) a2.defers .returning w2 := fun σ' a2 w2 hl2 hr2 => by
                have hd := hr2.defers
                rw [hds] at hd
                cases hx : a2.defers with
                | nil => rw [hx] at hd; simp [DR] at hd
                | cons d ds =>
                  rw [hx] at hd
                  obtain ⟨⟨p, q, rfl, hpq⟩, hd⟩ := hd
                  have hds' : ds = [] := by
                    cases ds with
                    | nil => rfl
                    | cons _ _ => simp [DR] at hd
                  subst hds'
                  obtain ⟨gfn, hgf⟩ : ∃ gfn, Z.FT.get g = some gfn := by
                    unfold defX at hdx
                    cases hz : Z.FT.get g with
                    | none => rw [hz] at hdx; cases hdx
                    | some x => exact ⟨x, rfl⟩
                  obtain ⟨g1, g2, g3⟩ := hZ.ft g gfn hgf
                  obtain ⟨gc, hgc⟩ := Option.isSome_iff_exists.1 g3
                  have g4 : gfn.name ≠ "runtime.NumGoroutine" := by simpa using g2
                  refine leaves_cons (by simp) (f := g) (args := p ++ q) (by simp [invoke, callFunc, g1, g4, hgc]) ?_
                  refine (defX_ok (pu := none) hP hE hZ hC hY hdx hr2.globs hr2.mem hpq trivial).mono ?_
                  rintro e u' w' ⟨⟨v', rfl⟩, rfl, σ3, hl3, hm3⟩
                  show Leaves P fn a2.tmps _ [] (settle (modeOf none true)) w'
                  obtain ⟨u, u1, u2⟩ := resX_ok (P := P) hE.tt hm3 (hr2.act.le hl3) hv
                  exact ⟨u, u2, σ3, Sig.le_trans hl2 hl3, hm3, u, rfl, u1⟩
              rcases hey with rfl | rfl
              · exact post
              · exact post
            · cases hen
          · cases hen
        · cases hen
      split at h
      · rename_i s he
        exact hend _ s he (.inl rfl) h
      · rename_i s he
        exact hend _ s he (.inr rfl) h
      · rename_i v s he
        unfold panX at h
        split at h
        · rename_i hds
          simp only [Option.some.injEq, Prod.mk.injEq] at h
          obtain ⟨rfl, rfl, rfl⟩ := h
          refine calls_of_wp f1 hb (wp_of_fw (n := 0) ?_)
          refine (execX_ok (r := none) hP hE hZ hC hY fuel c _ (.pan v) s he σ _ w _ hRX ?_).1
          intro σ' a2 w2 u hl2 hp2
          have hd := hp2.defers
          rw [hds] at hd
          have hd2 : a2.defers = [] := by
            cases hx : a2.defers with
            | nil => rfl
            | cons _ _ => rw [hx] at hd; simp [DR] at hd
          exact ⟨hd2, σ', hl2, hp2.mem, u, rfl, hp2.val⟩
        · rename_i g dargs hds
          split at h
          · rename_i H1 n1 hdx
            split at h
            · rename_i rv hv
              simp only [Option.some.injEq, Prod.mk.injEq] at h
              obtain ⟨rfl, rfl, rfl⟩ := h
              refine calls_of_wp_defers f1 hb (wp_of_fw (n := 0) ?_)
              refine (execX_ok (r := none) hP hE hZ hC hY fuel c _ (.pan v) s he σ _ w _ hRX ?_).1
              intro σ' a2 w2 u hl2 hp2
              have hd := hp2.defers
              rw [hds] at hd
              show Leaves P fn a2.tmps _ a2.defers (.panicking [{ v := u, recovered := false }]) w2
              cases hx : a2.defers with
              | nil => rw [hx] at hd; simp [DR] at hd
              | cons d ds =>
                rw [hx] at hd
                obtain ⟨⟨p, q, rfl, hpq⟩, hd⟩ := hd
                have hds' : ds = [] := by
                  cases ds with
                  | nil => rfl
                  | cons _ _ => simp [DR] at hd
                subst hds'
                obtain ⟨gfn, hgf⟩ : ∃ gfn, Z.FT.get g = some gfn := by
                  unfold defX at hdx
                  cases hz : Z.FT.get g with
                  | none => rw [hz] at hdx; cases hdx
                  | some x => exact ⟨x, rfl⟩
                obtain ⟨g1, g2, g3⟩ := hZ.ft g gfn hgf
                obtain ⟨gc, hgc⟩ := Option.isSome_iff_exists.1 g3
                have g4 : gfn.name ≠ "runtime.NumGoroutine" := by simpa using g2
                refine leaves_cons (by simp) (f := g) (args := p ++ q) (by simp [invoke, callFunc, g1, g4, hgc]) ?_
                refine (defX_ok (pv := some v) (pu := some u) hP hE hZ hC hY hdx hp2.globs hp2.mem hpq hp2.val).mono ?_
                rintro e u' w' ⟨⟨v', rfl⟩, rfl, σ3, hl3, hm3⟩
                show Leaves P fn a2.tmps _ [] (settle (modeOf (some u) true)) w'
                obtain ⟨x, x1, x2⟩ := resX_ok (P := P) hE.tt hm3 (hp2.act.le hl3) hv
                exact ⟨x, x2, σ3, Sig.le_trans hl2 hl3, hm3, x, rfl, x1⟩
            · cases h
          · cases h
        · cases h
      · cases h
end
/-- Calls to a depth; 'bb': functions of which a contract is known. -/
structure CY where
  c : CallX
  y : YldX
def tower (E : Env) (Z : Fns) (bb : CallX) (fuel : Nat) (d : Nat) : CY :=
  Nat.rec (motive := fun _ => CY) ⟨fun _ _ _ _ => none, fun _ _ _ _ => none⟩
    (fun _ ih => ⟨fun f args H nx => match bb f args H nx with
      | some r => some r
      | none => fnX E Z ih.c ih.y fuel f args H nx, yldX E Z ih.c ih.y fuel⟩) d
theorem tower_ok {P : Program} {w0 : World} {E : Env} {Z : Fns} {bb : CallX} (hP : P.follows .mixedOrders = true) (hE : EnvOk P E) (hZ : FnsOk P Z) (hB : CallOk P w0 E.G bb) (fuel : Nat) : ∀ d, CallOk P w0 E.G (tower E Z bb fuel d).c ∧ YldOk P w0 E.G (tower E Z bb fuel d).y
  | 0 => by
    constructor
    · intro f args H nx cr H' nx' h; cases h
    · intro n args H nx b H' nx' h; cases h
  | d + 1 => by
    obtain ⟨ih1, ih2⟩ := tower_ok hP hE hZ hB fuel d
    refine ⟨fun f args H nx cr H' nx' h => ?_, yldX_ok hP hE hZ ih1 ih2 fuel⟩
    change (match bb f args H nx with
      | some r => some r
      | none => fnX E Z (tower E Z bb fuel d).c (tower E Z bb fuel d).y fuel f args H nx) = some (cr, H', nx') at h
    split at h
    · rename_i r hr
      simp only [Option.some.injEq] at h
      subst h
      exact hB f args H nx cr H' nx' hr
    · exact fnX_calls hP hE hZ ih1 ih2 fuel f args H nx cr H' nx' h
end
end Go.Proofs.YtafhmagifoapfaaGreatDoor
