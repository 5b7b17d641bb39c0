/- A reckoner for closed runs, part 26: a text of bytes, a text of a number. -/
import Derived.Test.YtafhmagifoapfaaGreatDoorEvB
import Derived.Laws.StructEq
import Derived.ChangeKeysEq
namespace Go.Proofs.YtafhmagifoapfaaGreatDoor
open Go.RowKit
noncomputable section
/-- Bytes as a text. -/
def packV : List V → Option Nat
  | [] => some 0
  | .i .u8 (.ofNat b) :: l => match packV l with
    | some x => cond (Nat.blt b 256) (nforce (b + 256 * x) fun y => some y) none
    | none => none
  | _ :: _ => none
theorem packV_ok {σ : Sig} : ∀ {l : List V} {us : List Value} {x : Nat}, packV l = some x → VRs σ l us → ∃ bs : List UInt8, us = bs.map (fun b => Value.int .u8 (b.toNat : Int)) ∧ bs.length = l.length ∧ packB bs = x
  | [], [], x, h, _ => by
    simp only [packV, Option.some.injEq] at h
    subst h
    exact ⟨[], rfl, rfl, rfl⟩
  | v :: l, u :: us, x, h, hv => by
    unfold packV at h
    split at h
    · rename_i h'; cases h'
    · rename_i b l' h'
      simp only [List.cons.injEq] at h'
      obtain ⟨rfl, rfl⟩ := h'
      cases hp : packV l with
      | none => rw [hp] at h; cases h
      | some y =>
        rw [hp] at h
        simp only at h
        cases hb : Nat.blt b 256 with
        | false => rw [hb] at h; cases h
        | true =>
          rw [hb] at h
          simp only [cond_true, nforce_eq, Option.some.injEq] at h
          subst h
          have hb : b < 256 := Nat.le_of_ble_eq_true hb
          obtain ⟨bs, h1, h2, h3⟩ := packV_ok hp hv.2
          have hv1 := hv.1
          cases u <;> simp only [VR] at hv1
          obtain ⟨rfl, rfl⟩ := hv1
          have hbn : (UInt8.ofNat b).toNat = b := by simp; omega
          refine ⟨UInt8.ofNat b :: bs, ?_, by simp [h2], ?_⟩
          · rw [h1, List.map_cons, hbn]; rfl
          · rw [packB, hbn, h3]
    · cases h
  | [], _ :: _, _, _, h => by simp [VRs] at h
  | _ :: _, [], _, _, h => by simp [VRs] at h
/-- string(b). -/
def ofBytesE (TT : PT TD) (H : PT O) (src dst : TypeId) (x : V) : Option V :=
  match TT.get src, TT.get dst with
  | some s, some d => match sliceD s.d with
    | some e => cond (strD d.d && u8D TT e) (match x with
      | .sln => some (.s 0 0)
      | x => match baseV x with
        | some (_, _, len) => match srcCells H 1 len x with
          | some l => match packV l with
            | some y => nforce len fun len => some (.s len y)
            | none => none
          | none => none
        | none => none) none
    | none => none
  | _, _ => none
theorem foldl_push : ∀ (bs : List UInt8) (acc : ByteArray), ((bs.map fun b => (b.toNat : Int)).foldl (fun r n => r.push (UInt8.ofNat n.toNat)) acc).data.toList = acc.data.toList ++ bs
  | [], acc => by simp
  | b :: bs, acc => by
    rw [List.map_cons, List.foldl_cons, foldl_push bs]
    simp [ByteArray.push]
theorem ofBytes_str (bs : List UInt8) : ((bs.map fun b => (b.toNat : Int)).foldl (fun r n => r.push (UInt8.ofNat n.toNat)) ByteArray.empty) = bstr bs.length (packB bs) := by
  have h := foldl_push bs ByteArray.empty
  have h2 : (bstr bs.length (packB bs)).data.toList = bs := by rw [bstr_list, packB_bytes]
  generalize (bs.map fun b => (b.toNat : Int)).foldl (fun r n => r.push (UInt8.ofNat n.toNat)) ByteArray.empty = z at h
  have h3 : z.data.toList = (bstr bs.length (packB bs)).data.toList := by rw [h, h2]; rfl
  cases z
  cases hy : bstr bs.length (packB bs)
  rw [hy] at h3
  simp only at h3
  congr 1
  exact Array.ext' h3
section
variable {P : Program} {w0 w : World} {G nx : Nat} {σ : Sig} {H : PT O} {TT : PT TD}
theorem ofBytesE_ok (hT : TTok P TT) (h : HR w0 G σ H nx w) {src dst : TypeId} {x v : V} {u : Value} (ha : ofBytesE TT H src dst x = some v) (hx : VR σ x u) : ∃ r, VR σ v r ∧ (convert src dst u).run P w = .ok r w := by
  unfold ofBytesE at ha
  split at ha
  · rename_i s d hs hd
    cases hsd : sliceD s.d with
    | none => rw [hsd] at ha; cases ha
    | some e =>
      rw [hsd] at ha
      simp only at ha
      cases hc : (strD d.d && u8D TT e) with
      | false => rw [hc] at ha; cases ha
      | true =>
        rw [hc] at ha
        simp only [cond_true] at ha
        simp only [Bool.and_eq_true] at hc
        have c1 := strD_eq hc.1
        have c2 := u8D_ok hT hc.2
        have hsrc := (hT src s hs).1.trans (congrArg some (sliceD_eq hsd))
        have hdst := (hT dst d hd).1.trans (congrArg some c1)
        split at ha
        · simp only [Option.some.injEq] at ha
          subst ha
          cases u with
          | slice a l c =>
            cases a with
            | some a => simp [VR] at hx
            | none =>
              refine ⟨.string .empty, ?_, by rw [run_convert_bytes_string w src dst e none l c hsrc c2 hdst]; rfl⟩
              simp only [VR]
              exact ⟨rfl, by decide⟩
          | _ => simp [VR] at hx
        · cases hb : baseV x with
          | none => rw [hb] at ha; cases ha
          | some p =>
            obtain ⟨m, o, len⟩ := p
            rw [hb] at ha
            simp only at ha
            cases hl : srcCells H 1 len x with
            | none => rw [hl] at ha; cases ha
            | some l =>
              rw [hl] at ha
              simp only at ha
              cases hp : packV l with
              | none => rw [hp] at ha; cases ha
              | some y =>
                rw [hp] at ha
                simp only [nforce_eq, Option.some.injEq] at ha
                subst ha
                obtain ⟨a, c, rfl, _⟩ := baseV_ok hb hx
                obtain ⟨news, n1, n2, n3, _⟩ := srcCells_ok (P := P) h hl hx
                obtain ⟨bs, b1, b2, b3⟩ := packV_ok hp n2
                have hlen : bs.length = len := by rw [b2, ← VRs_length n2, n1, Nat.mul_one]
                simp only [Builtin.firstCells, Nat.mul_one] at n3
                have n3' : (loadCells a len).run P w = .ok ((bs.map fun b => (b.toNat : Int)).map (Value.int .u8)).toArray w := by
                  rw [n3, b1, List.map_map]; rfl
                refine ⟨.string (bstr bs.length (packB bs)), ?_, ?_⟩
                · simp only [VR]
                  rw [hlen, b3]
                  exact ⟨rfl, by rw [← b3, ← hlen]; exact packB_lt bs⟩
                · rw [run_convert_bytes_string w src dst e (some a) len c hsrc c2 hdst, run_bytesToString w a len c _ n3', ofBytes_str]
  · cases ha
end
end
end Go.Proofs.YtafhmagifoapfaaGreatDoor
namespace Go.Proofs.YtafhmagifoapfaaGreatDoor
open Go.RowKit
noncomputable section
def listS (l : List UInt8) : V := nforce l.length fun n => nforce (packB l) fun x => .s n x
theorem listS_ok {σ : Sig} (s : ByteArray) : VR σ (listS s.data.toList) (.string s) := by
  unfold listS
  rw [nforce_eq, nforce_eq]
  simp only [VR]
  exact ⟨(bstr_pack s).symm, packB_lt _⟩
/-- string(rune). -/
def ofIntE (TT : PT TD) (src dst : TypeId) (n : Int) : Option V :=
  match TT.get src, TT.get dst with
  | some _, some d => cond (strD d.d) (some (listS (Utf8.encode n).data.toList)) none
  | _, _ => none
def minE : V → List V → Option V
  | .i k x, [] => some (.i k x)
  | .i k x, .i k' y :: l => cond (Nat.beq (kidx k) (kidx k')) (minE (.i k (cond (ilt y x) y x)) l) none
  | _, _ => none
def maxE : V → List V → Option V
  | .i k x, [] => some (.i k x)
  | .i k x, .i k' y :: l => cond (Nat.beq (kidx k) (kidx k')) (maxE (.i k (cond (ilt x y) y x)) l) none
  | _, _ => none
section
variable {P : Program} {w : World} {σ : Sig} {TT : PT TD}
theorem ofIntE_ok (hT : TTok P TT) {src dst : TypeId} {k : IntKind} {n : Int} {v : V} (ha : ofIntE TT src dst n = some v) : ∃ r, VR σ v r ∧ (convert src dst (.int k n)).run P w = .ok r w := by
  unfold ofIntE at ha
  split at ha
  · rename_i s d hs hd
    cases hc : strD d.d with
    | false => rw [hc] at ha; cases ha
    | true =>
      rw [hc] at ha
      simp only [cond_true, Option.some.injEq] at ha
      subst ha
      refine ⟨.string (Utf8.encode n), listS_ok _, ?_⟩
      simp [convert, run_underlying (hT src s hs).1, run_underlying ((hT dst d hd).1.trans (congrArg some (strD_eq hc))), Conv.intToString]
  · cases ha
theorem minE_ok : ∀ (l : List V) (x v : V) (xu : Value) (us : List Value), minE x l = some v → VR σ x xu → VRs σ l us → ∃ r, VR σ v r ∧ (us.foldlM Builtin.min2 xu).run P w = .ok r w
  | [], x, v, xu, [], h, hx, _ => by
    cases x <;> simp only [minE, Option.some.injEq, reduceCtorEq] at h
    subst h
    exact ⟨xu, hx, rfl⟩
  | y :: l, x, v, xu, yu :: us, h, hx, hl => by
    cases x <;> cases y <;> simp only [minE, reduceCtorEq] at h
    rename_i k x k' y
    cases hc : Nat.beq (kidx k) (kidx k') with
    | false => rw [hc] at h; cases h
    | true =>
      rw [hc] at h
      simp only [cond_true] at h
      cases xu <;> simp only [VR] at hx
      have hl1 := hl.1
      cases yu <;> simp only [VR] at hl1
      obtain ⟨rfl, rfl⟩ := hx
      obtain ⟨rfl, rfl⟩ := hl1
      obtain ⟨r, h1, h2⟩ := minE_ok l _ v (.int k (if y < x then y else x)) us h (by
        simp only [VR]
        refine ⟨trivial, ?_⟩
        rw [ilt_eq]
        by_cases e : y < x
        · simp [e]
        · simp [e]) hl.2
      refine ⟨r, h1, ?_⟩
      rw [List.foldlM_cons]
      simp only [Builtin.min2, Sem.run_bind, Sem.run_pure, Result.andThen_ok]
      exact h2
  | [], _, _, _, _ :: _, _, _, h => by simp [VRs] at h
  | _ :: _, _, _, _, [], _, _, h => by simp [VRs] at h
theorem maxE_ok : ∀ (l : List V) (x v : V) (xu : Value) (us : List Value), maxE x l = some v → VR σ x xu → VRs σ l us → ∃ r, VR σ v r ∧ (us.foldlM Builtin.max2 xu).run P w = .ok r w
  | [], x, v, xu, [], h, hx, _ => by
    cases x <;> simp only [maxE, Option.some.injEq, reduceCtorEq] at h
    subst h
    exact ⟨xu, hx, rfl⟩
  | y :: l, x, v, xu, yu :: us, h, hx, hl => by
    cases x <;> cases y <;> simp only [maxE, reduceCtorEq] at h
    rename_i k x k' y
    cases hc : Nat.beq (kidx k) (kidx k') with
    | false => rw [hc] at h; cases h
    | true =>
      rw [hc] at h
      simp only [cond_true] at h
      cases xu <;> simp only [VR] at hx
      have hl1 := hl.1
      cases yu <;> simp only [VR] at hl1
      obtain ⟨rfl, rfl⟩ := hx
      obtain ⟨rfl, rfl⟩ := hl1
      obtain ⟨r, h1, h2⟩ := maxE_ok l _ v (.int k (if y > x then y else x)) us h (by
        simp only [VR]
        refine ⟨trivial, ?_⟩
        rw [ilt_eq]
        by_cases e : x < y
        · simp [e]
        · simp [e]) hl.2
      refine ⟨r, h1, ?_⟩
      rw [List.foldlM_cons]
      simp only [Builtin.max2, Sem.run_bind, Sem.run_pure, Result.andThen_ok]
      exact h2
  | [], _, _, _, _ :: _, _, _, h => by simp [VRs] at h
  | _ :: _, _, _, _, [], _, _, h => by simp [VRs] at h
end
end
end Go.Proofs.YtafhmagifoapfaaGreatDoor
namespace Go.Proofs.YtafhmagifoapfaaGreatDoor
open Go.RowKit
noncomputable section
/-- Whether two keys are one. -/
def keyEq : V → V → Option Bool
  | .i k a, .i k' b => cond (Nat.beq (kidx k) (kidx k')) (some (ieq a b)) none
  | .s la xa, .s lb xb => some (strEq la xa lb xb)
  | .b a, .b b => some (a == b)
  | _, _ => none
/-- A kind of keys that are told apart at once. -/
def keyD : TypeDesc → V → Bool
  | .int _, .i _ _ => true
  | .string, .s _ _ => true
  | .bool, .b _ => true
  | _, _ => false
/-- Where a key stands. -/
def findE (d : TypeDesc) (k : V) : List (V × V) → Nat → Option (Option (Nat × V × V))
  | [], _ => some none
  | (k', v) :: l, i => cond (keyD d k') (match keyEq k k' with
    | some true => some (some (i, k', v))
    | some false => findE d k l (i + 1)
    | none => none) none
theorem keyEq_ok {σ : Sig} {d : TypeDesc} {a b : V} {u x : Value} {r : Bool} (h : keyEq a b = some r) (hd : keyD d b = true) (ha : VR σ a u) (hb : VR σ b x) : Instr.sameNow d u x = some r := by
  cases a <;> cases b <;> simp only [keyEq, reduceCtorEq] at h
  · cases u <;> simp only [VR] at ha
    cases x <;> simp only [VR] at hb
    subst ha hb
    cases d <;> simp [keyD] at hd
    simp only [Option.some.injEq] at h
    simp [Instr.sameNow, h]
  · rename_i k n k' n'
    cases u <;> simp only [VR] at ha
    cases x <;> simp only [VR] at hb
    obtain ⟨rfl, rfl⟩ := ha
    obtain ⟨rfl, rfl⟩ := hb
    cases d <;> simp [keyD] at hd
    cases hc : Nat.beq (kidx k) (kidx k') with
    | false => rw [hc] at h; cases h
    | true =>
      rw [hc] at h
      simp only [cond_true, Option.some.injEq] at h
      have := kidx_inj hc
      subst this
      rw [ieq_eq] at h
      simp [Instr.sameNow, h]
  · rename_i la xa lb xb
    cases u <;> simp only [VR] at ha
    cases x <;> simp only [VR] at hb
    cases d <;> simp [keyD] at hd
    obtain ⟨rfl, ha⟩ := ha
    obtain ⟨rfl, hb⟩ := hb
    simp only [Option.some.injEq] at h
    simp only [Instr.sameNow, Option.some.injEq]
    rw [← h, strEq_eq ha hb, beq_toListBytes, bstr_toList, bstr_toList]
theorem findE_ok {σ : Sig} {d : TypeDesc} {k : V} {ku : Value} (hk : VR σ k ku) : ∀ {l : List (V × V)} {es : List MapEntry} {i : Nat} {r : Option (Nat × V × V)}, findE d k l i = some r → VRs σ (l.map (·.1)) (es.map (·.key)) → VRs σ (l.map (·.2)) (es.map (·.val)) →
    match r with
    | none => Instr.findNow d ku es i = some none
    | some (j, k', v) => ∃ e, i ≤ j ∧ l[j - i]? = some (k', v) ∧ es[j - i]? = some e ∧ keyEq k k' = some true ∧ VR σ k' e.key ∧ VR σ v e.val ∧ Instr.findNow d ku es i = some (some (j, e.val))
  | [], [], i, r, h, _, _ => by
    simp only [findE, Option.some.injEq] at h
    subst h; rfl
  | (k', v) :: l, e :: es, i, r, h, hks, hvs => by
    unfold findE at h
    cases hd : keyD d k' with
    | false => rw [hd] at h; cases h
    | true =>
      rw [hd] at h
      simp only [cond_true] at h
      cases he : keyEq k k' with
      | none => rw [he] at h; cases h
      | some b =>
        rw [he] at h
        have hs := keyEq_ok he hd hk hks.1
        cases b with
        | true =>
          simp only [Option.some.injEq] at h
          subst h
          refine ⟨e, Nat.le_refl _, by simp, by simp, he, hks.1, hvs.1, ?_⟩
          unfold Instr.findNow
          rw [hs]
        | false =>
          simp only at h
          have ih := findE_ok hk h hks.2 hvs.2
          cases r with
          | none =>
            simp only at ih ⊢
            unfold Instr.findNow
            rw [hs]
            exact ih
          | some p =>
            obtain ⟨j, k2, v2⟩ := p
            obtain ⟨e2, h1, h2, h3, h4, h5, h6, h7⟩ := ih
            have e1 : j - i = (j - (i + 1)) + 1 := by omega
            refine ⟨e2, by omega, by rw [e1]; simpa using h2, by rw [e1]; simpa using h3, h4, h5, h6, ?_⟩
            unfold Instr.findNow
            rw [hs]
            exact h7
  | [], _ :: _, _, _, _, h, _ => by simp [VRs] at h
  | _ :: _, [], _, _, _, h, _ => by simp [VRs] at h
end
noncomputable section
def keyT : TypeDesc → Bool
  | .int _ => true
  | .string => true
  | .bool => true
  | _ => false
section
variable {P : Program} {w0 w : World} {G nx : Nat} {σ : Sig} {H : PT O} {TT : PT TD}
theorem run_checkKey {t : TypeId} {d : TypeDesc} (hd : P.underlying t = some d) (hk : keyT d = true) (b : Bool) (v : Value) (w : World) : (Instr.checkKey b 10000 t v).run P w = .ok () w := by
  show (Instr.checkKey b (9999 + 1) t v).run P w = .ok () w
  unfold Instr.checkKey
  simp only [Sem.run_bind, run_underlying hd, Result.andThen_ok]
  cases d <;> simp [keyT] at hk <;> rfl
theorem run_findKey {t : TypeId} {d : TypeDesc} {k : Value} {es : List MapEntry} {r : Option (Nat × Value)} (hd : P.underlying t = some d) (hf : Instr.findNow d k es 0 = some r) (w : World) : (Instr.findKey t k es).run P w = .ok r w := by
  unfold Instr.findKey
  simp only [Sem.run_bind, run_underlying hd, Result.andThen_ok, hf]
  rfl
end
/-- Looked up. -/
def lookupE (TT : PT TD) (H : PT O) (t : TypeId) (x k : V) (ok : Bool) : Option V :=
  match TT.get t with
  | some d => match mapD d.d with
    | some (kt, e) => match TT.get kt, zeroE TT e with
      | some kd, some z => cond (keyT kd.d) (match x with
        | .mn => some (cond ok (.tup [z, .b false]) z)
        | .mp n => match H.get n with
          | some (.mp l _ _) => match findE kd.d k l 0 with
            | some (some (_, _, v)) => some (cond ok (.tup [v, .b true]) v)
            | some none => some (cond ok (.tup [z, .b false]) z)
            | none => none
          | _ => none
        | _ => none) none
      | _, _ => none
    | none => none
  | none => none
section
variable {P : Program} {w0 w : World} {G nx : Nat} {σ : Sig} {H : PT O} {TT : PT TD}
theorem lookupE_ok (hT : TTok P TT) (h : HR w0 G σ H nx w) {t : TypeId} {x k v : V} {xu ku : Value} {ok : Bool} (ha : lookupE TT H t x k ok = some v) (hx : VR σ x xu) (hk : VR σ k ku) : ∃ r, VR σ v r ∧ (Instr.lookup t xu ku ok).run P w = .ok r w := by
  unfold lookupE at ha
  cases hd : TT.get t with
  | none => rw [hd] at ha; cases ha
  | some d =>
    rw [hd] at ha
    simp only at ha
    cases hm : mapD d.d with
    | none => rw [hm] at ha; cases ha
    | some p =>
      obtain ⟨kt, e⟩ := p
      rw [hm] at ha
      simp only at ha
      have ht : P.underlying t = some (.map kt e) := (hT t d hd).1.trans (congrArg some (mapD_eq hm))
      split at ha
      · rename_i kd z hkd hz
        cases hkt : keyT kd.d with
        | false => rw [hkt] at ha; cases ha
        | true =>
          rw [hkt] at ha
          simp only [cond_true] at ha
          have hku := (hT kt kd hkd).1
          obtain ⟨zu, hzv, hzr⟩ := zeroE_ok (P := P) (σ := σ) hT hz
          split at ha
          · simp only [Option.some.injEq] at ha
            subst ha
            cases xu with
            | map r =>
              cases r with
              | some r => simp [VR] at hx
              | none =>
                have hf : (Instr.findKey kt ku []).run P w = .ok none w := run_findKey hku rfl w
                cases ok with
                | true => exact ⟨.tuple #[zu, .bool false], ⟨hzv, rfl, trivial⟩, by simp [Instr.lookup, run_underlying ht, run_checkKey hku hkt, hf, hzr]⟩
                | false => exact ⟨zu, hzv, by simp [Instr.lookup, run_underlying ht, run_checkKey hku hkt, hf, hzr]⟩
            | _ => simp [VR] at hx
          · rename_i n
            split at ha
            · rename_i l bs ck hn
              cases xu with
              | map r =>
                cases r with
                | none => simp [VR] at hx
                | some r =>
                  simp only [VR] at hx
                  obtain ⟨q, hq, rfl⟩ := hx
                  obtain ⟨q', ob, hq', hob, es, rfl, _, hks, hvs⟩ := h.obj n _ hn
                  rw [hq] at hq'
                  simp only [Option.some.injEq] at hq'
                  subst hq'
                  have hget : (getObj q.blk).run P w = .ok (.map es ck) w := by simp [getObj, Sem.run, hob]
                  split at ha
                  · rename_i j k' v' hfe
                    obtain ⟨en, _, _, _, _, _, hve, hfn⟩ := findE_ok hk hfe hks hvs
                    have hf := run_findKey (P := P) hku hfn w
                    simp only [Option.some.injEq] at ha
                    subst ha
                    cases ok with
                    | true => exact ⟨.tuple #[en.val, .bool true], ⟨hve, rfl, trivial⟩, by simp [Instr.lookup, run_underlying ht, hget, run_checkKey hku hkt, hf]⟩
                    | false => exact ⟨en.val, hve, by simp [Instr.lookup, run_underlying ht, hget, run_checkKey hku hkt, hf]⟩
                  · rename_i hfe
                    have hfn := findE_ok hk hfe hks hvs
                    have hf := run_findKey (P := P) hku hfn w
                    simp only [Option.some.injEq] at ha
                    subst ha
                    cases ok with
                    | true => exact ⟨.tuple #[zu, .bool false], ⟨hzv, rfl, trivial⟩, by simp [Instr.lookup, run_underlying ht, hget, run_checkKey hku hkt, hf, hzr]⟩
                    | false => exact ⟨zu, hzv, by simp [Instr.lookup, run_underlying ht, hget, run_checkKey hku hkt, hf, hzr]⟩
                  · cases ha
              | _ => simp [VR] at hx
            · cases ha
          · cases ha
      · cases ha
end
end
end Go.Proofs.YtafhmagifoapfaaGreatDoor
namespace Go.Proofs.YtafhmagifoapfaaGreatDoor
open Go.RowKit
noncomputable section
def putObj (w : World) (r : Nat) (o : Obj) : World := { w with heap := w.heap.setIfInBounds r o }
section
variable {P : Program} {w0 w : World} {G nx : Nat} {σ : Sig} {H : PT O} {TT : PT TD}
theorem putObj_same {r : Nat} {ob o : Obj} (h : w.heap[r]? = some ob) : (putObj w r o).heap[r]? = some o := by
  have := (Array.getElem?_eq_some_iff.1 h).1
  simp [putObj, this]
theorem putObj_ne {r k : Nat} {o : Obj} (h : k ≠ r) : (putObj w r o).heap[k]? = w.heap[k]? := by
  simp only [putObj]
  rw [Array.getElem?_setIfInBounds_ne (fun e => h e.symm)]
/-- An object is replaced by another. -/
theorem HR.put (h : HR w0 G σ H nx w) {n : Nat} {x x' : O} {q : Spot} {ob ob' : Obj} (hG : G ≤ n) (hn : H.get n = some x) (hq : σ n = some q) (hob : w.heap[q.blk]? = some ob) (ho : OR σ q x' ob') : HR w0 G σ (H.set x' n) nx (putObj w q.blk ob') := by
  refine ⟨⟨h.below.os, h.below.tape, h.below.output, by simpa [putObj] using h.below.size, fun k hk => ?_⟩, h.dom, fun m o' hm => ?_, h.high, fun m1 m2 q1 q2 h1 h2 => h.apart m1 m2 q1 q2 ?_ ?_⟩
  · have hne : k ≠ q.blk := by have := h.high n q hq hG; omega
    rw [putObj_ne hne]
    exact h.below.block k hk
  · rw [PT.get_set] at hm
    by_cases e : m = n
    · subst e
      rw [if_pos rfl] at hm
      simp only [Option.some.injEq] at hm
      subst hm
      exact ⟨q, ob', hq, putObj_same hob, ho⟩
    · rw [if_neg e] at hm
      obtain ⟨r, ob2, hr, hob2, hor⟩ := h.obj m o' hm
      refine ⟨r, ob2, hr, ?_, hor⟩
      rw [putObj_ne (h.apart m n r q (by rw [hm]; simp) (by rw [hn]; simp) hr hq e)]
      exact hob2
  · intro e; apply h1; rw [PT.get_set]; split
    · rename_i e'; subst e'; rw [hn] at e; cases e
    · exact e
  · intro e; apply h2; rw [PT.get_set]; split
    · rename_i e'; subst e'; rw [hn] at e; cases e
    · exact e
end
end
end Go.Proofs.YtafhmagifoapfaaGreatDoor
namespace Go.Proofs.YtafhmagifoapfaaGreatDoor
open Go.RowKit
noncomputable section
section
variable {σ : Sig} {u : Value}
theorem VR_b {x : Bool} (h : VR σ (.b x) u) : u = .bool x := by cases u <;> simp_all [VR]
theorem VR_i {k : IntKind} {n : Int} (h : VR σ (.i k n) u) : u = .int k n := by cases u <;> simp_all [VR]
theorem VR_s {l x : Nat} (h : VR σ (.s l x) u) : u = .string (bstr l x) ∧ x < 256 ^ l := by cases u <;> simp_all [VR]
theorem VR_pn (h : VR σ .pn u) : u = .pointer none := by
  cases u with
  | pointer a => cases a <;> simp_all [VR]
  | _ => simp [VR] at h
theorem VR_p {n o : Nat} (h : VR σ (.p n o) u) : ∃ a, u = .pointer (some a) ∧ addrOf σ n o = some a := by
  cases u with
  | pointer a => cases a <;> simp_all [VR]
  | _ => simp [VR] at h
theorem VR_sln (h : VR σ .sln u) : u = .slice none 0 0 := by
  cases u with
  | slice a l c => cases a <;> cases l <;> cases c <;> simp_all [VR]
  | _ => simp [VR] at h
theorem VR_sl {n o len cap : Nat} (h : VR σ (.sl n o len cap) u) : ∃ a, u = .slice (some a) len cap ∧ addrOf σ n o = some a ∧ len ≤ cap := by
  cases u with
  | slice a l c => cases a with
    | none => simp [VR] at h
    | some a =>
      simp only [VR] at h
      obtain ⟨h1, rfl, rfl, h4⟩ := h
      exact ⟨a, rfl, h1, h4⟩
  | _ => simp [VR] at h
theorem VR_slu {n o len es : Nat} (h : VR σ (.slu n o len es) u) : ∃ a c, u = .slice (some a) len c ∧ addrOf σ n o = some a ∧ len ≤ c ∧ ∃ q, σ n = some q ∧ o + c * es = q.tot := by
  cases u with
  | slice a l c => cases a with
    | none => simp [VR] at h
    | some a =>
      simp only [VR] at h
      obtain ⟨h1, rfl, h4⟩ := h
      exact ⟨a, c, rfl, h1, h4⟩
  | _ => simp [VR] at h
theorem VR_mn (h : VR σ .mn u) : u = .map none := by
  cases u with
  | map a => cases a <;> simp_all [VR]
  | _ => simp [VR] at h
theorem VR_mp {n : Nat} (h : VR σ (.mp n) u) : ∃ r q, u = .map (some r) ∧ σ n = some q ∧ q.blk = r := by
  cases u with
  | map a => cases a with
    | none => simp [VR] at h
    | some r =>
      simp only [VR] at h
      obtain ⟨q, h1, h2⟩ := h
      exact ⟨r, q, rfl, h1, h2⟩
  | _ => simp [VR] at h
theorem VR_nf (h : VR σ .nf u) : u = .nilFunc := by cases u <;> simp_all [VR]
theorem VR_f {fn : Nat} {first caps : List V} (h : VR σ (.f fn first caps) u) : ∃ a b, u = .func (.func fn) a b ∧ VRs σ first a.toList ∧ VRs σ caps b.toList := by
  cases u with
  | func g a b => cases g with
    | func g =>
      simp only [VR] at h
      obtain ⟨rfl, h1, h2⟩ := h
      exact ⟨a, b, rfl, h1, h2⟩
    | _ => simp [VR] at h
  | _ => simp [VR] at h
theorem VR_ni (h : VR σ .ni u) : u = .nilIface := by cases u <;> simp_all [VR]
theorem VR_ifc {t : Nat} {v : V} (h : VR σ (.ifc t v) u) : ∃ w, u = .iface t w ∧ VR σ v w := by
  cases u with
  | iface a w =>
    simp only [VR] at h
    obtain ⟨rfl, h1⟩ := h
    exact ⟨w, rfl, h1⟩
  | _ => simp [VR] at h
theorem VR_agg {l : List V} (h : VR σ (.agg l) u) : ∃ a, u = .agg a ∧ VRs σ l a.toList := by
  cases u <;> simp [VR] at h
  exact ⟨_, rfl, h⟩
end
def evShift (op : BinOp) (k : IntKind) (a b : Int) : Option V :=
  match b with
  | .negSucc _ => none
  | .ofNat n => match op with
    | .shl => some (vint k (wrapF k (a * Int.ofNat (2 ^ cond (Nat.ble n k.bits) n k.bits))))
    | .shr => match a with
      | .ofNat m => some (nforce (m / 2 ^ cond (Nat.ble n k.bits) n k.bits) fun r => .i k (.ofNat r))
      | .negSucc _ => none
    | _ => none
theorem cond_min (n b : Nat) : cond (Nat.ble n b) n b = min n b := by
  cases h : Nat.ble n b
  · have : ¬ n ≤ b := fun e => by rw [Nat.ble_eq_true_of_le e] at h; cases h
    simp only [cond_false]; omega
  · have := Nat.le_of_ble_eq_true h
    simp only [cond_true]; omega
theorem evShift_ok {σ : Sig} {op : BinOp} {k k' : IntKind} {a b : Int} {v : V} (h : evShift op k a b = some v) (P : Program) (w : World) (t : TypeId) : ∃ u, VR σ v u ∧ (binOp op t (.int k a) (.int k' b)).run P w = .ok u w := by
  unfold evShift at h
  cases b with
  | negSucc _ => cases h
  | ofNat n =>
    simp only [cond_min] at h
    have hn : ¬ (Int.ofNat n < 0) := by simp
    have ht : (Int.ofNat n).toNat = n := rfl
    cases op <;> simp only [reduceCtorEq, Option.some.injEq] at h
    case shl =>
      subst h
      rw [vint_eq, wrapF_eq]
      refine ⟨.int k (k.wrap (a * Int.ofNat (2 ^ min n k.bits))), ⟨rfl, rfl⟩, ?_⟩
      have e : (Int.ofNat (2 ^ min n k.bits)) = (2 : Int) ^ min n k.bits := by
        rw [Int.ofNat_eq_natCast]; exact_mod_cast rfl
      simp only [binOp, Op.shift, hn, if_false, ht, e]
      rfl
    case shr =>
      cases a with
      | negSucc _ => cases h
      | ofNat m =>
        simp only [Option.some.injEq, nforce_eq] at h
        subst h
        refine ⟨.int k (.ofNat (m / 2 ^ min n k.bits)), ⟨rfl, rfl⟩, ?_⟩
        have e : (Int.ofNat m).fdiv ((2 : Int) ^ min n k.bits) = Int.ofNat (m / 2 ^ min n k.bits) := by
          have e2 : ((2 : Int) ^ min n k.bits) = ((2 ^ min n k.bits : Nat) : Int) := by exact_mod_cast rfl
          rw [e2, Int.ofNat_eq_natCast, Int.ofNat_eq_natCast, Int.fdiv_eq_ediv_of_nonneg _ (Int.natCast_nonneg _)]; rfl
        simp only [binOp, Op.shift, hn, if_false, ht, e]
        rfl
theorem evBits_ok {σ : Sig} {k : IntKind} {a b : Int} {v : V} (f : Nat → Nat → Nat) (g : BitVec k.bits → BitVec k.bits → BitVec k.bits) (hg : ∀ x y, (g x y).toNat = f x.toNat y.toNat) (h : evBits f k a b = some v) :
    VR σ v (.int k (k.wrap (g (BitVec.ofInt k.bits a) (BitVec.ofInt k.bits b)).toNat)) := by
  unfold evBits at h
  cases a with
  | negSucc _ => cases h
  | ofNat m =>
   cases b with
   | negSucc _ => cases h
   | ofNat n =>
    simp only at h
    cases hc : (Nat.blt m (kcap k) && Nat.blt n (kcap k))
    · rw [hc] at h; cases h
    · rw [hc] at h
      simp only [cond_true, Option.some.injEq] at h
      rw [Bool.and_eq_true] at hc
      have h1 : m < kcap k := Nat.le_of_ble_eq_true hc.1
      have h2 : n < kcap k := Nat.le_of_ble_eq_true hc.2
      rw [← h, vint_eq, wrapF_eq, hg]
      refine ⟨rfl, ?_⟩
      rw [show (Int.ofNat m) = (m : Int) from rfl, show (Int.ofNat n) = (n : Int) from rfl, ofInt_toNat h1, ofInt_toNat h2]
      rfl
def evAndNot (k : IntKind) (a b : Int) : Option V := evBits (fun m n => Nat.xor m (Nat.land m n)) k a b
theorem andNot_bits {n : Nat} (x y : BitVec n) : (x &&& ~~~y) = x ^^^ (x &&& y) := by
  apply BitVec.eq_of_getLsbD_eq
  intro i hi
  simp only [BitVec.getLsbD_and, BitVec.getLsbD_not, BitVec.getLsbD_xor, hi, decide_true, Bool.true_and]
  cases x.getLsbD i <;> cases y.getLsbD i <;> rfl
theorem evAndNot_ok {σ : Sig} {k : IntKind} {a b : Int} {v : V} (h : evAndNot k a b = some v) (P : Program) (w : World) (t : TypeId) : ∃ u, VR σ v u ∧ (binOp .andNot t (.int k a) (.int k b)).run P w = .ok u w :=
  ⟨_, evBits_ok (fun m n => Nat.xor m (Nat.land m n)) (fun x y => x &&& ~~~y) (fun x y => by rw [andNot_bits]; rw [BitVec.toNat_xor, BitVec.toNat_and]; rfl) h, by simp [binOp, Op.intBits]⟩
def evXorAll (k : IntKind) (n : Int) : Option V := cond k.signed (some (vint k (wrapF k (-1 - n)))) (evBits Nat.xor k k.max n)
theorem mod_not (b : Nat) (n : Int) : (((2 ^ b - 1 - (n % (2 ^ b : Nat)).toNat : Nat) : Int)) % (2 ^ b : Int) = (-1 - n) % (2 ^ b : Int) := by
  have e2 : (((2 : Nat) ^ b : Nat) : Int) = (2 : Int) ^ b := by push_cast; rfl
  rw [← e2]
  generalize hM : 2 ^ b = M
  have hp : 0 < M := by rw [← hM]; exact Nat.pow_pos (by decide)
  have h0 := Int.emod_nonneg n (b := (M : Int)) (by omega)
  have h1 := Int.emod_lt_of_pos n (b := (M : Int)) (by omega)
  have e : (((M - 1 - (n % (M : Int)).toNat : Nat) : Int)) = M - 1 - n % M := by omega
  rw [e]
  have : (M - 1 - n % M : Int) = (-1 - n) + M * (1 + n / M) := by
    have := Int.mul_ediv_add_emod n M
    rw [Int.mul_add]; omega
  rw [this, Int.add_mul_emod_self_left]
theorem wrap_not (k : IntKind) (n : Int) : k.wrap ((BitVec.ofInt k.bits (-1) ^^^ BitVec.ofInt k.bits n).toNat : Int) = k.wrap (-1 - n) := by
  have e : (((BitVec.ofInt k.bits (-1) ^^^ BitVec.ofInt k.bits n).toNat : Nat) : Int) % (2 ^ k.bits : Int) = (-1 - n) % (2 ^ k.bits : Int) := by
    have h1 : BitVec.ofInt k.bits (-1) = BitVec.allOnes k.bits := by cases k <;> rfl
    rw [h1, BitVec.allOnes_xor, BitVec.toNat_not, BitVec.toNat_ofInt]
    exact mod_not k.bits n
  unfold IntKind.wrap
  rw [e]
theorem evXorAll_ok {σ : Sig} {k : IntKind} {n : Int} {v : V} (h : evXorAll k n = some v) (P : Program) (w : World) : ∃ u, VR σ v u ∧ (Op.unary .xor (.int k n)).run P w = .ok u w := by
  unfold evXorAll at h
  cases hs : k.signed with
  | true =>
    rw [hs] at h
    simp only [cond_true, Option.some.injEq, vint_eq, wrapF_eq] at h
    refine ⟨.int k (k.wrap (-1 - n)), by rw [← h]; exact ⟨rfl, rfl⟩, ?_⟩
    have := wrap_not k n
    simp only [Op.unary, hs, if_true, Op.intBits]
    rw [this]; rfl
  | false =>
    rw [hs] at h
    simp only [cond_false] at h
    exact ⟨_, evBits_ok Nat.xor (fun x y => x ^^^ y) (fun x y => by rw [BitVec.toNat_xor]; rfl) h, by simp [Op.unary, Op.intBits, hs]⟩
/-- Types of structs and arrays whose values are held against each other: their parts' places and types. -/
def EQok (P : Program) (EQ : PT (List (Nat × Nat))) : Prop := ∀ t l, EQ.get t = some l → P.eqGuardType P.depth t = false ∧
  ((P.underlying t = some (.struct (P.fieldsOf t)) ∧ P.stoodInHeld t = false ∧ ((P.fieldsOf t).toList.filter fun f => f.name ≠ "_").map (fun f => (f.offset, f.type)) = l) ∨
   ∃ n e i, P.underlying t = some (.array n e) ∧ P.info? e = some i ∧ (List.range n).map (fun j => (j * P.cellsOf e, e)) = l)
def eqFs (TT : PT TD) (rec : TypeId → V → V → Option Bool) (xs ys : List V) : List (Nat × Nat) → Option Bool
  | [] => some true
  | (off, t) :: l => match partE TT t xs off, partE TT t ys off with
    | some a, some b => match rec t a b with
      | some true => eqFs TT rec xs ys l
      | some false => some false
      | none => none
    | _, _ => none
/-- Whether two values are alike. -/
def eqE (TT : PT TD) (EQ : PT (List (Nat × Nat))) : Nat → TypeId → V → V → Option Bool
  | 0, _, _, _ => none
  | d + 1, t, x, y => match TT.get t with
    | none => none
    | some k => match k.d, x, y with
      | .bool, .b a, .b b => some (a == b)
      | .int _, .i k a, .i k' b => cond (Nat.beq (kidx k) (kidx k')) (some (ieq a b)) none
      | .string, .s la xa, .s lb xb => some (strEq la xa lb xb)
      | .pointer _, .pn, .pn => some true
      | .pointer _, .pn, .p _ _ => some false
      | .pointer _, .p _ _, .pn => some false
      | .pointer e, .p n o, .p n' o' => match sizeE TT e with
        | some s => cond (Nat.beq s 0 || !Nat.beq n n') none (some (Nat.beq o o'))
        | none => none
      | .interface _, .ni, .ni => some true
      | .interface _, .ni, .ifc _ _ => some false
      | .interface _, .ifc _ _, .ni => some false
      | .interface _, .ifc t v, .ifc u w => cond (Nat.beq t u) (match TT.get t with
        | some i => cond i.i.comparable (eqE TT EQ d t v w) none
        | none => none) (some false)
      | .struct _, .agg xs, .agg ys => match EQ.get t with
        | some l => eqFs TT (eqE TT EQ d) xs ys l
        | none => none
      | .array _ _, .agg xs, .agg ys => match EQ.get t with
        | some l => eqFs TT (eqE TT EQ d) xs ys l
        | none => none
      | .slice _, .sln, .sln => some true
      | .slice _, .sln, .sl _ _ _ _ => some false
      | .slice _, .sln, .slu _ _ _ _ => some false
      | .slice _, .sl _ _ _ _, .sln => some false
      | .slice _, .slu _ _ _ _, .sln => some false
      | .slice _, .sz, .sln => some false
      | .slice _, .sln, .sz => some false
      | .map _ _, .mn, .mn => some true
      | .map _ _, .mn, .mp _ => some false
      | .map _ _, .mp _, .mn => some false
      | .func _ _ _, .nf, .nf => some true
      | .func _ _ _, .nf, .f _ _ _ => some false
      | .func _ _ _, .f _ _ _, .nf => some false
      | _, _, _ => none
section
variable {P : Program} {w : World} {σ : Sig} {TT : PT TD} {EQ : PT (List (Nat × Nat))}
theorem eqFs_ok (hT : TTok P TT) {rec : TypeId → V → V → Option Bool} {d : Nat} (ih : ∀ t x y b u v, rec t x y = some b → VR σ x u → VR σ y v → (Op.equalIn d t u v).run P w = .ok b w) {xs ys : List V} {us vs : Array Value} (hx : VRs σ xs us.toList) (hy : VRs σ ys vs.toList) :
    ∀ (fs : List Field) (b : Bool), eqFs TT rec xs ys ((fs.filter fun f => f.name ≠ "_").map fun f => (f.offset, f.type)) = some b → (Op.eqFields d us vs fs).run P w = .ok b w
  | [], b, h => by
    simp only [List.filter_nil, List.map_nil, eqFs, Option.some.injEq] at h
    subst h; rfl
  | f :: fs, b, h => by
    unfold Op.eqFields
    by_cases hn : f.name ≠ "_"
    · rw [if_pos hn]
      rw [List.filter_cons_of_pos (by simpa using hn), List.map_cons] at h
      unfold eqFs at h
      split at h
      · rename_i a c ha hc
        obtain ⟨ua, va, ra⟩ := partE_ok (P := P) (w := w) hT ha hx
        obtain ⟨uc, vc, rc⟩ := partE_ok (P := P) (w := w) hT hc hy
        cases hr : rec f.type a c with
        | none => rw [hr] at h; cases h
        | some r =>
          rw [hr] at h
          have := ih _ _ _ _ _ _ hr va vc
          simp only [Sem.run_bind, ra, rc, this, Result.andThen_ok]
          cases r with
          | true =>
            simp only at h
            have h2 := eqFs_ok hT ih hx hy fs b h
            simpa using h2
          | false =>
            simp only [Option.some.injEq] at h
            subst h
            rfl
      · cases h
    · rw [if_neg hn]
      rw [List.filter_cons_of_neg (by simpa using hn)] at h
      exact eqFs_ok hT ih hx hy fs b h
theorem eqIt_ok (hT : TTok P TT) {rec : TypeId → V → V → Option Bool} {d : Nat} (ih : ∀ t x y b u v, rec t x y = some b → VR σ x u → VR σ y v → (Op.equalIn d t u v).run P w = .ok b w) {xs ys : List V} {us vs : Array Value} (hx : VRs σ xs us.toList) (hy : VRs σ ys vs.toList) {e c : Nat} :
    ∀ (is : List Nat) (b : Bool), eqFs TT rec xs ys (is.map fun j => (j * c, e)) = some b → (Op.eqItems d e c us vs is).run P w = .ok b w
  | [], b, h => by
    simp only [List.map_nil, eqFs, Option.some.injEq] at h
    subst h; rfl
  | j :: is, b, h => by
    unfold Op.eqItems
    rw [List.map_cons] at h
    unfold eqFs at h
    split at h
    · rename_i a k ha hc
      obtain ⟨ua, va, ra⟩ := partE_ok (P := P) (w := w) hT ha hx
      obtain ⟨uc, vc, rc⟩ := partE_ok (P := P) (w := w) hT hc hy
      cases hr : rec e a k with
      | none => rw [hr] at h; cases h
      | some r =>
        rw [hr] at h
        have := ih _ _ _ _ _ _ hr va vc
        simp only [Sem.run_bind, ra, rc, this, Result.andThen_ok]
        cases r with
        | true =>
          simp only at h
          have h2 := eqIt_ok hT ih hx hy is b h
          simpa using h2
        | false =>
          simp only [Option.some.injEq] at h
          subst h
          rfl
    · cases h
theorem sizeOf_run (hT : TTok P TT) {t : TypeId} {n : Nat} (h : sizeE TT t = some n) : (sizeOf t).run P w = .ok n w := by
  obtain ⟨i, hi, rfl⟩ := sizeE_ok hT h
  exact run_sizeOf hi
set_option maxHeartbeats 2000000 in
theorem eqE_ok (hT : TTok P TT) (hE : EQok P EQ) : ∀ (d : Nat) (d' : Nat) (t : TypeId) (x y : V) (b : Bool) (u v : Value), d ≤ d' → eqE TT EQ d t x y = some b → VR σ x u → VR σ y v → (Op.equalIn d' t u v).run P w = .ok b w
  | 0, _, _, _, _, _, _, _, _, h, _, _ => by cases h
  | d + 1, d', t, x, y, b, u, v, hd, h, hx, hy => by
    obtain ⟨d', rfl⟩ : ∃ e, d' = e + 1 := ⟨d' - 1, by omega⟩
    have ih := fun t x y b u v => eqE_ok hT hE d d' t x y b u v (by omega)
    unfold eqE at h
    cases hk : TT.get t with
    | none => rw [hk] at h; cases h
    | some k =>
      rw [hk] at h
      obtain ⟨hu, _⟩ := hT t k hk
      simp only at h
      split at h
      · rename_i he
        rw [he] at hu
        obtain rfl := VR_b hx
        obtain rfl := VR_b hy
        simp only [Option.some.injEq] at h
        rw [← h]
        exact run_equalIn_bool' w d' t _ _ hu
      · rename_i he
        rw [he] at hu
        obtain rfl := VR_i hx
        obtain rfl := VR_i hy
        rename_i k1 n1 k2 n2
        cases hkk : Nat.beq (kidx k1) (kidx k2) <;> rw [hkk] at h
        · cases h
        · have := kidx_inj hkk
          subst this
          simp only [cond_true, Option.some.injEq] at h
          rw [run_equalIn_int w d' t _ _ _ _ hu, ← h, ieq_eq]
      · rename_i he
        rw [he] at hu
        obtain ⟨rfl, h1⟩ := VR_s hx
        obtain ⟨rfl, h2⟩ := VR_s hy
        simp only [Option.some.injEq] at h
        rw [run_equalIn_string w d' t _ _ hu, ← h, bstr_toList, bstr_toList, strEq_eq h1 h2]
      · rename_i he
        rw [he] at hu
        obtain rfl := VR_pn hx
        obtain rfl := VR_pn hy
        simp only [Option.some.injEq] at h
        subst h
        simp [Op.equalIn, run_underlying hu]
      · rename_i he
        rw [he] at hu
        obtain rfl := VR_pn hx
        obtain ⟨_, rfl, _⟩ := VR_p hy
        simp only [Option.some.injEq] at h
        subst h
        simp [Op.equalIn, run_underlying hu]
      · rename_i he
        rw [he] at hu
        obtain ⟨_, rfl, _⟩ := VR_p hx
        obtain rfl := VR_pn hy
        simp only [Option.some.injEq] at h
        subst h
        simp [Op.equalIn, run_underlying hu]
      · rename_i e n o n' o' he
        rw [he] at hu
        obtain ⟨a, rfl, hx1⟩ := VR_p hx
        obtain ⟨b', rfl, hy1⟩ := VR_p hy
        clear hx hy
        cases hs : sizeE TT e with
        | none => rw [hs] at h; cases h
        | some s =>
          rw [hs] at h
          simp only at h
          cases hc : (Nat.beq s 0 || !Nat.beq n n') with
          | true => rw [hc] at h; cases h
          | false =>
            rw [hc] at h
            simp only [cond_false, Option.some.injEq] at h
            simp only [Bool.or_eq_false_iff, Bool.not_eq_false'] at hc
            have hs0 : s ≠ 0 := fun e => by rw [beqT e] at hc; exact absurd hc.1 (by simp)
            have hnn := Nat.eq_of_beq_eq_true hc.2
            subst hnn
            unfold addrOf at hx1 hy1
            obtain ⟨r, hr, rfl⟩ := Option.map_eq_some_iff.1 hx1
            rw [hr] at hy1
            simp only [Option.map_some, Option.some.injEq] at hy1
            subst hy1
            have : (Op.equalIn (d' + 1) t (.pointer (some ⟨r.blk, r.off + o, none⟩)) (.pointer (some ⟨r.blk, r.off + o', none⟩))).run P w = .ok (decide (o = o')) w := by
              have hsz : (sizeOf e).run P w = .ok s w := sizeOf_run hT hs
              have hsz' := hsz
              simp only [Op.equalIn, Sem.run_bind, run_underlying hu, Result.andThen_ok, hsz, ne_eq, hs0, not_false_eq_true, if_true, sameAddr]
              by_cases e : o = o' <;> simp [e]
            rw [this, ← h]
            by_cases e : o = o'
            · subst e; rw [Nat.beq_refl]; simp
            · rw [beqF e]; simp [e]
      · rename_i he
        rw [he] at hu
        obtain rfl := VR_ni hx
        obtain rfl := VR_ni hy
        simp only [Option.some.injEq] at h
        subst h
        simp [Op.equalIn, run_underlying hu]
      · rename_i he
        rw [he] at hu
        obtain rfl := VR_ni hx
        obtain ⟨_, rfl, _⟩ := VR_ifc hy
        simp only [Option.some.injEq] at h
        subst h
        simp [Op.equalIn, run_underlying hu]
      · rename_i he
        rw [he] at hu
        obtain ⟨_, rfl, _⟩ := VR_ifc hx
        obtain rfl := VR_ni hy
        simp only [Option.some.injEq] at h
        subst h
        simp [Op.equalIn, run_underlying hu]
      · rename_i t1 v1 t2 v2 he
        rw [he] at hu
        obtain ⟨u, rfl, hx1⟩ := VR_ifc hx
        obtain ⟨v, rfl, hy1⟩ := VR_ifc hy
        cases hb : Nat.beq t1 t2 with
        | false =>
          rw [hb] at h
          simp only [cond_false, Option.some.injEq] at h
          subst h
          have hne : t1 ≠ t2 := fun e => by rw [beqT e] at hb; cases hb
          simp [Op.equalIn, run_underlying hu, hne]
        | true =>
          have := Nat.eq_of_beq_eq_true hb
          subst this
          rw [hb] at h
          simp only [cond_true] at h
          cases hi : TT.get t1 with
          | none => rw [hi] at h; cases h
          | some i =>
            rw [hi] at h
            simp only at h
            cases hcmp : i.i.comparable with
            | false => rw [hcmp] at h; cases h
            | true =>
              rw [hcmp] at h
              simp only [cond_true] at h
              have := ih _ _ _ _ _ _ h hx1 hy1
              have hti := (hT t1 i hi).2
              simp [Op.equalIn, run_underlying hu, typeInfo, program, Sem.run, hti, hcmp, this]
      · rename_i fs xs ys he
        rw [he] at hu
        obtain ⟨us, rfl, hx1⟩ := VR_agg hx
        obtain ⟨vs, rfl, hy1⟩ := VR_agg hy
        cases hl : EQ.get t with
        | none => rw [hl] at h; cases h
        | some l =>
          rw [hl] at h
          simp only at h
          obtain ⟨_, ⟨e1, e2, e4⟩ | ⟨n', e', i', e1, e2, e3⟩⟩ := hE t l hl
          · rw [run_equalIn_struct w d' t _ _ e1 e2]
            subst e4
            exact eqFs_ok hT ih hx1 hy1 _ b h
          · rw [e1] at hu; cases hu
      · rename_i n0 e0 xs ys he
        rw [he] at hu
        obtain ⟨us, rfl, hx1⟩ := VR_agg hx
        obtain ⟨vs, rfl, hy1⟩ := VR_agg hy
        cases hl : EQ.get t with
        | none => rw [hl] at h; cases h
        | some l =>
          rw [hl] at h
          simp only at h
          obtain ⟨_, ⟨e1, e2, e4⟩ | ⟨n', e', i', e1, e2, e3⟩⟩ := hE t l hl
          · rw [e1] at hu; cases hu
          · rw [run_equalIn_array w d' _ _ e1 e2]
            subst e3
            exact eqIt_ok hT ih hx1 hy1 _ b h
      · rename_i he
        rw [he] at hu
        obtain rfl := VR_sln hx
        obtain rfl := VR_sln hy
        simp only [Option.some.injEq] at h
        subst h
        simp [Op.equalIn, run_underlying hu]
      · rename_i he
        rw [he] at hu
        obtain rfl := VR_sln hx
        obtain ⟨_, rfl, _⟩ := VR_sl hy
        simp only [Option.some.injEq] at h
        subst h
        simp [Op.equalIn, run_underlying hu]
      · rename_i he
        rw [he] at hu
        obtain rfl := VR_sln hx
        obtain ⟨_, _, rfl, _⟩ := VR_slu hy
        simp only [Option.some.injEq] at h
        subst h
        simp [Op.equalIn, run_underlying hu]
      · rename_i he
        rw [he] at hu
        obtain ⟨_, rfl, _⟩ := VR_sl hx
        obtain rfl := VR_sln hy
        simp only [Option.some.injEq] at h
        subst h
        simp [Op.equalIn, run_underlying hu]
      · rename_i he
        rw [he] at hu
        obtain ⟨_, _, rfl, _⟩ := VR_slu hx
        obtain rfl := VR_sln hy
        simp only [Option.some.injEq] at h
        subst h
        simp [Op.equalIn, run_underlying hu]
      · rename_i he
        rw [he] at hu
        obtain ⟨_, _, rfl⟩ := VR_sz hx
        obtain rfl := VR_sln hy
        simp only [Option.some.injEq] at h
        subst h
        simp [Op.equalIn, run_underlying hu]
      · rename_i he
        rw [he] at hu
        obtain rfl := VR_sln hx
        obtain ⟨_, _, rfl⟩ := VR_sz hy
        simp only [Option.some.injEq] at h
        subst h
        simp [Op.equalIn, run_underlying hu]
      · rename_i he
        rw [he] at hu
        obtain rfl := VR_mn hx
        obtain rfl := VR_mn hy
        simp only [Option.some.injEq] at h
        subst h
        simp [Op.equalIn, run_underlying hu]
      · rename_i he
        rw [he] at hu
        obtain rfl := VR_mn hx
        obtain ⟨_, _, rfl, _⟩ := VR_mp hy
        simp only [Option.some.injEq] at h
        subst h
        simp [Op.equalIn, run_underlying hu]
      · rename_i he
        rw [he] at hu
        obtain ⟨_, _, rfl, _⟩ := VR_mp hx
        obtain rfl := VR_mn hy
        simp only [Option.some.injEq] at h
        subst h
        simp [Op.equalIn, run_underlying hu]
      · rename_i he
        rw [he] at hu
        obtain rfl := VR_nf hx
        obtain rfl := VR_nf hy
        simp only [Option.some.injEq] at h
        subst h
        simp [Op.equalIn, run_underlying hu]
      · rename_i he
        rw [he] at hu
        obtain rfl := VR_nf hx
        obtain ⟨_, _, rfl, _⟩ := VR_f hy
        simp only [Option.some.injEq] at h
        subst h
        simp [Op.equalIn, run_underlying hu]
      · rename_i he
        rw [he] at hu
        obtain ⟨_, _, rfl, _⟩ := VR_f hx
        obtain rfl := VR_nf hy
        simp only [Option.some.injEq] at h
        subst h
        simp [Op.equalIn, run_underlying hu]
      · cases h
end
end
end Go.Proofs.YtafhmagifoapfaaGreatDoor
namespace Go.Proofs.YtafhmagifoapfaaGreatDoor
open Go.RowKit
noncomputable section
def evG (G : Nat) (T : PT V) : Operand → Option V
  | .tmp t => T.get t
  | .const v => ofValA v
  | .global g => cond (Nat.blt (g + 1) G && Nat.blt g 48) (some (.p g 0)) none
  | .func f => some (.f f [] [])
theorem evG_ok {σ : Sig} {G : Nat} (hG : Globs σ G) {T : PT V} {a : Act} (hT : AR σ T a) {x : Operand} {v : V} (h : evG G T x = some v) : VR σ v (a.eval x) := by
  cases x with
  | tmp t => exact evX_ok hG hT (fun _ e => by cases e) h
  | const c => exact ofValA_ok h
  | global g =>
    simp only [evG] at h
    cases hc : (Nat.blt (g + 1) G && Nat.blt g 48) with
    | false => rw [hc] at h; cases h
    | true =>
      rw [hc] at h
      exact evX_ok (x := .global g) hG hT (fun g' e => by
        cases e
        rw [Bool.and_eq_true] at hc
        exact ⟨Nat.le_of_ble_eq_true hc.1, Nat.le_of_ble_eq_true hc.2⟩) h
  | func f => exact evX_ok (x := .func f) hG hT (fun _ e => by cases e) h
def evL (G : Nat) (T : PT V) : List Operand → Option (List V)
  | [] => some []
  | x :: l => match evG G T x with
    | some v => match evL G T l with
      | some r => some (v :: r)
      | none => none
    | none => none
theorem evL_ok {σ : Sig} {G : Nat} (hG : Globs σ G) {T : PT V} {a : Act} (hT : AR σ T a) : ∀ {l : List Operand} {r : List V}, evL G T l = some r → VRs σ r (l.map a.eval)
  | [], r, h => by simp only [evL, Option.some.injEq] at h; subst h; trivial
  | x :: l, r, h => by
    unfold evL at h
    cases hv : evG G T x with
    | none => rw [hv] at h; cases h
    | some v =>
      rw [hv] at h
      cases hl : evL G T l with
      | none => rw [hl] at h; cases h
      | some r' =>
        rw [hl] at h
        simp only [Option.some.injEq] at h
        subst h
        exact ⟨evG_ok hG hT hv, evL_ok hG hT hl⟩
theorem evL_arr {σ : Sig} {G : Nat} (hG : Globs σ G) {T : PT V} {a : Act} (hT : AR σ T a) {l : Array Operand} {r : List V} (h : evL G T l.toList = some r) : VRs σ r (l.map a.eval).toList := by
  rw [Array.toList_map]; exact evL_ok hG hT h
def evPs (G : Nat) (T : PT V) : List (Nat × Operand) → Option (List (Nat × V))
  | [] => some []
  | (i, x) :: l => match evG G T x with
    | some v => match evPs G T l with
      | some r => some ((i, v) :: r)
      | none => none
    | none => none
theorem evPs_ok {σ : Sig} {G : Nat} (hG : Globs σ G) {T : PT V} {a : Act} (hT : AR σ T a) : ∀ {l : List (Nat × Operand)} {r : List (Nat × V)}, evPs G T l = some r → PartsR σ r (l.map fun (p : Nat × Operand) => (p.1, a.eval p.2))
  | [], r, h => by simp only [evPs, Option.some.injEq] at h; subst h; trivial
  | (i, x) :: l, r, h => by
    unfold evPs at h
    cases hv : evG G T x with
    | none => rw [hv] at h; cases h
    | some v =>
      rw [hv] at h
      cases hl : evPs G T l with
      | none => rw [hl] at h; cases h
      | some r' =>
        rw [hl] at h
        simp only [Option.some.injEq] at h
        subst h
        exact ⟨rfl, evG_ok hG hT hv, evPs_ok hG hT hl⟩
theorem evPs_arr {σ : Sig} {G : Nat} (hG : Globs σ G) {T : PT V} {a : Act} (hT : AR σ T a) {l : Array (Nat × Operand)} {r : List (Nat × V)} (h : evPs G T l.toList = some r) : PartsR σ r (l.map fun (i, x) => (i, a.eval x)).toList := by
  rw [Array.toList_map]; exact evPs_ok hG hT h
/-- A bound. -/
def evB (G : Nat) (T : PT V) : Option Operand → Option (Option Nat)
  | none => some none
  | some x => match evG G T x with
    | some (.i _ (.ofNat n)) => some (some n)
    | _ => none
theorem evB_ok {σ : Sig} {G : Nat} (hG : Globs σ G) {T : PT V} {a : Act} (hT : AR σ T a) {x : Option Operand} {b : Option Nat} (h : evB G T x = some b) : BR b (x.map a.eval) := by
  cases x with
  | none => simp only [evB, Option.some.injEq] at h; subst h; trivial
  | some x =>
    simp only [evB] at h
    split at h
    · rename_i k n hv
      simp only [Option.some.injEq] at h
      subst h
      have := VR_i (evG_ok hG hT hv)
      simp only [Option.map_some, this, BR]
      rfl
    · cases h
/-- Two operands. -/
def isC : Operand → Bool
  | .const _ => true
  | _ => false
def guardE (EQ : PT (List (Nat × Nat))) (t : TypeId) (c : Bool) (x y : V) : Bool :=
  match x with
  | .ni => match y with
    | .ni => c
    | _ => true
  | .agg _ => match EQ.get t with
    | some _ => true
    | none => false
  | _ => true
def eqB (TT : PT TD) (EQ : PT (List (Nat × Nat))) (op : BinOp) (t : TypeId) (c : Bool) (x y : V) : Option V :=
  cond (guardE EQ t c x y) (match op with
    | .eql => match eqE TT EQ 30 t x y with
      | some b => some (.b b)
      | none => none
    | .neq => match eqE TT EQ 30 t x y with
      | some b => some (.b (!b))
      | none => none
    | _ => none) none
def intB (op : BinOp) (k k' : IntKind) (a b : Int) : Option V :=
  match op with
  | .shl => evShift op k a b
  | .shr => evShift op k a b
  | .andNot => cond (Nat.beq (kidx k) (kidx k')) (evAndNot k a b) none
  | _ => cond (Nat.beq (kidx k) (kidx k')) (evInt op k a b) none
def binE (TT : PT TD) (EQ : PT (List (Nat × Nat))) (op : BinOp) (t : TypeId) (c : Bool) (x y : V) : Option V :=
  match x with
  | .i k a => match y with
    | .i k' b => intB op k k' a b
    | _ => none
  | .s la xa => match y with
    | .s lb xb => evStr op la xa lb xb
    | _ => none
  | x => eqB TT EQ op t c x y
def notPrim : Value → Value → Bool
  | .int _ _, .int _ _ => false
  | .float _ _, .float _ _ => false
  | .complex _ _ _, .complex _ _ _ => false
  | .string _, .string _ => false
  | _, _ => true
section
variable {P : Program} {w : World}
theorem run_eql_any {t : TypeId} {u v : Value} (h : notPrim u v = true) : (binOp .eql t u v).run P w = ((Op.equal t u v).run P w).andThen fun b w' => .ok (.bool b) w' := by
  unfold binOp
  split <;> first
    | (simp [notPrim] at h; done)
    | (rename_i e; cases e; done)
    | (simp; done)
    | (simp_all; done)
theorem run_neq_any {t : TypeId} {u v : Value} (h : notPrim u v = true) : (binOp .neq t u v).run P w = ((Op.equal t u v).run P w).andThen fun b w' => .ok (.bool (!b)) w' := by
  unfold binOp
  split <;> first
    | (simp [notPrim] at h; done)
    | (rename_i e; cases e; done)
    | (simp; done)
    | (simp_all; done)
theorem run_guard {op : BinOp} {t : TypeId} {x y : Operand} {u v : Value} (h1 : u = .nilIface → v = .nilIface → isC x || isC y) (h2 : ∀ a b, u = .agg a → v = .agg b → P.eqGuardType P.depth t = false) : (eqGuard op t x y u v).run P w = .ok () w := by
  unfold eqGuard
  cases op
  all_goals
    first
      | rfl
      | (simp only [Bool.not_true, Bool.false_eq_true, if_false]
         split
         · have := h1 rfl rfl
           clear h1 h2
           cases x <;> cases y <;> first | rfl | (simp [isC] at this; done)
         · rename_i a b
           have := h2 a b rfl rfl
           simp [run_program, this]
         · rfl)
end
section
variable {P : Program} {w : World} {σ : Sig} {TT : PT TD} {EQ : PT (List (Nat × Nat))}
theorem guardE_ok (hE : EQok P EQ) {t : TypeId} {x y : V} {X Y : Operand} {u v : Value} {op : BinOp} (h : guardE EQ t (isC X || isC Y) x y = true) (hx : VR σ x u) (hy : VR σ y v) : (eqGuard op t X Y u v).run P w = .ok () w := by
  refine run_guard (fun e1 e2 => ?_) (fun a b e1 e2 => ?_)
  · subst e1 e2
    have h1 : x = .ni := by cases x <;> simp_all [VR]
    have h2 : y = .ni := by cases y <;> simp_all [VR]
    subst h1 h2
    exact h
  · subst e1 e2
    obtain ⟨l, rfl⟩ : ∃ l, x = .agg l := by cases x <;> simp_all [VR]
    simp only [guardE] at h
    cases hl : EQ.get t with
    | none => rw [hl] at h; cases h
    | some l' => exact (hE t l' hl).1
theorem eqB_ok (hT : TTok P TT) (hE : EQok P EQ) {op : BinOp} {t : TypeId} {c : Bool} {x y r : V} {u v : Value} (hp : notPrim u v = true) (h : eqB TT EQ op t c x y = some r) (hx : VR σ x u) (hy : VR σ y v) : guardE EQ t c x y = true ∧ ∃ z, VR σ r z ∧ (binOp op t u v).run P w = .ok z w := by
  unfold eqB at h
  cases hg : guardE EQ t c x y with
  | false => rw [hg] at h; cases h
  | true =>
    rw [hg] at h
    simp only [cond_true] at h
    refine ⟨rfl, ?_⟩
    split at h
    · cases he : eqE TT EQ 30 t x y with
      | none => rw [he] at h; cases h
      | some b =>
        rw [he] at h
        simp only [Option.some.injEq] at h
        subst h
        refine ⟨.bool b, rfl, ?_⟩
        rw [run_eql_any hp]
        unfold Op.equal Op.maxDepth
        rw [eqE_ok hT hE 30 10000 t x y b u v (by omega) he hx hy]
        rfl
    · cases he : eqE TT EQ 30 t x y with
      | none => rw [he] at h; cases h
      | some b =>
        rw [he] at h
        simp only [Option.some.injEq] at h
        subst h
        refine ⟨.bool (!b), rfl, ?_⟩
        rw [run_neq_any hp]
        unfold Op.equal Op.maxDepth
        rw [eqE_ok hT hE 30 10000 t x y b u v (by omega) he hx hy]
        rfl
    · cases h
theorem intB_ok {op : BinOp} {k k' : IntKind} {a b : Int} {r : V} {t : TypeId} (h : intB op k k' a b = some r) : ∃ z, VR σ r z ∧ (binOp op t (.int k a) (.int k' b)).run P w = .ok z w := by
  unfold intB at h
  split at h
  · exact evShift_ok h P w t
  · exact evShift_ok h P w t
  · cases hk : Nat.beq (kidx k) (kidx k') with
    | false => rw [hk] at h; cases h
    | true =>
      rw [hk] at h
      have := kidx_inj hk
      subst this
      exact evAndNot_ok h P w t
  · cases hk : Nat.beq (kidx k) (kidx k') with
    | false => rw [hk] at h; cases h
    | true =>
      rw [hk] at h
      have := kidx_inj hk
      subst this
      exact evInt_ok h P w t
theorem binE_ok (hT : TTok P TT) (hE : EQok P EQ) {op : BinOp} {t : TypeId} {X Y : Operand} {x y r : V} {u v : Value} (h : binE TT EQ op t (isC X || isC Y) x y = some r) (hx : VR σ x u) (hy : VR σ y v) : ∃ z, VR σ r z ∧ (do eqGuard op t X Y u v; binOp op t u v : Sem Value).run P w = .ok z w := by
  unfold binE at h
  split at h
  · rename_i k a
    split at h
    · rename_i k' b
      obtain rfl := VR_i hx
      obtain rfl := VR_i hy
      obtain ⟨z, h1, h2⟩ := intB_ok (σ := σ) (P := P) (w := w) (t := t) h
      refine ⟨z, h1, ?_⟩
      have hg := run_guard (P := P) (w := w) (op := op) (t := t) (x := X) (y := Y) (u := .int k a) (v := .int k' b) (fun e => by cases e) (fun _ _ e => by cases e)
      simp only [Sem.run_bind, hg, Result.andThen_ok, h2]
    · cases h
  · split at h
    · obtain ⟨rfl, h1⟩ := VR_s hx
      obtain ⟨rfl, h2⟩ := VR_s hy
      obtain ⟨z, h3, h4⟩ := evStr_ok (σ := σ) h1 h2 h P w t
      refine ⟨z, h3, ?_⟩
      rename_i la xa _ lb xb
      have hg := run_guard (P := P) (w := w) (op := op) (t := t) (x := X) (y := Y) (u := .string (bstr la xa)) (v := .string (bstr lb xb)) (fun e => by cases e) (fun _ _ e => by cases e)
      simp only [Sem.run_bind, hg, Result.andThen_ok, h4]
    · cases h
  · rename_i n1 n2
    have hp : notPrim u v = true := by
      cases x <;> cases u <;> first
        | (simp only [VR] at hx; done)
        | (cases v <;> rfl)
        | (exact absurd rfl (n1 _ _))
        | (exact absurd rfl (n2 _ _))
    obtain ⟨hg, z, h3, h4⟩ := eqB_ok (w := w) hT hE hp h hx hy
    refine ⟨z, h3, ?_⟩
    simp only [Sem.run_bind, guardE_ok hE hg hx hy, Result.andThen_ok, h4]
end
end
end Go.Proofs.YtafhmagifoapfaaGreatDoor
namespace Go.Proofs.YtafhmagifoapfaaGreatDoor
open Go.RowKit
noncomputable section
def wantD : TypeDesc → Option (Array (String × TypeId))
  | .interface ms => some ms
  | _ => none
def failE (TT : PT TD) (t : TypeId) (ok : Bool) : Option V :=
  cond ok (match zeroE TT t with
    | some z => some (.tup [z, .b false])
    | none => none) none
def holdE (x : V) (ok : Bool) : V := cond ok (.tup [x, .b true]) x
def isNoneE {α : Type} : Option α → Bool
  | none => true
  | some _ => false
/-- A type assertion. -/
def taE (TT : PT TD) (x : V) (t : TypeId) (ok : Bool) : Option V :=
  match TT.get t with
  | none => none
  | some d => match wantD d.d with
    | some want => match x with
      | .ni => failE TT t ok
      | .ifc u _ => match TT.get u with
        | some i => cond (isNoneE (Instr.missingMethod want i.i.methods)) (some (holdE x ok)) (failE TT t ok)
        | none => none
      | _ => none
    | none => match x with
      | .ni => failE TT t ok
      | .ifc u v => cond (Nat.beq u t) (some (holdE v ok)) (failE TT t ok)
      | _ => none
theorem wantD_none {d : TypeDesc} (h : wantD d = none) : ∀ ms, d ≠ .interface ms := fun ms e => by subst e; cases h
theorem wantD_some {d : TypeDesc} {ms : Array (String × TypeId)} (h : wantD d = some ms) : d = .interface ms := by
  cases d <;> simp [wantD] at h
  rw [h]
section
variable {P : Program} {w : World} {σ : Sig} {TT : PT TD}
theorem holdE_ok {x : V} {u : Value} {ok : Bool} (hx : VR σ x u) : ∃ y, VR σ (holdE x ok) y ∧ (pure (if ok then .tuple #[u, .bool true] else u) : Sem Value).run P w = .ok y w := by
  cases ok
  · exact ⟨u, hx, rfl⟩
  · exact ⟨.tuple #[u, .bool true], ⟨hx, rfl, trivial⟩, rfl⟩
theorem failE_ok (hT : TTok P TT) {t : TypeId} {ok : Bool} {v : V} (h : failE TT t ok = some v) : ∃ z, ok = true ∧ VR σ v (.tuple #[z, .bool false]) ∧ (zeroValue t).run P w = .ok z w := by
  unfold failE at h
  cases ok with
  | false => cases h
  | true =>
    simp only [cond_true] at h
    cases hz : zeroE TT t with
    | none => rw [hz] at h; cases h
    | some z =>
      rw [hz] at h
      simp only [Option.some.injEq] at h
      subst h
      obtain ⟨u, h1, h2⟩ := zeroE_ok (σ := σ) hT hz
      exact ⟨u, rfl, ⟨h1, rfl, trivial⟩, h2 w⟩
theorem run_tinfo {t : TypeId} {i : TypeInfo} (h : P.info? t = some i) : (typeInfo t).run P w = .ok i w := by
  simp [typeInfo, program, Sem.run, h]
theorem taE_ok (hT : TTok P TT) {x v : V} {u : Value} {xt t : TypeId} {ok : Bool} (h : taE TT x t ok = some v) (hx : VR σ x u) : ∃ y, VR σ v y ∧ (Instr.typeAssert u xt t ok).run P w = .ok y w := by
  unfold taE at h
  cases hd : TT.get t with
  | none => rw [hd] at h; cases h
  | some d =>
    rw [hd] at h
    obtain ⟨hu, _⟩ := hT t d hd
    simp only at h
    cases hw : wantD d.d with
    | some want =>
      rw [hw] at h
      have hu' : P.underlying t = some (.interface want) := by rw [hu, wantD_some hw]
      cases x with
      | ni =>
        obtain rfl := VR_ni hx
        obtain ⟨z, rfl, h1, h2⟩ := failE_ok (σ := σ) (w := w) hT h
        exact ⟨_, h1, by simp [Instr.typeAssert, run_underlying hu', h2]⟩
      | ifc s y =>
        obtain ⟨yv, rfl, hy⟩ := VR_ifc hx
        simp only at h
        cases hi : TT.get s with
        | none => rw [hi] at h; cases h
        | some i =>
          rw [hi] at h
          simp only at h
          have hti := run_tinfo (w := w) (hT s i hi).2
          cases hm : Instr.missingMethod want i.i.methods with
          | none =>
            rw [hm] at h
            simp only [isNoneE, cond_true, Option.some.injEq] at h
            subst h
            obtain ⟨y, h1, h2⟩ := holdE_ok (P := P) (w := w) (ok := ok) hx
            refine ⟨y, h1, ?_⟩
            simp only [Instr.typeAssert, Sem.run_bind, run_underlying hu', Result.andThen_ok, hti, hm]
            exact h2
          | some m =>
            rw [hm] at h
            simp only [isNoneE, cond_false] at h
            obtain ⟨z, rfl, h1, h2⟩ := failE_ok (σ := σ) (w := w) hT h
            refine ⟨_, h1, ?_⟩
            simp only [Instr.typeAssert, Sem.run_bind, run_underlying hu', Result.andThen_ok, hti, hm]
            simp [h2]
      | _ => cases h
    | none =>
      rw [hw] at h
      have hne := wantD_none hw
      generalize d.d = dd at hu hne
      cases x with
      | ni =>
        obtain rfl := VR_ni hx
        obtain ⟨z, rfl, h1, h2⟩ := failE_ok (σ := σ) (w := w) hT h
        refine ⟨_, h1, ?_⟩
        cases dd <;> first | exact absurd rfl (hne _) | (simp [Instr.typeAssert, run_underlying hu, h2]; done)
      | ifc s y =>
        obtain ⟨yv, rfl, hy⟩ := VR_ifc hx
        simp only at h
        cases hb : Nat.beq s t with
        | true =>
          have := Nat.eq_of_beq_eq_true hb
          subst this
          rw [hb] at h
          simp only [cond_true, Option.some.injEq] at h
          subst h
          obtain ⟨z, h1, h2⟩ := holdE_ok (P := P) (w := w) (ok := ok) hy
          refine ⟨z, h1, ?_⟩
          cases dd <;> first | exact absurd rfl (hne _) | (simp only [Instr.typeAssert, Sem.run_bind, run_underlying hu, Result.andThen_ok, if_true]; exact h2)
        | false =>
          have hst : s ≠ t := fun e => by rw [beqT e] at hb; cases hb
          rw [hb] at h
          simp only [cond_false] at h
          obtain ⟨z, rfl, h1, h2⟩ := failE_ok (σ := σ) (w := w) hT h
          refine ⟨_, h1, ?_⟩
          cases dd <;> first | exact absurd rfl (hne _) | (simp [Instr.typeAssert, run_underlying hu, hst, h2]; done)
      | _ => cases h
end
def unE (op : UnOp) (x : V) : Option V :=
  match op with
  | .xor => match x with
    | .i k n => evXorAll k n
    | _ => none
  | op => unOpE op x
theorem unE_ok {σ : Sig} {P : Program} {w : World} {op : UnOp} {x v : V} {u : Value} (h : unE op x = some v) (hx : VR σ x u) : ∃ y, VR σ v y ∧ (Op.unary op u).run P w = .ok y w := by
  unfold unE at h
  split at h
  · split at h
    · obtain rfl := VR_i hx
      exact evXorAll_ok h P w
    · cases h
  · exact unOpE_ok h hx
/-- Conversions that make nothing. -/
def convE (TT : PT TD) (H : PT O) (src dst : TypeId) (x : V) : Option V :=
  match x with
  | .i _ n => match convIntE TT src dst n with
    | some v => some v
    | none => ofIntE TT src dst n
  | .s _ _ => match TT.get src, TT.get dst with
    | some _, some d => cond (strD d.d) (some x) none
    | _, _ => none
  | x => ofBytesE TT H src dst x
section
variable {P : Program} {w0 w : World} {G nx : Nat} {σ : Sig} {H : PT O} {TT : PT TD}
theorem convE_ok (hT : TTok P TT) (h : HR w0 G σ H nx w) {src dst : TypeId} {x v : V} {u : Value} (ha : convE TT H src dst x = some v) (hx : VR σ x u) : ∃ r, VR σ v r ∧ (convert src dst u).run P w = .ok r w := by
  unfold convE at ha
  split at ha
  · rename_i k n
    obtain rfl := VR_i hx
    split at ha
    · rename_i v' hv
      simp only [Option.some.injEq] at ha
      subst ha
      exact convIntE_ok hT hv
    · exact ofIntE_ok hT ha
  · rename_i l y
    obtain ⟨rfl, h1⟩ := VR_s hx
    split at ha
    · rename_i s d hs hd
      cases hc : strD d.d with
      | false => rw [hc] at ha; cases ha
      | true =>
        rw [hc] at ha
        simp only [cond_true, Option.some.injEq] at ha
        subst ha
        refine ⟨_, hx, ?_⟩
        have hu := (hT src s hs).1
        have hu2 : P.underlying dst = some .string := by rw [(hT dst d hd).1, strD_eq hc]
        simp [convert, run_underlying hu, run_underlying hu2]
    · cases ha
  · exact ofBytesE_ok hT h ha hx
end
/-- unsafe.SliceData. -/
def sliceDataE (x : V) : Option V :=
  match x with
  | .sln => some .pn
  | .sl n o _ c => cond (Nat.beq c 0) none (some (.p n o))
  | .slu n o l _ => cond (Nat.beq l 0) none (some (.p n o))
  | _ => none
theorem sliceDataE_ok {σ : Sig} {P : Program} {w : World} {x v : V} {u : Value} {ts : Array TypeId} {ty : TypeId} (h : sliceDataE x = some v) (hx : VR σ x u) : ∃ y, VR σ v y ∧ (Builtin.unsafeSliceData_ ts ty #[u]).run P w = .ok y w := by
  unfold sliceDataE at h
  split at h
  · obtain rfl := VR_sln hx
    simp only [Option.some.injEq] at h
    subst h
    exact ⟨.pointer none, trivial, rfl⟩
  · rename_i n o l c
    obtain ⟨a, rfl, h1, h2⟩ := VR_sl hx
    cases hc : Nat.beq c 0 with
    | true => rw [hc] at h; cases h
    | false =>
      rw [hc] at h
      simp only [cond_false, Option.some.injEq] at h
      subst h
      have hne : c ≠ 0 := fun e => by rw [beqT e] at hc; cases hc
      refine ⟨.pointer (some a), by simp only [VR]; exact h1, ?_⟩
      show Sem.run P (if c ≠ 0 then _ else _) w = _
      rw [if_pos hne]; rfl
  · rename_i n o l es
    obtain ⟨a, c, rfl, h1, h2, _⟩ := VR_slu hx
    cases hc : Nat.beq l 0 with
    | true => rw [hc] at h; cases h
    | false =>
      rw [hc] at h
      simp only [cond_false, Option.some.injEq] at h
      subst h
      have hne : c ≠ 0 := fun e => by
        have : l = 0 := by omega
        rw [beqT this] at hc; cases hc
      refine ⟨.pointer (some a), by simp only [VR]; exact h1, ?_⟩
      show Sem.run P (if c ≠ 0 then _ else _) w = _
      rw [if_pos hne]; rfl
  · cases h
/-- Builtins that leave memory alone. -/
def biQ (TT : PT TD) (G : Nat) (T : PT V) (H : PT O) (b : Builtin) (c : Call) : Option V :=
  match b with
  | .len => match c.argTypes.toList, evL G T c.args.toList with
    | [t], some [x] => lenE TT H t x
    | _, _ => none
  | .cap => match c.argTypes.toList, evL G T c.args.toList with
    | [t], some [x] => capE TT t x
    | _, _ => none
  | .min => match evL G T c.args.toList with
    | some (x :: l) => minE x l
    | _ => none
  | .max => match evL G T c.args.toList with
    | some (x :: l) => maxE x l
    | _ => none
  | .unsafeSliceData => match evL G T c.args.toList with
    | some [x] => sliceDataE x
    | _ => none
  | _ => none
theorem VRs_nil {σ : Sig} {l : List Value} (h : VRs σ [] l) : l = [] := by
  cases l with
  | nil => rfl
  | cons _ _ => simp [VRs] at h
theorem VRs_cons {σ : Sig} {v : V} {l : List V} {r : List Value} (h : VRs σ (v :: l) r) : ∃ u us, r = u :: us ∧ VR σ v u ∧ VRs σ l us := by
  cases r with
  | nil => simp [VRs] at h
  | cons u us => exact ⟨u, us, rfl, h.1, h.2⟩
theorem arr_of_toList {α : Type} {a : Array α} {l : List α} (h : a.toList = l) : a = l.toArray := by subst h; simp
section
variable {P : Program} {w0 w : World} {G nx : Nat} {σ : Sig} {T : PT V} {H : PT O} {TT : PT TD} {a : Act}
theorem biQ_ok (hT : TTok P TT) (hG : Globs σ G) (h : HR w0 G σ H nx w) (hA : AR σ T a) {b : Builtin} {c : Call} {v : V} {ty : TypeId} {cs : Array Bool} (hb : biQ TT G T H b c = some v) : ∃ u, VR σ v u ∧ (builtin b c.argTypes ty cs (c.args.map a.eval)).run P w = .ok (.value u) w := by
  have key : ∀ l, evL G T c.args.toList = some l → ∃ us, c.args.map a.eval = List.toArray us ∧ VRs σ l us := fun l hl => ⟨_, arr_of_toList rfl, evL_arr hG hA hl⟩
  unfold biQ at hb
  split at hb
  · split at hb
    · rename_i t x ht hx
      obtain ⟨us, e1, e2⟩ := key _ hx
      obtain ⟨u, us', rfl, k1, k2⟩ := VRs_cons e2
      obtain rfl := VRs_nil k2
      obtain ⟨y, y1, y2⟩ := lenE_ok (ty := ty) hT h hb k1
      refine ⟨y, y1, ?_⟩
      rw [e1, arr_of_toList ht]
      simp only [builtin, Sem.run_bind, y2, Result.andThen_ok]
      rfl
    · cases hb
  · split at hb
    · rename_i t x ht hx
      obtain ⟨us, e1, e2⟩ := key _ hx
      obtain ⟨u, us', rfl, k1, k2⟩ := VRs_cons e2
      obtain rfl := VRs_nil k2
      obtain ⟨y, y1, y2⟩ := capE_ok (P := P) (w := w) (ty := ty) hT hb k1
      refine ⟨y, y1, ?_⟩
      rw [e1, arr_of_toList ht]
      simp only [builtin, Sem.run_bind, y2, Result.andThen_ok]
      rfl
    · cases hb
  · split at hb
    · rename_i x l hx
      obtain ⟨us, e1, e2⟩ := key _ hx
      obtain ⟨u, us', rfl, k1, k2⟩ := VRs_cons e2
      obtain ⟨y, y1, y2⟩ := minE_ok (P := P) (w := w) l x v u us' hb k1 k2
      refine ⟨y, y1, ?_⟩
      rw [e1]
      simp only [builtin, Builtin.min_, Sem.run_bind, y2, Result.andThen_ok]
      rfl
    · cases hb
  · split at hb
    · rename_i x l hx
      obtain ⟨us, e1, e2⟩ := key _ hx
      obtain ⟨u, us', rfl, k1, k2⟩ := VRs_cons e2
      obtain ⟨y, y1, y2⟩ := maxE_ok (P := P) (w := w) l x v u us' hb k1 k2
      refine ⟨y, y1, ?_⟩
      rw [e1]
      simp only [builtin, Builtin.max_, Sem.run_bind, y2, Result.andThen_ok]
      rfl
    · cases hb
  · split at hb
    · rename_i x hx
      obtain ⟨us, e1, e2⟩ := key _ hx
      obtain ⟨u, us', rfl, k1, k2⟩ := VRs_cons e2
      obtain rfl := VRs_nil k2
      obtain ⟨y, y1, y2⟩ := sliceDataE_ok (P := P) (w := w) (ts := c.argTypes) (ty := ty) hb k1
      refine ⟨y, y1, ?_⟩
      rw [e1]
      simp only [builtin, Sem.run_bind, y2, Result.andThen_ok]
      rfl
    · cases hb
  · cases hb
end
end
end Go.Proofs.YtafhmagifoapfaaGreatDoor
namespace Go.Proofs.YtafhmagifoapfaaGreatDoor
open Go.RowKit
noncomputable section
/-- What the reckoner knows of a program's types and variables. -/
structure Env where
  TT : PT TD
  EQ : PT (List (Nat × Nat))
  G : Nat
structure EnvOk (P : Program) (E : Env) : Prop where
  tt : TTok P E.TT
  eq : EQok P E.EQ
/-- An operation that leaves memory alone: its value. -/
def evq (E : Env) (o : Oper) (T : PT V) (H : PT O) : Option V :=
  match o.op with
  | .move x => evG E.G T x
  | .assign x => evG E.G T x
  | .pick c a b => match evG E.G T c with
    | some (.b true) => evG E.G T a
    | some (.b false) => evG E.G T b
    | _ => none
  | .build t parts => match evPs E.G T parts.toList with
    | some ps => buildE E.TT t ps
    | none => none
  | .load t x => match evG E.G T x with
    | some (.p n o) => loadE E.TT H t n o
    | _ => none
  | .nilCheck x => match evG E.G T x with
    | some v => nilCheckE v
    | none => none
  | .binOp op t x y _ => match evG E.G T x, evG E.G T y with
    | some a, some b => binE E.TT E.EQ op t (isC x || isC y) a b
    | _, _ => none
  | .unOp op _ x => match evG E.G T x with
    | some v => unE op v
    | none => none
  | .convert s d x => match evG E.G T x with
    | some v => convE E.TT H s d v
    | none => none
  | .makeInterface t x => match evG E.G T x with
    | some v => makeIfaceE E.TT t v
    | none => none
  | .makeFunc fn first caps => match fn with
    | .func f => match evL E.G T first.toList, evL E.G T caps.toList with
      | some a, some b => some (.f f a b)
      | _, _ => none
    | _ => none
  | .slice t x lo hi mx => match evG E.G T x, evB E.G T lo, evB E.G T hi, evB E.G T mx with
    | some v, some l, some h, some m => sliceE E.TT t v l h m
    | _, _, _, _ => none
  | .fieldAddr s x f => match evG E.G T x with
    | some v => fieldAddrE E.TT s v f
    | none => none
  | .field t x f => match evG E.G T x with
    | some v => fieldE E.TT t v f
    | none => none
  | .indexAddr t x ix => match evG E.G T x, evG E.G T ix with
    | some v, some i => indexAddrE E.TT t v i
    | _, _ => none
  | .index t x ix => match evG E.G T x, evG E.G T ix with
    | some v, some i => indexE E.TT t v i
    | _, _ => none
  | .lookup t x k ok => match evG E.G T x, evG E.G T k with
    | some v, some i => lookupE E.TT H t v i ok
    | _, _ => none
  | .typeAssert x _ t ok => match evG E.G T x with
    | some v => taE E.TT v t ok
    | none => none
  | .extract x ix => match evG E.G T x with
    | some v => extractE v ix
    | none => none
  | .call c => match c.callee with
    | .builtin b => biQ E.TT E.G T H b c
    | _ => none
  | _ => none
section
variable {P : Program} {w0 w : World} {nx : Nat} {σ : Sig} {T : PT V} {H : PT O} {E : Env} {a : Act}
theorem run_v {s : Sem Value} {u : Value} {w w' : World} (h : s.run P w = .ok u w') : (do pure (Next.value (← s)) : Sem Next).run P w = .ok (.value u) w' := by
  simp only [Sem.run_bind, h, Result.andThen_ok]; rfl
theorem run_u {s : Sem Unit} {w w' : World} (h : s.run P w = .ok () w') : (do s; pure Next.skip : Sem Next).run P w = .ok .skip w' := by
  simp only [Sem.run_bind, h, Result.andThen_ok]; rfl
theorem nilCheckE_ok {x v : V} {u : Value} (h : nilCheckE x = some v) (hx : VR σ x u) : x = v ∧ ((∃ p, u = .pointer (some p)) ∨ (∃ t y, u = .iface t y) ∨ ∃ f a b, u = .func (.func f) a b) := by
  unfold nilCheckE at h
  split at h
  · obtain ⟨p, rfl, _⟩ := VR_p hx
    simp only [Option.some.injEq] at h
    exact ⟨h, .inl ⟨p, rfl⟩⟩
  · obtain ⟨y, rfl, _⟩ := VR_ifc hx
    simp only [Option.some.injEq] at h
    exact ⟨h, .inr (.inl ⟨_, y, rfl⟩)⟩
  · obtain ⟨p, q, rfl, _⟩ := VR_f hx
    simp only [Option.some.injEq] at h
    exact ⟨h, .inr (.inr ⟨_, p, q, rfl⟩)⟩
  · cases h
set_option maxHeartbeats 1000000 in
theorem evq_ok (hE : EnvOk P E) (hG : Globs σ E.G) (h : HR w0 E.G σ H nx w) (hA : AR σ T a) {o : Oper} {v : V} (hv : evq E o T H = some v) : ∃ u, VR σ v u ∧ (execOp a.eval o).run P w = .ok (.value u) w := by
  have hT := hE.tt
  obtain ⟨dst, op, type, pos, after, guard⟩ := o
  unfold evq at hv
  unfold execOp
  cases op <;> simp only at hv ⊢
  case move x => exact ⟨_, evG_ok hG hA hv, rfl⟩
  case assign x => exact ⟨_, evG_ok hG hA hv, rfl⟩
  case pick c x y =>
    split at hv
    · rename_i hc
      have := VR_b (evG_ok hG hA hc)
      exact ⟨_, evG_ok hG hA hv, by simp [this, asBool]⟩
    · rename_i hc
      have := VR_b (evG_ok hG hA hc)
      exact ⟨_, evG_ok hG hA hv, by simp [this, asBool]⟩
    · cases hv
  case build t parts =>
    split at hv
    · rename_i ps hp
      obtain ⟨u, h1, h2⟩ := buildE_ok (P := P) hT hv (evPs_arr hG hA hp)
      exact ⟨u, h1, run_v (h2 w)⟩
    · cases hv
  case load t x =>
    split at hv
    · rename_i n o hx
      obtain ⟨p, e, hp⟩ := VR_p (evG_ok hG hA hx)
      obtain ⟨u, h1, h2⟩ := loadE_ok hT h hv hp
      exact ⟨u, h1, by rw [e]; exact run_v (by simpa [Instr.loadAt, Instr.sureAddr, asAddr] using h2)⟩
    · cases hv
  case nilCheck x =>
    split at hv
    · rename_i y hx
      have hu := evG_ok hG hA hx
      obtain ⟨rfl, h2⟩ := nilCheckE_ok hv hu
      refine ⟨_, hu, ?_⟩
      rcases h2 with ⟨p, e⟩ | ⟨t, y, e⟩ | ⟨f, p, q, e⟩ <;> rw [e] <;> rfl
    · cases hv
  case binOp op t x y yt =>
    split at hv
    · rename_i p q hx hy
      obtain ⟨u, h1, h2⟩ := binE_ok (P := P) (w := w) hT hE.eq hv (evG_ok hG hA hx) (evG_ok hG hA hy)
      exact ⟨u, h1, run_v h2⟩
    · cases hv
  case unOp op t x =>
    split at hv
    · rename_i p hx
      obtain ⟨u, h1, h2⟩ := unE_ok (P := P) (w := w) hv (evG_ok hG hA hx)
      exact ⟨u, h1, run_v h2⟩
    · cases hv
  case convert s d x =>
    split at hv
    · rename_i p hx
      obtain ⟨u, h1, h2⟩ := convE_ok hT h hv (evG_ok hG hA hx)
      exact ⟨u, h1, run_v h2⟩
    · cases hv
  case makeInterface t x =>
    split at hv
    · rename_i p hx
      obtain ⟨u, h1, h2⟩ := makeIfaceE_ok (P := P) (w := w) hT hv (evG_ok hG hA hx)
      exact ⟨u, h1, run_v h2⟩
    · cases hv
  case makeFunc fn first caps =>
    split at hv
    · split at hv
      · rename_i p q hx hy
        simp only [Option.some.injEq] at hv
        subst hv
        exact ⟨.func (.func _) (first.map a.eval) (caps.map a.eval), ⟨rfl, evL_arr hG hA hx, evL_arr hG hA hy⟩, rfl⟩
      · cases hv
    · cases hv
  case slice t x lo hi mx =>
    split at hv
    · rename_i p l m n hx hl hm hn
      obtain ⟨u, h1, h2⟩ := sliceE_ok (P := P) (w := w) hT hv (evG_ok hG hA hx) (evB_ok hG hA hl) (evB_ok hG hA hm) (evB_ok hG hA hn)
      exact ⟨u, h1, run_v h2⟩
    · cases hv
  case fieldAddr t x f =>
    split at hv
    · rename_i p hx
      obtain ⟨u, h1, h2⟩ := fieldAddrE_ok (P := P) (w := w) hT hv (evG_ok hG hA hx)
      exact ⟨u, h1, run_v h2⟩
    · cases hv
  case field t x f =>
    split at hv
    · rename_i p hx
      obtain ⟨u, h1, h2⟩ := fieldE_ok (P := P) (w := w) hT hv (evG_ok hG hA hx)
      exact ⟨u, h1, run_v h2⟩
    · cases hv
  case indexAddr t x y =>
    split at hv
    · rename_i p q hx hy
      obtain ⟨u, h1, h2⟩ := indexAddrE_ok (P := P) (w := w) hT hv (evG_ok hG hA hx) (evG_ok hG hA hy)
      exact ⟨u, h1, run_v h2⟩
    · cases hv
  case index t x y =>
    split at hv
    · rename_i p q hx hy
      obtain ⟨u, h1, h2⟩ := indexE_ok (P := P) (w := w) hT hv (evG_ok hG hA hx) (evG_ok hG hA hy)
      exact ⟨u, h1, run_v h2⟩
    · cases hv
  case lookup t x y ok =>
    split at hv
    · rename_i p q hx hy
      obtain ⟨u, h1, h2⟩ := lookupE_ok hT h hv (evG_ok hG hA hx) (evG_ok hG hA hy)
      exact ⟨u, h1, run_v h2⟩
    · cases hv
  case typeAssert x xt t ok =>
    split at hv
    · rename_i p hx
      obtain ⟨u, h1, h2⟩ := taE_ok (P := P) (w := w) (xt := xt) hT hv (evG_ok hG hA hx)
      exact ⟨u, h1, run_v h2⟩
    · cases hv
  case extract x ix =>
    split at hv
    · rename_i p hx
      obtain ⟨u, h1, h2⟩ := extractE_ok (P := P) (w := w) hv (evG_ok hG hA hx)
      exact ⟨u, h1, run_v h2⟩
    · cases hv
  case call c =>
    split at hv
    · rename_i b hb
      obtain ⟨u, h1, h2⟩ := biQ_ok (ty := type) (cs := c.args.map fun | .const _ => true | _ => false) hT hG h hA hv
      refine ⟨u, h1, ?_⟩
      simp only [resolve, hb, Sem.run_bind, Sem.run_pure, Result.andThen_ok, invoke]
      exact h2
    · cases hv
  all_goals cases hv
end
end
end Go.Proofs.YtafhmagifoapfaaGreatDoor
