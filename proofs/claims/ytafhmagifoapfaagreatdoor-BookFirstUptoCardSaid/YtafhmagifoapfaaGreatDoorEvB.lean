/- A reckoner for closed runs, part 16: slices of slices, of texts, of arrays. -/
import Derived.Test.YtafhmagifoapfaaGreatDoorEvA
import Derived.Laws.IdiomStrings
import Derived.Laws.BytesString
namespace Go.Proofs.YtafhmagifoapfaaGreatDoor
open Go.RowKit
noncomputable section
def vsl (n o l c : Nat) : V := nforce o fun o => nforce l fun l => nforce c fun c => .sl n o l c
theorem vsl_eq (n o l c : Nat) : vsl n o l c = .sl n o l c := by unfold vsl; rw [nforce_eq, nforce_eq, nforce_eq]
def vslu (n o l es : Nat) : V := nforce o fun o => nforce l fun l => nforce es fun es => .slu n o l es
theorem vslu_eq (n o l es : Nat) : vslu n o l es = .slu n o l es := by unfold vslu; rw [nforce_eq, nforce_eq, nforce_eq]
def cutRow (n o s : Nat) : Nat × Nat × Nat → V
  | (l, h, m) => vsl n (cond (Nat.beq m l) o (o + l * s)) (h - l) (m - l)
def sliceE (TT : PT TD) (t : TypeId) (x : V) (lo hi mx : Option Nat) : Option V :=
  match TT.get t with
  | some d => match x with
    | .s len x => cond (strD d.d) (match mx with
      | none => match bnds len len lo hi none with
        | some (l, h, _) => some (vstr (h - l) (x / 256 ^ l % 256 ^ (h - l)))
        | none => none
      | some _ => none) none
    | .sl n o len cap => match sliceD d.d with
      | some e => match sizeE TT e with
        | some s => match bnds len cap lo hi mx with
          | some r => some (cutRow n o s r)
          | none => none
        | none => none
      | none => none
    | .slu n o len es => match sliceD d.d with
      | some e => match sizeE TT e with
        | some s => match mx with
          | none => match bnds len len lo hi none with
            | some (l, h, _) => cond (Nat.beq es s && (Nat.beq l 0 || Nat.blt l len)) (some (vslu n (o + l * s) (h - l) es)) (cond (Nat.beq l h) (some .sz) none)
            | none => none
          | some m => match bnds len len lo hi (some m) with
            | some r => some (cutRow n o s r)
            | none => none
        | none => none
      | none => none
    | .sln => match sliceD d.d with
      | some e => match sizeE TT e with
        | some _ => match bnds 0 0 lo hi mx with
          | some _ => some .sln
          | none => none
        | none => none
      | none => none
    | .p n o => match arrayD d.d with
      | some (len, e) => match sizeE TT e with
        | some s => match bnds len len lo hi mx with
          | some r => some (cutRow n o s r)
          | none => none
        | none => none
      | none => none
    | _ => none
  | none => none
theorem cutRow_ok {σ : Sig} {n o s l h m : Nat} {a : Addr} (ha : addrOf σ n o = some a) (h1 : l ≤ h) (h2 : h ≤ m) : VR σ (cutRow n o s (l, h, m)) (.slice (some (if m = l then a else a.add (l * s))) (h - l) (m - l)) := by
  unfold cutRow
  simp only [vsl_eq, VR]
  refine ⟨?_, trivial, trivial, by omega⟩
  by_cases e : m = l
  · rw [if_pos e, beqT e]; exact ha
  · rw [if_neg e, beqF e]; exact addrOf_add ha
theorem bnds_more {len c l h m' : Nat} {lo hi : Option Nat} (hb : bnds len len lo hi none = some (l, h, m')) (hc : len ≤ c) : bnds len c lo hi none = some (l, h, c) := by
  cases hi with
  | none =>
    simp only [bnds] at hb ⊢
    cases hc : Nat.ble (lo.getD 0) len with
    | false => rw [hc] at hb; cases hb
    | true =>
      rw [hc] at hb
      simp only [cond_true, Option.some.injEq, Prod.mk.injEq] at hb ⊢
      exact ⟨hb.1, hb.2.1, trivial⟩
  | some hh =>
    simp only [bnds] at hb ⊢
    cases hcc : (Nat.ble hh len && Nat.ble (lo.getD 0) hh) with
    | false => rw [hcc] at hb; cases hb
    | true =>
      rw [hcc] at hb
      simp only [cond_true, Option.some.injEq, Prod.mk.injEq] at hb
      simp only [Bool.and_eq_true] at hcc
      have c1 : Nat.ble hh c = true := Nat.ble_eq_true_of_le (Nat.le_trans (Nat.le_of_ble_eq_true hcc.1) hc)
      rw [c1, hcc.2]
      simp only [Bool.and_self, cond_true, Option.some.injEq, Prod.mk.injEq]
      exact ⟨hb.1, hb.2.1, trivial⟩
theorem bnds_mx {len c l h m m' : Nat} {lo hi : Option Nat} (hb : bnds len len lo hi (some m) = some (l, h, m')) (hc : len ≤ c) : bnds len c lo hi (some m) = some (l, h, m') := by
  cases hi with
  | none => simp [bnds] at hb
  | some hh =>
    simp only [bnds] at hb ⊢
    cases hcc : (Nat.ble m len && Nat.ble hh m && Nat.ble (lo.getD 0) hh) with
    | false => rw [hcc] at hb; cases hb
    | true =>
      rw [hcc] at hb
      simp only [Bool.and_eq_true] at hcc
      have c1 : Nat.ble m c = true := Nat.ble_eq_true_of_le (Nat.le_trans (Nat.le_of_ble_eq_true hcc.1.1) hc)
      rw [c1, hcc.1.2, hcc.2]
      exact hb
theorem bstr_extract {len x l h : Nat} (h1 : l ≤ h) (h2 : h ≤ len) : (bstr len x).extract l h = bstr (h - l) (x / 256 ^ l % 256 ^ (h - l)) := by
  have e : ((bstr len x).extract l h).data.toList = (bstr (h - l) (x / 256 ^ l % 256 ^ (h - l))).data.toList := by
    rw [bstr_list, ByteArray.data_extract, Array.toList_extract, List.extract_eq_take_drop, bstr_list, bytesOf_drop l len x (by omega), bytesOf_take _ _ _ (by omega)]
  cases hx : (bstr len x).extract l h
  cases hy : bstr (h - l) (x / 256 ^ l % 256 ^ (h - l))
  rw [hx, hy] at e
  simp only at e
  congr 1
  exact Array.ext' e
section
variable {P : Program} {w : World} {σ : Sig} {TT : PT TD}
theorem sliceE_ok (hT : TTok P TT) {t : TypeId} {x v : V} {u : Value} {lo hi mx : Option Nat} {low high max : Option Value} (h : sliceE TT t x lo hi mx = some v) (hx : VR σ x u) (h1 : BR lo low) (h2 : BR hi high) (h3 : BR mx max) : ∃ y, VR σ v y ∧ (Instr.sliceAt t u low high max).run P w = .ok y w := by
  unfold sliceE at h
  cases hd : TT.get t with
  | none => rw [hd] at h; cases h
  | some d =>
    rw [hd] at h
    simp only at h
    have hu := (hT t d hd).1
    split at h
    · rename_i len x
      cases hsd : strD d.d with
      | false => rw [hsd] at h; cases h
      | true =>
        rw [hsd] at h
        simp only [cond_true] at h
        have hdd : d.d = .string := by cases hh : d.d <;> rw [hh] at hsd <;> simp [strD] at hsd
        cases mx with
        | some _ => cases h
        | none =>
          cases max with
          | some _ => simp [BR] at h3
          | none =>
            simp only at h
            cases hb : bnds len len lo hi none with
            | none => rw [hb] at h; cases h
            | some r =>
              obtain ⟨l, hh, m⟩ := r
              rw [hb] at h
              simp only [vstr_eq, Option.some.injEq] at h
              subst h
              obtain ⟨r1, r2, r3, r4, r5, r6, r7⟩ := bnds_ok (P := P) (w := w) (b := false) hb h1 h2 h3
              have hle : hh ≤ len := by
                cases hi with
                | none => exact Nat.le_of_eq (r4 rfl)
                | some _ => have := r6 (by simp); omega
              cases u <;> simp only [VR] at hx
              obtain ⟨rfl, _⟩ := hx
              refine ⟨.string ((bstr len x).extract l hh), ?_, ?_⟩
              · simp only [VR]
                exact ⟨bstr_extract r3 hle, Nat.mod_lt _ (Nat.pow_pos (by omega))⟩
              · simp [Instr.sliceAt, Instr.slice, run_underlying (hu.trans (congrArg some hdd)), bstr_size, r1]
    · rename_i n o len cap
      cases hsd : sliceD d.d with
      | none => rw [hsd] at h; cases h
      | some e =>
        rw [hsd] at h
        simp only at h
        have hdd := sliceD_eq hsd
        cases hs : sizeE TT e with
        | none => rw [hs] at h; cases h
        | some s =>
          rw [hs] at h
          obtain ⟨ie, hie, rfl⟩ := sizeE_ok hT hs
          simp only at h
          cases hb : bnds len cap lo hi mx with
          | none => rw [hb] at h; cases h
          | some r =>
            obtain ⟨l, hh, m⟩ := r
            rw [hb] at h
            simp only [Option.some.injEq] at h
            subst h
            obtain ⟨r1, r2, r3, r4, r5, r6, r7⟩ := bnds_ok (P := P) (w := w) (b := true) hb h1 h2 h3
            cases u with
            | slice a ul uc =>
              cases a with
              | none => simp [VR] at hx
              | some a =>
                simp only [VR] at hx
                obtain ⟨ha, rfl, rfl, hlc⟩ := hx
                have hle : hh ≤ m := by
                  cases hi with
                  | none =>
                    have e1 := r4 rfl
                    cases mx with
                    | none => have := r5 rfl; omega
                    | some _ => simp [bnds] at hb
                  | some _ => exact r6 (by simp)
                refine ⟨_, cutRow_ok (s := ie.size) ha r3 hle, ?_⟩
                simp [Instr.sliceAt, Instr.slice, run_underlying (hu.trans (congrArg some hdd)), r1, run_sizeOf hie]
                split <;> rfl
            | _ => simp [VR] at hx
    · rename_i n o len es
      cases hsd : sliceD d.d with
      | none => rw [hsd] at h; cases h
      | some e =>
        rw [hsd] at h
        simp only at h
        have hdd := sliceD_eq hsd
        cases hs : sizeE TT e with
        | none => rw [hs] at h; cases h
        | some s =>
          rw [hs] at h
          obtain ⟨ie, hie, rfl⟩ := sizeE_ok hT hs
          simp only at h
          cases u with
          | slice a ul uc =>
            cases a with
            | none => simp [VR] at hx
            | some a =>
              simp only [VR] at hx
              obtain ⟨ha, rfl, hlc, q, hq, hqt⟩ := hx
              cases mx with
              | none =>
                simp only at h
                cases hb : bnds len len lo hi none with
                | none => rw [hb] at h; cases h
                | some r =>
                  obtain ⟨l, hh, m⟩ := r
                  rw [hb] at h
                  simp only at h
                  cases hcc : (Nat.beq es ie.size && (Nat.beq l 0 || Nat.blt l len)) with
                  | false =>
                    rw [hcc] at h
                    simp only [cond_false] at h
                    cases hlh : Nat.beq l hh with
                    | false => rw [hlh] at h; cases h
                    | true =>
                      rw [hlh] at h
                      simp only [cond_true, Option.some.injEq] at h
                      subst h
                      obtain rfl := Nat.eq_of_beq_eq_true hlh
                      have hb' := bnds_more hb hlc
                      obtain ⟨r1, r2, r3, r4, r5, r6, r7⟩ := bnds_ok (P := P) (w := w) (b := true) hb' h1 h2 h3
                      refine ⟨.slice (some (if uc = l then a else a.add (l * ie.size))) 0 (uc - l), trivial, ?_⟩
                      simp only [Instr.sliceAt, Instr.slice, Sem.run_bind, run_underlying (hu.trans (congrArg some hdd)), r1, run_sizeOf hie, Result.andThen_ok, Nat.sub_self]
                      split <;> rfl
                  | true =>
                    rw [hcc] at h
                    simp only [cond_true, vslu_eq, Option.some.injEq] at h
                    subst h
                    simp only [Bool.and_eq_true, Bool.or_eq_true] at hcc
                    have he := Nat.eq_of_beq_eq_true hcc.1
                    have hb' := bnds_more hb hlc
                    obtain ⟨r1, r2, r3, r4, r5, r6, r7⟩ := bnds_ok (P := P) (w := w) (b := true) hb' h1 h2 h3
                    obtain ⟨_, _, _, _, q5, q6, _⟩ := bnds_ok (P := P) (w := w) (b := true) hb h1 h2 h3
                    have hle : hh ≤ len := by
                      cases hi with
                      | none => exact Nat.le_of_eq (r4 rfl)
                      | some _ => have := q6 (by simp); have := q5 rfl; omega
                    have hadr : (if uc = l then a else a.add (l * ie.size)) = a.add (l * ie.size) := by
                      by_cases e0 : l = 0
                      · subst e0
                        split
                        · simp [Addr.add]
                        · rfl
                      · have : l < len := by
                          rcases hcc.2 with hz | hz
                          · exact absurd (Nat.eq_of_beq_eq_true hz) e0
                          · exact Nat.le_of_ble_eq_true hz
                        rw [if_neg (by omega)]
                    refine ⟨.slice (some (a.add (l * ie.size))) (hh - l) (uc - l), ?_, ?_⟩
                    · simp only [VR]
                      refine ⟨addrOf_add ha, trivial, by omega, q, hq, ?_⟩
                      have : l * ie.size + (uc - l) * ie.size = uc * ie.size := by rw [← Nat.add_mul]; congr 1; omega
                      rw [he] at hqt ⊢
                      omega
                    · have e1 : (Instr.sliceAt t (.slice (some a) len uc) low high max).run P w = .ok (.slice (some (if uc = l then a else a.add (l * ie.size))) (hh - l) (uc - l)) w := by
                        simp only [Instr.sliceAt, Instr.slice, Sem.run_bind, run_underlying (hu.trans (congrArg some hdd)), r1, run_sizeOf hie, Result.andThen_ok]
                        split <;> rfl
                      rw [e1, hadr]
              | some mm =>
                simp only at h
                cases hb : bnds len len lo hi (some mm) with
                | none => rw [hb] at h; cases h
                | some r =>
                  obtain ⟨l, hh, m⟩ := r
                  rw [hb] at h
                  simp only [Option.some.injEq] at h
                  subst h
                  have hb' := bnds_mx hb hlc
                  obtain ⟨r1, r2, r3, r4, r5, r6, r7⟩ := bnds_ok (P := P) (w := w) (b := true) hb' h1 h2 h3
                  have hle : hh ≤ m := by
                    cases hi with
                    | none => simp [bnds] at hb
                    | some _ => exact r6 (by simp)
                  refine ⟨_, cutRow_ok (s := ie.size) ha r3 hle, ?_⟩
                  simp [Instr.sliceAt, Instr.slice, run_underlying (hu.trans (congrArg some hdd)), r1, run_sizeOf hie]
                  split <;> rfl
          | _ => simp [VR] at hx
    · cases hsd : sliceD d.d with
      | none => rw [hsd] at h; cases h
      | some e =>
        rw [hsd] at h
        simp only at h
        have hdd := sliceD_eq hsd
        cases hs : sizeE TT e with
        | none => rw [hs] at h; cases h
        | some s =>
          rw [hs] at h
          obtain ⟨ie, hie, rfl⟩ := sizeE_ok hT hs
          simp only at h
          cases hb : bnds 0 0 lo hi mx with
          | none => rw [hb] at h; cases h
          | some r =>
            obtain ⟨l, hh, m⟩ := r
            rw [hb] at h
            simp only [Option.some.injEq] at h
            subst h
            obtain ⟨r1, r2, r3, r4, r5, r6, r7⟩ := bnds_ok (P := P) (w := w) (b := true) hb h1 h2 h3
            have hm : m = 0 := by omega
            have hh0 : hh = 0 := by
              cases hi with
              | none => exact r4 rfl
              | some _ => have := r6 (by simp); omega
            have hl : l = 0 := by omega
            subst hm hh0 hl
            cases u with
            | slice a ul uc =>
              cases a with
              | some a => simp [VR] at hx
              | none =>
                cases ul with
                | succ _ => simp [VR] at hx
                | zero =>
                  cases uc with
                  | succ _ => simp [VR] at hx
                  | zero =>
                    refine ⟨.slice none 0 0, trivial, ?_⟩
                    simp [Instr.sliceAt, Instr.slice, run_underlying (hu.trans (congrArg some hdd)), r1, run_sizeOf hie]
            | _ => simp [VR] at hx
    · rename_i n o
      cases hsd : arrayD d.d with
      | none => rw [hsd] at h; cases h
      | some p =>
        obtain ⟨len, e⟩ := p
        rw [hsd] at h
        simp only at h
        have hdd := arrayD_eq hsd
        cases hs : sizeE TT e with
        | none => rw [hs] at h; cases h
        | some s =>
          rw [hs] at h
          obtain ⟨ie, hie, rfl⟩ := sizeE_ok hT hs
          simp only at h
          cases hb : bnds len len lo hi mx with
          | none => rw [hb] at h; cases h
          | some r =>
            obtain ⟨l, hh, m⟩ := r
            rw [hb] at h
            simp only [Option.some.injEq] at h
            subst h
            obtain ⟨r1, r2, r3, r4, r5, r6, r7⟩ := bnds_ok (P := P) (w := w) (b := false) hb h1 h2 h3
            cases u with
            | pointer a =>
              cases a with
              | none => simp [VR] at hx
              | some a =>
                simp only [VR] at hx
                have hle : hh ≤ m := by
                  cases hi with
                  | none =>
                    have e1 := r4 rfl
                    cases mx with
                    | none => have := r5 rfl; omega
                    | some _ => simp [bnds] at hb
                  | some _ => exact r6 (by simp)
                refine ⟨_, cutRow_ok (s := ie.size) hx r3 hle, ?_⟩
                simp [Instr.sliceAt, Instr.sureAddr, run_underlying (hu.trans (congrArg some hdd)), r1, run_sizeOf hie]
            | _ => simp [VR] at hx
    · cases h
end
end
end Go.Proofs.YtafhmagifoapfaaGreatDoor
namespace Go.Proofs.YtafhmagifoapfaaGreatDoor
open Go.RowKit
noncomputable section
def extractE (x : V) (ix : Nat) : Option V :=
  match x with
  | .tup l => l[ix]?
  | _ => none
/-- What stands a test for nil. -/
def nilCheckE (x : V) : Option V :=
  match x with
  | .p _ _ => some x
  | .ifc _ _ => some x
  | .f _ _ _ => some x
  | _ => none
def pickE (c a b : V) : Option V :=
  match c with
  | .b true => some a
  | .b false => some b
  | _ => none
def unOpE (op : UnOp) (x : V) : Option V :=
  match op, x with
  | .not, .b x => some (.b (!x))
  | .neg, .i k n => evInt .sub k 0 n
  | _, _ => none
def ifaceD : TypeDesc → Bool
  | .interface _ => true
  | _ => false
def makeIfaceE (TT : PT TD) (t : TypeId) (x : V) : Option V :=
  match TT.get t with
  | some d => cond (ifaceD d.d) none (some (.ifc t x))
  | none => none
def intD : TypeDesc → Option IntKind
  | .int k => some k
  | _ => none
def convIntE (TT : PT TD) (src dst : TypeId) (n : Int) : Option V :=
  match TT.get src with
  | some _ => match TT.get dst with
    | some d => match intD d.d with
      | some k => some (vint k (wrapF k n))
      | none => none
    | none => none
  | none => none
def mapD : TypeDesc → Option (Nat × Nat)
  | .map k e => some (k, e)
  | _ => none
def vi64 (n : Nat) : V := nforce n fun n => .i .i64 (.ofNat n)
theorem vi64_eq (n : Nat) : vi64 n = .i .i64 (n : Int) := by unfold vi64; rw [nforce_eq]; rfl
def lenE (TT : PT TD) (H : PT O) (t : TypeId) (x : V) : Option V :=
  match TT.get t with
  | some d => match x with
    | .s len _ => cond (strD d.d) (some (vi64 len)) none
    | .sl _ _ len _ => match sliceD d.d with
      | some _ => some (vi64 len)
      | none => none
    | .slu _ _ len _ => match sliceD d.d with
      | some _ => some (vi64 len)
      | none => none
    | .sln => match sliceD d.d with
      | some _ => some (vi64 0)
      | none => none
    | .sz => match sliceD d.d with
      | some _ => some (vi64 0)
      | none => none
    | .mn => match mapD d.d with
      | some _ => some (vi64 0)
      | none => none
    | .mp n => match mapD d.d with
      | some _ => match H.get n with
        | some (.mp l _ _) => some (vi64 l.length)
        | _ => none
      | none => none
    | _ => none
  | none => none
def capE (TT : PT TD) (t : TypeId) (x : V) : Option V :=
  match TT.get t with
  | some d => match sliceD d.d with
    | some _ => match x with
      | .sl _ _ _ c => some (vi64 c)
      | .sln => some (vi64 0)
      | _ => none
    | none => none
  | none => none
theorem extractE_ok {σ : Sig} {P : Program} {w : World} {x v : V} {u : Value} {ix : Nat} (h : extractE x ix = some v) (hx : VR σ x u) : ∃ y, VR σ v y ∧ (Instr.extract u ix).run P w = .ok y w := by
  unfold extractE at h
  split at h
  · rename_i l
    cases u <;> simp only [VR] at hx
    rename_i vs
    obtain ⟨y, h1, h2⟩ := VRs_get hx h
    have h1' : vs[ix]? = some y := by rw [← Array.getElem?_toList]; exact h1
    exact ⟨y, h2, by simp [Instr.extract, h1']⟩
  · cases h
theorem unOpE_ok {σ : Sig} {P : Program} {w : World} {op : UnOp} {x v : V} {u : Value} (h : unOpE op x = some v) (hx : VR σ x u) : ∃ y, VR σ v y ∧ (Op.unary op u).run P w = .ok y w := by
  unfold unOpE at h
  split at h
  · simp only [Option.some.injEq] at h
    subst h
    cases u <;> simp only [VR] at hx
    subst hx
    rename_i b
    exact ⟨.bool (!b), rfl, by simp [Op.unary]⟩
  · rename_i k n
    cases u <;> simp only [VR] at hx
    obtain ⟨rfl, rfl⟩ := hx
    obtain ⟨y, h1, h2⟩ := evInt_ok (σ := σ) h P w 0
    refine ⟨y, h1, ?_⟩
    simpa [binOp, Op.unary] using h2
  · cases h
section
variable {P : Program} {w0 w : World} {G nx : Nat} {σ : Sig} {H : PT O} {TT : PT TD}
theorem makeIfaceE_ok (hT : TTok P TT) {t : TypeId} {x v : V} {u : Value} (h : makeIfaceE TT t x = some v) (hx : VR σ x u) : ∃ y, VR σ v y ∧ (Instr.makeInterface t u).run P w = .ok y w := by
  unfold makeIfaceE at h
  cases hd : TT.get t with
  | none => rw [hd] at h; cases h
  | some d =>
    rw [hd] at h
    simp only at h
    cases hi : ifaceD d.d with
    | true => rw [hi] at h; cases h
    | false =>
      rw [hi] at h
      simp only [cond_false, Option.some.injEq] at h
      subst h
      refine ⟨.iface t u, by simp only [VR]; exact ⟨trivial, hx⟩, ?_⟩
      have hu := (hT t d hd).1
      cases hdd : d.d <;> first | (rw [hdd] at hi; cases hi; done) | (rw [hdd] at hu; simp [Instr.makeInterface, run_underlying hu])
theorem convIntE_ok (hT : TTok P TT) {src dst : TypeId} {n : Int} {k : IntKind} {v : V} (h : convIntE TT src dst n = some v) : ∃ y, VR σ v y ∧ (convert src dst (.int k n)).run P w = .ok y w := by
  unfold convIntE at h
  cases hs : TT.get src with
  | none => rw [hs] at h; cases h
  | some ds =>
    rw [hs] at h
    simp only at h
    cases hd : TT.get dst with
    | none => rw [hd] at h; cases h
    | some d =>
      rw [hd] at h
      simp only at h
      cases hi : intD d.d with
      | none => rw [hi] at h; cases h
      | some k' =>
        rw [hi] at h
        simp only [vint_eq, Option.some.injEq] at h
        subst h
        have hdd : d.d = .int k' := by cases hh : d.d <;> rw [hh] at hi <;> simp [intD] at hi; rw [hi]
        refine ⟨.int k' (k'.wrap n), by simp only [VR]; exact ⟨trivial, wrapF_eq k' n⟩, ?_⟩
        simp [convert, run_underlying (hT src ds hs).1, run_underlying ((hT dst d hd).1.trans (congrArg some hdd)), Conv.intToInt]
theorem mapD_eq {d : TypeDesc} {k e : Nat} (h : mapD d = some (k, e)) : d = .map k e := by
  cases d <;> simp [mapD] at h
  obtain ⟨rfl, rfl⟩ := h; rfl
theorem strD_eq {d : TypeDesc} (h : strD d = true) : d = .string := by cases d <;> simp [strD] at h; rfl
theorem lenE_ok (hT : TTok P TT) (hH : HR w0 G σ H nx w) {t ty : TypeId} {x v : V} {u : Value} (h : lenE TT H t x = some v) (hx : VR σ x u) : ∃ y, VR σ v y ∧ (Builtin.len_ #[t] ty #[u]).run P w = .ok y w := by
  unfold lenE at h
  cases hd : TT.get t with
  | none => rw [hd] at h; cases h
  | some d =>
    rw [hd] at h
    simp only at h
    have hu := (hT t d hd).1
    split at h
    · rename_i len x
      cases hs : strD d.d with
      | false => rw [hs] at h; cases h
      | true =>
        rw [hs] at h
        simp only [cond_true, vi64_eq, Option.some.injEq] at h
        subst h
        cases u <;> simp only [VR] at hx
        obtain ⟨rfl, _⟩ := hx
        refine ⟨goInt len, ⟨rfl, rfl⟩, ?_⟩
        simp [Builtin.len_, run_underlying (hu.trans (congrArg some (strD_eq hs))), bstr_size]
    · rename_i n o len c
      cases hs : sliceD d.d with
      | none => rw [hs] at h; cases h
      | some e =>
        rw [hs] at h
        simp only [vi64_eq, Option.some.injEq] at h
        subst h
        cases u with
        | slice a l c =>
          cases a with
          | none => simp [VR] at hx
          | some a =>
            simp only [VR] at hx
            obtain ⟨_, rfl, _⟩ := hx
            exact ⟨goInt len, ⟨rfl, rfl⟩, by simp [Builtin.len_, run_underlying (hu.trans (congrArg some (sliceD_eq hs)))]⟩
        | _ => simp [VR] at hx
    · rename_i n o len c
      cases hs : sliceD d.d with
      | none => rw [hs] at h; cases h
      | some e =>
        rw [hs] at h
        simp only [vi64_eq, Option.some.injEq] at h
        subst h
        cases u with
        | slice a l c =>
          cases a with
          | none => simp [VR] at hx
          | some a =>
            simp only [VR] at hx
            obtain ⟨_, rfl, _⟩ := hx
            exact ⟨goInt len, ⟨rfl, rfl⟩, by simp [Builtin.len_, run_underlying (hu.trans (congrArg some (sliceD_eq hs)))]⟩
        | _ => simp [VR] at hx
    · cases hs : sliceD d.d with
      | none => rw [hs] at h; cases h
      | some e =>
        rw [hs] at h
        simp only [vi64_eq, Option.some.injEq] at h
        subst h
        cases u with
        | slice a l c =>
          cases a with
          | some a => simp [VR] at hx
          | none =>
            cases l with
            | succ _ => simp [VR] at hx
            | zero => exact ⟨goInt (0 : Nat), ⟨rfl, rfl⟩, by simp [Builtin.len_, run_underlying (hu.trans (congrArg some (sliceD_eq hs)))]⟩
        | _ => simp [VR] at hx
    · cases hs : sliceD d.d with
      | none => rw [hs] at h; cases h
      | some e =>
        rw [hs] at h
        simp only [vi64_eq, Option.some.injEq] at h
        subst h
        obtain ⟨a, c, rfl⟩ := VR_sz hx
        exact ⟨goInt (0 : Nat), ⟨rfl, rfl⟩, by simp [Builtin.len_, run_underlying (hu.trans (congrArg some (sliceD_eq hs)))]⟩
    · cases hs : mapD d.d with
      | none => rw [hs] at h; cases h
      | some p =>
        obtain ⟨k, e⟩ := p
        rw [hs] at h
        simp only [vi64_eq, Option.some.injEq] at h
        subst h
        cases u with
        | map r =>
          cases r with
          | some r => simp [VR] at hx
          | none => exact ⟨goInt (0 : Nat), ⟨rfl, rfl⟩, by simp [Builtin.len_, run_underlying (hu.trans (congrArg some (mapD_eq hs)))]⟩
        | _ => simp [VR] at hx
    · rename_i n
      cases hs : mapD d.d with
      | none => rw [hs] at h; cases h
      | some p =>
        obtain ⟨k, e⟩ := p
        rw [hs] at h
        simp only at h
        split at h
        · rename_i l _ _ hn
          simp only [vi64_eq, Option.some.injEq] at h
          subst h
          cases u with
          | map r =>
            cases r with
            | none => simp [VR] at hx
            | some r =>
              simp only [VR] at hx
              obtain ⟨q, hq, rfl⟩ := hx
              obtain ⟨q', ob, hq', hob, es, rfl, _, hk, _⟩ := hH.obj n _ hn
              rw [hq] at hq'
              simp only [Option.some.injEq] at hq'
              subst hq'
              have hl : es.size = l.length := by
                have := VRs_length hk
                simpa using this
              refine ⟨goInt es.size, ?_, by simp [Builtin.len_, run_underlying (hu.trans (congrArg some (mapD_eq hs))), getObj, Sem.run, hob]⟩
              rw [hl]; exact ⟨rfl, rfl⟩
          | _ => simp [VR] at hx
        · cases h
    · cases h
theorem capE_ok (hT : TTok P TT) {t ty : TypeId} {x v : V} {u : Value} (h : capE TT t x = some v) (hx : VR σ x u) : ∃ y, VR σ v y ∧ (Builtin.cap_ #[t] ty #[u]).run P w = .ok y w := by
  unfold capE at h
  cases hd : TT.get t with
  | none => rw [hd] at h; cases h
  | some d =>
    rw [hd] at h
    simp only at h
    have hu := (hT t d hd).1
    cases hs : sliceD d.d with
    | none => rw [hs] at h; cases h
    | some e =>
      rw [hs] at h
      simp only at h
      split at h
      · rename_i n o l c
        simp only [vi64_eq, Option.some.injEq] at h
        subst h
        cases u with
        | slice a l c' =>
          cases a with
          | none => simp [VR] at hx
          | some a =>
            simp only [VR] at hx
            obtain ⟨_, _, rfl, _⟩ := hx
            exact ⟨goInt c, ⟨rfl, rfl⟩, by simp [Builtin.cap_, run_underlying (hu.trans (congrArg some (sliceD_eq hs)))]⟩
        | _ => simp [VR] at hx
      · simp only [vi64_eq, Option.some.injEq] at h
        subst h
        cases u with
        | slice a l c =>
          cases a with
          | some a => simp [VR] at hx
          | none =>
            cases l with
            | succ _ => simp [VR] at hx
            | zero =>
              cases c with
              | succ _ => simp [VR] at hx
              | zero => exact ⟨goInt (0 : Nat), ⟨rfl, rfl⟩, by simp [Builtin.cap_, run_underlying (hu.trans (congrArg some (sliceD_eq hs)))]⟩
        | _ => simp [VR] at hx
      · cases h
end
end
end Go.Proofs.YtafhmagifoapfaaGreatDoor
namespace Go.Proofs.YtafhmagifoapfaaGreatDoor
open Go.RowKit
noncomputable section
/-- What is appended: how many elements, their cells. -/
def SrcR (P : Program) (w : World) (size : Nat) (x : Value) (n : Nat) (news : List Value) : Prop :=
  (∀ w' : World, (Builtin.lenOf x).run P w' = .ok n w') ∧ news.length = n * size ∧ (Builtin.firstCells size n x).run P w = .ok news.toArray w ∧ (Builtin.firstCells size n x).run P w.drew = .ok news.toArray w.drew
section
variable {P : Program} {w : World}
theorem run_append_in {t u ty e : TypeId} {i : TypeInfo} {d : TypeDesc} (ht : P.underlying t = some (.slice e)) (hu : P.underlying u = some d) (hd : d = .string ∨ ∃ e', d = .slice e') (hi : P.info? e = some i)
    {base : Option Addr} {sLen sCap n : Nat} {x : Value} {news : List Value} (hx : SrcR P w i.size x n news) (hroom : sLen + n ≤ sCap) :
    (Builtin.append_ #[t, u] ty #[.slice base sLen sCap, x]).run P w = match base with
      | some a => ((storeCells (a.add (sLen * i.size)) news).run P w).andThen fun _ w' => .ok (.slice base (sLen + n) sCap) w'
      | none => .ok (.slice base (sLen + n) sCap) w := by
  obtain ⟨h1, h2, h3, h4⟩ := hx
  rcases hd with rfl | ⟨e', rfl⟩ <;> cases base <;> simp [Builtin.append_, run_underlying ht, run_underlying hu, run_sizeOf hi, h1, hroom, h3]
theorem run_append_out {t u ty e : TypeId} {i : TypeInfo} {d : TypeDesc} {z : Value} (ht : P.underlying t = some (.slice e)) (hu : P.underlying u = some d) (hd : d = .string ∨ ∃ e', d = .slice e') (hi : P.info? e = some i) (hz : i.zero = some z)
    {base : Option Addr} {sLen sCap n : Nat} {x : Value} {news olds : List Value} (hx : SrcR P w i.size x n news) (hold : (Builtin.firstCells i.size sLen (.slice base sLen sCap)).run P w.drew = .ok olds.toArray w.drew)
    (hg : sCap < sLen + n) (h63 : ((sLen + n : Nat) : Int) ≤ 9223372036854775807) (hfit : Builtin.nextslicecap (sLen + n) sCap * i.bytes ≤ 281474976710656) :
    (Builtin.append_ #[t, u] ty #[.slice base sLen sCap, x]).run P w =
      .ok (.slice (some ⟨w.heap.size, 0, none⟩) (sLen + n) (grownCap w (sLen + n) sCap e))
        (w.drew.alloc (.cells (olds.toArray ++ news.toArray ++ Builtin.zeroCells z.cells (grownCap w (sLen + n) sCap e - (sLen + n))) e (0, 0))) := by
  obtain ⟨h1, h2, h3, h4⟩ := hx
  have hn : ¬ (sLen + n ≤ sCap) := by omega
  have h63' : ¬ (9223372036854775807 < ((sLen : Int) + (n : Int))) := by omega
  have h48' : ¬ (281474976710656 < Builtin.nextslicecap (sLen + n) sCap * i.bytes) := by omega
  rcases hd with rfl | ⟨e', rfl⟩ <;> simp [Builtin.append_, run_underlying ht, run_underlying hu, sizeOf, typeInfo, zeroValue, hi, hz, h1, hn, h63', h48', Question.forced, h4, hold, newRow, grownCap] <;>
  · congr 2
    apply Array.ext'
    simp [List.append_assoc]
end
end
end Go.Proofs.YtafhmagifoapfaaGreatDoor
namespace Go.Proofs.YtafhmagifoapfaaGreatDoor
open Go.RowKit
noncomputable section
section
variable {w0 w : World} {G nx : Nat} {σ : Sig} {H : PT O}
/-- Memory that reads alike is alike. -/
theorem HR.same (h : HR w0 G σ H nx w) {H' : PT O} (e : ∀ m, H'.get m = H.get m) : HR w0 G σ H' nx w :=
  ⟨h.below, h.dom, fun m o' hm => h.obj m o' (by rw [← e]; exact hm), h.high, fun m1 m2 q r h1 h2 => h.apart m1 m2 q r (by rw [← e]; exact h1) (by rw [← e]; exact h2)⟩
/-- A row of which another thing is known. -/
theorem HR.turn (h : HR w0 G σ H nx w) {n : Nat} {o o' : O} (hn : H.get n = some o) (ht : ∀ q ob, σ n = some q → OR σ q o ob → OR σ q o' ob) : HR w0 G σ (H.set o' n) nx w := by
  refine ⟨h.below, h.dom, fun m x hm => ?_, h.high, fun m1 m2 q r h1 h2 => h.apart m1 m2 q r ?_ ?_⟩
  · rw [PT.get_set] at hm
    by_cases e : m = n
    · subst e
      rw [if_pos rfl] at hm
      simp only [Option.some.injEq] at hm
      subst hm
      obtain ⟨q, ob, h1, h2, h3⟩ := h.obj m o hn
      exact ⟨q, ob, h1, h2, ht q ob h1 h3⟩
    · rw [if_neg e] at hm
      exact h.obj m x hm
  · intro e; apply h1; rw [PT.get_set]; split
    · rename_i e'; subst e'; rw [hn] at e; cases e
    · exact e
  · intro e; apply h2; rw [PT.get_set]; split
    · rename_i e'; subst e'; rw [hn] at e; cases e
    · exact e
/-- What lies under a name, from a place on, under a new one; the old name is no more. -/
theorem HR.rename (h : HR w0 G σ H nx w) {n t k fz o : Nat} {ro : Bool} {cs cs' : PT V} {q : Spot} (hG : G ≤ n) (hn : H.get n = some (.row t k cs fz ro)) (hq : σ n = some q) (ho : o ≤ q.tot) (h0 : o = 0)
    (hc : ∀ j v, cs'.get j = some v → cs.get (o + j) = some v) :
    HR w0 G (σ.ext nx ⟨q.blk, q.off + o, q.tot - o⟩) ((H.del n).set (.row t (q.tot - o) cs' (fz - o) false) nx) (nx + 1) w ∧ σ.le (σ.ext nx ⟨q.blk, q.off + o, q.tot - o⟩) := by
  have hle := Sig.le_ext (q := ⟨q.blk, q.off + o, q.tot - o⟩) (h.dom nx (Nat.le_refl _))
  refine ⟨?_, hle⟩
  have hnx : n < nx := by
    by_cases e : n < nx
    · exact e
    · rw [h.dom n (by omega)] at hq; cases hq
  have hext : ∀ m, m ≠ nx → σ.ext nx ⟨q.blk, q.off + o, q.tot - o⟩ m = σ m := fun m hm => by unfold Sig.ext; rw [if_neg hm]
  have hself : σ.ext nx ⟨q.blk, q.off + o, q.tot - o⟩ nx = some ⟨q.blk, q.off + o, q.tot - o⟩ := by unfold Sig.ext; rw [if_pos rfl]
  refine ⟨h.below, fun m hm => by rw [hext m (by omega)]; exact h.dom m (by omega), fun m x hm => ?_, fun m r hr hGm => ?_, fun m1 m2 q1 q2 h1 h2 hq1 hq2 hne => ?_⟩
  · rw [PT.get_set] at hm
    by_cases e : m = nx
    · subst e
      rw [if_pos rfl] at hm
      simp only [Option.some.injEq] at hm
      subst hm
      obtain ⟨q', ob, hq', hob, arr, lo, hi, rfl, a2, a3, a4, a5⟩ := h.obj n _ hn
      rw [hq] at hq'
      simp only [Option.some.injEq] at hq'
      subst hq'
      refine ⟨_, _, hself, hob, arr, lo, hi, rfl, by simp only; omega, Nat.le_refl _, fun j hj hjt hh => a4 (o + j) (by omega) (by simp only at hjt; omega) (by simp only at hh; omega), fun j v hj => ?_⟩
      obtain ⟨b1, u, b2, b3⟩ := a5 (o + j) v (hc j v hj)
      exact ⟨by omega, u, by simp only; rw [Nat.add_assoc]; exact b2, b3.le hle⟩
    · rw [if_neg e, PT.get_del] at hm
      by_cases e2 : m = n
      · rw [if_pos e2] at hm; cases hm
      · rw [if_neg e2] at hm
        obtain ⟨r, ob, hr, hob, hor⟩ := h.obj m x hm
        exact ⟨r, ob, hle m r hr, hob, hor.le hle⟩
  · by_cases e : m = nx
    · subst e
      rw [hself] at hr
      simp only [Option.some.injEq] at hr
      subst hr
      exact h.high n q hq hG
    · rw [hext m e] at hr
      exact h.high m r hr hGm
  · have old : ∀ m, m ≠ nx → ((H.del n).set (.row t (q.tot - o) cs' (fz - o) false) nx).get m ≠ none → m ≠ n ∧ H.get m ≠ none := fun m hm hh => by
      rw [PT.get_set, if_neg hm, PT.get_del] at hh
      by_cases e2 : m = n
      · rw [if_pos e2] at hh; exact absurd rfl hh
      · rw [if_neg e2] at hh; exact ⟨e2, hh⟩
    by_cases e1 : m1 = nx
    · subst e1
      have h2' := old m2 (fun e => hne e.symm) h2
      rw [hself] at hq1
      simp only [Option.some.injEq] at hq1
      subst hq1
      rw [hext m2 (fun e => hne e.symm)] at hq2
      exact h.apart n m2 q q2 (by rw [hn]; simp) h2'.2 hq hq2 (fun e => h2'.1 e.symm)
    · have h1' := old m1 e1 h1
      rw [hext m1 e1] at hq1
      by_cases e2 : m2 = nx
      · subst e2
        rw [hself] at hq2
        simp only [Option.some.injEq] at hq2
        subst hq2
        exact h.apart m1 n q1 q h1'.2 (by rw [hn]; simp) hq1 hq h1'.1
      · have h2' := old m2 e2 h2
        rw [hext m2 e2] at hq2
        exact h.apart m1 m2 q1 q2 h1'.2 h2'.2 hq1 hq2 hne
end
end
end Go.Proofs.YtafhmagifoapfaaGreatDoor
namespace Go.Proofs.YtafhmagifoapfaaGreatDoor
open Go.RowKit
noncomputable section
/-- The bytes of a text as values. -/
def bytesV : Nat → Nat → List V
  | 0, _ => []
  | n + 1, x => nforce (x % 256) fun b => nforce (x / 256) fun y => .i .u8 (.ofNat b) :: bytesV n y
theorem bytesV_ok {σ : Sig} : ∀ (n x : Nat), VRs σ (bytesV n x) ((bytesOf n x).map fun b => Value.int .u8 (b.toNat : Int))
  | 0, _ => trivial
  | n + 1, x => by
    rw [bytesV, nforce_eq, nforce_eq]
    refine ⟨?_, bytesV_ok n (x / 256)⟩
    simp only [VR]
    refine ⟨trivial, ?_⟩
    have : (UInt8.ofNat (x % 256)).toNat = x % 256 := by simp
    rw [this]; rfl
/-- The cells of a slice or of a text, of which n elements are wanted. -/
def srcCells (H : PT O) (sz n : Nat) (x : V) : Option (List V) :=
  match x with
  | .s len x => cond (Nat.beq sz 1 && Nat.ble n len) (some (bytesV n (x % 256 ^ n))) none
  | .sl m o len _ => cond (Nat.ble n len) (match H.get m with
    | some (.row _ _ cs _ _) => cellsG cs (n * sz) o
    | _ => none) none
  | .slu m o len _ => cond (Nat.ble n len) (match H.get m with
    | some (.row _ _ cs _ _) => cellsG cs (n * sz) o
    | _ => none) none
  | .sln => cond (Nat.beq n 0) (some []) none
  | .sz => cond (Nat.beq n 0) (some []) none
  | _ => none
def lenV : V → Option Nat
  | .s len _ => some len
  | .sl _ _ len _ => some len
  | .slu _ _ len _ => some len
  | .sln => some 0
  | .sz => some 0
  | _ => none
section
variable {P : Program} {w0 w : World} {G nx : Nat} {σ : Sig} {H : PT O}
theorem lenV_ok {x : V} {u : Value} {n : Nat} (h : lenV x = some n) (hx : VR σ x u) (w : World) : (Builtin.lenOf u).run P w = .ok n w := by
  cases x <;> simp only [lenV, Option.some.injEq, reduceCtorEq] at h
  all_goals subst h
  · cases u <;> simp only [VR] at hx
    obtain ⟨rfl, _⟩ := hx
    simp [Builtin.lenOf, bstr_size]
  · cases u with
    | slice a l c => cases a <;> simp only [VR] at hx; obtain ⟨_, rfl, _⟩ := hx; simp [Builtin.lenOf]
    | _ => simp [VR] at hx
  · cases u with
    | slice a l c => cases a <;> simp only [VR] at hx; obtain ⟨_, rfl, _⟩ := hx; simp [Builtin.lenOf]
    | _ => simp [VR] at hx
  · cases u with
    | slice a l c => cases a <;> cases l <;> cases c <;> simp [VR] at hx; simp [Builtin.lenOf]
    | _ => simp [VR] at hx
  · obtain ⟨a, c, rfl⟩ := VR_sz hx
    simp [Builtin.lenOf]
theorem rowCells_ok (h : HR w0 G σ H nx w) {m o k : Nat} {l : List V} {a : Addr} (hs : (match H.get m with
    | some (.row _ _ cs _ _) => cellsG cs k o
    | _ => none) = some l) (ha : addrOf σ m o = some a) : ∃ us : List Value, us.length = k ∧ VRs σ l us ∧ ∀ j u, us[j]? = some u → w.cell? (a.add j) = some u := by
  split at hs
  · rename_i t kk cs fz ro hn
    exact cellsG_ok h hn k o l a hs ha
  · cases hs
theorem srcCells_ok (h : HR w0 G σ H nx w) {sz n : Nat} {x : V} {u : Value} {l : List V} (hs : srcCells H sz n x = some l) (hx : VR σ x u) : ∃ news : List Value, news.length = n * sz ∧ VRs σ l news ∧ (Builtin.firstCells sz n u).run P w = .ok news.toArray w ∧ (Builtin.firstCells sz n u).run P w.drew = .ok news.toArray w.drew := by
  unfold srcCells at hs
  split at hs
  · rename_i len x
    cases hc : (Nat.beq sz 1 && Nat.ble n len) with
    | false => rw [hc] at hs; cases hs
    | true =>
      rw [hc] at hs
      simp only [cond_true, Option.some.injEq] at hs
      subst hs
      simp only [Bool.and_eq_true] at hc
      have c1 := Nat.eq_of_beq_eq_true hc.1
      have c2 := Nat.le_of_ble_eq_true hc.2
      subst c1
      cases u <;> simp only [VR] at hx
      obtain ⟨rfl, _⟩ := hx
      have key : ((bstr len x).extract 0 n).data.map (fun b => Value.int .u8 (b.toNat : Int)) = ((bytesOf n (x % 256 ^ n)).map fun b => Value.int .u8 (b.toNat : Int)).toArray := by
        apply Array.ext'
        rw [bstr_extract (Nat.zero_le n) c2, Array.toList_map, bstr_list]
        simp
      refine ⟨(bytesOf n (x % 256 ^ n)).map fun b => Value.int .u8 (b.toNat : Int), by simp [bytesOf_length], bytesV_ok _ _, ?_, ?_⟩
      · simp only [Builtin.firstCells]; rw [key]; rfl
      · simp only [Builtin.firstCells]; rw [key]; rfl
  · rename_i m o len c
    cases hc : Nat.ble n len with
    | false => rw [hc] at hs; cases hs
    | true =>
      rw [hc] at hs
      simp only [cond_true] at hs
      cases u with
      | slice a l' c' =>
        cases a with
        | none => simp [VR] at hx
        | some a =>
          simp only [VR] at hx
          obtain ⟨us, h1, h2, h3⟩ := rowCells_ok h hs hx.1
          exact ⟨us, h1, h2, run_firstCells_some w sz n a l' c' us h1 h3, run_firstCells_some w.drew sz n a l' c' us h1 (by simpa using h3)⟩
      | _ => simp [VR] at hx
  · rename_i m o len c
    cases hc : Nat.ble n len with
    | false => rw [hc] at hs; cases hs
    | true =>
      rw [hc] at hs
      simp only [cond_true] at hs
      cases u with
      | slice a l' c' =>
        cases a with
        | none => simp [VR] at hx
        | some a =>
          simp only [VR] at hx
          obtain ⟨us, h1, h2, h3⟩ := rowCells_ok h hs hx.1
          exact ⟨us, h1, h2, run_firstCells_some w sz n a l' c' us h1 h3, run_firstCells_some w.drew sz n a l' c' us h1 (by simpa using h3)⟩
      | _ => simp [VR] at hx
  · cases hc : Nat.beq n 0 with
    | false => rw [hc] at hs; cases hs
    | true =>
      rw [hc] at hs
      simp only [cond_true, Option.some.injEq] at hs
      subst hs
      have hn := Nat.eq_of_beq_eq_true hc
      subst hn
      cases u with
      | slice a l c =>
        cases a with
        | some a => simp [VR] at hx
        | none => exact ⟨[], by simp, trivial, run_firstCells_none w sz 0 l c, run_firstCells_none w.drew sz 0 l c⟩
      | _ => simp [VR] at hx
  · cases hc : Nat.beq n 0 with
    | false => rw [hc] at hs; cases hs
    | true =>
      rw [hc] at hs
      simp only [cond_true, Option.some.injEq] at hs
      subst hs
      have hn := Nat.eq_of_beq_eq_true hc
      subst hn
      obtain ⟨a, c, rfl⟩ := VR_sz hx
      exact ⟨[], by simp, trivial, run_firstCells_some w sz 0 a 0 c [] (by simp) (by simp), run_firstCells_some w.drew sz 0 a 0 c [] (by simp) (by simp)⟩
  · cases hs
end
end
end Go.Proofs.YtafhmagifoapfaaGreatDoor
namespace Go.Proofs.YtafhmagifoapfaaGreatDoor
open Go.RowKit
noncomputable section
theorem VRs_append {σ : Sig} : ∀ {a b : List V} {x y : List Value}, VRs σ a x → VRs σ b y → VRs σ (a ++ b) (x ++ y)
  | [], _, [], _, _, h => h
  | _ :: _, _, _ :: _, _, h, h' => ⟨h.1, VRs_append h.2 h'⟩
  | [], _, _ :: _, _, h, _ => by simp [VRs] at h
  | _ :: _, _, [], _, h, _ => by simp [VRs] at h
/-- A row grown. -/
def growCs (lo ln : List V) : PT V := setG ln (setG lo .leaf 0) lo.length
theorem growCs_get (lo ln : List V) (j : Nat) : (growCs lo ln).get j = (lo ++ ln)[j]? := by
  unfold growCs
  rw [setG_get, setG_get]
  by_cases h : lo.length ≤ j ∧ j < lo.length + ln.length
  · rw [if_pos h, List.getElem?_append_right h.1]
  · rw [if_neg h]
    by_cases h2 : j < lo.length
    · rw [if_pos (by omega), List.getElem?_append_left h2, Nat.sub_zero]
    · rw [if_neg (by omega), List.getElem?_eq_none (by rw [List.length_append]; omega)]; rfl
def growE (e : Nat) (lo ln : List V) (H : PT O) (nx : Nat) : PT O × Nat :=
  nforce (lo.length + ln.length) fun k => PT.force (H.set (.row e k (growCs lo ln) 0 false) nx) fun H => nforce (nx + 1) fun nx => (H, nx)
theorem growE_eq (e : Nat) (lo ln : List V) (H : PT O) (nx : Nat) : growE e lo ln H nx = (H.set (.row e (lo.length + ln.length) (growCs lo ln) 0 false) nx, nx + 1) := by
  unfold growE; rw [nforce_eq, PT.force_eq, nforce_eq]
section
variable {P : Program} {w0 w : World} {G nx : Nat} {σ : Sig} {H : PT O}
theorem grow_ok (h : HR w0 G σ H nx w) (hG : G ≤ nx) {e : Nat} {lo ln : List V} {olds news : List Value} {zs : Array Value} (h1 : VRs σ lo olds) (h2 : VRs σ ln news) :
    HR w0 G (σ.ext nx ⟨w.heap.size, 0, lo.length + ln.length + zs.size⟩) (growE e lo ln H nx).1 (growE e lo ln H nx).2 (w.drew.alloc (.cells (olds.toArray ++ news.toArray ++ zs) e (0, 0))) := by
  rw [growE_eq]
  have hle := Sig.le_ext (q := ⟨w.heap.size, 0, lo.length + ln.length + zs.size⟩) (h.dom nx (Nat.le_refl _))
  have l1 := VRs_length h1
  have l2 := VRs_length h2
  refine h.drew.make (q := ⟨w.heap.size, 0, lo.length + ln.length + zs.size⟩) hG rfl ?_
  refine ⟨olds.toArray ++ news.toArray ++ zs, 0, 0, rfl, by simp; omega, by simp, fun j _ _ hh => by omega, fun j v hj => ?_⟩
  rw [growCs_get] at hj
  have hv := VRs_append h1 h2
  obtain ⟨u, u1, u2⟩ := VRs_get hv hj
  have hj' : j < lo.length + ln.length := by
    have := (List.getElem?_eq_some_iff.1 hj).1
    simpa using this
  refine ⟨hj', u, ?_, u2.le hle⟩
  rw [Nat.zero_add, Array.getElem?_append_left (by simp; omega), ← u1]
  simp
end
end
end Go.Proofs.YtafhmagifoapfaaGreatDoor
namespace Go.Proofs.YtafhmagifoapfaaGreatDoor
open Go.RowKit
noncomputable section
theorem cellsG_length {cs : PT V} : ∀ {m o : Nat} {l : List V}, cellsG cs m o = some l → l.length = m
  | 0, _, l, h => by simp only [cellsG, Option.some.injEq] at h; subst h; rfl
  | m + 1, o, l, h => by
    unfold cellsG at h
    cases hv : cs.get o with
    | none => rw [hv] at h; cases h
    | some v =>
      rw [hv] at h
      simp only at h
      cases hr : cellsG cs m (o + 1) with
      | none => rw [hr] at h; cases h
      | some l' =>
        rw [hr] at h
        simp only [Option.some.injEq] at h
        subst h
        rw [List.length_cons, cellsG_length hr]
theorem cellsG_get {cs : PT V} : ∀ {m o : Nat} {l : List V}, cellsG cs m o = some l → ∀ j v, l[j]? = some v → cs.get (o + j) = some v
  | 0, _, l, h, j, v, hj => by simp only [cellsG, Option.some.injEq] at h; subst h; simp at hj
  | m + 1, o, l, h, j, v, hj => by
    unfold cellsG at h
    cases hv : cs.get o with
    | none => rw [hv] at h; cases h
    | some v' =>
      rw [hv] at h
      simp only at h
      cases hr : cellsG cs m (o + 1) with
      | none => rw [hr] at h; cases h
      | some l' =>
        rw [hr] at h
        simp only [Option.some.injEq] at h
        subst h
        cases j with
        | zero =>
          simp only [List.getElem?_cons_zero, Option.some.injEq] at hj
          subst hj; exact hv
        | succ j =>
          rw [List.getElem?_cons_succ] at hj
          rw [show o + (j + 1) = o + 1 + j by omega]
          exact cellsG_get hr j v hj
section
variable {P : Program} {w0 w : World} {G nx : Nat} {σ : Sig} {H : PT O}
theorem own_ok (h : HR w0 G σ H nx w) (hG : G ≤ nx) {n e k fz o m : Nat} {cs : PT V} {q : Spot} {lo ln : List V} {news : List Value} {a : Addr} (hGn : G ≤ n) (hn : H.get n = some (.row e k cs fz false)) (hq : σ n = some q) (ha : addrOf σ n o = some a)
    (hlo : cellsG cs m o = some lo) (hv : VRs σ ln news) (hc : allC ln = true) (h0 : o = 0) (hf : fz ≤ o) (hroom : o + m + ln.length ≤ q.tot) :
    ∃ w', σ.le (σ.ext nx ⟨q.blk, q.off + o, q.tot - o⟩) ∧ (storeCells (a.add m) news).run P w = .ok () w' ∧ HR w0 G (σ.ext nx ⟨q.blk, q.off + o, q.tot - o⟩) (growE e lo ln (H.del n) nx).1 (growE e lo ln (H.del n) nx).2 w' := by
  have hll := cellsG_length hlo
  obtain ⟨h1, hle⟩ := h.rename (cs' := setG lo .leaf 0) (o := o) hGn hn hq (by omega) h0 (fun j v hj => by
    rw [setG_get] at hj
    by_cases hr : 0 ≤ j ∧ j < 0 + lo.length
    · rw [if_pos hr, Nat.sub_zero] at hj
      exact cellsG_get hlo j v hj
    · rw [if_neg hr] at hj; cases hj)
  have hself : addrOf (σ.ext nx ⟨q.blk, q.off + o, q.tot - o⟩) nx 0 = some a := by
    unfold addrOf at ha ⊢
    rw [hq] at ha
    simp only [Option.map_some, Option.some.injEq] at ha
    subst ha
    unfold Sig.ext
    rw [if_pos rfl]
    simp
  have hm : addrOf (σ.ext nx ⟨q.blk, q.off + o, q.tot - o⟩) nx lo.length = some (a.add m) := by
    have := addrOf_add (i := lo.length) hself
    rw [Nat.zero_add] at this
    rw [this, hll]
  have hnn : ((H.del n).set (.row e (q.tot - o) (setG lo .leaf 0) (fz - o) false) nx).get nx = some (.row e (q.tot - o) (setG lo .leaf 0) (fz - o) false) := by rw [PT.get_set, if_pos rfl]
  have hvs : ∀ {l : List V} {r : List Value}, VRs σ l r → VRs (σ.ext nx ⟨q.blk, q.off + o, q.tot - o⟩) l r := fun h => VRs.le hle _ _ h
  obtain ⟨w', r1, r2⟩ := storeCells_ok (P := P) hG ln news (setG lo .leaf 0) _ lo.length 0 (a.add m) w h1 hnn hc (hvs hv) (by omega) (by omega) (by rw [hm]; rfl) (fun j => by rw [Nat.zero_add]; exact addrOf_add hm)
  refine ⟨w', hle, r1, ?_⟩
  rw [growE_eq]
  have hn2 : (((H.del n).set (.row e (q.tot - o) (setG lo .leaf 0) (fz - o) false) nx).set (.row e (q.tot - o) (setG ln (setG lo .leaf 0) lo.length) (fz - o) false) nx).get nx = some (.row e (q.tot - o) (setG ln (setG lo .leaf 0) lo.length) (fz - o) false) := by rw [PT.get_set, if_pos rfl]
  have h3 := r2.turn (o' := .row e (lo.length + ln.length) (growCs lo ln) 0 false) hn2 (fun p ob hp hor => by
    obtain ⟨arr, l, hi, b1, b2, b3, b4, b5⟩ := hor
    have hp' : p = ⟨q.blk, q.off + o, q.tot - o⟩ := by
      unfold Sig.ext at hp
      rw [if_pos rfl] at hp
      simpa using hp.symm
    refine ⟨arr, l, hi, b1, b2, by rw [hp']; simp only; omega, fun j hj ht => b4 j (by omega) ht, fun j v hj => ?_⟩
    obtain ⟨_, u, c2, c3⟩ := b5 j v hj
    rw [growCs_get] at hj
    have hj' : j < lo.length + ln.length := by
      have := (List.getElem?_eq_some_iff.1 hj).1
      simpa using this
    exact ⟨hj', u, c2, c3⟩)
  refine h3.same fun x => ?_
  rw [PT.get_set, PT.get_set, PT.get_set, PT.get_set]
  split <;> rfl
end
end
end Go.Proofs.YtafhmagifoapfaaGreatDoor
namespace Go.Proofs.YtafhmagifoapfaaGreatDoor
open Go.RowKit
noncomputable section
def stopD : TypeDesc → Bool
  | .string => true
  | .slice _ => true
  | _ => false
theorem stopD_eq {d : TypeDesc} (h : stopD d = true) : d = .string ∨ ∃ e, d = .slice e := by
  cases d <;> simp [stopD] at h
  · exact .inl rfl
  · exact .inr ⟨_, rfl⟩
def grownV (e sz need : Nat) (lo ln : List V) (H : PT O) (nx : Nat) : V × PT O × Nat :=
  (nforce need fun need => .slu nx 0 need sz, growE e lo ln H nx)
/-- append, what is known of the types at hand. -/
def appendG (G e sz : Nat) (x : V) (sl n : Nat) (olds news : List V) (H : PT O) (nx : Nat) : Option (V × PT O × Nat) :=
  match x with
  | .sln => cond (Nat.beq n 0) (some (.sln, H, nx)) (some (grownV e sz (sl + n) olds news H nx))
  | .sz => cond (Nat.beq n 0) (some (.sz, H, nx)) none
  | .sl m o len cap => cond (Nat.ble (len + n) cap)
    (match H.get m with
      | some (.row rt k cs fz false) => cond (Nat.ble G m && Nat.ble (o + len * sz + news.length) k && Nat.ble fz (o + len * sz) && allC news)
        (PT.force (H.set (.row rt k (setG news cs (o + len * sz)) fz false) m) fun H => some (vsl m o (len + n) cap, H, nx)) none
      | _ => none)
    (some (grownV e sz (sl + n) olds news H nx))
  | .slu m o _len es => cond (Nat.beq n 0) (some (x, H, nx)) (match H.get m with
      | some (.row rt _k _cs fz false) => cond (Nat.ble G m && Nat.beq rt e && Nat.beq es sz && Nat.ble fz o && allC news && Nat.beq o 0)
        (PT.force (H.del m) fun H => some (grownV e sz (sl + n) olds news H nx)) none
      | _ => none)
  | _ => none
def appendE (TT : PT TD) (G : Nat) (t u : TypeId) (x y : V) (H : PT O) (nx : Nat) : Option (V × PT O × Nat) :=
  match TT.get t, TT.get u with
  | some d, some du => match sliceD d.d with
    | some e => match TT.get e, zeroE TT e, lenV x, lenV y with
      | some te, some z, some sl, some n =>
        cond (stopD du.d && Nat.beq (cellsV z).length te.i.size && Nat.ble G nx && Nat.ble ((sl + n) * te.i.bytes) 140737488355328 && Nat.ble (sl + n) 140737488355328)
          (match srcCells H te.i.size sl x, srcCells H te.i.size n y with
          | some olds, some news => appendG G e te.i.size x sl n olds news H nx
          | _, _ => none) none
      | _, _, _, _ => none
    | none => none
  | _, _ => none
section
variable {P : Program} {w0 w : World} {G nx : Nat} {σ : Sig} {H : PT O} {TT : PT TD}
theorem HR.del (h : HR w0 G σ H nx w) (n : Nat) : HR w0 G σ (H.del n) nx w := by
  have key : ∀ m x, (H.del n).get m = some x → H.get m = some x := fun m x hm => by
    rw [PT.get_del] at hm
    by_cases e : m = n
    · rw [if_pos e] at hm; cases hm
    · rw [if_neg e] at hm; exact hm
  have key' : ∀ m, (H.del n).get m ≠ none → H.get m ≠ none := fun m hm => by
    obtain ⟨x, hx⟩ := Option.ne_none_iff_exists'.1 hm
    rw [key m x hx]; simp
  exact ⟨h.below, h.dom, fun m x hm => h.obj m x (key m x hm), h.high, fun m1 m2 q r h1 h2 => h.apart m1 m2 q r (key' m1 h1) (key' m2 h2)⟩
theorem appendE_ok (hT : TTok P TT) (h : HR w0 G σ H nx w) {t u ty : TypeId} {x y v : V} {xu yu : Value} {H' : PT O} {nx' : Nat} (ha : appendE TT G t u x y H nx = some (v, H', nx')) (hx : VR σ x xu) (hy : VR σ y yu) :
    ∃ σ' r w', σ.le σ' ∧ HR w0 G σ' H' nx' w' ∧ VR σ' v r ∧ (Builtin.append_ #[t, u] ty #[xu, yu]).run P w = .ok r w' := by
  unfold appendE at ha
  split at ha
  · rename_i d du hd hdu
    cases hsd : sliceD d.d with
    | none => rw [hsd] at ha; cases ha
    | some e =>
      rw [hsd] at ha
      simp only at ha
      split at ha
      · rename_i te z sl n hte hz hsl hn
        cases hcc : (stopD du.d && Nat.beq (cellsV z).length te.i.size && Nat.ble G nx && Nat.ble ((sl + n) * te.i.bytes) 140737488355328 && Nat.ble (sl + n) 140737488355328) with
        | false => rw [hcc] at ha; cases ha
        | true =>
          rw [hcc] at ha
          simp only [cond_true] at ha
          simp only [Bool.and_eq_true] at hcc
          obtain ⟨⟨⟨⟨c1, c2⟩, c3⟩, c4⟩, c5⟩ := hcc
          have c1 := stopD_eq c1
          have c2 := Nat.eq_of_beq_eq_true c2
          have c3 := Nat.le_of_ble_eq_true c3
          have c4 := Nat.le_of_ble_eq_true c4
          have c5 := Nat.le_of_ble_eq_true c5
          split at ha
          · rename_i lo ln hlo hln
            obtain ⟨i, zu, hi, hzz, hzv⟩ := zeroE_zero hT hz
            have hti : te.i = i := by have := (hT e te hte).2; rw [hi] at this; simpa using this.symm
            subst hti
            have ht : P.underlying t = some (.slice e) := (hT t d hd).1.trans (congrArg some (sliceD_eq hsd))
            have hu : P.underlying u = some du.d := (hT u du hdu).1
            obtain ⟨olds, o1, o2, o3, o4⟩ := srcCells_ok (P := P) h hlo hx
            obtain ⟨news, n1, n2, n3, n4⟩ := srcCells_ok (P := P) h hln hy
            have hsrc : SrcR P w te.i.size yu n news := ⟨fun w' => lenV_ok hn hy w', n1, n3, n4⟩
            have l1 := VRs_length o2
            have l2 := VRs_length n2
            have hzs : zu.cells.size = te.i.size := by
              have := VRs_length (cellsV_ok (hzv σ))
              rw [← c2, ← Array.length_toList, this]
            -- a new row
            have hnew : ∀ {base : Option Addr} {sCap : Nat} {H1 : PT O} , HR w0 G σ H1 nx w → xu = .slice base sl sCap → sCap < sl + n → (v, H', nx') = grownV e te.i.size (sl + n) lo ln H1 nx →
                ∃ σ' r w', σ.le σ' ∧ HR w0 G σ' H' nx' w' ∧ VR σ' v r ∧ (Builtin.append_ #[t, u] ty #[xu, yu]).run P w = .ok r w' := fun {base sCap H1} h1 ex hg ev => by
              subst ex
              have hge := grownCap_ge w (sl + n) sCap e
              have hr := run_append_out (P := P) (ty := ty) ht hu c1 hi hzz hsrc o4 hg (by omega) (growslice_fits hg c4)
              have hgr := grow_ok h1 c3 (e := e) (zs := Builtin.zeroCells zu.cells (grownCap w (sl + n) sCap e - (sl + n))) o2 n2
              unfold grownV at ev
              rw [nforce_eq] at ev
              simp only [Prod.mk.injEq] at ev
              obtain ⟨rfl, ev⟩ := ev
              have e1 : H' = (growE e lo ln H1 nx).1 := by rw [← ev]
              have e2 : nx' = (growE e lo ln H1 nx).2 := by rw [← ev]
              rw [← e1, ← e2] at hgr
              refine ⟨_, _, _, Sig.le_ext (h.dom nx (Nat.le_refl _)), hgr, ?_, hr⟩
              simp only [VR]
              refine ⟨?_, trivial, hge, _, by unfold Sig.ext; rw [if_pos rfl], ?_⟩
              · unfold addrOf Sig.ext; rw [if_pos rfl]; simp
              · simp only [size_zeroCells, hzs, ← l1, ← l2, o1, n1, Nat.zero_add]
                rw [← Nat.add_mul, ← Nat.add_mul]
                congr 1; omega
            unfold appendG at ha
            split at ha
            · -- nothing yet
              cases xu with
              | slice a l c =>
                cases a with
                | some a => simp [VR] at hx
                | none =>
                  cases l with
                  | succ _ => simp [VR] at hx
                  | zero =>
                    cases c with
                    | succ _ => simp [VR] at hx
                    | zero =>
                      simp only [lenV, Option.some.injEq] at hsl
                      subst hsl
                      cases hb : Nat.beq n 0 with
                      | true =>
                        rw [hb] at ha
                        simp only [cond_true, Option.some.injEq, Prod.mk.injEq] at ha
                        obtain ⟨rfl, rfl, rfl⟩ := ha
                        have hn0 := Nat.eq_of_beq_eq_true hb
                        subst hn0
                        exact ⟨σ, .slice none 0 0, w, Sig.le_refl σ, h, trivial, run_append_in (P := P) (ty := ty) ht hu c1 hi hsrc (Nat.le_refl _)⟩
                      | false =>
                        rw [hb] at ha
                        simp only [cond_false, Option.some.injEq] at ha
                        have hn0 : n ≠ 0 := fun e => by rw [beqT e] at hb; cases hb
                        exact hnew h rfl (by omega) ha.symm
              | _ => simp [VR] at hx
            · cases hb : Nat.beq n 0 with
              | false => rw [hb] at ha; cases ha
              | true =>
                rw [hb] at ha
                simp only [cond_true, Option.some.injEq, Prod.mk.injEq] at ha
                obtain ⟨rfl, rfl, rfl⟩ := ha
                have hn0 := Nat.eq_of_beq_eq_true hb
                subst hn0
                have hnil : news = [] := List.eq_nil_of_length_eq_zero (by rw [n1, Nat.zero_mul])
                simp only [lenV, Option.some.injEq] at hsl
                subst hsl
                obtain ⟨a, c, rfl⟩ := VR_sz hx
                refine ⟨σ, .slice (some a) 0 c, w, Sig.le_refl σ, h, hx, ?_⟩
                rw [run_append_in (P := P) (ty := ty) ht hu c1 hi hsrc (by omega), hnil]
                rfl
            · rename_i m o len cap
              cases xu with
              | slice a l c =>
                cases a with
                | none => simp [VR] at hx
                | some a =>
                  simp only [VR] at hx
                  obtain ⟨haa, rfl, rfl, hlc⟩ := hx
                  simp only [lenV, Option.some.injEq] at hsl
                  subst hsl
                  cases hb : Nat.ble (len + n) cap with
                  | false =>
                    rw [hb] at ha
                    simp only [cond_false, Option.some.injEq] at ha
                    have : ¬ (len + n ≤ cap) := fun e => by rw [Nat.ble_eq_true_of_le e] at hb; cases hb
                    exact hnew h rfl (by omega) ha.symm
                  | true =>
                    rw [hb] at ha
                    have hb := Nat.le_of_ble_eq_true hb
                    simp only [cond_true] at ha
                    split at ha
                    · rename_i rt k cs fz hm
                      cases hc : (Nat.ble G m && Nat.ble (o + len * te.i.size + ln.length) k && Nat.ble fz (o + len * te.i.size) && allC ln) with
                      | false => rw [hc] at ha; cases ha
                      | true =>
                        rw [hc] at ha
                        simp only [cond_true, PT.force_eq, vsl_eq, Option.some.injEq, Prod.mk.injEq] at ha
                        obtain ⟨rfl, rfl, rfl⟩ := ha
                        simp only [Bool.and_eq_true] at hc
                        obtain ⟨⟨⟨d1, d2⟩, d3⟩, d4⟩ := hc
                        have d1 := Nat.le_of_ble_eq_true d1
                        have d2 := Nat.le_of_ble_eq_true d2
                        have d3 := Nat.le_of_ble_eq_true d3
                        have hadd := addrOf_add (i := len * te.i.size) haa
                        obtain ⟨w', r1, r2⟩ := storeCells_ok (P := P) d1 ln news cs H (o + len * te.i.size) 0 (a.add (len * te.i.size)) w h hm d4 n2 d2 d3 (by rw [hadd]; rfl) (fun j => by rw [Nat.zero_add]; exact addrOf_add hadd)
                        refine ⟨σ, .slice (some a) (len + n) cap, w', Sig.le_refl σ, r2, by simp only [VR]; exact ⟨haa, trivial, trivial, hb⟩, ?_⟩
                        rw [run_append_in (P := P) (ty := ty) ht hu c1 hi hsrc hb]
                        simp only [r1, Result.andThen_ok]
                    · cases ha
              | _ => simp [VR] at hx
            · rename_i m o len es
              have hx0 := hx
              cases xu with
              | slice a l c =>
                cases a with
                | none => simp [VR] at hx
                | some a =>
                  simp only [VR] at hx
                  obtain ⟨haa, rfl, hlc, q, hq, hqt⟩ := hx
                  simp only [lenV, Option.some.injEq] at hsl
                  subst hsl
                  cases hb : Nat.beq n 0 with
                  | true =>
                    rw [hb] at ha
                    simp only [cond_true, Option.some.injEq, Prod.mk.injEq] at ha
                    obtain ⟨rfl, rfl, rfl⟩ := ha
                    have hn0 := Nat.eq_of_beq_eq_true hb
                    subst hn0
                    have hnil : news = [] := List.eq_nil_of_length_eq_zero (by rw [n1, Nat.zero_mul])
                    refine ⟨σ, .slice (some a) len c, w, Sig.le_refl σ, h, hx0, ?_⟩
                    rw [run_append_in (P := P) (ty := ty) ht hu c1 hi hsrc (by omega), hnil]
                    rfl
                  | false =>
                    rw [hb] at ha
                    simp only [cond_false] at ha
                    have hn0 : n ≠ 0 := fun e => by rw [beqT e] at hb; cases hb
                    split at ha
                    · rename_i rt k cs fz hm
                      cases hc : (Nat.ble G m && Nat.beq rt e && Nat.beq es te.i.size && Nat.ble fz o && allC ln && Nat.beq o 0) with
                      | false => rw [hc] at ha; cases ha
                      | true =>
                        rw [hc] at ha
                        simp only [cond_true, PT.force_eq, Option.some.injEq] at ha
                        simp only [Bool.and_eq_true] at hc
                        obtain ⟨⟨⟨⟨⟨d1, d2⟩, d3⟩, d4⟩, d5⟩, d6⟩ := hc
                        have d6 := Nat.eq_of_beq_eq_true d6
                        have d1 := Nat.le_of_ble_eq_true d1
                        have d2 := Nat.eq_of_beq_eq_true d2
                        have d3 := Nat.eq_of_beq_eq_true d3
                        have d4 := Nat.le_of_ble_eq_true d4
                        subst d2
                        by_cases hroom : len + n ≤ c
                        · have hlo' : cellsG cs (len * te.i.size) o = some lo := by
                            simp only [srcCells, hm] at hlo
                            cases hble : Nat.ble len len with
                            | false => rw [hble] at hlo; cases hlo
                            | true => rw [hble] at hlo; exact hlo
                          have hmul : (len + n) * te.i.size ≤ c * te.i.size := Nat.mul_le_mul_right _ hroom
                          rw [Nat.add_mul] at hmul
                          rw [d3] at hqt
                          obtain ⟨w', r0, r1, r2⟩ := own_ok (P := P) h c3 d1 hm hq haa hlo' n2 d5 d6 d4 (by omega)
                          unfold grownV at ha
                          rw [nforce_eq] at ha
                          simp only [Prod.mk.injEq] at ha
                          obtain ⟨rfl, ev⟩ := ha
                          have e1 : H' = (growE rt lo ln (H.del m) nx).1 := by rw [ev]
                          have e2 : nx' = (growE rt lo ln (H.del m) nx).2 := by rw [ev]
                          rw [← e1, ← e2] at r2
                          refine ⟨_, .slice (some a) (len + n) c, w', r0, r2, ?_, ?_⟩
                          · simp only [VR]
                            refine ⟨?_, trivial, hroom, _, by unfold Sig.ext; rw [if_pos rfl], by simp only; omega⟩
                            unfold addrOf at haa ⊢
                            rw [hq] at haa
                            simp only [Option.map_some, Option.some.injEq] at haa
                            subst haa
                            unfold Sig.ext
                            rw [if_pos rfl]; simp
                          · rw [run_append_in (P := P) (ty := ty) ht hu c1 hi hsrc hroom]
                            simp only [r1, Result.andThen_ok]
                        · exact hnew (h.del m) rfl (by omega) ha.symm
                    · cases ha
              | _ => simp [VR] at hx
            · cases ha
          · cases ha
      · cases ha
  · cases ha
end
end
end Go.Proofs.YtafhmagifoapfaaGreatDoor
namespace Go.Proofs.YtafhmagifoapfaaGreatDoor
open Go.RowKit
noncomputable section
/-- Where a slice lies. -/
def baseV : V → Option (Nat × Nat × Nat)
  | .sl n o len _ => some (n, o, len)
  | .slu n o len _ => some (n, o, len)
  | _ => none
theorem baseV_ok {σ : Sig} {x : V} {u : Value} {n o len : Nat} (h : baseV x = some (n, o, len)) (hx : VR σ x u) : ∃ a c, u = .slice (some a) len c ∧ addrOf σ n o = some a := by
  cases x <;> simp only [baseV, Option.some.injEq, Prod.mk.injEq, reduceCtorEq] at h
  all_goals
    obtain ⟨rfl, rfl, rfl⟩ := h
    cases u with
    | slice a l c =>
      cases a with
      | none => simp [VR] at hx
      | some a =>
        simp only [VR] at hx
        obtain ⟨h1, rfl, _⟩ := hx
        exact ⟨a, c, rfl, h1⟩
    | _ => simp [VR] at hx
def dstLen : V → Option Nat
  | .sl _ _ len _ => some len
  | .slu _ _ len _ => some len
  | .sln => some 0
  | .sz => some 0
  | _ => none
theorem dstLen_ok {σ : Sig} {x : V} {u : Value} {n : Nat} (h : dstLen x = some n) (hx : VR σ x u) : ∃ base c, u = .slice base n c ∧ (base = none → n = 0) := by
  cases x <;> simp only [dstLen, Option.some.injEq, reduceCtorEq] at h
  all_goals
    subst h
    cases u with
    | slice a l c =>
      cases a with
      | none =>
        cases l with
        | succ _ => simp [VR] at hx
        | zero => first | exact ⟨none, c, rfl, fun _ => rfl⟩ | (simp [VR] at hx)
      | some a =>
        first
        | (simp only [VR] at hx; obtain ⟨h1, rfl, _⟩ := hx; exact ⟨some a, c, rfl, fun e => by cases e⟩)
        | (simp [VR] at hx; done)
        | (cases l <;> first | exact ⟨some a, c, rfl, fun e => by cases e⟩ | (simp [VR] at hx; done))
    | _ => simp [VR] at hx
def copyE (TT : PT TD) (G : Nat) (t : TypeId) (x y : V) (H : PT O) : Option (V × PT O) :=
  match TT.get t with
  | some d => match sliceD d.d with
    | some e => match sizeE TT e, dstLen x, lenV y with
      | some sz, some dl, some sl =>
        nforce (Nat.min sl dl) fun n => match srcCells H sz n y with
        | some news => cond (Nat.beq n 0) (some (vi64 0, H)) (match baseV x with
          | some (m, o, _) => match H.get m with
            | some (.row rt k cs fz false) => cond (Nat.ble G m && Nat.ble (o + news.length) k && Nat.ble fz o && allC news)
              (PT.force (H.set (.row rt k (setG news cs o) fz false) m) fun H => some (vi64 n, H)) none
            | _ => none
          | none => none)
        | none => none
      | _, _, _ => none
    | none => none
  | none => none
section
variable {P : Program} {w0 w : World} {G nx : Nat} {σ : Sig} {H : PT O} {TT : PT TD}
theorem copyE_ok (hT : TTok P TT) (h : HR w0 G σ H nx w) {t u ty : TypeId} {x y v : V} {xu yu : Value} {H' : PT O} (ha : copyE TT G t x y H = some (v, H')) (hx : VR σ x xu) (hy : VR σ y yu) :
    ∃ r w', HR w0 G σ H' nx w' ∧ VR σ v r ∧ (Builtin.copy_ #[t, u] ty #[xu, yu]).run P w = .ok r w' := by
  unfold copyE at ha
  cases hd : TT.get t with
  | none => rw [hd] at ha; cases ha
  | some d =>
    rw [hd] at ha
    simp only at ha
    cases hsd : sliceD d.d with
    | none => rw [hsd] at ha; cases ha
    | some e =>
      rw [hsd] at ha
      simp only at ha
      have ht : P.underlying t = some (.slice e) := (hT t d hd).1.trans (congrArg some (sliceD_eq hsd))
      split at ha
      · rename_i sz dl sl hs hdl hsl
        obtain ⟨i, hi, rfl⟩ := sizeE_ok hT hs
        rw [nforce_eq] at ha
        have hlen := lenV_ok (P := P) hsl hy w
        obtain ⟨base, dc, rfl, hbn⟩ := dstLen_ok hdl hx
        cases hsrc : srcCells H i.size (Nat.min sl dl) y with
        | none => rw [hsrc] at ha; cases ha
        | some ln =>
          rw [hsrc] at ha
          simp only at ha
          obtain ⟨news, n1, n2, n3, _⟩ := srcCells_ok (P := P) h hsrc hy
          have run : (Builtin.copy_ #[t, u] ty #[.slice base dl dc, yu]).run P w = match base with
              | some a => ((storeCells a news).run P w).andThen fun _ w' => .ok (goInt (Nat.min sl dl)) w'
              | none => .ok (goInt (Nat.min sl dl)) w := by
            cases base <;> simp [Builtin.copy_, run_underlying ht, hlen, run_sizeOf hi, n3]
          cases hb : Nat.beq (Nat.min sl dl) 0 with
          | true =>
            rw [hb] at ha
            simp only [cond_true, vi64_eq, Option.some.injEq, Prod.mk.injEq] at ha
            obtain ⟨rfl, rfl⟩ := ha
            have h0 := Nat.eq_of_beq_eq_true hb
            have hnil : news = [] := List.eq_nil_of_length_eq_zero (by rw [n1, h0, Nat.zero_mul])
            refine ⟨goInt (0 : Nat), w, h, ⟨rfl, rfl⟩, ?_⟩
            rw [run, h0, hnil]
            cases base <;> rfl
          | false =>
            rw [hb] at ha
            simp only [cond_false] at ha
            cases hbv : baseV x with
            | none => rw [hbv] at ha; cases ha
            | some p =>
              obtain ⟨m, o, len⟩ := p
              rw [hbv] at ha
              simp only at ha
              obtain ⟨a, c, hau, haa⟩ := baseV_ok hbv hx
              simp only [Value.slice.injEq] at hau
              obtain ⟨rfl, _, _⟩ := hau
              split at ha
              · rename_i rt k cs fz hm
                cases hc : (Nat.ble G m && Nat.ble (o + ln.length) k && Nat.ble fz o && allC ln) with
                | false => rw [hc] at ha; cases ha
                | true =>
                  rw [hc] at ha
                  simp only [cond_true, PT.force_eq, vi64_eq, Option.some.injEq, Prod.mk.injEq] at ha
                  obtain ⟨rfl, rfl⟩ := ha
                  simp only [Bool.and_eq_true] at hc
                  obtain ⟨⟨⟨d1, d2⟩, d3⟩, d4⟩ := hc
                  obtain ⟨w', r1, r2⟩ := storeCells_ok (P := P) (Nat.le_of_ble_eq_true d1) ln news cs H o 0 a w h hm d4 n2 (Nat.le_of_ble_eq_true d2) (Nat.le_of_ble_eq_true d3) (by rw [haa]; rfl) (fun j => by rw [Nat.zero_add]; exact addrOf_add haa)
                  refine ⟨goInt (Nat.min sl dl), w', r2, ⟨rfl, rfl⟩, ?_⟩
                  rw [run]
                  simp only [r1, Result.andThen_ok]
              · cases ha
      · cases ha
end
end
end Go.Proofs.YtafhmagifoapfaaGreatDoor
namespace Go.Proofs.YtafhmagifoapfaaGreatDoor
open Go.RowKit
noncomputable section
def u8D (TT : PT TD) (e : TypeId) : Bool := match TT.get e with
  | some d => match intD d.d with
    | some .u8 => true
    | _ => false
  | none => false
/-- []byte(s). -/
def toBytesE (TT : PT TD) (G : Nat) (src dst : TypeId) (len x : Nat) (H : PT O) (nx : Nat) : Option (V × PT O × Nat) :=
  match TT.get src, TT.get dst with
  | some s, some d => match sliceD d.d with
    | some e => cond (strD s.d && u8D TT e && Nat.ble G nx) (some (nforce len fun len => .slu nx 0 len 1, growE e (bytesV len x) [] H nx)) none
    | none => none
  | _, _ => none
section
variable {P : Program} {w0 w : World} {G nx : Nat} {σ : Sig} {H : PT O} {TT : PT TD}
theorem u8D_ok (hT : TTok P TT) {e : TypeId} (h : u8D TT e = true) : P.underlying e = some (.int .u8) := by
  unfold u8D at h
  cases hd : TT.get e with
  | none => rw [hd] at h; cases h
  | some d =>
    rw [hd] at h
    simp only at h
    cases hi : intD d.d with
    | none => rw [hi] at h; cases h
    | some k =>
      rw [hi] at h
      have hk : k = .u8 := by cases k <;> simp at h <;> rfl
      subst hk
      rw [(hT e d hd).1]
      cases hh : d.d <;> rw [hh] at hi <;> simp [intD] at hi
      rw [hi]
theorem toBytesE_ok (hT : TTok P TT) (h : HR w0 G σ H nx w) {src dst : TypeId} {len x : Nat} {v : V} {H' : PT O} {nx' : Nat} (ha : toBytesE TT G src dst len x H nx = some (v, H', nx')) :
    ∃ σ' r w', σ.le σ' ∧ HR w0 G σ' H' nx' w' ∧ VR σ' v r ∧ (convert src dst (.string (bstr len x))).run P w = .ok r w' := by
  unfold toBytesE at ha
  split at ha
  · rename_i s d hs hd
    cases hsd : sliceD d.d with
    | none => rw [hsd] at ha; cases ha
    | some e =>
      rw [hsd] at ha
      simp only at ha
      cases hc : (strD s.d && u8D TT e && Nat.ble G nx) with
      | false => rw [hc] at ha; cases ha
      | true =>
        rw [hc] at ha
        simp only [cond_true, nforce_eq, growE_eq, Option.some.injEq, Prod.mk.injEq] at ha
        obtain ⟨rfl, rfl, rfl⟩ := ha
        simp only [Bool.and_eq_true] at hc
        have c1 := strD_eq hc.1.1
        have c2 := u8D_ok hT hc.1.2
        have c3 := Nat.le_of_ble_eq_true hc.2
        have hrun := run_bytes_of_string (P := P) w src dst e (bstr len x) ((hT src s hs).1.trans (congrArg some c1)) ((hT dst d hd).1.trans (congrArg some (sliceD_eq hsd))) c2
        have hge := grownCap_ge w (bstr len x).size 0 e
        rw [bstr_size] at hge hrun
        have hsz : (bytesRow (bstr len x) (grownCap w len 0 e)).size = grownCap w len 0 e := by
          unfold bytesRow
          rw [Array.size_append, Array.size_map, Array.size_replicate, bstr_size]
          have : (bstr len x).data.size = len := bstr_size len x
          omega
        have hle := Sig.le_ext (q := ⟨w.heap.size, 0, grownCap w len 0 e⟩) (h.dom nx (Nat.le_refl _))
        refine ⟨σ.ext nx ⟨w.heap.size, 0, grownCap w len 0 e⟩, _, _, hle, ?_, ?_, hrun⟩
        · refine h.drew.make (q := ⟨w.heap.size, 0, grownCap w len 0 e⟩) c3 rfl ?_
          have hb : (bytesV len x).length = len := by
            have := VRs_length (bytesV_ok (σ := σ) len x)
            simp [bytesOf_length] at this
            exact this.symm
          refine ⟨_, _, _, rfl, ⟨rfl, by simp only; omega⟩, by simp only [List.length_nil, hb]; omega, fun j _ hjt hh => by simp only at hjt hh; omega, fun j v hj => ?_⟩
          rw [growCs_get, List.append_nil] at hj
          obtain ⟨u, u1, u2⟩ := VRs_get (bytesV_ok (σ := σ) len x) hj
          have hj' : j < len := by
            have := (List.getElem?_eq_some_iff.1 hj).1
            omega
          refine ⟨by simp only [List.length_nil, hb]; omega, u, ?_, u2.le hle⟩
          rw [Nat.zero_add]
          unfold bytesRow
          rw [Array.getElem?_append_left (by rw [Array.size_map]; exact (by have : (bstr len x).data.size = len := bstr_size len x; omega)), ← Array.getElem?_toList, Array.toList_map, bstr_list]
          exact u1
        · simp only [VR]
          refine ⟨?_, trivial, hge, _, by unfold Sig.ext; rw [if_pos rfl], by simp only; omega⟩
          unfold addrOf Sig.ext; rw [if_pos rfl]; simp
  · cases ha
end
end
end Go.Proofs.YtafhmagifoapfaaGreatDoor
