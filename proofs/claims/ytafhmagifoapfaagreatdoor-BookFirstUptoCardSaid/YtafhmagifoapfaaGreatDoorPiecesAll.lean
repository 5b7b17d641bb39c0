/- src: pieces. -/
import Derived.Test.YtafhmagifoapfaaGreatDoorPieces
import Derived.Test.YtafhmagifoapfaaGreatDoorLexE
import Derived.WalkMore
namespace Go.Proofs.YtafhmagifoapfaaGreatDoor
open Go.RowKit Find Bk
attribute [local go_sem ↓] Go.wp_at_zero Go.wp_at_succ
theorem dep_cons {d : Nat} {t : Tok} {r : List Tok} (h : (dep d (t :: r)).isSome = true) : ∃ e, (dep e r).isSome = true ∧ e ≤ d + 1 ∧ (t.kind = 5 → d = e + 1) ∧ (t.kind ≠ 3 → e ≤ d) := by
  unfold dep at h
  split at h
  · exact ⟨d + 1, h, by omega, by omega, by omega⟩
  · split at h
    · split at h
      · cases h
      · exact ⟨d - 1, h, by omega, by omega, by omega⟩
    · split at h
      · split at h
        · exact ⟨0, h, by omega, by omega, by omega⟩
        · cases h
      · exact ⟨d, h, by omega, by omega, by omega⟩
/-- How far 'pieces' has come. -/
structure PcR (w : World) (F : Nat) (L : List Tok) (ts : List Tok) (a : Option Addr) (c : Nat) (s3 s4 : Value) (il : List Inl) (ks : List Nat) (lk f d : Nat) (wr : World) : Prop where
  at_ : ToksAt w a c ts
  out : wr.ownsRow w.heap.size 191 5 s3 il.length (inlsC il)
  opn : wr.ownsRow w.heap.size 189 1 s4 ks.length (ks.map fun (k : Nat) => Value.int .i64 k)
  bel : Below w.heap.size w wr
  eq : piecesF F L [] [] 0 = piecesF f ts (il.map Inl.pc) ks lk
  fuel : ts.length ≤ f
  dep : (dep d ts).isSome = true
  dks : d ≤ ks.length
  nil_ : il.length + 3 * ts.length ≤ 3 * L.length
  nks : ks.length + ts.length ≤ L.length
  txt : ∀ x ∈ ts, x.text.length ≤ 1000000
def PcRel (w : World) (F : Nat) (L : List Tok) (s0 s3 s4 s5 : Value) (wr : World) : Prop :=
  ∃ (ts : List Tok) (a : Option Addr) (c : Nat) (il : List Inl) (ks : List Nat) (lk f d : Nat), s0 = .slice a ts.length c ∧ s5 = .int .i64 lk ∧ PcR w F L ts a c s3 s4 il ks lk f d wr
def sliceLen : Value → Nat
  | .slice _ n _ => n
  | _ => 0
def PiecesPost (r : Except Flt (List Pc)) (w : World) (e : Ending) (w' : World) : Prop := Below w.heap.size w w' ∧ (match r with
  | .error f => ∃ v, e = .panicked [{ v := .iface 50 (.agg #[v]), recovered := false }] ∧ FltV w' v f
  | .ok l => ∃ v il, e = .returned v ∧ il.map Inl.pc = l ∧ w'.ownsRow w.heap.size 191 5 v il.length (inlsC il))
theorem info_inl : (Tryz.prog.info? 191).map (fun i => (i.zero, i.size, i.bytes)) = some (some (.agg #[.int .i64 0, .string ⟨#[]⟩, .string ⟨#[]⟩, .int .i64 0, .int .i64 0]), 5, 56) := by kernel_rfl
theorem info_ink : (Tryz.prog.info? 189).map (fun i => (i.zero, i.size, i.bytes)) = some (some (.int .i64 0), 1, 8) := by kernel_rfl
theorem cell_one_newP (w : World) (v : Value) (t : TypeId) : ∀ j u, [v][j]? = some u → (w.alloc (.cells #[v] t)).cell? ((⟨w.heap.size, 0, none⟩ : Addr).add j) = some u := World.news_of_block (cs := #[v]) (heap_alloc_new w _)
/-- A slice without its first k tokens, as the machine cuts it. -/
theorem slice_cut (g o n c k : Nat) (hk : k ≤ n) (hc : n ≤ c) (W : World) : (Instr.slice 45 (.slice (some ⟨g, o, none⟩) n c) (some (.int .i64 k)) none none).run Tryz.prog W = .ok (cutV g o n c k) W := by
  have hu : Tryz.prog.underlying 45 = some (.slice 59) := by kernel_rfl
  have hsz : (sizeOf 59).run Tryz.prog W = .ok 5 W := by kernel_rfl
  have h1 : (0 : Int) ≤ (k : Int) ∧ (k : Int) ≤ (n : Int) := by omega
  unfold Instr.slice
  simp only [Sem.run_bind, run_underlying hu, Result.andThen_ok, Instr.sliceBounds, Instr.sliceBound, asIntOf, Sem.run_pure, h1, if_true, and_self, hsz]
  unfold cutV
  simp
  by_cases hck : c = k
  · simp [hck]
  · rw [if_neg hck, if_neg (by omega)]
    simp [Addr.add]
theorem pf_run {t : Tok} {r : List Tok} {f : Nat} {out : List Pc} {ks : List Nat} {lk : Nat} (h : t.kind = 6) : piecesF (f + 1) (t :: r) out ks lk = piecesF f r (out ++ [(1, t.text.length)]) ks lk := by
  conv => lhs; unfold piecesF
  simp [h]
theorem pf_close {t : Tok} {r : List Tok} {f : Nat} {out : List Pc} {ks : List Nat} {lk : Nat} (h : t.kind = 5) : piecesF (f + 1) (t :: r) out ks lk = piecesF f r (out ++ [(5, 0)]) ks.dropLast (if ks.getLast? = some 3 ∨ ks.getLast? = some 4 then 0 else lk) := by
  conv => lhs; unfold piecesF
  simp [h]
theorem pf_bar {t : Tok} {r : List Tok} {f : Nat} {out : List Pc} {ks : List Nat} {lk : Nat} (h : t.kind = 4) : piecesF (f + 1) (t :: r) out ks lk = .error ⟨55, t.line, t.col, []⟩ := by
  conv => lhs; unfold piecesF
  simp [h]
theorem pf_tab0 {t : Tok} {r : List Tok} {f : Nat} {out : List Pc} {ks : List Nat} {lk : Nat} (h6 : t.kind ≠ 6) (h5 : t.kind ≠ 5) (h4 : t.kind ≠ 4) (h : t.name = [116, 97, 98] ∨ t.name = [98, 114]) : piecesF (f + 1) (t :: r) out ks lk = (match r with | c :: r => if c.kind = 5 then piecesF f r (out ++ [(if t.name = [98, 114] then 7 else 6, 0)]) ks lk else .error (t.flt 55) | [] => .error (t.flt 55)) := by
  conv => lhs; unfold piecesF
  simp [h6, h5, h4, h]
  cases r <;> rfl
theorem pf_link0 {t : Tok} {r : List Tok} {f : Nat} {out : List Pc} {ks : List Nat} {lk : Nat} (h6 : t.kind ≠ 6) (h5 : t.kind ≠ 5) (h4 : t.kind ≠ 4) (h1 : ¬ (t.name = [116, 97, 98] ∨ t.name = [98, 114])) (h : t.name = [108, 105, 110, 107] ∨ t.name = [110, 111, 116, 101]) :
    piecesF (f + 1) (t :: r) out ks lk = (match targetF t r lk with
      | .error e => .error e
      | .ok nm => match r with
        | _ :: c :: r => if c.kind = 5 then piecesF f r (out ++ [(if t.name = [110, 111, 116, 101] then 4 else 3, 0)] ++ [(1, nm.length), (5, 0)]) ks lk else piecesF f r (out ++ [(if t.name = [110, 111, 116, 101] then 4 else 3, 0)]) (ks ++ [if t.name = [110, 111, 116, 101] then 4 else 3]) 1
        | _ => .error (t.flt 55)) := by
  conv => lhs; unfold piecesF
  simp only [h6, h5, h4, h1, h, if_true, if_false]
  unfold targetF
  rcases r with _ | ⟨a, _ | ⟨c, r⟩⟩
  · rfl
  · rfl
  · simp only
    by_cases hb : lk = 1 ∨ a.kind ≠ 6 ∨ (c.kind ≠ 4 ∧ c.kind ≠ 5)
    · rw [if_pos hb, if_pos hb]
    · rw [if_neg hb, if_neg hb]
      by_cases hf : fitsF (tidyF a.text) 64 = false
      · rw [if_pos hf, if_pos hf]
      · rw [if_neg hf, if_neg hf]
theorem pf_style {t : Tok} {r : List Tok} {f : Nat} {out : List Pc} {ks : List Nat} {lk : Nat} (h6 : t.kind ≠ 6) (h5 : t.kind ≠ 5) (h4 : t.kind ≠ 4) (h1 : ¬ (t.name = [116, 97, 98] ∨ t.name = [98, 114])) (h2 : ¬ (t.name = [108, 105, 110, 107] ∨ t.name = [110, 111, 116, 101])) :
    piecesF (f + 1) (t :: r) out ks lk = piecesF f r (out ++ [(2, 0)]) (ks ++ [2]) lk := by
  conv => lhs; unfold piecesF
  simp only [h6, h5, h4, h1, h2, if_false]
theorem cell_alP {w : World} {a : Addr} {v : Value} (h : w.cell? a = some v) (o : Obj) : (w.alloc o).cell? a = some v := (World.cell?_alloc_lt _ _ a (World.block_lt_of_cell? w a h)).trans h
theorem last_eqG {α : Type} {l : List α} {x : α} (h : l.getLast? = some x) : l = l.dropLast ++ [x] := by
  obtain ⟨ys, hy⟩ := List.getLast?_eq_some_iff.1 h
  rw [hy]; simp
theorem ks_snoc (ks : List Nat) (k : Nat) : ((ks ++ [k]).map fun (k : Nat) => Value.int .i64 k) = (ks.map fun (k : Nat) => Value.int .i64 k) ++ [.int .i64 k] := by simp
theorem pc_snoc (il : List Inl) (x : Inl) : (il ++ [x]).map Inl.pc = il.map Inl.pc ++ [x.pc] := by simp
set_option maxHeartbeats 12800000 in
set_option maxRecDepth 100000 in
theorem pieces_any (a : Option Addr) (c : Nat) (L : List Tok) (w : World) (h : ToksAt w a c L) (hx : ∀ x ∈ L, x.text.length ≤ 1000000) (hd : (dep 0 L).isSome = true) (hL : L.length ≤ 1000000) :
    Calls Tryz.prog 57 #[.slice a L.length c] w (PiecesPost (piecesF L.length L [] [] 0) w) := by
  obtain ⟨i0, hi0, hz0, hz1, hz2⟩ := info_parts info_inl
  obtain ⟨j0, hj0, hy0, hy1, hy2⟩ := info_parts info_ink
  obtain ⟨R, hR⟩ : ∃ R, piecesF L.length L [] [] 0 = R := ⟨_, rfl⟩
  rw [hR]
  have HR := Lib.hid hR
  have HST : Hid (PcRel w L.length L (.slice a L.length c) (.slice none 0 0) (.slice none 0 0) (.int .i64 0) w) := Lib.hid (⟨L, a, c, [], [], 0, L.length, 0, rfl, rfl, h, World.ownsRow_nil _ _ _ _, World.ownsRow_nil _ _ _ _, Below.refl _ _, rfl, Nat.le_refl _, hd, Nat.zero_le _, by simp, by simp, hx⟩)
  clear h hx hd hR
  go_enter Tryz.func57, Tryz.ntmps57
  go_wp2
  go_step3
  go_wp2
  go_step3
  go_wp2
  go_loopw [0, 3, 4, 5] (fun s0 s3 s4 s5 wr => PcRel w L.length L s0 s3 s4 s5 wr) (fun s0 _ _ _ _ => sliceLen s0)
  case atStart => exact HST.out
  case round =>
    obtain ⟨W, hW⟩ : ∃ W, W = wr := ⟨wr, rfl⟩
    subst hW
    obtain ⟨ts, a, c, il, ks, lk, f, d, rfl, rfl, hp⟩ := hrel
    obtain ⟨a3, c3, rfl⟩ := owns_slice hp.out
    obtain ⟨a4, c4, rfl⟩ := owns_slice hp.opn
    have HO3 := Lib.hid hp.out
    have HO4 := Lib.hid hp.opn
    have HBW := Lib.hid hp.bel
    have hzW := hp.bel.size
    have hnil := hp.nil_
    have hnks := hp.nks
    have hfu := hp.fuel
    have HPE := Lib.hid hp
    clear hp
    rcases ts with _ | ⟨t, r⟩
    · have hpe := HPE.out.eq
      have HE := Lib.hid (show R = .ok (il.map Inl.pc) from by rw [← HR.out, hpe]; cases f <;> rfl)
      clear hpe
      go_wp2
      repeat rw [Exit.noGoto_ret]
      try simp (config := { zetaDelta := true }) only [Exit.inBlock, Exit.noGoto_ret, Exit.then]
      go_ret
      rw [HE.out]
      exact ⟨HBW.out, _, il, rfl, rfl, HO3.out⟩
    obtain ⟨f, rfl⟩ : ∃ f', f = f' + 1 := ⟨f - 1, by simp at hfu; omega⟩
    obtain ⟨g, o, rfl, hg, e0, e1, e2, e3, e4⟩ := HPE.out.at_.first
    have hcap := HPE.out.at_.cap
    replace e0 := (HBW.out.cell (p := ⟨g, o, none⟩) hg).trans e0
    replace e1 := (HBW.out.cell (p := ⟨g, o + 1, none⟩) hg).trans e1
    replace e2 := (HBW.out.cell (p := ⟨g, o + 2, none⟩) hg).trans e2
    replace e3 := (HBW.out.cell (p := ⟨g, o + 3, none⟩) hg).trans e3
    replace e4 := (HBW.out.cell (p := ⟨g, o + 4, none⟩) hg).trans e4
    have hat1 := HPE.out.at_.drop 1 (by simp)
    have hdp := dep_cons HPE.out.dep
    obtain ⟨d1, hd1, hd2, hd3, hd4⟩ := hdp
    have hdk := HPE.out.dks
    have htx := HPE.out.txt
    have hpe := HPE.out.eq
    rw [HR.out] at hpe
    rw [List.length_cons] at hcap hnil hnks hfu ⊢
    obtain ⟨n, hn⟩ : ∃ n, r.length = n := ⟨_, rfl⟩
    have hsl : ∀ W, (Instr.slice 45 (.slice (some ⟨g, o, none⟩) (n + 1) c) (some (.int .i64 1)) none none).run Tryz.prog W = .ok (cutV g o (n + 1) c 1) W := fun W => slice_cut g o (n + 1) c 1 (by omega) (by omega) W
    rw [hn] at hcap hnil hnks hfu ⊢
    have HN := Lib.hid hn
    have HAT := Lib.hid hat1
    have HTX := Lib.hid htx
    have HD1 := Lib.hid hd1
    clear hat1 htx hd1 hn
    by_cases h6 : t.kind = 6
    · have HE := Lib.hid (show R = piecesF f r (il.map Inl.pc ++ [(1, t.text.length)]) ks lk from by rw [hpe, pf_run h6])
      have hdd : d1 ≤ ks.length := by have := hd4 (by omega); omega
      have k6 : ((t.kind : Int) == 6) = true := by rw [beq_iff_eq]; omega
      clear hpe hd2 hd3 hd4 h6
      go_wp2_with (first
        | (go_at_call 95; refine (piece_any 1 t t.text [] _).mono ?_; rintro e w2 ⟨rfl, hb2⟩; have dt0w2 : w2.cell? ⟨W.heap.size, 0, none⟩ = some (.int .i64 t.kind) := (hb2.cell (by simp)).trans (by simp); have dt1w2 : w2.cell? ⟨W.heap.size, 1, none⟩ = some (.string ⟨t.name.toArray⟩) := (hb2.cell (by simp)).trans (by simp); have dt2w2 : w2.cell? ⟨W.heap.size, 2, none⟩ = some (.string ⟨t.text.toArray⟩) := (hb2.cell (by simp)).trans (by simp); have dt3w2 : w2.cell? ⟨W.heap.size, 3, none⟩ = some (.int .i64 t.line) := (hb2.cell (by simp)).trans (by simp); have dt4w2 : w2.cell? ⟨W.heap.size, 4, none⟩ = some (.int .i64 t.col) := (hb2.cell (by simp)).trans (by simp); have hs2 : W.heap.size + 1 ≤ w2.heap.size := (by have := hb2.size; simpa using this); have HB2 : Hid (Below W.heap.size W w2) := Lib.hid (((Below.refl W.heap.size W).alloc (Nat.le_refl _) (.cells #[.int .i64 t.kind, .string ⟨t.name.toArray⟩, .string ⟨t.text.toArray⟩, .int .i64 t.line, .int .i64 t.col] 59)).trans (hb2.mono (by simp))); have ho2 := owns_new HO3.out HB2.out; have HP2 := Lib.hid (owns_new HO4.out HB2.out); clear hb2)
        | (at_builtin; go_loud (refine wpList_append_lies _ rfl _ _ 112 rfl w.heap.size 191 i0 _ 5 56 Tryz.underlying112 hi0 hz0 hz1 hz2 rfl (by omega) (.slice a3 il.length c3) il.length (inlsC il) rfl (ho2.alloc _) ⟨w2.heap.size, 0, none⟩ 1 1 [.int .i64 1, .string ⟨t.text.toArray⟩, .string ⟨#[]⟩, .int .i64 t.line, .int .i64 t.col] rfl rfl (World.news_of_block (cs := #[.int .i64 1, .string ⟨t.text.toArray⟩, .string ⟨#[]⟩, .int .i64 t.line, .int .i64 t.col]) (t := 191) (fr := (0, 0)) (heap_alloc_new w2 _)) (by simp [Value.oneCell']) (by omega) (by unfold maxLen; omega) (by omega) (by rw [World.size_alloc]; omega) (w2.heap.size + 1) (by rw [World.size_alloc]) ?_; intro g3 cap3 w4 hown3 hgrow3 hat3 hlt3; have HN3 := Lib.hid hown3; have HB4 : Hid (Below w.heap.size w w4) := Lib.hid ((((HBW.out.trans (HB2.out.mono hzW)).alloc (by omega) _).grown hgrow3 (by rw [World.size_alloc]; omega) fun k hk => (ho2.lt k hk).1)); have HP4 : Hid (w4.ownsRow w.heap.size 189 1 (.slice a4 ks.length c4) ks.length (ks.map fun (k : Nat) => Value.int .i64 k)) := Lib.hid (owns_chg ((HP2.out).alloc _) (Chg.grown (ho2.alloc _) hgrow3) (by decide)); have dt0w4 : w4.cell? ⟨W.heap.size, 0, none⟩ = some (.int .i64 t.kind) := (hgrow3.cell_far ⟨W.heap.size, 0, none⟩ (show W.heap.size < (w2.alloc _).heap.size by rw [World.size_alloc]; omega) (fun e => Nat.lt_irrefl _ (HO3.out.lt _ e.symm).2)).trans ((World.cell?_alloc_lt _ _ ⟨W.heap.size, 0, none⟩ (show W.heap.size < w2.heap.size by omega)).trans dt0w2); have dt1w4 : w4.cell? ⟨W.heap.size, 1, none⟩ = some (.string ⟨t.name.toArray⟩) := (hgrow3.cell_far ⟨W.heap.size, 1, none⟩ (show W.heap.size < (w2.alloc _).heap.size by rw [World.size_alloc]; omega) (fun e => Nat.lt_irrefl _ (HO3.out.lt _ e.symm).2)).trans ((World.cell?_alloc_lt _ _ ⟨W.heap.size, 1, none⟩ (show W.heap.size < w2.heap.size by omega)).trans dt1w2); have dt2w4 : w4.cell? ⟨W.heap.size, 2, none⟩ = some (.string ⟨t.text.toArray⟩) := (hgrow3.cell_far ⟨W.heap.size, 2, none⟩ (show W.heap.size < (w2.alloc _).heap.size by rw [World.size_alloc]; omega) (fun e => Nat.lt_irrefl _ (HO3.out.lt _ e.symm).2)).trans ((World.cell?_alloc_lt _ _ ⟨W.heap.size, 2, none⟩ (show W.heap.size < w2.heap.size by omega)).trans dt2w2); have dt3w4 : w4.cell? ⟨W.heap.size, 3, none⟩ = some (.int .i64 t.line) := (hgrow3.cell_far ⟨W.heap.size, 3, none⟩ (show W.heap.size < (w2.alloc _).heap.size by rw [World.size_alloc]; omega) (fun e => Nat.lt_irrefl _ (HO3.out.lt _ e.symm).2)).trans ((World.cell?_alloc_lt _ _ ⟨W.heap.size, 3, none⟩ (show W.heap.size < w2.heap.size by omega)).trans dt3w2); have dt4w4 : w4.cell? ⟨W.heap.size, 4, none⟩ = some (.int .i64 t.col) := (hgrow3.cell_far ⟨W.heap.size, 4, none⟩ (show W.heap.size < (w2.alloc _).heap.size by rw [World.size_alloc]; omega) (fun e => Nat.lt_irrefl _ (HO3.out.lt _ e.symm).2)).trans ((World.cell?_alloc_lt _ _ ⟨W.heap.size, 4, none⟩ (show W.heap.size < w2.heap.size by omega)).trans dt4w2); clear hown3 hgrow3 hat3))
        | fail)
      refine ⟨⟨r, _, c - 1, il ++ [⟨1, t.text, [], t.line, t.col⟩], ks, lk, f, d1, by unfold cutV; rw [HN.out]; rfl, rfl, ⟨HAT.out, by rw [List.length_append, inlsC_snoc]; exact HN3.out, HP4.out, HB4.out, ?_, by rw [HN.out]; omega, HD1.out, ?_, ?_, ?_, fun x hx => HTX.out x (List.mem_cons_of_mem _ hx)⟩⟩, ?_⟩
      · rw [HR.out, HE.out]; rw [pc_snoc]; rfl
      · exact hdd
      · rw [HN.out]; rw [List.length_append]; simp only [List.length_cons, List.length_nil]; omega
      · rw [HN.out]; omega
      · show n + 1 - 1 < n + 1; omega
    by_cases h5 : t.kind = 5
    · have hk1 : 1 ≤ ks.length := by have := hd3 h5; omega
      have hne : ks ≠ [] := fun e => by rw [e] at hk1; simp at hk1
      obtain ⟨kk, kl, hks⟩ : ∃ kk kl, ks = kk ++ [kl] := ⟨ks.dropLast, ks.getLast hne, last_eqG (List.getLast?_eq_some_getLast hne)⟩
      have HE := Lib.hid (show R = piecesF f r (il.map Inl.pc ++ [(5, 0)]) kk (if kl = 3 ∨ kl = 4 then 0 else lk) from by rw [hpe, pf_close h5, hks]; simp)
      have hdd : d1 ≤ kk.length := by have := hd3 h5; rw [hks] at hdk; simp at hdk; omega
      obtain ⟨q, hq⟩ : ∃ q, kk.length = q := ⟨_, rfl⟩
      have hkq : ks.length = q + 1 := by rw [hks, ← hq]; simp
      have HQ := Lib.hid hq
      have HKS := Lib.hid hks
      rw [hkq] at HO4 hnks
      have k6 : ((t.kind : Int) == 6) = false := by rw [beq_eq_false_iff_ne]; omega
      have k5 : ((t.kind : Int) == 5) = true := by rw [beq_iff_eq]; omega
      have hrow : ∃ g4, a4 = some ⟨g4, 0, none⟩ ∧ q + 1 ≤ c4 := by
        rcases HO4.out.2 with ⟨_, h0⟩ | ⟨g4, cap4, cur4, he, _, _, h3, _⟩
        · omega
        · cases he; exact ⟨g4, rfl, h3⟩
      obtain ⟨g4, rfl, hc4⟩ := hrow
      have hqb : q ≤ 1000000 := by omega
      have hq4 : q ≤ c4 := by omega
      have hq5 : (q : Int) ≤ (c4 : Int) := by omega
      have ek3 : ((kl : Int) == 3) = (kl == 3) := by rw [Bool.eq_iff_iff]; simp; omega
      have ek4 : ((kl : Int) == 4) = (kl == 4) := by rw [Bool.eq_iff_iff]; simp; omega
      obtain ⟨b3, hb3⟩ : ∃ b, (kl == 3) = b := ⟨_, rfl⟩
      obtain ⟨b4, hb4⟩ : ∃ b, (kl == 4) = b := ⟨_, rfl⟩
      have HL : Hid ((if kl = 3 ∨ kl = 4 then 0 else lk) = if (b3 || b4) = true then 0 else lk) := Lib.hid (by rw [← hb3, ← hb4]; congr 1; simp)
      rw [hb3] at ek3
      rw [hb4] at ek4
      clear hpe hd2 hd3 hd4 h5 hks hq hdk hne hk1
      cases b3 <;> cases b4
      all_goals
        go_wp2_with (first
          | (go_at_call 95; refine (piece_any 5 t [] [] _).mono ?_; rintro e w2 ⟨rfl, hb2⟩; have dt0w2 : w2.cell? ⟨W.heap.size, 0, none⟩ = some (.int .i64 t.kind) := (hb2.cell (by simp)).trans (by simp); have dt1w2 : w2.cell? ⟨W.heap.size, 1, none⟩ = some (.string ⟨t.name.toArray⟩) := (hb2.cell (by simp)).trans (by simp); have dt2w2 : w2.cell? ⟨W.heap.size, 2, none⟩ = some (.string ⟨t.text.toArray⟩) := (hb2.cell (by simp)).trans (by simp); have dt3w2 : w2.cell? ⟨W.heap.size, 3, none⟩ = some (.int .i64 t.line) := (hb2.cell (by simp)).trans (by simp); have dt4w2 : w2.cell? ⟨W.heap.size, 4, none⟩ = some (.int .i64 t.col) := (hb2.cell (by simp)).trans (by simp); have hs2 : W.heap.size + 1 ≤ w2.heap.size := (by have := hb2.size; simpa using this); have HB2 : Hid (Below W.heap.size W w2) := Lib.hid (((Below.refl W.heap.size W).alloc (Nat.le_refl _) (.cells #[.int .i64 t.kind, .string ⟨t.name.toArray⟩, .string ⟨t.text.toArray⟩, .int .i64 t.line, .int .i64 t.col] 59)).trans (hb2.mono (by simp))); have ho2 := owns_new HO3.out HB2.out; have HP2 := Lib.hid (owns_new HO4.out HB2.out); clear hb2)
          | (at_builtin; go_loud (refine wpList_append_lies _ rfl _ _ 112 rfl w.heap.size 191 i0 _ 5 56 Tryz.underlying112 hi0 hz0 hz1 hz2 rfl (by omega) (.slice a3 il.length c3) il.length (inlsC il) rfl (ho2.alloc _) ⟨w2.heap.size, 0, none⟩ 1 1 [.int .i64 5, .string ⟨#[]⟩, .string ⟨#[]⟩, .int .i64 t.line, .int .i64 t.col] rfl rfl (World.news_of_block (cs := #[.int .i64 5, .string ⟨#[]⟩, .string ⟨#[]⟩, .int .i64 t.line, .int .i64 t.col]) (t := 191) (fr := (0, 0)) (heap_alloc_new w2 _)) (by simp [Value.oneCell']) (by omega) (by unfold maxLen; omega) (by omega) (by rw [World.size_alloc]; omega) (w2.heap.size + 1) (by rw [World.size_alloc]) ?_; intro g3 cap3 w4 hown3 hgrow3 hat3 hlt3; have HN3 := Lib.hid hown3; have HB4 : Hid (Below w.heap.size w w4) := Lib.hid ((((HBW.out.trans (HB2.out.mono hzW)).alloc (by omega) _).grown hgrow3 (by rw [World.size_alloc]; omega) fun k hk => (ho2.lt k hk).1)); have HP4 : Hid (w4.ownsRow w.heap.size 189 1 (.slice (some ⟨g4, 0, none⟩) (q + 1) c4) (q + 1) (ks.map fun (k : Nat) => Value.int .i64 k)) := Lib.hid (owns_chg ((HP2.out).alloc _) (Chg.grown (ho2.alloc _) hgrow3) (by decide)); have dt0w4 : w4.cell? ⟨W.heap.size, 0, none⟩ = some (.int .i64 t.kind) := (hgrow3.cell_far ⟨W.heap.size, 0, none⟩ (show W.heap.size < (w2.alloc _).heap.size by rw [World.size_alloc]; omega) (fun e => Nat.lt_irrefl _ (HO3.out.lt _ e.symm).2)).trans ((World.cell?_alloc_lt _ _ ⟨W.heap.size, 0, none⟩ (show W.heap.size < w2.heap.size by omega)).trans dt0w2); have dt1w4 : w4.cell? ⟨W.heap.size, 1, none⟩ = some (.string ⟨t.name.toArray⟩) := (hgrow3.cell_far ⟨W.heap.size, 1, none⟩ (show W.heap.size < (w2.alloc _).heap.size by rw [World.size_alloc]; omega) (fun e => Nat.lt_irrefl _ (HO3.out.lt _ e.symm).2)).trans ((World.cell?_alloc_lt _ _ ⟨W.heap.size, 1, none⟩ (show W.heap.size < w2.heap.size by omega)).trans dt1w2); have dt2w4 : w4.cell? ⟨W.heap.size, 2, none⟩ = some (.string ⟨t.text.toArray⟩) := (hgrow3.cell_far ⟨W.heap.size, 2, none⟩ (show W.heap.size < (w2.alloc _).heap.size by rw [World.size_alloc]; omega) (fun e => Nat.lt_irrefl _ (HO3.out.lt _ e.symm).2)).trans ((World.cell?_alloc_lt _ _ ⟨W.heap.size, 2, none⟩ (show W.heap.size < w2.heap.size by omega)).trans dt2w2); have dt3w4 : w4.cell? ⟨W.heap.size, 3, none⟩ = some (.int .i64 t.line) := (hgrow3.cell_far ⟨W.heap.size, 3, none⟩ (show W.heap.size < (w2.alloc _).heap.size by rw [World.size_alloc]; omega) (fun e => Nat.lt_irrefl _ (HO3.out.lt _ e.symm).2)).trans ((World.cell?_alloc_lt _ _ ⟨W.heap.size, 3, none⟩ (show W.heap.size < w2.heap.size by omega)).trans dt3w2); have dt4w4 : w4.cell? ⟨W.heap.size, 4, none⟩ = some (.int .i64 t.col) := (hgrow3.cell_far ⟨W.heap.size, 4, none⟩ (show W.heap.size < (w2.alloc _).heap.size by rw [World.size_alloc]; omega) (fun e => Nat.lt_irrefl _ (HO3.out.lt _ e.symm).2)).trans ((World.cell?_alloc_lt _ _ ⟨W.heap.size, 4, none⟩ (show W.heap.size < w2.heap.size by omega)).trans dt4w2); have kc : w4.cell? ⟨g4, q, none⟩ = some (.int .i64 kl) := (HP4.out.cellAt q (by omega)).trans (by rw [HKS.out, ks_snoc, ← HQ.out]; simp); clear hown3 hgrow3 hat3))
          | fail)
        refine ⟨⟨r, _, c - 1, il ++ [⟨5, [], [], t.line, t.col⟩], kk, _, f, d1, by unfold cutV; rw [HN.out]; rfl, rfl, ⟨HAT.out, by rw [List.length_append, inlsC_snoc]; exact HN3.out, by rw [HQ.out]; exact ownsRow_pop (last := [.int .i64 kl]) (by simp [HQ.out]) (by have := HP4.out; rw [HKS.out, ks_snoc] at this; exact this), HB4.out, ?_, by rw [HN.out]; omega, HD1.out, ?_, ?_, ?_, fun x hx => HTX.out x (List.mem_cons_of_mem _ hx)⟩⟩, ?_⟩
        · rw [HR.out, HE.out]; rw [pc_snoc, HL.out]; rfl
        · exact hdd
        · rw [HN.out]; rw [List.length_append]; simp only [List.length_cons, List.length_nil]; omega
        · rw [HN.out]; rw [HQ.out]; omega
        · show n + 1 - 1 < n + 1; omega
    by_cases h4 : t.kind = 4
    · have HE := Lib.hid (show R = .error ⟨55, t.line, t.col, []⟩ from by rw [hpe, pf_bar h4])
      have HS := Lib.hid (fun w => stop_any 55 t.line t.col [] w (by decide))
      have k6 : ((t.kind : Int) == 6) = false := by rw [beq_eq_false_iff_ne]; omega
      have k5 : ((t.kind : Int) == 5) = false := by rw [beq_eq_false_iff_ne]; omega
      have k4 : ((t.kind : Int) == 4) = true := by rw [beq_iff_eq]; omega
      clear hpe hd2 hd3 hd4 h6 h5 h4
      go_wp2_with (first | (go_at_call 56; refine (HS.out _).mono ?_; rintro e w9 ⟨v, rfl, hf, hb⟩) | fail)
      rw [Exit.noGoto_panic]
      refine ⟨rfl, ?_⟩
      rw [HE.out]
      exact ⟨HBW.out.trans ((((Below.refl W.heap.size W).alloc (Nat.le_refl _) _).trans (hb.mono (by rw [World.size_alloc]; omega))).mono hzW), v, rfl, hf⟩
    have k6 : ((t.kind : Int) == 6) = false := by rw [beq_eq_false_iff_ne]; omega
    have k5 : ((t.kind : Int) == 5) = false := by rw [beq_eq_false_iff_ne]; omega
    have k4 : ((t.kind : Int) == 4) = false := by rw [beq_eq_false_iff_ne]; omega
    by_cases htb : t.name = [116, 97, 98] ∨ t.name = [98, 114]
    · have hp0 := hpe.trans (pf_tab0 h6 h5 h4 htb)
      obtain ⟨kd, hkd⟩ : ∃ kd, (if t.name = [98, 114] then 7 else 6) = kd := ⟨_, rfl⟩
      rw [hkd] at hp0
      have hnm : ((t.name == [116, 97, 98]) = true ∧ (t.name == [98, 114]) = false ∧ kd = 6) ∨ ((t.name == [116, 97, 98]) = false ∧ (t.name == [98, 114]) = true ∧ kd = 7) := by
        rcases htb with h | h
        · left; rw [h] at hkd ⊢; exact ⟨by decide, by decide, by rw [← hkd]; decide⟩
        · right; rw [h] at hkd ⊢; exact ⟨by decide, by decide, by rw [← hkd]; decide⟩
      clear htb hkd hd3 hd4 hpe
      by_cases hbad : ∀ x q, r = x :: q → x.kind ≠ 5
      · have HE := Lib.hid (show R = .error (t.flt 55) from by
          rw [hp0]
          cases r with
          | nil => rfl
          | cons x q => simp only [hbad x q rfl, if_false])
        have HAL : Hid (∀ W', Below W.heap.size W W' → Calls Tryz.prog 96 #[tokV t, cutV g o (n + 1) c 1] W' (GetPost (.error (t.flt 55)) W')) := Lib.hid fun W' hbw => by
          have := alone_bad t _ (c - 1) r W' (HAT.out.below (HBW.out.trans (hbw.mono hzW))) hbad
          rw [HN.out] at this
          exact this
        clear hp0 hbad hd2 h6 h5 h4
        rcases hnm with ⟨n1, n2, rfl⟩ | ⟨n1, n2, rfl⟩
        all_goals
          go_wp2_with (first | (go_at_call 96; go_loud (refine (HAL.out _ ((Below.refl _ _).alloc (Nat.le_refl _) _)).mono ?_; rintro e w9 ⟨hb, v, rfl, hf⟩)) | fail)
          rw [Exit.noGoto_panic]
          refine ⟨rfl, ?_⟩
          rw [HE.out]
          exact ⟨HBW.out.trans ((((Below.refl W.heap.size W).alloc (Nat.le_refl _) _).trans (hb.mono (by rw [World.size_alloc]; omega))).mono hzW), v, rfl, hf⟩
      · obtain ⟨u, r2, rfl, hu5⟩ : ∃ u r2, r = u :: r2 ∧ u.kind = 5 := by
          apply Classical.byContradiction
          intro hno
          exact hbad fun x q e h5 => hno ⟨x, q, e, h5⟩
        have HE := Lib.hid (show R = piecesF f r2 (il.map Inl.pc ++ [(kd, 0)]) ks lk from by rw [hp0]; simp only [hu5, if_true])
        obtain ⟨m, hm⟩ : ∃ m, r2.length = m := ⟨_, rfl⟩
        have hnm1 : n = m + 1 := by rw [← HN.out, ← hm]; rfl
        subst hnm1
        have hat2 : ToksAt w (some ⟨g, o + 1 * 5, none⟩) (c - 1) (u :: r2) := by have := HAT.out; rw [if_neg (by omega)] at this; exact this
        have HM := Lib.hid hm
        have HAT2 := Lib.hid (hat2.drop 1 (by simp))
        have HAL : Hid (∀ W', Below W.heap.size W W' → Calls Tryz.prog 96 #[tokV t, cutV g o (m + 1 + 1) c 1] W' (GetPost (.ok (cutV g (o + 1 * 5) (m + 1) (c - 1) 1)) W')) := Lib.hid fun W' hbw => by
          have := alone_good t u g (o + 1 * 5) (c - 1) r2 W' (hat2.below (HBW.out.trans (hbw.mono hzW))) hu5
          rw [hm] at this
          have hcv : cutV g o (m + 1 + 1) c 1 = .slice (some ⟨g, o + 1 * 5, none⟩) (m + 1) (c - 1) := by unfold cutV; rw [if_neg (by omega)]; rfl
          rw [hcv]
          exact this
        obtain ⟨d2, he1, he2, he3, he4⟩ := dep_cons HD1.out
        have hdd : d2 ≤ ks.length := by have := he3 hu5; omega
        have HD2 := Lib.hid he1
        have hpc : ∀ z, kd = z → z ≠ 1 → (⟨kd, [], [], t.line, t.col⟩ : Inl).pc = (kd, 0) := fun z hz h1 => by unfold Inl.pc; simp only; rw [if_neg (by omega)]
        have HPC : Hid ((⟨kd, [], [], t.line, t.col⟩ : Inl).pc = (kd, 0)) := Lib.hid (by rcases hnm with ⟨_, _, h⟩ | ⟨_, _, h⟩ <;> exact hpc _ h (by decide))
        clear hp0 hbad hd2 h6 h5 h4 hm hat2 he1 he2 he3 he4 hu5 hpc
        rcases hnm with ⟨n1, n2, rfl⟩ | ⟨n1, n2, rfl⟩
        · go_wp2_with (first
            | (go_at_call 96; go_loud (refine (HAL.out _ ((Below.refl _ _).alloc (Nat.le_refl _) _)).mono ?_; rintro e wA ⟨hbA, rfl⟩; have dt0wA : wA.cell? ⟨W.heap.size, 0, none⟩ = some (.int .i64 t.kind) := (hbA.cell (by simp)).trans (by simp); have dt1wA : wA.cell? ⟨W.heap.size, 1, none⟩ = some (.string ⟨t.name.toArray⟩) := (hbA.cell (by simp)).trans (by simp); have dt2wA : wA.cell? ⟨W.heap.size, 2, none⟩ = some (.string ⟨t.text.toArray⟩) := (hbA.cell (by simp)).trans (by simp); have dt3wA : wA.cell? ⟨W.heap.size, 3, none⟩ = some (.int .i64 t.line) := (hbA.cell (by simp)).trans (by simp); have dt4wA : wA.cell? ⟨W.heap.size, 4, none⟩ = some (.int .i64 t.col) := (hbA.cell (by simp)).trans (by simp); have hswA : W.heap.size + 1 ≤ wA.heap.size := (by have := hbA.size; rw [World.size_alloc] at this; exact this); have HBwA : Hid (Below W.heap.size W wA) := Lib.hid (((Below.refl W.heap.size W).alloc (Nat.le_refl _) (.cells #[.int .i64 t.kind, .string ⟨t.name.toArray⟩, .string ⟨t.text.toArray⟩, .int .i64 t.line, .int .i64 t.col] 59)).trans (hbA.mono (by rw [World.size_alloc]; omega))); clear hbA HAL))
            | (go_at_call 95; go_loud (refine (piece_any 6 t [] [] _).mono ?_; rintro e w2 ⟨rfl, hb2⟩; have dt0w2 : w2.cell? ⟨W.heap.size, 0, none⟩ = some (.int .i64 t.kind) := (hb2.cell (p := ⟨W.heap.size, 0, none⟩) (show W.heap.size < wA.heap.size by omega)).trans dt0wA; have dt1w2 : w2.cell? ⟨W.heap.size, 1, none⟩ = some (.string ⟨t.name.toArray⟩) := (hb2.cell (p := ⟨W.heap.size, 1, none⟩) (show W.heap.size < wA.heap.size by omega)).trans dt1wA; have dt2w2 : w2.cell? ⟨W.heap.size, 2, none⟩ = some (.string ⟨t.text.toArray⟩) := (hb2.cell (p := ⟨W.heap.size, 2, none⟩) (show W.heap.size < wA.heap.size by omega)).trans dt2wA; have dt3w2 : w2.cell? ⟨W.heap.size, 3, none⟩ = some (.int .i64 t.line) := (hb2.cell (p := ⟨W.heap.size, 3, none⟩) (show W.heap.size < wA.heap.size by omega)).trans dt3wA; have dt4w2 : w2.cell? ⟨W.heap.size, 4, none⟩ = some (.int .i64 t.col) := (hb2.cell (p := ⟨W.heap.size, 4, none⟩) (show W.heap.size < wA.heap.size by omega)).trans dt4wA; have hs2 : W.heap.size + 1 ≤ w2.heap.size := Nat.le_trans hswA hb2.size; have HB2 : Hid (Below W.heap.size W w2) := Lib.hid (HBwA.out.trans (hb2.mono (by omega))); have ho2 := owns_new HO3.out HB2.out; have HP2 := Lib.hid (owns_new HO4.out HB2.out); clear hb2))
            | (at_builtin; go_loud (refine wpList_append_lies _ rfl _ _ 112 rfl w.heap.size 191 i0 _ 5 56 Tryz.underlying112 hi0 hz0 hz1 hz2 rfl (by omega) (.slice a3 il.length c3) il.length (inlsC il) rfl (ho2.alloc _) ⟨w2.heap.size, 0, none⟩ 1 1 [.int .i64 6, .string ⟨#[]⟩, .string ⟨#[]⟩, .int .i64 t.line, .int .i64 t.col] rfl rfl (World.news_of_block (cs := #[.int .i64 6, .string ⟨#[]⟩, .string ⟨#[]⟩, .int .i64 t.line, .int .i64 t.col]) (t := 191) (fr := (0, 0)) (heap_alloc_new w2 _)) (by simp [Value.oneCell']) (by omega) (by unfold maxLen; omega) (by omega) (by rw [World.size_alloc]; omega) (w2.heap.size + 1) (by rw [World.size_alloc]) ?_; intro g3 cap3 w4 hown3 hgrow3 hat3 hlt3; have HN3 := Lib.hid hown3; have HB4 : Hid (Below w.heap.size w w4) := Lib.hid ((((HBW.out.trans (HB2.out.mono hzW)).alloc (by omega) _).grown hgrow3 (by rw [World.size_alloc]; omega) fun k hk => (ho2.lt k hk).1)); have HP4 : Hid (w4.ownsRow w.heap.size 189 1 (.slice a4 ks.length c4) ks.length (ks.map fun (k : Nat) => Value.int .i64 k)) := Lib.hid (owns_chg ((HP2.out).alloc _) (Chg.grown (ho2.alloc _) hgrow3) (by decide)); have dt0w4 : w4.cell? ⟨W.heap.size, 0, none⟩ = some (.int .i64 t.kind) := (hgrow3.cell_far ⟨W.heap.size, 0, none⟩ (show W.heap.size < (w2.alloc _).heap.size by rw [World.size_alloc]; omega) (fun e => Nat.lt_irrefl _ (HO3.out.lt _ e.symm).2)).trans ((World.cell?_alloc_lt _ _ ⟨W.heap.size, 0, none⟩ (show W.heap.size < w2.heap.size by omega)).trans dt0w2); have dt1w4 : w4.cell? ⟨W.heap.size, 1, none⟩ = some (.string ⟨t.name.toArray⟩) := (hgrow3.cell_far ⟨W.heap.size, 1, none⟩ (show W.heap.size < (w2.alloc _).heap.size by rw [World.size_alloc]; omega) (fun e => Nat.lt_irrefl _ (HO3.out.lt _ e.symm).2)).trans ((World.cell?_alloc_lt _ _ ⟨W.heap.size, 1, none⟩ (show W.heap.size < w2.heap.size by omega)).trans dt1w2); have dt2w4 : w4.cell? ⟨W.heap.size, 2, none⟩ = some (.string ⟨t.text.toArray⟩) := (hgrow3.cell_far ⟨W.heap.size, 2, none⟩ (show W.heap.size < (w2.alloc _).heap.size by rw [World.size_alloc]; omega) (fun e => Nat.lt_irrefl _ (HO3.out.lt _ e.symm).2)).trans ((World.cell?_alloc_lt _ _ ⟨W.heap.size, 2, none⟩ (show W.heap.size < w2.heap.size by omega)).trans dt2w2); have dt3w4 : w4.cell? ⟨W.heap.size, 3, none⟩ = some (.int .i64 t.line) := (hgrow3.cell_far ⟨W.heap.size, 3, none⟩ (show W.heap.size < (w2.alloc _).heap.size by rw [World.size_alloc]; omega) (fun e => Nat.lt_irrefl _ (HO3.out.lt _ e.symm).2)).trans ((World.cell?_alloc_lt _ _ ⟨W.heap.size, 3, none⟩ (show W.heap.size < w2.heap.size by omega)).trans dt3w2); have dt4w4 : w4.cell? ⟨W.heap.size, 4, none⟩ = some (.int .i64 t.col) := (hgrow3.cell_far ⟨W.heap.size, 4, none⟩ (show W.heap.size < (w2.alloc _).heap.size by rw [World.size_alloc]; omega) (fun e => Nat.lt_irrefl _ (HO3.out.lt _ e.symm).2)).trans ((World.cell?_alloc_lt _ _ ⟨W.heap.size, 4, none⟩ (show W.heap.size < w2.heap.size by omega)).trans dt4w2); clear hown3 hgrow3 hat3))
            | fail)
          refine ⟨⟨r2, _, c - 1 - 1, il ++ [⟨6, [], [], t.line, t.col⟩], ks, lk, f, d2, by unfold cutV; rw [HM.out]; rfl, rfl, ⟨HAT2.out, by rw [List.length_append, inlsC_snoc]; exact HN3.out, HP4.out, HB4.out, ?_, by rw [HM.out]; omega, HD2.out, ?_, ?_, ?_, fun x hx => HTX.out x (List.mem_cons_of_mem _ (List.mem_cons_of_mem _ hx))⟩⟩, ?_⟩
          · rw [HR.out, HE.out]; rw [pc_snoc, HPC.out]
          · exact hdd
          · rw [HM.out]; rw [List.length_append]; simp only [List.length_cons, List.length_nil]; omega
          · rw [HM.out]; omega
          · show m + 1 - 1 < m + 1 + 1; omega
        · go_wp2_with (first
            | (go_at_call 96; go_loud (refine (HAL.out _ ((Below.refl _ _).alloc (Nat.le_refl _) _)).mono ?_; rintro e wA ⟨hbA, rfl⟩; have dt0wA : wA.cell? ⟨W.heap.size, 0, none⟩ = some (.int .i64 t.kind) := (hbA.cell (by simp)).trans (by simp); have dt1wA : wA.cell? ⟨W.heap.size, 1, none⟩ = some (.string ⟨t.name.toArray⟩) := (hbA.cell (by simp)).trans (by simp); have dt2wA : wA.cell? ⟨W.heap.size, 2, none⟩ = some (.string ⟨t.text.toArray⟩) := (hbA.cell (by simp)).trans (by simp); have dt3wA : wA.cell? ⟨W.heap.size, 3, none⟩ = some (.int .i64 t.line) := (hbA.cell (by simp)).trans (by simp); have dt4wA : wA.cell? ⟨W.heap.size, 4, none⟩ = some (.int .i64 t.col) := (hbA.cell (by simp)).trans (by simp); have hswA : W.heap.size + 1 ≤ wA.heap.size := (by have := hbA.size; rw [World.size_alloc] at this; exact this); have HBwA : Hid (Below W.heap.size W wA) := Lib.hid (((Below.refl W.heap.size W).alloc (Nat.le_refl _) (.cells #[.int .i64 t.kind, .string ⟨t.name.toArray⟩, .string ⟨t.text.toArray⟩, .int .i64 t.line, .int .i64 t.col] 59)).trans (hbA.mono (by rw [World.size_alloc]; omega))); clear hbA HAL))
            | (go_at_call 95; go_loud (refine (piece_any 7 t [] [] _).mono ?_; rintro e w2 ⟨rfl, hb2⟩; have dt0w2 : w2.cell? ⟨W.heap.size, 0, none⟩ = some (.int .i64 t.kind) := (hb2.cell (p := ⟨W.heap.size, 0, none⟩) (show W.heap.size < wA.heap.size by omega)).trans dt0wA; have dt1w2 : w2.cell? ⟨W.heap.size, 1, none⟩ = some (.string ⟨t.name.toArray⟩) := (hb2.cell (p := ⟨W.heap.size, 1, none⟩) (show W.heap.size < wA.heap.size by omega)).trans dt1wA; have dt2w2 : w2.cell? ⟨W.heap.size, 2, none⟩ = some (.string ⟨t.text.toArray⟩) := (hb2.cell (p := ⟨W.heap.size, 2, none⟩) (show W.heap.size < wA.heap.size by omega)).trans dt2wA; have dt3w2 : w2.cell? ⟨W.heap.size, 3, none⟩ = some (.int .i64 t.line) := (hb2.cell (p := ⟨W.heap.size, 3, none⟩) (show W.heap.size < wA.heap.size by omega)).trans dt3wA; have dt4w2 : w2.cell? ⟨W.heap.size, 4, none⟩ = some (.int .i64 t.col) := (hb2.cell (p := ⟨W.heap.size, 4, none⟩) (show W.heap.size < wA.heap.size by omega)).trans dt4wA; have hs2 : W.heap.size + 1 ≤ w2.heap.size := Nat.le_trans hswA hb2.size; have HB2 : Hid (Below W.heap.size W w2) := Lib.hid (HBwA.out.trans (hb2.mono (by omega))); have ho2 := owns_new HO3.out HB2.out; have HP2 := Lib.hid (owns_new HO4.out HB2.out); clear hb2))
            | (at_builtin; go_loud (refine wpList_append_lies _ rfl _ _ 112 rfl w.heap.size 191 i0 _ 5 56 Tryz.underlying112 hi0 hz0 hz1 hz2 rfl (by omega) (.slice a3 il.length c3) il.length (inlsC il) rfl (ho2.alloc _) ⟨w2.heap.size, 0, none⟩ 1 1 [.int .i64 7, .string ⟨#[]⟩, .string ⟨#[]⟩, .int .i64 t.line, .int .i64 t.col] rfl rfl (World.news_of_block (cs := #[.int .i64 7, .string ⟨#[]⟩, .string ⟨#[]⟩, .int .i64 t.line, .int .i64 t.col]) (t := 191) (fr := (0, 0)) (heap_alloc_new w2 _)) (by simp [Value.oneCell']) (by omega) (by unfold maxLen; omega) (by omega) (by rw [World.size_alloc]; omega) (w2.heap.size + 1) (by rw [World.size_alloc]) ?_; intro g3 cap3 w4 hown3 hgrow3 hat3 hlt3; have HN3 := Lib.hid hown3; have HB4 : Hid (Below w.heap.size w w4) := Lib.hid ((((HBW.out.trans (HB2.out.mono hzW)).alloc (by omega) _).grown hgrow3 (by rw [World.size_alloc]; omega) fun k hk => (ho2.lt k hk).1)); have HP4 : Hid (w4.ownsRow w.heap.size 189 1 (.slice a4 ks.length c4) ks.length (ks.map fun (k : Nat) => Value.int .i64 k)) := Lib.hid (owns_chg ((HP2.out).alloc _) (Chg.grown (ho2.alloc _) hgrow3) (by decide)); have dt0w4 : w4.cell? ⟨W.heap.size, 0, none⟩ = some (.int .i64 t.kind) := (hgrow3.cell_far ⟨W.heap.size, 0, none⟩ (show W.heap.size < (w2.alloc _).heap.size by rw [World.size_alloc]; omega) (fun e => Nat.lt_irrefl _ (HO3.out.lt _ e.symm).2)).trans ((World.cell?_alloc_lt _ _ ⟨W.heap.size, 0, none⟩ (show W.heap.size < w2.heap.size by omega)).trans dt0w2); have dt1w4 : w4.cell? ⟨W.heap.size, 1, none⟩ = some (.string ⟨t.name.toArray⟩) := (hgrow3.cell_far ⟨W.heap.size, 1, none⟩ (show W.heap.size < (w2.alloc _).heap.size by rw [World.size_alloc]; omega) (fun e => Nat.lt_irrefl _ (HO3.out.lt _ e.symm).2)).trans ((World.cell?_alloc_lt _ _ ⟨W.heap.size, 1, none⟩ (show W.heap.size < w2.heap.size by omega)).trans dt1w2); have dt2w4 : w4.cell? ⟨W.heap.size, 2, none⟩ = some (.string ⟨t.text.toArray⟩) := (hgrow3.cell_far ⟨W.heap.size, 2, none⟩ (show W.heap.size < (w2.alloc _).heap.size by rw [World.size_alloc]; omega) (fun e => Nat.lt_irrefl _ (HO3.out.lt _ e.symm).2)).trans ((World.cell?_alloc_lt _ _ ⟨W.heap.size, 2, none⟩ (show W.heap.size < w2.heap.size by omega)).trans dt2w2); have dt3w4 : w4.cell? ⟨W.heap.size, 3, none⟩ = some (.int .i64 t.line) := (hgrow3.cell_far ⟨W.heap.size, 3, none⟩ (show W.heap.size < (w2.alloc _).heap.size by rw [World.size_alloc]; omega) (fun e => Nat.lt_irrefl _ (HO3.out.lt _ e.symm).2)).trans ((World.cell?_alloc_lt _ _ ⟨W.heap.size, 3, none⟩ (show W.heap.size < w2.heap.size by omega)).trans dt3w2); have dt4w4 : w4.cell? ⟨W.heap.size, 4, none⟩ = some (.int .i64 t.col) := (hgrow3.cell_far ⟨W.heap.size, 4, none⟩ (show W.heap.size < (w2.alloc _).heap.size by rw [World.size_alloc]; omega) (fun e => Nat.lt_irrefl _ (HO3.out.lt _ e.symm).2)).trans ((World.cell?_alloc_lt _ _ ⟨W.heap.size, 4, none⟩ (show W.heap.size < w2.heap.size by omega)).trans dt4w2); clear hown3 hgrow3 hat3))
            | fail)
          refine ⟨⟨r2, _, c - 1 - 1, il ++ [⟨7, [], [], t.line, t.col⟩], ks, lk, f, d2, by unfold cutV; rw [HM.out]; rfl, rfl, ⟨HAT2.out, by rw [List.length_append, inlsC_snoc]; exact HN3.out, HP4.out, HB4.out, ?_, by rw [HM.out]; omega, HD2.out, ?_, ?_, ?_, fun x hx => HTX.out x (List.mem_cons_of_mem _ (List.mem_cons_of_mem _ hx))⟩⟩, ?_⟩
          · rw [HR.out, HE.out]; rw [pc_snoc, HPC.out]
          · exact hdd
          · rw [HM.out]; rw [List.length_append]; simp only [List.length_cons, List.length_nil]; omega
          · rw [HM.out]; omega
          · show m + 1 - 1 < m + 1 + 1; omega
    have n1 : (t.name == [116, 97, 98]) = false := by rw [beq_eq_false_iff_ne]; exact fun e => htb (.inl e)
    have n2 : (t.name == [98, 114]) = false := by rw [beq_eq_false_iff_ne]; exact fun e => htb (.inr e)
    by_cases hln : ¬ (t.name = [108, 105, 110, 107] ∨ t.name = [110, 111, 116, 101])
    · have HE := Lib.hid (show R = piecesF f r (il.map Inl.pc ++ [(2, 0)]) (ks ++ [2]) lk from by rw [hpe, pf_style h6 h5 h4 htb hln])
      have n3 : (t.name == [108, 105, 110, 107]) = false := by rw [beq_eq_false_iff_ne]; exact fun e => hln (.inl e)
      have n4 : (t.name == [110, 111, 116, 101]) = false := by rw [beq_eq_false_iff_ne]; exact fun e => hln (.inr e)
      have hdd : d1 ≤ ks.length + 1 := by omega
      clear hpe hd2 hd3 hd4 h6 h5 h4 htb hln
      go_wp2_with (first
        | (go_at_call 95; refine (piece_any 2 t [] t.name _).mono ?_; rintro e w2 ⟨rfl, hb2⟩; have dt0w2 : w2.cell? ⟨W.heap.size, 0, none⟩ = some (.int .i64 t.kind) := (hb2.cell (by simp)).trans (by simp); have dt1w2 : w2.cell? ⟨W.heap.size, 1, none⟩ = some (.string ⟨t.name.toArray⟩) := (hb2.cell (by simp)).trans (by simp); have dt2w2 : w2.cell? ⟨W.heap.size, 2, none⟩ = some (.string ⟨t.text.toArray⟩) := (hb2.cell (by simp)).trans (by simp); have dt3w2 : w2.cell? ⟨W.heap.size, 3, none⟩ = some (.int .i64 t.line) := (hb2.cell (by simp)).trans (by simp); have dt4w2 : w2.cell? ⟨W.heap.size, 4, none⟩ = some (.int .i64 t.col) := (hb2.cell (by simp)).trans (by simp); have hs2 : W.heap.size + 1 ≤ w2.heap.size := (by have := hb2.size; simpa using this); have HB2 : Hid (Below W.heap.size W w2) := Lib.hid (((Below.refl W.heap.size W).alloc (Nat.le_refl _) (.cells #[.int .i64 t.kind, .string ⟨t.name.toArray⟩, .string ⟨t.text.toArray⟩, .int .i64 t.line, .int .i64 t.col] 59)).trans (hb2.mono (by simp))); have ho2 := owns_new HO3.out HB2.out; have HP2 := Lib.hid (owns_new HO4.out HB2.out); clear hb2)
        | (at_builtin; go_loud (refine wpList_append_lies _ rfl _ _ 112 rfl w.heap.size 191 i0 _ 5 56 Tryz.underlying112 hi0 hz0 hz1 hz2 rfl (by omega) (.slice a3 il.length c3) il.length (inlsC il) rfl (ho2.alloc _) ⟨w2.heap.size, 0, none⟩ 1 1 [.int .i64 2, .string ⟨#[]⟩, .string ⟨t.name.toArray⟩, .int .i64 t.line, .int .i64 t.col] rfl rfl (World.news_of_block (cs := #[.int .i64 2, .string ⟨#[]⟩, .string ⟨t.name.toArray⟩, .int .i64 t.line, .int .i64 t.col]) (t := 191) (fr := (0, 0)) (heap_alloc_new w2 _)) (by simp [Value.oneCell']) (by omega) (by unfold maxLen; omega) (by omega) (by rw [World.size_alloc]; omega) (w2.heap.size + 1) (by rw [World.size_alloc]) ?_; intro g3 cap3 w4 hown3 hgrow3 hat3 hlt3; have HN3 := Lib.hid hown3; have HB4 : Hid (Below w.heap.size w w4) := Lib.hid ((((HBW.out.trans (HB2.out.mono hzW)).alloc (by omega) _).grown hgrow3 (by rw [World.size_alloc]; omega) fun k hk => (ho2.lt k hk).1)); have HP4 : Hid (w4.ownsRow w.heap.size 189 1 (.slice a4 ks.length c4) ks.length (ks.map fun (k : Nat) => Value.int .i64 k)) := Lib.hid (owns_chg ((HP2.out).alloc _) (Chg.grown (ho2.alloc _) hgrow3) (by decide)); have dt0w4 : w4.cell? ⟨W.heap.size, 0, none⟩ = some (.int .i64 t.kind) := (hgrow3.cell_far ⟨W.heap.size, 0, none⟩ (show W.heap.size < (w2.alloc _).heap.size by rw [World.size_alloc]; omega) (fun e => Nat.lt_irrefl _ (HO3.out.lt _ e.symm).2)).trans ((World.cell?_alloc_lt _ _ ⟨W.heap.size, 0, none⟩ (show W.heap.size < w2.heap.size by omega)).trans dt0w2); have dt1w4 : w4.cell? ⟨W.heap.size, 1, none⟩ = some (.string ⟨t.name.toArray⟩) := (hgrow3.cell_far ⟨W.heap.size, 1, none⟩ (show W.heap.size < (w2.alloc _).heap.size by rw [World.size_alloc]; omega) (fun e => Nat.lt_irrefl _ (HO3.out.lt _ e.symm).2)).trans ((World.cell?_alloc_lt _ _ ⟨W.heap.size, 1, none⟩ (show W.heap.size < w2.heap.size by omega)).trans dt1w2); have dt2w4 : w4.cell? ⟨W.heap.size, 2, none⟩ = some (.string ⟨t.text.toArray⟩) := (hgrow3.cell_far ⟨W.heap.size, 2, none⟩ (show W.heap.size < (w2.alloc _).heap.size by rw [World.size_alloc]; omega) (fun e => Nat.lt_irrefl _ (HO3.out.lt _ e.symm).2)).trans ((World.cell?_alloc_lt _ _ ⟨W.heap.size, 2, none⟩ (show W.heap.size < w2.heap.size by omega)).trans dt2w2); have dt3w4 : w4.cell? ⟨W.heap.size, 3, none⟩ = some (.int .i64 t.line) := (hgrow3.cell_far ⟨W.heap.size, 3, none⟩ (show W.heap.size < (w2.alloc _).heap.size by rw [World.size_alloc]; omega) (fun e => Nat.lt_irrefl _ (HO3.out.lt _ e.symm).2)).trans ((World.cell?_alloc_lt _ _ ⟨W.heap.size, 3, none⟩ (show W.heap.size < w2.heap.size by omega)).trans dt3w2); have dt4w4 : w4.cell? ⟨W.heap.size, 4, none⟩ = some (.int .i64 t.col) := (hgrow3.cell_far ⟨W.heap.size, 4, none⟩ (show W.heap.size < (w2.alloc _).heap.size by rw [World.size_alloc]; omega) (fun e => Nat.lt_irrefl _ (HO3.out.lt _ e.symm).2)).trans ((World.cell?_alloc_lt _ _ ⟨W.heap.size, 4, none⟩ (show W.heap.size < w2.heap.size by omega)).trans dt4w2); clear hown3 hgrow3 hat3))
        | (at_builtin; go_loud (refine wpList_append_lies _ rfl _ _ 188 rfl w.heap.size 189 j0 (.int .i64 0) 1 8 Tryz.underlying188 hj0 hy0 hy1 hy2 rfl (by omega) (.slice a4 ks.length c4) ks.length (ks.map fun (k : Nat) => Value.int .i64 k) rfl (HP4.out.alloc _) ⟨w4.heap.size, 0, none⟩ 1 1 [.int .i64 2] rfl rfl (cell_one_newP _ _ _) (by simp [Value.oneCell']) (by omega) (by unfold maxLen; omega) (by omega) (by rw [World.size_alloc]; have := HB4.out.size; omega) (w4.heap.size + 1) (by rw [World.size_alloc]) ?_; intro g5 cap5 w5 hown5 hgrow5 hat5 hlt5; have HN5 := Lib.hid hown5; have HB5 : Hid (Below w.heap.size w w5) := Lib.hid ((HB4.out.alloc (by have := HB4.out.size; omega) _).grown hgrow5 (by rw [World.size_alloc]; have := HB4.out.size; omega) fun k hk => (HP4.out.lt k hk).1); have HN6 := Lib.hid (owns_chg (HN3.out.alloc _) (Chg.grown (HP4.out.alloc _) hgrow5) (by decide)); clear hown5 hgrow5 hat5))
        | fail)
      refine ⟨⟨r, _, c - 1, il ++ [⟨2, [], t.name, t.line, t.col⟩], ks ++ [2], lk, f, d1, by unfold cutV; rw [HN.out]; rfl, rfl, ⟨HAT.out, by rw [List.length_append, inlsC_snoc]; exact HN6.out, by rw [List.length_append, ks_snoc]; exact HN5.out, HB5.out, ?_, by rw [HN.out]; omega, HD1.out, ?_, ?_, ?_, fun x hx => HTX.out x (List.mem_cons_of_mem _ hx)⟩⟩, ?_⟩
      · rw [HR.out, HE.out]; rw [pc_snoc]; rfl
      · rw [List.length_append]; exact hdd
      · rw [HN.out]; rw [List.length_append]; simp only [List.length_cons, List.length_nil]; omega
      · rw [HN.out]; rw [List.length_append]; simp only [List.length_cons, List.length_nil]; omega
      · show n + 1 - 1 < n + 1; omega
    have hlk : t.name = [108, 105, 110, 107] ∨ t.name = [110, 111, 116, 101] := Classical.byContradiction hln
    obtain ⟨kd, hkd⟩ : ∃ kd, (if t.name = [110, 111, 116, 101] then 4 else 3) = kd := ⟨_, rfl⟩
    have hp0 := hpe.trans (pf_link0 h6 h5 h4 htb hlk)
    rw [hkd] at hp0
    have hnm : ((t.name == [108, 105, 110, 107]) = true ∧ (t.name == [110, 111, 116, 101]) = false ∧ kd = 3) ∨ ((t.name == [108, 105, 110, 107]) = false ∧ (t.name == [110, 111, 116, 101]) = true ∧ kd = 4) := by
      rcases hlk with h | h
      · left; rw [h] at hkd ⊢; exact ⟨by decide, by decide, by rw [← hkd]; decide⟩
      · right; rw [h] at hkd ⊢; exact ⟨by decide, by decide, by rw [← hkd]; decide⟩
    clear htb hlk hln hkd hd3 hd4 hpe
    have hTG := fun (W' : World) (hbw : Below W.heap.size W W') => target_any t _ (c - 1) r lk W' (HAT.out.below (HBW.out.trans (hbw.mono hzW))) (fun x hx => HTX.out x (List.mem_cons_of_mem _ hx))
    cases htg : targetF t r lk with
    | error fl =>
      rw [htg] at hp0 hTG
      have HE := Lib.hid (show R = .error fl from hp0)
      have HTG : Hid (∀ W', Below W.heap.size W W' → Calls Tryz.prog 97 #[tokV t, cutV g o (n + 1) c 1, .int .i64 lk] W' (TargetPost (.error fl) W')) := Lib.hid fun W' hbw => by
        have := hTG W' hbw
        rw [HN.out] at this
        exact this
      clear hp0 hTG htg hd2 h6 h5 h4
      rcases hnm with ⟨n3, n4, rfl⟩ | ⟨n3, n4, rfl⟩
      all_goals
        go_wp2_with (first | (go_at_call 97; go_loud (refine (HTG.out _ ((Below.refl _ _).alloc (Nat.le_refl _) _)).mono ?_; rintro e w9 ⟨hb, v, rfl, hf⟩)) | fail)
        rw [Exit.noGoto_panic]
        refine ⟨rfl, ?_⟩
        rw [HE.out]
        exact ⟨HBW.out.trans ((((Below.refl W.heap.size W).alloc (Nat.le_refl _) _).trans (hb.mono (by rw [World.size_alloc]; omega))).mono hzW), v, rfl, hf⟩
    | ok nm =>
      rw [htg] at hp0 hTG
      obtain ⟨x, y, r2, rfl, hx6, hy45⟩ : ∃ x y r2, r = x :: y :: r2 ∧ x.kind = 6 ∧ (y.kind = 4 ∨ y.kind = 5) := by
        unfold targetF at htg
        rcases r with _ | ⟨x, _ | ⟨y, r2⟩⟩
        · cases htg
        · cases htg
        · simp only at htg
          split at htg
          · cases htg
          · rename_i hb
            exact ⟨x, y, r2, rfl, Classical.byContradiction fun h => hb (.inr (.inl h)), Classical.byContradiction fun h => hb (.inr (.inr ⟨fun e => h (.inl e), fun e => h (.inr e)⟩))⟩
      simp only at hp0
      obtain ⟨m, hm⟩ : ∃ m, r2.length = m := ⟨_, rfl⟩
      have hnm1 : n = m + 2 := by rw [← HN.out, ← hm]; rfl
      subst hnm1
      have hat2 : ToksAt w (some ⟨g, o + 5, none⟩) (c - 1) (x :: y :: r2) := by have := HAT.out; rw [if_neg (by omega)] at this; exact this
      have HM := Lib.hid hm
      have HAT2 := Lib.hid (hat2.drop 2 (by simp))
      have hslx : ∀ W, (Instr.slice 45 (.slice (some ⟨g, o, none⟩) (m + 2 + 1) c) (some (.int .i64 1)) none none).run Tryz.prog W = .ok (.slice (some ⟨g, o + 5, none⟩) (m + 2) (c - 1)) W := fun W => by
        rw [hsl W]; unfold cutV; rw [if_neg (by omega)]; rfl
      have hsl2 : ∀ W, (Instr.slice 45 (.slice (some ⟨g, o + 5, none⟩) (m + 2) (c - 1)) (some (.int .i64 2)) none none).run Tryz.prog W = .ok (cutV g (o + 5) (m + 2) (c - 1) 2) W := fun W => slice_cut g (o + 5) (m + 2) (c - 1) 2 (by omega) (by omega) W
      have HTG : Hid (∀ W', Below W.heap.size W W' → Calls Tryz.prog 97 #[tokV t, .slice (some ⟨g, o + 5, none⟩) (m + 2) (c - 1), .int .i64 lk] W' (TargetPost (.ok nm) W')) := Lib.hid fun W' hbw => by
        have := hTG W' hbw
        rw [if_neg (by omega)] at this
        simp only [List.length_cons, hm] at this
        exact this
      obtain ⟨x0, x1, x2, x3, x4⟩ := (show _ from hat2.first).elim fun g' h => h.elim fun o' h => by obtain ⟨he, hg', h⟩ := h; cases he; exact h
      obtain ⟨y0, y1, y2, y3, y4⟩ := hat2.second
      have hatb := hat2
      obtain ⟨dx, hx1, hx2, hx3, hx4⟩ := dep_cons HD1.out
      have hdx : dx ≤ d1 := hx4 (by omega)
      obtain ⟨dy, hz1', hz2', hz3', hz4'⟩ := dep_cons hx1
      have HDY := Lib.hid hz1'
      clear hTG htg hsl hat2 hx1 hz1'
      rcases hy45 with hy4 | hy5
      · have hdd : dy ≤ ks.length + 1 := by have := hz4' (by omega); omega
        have HE := Lib.hid (show R = piecesF f r2 (il.map Inl.pc ++ [(kd, 0)]) (ks ++ [kd]) 1 from by rw [hp0, if_neg (by omega)])
        have ey : ((y.kind : Int) == 5) = false := by rw [beq_eq_false_iff_ne]; omega
        have HPC : Hid ((⟨kd, [], nm, t.line, t.col⟩ : Inl).pc = (kd, 0)) := Lib.hid (by unfold Inl.pc; simp only; rw [if_neg (by rcases hnm with ⟨_, _, h⟩ | ⟨_, _, h⟩ <;> omega)])
        clear hp0 hd2 h6 h5 h4 hm hx2 hx3 hx4 hdx hz2' hz3' hz4' hy4 hx6
        rcases hnm with ⟨n3, n4, rfl⟩ | ⟨n3, n4, rfl⟩
        · go_wp2_with (first
            | (go_at_call 97; go_loud (refine (HTG.out _ ((Below.refl _ _).alloc (Nat.le_refl _) _)).mono ?_; rintro e wA ⟨hbA, rfl⟩; have y0' : wA.cell? ⟨g, o + 10, none⟩ = some (.int .i64 y.kind) := ((HBW.out.trans ((((Below.refl W.heap.size W).alloc (Nat.le_refl _) _).trans (hbA.mono (by rw [World.size_alloc]; omega))).mono hzW)).cell (p := ⟨g, o + 10, none⟩) hg).trans y0; have dt0wA : wA.cell? ⟨W.heap.size, 0, none⟩ = some (.int .i64 t.kind) := (hbA.cell (by simp)).trans (by simp); have dt1wA : wA.cell? ⟨W.heap.size, 1, none⟩ = some (.string ⟨t.name.toArray⟩) := (hbA.cell (by simp)).trans (by simp); have dt2wA : wA.cell? ⟨W.heap.size, 2, none⟩ = some (.string ⟨t.text.toArray⟩) := (hbA.cell (by simp)).trans (by simp); have dt3wA : wA.cell? ⟨W.heap.size, 3, none⟩ = some (.int .i64 t.line) := (hbA.cell (by simp)).trans (by simp); have dt4wA : wA.cell? ⟨W.heap.size, 4, none⟩ = some (.int .i64 t.col) := (hbA.cell (by simp)).trans (by simp); have hswA : W.heap.size + 1 ≤ wA.heap.size := (by have := hbA.size; rw [World.size_alloc] at this; exact this); have HBwA : Hid (Below W.heap.size W wA) := Lib.hid (((Below.refl W.heap.size W).alloc (Nat.le_refl _) (.cells #[.int .i64 t.kind, .string ⟨t.name.toArray⟩, .string ⟨t.text.toArray⟩, .int .i64 t.line, .int .i64 t.col] 59)).trans (hbA.mono (by rw [World.size_alloc]; omega))); clear hbA HTG))
            | (go_at_call 95; go_loud (refine (piece_any 3 t [] nm _).mono ?_; rintro e w2 ⟨rfl, hb2⟩; have dt0w2 : w2.cell? ⟨W.heap.size, 0, none⟩ = some (.int .i64 t.kind) := (hb2.cell (p := ⟨W.heap.size, 0, none⟩) (show W.heap.size < wA.heap.size by omega)).trans dt0wA; have dt1w2 : w2.cell? ⟨W.heap.size, 1, none⟩ = some (.string ⟨t.name.toArray⟩) := (hb2.cell (p := ⟨W.heap.size, 1, none⟩) (show W.heap.size < wA.heap.size by omega)).trans dt1wA; have dt2w2 : w2.cell? ⟨W.heap.size, 2, none⟩ = some (.string ⟨t.text.toArray⟩) := (hb2.cell (p := ⟨W.heap.size, 2, none⟩) (show W.heap.size < wA.heap.size by omega)).trans dt2wA; have dt3w2 : w2.cell? ⟨W.heap.size, 3, none⟩ = some (.int .i64 t.line) := (hb2.cell (p := ⟨W.heap.size, 3, none⟩) (show W.heap.size < wA.heap.size by omega)).trans dt3wA; have dt4w2 : w2.cell? ⟨W.heap.size, 4, none⟩ = some (.int .i64 t.col) := (hb2.cell (p := ⟨W.heap.size, 4, none⟩) (show W.heap.size < wA.heap.size by omega)).trans dt4wA; have hs2 : W.heap.size + 1 ≤ w2.heap.size := Nat.le_trans hswA hb2.size; have HB2 : Hid (Below W.heap.size W w2) := Lib.hid (HBwA.out.trans (hb2.mono (by omega))); have ho2 := owns_new HO3.out HB2.out; have HP2 := Lib.hid (owns_new HO4.out HB2.out); have y0p : w2.cell? ⟨g, o + 10, none⟩ = some (.int .i64 y.kind) := (hb2.cell (p := ⟨g, o + 10, none⟩) (show g < wA.heap.size by omega)).trans y0'; clear hb2))
            | (at_builtin; go_loud (refine wpList_append_lies _ rfl _ _ 112 rfl w.heap.size 191 i0 _ 5 56 Tryz.underlying112 hi0 hz0 hz1 hz2 rfl (by omega) (.slice a3 il.length c3) il.length (inlsC il) rfl (ho2.alloc _) ⟨w2.heap.size, 0, none⟩ 1 1 [.int .i64 3, .string ⟨#[]⟩, .string ⟨nm.toArray⟩, .int .i64 t.line, .int .i64 t.col] rfl rfl (World.news_of_block (cs := #[.int .i64 3, .string ⟨#[]⟩, .string ⟨nm.toArray⟩, .int .i64 t.line, .int .i64 t.col]) (t := 191) (fr := (0, 0)) (heap_alloc_new w2 _)) (by simp [Value.oneCell']) (by omega) (by unfold maxLen; omega) (by omega) (by rw [World.size_alloc]; omega) (w2.heap.size + 1) (by rw [World.size_alloc]) ?_; intro g3 cap3 w4 hown3 hgrow3 hat3 hlt3; have HN3 := Lib.hid hown3; have HB4 : Hid (Below w.heap.size w w4) := Lib.hid ((((HBW.out.trans (HB2.out.mono hzW)).alloc (by omega) _).grown hgrow3 (by rw [World.size_alloc]; omega) fun k hk => (ho2.lt k hk).1)); have HP4 : Hid (w4.ownsRow w.heap.size 189 1 (.slice a4 ks.length c4) ks.length (ks.map fun (k : Nat) => Value.int .i64 k)) := Lib.hid (owns_chg ((HP2.out).alloc _) (Chg.grown (ho2.alloc _) hgrow3) (by decide)); have dt0w4 : w4.cell? ⟨W.heap.size, 0, none⟩ = some (.int .i64 t.kind) := (hgrow3.cell_far ⟨W.heap.size, 0, none⟩ (show W.heap.size < (w2.alloc _).heap.size by rw [World.size_alloc]; omega) (fun e => Nat.lt_irrefl _ (HO3.out.lt _ e.symm).2)).trans ((World.cell?_alloc_lt _ _ ⟨W.heap.size, 0, none⟩ (show W.heap.size < w2.heap.size by omega)).trans dt0w2); have dt1w4 : w4.cell? ⟨W.heap.size, 1, none⟩ = some (.string ⟨t.name.toArray⟩) := (hgrow3.cell_far ⟨W.heap.size, 1, none⟩ (show W.heap.size < (w2.alloc _).heap.size by rw [World.size_alloc]; omega) (fun e => Nat.lt_irrefl _ (HO3.out.lt _ e.symm).2)).trans ((World.cell?_alloc_lt _ _ ⟨W.heap.size, 1, none⟩ (show W.heap.size < w2.heap.size by omega)).trans dt1w2); have dt2w4 : w4.cell? ⟨W.heap.size, 2, none⟩ = some (.string ⟨t.text.toArray⟩) := (hgrow3.cell_far ⟨W.heap.size, 2, none⟩ (show W.heap.size < (w2.alloc _).heap.size by rw [World.size_alloc]; omega) (fun e => Nat.lt_irrefl _ (HO3.out.lt _ e.symm).2)).trans ((World.cell?_alloc_lt _ _ ⟨W.heap.size, 2, none⟩ (show W.heap.size < w2.heap.size by omega)).trans dt2w2); have dt3w4 : w4.cell? ⟨W.heap.size, 3, none⟩ = some (.int .i64 t.line) := (hgrow3.cell_far ⟨W.heap.size, 3, none⟩ (show W.heap.size < (w2.alloc _).heap.size by rw [World.size_alloc]; omega) (fun e => Nat.lt_irrefl _ (HO3.out.lt _ e.symm).2)).trans ((World.cell?_alloc_lt _ _ ⟨W.heap.size, 3, none⟩ (show W.heap.size < w2.heap.size by omega)).trans dt3w2); have dt4w4 : w4.cell? ⟨W.heap.size, 4, none⟩ = some (.int .i64 t.col) := (hgrow3.cell_far ⟨W.heap.size, 4, none⟩ (show W.heap.size < (w2.alloc _).heap.size by rw [World.size_alloc]; omega) (fun e => Nat.lt_irrefl _ (HO3.out.lt _ e.symm).2)).trans ((World.cell?_alloc_lt _ _ ⟨W.heap.size, 4, none⟩ (show W.heap.size < w2.heap.size by omega)).trans dt4w2); have y0q : w4.cell? ⟨g, o + 10, none⟩ = some (.int .i64 y.kind) := (HB4.out.cell (p := ⟨g, o + 10, none⟩) hg).trans y0; clear hown3 hgrow3 hat3))
            | (at_builtin; go_loud (refine wpList_append_lies _ rfl _ _ 188 rfl w.heap.size 189 j0 (.int .i64 0) 1 8 Tryz.underlying188 hj0 hy0 hy1 hy2 rfl (by omega) (.slice a4 ks.length c4) ks.length (ks.map fun (k : Nat) => Value.int .i64 k) rfl (HP4.out.alloc _) ⟨w4.heap.size, 0, none⟩ 1 1 [.int .i64 3] rfl rfl (cell_one_newP _ _ _) (by simp [Value.oneCell']) (by omega) (by unfold maxLen; omega) (by omega) (by rw [World.size_alloc]; have := HB4.out.size; omega) (w4.heap.size + 1) (by rw [World.size_alloc]) ?_; intro g5 cap5 w5 hown5 hgrow5 hat5 hlt5; have HN5 := Lib.hid hown5; have HB5 : Hid (Below w.heap.size w w5) := Lib.hid ((HB4.out.alloc (by have := HB4.out.size; omega) _).grown hgrow5 (by rw [World.size_alloc]; have := HB4.out.size; omega) fun k hk => (HP4.out.lt k hk).1); have HN6 := Lib.hid (owns_chg (HN3.out.alloc _) (Chg.grown (HP4.out.alloc _) hgrow5) (by decide)); clear hown5 hgrow5 hat5))
            | fail)
          refine ⟨⟨r2, _, c - 1 - 2, il ++ [⟨3, [], nm, t.line, t.col⟩], ks ++ [3], 1, f, dy, by unfold cutV; rw [HM.out]; rfl, rfl, ⟨HAT2.out, by rw [List.length_append, inlsC_snoc]; exact HN6.out, by rw [List.length_append, ks_snoc]; exact HN5.out, HB5.out, ?_, by rw [HM.out]; omega, HDY.out, ?_, ?_, ?_, fun x hx => HTX.out x (List.mem_cons_of_mem _ (List.mem_cons_of_mem _ (List.mem_cons_of_mem _ hx)))⟩⟩, ?_⟩
          · rw [HR.out, HE.out]; rw [pc_snoc, HPC.out]
          · rw [List.length_append]; exact hdd
          · rw [HM.out]; rw [List.length_append]; simp only [List.length_cons, List.length_nil]; omega
          · rw [HM.out]; rw [List.length_append]; simp only [List.length_cons, List.length_nil]; omega
          · show m + 2 - 2 < m + 2 + 1; omega
        · go_wp2_with (first
            | (go_at_call 97; go_loud (refine (HTG.out _ ((Below.refl _ _).alloc (Nat.le_refl _) _)).mono ?_; rintro e wA ⟨hbA, rfl⟩; have y0' : wA.cell? ⟨g, o + 10, none⟩ = some (.int .i64 y.kind) := ((HBW.out.trans ((((Below.refl W.heap.size W).alloc (Nat.le_refl _) _).trans (hbA.mono (by rw [World.size_alloc]; omega))).mono hzW)).cell (p := ⟨g, o + 10, none⟩) hg).trans y0; have dt0wA : wA.cell? ⟨W.heap.size, 0, none⟩ = some (.int .i64 t.kind) := (hbA.cell (by simp)).trans (by simp); have dt1wA : wA.cell? ⟨W.heap.size, 1, none⟩ = some (.string ⟨t.name.toArray⟩) := (hbA.cell (by simp)).trans (by simp); have dt2wA : wA.cell? ⟨W.heap.size, 2, none⟩ = some (.string ⟨t.text.toArray⟩) := (hbA.cell (by simp)).trans (by simp); have dt3wA : wA.cell? ⟨W.heap.size, 3, none⟩ = some (.int .i64 t.line) := (hbA.cell (by simp)).trans (by simp); have dt4wA : wA.cell? ⟨W.heap.size, 4, none⟩ = some (.int .i64 t.col) := (hbA.cell (by simp)).trans (by simp); have hswA : W.heap.size + 1 ≤ wA.heap.size := (by have := hbA.size; rw [World.size_alloc] at this; exact this); have HBwA : Hid (Below W.heap.size W wA) := Lib.hid (((Below.refl W.heap.size W).alloc (Nat.le_refl _) (.cells #[.int .i64 t.kind, .string ⟨t.name.toArray⟩, .string ⟨t.text.toArray⟩, .int .i64 t.line, .int .i64 t.col] 59)).trans (hbA.mono (by rw [World.size_alloc]; omega))); clear hbA HTG))
            | (go_at_call 95; go_loud (refine (piece_any 4 t [] nm _).mono ?_; rintro e w2 ⟨rfl, hb2⟩; have dt0w2 : w2.cell? ⟨W.heap.size, 0, none⟩ = some (.int .i64 t.kind) := (hb2.cell (p := ⟨W.heap.size, 0, none⟩) (show W.heap.size < wA.heap.size by omega)).trans dt0wA; have dt1w2 : w2.cell? ⟨W.heap.size, 1, none⟩ = some (.string ⟨t.name.toArray⟩) := (hb2.cell (p := ⟨W.heap.size, 1, none⟩) (show W.heap.size < wA.heap.size by omega)).trans dt1wA; have dt2w2 : w2.cell? ⟨W.heap.size, 2, none⟩ = some (.string ⟨t.text.toArray⟩) := (hb2.cell (p := ⟨W.heap.size, 2, none⟩) (show W.heap.size < wA.heap.size by omega)).trans dt2wA; have dt3w2 : w2.cell? ⟨W.heap.size, 3, none⟩ = some (.int .i64 t.line) := (hb2.cell (p := ⟨W.heap.size, 3, none⟩) (show W.heap.size < wA.heap.size by omega)).trans dt3wA; have dt4w2 : w2.cell? ⟨W.heap.size, 4, none⟩ = some (.int .i64 t.col) := (hb2.cell (p := ⟨W.heap.size, 4, none⟩) (show W.heap.size < wA.heap.size by omega)).trans dt4wA; have hs2 : W.heap.size + 1 ≤ w2.heap.size := Nat.le_trans hswA hb2.size; have HB2 : Hid (Below W.heap.size W w2) := Lib.hid (HBwA.out.trans (hb2.mono (by omega))); have ho2 := owns_new HO3.out HB2.out; have HP2 := Lib.hid (owns_new HO4.out HB2.out); have y0p : w2.cell? ⟨g, o + 10, none⟩ = some (.int .i64 y.kind) := (hb2.cell (p := ⟨g, o + 10, none⟩) (show g < wA.heap.size by omega)).trans y0'; clear hb2))
            | (at_builtin; go_loud (refine wpList_append_lies _ rfl _ _ 112 rfl w.heap.size 191 i0 _ 5 56 Tryz.underlying112 hi0 hz0 hz1 hz2 rfl (by omega) (.slice a3 il.length c3) il.length (inlsC il) rfl (ho2.alloc _) ⟨w2.heap.size, 0, none⟩ 1 1 [.int .i64 4, .string ⟨#[]⟩, .string ⟨nm.toArray⟩, .int .i64 t.line, .int .i64 t.col] rfl rfl (World.news_of_block (cs := #[.int .i64 4, .string ⟨#[]⟩, .string ⟨nm.toArray⟩, .int .i64 t.line, .int .i64 t.col]) (t := 191) (fr := (0, 0)) (heap_alloc_new w2 _)) (by simp [Value.oneCell']) (by omega) (by unfold maxLen; omega) (by omega) (by rw [World.size_alloc]; omega) (w2.heap.size + 1) (by rw [World.size_alloc]) ?_; intro g3 cap3 w4 hown3 hgrow3 hat3 hlt3; have HN3 := Lib.hid hown3; have HB4 : Hid (Below w.heap.size w w4) := Lib.hid ((((HBW.out.trans (HB2.out.mono hzW)).alloc (by omega) _).grown hgrow3 (by rw [World.size_alloc]; omega) fun k hk => (ho2.lt k hk).1)); have HP4 : Hid (w4.ownsRow w.heap.size 189 1 (.slice a4 ks.length c4) ks.length (ks.map fun (k : Nat) => Value.int .i64 k)) := Lib.hid (owns_chg ((HP2.out).alloc _) (Chg.grown (ho2.alloc _) hgrow3) (by decide)); have dt0w4 : w4.cell? ⟨W.heap.size, 0, none⟩ = some (.int .i64 t.kind) := (hgrow3.cell_far ⟨W.heap.size, 0, none⟩ (show W.heap.size < (w2.alloc _).heap.size by rw [World.size_alloc]; omega) (fun e => Nat.lt_irrefl _ (HO3.out.lt _ e.symm).2)).trans ((World.cell?_alloc_lt _ _ ⟨W.heap.size, 0, none⟩ (show W.heap.size < w2.heap.size by omega)).trans dt0w2); have dt1w4 : w4.cell? ⟨W.heap.size, 1, none⟩ = some (.string ⟨t.name.toArray⟩) := (hgrow3.cell_far ⟨W.heap.size, 1, none⟩ (show W.heap.size < (w2.alloc _).heap.size by rw [World.size_alloc]; omega) (fun e => Nat.lt_irrefl _ (HO3.out.lt _ e.symm).2)).trans ((World.cell?_alloc_lt _ _ ⟨W.heap.size, 1, none⟩ (show W.heap.size < w2.heap.size by omega)).trans dt1w2); have dt2w4 : w4.cell? ⟨W.heap.size, 2, none⟩ = some (.string ⟨t.text.toArray⟩) := (hgrow3.cell_far ⟨W.heap.size, 2, none⟩ (show W.heap.size < (w2.alloc _).heap.size by rw [World.size_alloc]; omega) (fun e => Nat.lt_irrefl _ (HO3.out.lt _ e.symm).2)).trans ((World.cell?_alloc_lt _ _ ⟨W.heap.size, 2, none⟩ (show W.heap.size < w2.heap.size by omega)).trans dt2w2); have dt3w4 : w4.cell? ⟨W.heap.size, 3, none⟩ = some (.int .i64 t.line) := (hgrow3.cell_far ⟨W.heap.size, 3, none⟩ (show W.heap.size < (w2.alloc _).heap.size by rw [World.size_alloc]; omega) (fun e => Nat.lt_irrefl _ (HO3.out.lt _ e.symm).2)).trans ((World.cell?_alloc_lt _ _ ⟨W.heap.size, 3, none⟩ (show W.heap.size < w2.heap.size by omega)).trans dt3w2); have dt4w4 : w4.cell? ⟨W.heap.size, 4, none⟩ = some (.int .i64 t.col) := (hgrow3.cell_far ⟨W.heap.size, 4, none⟩ (show W.heap.size < (w2.alloc _).heap.size by rw [World.size_alloc]; omega) (fun e => Nat.lt_irrefl _ (HO3.out.lt _ e.symm).2)).trans ((World.cell?_alloc_lt _ _ ⟨W.heap.size, 4, none⟩ (show W.heap.size < w2.heap.size by omega)).trans dt4w2); have y0q : w4.cell? ⟨g, o + 10, none⟩ = some (.int .i64 y.kind) := (HB4.out.cell (p := ⟨g, o + 10, none⟩) hg).trans y0; clear hown3 hgrow3 hat3))
            | (at_builtin; go_loud (refine wpList_append_lies _ rfl _ _ 188 rfl w.heap.size 189 j0 (.int .i64 0) 1 8 Tryz.underlying188 hj0 hy0 hy1 hy2 rfl (by omega) (.slice a4 ks.length c4) ks.length (ks.map fun (k : Nat) => Value.int .i64 k) rfl (HP4.out.alloc _) ⟨w4.heap.size, 0, none⟩ 1 1 [.int .i64 4] rfl rfl (cell_one_newP _ _ _) (by simp [Value.oneCell']) (by omega) (by unfold maxLen; omega) (by omega) (by rw [World.size_alloc]; have := HB4.out.size; omega) (w4.heap.size + 1) (by rw [World.size_alloc]) ?_; intro g5 cap5 w5 hown5 hgrow5 hat5 hlt5; have HN5 := Lib.hid hown5; have HB5 : Hid (Below w.heap.size w w5) := Lib.hid ((HB4.out.alloc (by have := HB4.out.size; omega) _).grown hgrow5 (by rw [World.size_alloc]; have := HB4.out.size; omega) fun k hk => (HP4.out.lt k hk).1); have HN6 := Lib.hid (owns_chg (HN3.out.alloc _) (Chg.grown (HP4.out.alloc _) hgrow5) (by decide)); clear hown5 hgrow5 hat5))
            | fail)
          refine ⟨⟨r2, _, c - 1 - 2, il ++ [⟨4, [], nm, t.line, t.col⟩], ks ++ [4], 1, f, dy, by unfold cutV; rw [HM.out]; rfl, rfl, ⟨HAT2.out, by rw [List.length_append, inlsC_snoc]; exact HN6.out, by rw [List.length_append, ks_snoc]; exact HN5.out, HB5.out, ?_, by rw [HM.out]; omega, HDY.out, ?_, ?_, ?_, fun x hx => HTX.out x (List.mem_cons_of_mem _ (List.mem_cons_of_mem _ (List.mem_cons_of_mem _ hx)))⟩⟩, ?_⟩
          · rw [HR.out, HE.out]; rw [pc_snoc, HPC.out]
          · rw [List.length_append]; exact hdd
          · rw [HM.out]; rw [List.length_append]; simp only [List.length_cons, List.length_nil]; omega
          · rw [HM.out]; rw [List.length_append]; simp only [List.length_cons, List.length_nil]; omega
          · show m + 2 - 2 < m + 2 + 1; omega
      · have hdd : dy ≤ ks.length := by have := hz3' hy5; omega
        have HE := Lib.hid (show R = piecesF f r2 (il.map Inl.pc ++ [(kd, 0)] ++ [(1, nm.length), (5, 0)]) ks lk from by rw [hp0, if_pos hy5])
        have ey : ((y.kind : Int) == 5) = true := by rw [beq_iff_eq]; omega
        have HPC : Hid ((⟨kd, [], nm, t.line, t.col⟩ : Inl).pc = (kd, 0)) := Lib.hid (by unfold Inl.pc; simp only; rw [if_neg (by rcases hnm with ⟨_, _, h⟩ | ⟨_, _, h⟩ <;> omega)])
        have HX5 : Hid (w.cell? ⟨g, o + 5, none⟩ = some (.int .i64 x.kind) ∧ w.cell? ⟨g, o + 6, none⟩ = some (.string ⟨x.name.toArray⟩) ∧ w.cell? ⟨g, o + 7, none⟩ = some (.string ⟨x.text.toArray⟩) ∧ w.cell? ⟨g, o + 8, none⟩ = some (.int .i64 x.line) ∧ w.cell? ⟨g, o + 9, none⟩ = some (.int .i64 x.col) ∧ w.cell? ⟨g, o + 10, none⟩ = some (.int .i64 y.kind) ∧ w.cell? ⟨g, o + 11, none⟩ = some (.string ⟨y.name.toArray⟩) ∧ w.cell? ⟨g, o + 12, none⟩ = some (.string ⟨y.text.toArray⟩) ∧ w.cell? ⟨g, o + 13, none⟩ = some (.int .i64 y.line) ∧ w.cell? ⟨g, o + 14, none⟩ = some (.int .i64 y.col)) := Lib.hid ⟨x0, x1, x2, x3, x4, y0, y1, y2, y3, y4⟩
        clear hp0 hd2 h6 h5 h4 hm hx2 hx3 hx4 hdx hz2' hz3' hz4' hy5 hx6 x0 x1 x2 x3 x4 y1 y2 y3 y4
        rcases hnm with ⟨n3, n4, rfl⟩ | ⟨n3, n4, rfl⟩
        · go_wp2_with (first
            | (go_at_call 97; go_loud (refine (HTG.out _ ((Below.refl _ _).alloc (Nat.le_refl _) _)).mono ?_; rintro e wA ⟨hbA, rfl⟩; have y0' : wA.cell? ⟨g, o + 10, none⟩ = some (.int .i64 y.kind) := ((HBW.out.trans ((((Below.refl W.heap.size W).alloc (Nat.le_refl _) _).trans (hbA.mono (by rw [World.size_alloc]; omega))).mono hzW)).cell (p := ⟨g, o + 10, none⟩) hg).trans y0; have dt0wA : wA.cell? ⟨W.heap.size, 0, none⟩ = some (.int .i64 t.kind) := (hbA.cell (by simp)).trans (by simp); have dt1wA : wA.cell? ⟨W.heap.size, 1, none⟩ = some (.string ⟨t.name.toArray⟩) := (hbA.cell (by simp)).trans (by simp); have dt2wA : wA.cell? ⟨W.heap.size, 2, none⟩ = some (.string ⟨t.text.toArray⟩) := (hbA.cell (by simp)).trans (by simp); have dt3wA : wA.cell? ⟨W.heap.size, 3, none⟩ = some (.int .i64 t.line) := (hbA.cell (by simp)).trans (by simp); have dt4wA : wA.cell? ⟨W.heap.size, 4, none⟩ = some (.int .i64 t.col) := (hbA.cell (by simp)).trans (by simp); have hswA : W.heap.size + 1 ≤ wA.heap.size := (by have := hbA.size; rw [World.size_alloc] at this; exact this); have HBwA : Hid (Below W.heap.size W wA) := Lib.hid (((Below.refl W.heap.size W).alloc (Nat.le_refl _) (.cells #[.int .i64 t.kind, .string ⟨t.name.toArray⟩, .string ⟨t.text.toArray⟩, .int .i64 t.line, .int .i64 t.col] 59)).trans (hbA.mono (by rw [World.size_alloc]; omega))); clear hbA HTG))
            | (go_at_call 95; go_loud (refine (piece_any 3 t [] nm _).mono ?_; rintro e w2 ⟨rfl, hb2⟩; have dt0w2 : w2.cell? ⟨W.heap.size, 0, none⟩ = some (.int .i64 t.kind) := (hb2.cell (p := ⟨W.heap.size, 0, none⟩) (show W.heap.size < wA.heap.size by omega)).trans dt0wA; have dt1w2 : w2.cell? ⟨W.heap.size, 1, none⟩ = some (.string ⟨t.name.toArray⟩) := (hb2.cell (p := ⟨W.heap.size, 1, none⟩) (show W.heap.size < wA.heap.size by omega)).trans dt1wA; have dt2w2 : w2.cell? ⟨W.heap.size, 2, none⟩ = some (.string ⟨t.text.toArray⟩) := (hb2.cell (p := ⟨W.heap.size, 2, none⟩) (show W.heap.size < wA.heap.size by omega)).trans dt2wA; have dt3w2 : w2.cell? ⟨W.heap.size, 3, none⟩ = some (.int .i64 t.line) := (hb2.cell (p := ⟨W.heap.size, 3, none⟩) (show W.heap.size < wA.heap.size by omega)).trans dt3wA; have dt4w2 : w2.cell? ⟨W.heap.size, 4, none⟩ = some (.int .i64 t.col) := (hb2.cell (p := ⟨W.heap.size, 4, none⟩) (show W.heap.size < wA.heap.size by omega)).trans dt4wA; have hs2 : W.heap.size + 1 ≤ w2.heap.size := Nat.le_trans hswA hb2.size; have HB2 : Hid (Below W.heap.size W w2) := Lib.hid (HBwA.out.trans (hb2.mono (by omega))); have ho2 := owns_new HO3.out HB2.out; have HP2 := Lib.hid (owns_new HO4.out HB2.out); have y0p : w2.cell? ⟨g, o + 10, none⟩ = some (.int .i64 y.kind) := (hb2.cell (p := ⟨g, o + 10, none⟩) (show g < wA.heap.size by omega)).trans y0'; clear hb2))
            | (at_builtin; go_loud (refine wpList_append_lies _ rfl _ _ 112 rfl w.heap.size 191 i0 _ 5 56 Tryz.underlying112 hi0 hz0 hz1 hz2 rfl (by omega) (.slice a3 il.length c3) il.length (inlsC il) rfl (ho2.alloc _) ⟨w2.heap.size, 0, none⟩ 1 1 [.int .i64 3, .string ⟨#[]⟩, .string ⟨nm.toArray⟩, .int .i64 t.line, .int .i64 t.col] rfl rfl (World.news_of_block (cs := #[.int .i64 3, .string ⟨#[]⟩, .string ⟨nm.toArray⟩, .int .i64 t.line, .int .i64 t.col]) (t := 191) (fr := (0, 0)) (heap_alloc_new w2 _)) (by simp [Value.oneCell']) (by omega) (by unfold maxLen; omega) (by omega) (by rw [World.size_alloc]; omega) (w2.heap.size + 1) (by rw [World.size_alloc]) ?_; intro g3 cap3 w4 hown3 hgrow3 hat3 hlt3; have HN3 := Lib.hid hown3; have HB4 : Hid (Below w.heap.size w w4) := Lib.hid ((((HBW.out.trans (HB2.out.mono hzW)).alloc (by omega) _).grown hgrow3 (by rw [World.size_alloc]; omega) fun k hk => (ho2.lt k hk).1)); have HP4 : Hid (w4.ownsRow w.heap.size 189 1 (.slice a4 ks.length c4) ks.length (ks.map fun (k : Nat) => Value.int .i64 k)) := Lib.hid (owns_chg ((HP2.out).alloc _) (Chg.grown (ho2.alloc _) hgrow3) (by decide)); have dt0w4 : w4.cell? ⟨W.heap.size, 0, none⟩ = some (.int .i64 t.kind) := (hgrow3.cell_far ⟨W.heap.size, 0, none⟩ (show W.heap.size < (w2.alloc _).heap.size by rw [World.size_alloc]; omega) (fun e => Nat.lt_irrefl _ (HO3.out.lt _ e.symm).2)).trans ((World.cell?_alloc_lt _ _ ⟨W.heap.size, 0, none⟩ (show W.heap.size < w2.heap.size by omega)).trans dt0w2); have dt1w4 : w4.cell? ⟨W.heap.size, 1, none⟩ = some (.string ⟨t.name.toArray⟩) := (hgrow3.cell_far ⟨W.heap.size, 1, none⟩ (show W.heap.size < (w2.alloc _).heap.size by rw [World.size_alloc]; omega) (fun e => Nat.lt_irrefl _ (HO3.out.lt _ e.symm).2)).trans ((World.cell?_alloc_lt _ _ ⟨W.heap.size, 1, none⟩ (show W.heap.size < w2.heap.size by omega)).trans dt1w2); have dt2w4 : w4.cell? ⟨W.heap.size, 2, none⟩ = some (.string ⟨t.text.toArray⟩) := (hgrow3.cell_far ⟨W.heap.size, 2, none⟩ (show W.heap.size < (w2.alloc _).heap.size by rw [World.size_alloc]; omega) (fun e => Nat.lt_irrefl _ (HO3.out.lt _ e.symm).2)).trans ((World.cell?_alloc_lt _ _ ⟨W.heap.size, 2, none⟩ (show W.heap.size < w2.heap.size by omega)).trans dt2w2); have dt3w4 : w4.cell? ⟨W.heap.size, 3, none⟩ = some (.int .i64 t.line) := (hgrow3.cell_far ⟨W.heap.size, 3, none⟩ (show W.heap.size < (w2.alloc _).heap.size by rw [World.size_alloc]; omega) (fun e => Nat.lt_irrefl _ (HO3.out.lt _ e.symm).2)).trans ((World.cell?_alloc_lt _ _ ⟨W.heap.size, 3, none⟩ (show W.heap.size < w2.heap.size by omega)).trans dt3w2); have dt4w4 : w4.cell? ⟨W.heap.size, 4, none⟩ = some (.int .i64 t.col) := (hgrow3.cell_far ⟨W.heap.size, 4, none⟩ (show W.heap.size < (w2.alloc _).heap.size by rw [World.size_alloc]; omega) (fun e => Nat.lt_irrefl _ (HO3.out.lt _ e.symm).2)).trans ((World.cell?_alloc_lt _ _ ⟨W.heap.size, 4, none⟩ (show W.heap.size < w2.heap.size by omega)).trans dt4w2); have y0q : w4.cell? ⟨g, o + 10, none⟩ = some (.int .i64 y.kind) := (HB4.out.cell (p := ⟨g, o + 10, none⟩) hg).trans y0; clear hown3 hgrow3 hat3))
            | fail)
          have i0' : (0 : Int) < (m : Int) + 2 := by omega
          have i1' : (1 : Int) < (m : Int) + 2 := by omega
          obtain ⟨z0, z1, z2, z3, z4, z5, z6, z7, z8, z9⟩ := HX5.out
          have hg4 : g < w4.heap.size := Nat.lt_of_lt_of_le hg HB4.out.size
          replace z0 := (HB4.out.cell (p := ⟨g, o + 5, none⟩) hg).trans z0
          replace z1 := (HB4.out.cell (p := ⟨g, o + 6, none⟩) hg).trans z1
          replace z2 := (HB4.out.cell (p := ⟨g, o + 7, none⟩) hg).trans z2
          replace z3 := (HB4.out.cell (p := ⟨g, o + 8, none⟩) hg).trans z3
          replace z4 := (HB4.out.cell (p := ⟨g, o + 9, none⟩) hg).trans z4
          replace z5 := (HB4.out.cell (p := ⟨g, o + 10, none⟩) hg).trans z5
          replace z6 := (HB4.out.cell (p := ⟨g, o + 11, none⟩) hg).trans z6
          replace z7 := (HB4.out.cell (p := ⟨g, o + 12, none⟩) hg).trans z7
          replace z8 := (HB4.out.cell (p := ⟨g, o + 13, none⟩) hg).trans z8
          replace z9 := (HB4.out.cell (p := ⟨g, o + 14, none⟩) hg).trans z9
          go_region_held3 (fun w' => w'.cell? ⟨g, o + 5, none⟩ = some (.int .i64 x.kind) ∧ w'.cell? ⟨g, o + 6, none⟩ = some (.string ⟨x.name.toArray⟩) ∧ w'.cell? ⟨g, o + 7, none⟩ = some (.string ⟨x.text.toArray⟩) ∧ w'.cell? ⟨g, o + 8, none⟩ = some (.int .i64 x.line) ∧ w'.cell? ⟨g, o + 9, none⟩ = some (.int .i64 x.col) ∧ w'.cell? ⟨g, o + 10, none⟩ = some (.int .i64 y.kind) ∧ w'.cell? ⟨g, o + 11, none⟩ = some (.string ⟨y.name.toArray⟩) ∧ w'.cell? ⟨g, o + 12, none⟩ = some (.string ⟨y.text.toArray⟩) ∧ w'.cell? ⟨g, o + 13, none⟩ = some (.int .i64 y.line) ∧ w'.cell? ⟨g, o + 14, none⟩ = some (.int .i64 y.col))
            ((refine ⟨?_, ?_, ?_, ?_, ?_, ?_, ?_, ?_, ?_, ?_⟩ <;> go_split_ands <;> first | assumption | exact (Below.cell (by first | exact hb2 | exact hb1) (Nat.lt_of_lt_of_le hg4 (by first | exact Nat.le_refl _ | exact BP.out.size))).trans (by assumption) | exact cell_alP (by assumption) _))
            (first
              | (go_at_call_of 95 (Value.int IntKind.i64 1); refine (piece_any 1 x nm [] _).mono ?_; rintro e wP ⟨rfl, hb1⟩; have BP : Hid (Below w4.heap.size w4 wP) := Lib.hid (by first | exact hb1 | exact ((Below.refl _ _).drew).trans hb1))
              | (go_at_call_of 95 (Value.int IntKind.i64 5); refine (piece_any 5 y [] [] _).mono ?_; rintro e wQ ⟨rfl, hb2⟩; have BQ : Hid (Below w4.heap.size w4 wQ) := Lib.hid (BP.out.trans (by first | exact hb2.mono BP.out.size | exact (((Below.refl _ _).drew).trans hb2).mono BP.out.size)))
              | (refine step_append_lies _ (by rfl) _ _ _ (by rfl) w.heap.size 191 i0 _ 5 56 Tryz.underlying112 hi0 hz0 hz1 hz2 rfl (by omega) (.slice (some ⟨g3, 0, none⟩) (il.length + 1) cap3) (il.length + 1) (inlsC il ++ [.int .i64 3, .string ⟨#[]⟩, .string ⟨nm.toArray⟩, .int .i64 t.line, .int .i64 t.col]) (by rfl) ((owns_new HN3.out BQ.out).alloc _) ⟨wQ.heap.size, 0, none⟩ 2 2 [.int .i64 1, .string ⟨nm.toArray⟩, .string ⟨#[]⟩, .int .i64 x.line, .int .i64 x.col, .int .i64 5, .string ⟨#[]⟩, .string ⟨#[]⟩, .int .i64 y.line, .int .i64 y.col] (by rfl) (by rfl) (World.news_of_block (cs := #[.int .i64 1, .string ⟨nm.toArray⟩, .string ⟨#[]⟩, .int .i64 x.line, .int .i64 x.col, .int .i64 5, .string ⟨#[]⟩, .string ⟨#[]⟩, .int .i64 y.line, .int .i64 y.col]) (t := 191) (fr := (0, 0)) (heap_alloc_new wQ _)) (by simp [Value.oneCell']) (by omega) (by unfold maxLen; omega) (by omega) (by have hzz := BQ.out.size; have hz4 := HB4.out.size; simp; omega) (wQ.heap.size + 1) (by simp) ?_; intro g6 cap6 w6 hown6 hgrow6 hat6 hlt6; have HN6 := Lib.hid hown6; have HB6 : Hid (Below w.heap.size w w6) := Lib.hid (((HB4.out.trans (BQ.out.mono HB4.out.size)).alloc (Nat.le_trans HB4.out.size BQ.out.size) _).grown hgrow6 (by rw [World.size_alloc]; have := BQ.out.size; have := HB4.out.size; omega) fun k hk => ((owns_new HN3.out BQ.out).lt k hk).1); have HP6 := Lib.hid (owns_chg ((owns_new HP4.out BQ.out).alloc _) (Chg.grown ((owns_new HN3.out BQ.out).alloc _) hgrow6) (by decide)); have zz5 : w6.cell? ⟨g, o + 5, none⟩ = some (.int .i64 x.kind) := (HB6.out.cell (p := ⟨g, o + 5, none⟩) hg).trans HX5.out.1; have zz6 : w6.cell? ⟨g, o + 6, none⟩ = some (.string ⟨x.name.toArray⟩) := (HB6.out.cell (p := ⟨g, o + 6, none⟩) hg).trans HX5.out.2.1; have zz7 : w6.cell? ⟨g, o + 7, none⟩ = some (.string ⟨x.text.toArray⟩) := (HB6.out.cell (p := ⟨g, o + 7, none⟩) hg).trans HX5.out.2.2.1; have zz8 : w6.cell? ⟨g, o + 8, none⟩ = some (.int .i64 x.line) := (HB6.out.cell (p := ⟨g, o + 8, none⟩) hg).trans HX5.out.2.2.2.1; have zz9 : w6.cell? ⟨g, o + 9, none⟩ = some (.int .i64 x.col) := (HB6.out.cell (p := ⟨g, o + 9, none⟩) hg).trans HX5.out.2.2.2.2.1; have zz10 : w6.cell? ⟨g, o + 10, none⟩ = some (.int .i64 y.kind) := (HB6.out.cell (p := ⟨g, o + 10, none⟩) hg).trans HX5.out.2.2.2.2.2.1; have zz11 : w6.cell? ⟨g, o + 11, none⟩ = some (.string ⟨y.name.toArray⟩) := (HB6.out.cell (p := ⟨g, o + 11, none⟩) hg).trans HX5.out.2.2.2.2.2.2.1; have zz12 : w6.cell? ⟨g, o + 12, none⟩ = some (.string ⟨y.text.toArray⟩) := (HB6.out.cell (p := ⟨g, o + 12, none⟩) hg).trans HX5.out.2.2.2.2.2.2.2.1; have zz13 : w6.cell? ⟨g, o + 13, none⟩ = some (.int .i64 y.line) := (HB6.out.cell (p := ⟨g, o + 13, none⟩) hg).trans HX5.out.2.2.2.2.2.2.2.2.1; have zz14 : w6.cell? ⟨g, o + 14, none⟩ = some (.int .i64 y.col) := (HB6.out.cell (p := ⟨g, o + 14, none⟩) hg).trans HX5.out.2.2.2.2.2.2.2.2.2))
          all_goals
            go_wp2_with fail
            refine ⟨⟨r2, _, c - 1 - 2, il ++ [⟨3, [], nm, t.line, t.col⟩] ++ [⟨1, nm, [], x.line, x.col⟩, ⟨5, [], [], y.line, y.col⟩], ks, lk, f, dy, by unfold cutV; rw [HM.out]; rfl, rfl, ⟨HAT2.out, by rw [show (il ++ [⟨3, [], nm, t.line, t.col⟩] ++ [⟨1, nm, [], x.line, x.col⟩, ⟨5, [], [], y.line, y.col⟩] : List Inl).length = il.length + 1 + 2 from by simp, show inlsC (il ++ [⟨3, [], nm, t.line, t.col⟩] ++ [⟨1, nm, [], x.line, x.col⟩, ⟨5, [], [], y.line, y.col⟩]) = inlsC il ++ [.int .i64 3, .string ⟨#[]⟩, .string ⟨nm.toArray⟩, .int .i64 t.line, .int .i64 t.col] ++ [.int .i64 1, .string ⟨nm.toArray⟩, .string ⟨#[]⟩, .int .i64 x.line, .int .i64 x.col, .int .i64 5, .string ⟨#[]⟩, .string ⟨#[]⟩, .int .i64 y.line, .int .i64 y.col] from by simp [inlsC, inlC]]; exact HN6.out, HP6.out, HB6.out, ?_, by rw [HM.out]; omega, HDY.out, ?_, ?_, ?_, fun x hx => HTX.out x (List.mem_cons_of_mem _ (List.mem_cons_of_mem _ (List.mem_cons_of_mem _ hx)))⟩⟩, ?_⟩
            · rw [HR.out, HE.out]; rw [show (il ++ [⟨3, [], nm, t.line, t.col⟩] ++ [⟨1, nm, [], x.line, x.col⟩, ⟨5, [], [], y.line, y.col⟩] : List Inl).map Inl.pc = il.map Inl.pc ++ [(3, 0)] ++ [(1, nm.length), (5, 0)] from by simp [Inl.pc]]
            · exact hdd
            · rw [HM.out]; simp only [List.length_append, List.length_cons, List.length_nil]; omega
            · rw [HM.out]; omega
            · show m + 2 - 2 < m + 2 + 1; omega
        · go_wp2_with (first
            | (go_at_call 97; go_loud (refine (HTG.out _ ((Below.refl _ _).alloc (Nat.le_refl _) _)).mono ?_; rintro e wA ⟨hbA, rfl⟩; have y0' : wA.cell? ⟨g, o + 10, none⟩ = some (.int .i64 y.kind) := ((HBW.out.trans ((((Below.refl W.heap.size W).alloc (Nat.le_refl _) _).trans (hbA.mono (by rw [World.size_alloc]; omega))).mono hzW)).cell (p := ⟨g, o + 10, none⟩) hg).trans y0; have dt0wA : wA.cell? ⟨W.heap.size, 0, none⟩ = some (.int .i64 t.kind) := (hbA.cell (by simp)).trans (by simp); have dt1wA : wA.cell? ⟨W.heap.size, 1, none⟩ = some (.string ⟨t.name.toArray⟩) := (hbA.cell (by simp)).trans (by simp); have dt2wA : wA.cell? ⟨W.heap.size, 2, none⟩ = some (.string ⟨t.text.toArray⟩) := (hbA.cell (by simp)).trans (by simp); have dt3wA : wA.cell? ⟨W.heap.size, 3, none⟩ = some (.int .i64 t.line) := (hbA.cell (by simp)).trans (by simp); have dt4wA : wA.cell? ⟨W.heap.size, 4, none⟩ = some (.int .i64 t.col) := (hbA.cell (by simp)).trans (by simp); have hswA : W.heap.size + 1 ≤ wA.heap.size := (by have := hbA.size; rw [World.size_alloc] at this; exact this); have HBwA : Hid (Below W.heap.size W wA) := Lib.hid (((Below.refl W.heap.size W).alloc (Nat.le_refl _) (.cells #[.int .i64 t.kind, .string ⟨t.name.toArray⟩, .string ⟨t.text.toArray⟩, .int .i64 t.line, .int .i64 t.col] 59)).trans (hbA.mono (by rw [World.size_alloc]; omega))); clear hbA HTG))
            | (go_at_call 95; go_loud (refine (piece_any 4 t [] nm _).mono ?_; rintro e w2 ⟨rfl, hb2⟩; have dt0w2 : w2.cell? ⟨W.heap.size, 0, none⟩ = some (.int .i64 t.kind) := (hb2.cell (p := ⟨W.heap.size, 0, none⟩) (show W.heap.size < wA.heap.size by omega)).trans dt0wA; have dt1w2 : w2.cell? ⟨W.heap.size, 1, none⟩ = some (.string ⟨t.name.toArray⟩) := (hb2.cell (p := ⟨W.heap.size, 1, none⟩) (show W.heap.size < wA.heap.size by omega)).trans dt1wA; have dt2w2 : w2.cell? ⟨W.heap.size, 2, none⟩ = some (.string ⟨t.text.toArray⟩) := (hb2.cell (p := ⟨W.heap.size, 2, none⟩) (show W.heap.size < wA.heap.size by omega)).trans dt2wA; have dt3w2 : w2.cell? ⟨W.heap.size, 3, none⟩ = some (.int .i64 t.line) := (hb2.cell (p := ⟨W.heap.size, 3, none⟩) (show W.heap.size < wA.heap.size by omega)).trans dt3wA; have dt4w2 : w2.cell? ⟨W.heap.size, 4, none⟩ = some (.int .i64 t.col) := (hb2.cell (p := ⟨W.heap.size, 4, none⟩) (show W.heap.size < wA.heap.size by omega)).trans dt4wA; have hs2 : W.heap.size + 1 ≤ w2.heap.size := Nat.le_trans hswA hb2.size; have HB2 : Hid (Below W.heap.size W w2) := Lib.hid (HBwA.out.trans (hb2.mono (by omega))); have ho2 := owns_new HO3.out HB2.out; have HP2 := Lib.hid (owns_new HO4.out HB2.out); have y0p : w2.cell? ⟨g, o + 10, none⟩ = some (.int .i64 y.kind) := (hb2.cell (p := ⟨g, o + 10, none⟩) (show g < wA.heap.size by omega)).trans y0'; clear hb2))
            | (at_builtin; go_loud (refine wpList_append_lies _ rfl _ _ 112 rfl w.heap.size 191 i0 _ 5 56 Tryz.underlying112 hi0 hz0 hz1 hz2 rfl (by omega) (.slice a3 il.length c3) il.length (inlsC il) rfl (ho2.alloc _) ⟨w2.heap.size, 0, none⟩ 1 1 [.int .i64 4, .string ⟨#[]⟩, .string ⟨nm.toArray⟩, .int .i64 t.line, .int .i64 t.col] rfl rfl (World.news_of_block (cs := #[.int .i64 4, .string ⟨#[]⟩, .string ⟨nm.toArray⟩, .int .i64 t.line, .int .i64 t.col]) (t := 191) (fr := (0, 0)) (heap_alloc_new w2 _)) (by simp [Value.oneCell']) (by omega) (by unfold maxLen; omega) (by omega) (by rw [World.size_alloc]; omega) (w2.heap.size + 1) (by rw [World.size_alloc]) ?_; intro g3 cap3 w4 hown3 hgrow3 hat3 hlt3; have HN3 := Lib.hid hown3; have HB4 : Hid (Below w.heap.size w w4) := Lib.hid ((((HBW.out.trans (HB2.out.mono hzW)).alloc (by omega) _).grown hgrow3 (by rw [World.size_alloc]; omega) fun k hk => (ho2.lt k hk).1)); have HP4 : Hid (w4.ownsRow w.heap.size 189 1 (.slice a4 ks.length c4) ks.length (ks.map fun (k : Nat) => Value.int .i64 k)) := Lib.hid (owns_chg ((HP2.out).alloc _) (Chg.grown (ho2.alloc _) hgrow3) (by decide)); have dt0w4 : w4.cell? ⟨W.heap.size, 0, none⟩ = some (.int .i64 t.kind) := (hgrow3.cell_far ⟨W.heap.size, 0, none⟩ (show W.heap.size < (w2.alloc _).heap.size by rw [World.size_alloc]; omega) (fun e => Nat.lt_irrefl _ (HO3.out.lt _ e.symm).2)).trans ((World.cell?_alloc_lt _ _ ⟨W.heap.size, 0, none⟩ (show W.heap.size < w2.heap.size by omega)).trans dt0w2); have dt1w4 : w4.cell? ⟨W.heap.size, 1, none⟩ = some (.string ⟨t.name.toArray⟩) := (hgrow3.cell_far ⟨W.heap.size, 1, none⟩ (show W.heap.size < (w2.alloc _).heap.size by rw [World.size_alloc]; omega) (fun e => Nat.lt_irrefl _ (HO3.out.lt _ e.symm).2)).trans ((World.cell?_alloc_lt _ _ ⟨W.heap.size, 1, none⟩ (show W.heap.size < w2.heap.size by omega)).trans dt1w2); have dt2w4 : w4.cell? ⟨W.heap.size, 2, none⟩ = some (.string ⟨t.text.toArray⟩) := (hgrow3.cell_far ⟨W.heap.size, 2, none⟩ (show W.heap.size < (w2.alloc _).heap.size by rw [World.size_alloc]; omega) (fun e => Nat.lt_irrefl _ (HO3.out.lt _ e.symm).2)).trans ((World.cell?_alloc_lt _ _ ⟨W.heap.size, 2, none⟩ (show W.heap.size < w2.heap.size by omega)).trans dt2w2); have dt3w4 : w4.cell? ⟨W.heap.size, 3, none⟩ = some (.int .i64 t.line) := (hgrow3.cell_far ⟨W.heap.size, 3, none⟩ (show W.heap.size < (w2.alloc _).heap.size by rw [World.size_alloc]; omega) (fun e => Nat.lt_irrefl _ (HO3.out.lt _ e.symm).2)).trans ((World.cell?_alloc_lt _ _ ⟨W.heap.size, 3, none⟩ (show W.heap.size < w2.heap.size by omega)).trans dt3w2); have dt4w4 : w4.cell? ⟨W.heap.size, 4, none⟩ = some (.int .i64 t.col) := (hgrow3.cell_far ⟨W.heap.size, 4, none⟩ (show W.heap.size < (w2.alloc _).heap.size by rw [World.size_alloc]; omega) (fun e => Nat.lt_irrefl _ (HO3.out.lt _ e.symm).2)).trans ((World.cell?_alloc_lt _ _ ⟨W.heap.size, 4, none⟩ (show W.heap.size < w2.heap.size by omega)).trans dt4w2); have y0q : w4.cell? ⟨g, o + 10, none⟩ = some (.int .i64 y.kind) := (HB4.out.cell (p := ⟨g, o + 10, none⟩) hg).trans y0; clear hown3 hgrow3 hat3))
            | fail)
          have i0' : (0 : Int) < (m : Int) + 2 := by omega
          have i1' : (1 : Int) < (m : Int) + 2 := by omega
          obtain ⟨z0, z1, z2, z3, z4, z5, z6, z7, z8, z9⟩ := HX5.out
          have hg4 : g < w4.heap.size := Nat.lt_of_lt_of_le hg HB4.out.size
          replace z0 := (HB4.out.cell (p := ⟨g, o + 5, none⟩) hg).trans z0
          replace z1 := (HB4.out.cell (p := ⟨g, o + 6, none⟩) hg).trans z1
          replace z2 := (HB4.out.cell (p := ⟨g, o + 7, none⟩) hg).trans z2
          replace z3 := (HB4.out.cell (p := ⟨g, o + 8, none⟩) hg).trans z3
          replace z4 := (HB4.out.cell (p := ⟨g, o + 9, none⟩) hg).trans z4
          replace z5 := (HB4.out.cell (p := ⟨g, o + 10, none⟩) hg).trans z5
          replace z6 := (HB4.out.cell (p := ⟨g, o + 11, none⟩) hg).trans z6
          replace z7 := (HB4.out.cell (p := ⟨g, o + 12, none⟩) hg).trans z7
          replace z8 := (HB4.out.cell (p := ⟨g, o + 13, none⟩) hg).trans z8
          replace z9 := (HB4.out.cell (p := ⟨g, o + 14, none⟩) hg).trans z9
          go_region_held3 (fun w' => w'.cell? ⟨g, o + 5, none⟩ = some (.int .i64 x.kind) ∧ w'.cell? ⟨g, o + 6, none⟩ = some (.string ⟨x.name.toArray⟩) ∧ w'.cell? ⟨g, o + 7, none⟩ = some (.string ⟨x.text.toArray⟩) ∧ w'.cell? ⟨g, o + 8, none⟩ = some (.int .i64 x.line) ∧ w'.cell? ⟨g, o + 9, none⟩ = some (.int .i64 x.col) ∧ w'.cell? ⟨g, o + 10, none⟩ = some (.int .i64 y.kind) ∧ w'.cell? ⟨g, o + 11, none⟩ = some (.string ⟨y.name.toArray⟩) ∧ w'.cell? ⟨g, o + 12, none⟩ = some (.string ⟨y.text.toArray⟩) ∧ w'.cell? ⟨g, o + 13, none⟩ = some (.int .i64 y.line) ∧ w'.cell? ⟨g, o + 14, none⟩ = some (.int .i64 y.col))
            ((refine ⟨?_, ?_, ?_, ?_, ?_, ?_, ?_, ?_, ?_, ?_⟩ <;> go_split_ands <;> first | assumption | exact (Below.cell (by first | exact hb2 | exact hb1) (Nat.lt_of_lt_of_le hg4 (by first | exact Nat.le_refl _ | exact BP.out.size))).trans (by assumption) | exact cell_alP (by assumption) _))
            (first
              | (go_at_call_of 95 (Value.int IntKind.i64 1); refine (piece_any 1 x nm [] _).mono ?_; rintro e wP ⟨rfl, hb1⟩; have BP : Hid (Below w4.heap.size w4 wP) := Lib.hid (by first | exact hb1 | exact ((Below.refl _ _).drew).trans hb1))
              | (go_at_call_of 95 (Value.int IntKind.i64 5); refine (piece_any 5 y [] [] _).mono ?_; rintro e wQ ⟨rfl, hb2⟩; have BQ : Hid (Below w4.heap.size w4 wQ) := Lib.hid (BP.out.trans (by first | exact hb2.mono BP.out.size | exact (((Below.refl _ _).drew).trans hb2).mono BP.out.size)))
              | (refine step_append_lies _ (by rfl) _ _ _ (by rfl) w.heap.size 191 i0 _ 5 56 Tryz.underlying112 hi0 hz0 hz1 hz2 rfl (by omega) (.slice (some ⟨g3, 0, none⟩) (il.length + 1) cap3) (il.length + 1) (inlsC il ++ [.int .i64 4, .string ⟨#[]⟩, .string ⟨nm.toArray⟩, .int .i64 t.line, .int .i64 t.col]) (by rfl) ((owns_new HN3.out BQ.out).alloc _) ⟨wQ.heap.size, 0, none⟩ 2 2 [.int .i64 1, .string ⟨nm.toArray⟩, .string ⟨#[]⟩, .int .i64 x.line, .int .i64 x.col, .int .i64 5, .string ⟨#[]⟩, .string ⟨#[]⟩, .int .i64 y.line, .int .i64 y.col] (by rfl) (by rfl) (World.news_of_block (cs := #[.int .i64 1, .string ⟨nm.toArray⟩, .string ⟨#[]⟩, .int .i64 x.line, .int .i64 x.col, .int .i64 5, .string ⟨#[]⟩, .string ⟨#[]⟩, .int .i64 y.line, .int .i64 y.col]) (t := 191) (fr := (0, 0)) (heap_alloc_new wQ _)) (by simp [Value.oneCell']) (by omega) (by unfold maxLen; omega) (by omega) (by have hzz := BQ.out.size; have hz4 := HB4.out.size; simp; omega) (wQ.heap.size + 1) (by simp) ?_; intro g6 cap6 w6 hown6 hgrow6 hat6 hlt6; have HN6 := Lib.hid hown6; have HB6 : Hid (Below w.heap.size w w6) := Lib.hid (((HB4.out.trans (BQ.out.mono HB4.out.size)).alloc (Nat.le_trans HB4.out.size BQ.out.size) _).grown hgrow6 (by rw [World.size_alloc]; have := BQ.out.size; have := HB4.out.size; omega) fun k hk => ((owns_new HN3.out BQ.out).lt k hk).1); have HP6 := Lib.hid (owns_chg ((owns_new HP4.out BQ.out).alloc _) (Chg.grown ((owns_new HN3.out BQ.out).alloc _) hgrow6) (by decide)); have zz5 : w6.cell? ⟨g, o + 5, none⟩ = some (.int .i64 x.kind) := (HB6.out.cell (p := ⟨g, o + 5, none⟩) hg).trans HX5.out.1; have zz6 : w6.cell? ⟨g, o + 6, none⟩ = some (.string ⟨x.name.toArray⟩) := (HB6.out.cell (p := ⟨g, o + 6, none⟩) hg).trans HX5.out.2.1; have zz7 : w6.cell? ⟨g, o + 7, none⟩ = some (.string ⟨x.text.toArray⟩) := (HB6.out.cell (p := ⟨g, o + 7, none⟩) hg).trans HX5.out.2.2.1; have zz8 : w6.cell? ⟨g, o + 8, none⟩ = some (.int .i64 x.line) := (HB6.out.cell (p := ⟨g, o + 8, none⟩) hg).trans HX5.out.2.2.2.1; have zz9 : w6.cell? ⟨g, o + 9, none⟩ = some (.int .i64 x.col) := (HB6.out.cell (p := ⟨g, o + 9, none⟩) hg).trans HX5.out.2.2.2.2.1; have zz10 : w6.cell? ⟨g, o + 10, none⟩ = some (.int .i64 y.kind) := (HB6.out.cell (p := ⟨g, o + 10, none⟩) hg).trans HX5.out.2.2.2.2.2.1; have zz11 : w6.cell? ⟨g, o + 11, none⟩ = some (.string ⟨y.name.toArray⟩) := (HB6.out.cell (p := ⟨g, o + 11, none⟩) hg).trans HX5.out.2.2.2.2.2.2.1; have zz12 : w6.cell? ⟨g, o + 12, none⟩ = some (.string ⟨y.text.toArray⟩) := (HB6.out.cell (p := ⟨g, o + 12, none⟩) hg).trans HX5.out.2.2.2.2.2.2.2.1; have zz13 : w6.cell? ⟨g, o + 13, none⟩ = some (.int .i64 y.line) := (HB6.out.cell (p := ⟨g, o + 13, none⟩) hg).trans HX5.out.2.2.2.2.2.2.2.2.1; have zz14 : w6.cell? ⟨g, o + 14, none⟩ = some (.int .i64 y.col) := (HB6.out.cell (p := ⟨g, o + 14, none⟩) hg).trans HX5.out.2.2.2.2.2.2.2.2.2))
          all_goals
            go_wp2_with fail
            refine ⟨⟨r2, _, c - 1 - 2, il ++ [⟨4, [], nm, t.line, t.col⟩] ++ [⟨1, nm, [], x.line, x.col⟩, ⟨5, [], [], y.line, y.col⟩], ks, lk, f, dy, by unfold cutV; rw [HM.out]; rfl, rfl, ⟨HAT2.out, by rw [show (il ++ [⟨4, [], nm, t.line, t.col⟩] ++ [⟨1, nm, [], x.line, x.col⟩, ⟨5, [], [], y.line, y.col⟩] : List Inl).length = il.length + 1 + 2 from by simp, show inlsC (il ++ [⟨4, [], nm, t.line, t.col⟩] ++ [⟨1, nm, [], x.line, x.col⟩, ⟨5, [], [], y.line, y.col⟩]) = inlsC il ++ [.int .i64 4, .string ⟨#[]⟩, .string ⟨nm.toArray⟩, .int .i64 t.line, .int .i64 t.col] ++ [.int .i64 1, .string ⟨nm.toArray⟩, .string ⟨#[]⟩, .int .i64 x.line, .int .i64 x.col, .int .i64 5, .string ⟨#[]⟩, .string ⟨#[]⟩, .int .i64 y.line, .int .i64 y.col] from by simp [inlsC, inlC]]; exact HN6.out, HP6.out, HB6.out, ?_, by rw [HM.out]; omega, HDY.out, ?_, ?_, ?_, fun x hx => HTX.out x (List.mem_cons_of_mem _ (List.mem_cons_of_mem _ (List.mem_cons_of_mem _ hx)))⟩⟩, ?_⟩
            · rw [HR.out, HE.out]; rw [show (il ++ [⟨4, [], nm, t.line, t.col⟩] ++ [⟨1, nm, [], x.line, x.col⟩, ⟨5, [], [], y.line, y.col⟩] : List Inl).map Inl.pc = il.map Inl.pc ++ [(4, 0)] ++ [(1, nm.length), (5, 0)] from by simp [Inl.pc]]
            · exact hdd
            · rw [HM.out]; simp only [List.length_append, List.length_cons, List.length_nil]; omega
            · rw [HM.out]; omega
            · show m + 2 - 2 < m + 2 + 1; omega
end Go.Proofs.YtafhmagifoapfaaGreatDoor
