/- src: list. -/
import Derived.Test.YtafhmagifoapfaaGreatDoorInls
namespace Go.Proofs.YtafhmagifoapfaaGreatDoor
open Go.RowKit Find Bk
attribute [local go_sem ↓] Go.wp_at_zero Go.wp_at_succ
theorem info_lvl : (Tryz.prog.info? 105).map (fun i => (i.zero, i.size, i.bytes)) = some (some (.agg #[.int .i64 0, .int .i64 0, .int .i64 0, .int .i64 0, .int .i64 0, .int .i64 0, .string ⟨#[]⟩, .string ⟨#[]⟩, .int .i64 0, .int .i64 0]), 10, 96) := by kernel_rfl
theorem three_newM (w : World) (o1 o2 o3 : Obj) : (((w.alloc o1).alloc o2).alloc o3).heap[w.heap.size + 2]? = some o3 := by
  have := heap_alloc_new ((w.alloc o1).alloc o2) o3
  simpa using this
/-- The two kinds of lists, by their names. -/
def lstE : List MapEntry := [⟨.string ⟨#[98, 117, 108, 108, 101, 116]⟩, .int .i64 0, 0⟩, ⟨.string ⟨#[110, 117, 109, 98, 101, 114]⟩, .int .i64 1, 1⟩]
def lstM (i : Nat) : Obj := .map (lstE.take i).toArray i
theorem lst_make (w : World) : (Instr.makeMap 181 none).run Tryz.prog w = .ok (.map (some w.heap.size)) (w.alloc (lstM 0)) := rfl
theorem lst_step (i : Nat) (k : ByteArray) (v : Value) (hf : Instr.findNow .string (.string k) (lstE.take i) 0 = some none) (he : lstE.take i ++ [⟨.string k, v, i⟩] = lstE.take (i + 1)) (w : World) :
    (Instr.mapUpdate 181 (.map (some w.heap.size)) (.string k) v).run Tryz.prog (w.alloc (lstM i)) = .ok () (w.alloc (lstM (i + 1))) := by
  refine (run_insert_new (kt := 9) (e := 3) (by kernel_rfl) (by kernel_rfl) w _ i _ _ hf).trans ?_
  unfold lstM
  rw [← he]
  simp
theorem lst_look (x : Wd) (w : World) (r : Option (Nat × Value)) (hf : Instr.findNow .string (.string ⟨x.toArray⟩) lstE 0 = some r) : (Instr.lookup 181 (.map (some w.heap.size)) (.string ⟨x.toArray⟩) true).run Tryz.prog (w.alloc (lstM 2)) = .ok (match r with | some (_, v) => .tuple #[v, .bool true] | none => .tuple #[.int .i64 0, .bool false]) (w.alloc (lstM 2)) := by
  have hu : Tryz.prog.underlying 181 = some (.map 9 3) := by kernel_rfl
  have hd : Tryz.prog.underlying 9 = some .string := by kernel_rfl
  have hg := get_map (P := Tryz.prog) (heap_alloc_new w (lstM 2))
  have hz : (zeroValue 3).run Tryz.prog (w.alloc (lstM 2)) = .ok (.int .i64 0) (w.alloc (lstM 2)) := by kernel_rfl
  have hf2 := run_findKeyS (P := Tryz.prog) hd hf (w.alloc (lstM 2))
  unfold Instr.lookup
  simp only [Sem.run_bind, run_underlying hu, Result.andThen_ok, hg, Sem.run_pure, run_checkKeyS hd]
  rw [show List.take 2 lstE = lstE from rfl, hf2]
  cases r with
  | none =>
    simp only [Sem.run_bind, Result.andThen_ok, hz]
    rfl
  | some r => rfl
theorem lst_miss {x : Wd} (h1 : x ≠ [98, 117, 108, 108, 101, 116]) (h2 : x ≠ [110, 117, 109, 98, 101, 114]) : Instr.findNow .string (.string ⟨x.toArray⟩) lstE 0 = some none := by
  unfold lstE Instr.findNow Instr.sameNow
  simp only [show ((⟨x.toArray⟩ : ByteArray) == ⟨#[98, 117, 108, 108, 101, 116]⟩) = false from bytes_ne h1]
  unfold Instr.findNow Instr.sameNow
  simp only [show ((⟨x.toArray⟩ : ByteArray) == ⟨#[110, 117, 109, 98, 101, 114]⟩) = false from bytes_ne h2]
  rfl
set_option maxHeartbeats 3200000 in
set_option maxRecDepth 100000 in
theorem list_any (B : Nat) (s : PS) (p : PV) (t : Tok) (arg : Wd) (w : World) (h : ParR B w s p) (hB : B ≤ w.heap.size) (tp : Top) (ht : s.cur = some tp) (hn : tp.blks.length ≤ 4000000) (ho8 : s.opn.length ≤ 100) :
    Calls Tryz.prog 42 #[parP p, tokV t, .string ⟨arg.toArray⟩] w (DoPost B p.b p.vm (s.list t arg) w) := by
  have HB0 : Hid (Below B w (w.alloc (.cells #[.int .i64 t.kind, .string ⟨t.name.toArray⟩, .string ⟨t.text.toArray⟩, .int .i64 t.line, .int .i64 t.col] 59))) := Lib.hid ((Below.refl B w).alloc hB _)
  have hb1 : B ≤ (w.alloc (.cells #[.int .i64 t.kind, .string ⟨t.name.toArray⟩, .string ⟨t.text.toArray⟩, .int .i64 t.line, .int .i64 t.col] 59)).heap.size := by simp; omega
  have HB1 := Lib.hid hb1
  clear hb1
  have HE := fun c w hc => swrong_any c t w hc
  have hW : (w.alloc (.cells #[.int .i64 t.kind, .string ⟨t.name.toArray⟩, .string ⟨t.text.toArray⟩, .int .i64 t.line, .int .i64 t.col] 59)).heap.size = w.heap.size + 1 := by simp
  have hm0 := lst_make (w.alloc (.cells #[.int .i64 t.kind, .string ⟨t.name.toArray⟩, .string ⟨t.text.toArray⟩, .int .i64 t.line, .int .i64 t.col] 59))
  have hm1 := lst_step 0 ⟨#[98, 117, 108, 108, 101, 116]⟩ (.int .i64 0) (by kernel_rfl) rfl (w.alloc (.cells #[.int .i64 t.kind, .string ⟨t.name.toArray⟩, .string ⟨t.text.toArray⟩, .int .i64 t.line, .int .i64 t.col] 59))
  have hm2 := lst_step 1 ⟨#[110, 117, 109, 98, 101, 114]⟩ (.int .i64 1) (by kernel_rfl) rfl (w.alloc (.cells #[.int .i64 t.kind, .string ⟨t.name.toArray⟩, .string ⟨t.text.toArray⟩, .int .i64 t.line, .int .i64 t.col] 59))
  have hlk := lst_look arg (w.alloc (.cells #[.int .i64 t.kind, .string ⟨t.name.toArray⟩, .string ⟨t.text.toArray⟩, .int .i64 t.line, .int .i64 t.col] 59))
  rw [hW] at hm0 hm1 hm2 hlk
  have HB9 : Hid (Below B w ((w.alloc (.cells #[.int .i64 t.kind, .string ⟨t.name.toArray⟩, .string ⟨t.text.toArray⟩, .int .i64 t.line, .int .i64 t.col] 59)).alloc (lstM 2))) := Lib.hid (HB0.out.alloc HB1.out _)
  have hb2 : B ≤ ((w.alloc (.cells #[.int .i64 t.kind, .string ⟨t.name.toArray⟩, .string ⟨t.text.toArray⟩, .int .i64 t.line, .int .i64 t.col] 59)).alloc (lstM 2)).heap.size := by simp; omega
  have HB8 := Lib.hid hb2
  clear hb2 hW
  by_cases hk : arg = [98, 117, 108, 108, 101, 116] ∨ arg = [110, 117, 109, 98, 101, 114]
  case neg =>
    have hl : (Instr.lookup 181 (.map (some (w.heap.size + 1))) (.string ⟨arg.toArray⟩) true).run Tryz.prog ((w.alloc (.cells #[.int .i64 t.kind, .string ⟨t.name.toArray⟩, .string ⟨t.text.toArray⟩, .int .i64 t.line, .int .i64 t.col] 59)).alloc (lstM 2)) = .ok (.tuple #[.int .i64 0, .bool false]) ((w.alloc (.cells #[.int .i64 t.kind, .string ⟨t.name.toArray⟩, .string ⟨t.text.toArray⟩, .int .i64 t.line, .int .i64 t.col] 59)).alloc (lstM 2)) := hlk none (lst_miss (fun e => hk (.inl e)) (fun e => hk (.inr e)))
    have HP := Lib.hid (show s.list t arg = .error (t.flt 51) from by unfold PS.list; rw [if_neg hk])
    clear h hk hlk
    go_enter Tryz.func42, Tryz.ntmps42
    go_wp2_with (first
      | (go_at_call 52; refine (HE 51 _ (by decide)).mono ?_; rintro e w9 ⟨v, rfl, hf, hb⟩)
      | fail)
    refine ⟨rfl, ?_⟩
    rw [HP.out]
    exact doErr hf hb HB9.out HB8.out
  obtain ⟨kn, hl⟩ : ∃ kn : Nat, (Instr.lookup 181 (.map (some (w.heap.size + 1))) (.string ⟨arg.toArray⟩) true).run Tryz.prog ((w.alloc (.cells #[.int .i64 t.kind, .string ⟨t.name.toArray⟩, .string ⟨t.text.toArray⟩, .int .i64 t.line, .int .i64 t.col] 59)).alloc (lstM 2)) = .ok (.tuple #[.int .i64 kn, .bool true]) ((w.alloc (.cells #[.int .i64 t.kind, .string ⟨t.name.toArray⟩, .string ⟨t.text.toArray⟩, .int .i64 t.line, .int .i64 t.col] 59)).alloc (lstM 2)) := by
    rcases hk with rfl | rfl
    · exact ⟨0, hlk (some (0, .int .i64 0)) (by kernel_rfl)⟩
    · exact ⟨1, hlk (some (1, .int .i64 1)) (by kernel_rfl)⟩
  by_cases h8 : 8 ≤ s.opn.length
  case pos =>
    have HP := Lib.hid (show s.list t arg = .error (t.flt 2) from by unfold PS.list; rw [if_pos hk, if_pos h8])
    obtain ⟨c0, c1, c2, c3, c4, c5, cf⟩ := par_cells h
    have hpl := h.lt
    obtain ⟨sa, sc, hv⟩ := owns_slice h.opn
    rw [hv] at c3
    have hd1 : decide ((8 : Int) ≤ (s.opn.length : Int)) = true := by rw [decide_eq_true_eq]; omega
    have hd2 : decide (8 ≤ s.opn.length) = true := by rw [decide_eq_true_eq]; omega
    clear h hk hlk hv c0 c1 c2 c4 c5 h8
    go_enter Tryz.func42, Tryz.ntmps42
    go_wp2_with (first
      | (go_at_call 52; refine (HE 2 _ (by decide)).mono ?_; rintro e w9 ⟨v, rfl, hf, hb⟩)
      | fail)
    refine ⟨rfl, ?_⟩
    rw [HP.out]
    exact doErr hf hb HB9.out HB8.out
  have HP := Lib.hid (show s.list t arg = .ok (PS.add { s with opn := s.opn ++ [⟨0, 0, 0, 0, 0, t⟩] } []) from by unfold PS.list; rw [if_pos hk, if_neg h8])
  obtain ⟨i0, hi0, hz0, hz1, hz2⟩ := info_parts info_lvl
  obtain ⟨sa, sc, hv⟩ := owns_slice h.opn
  have HV := Lib.hid hv
  have c3 := (par_cells h).2.2.2.1
  have hpl := h.lt
  rw [hv] at c3
  have hd1 : decide ((8 : Int) ≤ (s.opn.length : Int)) = false := by rw [decide_eq_false_iff_not]; omega
  have hd2 : decide (8 ≤ s.opn.length) = false := by rw [decide_eq_false_iff_not]; omega
  have HX := Lib.hid h
  have HA := Lib.hid (fun (w' : World) (p' : PV) (h' : ParR B w' { s with opn := s.opn ++ [⟨0, 0, 0, 0, 0, t⟩] } p') (hb' : B ≤ w'.heap.size) => add_any B _ p' tp 2 kn (.string ⟨#[]⟩) (.slice none 0 0) (.slice none 0 0) t.line [] w' h' ht hb' (TextR.nil _ _) hn ⟨⟨_, rfl⟩, _, _, _, rfl⟩)
  clear h hk hlk hv h8
  go_enter Tryz.func42, Tryz.ntmps42
  go_wp2_with fail
  obtain ⟨w2, hWe⟩ : ∃ W, (w.alloc (.cells #[.int .i64 t.kind, .string ⟨t.name.toArray⟩, .string ⟨t.text.toArray⟩, .int .i64 t.line, .int .i64 t.col] 59)).alloc (lstM 2) = W := ⟨_, rfl⟩
  have HB2 : Hid (Below w.heap.size w w2) := Lib.hid (by rw [← hWe]; exact ((Below.refl w.heap.size w).alloc (Nat.le_refl _) (.cells #[.int .i64 t.kind, .string ⟨t.name.toArray⟩, .string ⟨t.text.toArray⟩, .int .i64 t.line, .int .i64 t.col] 59)).alloc (by simp) (lstM 2))
  have dt0 : w2.cell? ⟨w.heap.size, 0, none⟩ = some (.int .i64 t.kind) := by rw [← hWe]; exact (((Below.refl (w.heap.size + 1) _).alloc (by simp) _).cell (p := ⟨w.heap.size, 0, none⟩) (by simp)).trans (by simp)
  have dt1 : w2.cell? ⟨w.heap.size, 1, none⟩ = some (.string ⟨t.name.toArray⟩) := by rw [← hWe]; exact (((Below.refl (w.heap.size + 1) _).alloc (by simp) _).cell (p := ⟨w.heap.size, 1, none⟩) (by simp)).trans (by simp)
  have dt2 : w2.cell? ⟨w.heap.size, 2, none⟩ = some (.string ⟨t.text.toArray⟩) := by rw [← hWe]; exact (((Below.refl (w.heap.size + 1) _).alloc (by simp) _).cell (p := ⟨w.heap.size, 2, none⟩) (by simp)).trans (by simp)
  have dt3 : w2.cell? ⟨w.heap.size, 3, none⟩ = some (.int .i64 t.line) := by rw [← hWe]; exact (((Below.refl (w.heap.size + 1) _).alloc (by simp) _).cell (p := ⟨w.heap.size, 3, none⟩) (by simp)).trans (by simp)
  have dt4 : w2.cell? ⟨w.heap.size, 4, none⟩ = some (.int .i64 t.col) := by rw [← hWe]; exact (((Below.refl (w.heap.size + 1) _).alloc (by simp) _).cell (p := ⟨w.heap.size, 4, none⟩) (by simp)).trans (by simp)
  have hsz : w.heap.size < w2.heap.size := by rw [← hWe]; simp; omega
  rw [hWe]
  clear hm0 hm1 hm2 hl hWe HB9 HB8 c3
  obtain ⟨c0, c1, c2, c3, c4, c5, cf⟩ := par_cells (HX.out.new HB2.out)
  have hs := (HX.out.new HB2.out).opn
  have HS := Lib.hid hs
  have hpb := HX.out.base
  have hpl2 := (HX.out.new HB2.out).lt
  have ag : some p.b ≠ p.vO.ownBlock := fun e => owns_apart hs (HX.out.new HB2.out).blk (by decide) e.symm
  have ag2 : some w.heap.size ≠ p.vO.ownBlock := fun e => Nat.lt_irrefl _ (HX.out.opn.lt _ e.symm).2
  rw [HV.out] at c3 hs ag ag2
  clear c0 c1 c2 c4 c5
  go_region_law
    ((refine step_append_lies _ (by rfl) _ _ _ (by rfl) B 105 i0 _ 10 96 Tryz.underlying55 hi0 hz0 hz1 hz2 rfl (by omega) (.slice sa s.opn.length sc) s.opn.length (lvlsC s.opn) (by rfl) ((hs.drew).alloc _)
        ⟨w2.heap.size, 0, none⟩ 1 1 (lvlC ⟨0, 0, 0, 0, 0, t⟩) (by rfl) (by rfl) (World.news_of_block (cs := (lvlC ⟨0, 0, 0, 0, 0, t⟩).toArray) (t := 105) (fr := (0, 0)) (heap_alloc_new w2 _)) (by simp [lvlC, tokC, Value.oneCell'])
        (by omega) (by unfold maxLen; omega) (by omega) (by simp; omega) (w2.heap.size + 1) (by simp) ?_; intro gg cap1 w6 hown1 hgrow hat hlt1; have q2 := hgrow.cell_far ⟨p.b, 3, none⟩ (by simp; omega) ag; have q2f := hgrow.frozen_far ⟨p.b, 3, none⟩ (by simp; omega) ag; have q3 := hgrow.cell_far ⟨w.heap.size, 3, none⟩ (by simp; omega) ag2; simp at q2 q2f q3))
  all_goals
    have HB : Hid (Below B w w6) := Lib.hid ((((HB2.out.mono hB).drew).alloc (show B ≤ w2.heap.size by omega) _).grown hgrow (by simp; omega) fun k hk => (hs.lt k hk).1)
    have Hg := Lib.hid hgrow
    have Ho := Lib.hid hown1
    clear hgrow hown1
    go_wp2_with (first
      | (go_at_call 58; refine (HA.out _ _ ((((HX.out.new HB2.out).alloc _).drew).opened (l := ⟨0, 0, 0, 0, 0, t⟩) rfl (by rw [HV.out]; exact Hg.out) Ho.out) (by have := HB.out.size; simp; omega)).mono ?_; rintro e w7 ⟨rfl, hb4, hp4⟩; have HB4 := Lib.hid hb4; have HP4 := Lib.hid hp4; clear hb4 hp4)
      | fail)
    go_end0
    rw [HP.out]
    exact ⟨((HB.out).setCell hpb _).trans HB4.out, rfl, HP4.out⟩
theorem info_int : (Tryz.prog.info? 3).map (fun i => (i.zero, i.size, i.bytes)) = some (some (.int .i64 0), 1, 8) := by kernel_rfl
theorem str_eta (b : ByteArray) : Value.string b = .string ⟨b.data.toList.toArray⟩ := by simp
theorem cell_one_newM (w : World) (v : Value) (t : TypeId) : ∀ j u, [v][j]? = some u → (w.alloc (.cells #[v] t)).cell? ((⟨w.heap.size, 0, none⟩ : Addr).add j) = some u := World.news_of_block (cs := #[v]) (heap_alloc_new w _)
/-- The pieces of a split text in memory. -/
theorem split_any (l : Wd) (w : World) (hg : Glb w) (hl : l.length ≤ 1000000) :
    Calls Tryz.prog 90 #[.string ⟨l.toArray⟩, .string ⟨#[32]⟩] w fun e w' => ∃ A, e = .returned (.slice (some ⟨A, 0, none⟩) (PS.splitF l).length (PS.splitF l).length) ∧ Below w.heap.size w w' ∧ A < w'.heap.size ∧ ∀ j x, (PS.splitF l)[j]? = some x → w'.cell? ⟨A, j, none⟩ = some (.string ⟨x.toArray⟩) := by
  obtain ⟨m, hm⟩ := hg.max
  have hlen : (PS.splitF l).length = Lib.countB ⟨l.toArray⟩ ⟨#[32]⟩ + 1 := by
    unfold PS.splitF
    rw [List.length_map, Lib.splitB_all ⟨#[32]⟩ (by decide) 0 _ _ rfl]
  refine (Tryz.strings_Split ⟨l.toArray⟩ ⟨#[32]⟩ m w (by rw [size_mk]; omega) hm (by decide)).mono ?_
  rintro e w' ⟨rfl, rfl⟩
  refine ⟨w.heap.size, by rw [hlen], (Below.refl _ _).alloc (Nat.le_refl _) _, by simp, fun j x hx => ?_⟩
  rw [cell_of_heap (heap_alloc_new w _)]
  unfold PS.splitF at hx
  rw [List.getElem?_map] at hx
  obtain ⟨y, hy, rfl⟩ := Option.map_eq_some_iff.1 hx
  rw [List.getElem?_toArray, List.getElem?_map, hy]
  exact congrArg some (str_eta y)
set_option maxHeartbeats 3200000 in
set_option maxRecDepth 100000 in
theorem table_any (B : Nat) (s : PS) (p : PV) (t : Tok) (arg : Wd) (w : World) (h : ParR B w s p) (hB : B ≤ w.heap.size) (tp : Top) (ht : s.cur = some tp) (hn : tp.blks.length ≤ 4000000) (ho8 : s.opn.length ≤ 100) (hg : Glb w) (hal : arg.length ≤ 1000000) :
    Calls Tryz.prog 47 #[parP p, tokV t, .string ⟨arg.toArray⟩] w (DoPost B p.b p.vm (s.table t arg) w) := by
  have HB0 : Hid (Below B w (w.alloc (.cells #[.int .i64 t.kind, .string ⟨t.name.toArray⟩, .string ⟨t.text.toArray⟩, .int .i64 t.line, .int .i64 t.col] 59))) := Lib.hid ((Below.refl B w).alloc hB _)
  have hb1 : B ≤ (w.alloc (.cells #[.int .i64 t.kind, .string ⟨t.name.toArray⟩, .string ⟨t.text.toArray⟩, .int .i64 t.line, .int .i64 t.col] 59)).heap.size := by simp; omega
  have HB1 := Lib.hid hb1
  clear hb1
  obtain ⟨i0, hi0, hz0, hz1, hz2⟩ := info_parts info_lvl
  obtain ⟨j0, hj0, hy0, hy1, hy2⟩ := info_parts info_int
  have HE := fun c w hc => swrong_any c t w hc
  have hSP := fun w hg => split_any arg w hg hal
  have hM : s.table t arg = if (PS.splitF arg).all (fun w => (numberF w 0 100).isSome) && decide ((PS.splitF arg).length ≤ 8) then .ok (PS.add { s with opn := s.opn ++ [⟨1, 0, 0, 0, (PS.splitF arg).length, t⟩] } []) else .error (t.flt 51) := rfl
  have hlw : (PS.splitF arg).length ≤ 1000001 := by
    have := Lib.countB_le ⟨#[32]⟩ (by decide) (⟨arg.toArray⟩ : ByteArray).size ⟨arg.toArray⟩ (Nat.le_refl _)
    rw [size_mk] at this
    unfold PS.splitF
    rw [List.length_map, Lib.splitB_all ⟨#[32]⟩ (by decide) 0 _ _ rfl]
    omega
  obtain ⟨ws, hws⟩ : ∃ ws, PS.splitF arg = ws := ⟨_, rfl⟩
  rw [hws] at hSP hM hlw
  obtain ⟨n, hnl⟩ : ∃ n, ws.length = n := ⟨_, rfl⟩
  rw [hnl] at hSP hM hlw
  have HSP := Lib.hid hSP
  have HM := Lib.hid hM
  have HNL := Lib.hid hnl
  have HX := Lib.hid h
  have HG := Lib.hid hg
  have HA := Lib.hid (fun (w' : World) (p' : PV) (wi : Value) (hwi : ∃ a n c, wi = .slice a n c) (h' : ParR B w' { s with opn := s.opn ++ [⟨1, 0, 0, 0, n, t⟩] } p') (hb' : B ≤ w'.heap.size) => add_any B _ p' tp 4 0 (.string ⟨#[]⟩) wi (.slice none 0 0) t.line [] w' h' ht hb' (TextR.nil _ _) hn ⟨⟨_, rfl⟩, hwi⟩)
  clear h hg hSP hM hws hnl
  go_enter Tryz.func47, Tryz.ntmps47
  go_wp2_with (first
    | (go_at_call 90; refine (HSP.out _ (HG.out.below ((Below.refl _ _).alloc (Nat.le_refl _) _))).mono ?_; rintro e w2 ⟨A, rfl, hb2, hA, hcl⟩; have dt0 : w2.cell? ⟨w.heap.size, 0, none⟩ = some (.int .i64 t.kind) := (hb2.cell (by simp)).trans (by simp); have dt1 : w2.cell? ⟨w.heap.size, 1, none⟩ = some (.string ⟨t.name.toArray⟩) := (hb2.cell (by simp)).trans (by simp); have dt2 : w2.cell? ⟨w.heap.size, 2, none⟩ = some (.string ⟨t.text.toArray⟩) := (hb2.cell (by simp)).trans (by simp); have dt3 : w2.cell? ⟨w.heap.size, 3, none⟩ = some (.int .i64 t.line) := (hb2.cell (by simp)).trans (by simp); have dt4 : w2.cell? ⟨w.heap.size, 4, none⟩ = some (.int .i64 t.col) := (hb2.cell (by simp)).trans (by simp); have HB2 := Lib.hid (((Below.refl w.heap.size w).alloc (Nat.le_refl _) (.cells #[.int .i64 t.kind, .string ⟨t.name.toArray⟩, .string ⟨t.text.toArray⟩, .int .i64 t.line, .int .i64 t.col] 59)).trans (hb2.mono (by simp))); have hsz : w.heap.size < w2.heap.size := Nat.lt_of_lt_of_le (by simp) hb2.size; have HCL := Lib.hid hcl; clear hb2 hcl)
    | fail)
  go_loopw [6, 16] (fun v i wr => ∃ (k : Nat) (xs : List Value), k ≤ n ∧ i = .int .i64 k ∧ wr.ownsRow w2.heap.size 3 1 v k xs ∧ Hid (∀ j x, j < k → ws[j]? = some x → (numberF x 0 100).isSome = true) ∧ Below w2.heap.size w2 wr ∧ (0 < k → n ≤ 8)) (fun _ i _ => n - (intOf i).toNat)
  case atStart => exact ⟨0, [], Nat.zero_le _, rfl, World.ownsRow_nil _ _ _ _, Lib.hid (fun j x hj => by omega), Below.refl _ _, by omega⟩
  case round =>
    obtain ⟨k, xs, hk, rfl, hown, hall, hbw, h8⟩ := hrel
    have du0 : wr.cell? ⟨w.heap.size, 0, none⟩ = some (.int .i64 t.kind) := (hbw.cell (p := ⟨w.heap.size, 0, none⟩) hsz).trans dt0
    have du1 : wr.cell? ⟨w.heap.size, 1, none⟩ = some (.string ⟨t.name.toArray⟩) := (hbw.cell (p := ⟨w.heap.size, 1, none⟩) hsz).trans dt1
    have du2 : wr.cell? ⟨w.heap.size, 2, none⟩ = some (.string ⟨t.text.toArray⟩) := (hbw.cell (p := ⟨w.heap.size, 2, none⟩) hsz).trans dt2
    have du3 : wr.cell? ⟨w.heap.size, 3, none⟩ = some (.int .i64 t.line) := (hbw.cell (p := ⟨w.heap.size, 3, none⟩) hsz).trans dt3
    have du4 : wr.cell? ⟨w.heap.size, 4, none⟩ = some (.int .i64 t.col) := (hbw.cell (p := ⟨w.heap.size, 4, none⟩) hsz).trans dt4
    have HBW := Lib.hid hbw
    have hzw := hbw.size
    obtain ⟨wa, wc, rfl⟩ := owns_slice hown
    by_cases hlt : k < n
    · have hkl : k < ws.length := by rw [HNL.out]; exact hlt
      obtain ⟨x, hx⟩ : ∃ x, ws[k]? = some x := ⟨_, List.getElem?_eq_getElem hkl⟩
      have hcx : wr.cell? ⟨A, k, none⟩ = some (.string ⟨x.toArray⟩) := (hbw.cell (p := ⟨A, k, none⟩) hA).trans (HCL.out k x hx)
      have hN := number_any x 0 100 wr
      have HX0 := Lib.hid hx
      clear hbw
      cases hnum : numberF x 0 100 with
      | none =>
        have HP := Lib.hid (show s.table t arg = .error (t.flt 51) from by
          rw [HM.out, if_neg]
          rw [Bool.and_eq_true, List.all_eq_true]
          rintro ⟨h1, -⟩
          have := h1 x (List.mem_of_getElem? hx)
          rw [hnum] at this
          cases this)
        rw [hnum] at hN
        have HN := Lib.hid hN
        clear hx hN hnum
        go_wp2_with (first
          | (go_at_call 87; refine HN.out.mono ?_; rintro e w3 ⟨⟨y, rfl⟩, rfl⟩; clear HN)
          | (go_at_call 52; refine (HE 51 _ (by decide)).mono ?_; rintro e w9 ⟨v, rfl, hf, hb⟩)
          | fail)
        refine ⟨rfl, ?_⟩
        rw [HP.out]
        exact doErr2 hf ((((HB2.out.mono hB).trans (HBW.out.mono (by omega))).trans (hb.mono (by omega))))
      | some m =>
        rw [hnum] at hN
        have HN : Hid (Calls Tryz.prog 87 #[.string ⟨x.toArray⟩, .int .i64 0, .int .i64 100] wr fun e w' => e = .returned (.tuple #[.int .i64 m, .bool true]) ∧ wr = w') := Lib.hid hN
        have HNM := Lib.hid hnum
        clear hN hnum
        by_cases h9 : 8 < n
        · have HP := Lib.hid (show s.table t arg = .error (t.flt 51) from by
            rw [HM.out, if_neg]
            rw [Bool.and_eq_true, decide_eq_true_eq]
            rintro ⟨-, h1⟩
            omega)
          have hd1 : decide ((8 : Int) < (n : Int)) = true := by rw [decide_eq_true_eq]; omega
          have hd2 : decide (8 < n) = true := by rw [decide_eq_true_eq]; omega
          clear hx h9
          go_wp2_with (first
            | (go_at_call 87; refine HN.out.mono ?_; rintro e w3 ⟨rfl, rfl⟩; clear HN)
            | (go_at_call 52; refine (HE 51 _ (by decide)).mono ?_; rintro e w9 ⟨v, rfl, hf, hb⟩)
            | fail)
          refine ⟨rfl, ?_⟩
          rw [HP.out]
          exact doErr2 hf ((((HB2.out.mono hB).trans (HBW.out.mono (by omega))).trans (hb.mono (by omega))))
        · have hd1 : decide ((8 : Int) < (n : Int)) = false := by rw [decide_eq_false_iff_not]; omega
          have hd2 : decide (8 < n) = false := by rw [decide_eq_false_iff_not]; omega
          have HLT := Lib.hid hlt
          have H9 := Lib.hid h9
          clear hx h9 h8
          go_wp2_with (first
            | (go_at_call 87; refine HN.out.mono ?_; rintro e w3 ⟨rfl, rfl⟩; clear HN)
            | (at_builtin; refine wpList_append_lies _ rfl _ _ 111 rfl w2.heap.size 3 j0 (.int .i64 0) 1 8 Tryz.underlying111 hj0 hy0 hy1 hy2 rfl (by omega) (.slice wa k wc) k xs rfl (hown.alloc _) ⟨wr.heap.size, 0, none⟩ 1 1 [.int .i64 m] rfl rfl (cell_one_newM _ _ _) (by simp [Value.oneCell']) (by omega) (by unfold maxLen; omega) (by omega) (by simp; omega) _ rfl ?_; intro g cap w6 hown2 hgrow hat hlt2; have HB6 : Hid (Below w2.heap.size w2 w6) := Lib.hid ((HBW.out.alloc (by omega) _).grown hgrow (by simp; omega) fun k hk => (hown.lt k hk).1); have HO6 := Lib.hid hown2; clear hgrow hown2 hat)
            | fail)
          go_roundw
          case rel => exact ⟨k + 1, _, by have := HLT.out; omega, by go_num, HO6.out, Lib.hid (fun j y hj hy => (Nat.lt_or_ge j k).elim (fun h => hall.out j y h hy) (fun h => by have e : j = k := Nat.le_antisymm (Nat.le_of_lt_succ hj) h; subst e; rw [HX0.out] at hy; cases hy; rw [HNM.out]; rfl)), HB6.out, fun _ => by have := H9.out; omega⟩
          case measure => simp [intOf]; have := HLT.out; omega
    · have hkn : k = n := by omega
      subst hkn
      have HP := Lib.hid (show s.table t arg = .ok (PS.add { s with opn := s.opn ++ [⟨1, 0, 0, 0, k, t⟩] } []) from by
        rw [HM.out, if_pos]
        rw [Bool.and_eq_true, List.all_eq_true, decide_eq_true_eq]
        refine ⟨fun x hx => ?_, by omega⟩
        obtain ⟨j, hj, he⟩ := List.getElem_of_mem hx
        exact hall.out j x (by rw [← HNL.out]; exact hj) (by rw [List.getElem?_eq_getElem hj, he]))
      have HBN : Hid (Below w.heap.size w wr) := Lib.hid (HB2.out.trans (HBW.out.mono (by omega)))
      have how : ∃ a n c, Value.slice wa k wc = .slice a n c := ⟨_, _, _, rfl⟩
      clear hbw hall h8
      obtain ⟨c0, c1, c2, c3, c4, c5, cf⟩ := par_cells (HX.out.new HBN.out)
      have hs := (HX.out.new HBN.out).opn
      have HS := Lib.hid hs
      have hpb := HX.out.base
      have hpl2 := (HX.out.new HBN.out).lt
      have hpl := HX.out.lt
      have hszr : w.heap.size < wr.heap.size := by omega
      obtain ⟨sa, sc, hv⟩ := owns_slice hs
      have HV := Lib.hid hv
      have ag : some p.b ≠ p.vO.ownBlock := fun e => owns_apart hs (HX.out.new HBN.out).blk (by decide) e.symm
      have ag2 : some w.heap.size ≠ p.vO.ownBlock := fun e => Nat.lt_irrefl _ (HX.out.opn.lt _ e.symm).2
      rw [hv] at c3 hs ag ag2
      clear hv c0 c1 c2 c4 c5 HM HSP
      go_wp2_with fail
      go_region_law
        ((refine step_append_lies _ (by rfl) _ _ _ (by rfl) B 105 i0 _ 10 96 Tryz.underlying55 hi0 hz0 hz1 hz2 rfl (by omega) (.slice sa s.opn.length sc) s.opn.length (lvlsC s.opn) (by rfl) ((hs.drew).alloc _)
            ⟨wr.heap.size, 0, none⟩ 1 1 (lvlC ⟨1, 0, 0, 0, k, t⟩) (by rfl) (by rfl) (World.news_of_block (cs := (lvlC ⟨1, 0, 0, 0, k, t⟩).toArray) (t := 105) (fr := (0, 0)) (heap_alloc_new wr _)) (by simp [lvlC, tokC, Value.oneCell'])
            (by omega) (by unfold maxLen; omega) (by omega) (by simp; omega) (wr.heap.size + 1) (by simp) ?_; intro gg cap1 w6 hown1 hgrow hat hlt1; have q2 := hgrow.cell_far ⟨p.b, 3, none⟩ (by simp; omega) ag; have q2f := hgrow.frozen_far ⟨p.b, 3, none⟩ (by simp; omega) ag; have q3 := hgrow.cell_far ⟨w.heap.size, 3, none⟩ (by simp; omega) ag2; simp at q2 q2f q3))
      all_goals
        have HB : Hid (Below B w w6) := Lib.hid ((((HBN.out.mono hB).drew).alloc (show B ≤ wr.heap.size by omega) _).grown hgrow (by simp; omega) fun k hk => (hs.lt k hk).1)
        have Hg := Lib.hid hgrow
        have Ho := Lib.hid hown1
        clear hgrow hown1
        go_wp2_with (first
          | (go_at_call 58; refine (HA.out _ _ _ how ((((HX.out.new HBN.out).alloc _).drew).opened (l := ⟨1, 0, 0, 0, k, t⟩) rfl (by rw [HV.out]; exact Hg.out) Ho.out) (by have := HB.out.size; simp; omega)).mono ?_; rintro e w7 ⟨rfl, hb4, hp4⟩; have HB4 := Lib.hid hb4; have HP4 := Lib.hid hp4; clear hb4 hp4)
          | fail)
        go_end0
        rw [HP.out]
        exact ⟨((HB.out).setCell hpb _).trans HB4.out, rfl, HP4.out⟩
end Go.Proofs.YtafhmagifoapfaaGreatDoor
