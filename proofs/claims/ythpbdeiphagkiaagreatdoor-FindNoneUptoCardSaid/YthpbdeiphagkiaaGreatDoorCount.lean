/- (*find.Finder).Count. -/
import Derived.Test.YthpbdeiphagkiaaGreatDoorHas
namespace Go.Proofs.YthpbdeiphagkiaaGreatDoor
open Go.RowKit Find

/-- How many topics a word has, if it is one. -/
def countW (LL : Lists) : List Wd → Int
  | [x] => countF 0 (-1) (spotsOf LL x)
  | _ => 0
theorem spotCells_get (l : List Spot) : ∀ (k : Nat) (h : k < l.length), (spotCells l)[k * 3]? = some (.int .i64 l[k].1) ∧ (spotCells l)[k * 3 + 1]? = some (.int .i64 l[k].2.1) ∧ (spotCells l)[k * 3 + 2]? = some (.int .i64 l[k].2.2) := by
  induction l with
  | nil => intro k h; simp at h
  | cons p l ih =>
    intro k h
    have hc : spotCells (p :: l) = [.int .i64 p.1, .int .i64 p.2.1, .int .i64 p.2.2] ++ spotCells l := rfl
    rw [hc]
    cases k with
    | zero => exact ⟨rfl, rfl, rfl⟩
    | succ k =>
      obtain ⟨h0, h1, h2⟩ := ih k (by simpa using h)
      have key : ∀ j, ([Value.int .i64 p.1, Value.int .i64 p.2.1, Value.int .i64 p.2.2] ++ spotCells l)[(k + 1) * 3 + j]? = (spotCells l)[k * 3 + j]? := fun j => by
        rw [show (k + 1) * 3 + j = 3 + (k * 3 + j) by omega, List.getElem?_append_right (by simp only [List.length_cons, List.length_nil]; omega)]
        congr 1
        simp only [List.length_cons, List.length_nil]; omega
      exact ⟨(key 0).trans h0, (key 1).trans h1, (key 2).trans h2⟩
theorem spots_get {w : World} {B : Nat} {a : Option Addr} {c : Nat} {l : List Spot} (h : w.ownsRow B 91 3 (.slice a l.length c) l.length (spotCells l)) (k : Nat) (hk : k < l.length) :
    ∃ g, a = some ⟨g, 0, none⟩ ∧ w.cell? ⟨g, k * 3, none⟩ = some (.int .i64 l[k].1) ∧ w.cell? ⟨g, k * 3 + 1, none⟩ = some (.int .i64 l[k].2.1) ∧ w.cell? ⟨g, k * 3 + 2, none⟩ = some (.int .i64 l[k].2.2) := by
  obtain ⟨g, cap, he, _⟩ := h.form (by omega)
  simp only [Value.slice.injEq] at he
  obtain ⟨rfl, _, rfl⟩ := he
  obtain ⟨h0, h1, h2⟩ := spotCells_get l k hk
  have key : ∀ j v, (spotCells l)[j]? = some v → w.cell? ⟨g, j, none⟩ = some v := fun j v hj => by
    have := h.cells (g := g) rfl j v hj
    rw [add_none, Nat.zero_add] at this
    exact this
  exact ⟨g, rfl, key _ _ h0, key _ _ h1, key _ _ h2⟩

set_option maxHeartbeats 4000000 in
set_option maxRecDepth 100000 in
theorem count_any (LL : Lists) (b : Nat) (s : ByteArray) (w : World) (hT : Tabs w) (hs : s.size ≤ 1099511627776) (hf : FinderIs w b LL) (hLn : LL.length ≤ 1000) (hsl : ∀ x, (spotsOf LL x).length ≤ 1099511627776) :
    Calls Tryz.prog 10 #[.pointer (some ⟨b, 0, none⟩), .string s] w fun e w' => e = .returned (.int .i64 (countW LL (words s.data.toList))) ∧ Below w.heap.size w w' := by
  have hz3 : Tryz.prog.cellsOf 91 = 3 := by kernel_rfl
  have hw := words_any s w hT hs
  have hwl := (words_len s.data.toList).1
  rw [← size_list] at hwl
  generalize words s.data.toList = ws at *
  by_cases h1 : ws.length = 1
  · obtain ⟨x, rfl⟩ := List.length_eq_one_iff.1 h1
    have HW := Lib.hid (show Calls Tryz.prog 14 #[.string s] w fun e w' => ∃ g c, e = .returned (.slice (some ⟨g, 0, none⟩) 1 c) ∧ w'.cell? ⟨g, 0, none⟩ = some (st x) ∧ Below w.heap.size w w' from by
      refine hw.mono ?_
      rintro e w' ⟨v, rfl, hrow, hb⟩
      obtain ⟨g, cap, rfl, _⟩ := hrow.form (by simp)
      have := hrow.cells (g := g) rfl 0 (st x) (by simp)
      rw [add_none] at this
      exact ⟨g, cap, rfl, this, hb⟩)
    have hsx := hsl x
    have HC := Lib.hid (show countW LL [x] = countF 0 (-1) (spotsOf LL x) from rfl)
    have HTP := Lib.hid (show ∀ q ∈ spotsOf LL x, q.1 < LL.length from fun q hq => (mem_spotsOf.1 hq).1)
    have HFI := Lib.hid hf
    clear hw hf hT hsl h1
    go_enter Tryz.func10, Tryz.ntmps10
    go_upto_region 5 with (go_at_call 14; refine HW.out.mono ?_; rintro e w1 ⟨gw, cw, rfl, hcw, hb1⟩)
    obtain ⟨vl, m, hb, _, hsp⟩ := HFI.out.new hb1
    obtain ⟨v, hlook, hown, _⟩ := hsp.at_ x
    obtain ⟨av, cv, rfl⟩ := slice_form hown
    have cb2 : w1.cell? ⟨b, 2, none⟩ = some (.map (some m)) := by rw [Lib.cell_of_heap hb]; rfl
    have hl : ∀ nq, (Instr.lookup 28 (.map (some m)) (st x) false).run Tryz.prog (w1.drewN nq) = .ok (.slice av (spotsOf LL x).length cv) (w1.drewN nq) := fun nq => hlook _ rfl
    have HB1 := Lib.hid hb1
    have HOWN := Lib.hid hown
    clear hlook hb hsp hb1 hown
    generalize spotsOf LL x = sp at *
    go_quiet (fail)
    go_wp2_with fail
    go_loopw [6, 7, 28] (fun p q r wr => ∃ (k : Nat) (n last : Int), k ≤ sp.length ∧ p = .int .i64 n ∧ q = .int .i64 last ∧ r = .int .i64 k ∧ 0 ≤ n ∧ n ≤ k ∧ -1 ≤ last ∧ last ≤ 1000 ∧ countF n last (sp.drop k) = countF 0 (-1) sp ∧ Below w1.heap.size w1 wr) (fun _ _ r _ => sp.length - (intOf r).toNat)
    case atStart => exact ⟨0, 0, -1, Nat.zero_le _, rfl, rfl, rfl, by omega, by omega, by omega, by omega, rfl, below_drewN (Below.refl _ _) _⟩
    case round =>
      obtain ⟨k, n, last, hk, rfl, rfl, rfl, hn0, hn1, hl0, hl1, hcnt, hbr⟩ := hrel
      have HCNT := Lib.hid hcnt
      have HBR := Lib.hid hbr
      clear hcnt hbr
      by_cases hlt : k < sp.length
      · obtain ⟨g, hg, c0, c1, c2⟩ := spots_get (owns_new HOWN.out HBR.out) k hlt
        subst hg
        have hdrop : sp.drop k = sp[k] :: sp.drop (k + 1) := List.drop_eq_getElem_cons hlt
        have hcn := HCNT.out
        rw [hdrop, countF] at hcn
        have htp := HTP.out sp[k] (List.getElem_mem hlt)
        generalize sp[k] = p at *
        obtain ⟨t, kk, at_⟩ := p
        simp only at hcn c0 c1 c2 htp
        by_cases he : (t : Int) = last
        · rw [if_pos he] at hcn
          have HCN := Lib.hid hcn
          have hne : ((t : Int) != last) = false := by simp [he]
          clear hcn hdrop
          have HE := Lib.hid he
          clear he
          go_wp2_with fail
          go_roundw
          case rel => exact ⟨k + 1, n, last, by omega, rfl, rfl, by go_num, hn0, by omega, hl0, hl1, HCN.out, HBR.out.alloc HBR.out.size _⟩
          case measure => simp [intOf] <;> omega
        · rw [if_neg he] at hcn
          have HCN := Lib.hid hcn
          have hne : ((t : Int) != last) = true := by simp [he]
          clear hcn hdrop he
          have hwr : IntKind.i64.wrap (n + 1) = n + 1 := IntWalk.i64_in _ (by omega)
          have hq0 : wr.heap.size < (wr.alloc (.cells #[.int .i64 t, .int .i64 kk, .int .i64 at_] 91)).heap.size := by simp
          go_wp2_with fail
          go_quiet (fail)
          go_wp2_with fail
          go_roundw
          case rel => exact ⟨k + 1, n + 1, t, by omega, rfl, rfl, by go_num, by omega, by omega, by omega, by omega, HCN.out, below_drewN (HBR.out.alloc HBR.out.size _) _⟩
          case measure => simp [intOf] <;> omega
      · have hkl : sp.drop k = [] := List.drop_eq_nil_of_le (by omega)
        have hcn := HCNT.out
        rw [hkl, countF] at hcn
        have HCN := Lib.hid hcn
        clear hcn hkl
        go_wp2_with fail
        go_ret
        exact ⟨ret_int (by rw [HC.out]; exact HCN.out), HB1.out.trans (HBR.out.mono HB1.out.size)⟩
  · have hn1 : ((ws.length : Int) != 1) = true := by rw [bne_iff_ne]; omega
    have HC := Lib.hid (show countW LL ws = 0 from by
      unfold countW
      split
      · exact absurd rfl h1
      · rfl)
    have HW := Lib.hid (show Calls Tryz.prog 14 #[.string s] w fun e w' => ∃ a c, e = .returned (.slice a ws.length c) ∧ Below w.heap.size w w' from by
      refine hw.mono ?_
      rintro e w' ⟨v, rfl, hrow, hb⟩
      obtain ⟨a, c, rfl⟩ := slice_form hrow
      exact ⟨a, c, rfl, hb⟩)
    clear hw hf hT hsl h1
    go_enter Tryz.func10, Tryz.ntmps10
    go_wp2_with (go_at_call 14; refine HW.out.mono ?_; rintro e w1 ⟨a, c, rfl, hb1⟩)
    go_ret
    exact ⟨ret_int HC.out.symm, hb1⟩
end Go.Proofs.YthpbdeiphagkiaaGreatDoor
