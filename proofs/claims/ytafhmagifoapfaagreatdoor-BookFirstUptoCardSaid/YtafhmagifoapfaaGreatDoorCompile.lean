/- book.Compile: it ends at the first source that can't be read. -/
import Derived.Test.YtafhmagifoapfaaGreatDoorBook
import Derived.Test.YtafhmagifoapfaaGreatDoorAsMore
namespace Go.Proofs.YtafhmagifoapfaaGreatDoor
open Go.RowKit Find Bk
attribute [local go_sem ↓] Go.wp_at_zero Go.wp_at_succ
/-- What errors.As has made when it found what it looked for. -/
def AsW (w : World) (t e : Addr) : World := ((((w.alloc (.cells #[.pointer (some t)] 70)).alloc (.cells #[.pointer (some ⟨9, 70, none⟩), .pointer (some ⟨w.heap.size, 0, none⟩), .int .u64 150] 129)).alloc (.cells #[.pointer (some ⟨9, 70, none⟩), .pointer (some ⟨w.heap.size, 0, none⟩), .int .u64 150] 129)).alloc (.cells #[.pointer (some e)] 68)).setCell t (.pointer (some e))
theorem as_book (w : World) (v : Value) (i : Nat) (f : Flt) (m : Bool) (t : Addr) (old : Value) (hg : Glb w) (hv : BookV w v i f m) (ht0 : w.cell? t = some old) (hf0 : w.frozen? t = false) :
    Calls Tryz.prog 18 #[v, .iface 70 (.pointer (some t))] w fun ev w' => ev = .returned (.bool true) ∧ ∃ e, w' = AsW w t e := by
  obtain ⟨u, u2, ⟨pb, rfl, hp⟩, ⟨ib, rfl, hi⟩, hev⟩ := hv
  have hp' : w.cell? ⟨pb, 0 + 2, none⟩ = some (.iface 261 (.pointer (some ⟨ib, 0, none⟩))) := by rw [cell_of_heap hp]; rfl
  cases m with
  | true =>
    obtain ⟨u3, ⟨qb, rfl, hq⟩, ⟨g, rfl, hgg⟩⟩ := hev
    have hi' : w.cell? ⟨ib, 0 + 1, none⟩ = some (.iface 87 (.pointer (some ⟨qb, 0, none⟩))) := by rw [cell_of_heap hi]; rfl
    have hq' : w.cell? ⟨qb, 0 + 2, none⟩ = some (.iface 68 (.pointer (some ⟨g, 0, none⟩))) := by rw [cell_of_heap hq]; rfl
    exact (as_four pb 0 ib 0 qb 0 ⟨g, 0, none⟩ t old w hg.err hp' hi' hq' ht0 hf0).mono fun ev w' ⟨h1, h2⟩ => ⟨h1, _, h2⟩
  | false =>
    obtain ⟨g, rfl, hgg⟩ := hev
    have hi' : w.cell? ⟨ib, 0 + 1, none⟩ = some (.iface 68 (.pointer (some ⟨g, 0, none⟩))) := by rw [cell_of_heap hi]; rfl
    exact (as_three pb 0 ib 0 ⟨g, 0, none⟩ t old w hg.err hp' hi' ht0 hf0).mono fun ev w' ⟨h1, h2⟩ => ⟨h1, _, h2⟩
theorem asW_book {w : World} {v : Value} {i : Nat} {f : Flt} {m : Bool} {b : Nat} {C : Array Value} (e : Addr) (hv : BookV w v i f m) (hb : w.heap[b]? = some (.cells C 68 (0, 0))) (B : Nat) (hB : B ≤ b) (hBw : B ≤ w.heap.size) :
    BookV (AsW w ⟨b, 0, none⟩ e) v i f m ∧ Below B w (AsW w ⟨b, 0, none⟩ e) := by
  unfold AsW
  obtain ⟨W, hW⟩ : ∃ W, (((w.alloc (.cells #[.pointer (some ⟨b, 0, none⟩)] 70)).alloc (.cells #[.pointer (some ⟨9, 70, none⟩), .pointer (some ⟨w.heap.size, 0, none⟩), .int .u64 150] 129)).alloc (.cells #[.pointer (some ⟨9, 70, none⟩), .pointer (some ⟨w.heap.size, 0, none⟩), .int .u64 150] 129)).alloc (.cells #[.pointer (some e)] 68) = W := ⟨_, rfl⟩
  have hbw : Below w.heap.size w W := by
    rw [← hW]
    exact ((((Below.refl _ _).alloc (Nat.le_refl _) _).alloc (by simp) _).alloc (by simp; omega) _).alloc (by simp; omega) _
  rw [hW]
  have hb2 : W.heap[b]? = some (.cells C 68 (0, 0)) := (hbw.block b (lt_of_heap hb)).trans hb
  exact ⟨(hv.new hbw).old hb2 (by decide) (by decide) (by decide) (fun k hk => setCell_heap_ne' (Ne.symm hk) _), (hbw.mono hBw).setCell hB _⟩
set_option maxHeartbeats 6400000 in
set_option maxRecDepth 100000 in
theorem compile_any (w : World) (a : Option Addr) (c : Nat) (ts : List Wd) (i : Nat) (T : Wd) (f : Flt) (m : Bool)
    (hg : Glb w) (hat : TxtAt w a c ts) (hlen : ts.length ≤ 64) (htx : ∀ x ∈ ts, x.length ≤ 1000000) (hT : ts[i]? = some T) (hj : ∀ k x, k < i → ts[k]? = some x → parseM x = none) (hf : parseM T = some (f, m)) :
    Calls Tryz.prog 7 #[.slice a ts.length c] w fun e w' => ∃ v, e = .returned (.tuple #[.slice none 0 0, v]) ∧ BookV w' v i f m ∧ Below w.heap.size w w' := by
  have HMK := Lib.hid (make_any w a c ts i T f m hg hat hlen htx hT hj hf)
  have HG := Lib.hid hg
  clear hg hat hlen htx hT hj hf
  go_enter Tryz.func7, Tryz.ntmps7
  go_wp2_with (first
    | (go_at_call 17
       refine HMK.out.mono ?_
       rintro e w2 ⟨v, rfl, hbv, hb2⟩
       obtain ⟨pb, rfl⟩ : ∃ pb, v = .iface 87 (.pointer (some ⟨pb, 0, none⟩)) := (by obtain ⟨u, u2, ⟨pb, h, _⟩, _⟩ := hbv; exact ⟨pb, h⟩)
       have HBV := Lib.hid hbv
       have HB2 := Lib.hid hb2
       clear hbv hb2 HMK)
    | (go_at_call 18
       refine (as_book _ _ i f m ⟨w2.heap.size + 1, 0, none⟩ (.pointer none) (HG.out.below (HB2.out.trans ((((Below.refl w2.heap.size w2).alloc (Nat.le_refl _) _).alloc (by simp) _).mono HB2.out.size))) (HBV.out.new (((Below.refl w2.heap.size w2).alloc (Nat.le_refl _) _).alloc (by simp) _)) (by simp) (by simp)).mono ?_
       rintro e w9 ⟨rfl, ad, hw9⟩
       have HW9 := Lib.hid hw9
       clear hw9)
    | fail)
  go_ret2
  obtain ⟨W, hW⟩ : ∃ W, (w2.alloc (.cells #[.int .i64 0, .slice none 0 0, .slice none 0 0, .slice none 0 0] 65)).alloc (.cells #[.pointer none] 68) = W := ⟨_, rfl⟩
  have hw9 := HW9.out
  rw [hW] at hw9
  have hbw : Below w2.heap.size w2 W := by rw [← hW]; exact ((Below.refl _ _).alloc (Nat.le_refl _) _).alloc (by simp) _
  have hvar : W.heap[w2.heap.size + 1]? = some (.cells #[.pointer none] 68 (0, 0)) := by rw [← hW]; exact two_newM _ _ _
  obtain ⟨h1, h2⟩ := asW_book ad (HBV.out.new hbw) hvar w2.heap.size (Nat.le_succ _) hbw.size
  rw [hw9]
  exact ⟨_, rfl, h1, HB2.out.trans ((hbw.trans h2).mono HB2.out.size)⟩
end Go.Proofs.YtafhmagifoapfaaGreatDoor
