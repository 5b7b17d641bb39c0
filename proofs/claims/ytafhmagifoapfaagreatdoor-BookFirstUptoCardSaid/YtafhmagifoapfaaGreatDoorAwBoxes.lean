/- strings.Builder's check of its own address, in a row of its own or in a writer's. -/
import Derived.Test.YtafhmagifoapfaaGreatDoorProg
import Derived.WalkKit
import Derived.Lib.Builder
import Derived.Lib.UnsafeStr
import Derived.OwnWalk
import Derived.RowKitTokens
import Derived.RegionTactic
import Derived.Shelf.RegionOpen
import Derived.Lib.Hide
import Derived.Test.YtafhmagifoapfaaGreatDoorEvG
import Derived.Outline
import Derived.Laws.BitsLemmas
namespace Go.Proofs.YtafhmagifoapfaaGreatDoor
open Go.RowKit
theorem bx_info : (Tryz.prog.info? 282).map (·.size) = some 2 := by kernel_rfl
theorem bx_lies1 (c : Nat) : liesAt Tryz.prog Tryz.prog.depth 282 (c + 1) 0 282 1 = true := by kernel_rfl
theorem bx_lies2 (c : Nat) : liesAt Tryz.prog Tryz.prog.depth 335 (c + 1) 0 282 1 = true := by kernel_rfl
theorem bx_cells1 : Tryz.prog.cellsOf 282 = 2 := by kernel_rfl
theorem bx_cells2 : Tryz.prog.cellsOf 335 = 2 := by kernel_rfl
theorem bx_lies {o T c : Nat} (hT : (T, o) ∈ [(282, 0), (335, 0)]) (hc : o + 2 ≤ c) : o = 0 ∧ liesAt Tryz.prog Tryz.prog.depth T (c / Tryz.prog.cellsOf T) o 282 1 = true := by
  have key : ∀ n, 2 ≤ n → ∃ k, n / 2 = k + 1 := fun n hn => ⟨n / 2 - 1, by omega⟩
  simp only [List.mem_cons, Prod.mk.injEq, List.not_mem_nil, or_false] at hT
  rcases hT with ⟨rfl, rfl⟩ | ⟨rfl, rfl⟩
  · obtain ⟨k, hk⟩ := key c (by omega)
    exact ⟨rfl, by rw [bx_cells1, hk]; exact bx_lies1 k⟩
  · obtain ⟨k, hk⟩ := key c (by omega)
    exact ⟨rfl, by rw [bx_cells2, hk]; exact bx_lies2 k⟩
set_option maxHeartbeats 800000 in
set_option maxRecDepth 100000 in
theorem bx_fresh (w : World) (b o T c : Nat) (hT : (T, o) ∈ [(282, 0), (335, 0)]) (h0 : w.cell? ⟨b, o, none⟩ = some (.pointer none)) (hsh : w.shape? b = some (T, c)) (hc : o + 2 ≤ c) (hfz : w.frozen? ⟨b, o, none⟩ = false) :
    Calls Tryz.prog 217 #[.pointer (some ⟨b, o, none⟩)] w fun e w' => e = .returned (.tuple #[]) ∧ w' = w.setCell ⟨b, o, none⟩ (.pointer (some ⟨b, o, none⟩)) := by
  obtain ⟨rfl, hl⟩ := bx_lies hT hc
  have hc' : 0 < c := by omega
  obtain ⟨j, hj, hjs⟩ := Option.map_eq_some_iff.1 bx_info
  clear hT hc
  go_enter Tryz.func217, Tryz.ntmps217
  go_wp2
  rw [Lib.run_to_unsafe w ⟨b, 0, none⟩ Tryz.underlying280 Tryz.underlying126 hj (by rw [hjs]; decide) hsh hc']
  simp only [Result.andThen]
  rw [Oper.upon_value]
  go_wp2
  rw [run_callFunc_extern Tryz.func263 (by kernel_rfl) (by kernel_rfl) (by kernel_rfl) (e := Extern.AbiNoEscape.same) (by kernel_rfl)]
  rw [Lib.run_noEscape]
  simp only [Result.andThen]
  rw [Oper.upon_value]
  go_wp2
  rw [Lib.run_from_unsafe w ⟨b, 0, none⟩ Tryz.underlying126 Tryz.underlying280 hj hsh hl]
  simp only [Result.andThen]
  rw [Oper.upon_value]
  go_wp2
  go_end0
  exact ⟨rfl, rfl⟩
set_option maxHeartbeats 800000 in
set_option maxRecDepth 100000 in
theorem bx_used (w : World) (b o : Nat) (h0 : w.cell? ⟨b, o, none⟩ = some (.pointer (some ⟨b, o, none⟩))) :
    Calls Tryz.prog 217 #[.pointer (some ⟨b, o, none⟩)] w fun e w' => e = .returned (.tuple #[]) ∧ w' = w := by
  obtain ⟨j, hj, hjs⟩ := Option.map_eq_some_iff.1 bx_info
  have hne := Lib.run_neq_ptr_same (P := Tryz.prog) (w := w) ⟨b, o, none⟩ Tryz.underlying280 hj
  go_enter Tryz.func217, Tryz.ntmps217
  go_wp2
  go_end0
  exact ⟨rfl, rfl⟩
theorem bs_u8 : Tryz.prog.cellsOf 5 = 1 := by kernel_rfl
theorem bs_unone (w : World) (p : Option Addr) : (Builtin.unsafeString_ #[370, 3] 9 #[.pointer p, .int .i64 0]).run Tryz.prog w = .ok (.string .empty) w :=
  Lib.run_unsafeString_none (P := Tryz.prog) (w := w) 370 3 9 p
set_option maxHeartbeats 1600000 in
set_option maxRecDepth 100000 in
theorem bs_nil (w : World) (b o : Nat) (h : w.cell? ⟨b, o + 1, none⟩ = some (.slice none 0 0)) :
    Calls Tryz.prog 155 #[.pointer (some ⟨b, o, none⟩)] w fun e w' => e = .returned (.string .empty) ∧ ∃ k, w' = { w with drawn := k } := by
  have hUS := bs_unone
  have c1 : w.drew.cell? ⟨b, o + 1, none⟩ = some (.slice none 0 0) := h
  have hSD : (Builtin.unsafeSliceData_ #[33] 370 #[.slice none 0 0]).run Tryz.prog w.drew = .ok (.pointer none) w.drew := rfl
  have HP := Lib.hid (show ∃ k, w.drew = { w with drawn := k } from ⟨_, rfl⟩)
  clear h
  go_enter Tryz.func155, Tryz.ntmps155
  go_wp2
  go_region
  all_goals (go_wp2; go_ret; exact ⟨rfl, HP.out⟩)
set_option maxHeartbeats 1600000 in
set_option maxRecDepth 100000 in
theorem bs_some (w : World) (b o g c : Nat) (bs : List UInt8) (h : w.cell? ⟨b, o + 1, none⟩ = some (.slice (some ⟨g, 0, none⟩) bs.length c)) (h0 : bs ≠ []) (hs : ∃ n, w.shape? g = some (5, n) ∧ bs.length ≤ n) (hc : bs.length ≤ c)
    (hb : ∀ j x, bs[j]? = some x → w.cell? ⟨g, j, none⟩ = some (.int .u8 x.toNat)) (h63 : bs.length ≤ 9223372036854775807) :
    Calls Tryz.prog 155 #[.pointer (some ⟨b, o, none⟩)] w fun e w' => e = .returned (.string ⟨bs.toArray⟩) ∧ ∃ k, w' = { w with drawn := k }.freeze ⟨g, 0, none⟩ bs.length := by
  obtain ⟨n, hs, hn⟩ := hs
  have hl0 : bs.length ≠ 0 := by simpa using h0
  have c1 : w.drew.cell? ⟨b, o + 1, none⟩ = some (.slice (some ⟨g, 0, none⟩) bs.length c) := h
  have hSD : (Builtin.unsafeSliceData_ #[33] 370 #[.slice (some ⟨g, 0, none⟩) bs.length c]).run Tryz.prog w.drew = .ok (.pointer (some ⟨g, 0, none⟩)) w.drew :=
    Lib.run_unsafeSliceData_row _ _ _ _ _ _ (by omega)
  have hUS : (Builtin.unsafeString_ #[370, 3] 9 #[.pointer (some ⟨g, 0, none⟩), .int .i64 bs.length]).run Tryz.prog w.drew = .ok (.string ⟨bs.toArray⟩) (w.drew.freeze ⟨g, 0, none⟩ bs.length) := by
    refine Lib.run_unsafeString_row w.drew 370 3 9 5 Tryz.underlying370 bs_u8 g n hs bs h0 hn h63 ?_
    intro j x hx
    have e : (⟨g, 0, none⟩ : Addr).add j = ⟨g, j, none⟩ := by unfold Addr.add; by_cases h : j = 0 <;> simp [h]
    rw [e]
    exact hb j x hx
  have HP := Lib.hid (show ∃ k, w.drew.freeze ⟨g, 0, none⟩ bs.length = ({ w with drawn := k } : World).freeze ⟨g, 0, none⟩ bs.length from ⟨_, rfl⟩)
  clear h hs hn hc hb h63 h0
  go_enter Tryz.func155, Tryz.ntmps155
  go_wp2
  go_region
  all_goals (go_wp2; go_ret; exact ⟨rfl, HP.out⟩)
theorem sumF_snoc (b : UInt8) : ∀ (l : List UInt8) (r : Nat), sumF (l ++ [b]) r = itF step1 8 (Nat.xor (sumF l r) b.toNat)
  | [], _r => rfl
  | _x :: l, _r => sumF_snoc b l _
theorem bits_xor32 (a b : Nat) (ha : a < 4294967296) (hb : b < 4294967296) : bits .xor .u32 (a : Int) (b : Int) = ((Nat.xor a b : Nat) : Int) := by
  have h : a ^^^ b < 2 ^ 32 := Nat.xor_lt_two_pow (by simpa using ha) (by simpa using hb)
  have e : (BitVec.ofInt 32 (a : Int) ^^^ BitVec.ofInt 32 (b : Int)).toNat = a ^^^ b := by
    rw [BitVec.ofInt_natCast, BitVec.ofInt_natCast, BitVec.toNat_xor, BitVec.toNat_ofNat, BitVec.toNat_ofNat, Nat.mod_eq_of_lt (show a < 2 ^ 32 by simpa using ha), Nat.mod_eq_of_lt (show b < 2 ^ 32 by simpa using hb)]
  show IntKind.u32.wrap ((BitVec.ofInt 32 (a : Int) ^^^ BitVec.ofInt 32 (b : Int)).toNat : Int) = ((a ^^^ b : Nat) : Int)
  rw [e, IntKind.wrap_u32]
  omega
theorem bits_and1 (a : Nat) (ha : a < 4294967296) : bits .and .u32 (a : Int) 1 = ((a % 2 : Nat) : Int) := by
  have := bits_mask .u32 32 (by decide) (fun n h0 h1 => by rw [IntKind.wrap_u32]; omega) 1 (by decide) (a : Int) (by omega) (by omega)
  simpa using this
theorem step1_lt {r : Nat} (h : r < 4294967296) : step1 r < 4294967296 := by
  unfold step1
  cases Nat.beq (r % 2) 1 with
  | false => show r / 2 < _; omega
  | true =>
    show Nat.xor (r / 2) 3988292384 < 2 ^ 32
    exact Nat.xor_lt_two_pow (by omega) (by decide)
theorem itF_lt {r : Nat} (h : r < 4294967296) : ∀ n, itF step1 n r < 4294967296
  | 0 => h
  | n + 1 => step1_lt (itF_lt h n)
theorem xor_u8_lt {r : Nat} (h : r < 4294967296) (b : UInt8) : Nat.xor r b.toNat < 4294967296 := by
  have := b.toNat_lt
  exact Nat.xor_lt_two_pow (n := 32) (by simpa using h) (by omega)
theorem sumF_lt : ∀ (l : List UInt8) (r : Nat), r < 4294967296 → sumF l r < 4294967296
  | [], _, h => h
  | b :: l, _r, h => sumF_lt l _ (itF_lt (xor_u8_lt h b) 8)
theorem step1_odd {r : Nat} (h : r % 2 = 1) : step1 r = Nat.xor (r / 2) 3988292384 := by unfold step1; rw [h]; rfl
theorem step1_even {r : Nat} (h : r % 2 = 0) : step1 r = r / 2 := by unfold step1; rw [h]; rfl
theorem ret_u32 {a b : Int} (h : a = b) : Ending.returned (.int .u32 a) = .returned (.int .u32 b) := by rw [h]
set_option maxHeartbeats 1600000 in
set_option maxRecDepth 100000 in
theorem sum_any (w : World) (g o c : Nat) (bs : List UInt8) (hc : ∀ j x, bs[j]? = some x → w.cell? ⟨g, o + j, none⟩ = some (.int .u8 x.toNat)) (hl : bs.length ≤ 9223372036854775807) :
    Calls Tryz.prog 134 #[.slice (some ⟨g, o, none⟩) bs.length c] w fun e w' => e = .returned (.int .u32 ((Nat.xor (sumF bs 4294967295) 4294967295 : Nat) : Int)) ∧ w' = w := by
  go_enter Tryz.func134, Tryz.ntmps134
  go_wp2
  go_loop [3, 5, 6, 9, 17] (fun r _ _ i _ => ∃ k : Nat, k ≤ bs.length ∧ i = .int .i64 k ∧ r = .int .u32 ((sumF (bs.take k) 4294967295 : Nat) : Int)) (fun _ _ _ i _ => bs.length - (intOf i).toNat)
  case atStart => exact ⟨0, Nat.zero_le _, rfl, rfl⟩
  case round =>
    obtain ⟨k, hk, rfl, hr3⟩ := hrel
    obtain ⟨r, hr⟩ : ∃ r, r = sumF (bs.take k) 4294967295 := ⟨_, rfl⟩
    have hrl : r < 4294967296 := by rw [hr]; exact sumF_lt _ _ (by decide)
    rw [← hr] at hr3
    subst hr3
    by_cases hlt : k < bs.length
    · obtain ⟨b, hb⟩ : ∃ b, bs[k]? = some b := ⟨_, List.getElem?_eq_getElem hlt⟩
      have hck := hc k b hb
      have hbl := b.toNat_lt
      have hx := bits_xor32 r b.toNat hrl (by omega)
      have hx' : bits .xor .u32 (r : Int) ((b.toNat : Int) % 4294967296) = ((Nat.xor r b.toNat : Nat) : Int) := by
        rw [← hx, Int.emod_eq_of_lt (by omega) (by omega)]
      have hsn : sumF (bs.take (k + 1)) 4294967295 = itF step1 8 (Nat.xor r b.toNat) := by
        rw [List.take_add_one, hb, hr]; exact sumF_snoc b _ _
      have h0l := xor_u8_lt hrl b
      obtain ⟨r0, hr0⟩ : ∃ r0, r0 = Nat.xor r b.toNat := ⟨_, rfl⟩
      rw [← hr0] at hx hx' hsn h0l
      have HSN := Lib.hid hsn
      clear hr hc hb hr0 hsn
      go_wp2
      go_loop [3, 6, 17] (fun s _ i => ∃ j : Nat, j ≤ 8 ∧ i = .int .i64 j ∧ s = .int .u32 ((itF step1 j r0 : Nat) : Int)) (fun _ _ i => 8 - (intOf i).toNat)
      case atStart => exact ⟨0, by omega, rfl, rfl⟩
      case round =>
        obtain ⟨j, hj, rfl, hs⟩ := hrel
        obtain ⟨s, hs'⟩ : ∃ s, s = itF step1 j r0 := ⟨_, rfl⟩
        have hsl : s < 4294967296 := by rw [hs']; exact itF_lt h0l j
        rw [← hs'] at hs
        subst hs
        clear hx hx' hck
        by_cases hj8 : j < 8
        · have hit : itF step1 (j + 1) r0 = step1 s := by rw [hs']; rfl
          have ha := bits_and1 s hsl
          rcases Nat.mod_two_eq_zero_or_one s with he | ho
          · have h2 : bits .and .u32 (s : Int) 1 = 0 := by rw [ha, he]; rfl
            have HIT := Lib.hid (hit.trans (step1_even he))
            clear ha hs' hit he
            go_wp2
            go_round
            case rel => exact ⟨j + 1, by omega, by go_num, by rw [HIT.out]; simp⟩
            case measure => simp [intOf]; omega
          · have h2 : bits .and .u32 (s : Int) 1 = 1 := by rw [ha, ho]; rfl
            have HIT := Lib.hid (hit.trans (step1_odd ho))
            have hxx := bits_xor32 (s / 2) 3988292384 (by omega) (by decide)
            clear ha hs' hit ho
            go_wp2
            go_round
            case rel => exact ⟨j + 1, by omega, by go_num, by rw [HIT.out]; simp at hxx ⊢; exact hxx⟩
            case measure => simp [intOf]; omega
        · have : j = 8 := by omega
          subst this
          have HS := Lib.hid hs'
          clear hs'
          go_wp2
          go_round
          case rel => exact ⟨k + 1, by omega, by go_num, by rw [HSN.out, ← HS.out]⟩
          case measure => simp [intOf]; omega
    · have : k = bs.length := by omega
      subst this
      have hx := bits_xor32 4294967295 r (by decide) hrl
      have HX := Lib.hid hx
      have HR := Lib.hid hr
      clear hr hx hc
      go_wp2
      go_ret
      refine ⟨ret_u32 ?_, rfl⟩
      refine HX.out.trans ?_
      rw [HR.out, List.take_length]
      exact congrArg Nat.cast (Nat.xor_comm _ _)
end Go.Proofs.YtafhmagifoapfaaGreatDoor
