/- parts of the law. -/
import Derived.Test.YtepacocajnobgaaGreedySpec
import Derived.Test.YtepacocajnobgaaCols
namespace Go.Proofs.Ytepacocajnobgaa
open Go.RowKit

def ptR (x : Option (Int × Int)) : Int × Bool := match x with
  | none => (0, false)
  | some (L, _) => (L, true)

set_option maxRecDepth 100000 in
set_option maxHeartbeats 2000000 in
theorem parts_any (v u : Value) (ns : List Nat) (es : List Int) (wide : Int) (w : World) (hv : IntSl w v (ns.map fun (n : Nat) => (n : Int))) (hu : IntSl w u es) (hn : ns.length ≤ 300) (hel : es.length ≤ 17592186043904) (hp : ∀ i, i < ns.length → 0 < ns.getD i 0 ∧ (ns.getD i 0 : Int) ≤ wide) (hw : 1 ≤ wide) (hw' : wide ≤ 200) :
    Calls Try.prog 27 #[v, u, .int .i64 wide] w fun e w' => e = .returned (.tuple #[.int .i64 (ptR (ptU wide ns es ns.length)).1, .bool (ptR (ptU wide ns es ns.length)).2]) ∧ w' = w := by
  obtain ⟨a, c, rfl, hat⟩ := hv
  obtain ⟨a2, c2, rfl, hat2⟩ := hu
  rw [List.length_map] at hat ⊢
  have Hat := Lib.hid (show ∀ k, k < ns.length → ∃ b off, a = some ⟨b, off, none⟩ ∧ w.cell? ⟨b, off + k, none⟩ = some (.int .i64 (ns.getD k 0 : Int)) from fun k hk => by
    obtain ⟨b, off, h1, h2⟩ := hat k hk
    have := h2 k (by rw [List.length_map]; exact hk)
    refine ⟨b, off, h1, this.trans ?_⟩
    simp [List.getD_eq_getElem?_getD, List.getElem?_eq_getElem hk])
  have Hat2 := Lib.hid hat2
  have Hp := Lib.hid hp
  have Hbd := Lib.hid (fun k L g h => ptU_bd (wide := wide) (ns := ns) (es := es) (by omega) k L g h)
  have Hnone := Lib.hid (fun k (hk : k ≤ ns.length) h => ptU_none (wide := wide) (ns := ns) (es := es) k ns.length hk h)
  have Hsucc := Lib.hid (show ∀ k L g, ptU wide ns es k = some (L, g) → ptU wide ns es (k + 1) = if wide < ptG ns k g then none else some (if g = 0 then L + 1 else L, if k < es.length ∧ es.getD k 0 ≠ 0 then 0 else ptG ns k g) from fun k L g h => by simp only [ptU, h])
  clear hat hat2 hp
  go_enter Try.func27, Try.ntmps27
  go_wp2_with fail
  go_loop [8, 9, 10] (fun l g i => ∃ (k : Nat) (L G : Int), k ≤ ns.length ∧ i = .int .i64 k ∧ l = .int .i64 L ∧ g = .int .i64 G ∧ ptU wide ns es k = some (L, G)) (fun _ _ i => ns.length - (intOf i).toNat)
  case atStart => exact ⟨0, 0, 0, Nat.zero_le _, rfl, rfl, rfl, rfl⟩
  case round =>
    obtain ⟨k, L, G, hk, rfl, rfl, rfl, hU⟩ := hrel
    obtain ⟨b1, b2, b3, b4⟩ := Hbd.out k L G hU
    by_cases hlt : k < ns.length
    · obtain ⟨b, off, ha, c0⟩ := Hat.out k hlt
      subst ha
      have Hn := Lib.hid (Hsucc.out k L G hU)
      have hpk := Hp.out k hlt
      have hGd : ptG ns k G = if G = 0 then (ns.getD k 0 : Int) else G + 1 + ns.getD k 0 := rfl
      have HGd := Lib.hid hGd
      clear hU hGd
      generalize ptG ns k G = p at *
      generalize ns.getD k 0 = n at *
      obtain ⟨p1, p2⟩ := hpk
      by_cases hG : G = 0
      · subst hG
        have hpn : p = (n : Int) := by have := HGd.out; rw [if_pos rfl] at this; exact this
        subst hpn
        have hc : ¬ wide < (n : Int) := by omega
        have Hn2 := Lib.hid (show ptU wide ns es (k + 1) = some (L + 1, if k < es.length ∧ es.getD k 0 ≠ 0 then 0 else (n : Int)) by rw [Hn.out, if_neg hc, if_pos rfl])
        clear Hn
        by_cases hke : k < es.length
        · obtain ⟨b', off', ha', hat'⟩ := Hat2.out k hke
          subst ha'
          have d0 := hat' k hke
          clear hat'
          by_cases hz : es.getD k 0 = 0
          · have hz2 : (es.getD k 0 == 0) = true := beq_iff_eq.2 hz
            have hz3 : (es.getD k 0 != 0) = false := by rw [hz]; rfl
            have Hz := Lib.hid hz
            clear hz
            generalize es.getD k 0 = z at *
            go_wp2
            go_round
            case rel => exact ⟨k + 1, L + 1, n, by omega, by go_num, rfl, rfl, by rw [Hn2.out, if_neg (fun h => h.2 Hz.out)]⟩
            case measure => simp [intOf]; omega
          · have hz2 : (es.getD k 0 == 0) = false := beq_eq_false_iff_ne.2 hz
            have hz3 : (es.getD k 0 != 0) = true := bne_iff_ne.2 hz
            have Hz := Lib.hid hz
            clear hz
            generalize es.getD k 0 = z at *
            go_wp2
            go_round
            case rel => exact ⟨k + 1, L + 1, 0, by omega, by go_num, rfl, rfl, by rw [Hn2.out, if_pos ⟨hke, Hz.out⟩]⟩
            case measure => simp [intOf]; omega
        · go_wp2
          go_round
          case rel => exact ⟨k + 1, L + 1, n, by omega, by go_num, rfl, rfl, by rw [Hn2.out, if_neg (fun h => hke h.1)]⟩
          case measure => simp [intOf]; omega
      · have hpn : p = G + 1 + (n : Int) := by have := HGd.out; rw [if_neg hG] at this; exact this
        subst hpn
        have hG2 : (G == 0) = false := by simp [hG]
        have HG := Lib.hid hG
        clear hG
        by_cases hc : wide < G + 1 + (n : Int)
        · have hfin := Hnone.out (k + 1) (by omega) (by rw [Hn.out, if_pos hc])
          have Hfin := Lib.hid hfin
          clear hfin Hn
          go_wp2
          go_ret2
          exact ⟨by rw [Hfin.out]; rfl, rfl⟩
        · have Hn2 := Lib.hid (show ptU wide ns es (k + 1) = some (L, if k < es.length ∧ es.getD k 0 ≠ 0 then 0 else G + 1 + (n : Int)) by rw [Hn.out, if_neg hc, if_neg HG.out])
          clear Hn
          by_cases hke : k < es.length
          · obtain ⟨b', off', ha', hat'⟩ := Hat2.out k hke
            subst ha'
            have d0 := hat' k hke
            clear hat'
            by_cases hz : es.getD k 0 = 0
            · have hz2 : (es.getD k 0 == 0) = true := beq_iff_eq.2 hz
              have hz3 : (es.getD k 0 != 0) = false := by rw [hz]; rfl
              have Hz := Lib.hid hz
              clear hz
              generalize es.getD k 0 = z at *
              go_wp2
              go_round
              case rel => exact ⟨k + 1, L, G + 1 + n, by omega, by go_num, rfl, rfl, by rw [Hn2.out, if_neg (fun h => h.2 Hz.out)]⟩
              case measure => simp [intOf]; omega
            · have hz2 : (es.getD k 0 == 0) = false := beq_eq_false_iff_ne.2 hz
              have hz3 : (es.getD k 0 != 0) = true := bne_iff_ne.2 hz
              have Hz := Lib.hid hz
              clear hz
              generalize es.getD k 0 = z at *
              go_wp2
              go_round
              case rel => exact ⟨k + 1, L, 0, by omega, by go_num, rfl, rfl, by rw [Hn2.out, if_pos ⟨hke, Hz.out⟩]⟩
              case measure => simp [intOf]; omega
          · go_wp2
            go_round
            case rel => exact ⟨k + 1, L, G + 1 + n, by omega, by go_num, rfl, rfl, by rw [Hn2.out, if_neg (fun h => hke h.1)]⟩
            case measure => simp [intOf]; omega
    · have hkn : k = ns.length := by omega
      subst hkn
      have HU := Lib.hid hU
      clear hU
      go_wp2
      go_ret2
      exact ⟨by rw [HU.out]; rfl, rfl⟩
end Go.Proofs.Ytepacocajnobgaa
