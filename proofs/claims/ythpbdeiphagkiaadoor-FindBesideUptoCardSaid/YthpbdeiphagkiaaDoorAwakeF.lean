/- Chapter 23's example: closed facts; (*find.Finder).Search. -/
import Derived.Test.YthpbdeiphagkiaaDoorLaw2
import Derived.Test.YthpbdeiphagkiaaDoorBegin
namespace Go.Proofs.YthpbdeiphagkiaaDoor
open Go.RowKit Find

def exT : List Wd := [[82, 101, 100, 32, 65, 112, 112, 108, 101, 115], [80, 101, 97, 114, 115]]
def exX : List Wd := [[65, 112, 112, 108, 101, 115, 32, 97, 114, 101, 32, 114, 101, 100, 46, 32, 82, 101, 100, 32, 97, 112, 112, 108, 101, 115, 33], [78, 111, 32, 97, 112, 112, 108, 101, 115, 32, 104, 101, 114, 101]]
def exQ : Wd := [97, 112, 112, 108, 101, 115]
def exM : Wd := [45, 97]
theorem ex_parse : parseP exQ = ([Find.one exQ], 0) := by kernel_rfl
theorem ex_parse2 : parseP exM = ([], 230) := by kernel_rfl
theorem ex_founds : founds (wordsLL exT exX) [Find.one exQ] = [⟨0, 12, 0⟩, ⟨1, 1, 1⟩] := by kernel_rfl
theorem ex_told {R : List Fnd} (h : Find.Told (wordsLL exT exX) [Find.one exQ] R) : R = [⟨0, 12, 0⟩, ⟨1, 1, 1⟩] := by
  refine h.unique ⟨?_, ?_⟩
  · refine List.pairwise_cons.2 ⟨fun x hx => ?_, List.pairwise_singleton _ _⟩
    rw [List.mem_singleton.1 hx]
    left; decide
  · rw [ex_founds]
theorem ex_count : countW (wordsLL exT exX) (words [65, 80, 80, 76, 69, 83]) = 2 := by kernel_rfl
theorem ex_words : (words [97, 45, 98]).length = 2 := by kernel_rfl
theorem ex_start : Find.start [114, 101] = [114, 101] := by kernel_rfl
theorem ex_all : ((wordsLL exT exX).flatMap fun p => p.1 ++ p.2).filter (fun k => ([114, 101] : Wd).isPrefixOf k) = [[114, 101, 100], [114, 101, 100], [114, 101, 100]] := by kernel_rfl
theorem ex_begin {R : List Wd} (hn : R.Nodup) (hm : ∀ k, k ∈ R ↔ spotsOf (wordsLL exT exX) k ≠ [] ∧ [114, 101] <+: k) : R.length = 1 := by
  have hk : ∀ k, k ∈ R ↔ k = [114, 101, 100] := fun k => by
    rw [hm, spotsOf_ne]
    have key : (∃ i, i < (wordsLL exT exX).length ∧ (k ∈ ((wordsLL exT exX).getD i ([], [])).1 ∨ k ∈ ((wordsLL exT exX).getD i ([], [])).2)) ↔ k ∈ (wordsLL exT exX).flatMap fun p => p.1 ++ p.2 := by
      rw [List.mem_flatMap]
      constructor
      · rintro ⟨i, hi, h⟩
        rw [List.getD_eq_getElem?_getD, List.getElem?_eq_getElem hi, Option.getD_some] at h
        exact ⟨_, List.getElem_mem hi, List.mem_append.2 h⟩
      · rintro ⟨p, hp, h⟩
        obtain ⟨i, hi, rfl⟩ := List.mem_iff_getElem.1 hp
        exact ⟨i, hi, by rw [List.getD_eq_getElem?_getD, List.getElem?_eq_getElem hi, Option.getD_some]; exact List.mem_append.1 h⟩
    rw [key]
    have h2 : (k ∈ ((wordsLL exT exX).flatMap fun p => p.1 ++ p.2) ∧ ([114, 101] : Wd) <+: k) ↔ k ∈ ((wordsLL exT exX).flatMap fun p => p.1 ++ p.2).filter (fun k => ([114, 101] : Wd).isPrefixOf k) := by
      rw [List.mem_filter, List.isPrefixOf_iff_prefix]
    rw [h2, ex_all]
    simp
  have hp : R.Perm [[114, 101, 100]] := (List.perm_ext_iff_of_nodup hn (by simp)).2 fun k => by rw [hk, List.mem_singleton]
  exact hp.length_eq
end Go.Proofs.YthpbdeiphagkiaaDoor
