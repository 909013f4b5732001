/- Classes: a byte put to the ranges. -/
import Derived.Test.YtampekcanmakkaaLawClass
set_option linter.unusedVariables false
namespace Go.Proofs.Ytampekcanmakkaa.G
open Go Go.RowKit Go.Proofs
theorem rd_last (l : List Tapi_Range) (x : Tapi_Range) : rd zapi_Range (l ++ [x]) (W ((((l ++ [x]).length : Nat) : Int) - 1)) = x ∨ 1000000000 ≤ l.length := by
  by_cases h : l.length < 1000000000
  · left
    rw [W_id (by simp <;> omega) (by simp <;> omega)]
    unfold rd
    have : ((((l ++ [x]).length : Nat) : Int) - 1).toNat = l.length := by simp
    rw [this]
    simp
  · right; omega
theorem step_app (l : List Tapi_Range) (b : Nat) (hb : b < 256) (hl : l.length < 1000) (h : ∀ k x, l = k ++ [x] → 0 ≤ x.f1 ∧ x.f1 + 1 < (b : Int)) : rgStep l (b : Int) = l ++ [⟨(b : Int), (b : Int)⟩] := by
  unfold rgStep
  rw [if_neg]
  rintro ⟨h1, h2⟩
  rcases List.eq_nil_or_concat l with rfl | ⟨k, x, rfl⟩
  · simp at h1
  · rw [List.concat_eq_append] at h h1 h2 hl
    obtain ⟨g0, g1⟩ := h k x rfl
    have e := (rd_last k x).resolve_right (by simp at hl; omega)
    rw [e, W_id (x := x.f1) (by omega) (by omega), W_id (x := x.f1 + 1) (by omega) (by omega), W_id (x := (b : Int)) (by omega) (by omega)] at h2
    have := eq_of_beq h2
    omega
theorem step_ext (k : List Tapi_Range) (s : Int) (b : Nat) (hb : b < 255) (hl : k.length < 1000) : rgStep (k ++ [⟨s, (b : Int)⟩]) ((b + 1 : Nat) : Int) = k ++ [⟨s, ((b + 1 : Nat) : Int)⟩] := by
  have e := (rd_last k ⟨s, (b : Int)⟩).resolve_right (by omega)
  unfold rgStep
  rw [if_pos ⟨by simp <;> omega, by rw [e, W_id (x := (b : Int)) (by omega) (by omega), W_id (x := (b : Int) + 1) (by omega) (by omega), W_id (x := ((b + 1 : Nat) : Int)) (by omega) (by omega)]; simp⟩, e]
  rw [W_id (by simp <;> omega) (by simp <;> omega)]
  unfold stored
  have : ((((k ++ [(⟨s, (b : Int)⟩ : Tapi_Range)]).length : Nat) : Int) - 1).toNat = k.length := by simp
  rw [this]
  simp
theorem rangesF_upto_len (a : Tapi_Class) (i : Nat) (hi : i ≤ 256) : (rangesF (upto a i)).length < 1000 := by
  have h1 := rangesF_len (upto a i)
  have h2 := upto_len a i
  omega
end Go.Proofs.Ytampekcanmakkaa.G
