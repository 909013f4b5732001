/- TypedTexts: what is computed is true. -/
import Derived.Test.YtampekcanmakkaaX5
set_option linter.unusedVariables false
namespace Go.Proofs.Ytampekcanmakkaa.G
open Go Go.RowKit Go.Proofs
theorem typed_all (a0 a1 : Int) : dowellaw25_TypedTexts_5.f 20 a0 a1 = some true := by
  by_cases hneg : a1 < 0
  · have h1 : typed_Text_23.f 20 (⟨a0, a1⟩ : S30) = some (⟨#[]⟩, 6) := by
      unfold typed_Text_23.f
      rw [if_pos hneg]
      rfl
    have h2 : dowelref25_Text_24.f 20 (⟨a0, a1⟩ : S30) = some (⟨#[]⟩, 6) := by
      unfold dowelref25_Text_24.f
      repeat' split
      all_goals first | rfl | (exfalso; rename_i h; exact h hneg)
    unfold dowellaw25_TypedTexts_5.f
    rw [h1, h2]
    decide +kernel
  by_cases hbig : a1 > 8
  · have h1 : typed_Text_23.f 20 (⟨a0, a1⟩ : S30) = some (⟨#[]⟩, 6) := by
      unfold typed_Text_23.f
      rw [if_neg hneg, decide_eq_true hbig]
      rfl
    have h2 : dowelref25_Text_24.f 20 (⟨a0, a1⟩ : S30) = some (⟨#[]⟩, 6) := by
      unfold dowelref25_Text_24.f
      rw [show decide ((⟨a0, a1⟩ : S30).f1 > 8) = true from decide_eq_true hbig]
      repeat' split
      all_goals rfl
    unfold dowellaw25_TypedTexts_5.f
    rw [h1, h2]
    decide +kernel
  by_cases hlow : a0 < 1 ∨ a0 > 3
  · have h1 : typed_Text_23.f 20 (⟨a0, a1⟩ : S30) = some (⟨#[]⟩, 6) := by
      have e1 : (a0 == 1) = false := by simp; omega
      have e2 : (a0 == 2) = false := by simp; omega
      have e3 : (a0 == 3) = false := by simp; omega
      unfold typed_Text_23.f
      rw [if_neg hneg, decide_eq_false hbig]
      unfold typed_Text_23.j0
      simp only [e1, e2, e3, Bool.false_and]
      rfl
    have h2 : dowelref25_Text_24.f 20 (⟨a0, a1⟩ : S30) = some (⟨#[]⟩, 6) := by
      unfold dowelref25_Text_24.f
      rcases hlow with h | h
      · rw [if_pos h]; rfl
      · rw [if_neg (show ¬ (a0 < 1) by omega), if_pos h]; rfl
    unfold dowellaw25_TypedTexts_5.f
    rw [h1, h2]
    decide +kernel
  have h0 : a0 = 1 ∨ a0 = 2 ∨ a0 = 3 := by omega
  have h1 : a1 = 0 ∨ a1 = 1 ∨ a1 = 2 ∨ a1 = 3 ∨ a1 = 4 ∨ a1 = 5 ∨ a1 = 6 ∨ a1 = 7 ∨ a1 = 8 := by omega
  rcases h0 with rfl | rfl | rfl <;> rcases h1 with rfl | rfl | rfl | rfl | rfl | rfl | rfl | rfl | rfl <;> decide +kernel
theorem typed_walk (a0 a1 : Int) (w : World) : Calls Try.prog 5 #[.int .i64 a0, .int .i64 a1] w (dowellaw25_TypedTexts_5.R true w) := dowellaw25_TypedTexts_5.ok 20 a0 a1 w true (typed_all a0 a1)
end Go.Proofs.Ytampekcanmakkaa.G
