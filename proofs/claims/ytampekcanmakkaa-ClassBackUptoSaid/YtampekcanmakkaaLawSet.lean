/- A byte put into a class. -/
import Derived.Test.YtampekcanmakkaaLawClass
set_option linter.unusedVariables false
namespace Go.Proofs.Ytampekcanmakkaa.G
open Go Go.RowKit Go.Proofs
def setBit (c : Tapi_Class) (b : Nat) : Tapi_Class := ⟨rd 0 (stored [c.f0, c.f1, c.f2, c.f3] ((b / 64 : Nat) : Int) (bits .or .u64 (cw c (b / 64)) ((2 ^ (b % 64) : Nat) : Int))) 0,
  rd 0 (stored [c.f0, c.f1, c.f2, c.f3] ((b / 64 : Nat) : Int) (bits .or .u64 (cw c (b / 64)) ((2 ^ (b % 64) : Nat) : Int))) 1,
  rd 0 (stored [c.f0, c.f1, c.f2, c.f3] ((b / 64 : Nat) : Int) (bits .or .u64 (cw c (b / 64)) ((2 ^ (b % 64) : Nat) : Int))) 2,
  rd 0 (stored [c.f0, c.f1, c.f2, c.f3] ((b / 64 : Nat) : Int) (bits .or .u64 (cw c (b / 64)) ((2 ^ (b % 64) : Nat) : Int))) 3⟩
theorem setBit_cw (c : Tapi_Class) (b i : Nat) (hb : b < 256) (hi : i < 4) : cw (setBit c b) i = if i = b / 64 then bits .or .u64 (cw c (b / 64)) ((2 ^ (b % 64) : Nat) : Int) else cw c i := by
  have h1 : b / 64 = 0 ∨ b / 64 = 1 ∨ b / 64 = 2 ∨ b / 64 = 3 := by omega
  have h2 : i = 0 ∨ i = 1 ∨ i = 2 ∨ i = 3 := by omega
  unfold setBit
  rcases h1 with h | h | h | h <;> rw [h] <;> rcases h2 with rfl | rfl | rfl | rfl <;> rfl
theorem setBit_word {c : Tapi_Class} (hc : COk c) (b : Nat) : bits .or .u64 (cw c (b / 64)) ((2 ^ (b % 64) : Nat) : Int) = (((cw c (b / 64)).toNat ||| 2 ^ (b % 64) : Nat) : Int) ∧ (cw c (b / 64)).toNat ||| 2 ^ (b % 64) < 18446744073709551616 := by
  obtain ⟨g1, g2⟩ := cw_ok hc (b / 64)
  have hp : 2 ^ (b % 64) < 2 ^ 64 := Nat.pow_lt_pow_right (by decide) (Nat.mod_lt _ (by decide))
  have e : cw c (b / 64) = ((cw c (b / 64)).toNat : Int) := (Int.toNat_of_nonneg g1).symm
  refine ⟨?_, Nat.or_lt_two_pow (n := 64) (by omega) hp⟩
  conv => lhs; rw [e]
  exact or64 _ _ (by omega) hp
theorem setBit_ok {c : Tapi_Class} (hc : COk c) (b : Nat) (hb : b < 256) : COk (setBit c b) := by
  have key : ∀ i, i < 4 → 0 ≤ cw (setBit c b) i ∧ cw (setBit c b) i < 18446744073709551616 := by
    intro i hi
    rw [setBit_cw c b i hb hi]
    split
    · obtain ⟨h1, h2⟩ := setBit_word hc b
      rw [h1]; omega
    · exact cw_ok hc i
  exact ⟨key 0 (by decide), key 1 (by decide), key 2 (by decide), key 3 (by decide)⟩
theorem setBit_bit {c : Tapi_Class} (hc : COk c) (b j : Nat) (hb : b < 256) (hj : j < 256) : bitC (setBit c b) j = (bitC c j || j == b) := by
  unfold bitC
  rw [setBit_cw c b (j / 64) hb (by omega)]
  by_cases h : j / 64 = b / 64
  · rw [if_pos h, (setBit_word hc b).1, Int.toNat_natCast, Nat.testBit_or, Nat.testBit_two_pow, h]
    congr 1
    by_cases e : j = b
    · subst e; simp
    · have : ¬ (b % 64 = j % 64) := by omega
      simp [e, this]
  · rw [if_neg h]
    have : ¬ j = b := fun e => h (by rw [e])
    simp [this]
def zeroC : Tapi_Class := ⟨0, 0, 0, 0⟩
theorem zeroC_ok : COk zeroC := by refine ⟨?_, ?_, ?_, ?_⟩ <;> (unfold zeroC; decide)
theorem zeroC_bit (j : Nat) : bitC zeroC j = false := by
  unfold bitC
  have : cw zeroC (j / 64) = 0 := by
    unfold cw zeroC
    match j / 64 with
    | 0 => rfl
    | 1 => rfl
    | 2 => rfl
    | 3 => rfl
    | n + 4 => simp
  rw [this]
  simp
end Go.Proofs.Ytampekcanmakkaa.G
