/- Classes: what has, count, not, open and close come to. -/
import Derived.Test.YtampekcanmakkaaX7
import Derived.Test.YtampekcanmakkaaLawBits
set_option linter.unusedVariables false
namespace Go.Proofs.Ytampekcanmakkaa.G
open Go Go.RowKit Go.Proofs
theorem shr64i (x : Nat) (n : Nat) (m : Int) (hm : m = (n : Int)) (hn : n ≤ 64) : shv .shr .u64 (x : Int) m = ((x / 2 ^ n : Nat) : Int) := by rw [hm]; exact shr64 x n hn
theorem and64i (x y : Nat) (m : Int) (hm : m = (y : Int)) (hx : x < 18446744073709551616) (hy : y < 18446744073709551616) : bits .and .u64 (x : Int) m = ((x &&& y : Nat) : Int) := by rw [hm]; exact and64 x y hx hy
theorem w64add (x y : Nat) (h : x + y < 18446744073709551616) : W64 ((x : Int) + (y : Int)) = ((x + y : Nat) : Int) := by
  rw [show (x : Int) + (y : Int) = ((x + y : Nat) : Int) by omega]; exact wrap64_nat _ h
theorem and127 (n : Nat) (h : n < 9223372036854775808) : bits .and .i64 (W (n : Int)) 127 = ((n % 128 : Nat) : Int) := by
  rw [W_id (by omega) (by omega)]
  have h1 : (BitVec.ofInt 64 (n : Int) &&& BitVec.ofInt 64 (127 : Int)).toNat = n % 128 := by
    rw [BitVec.ofInt_natCast, show (127 : Int) = ((127 : Nat) : Int) from rfl, BitVec.ofInt_natCast, BitVec.toNat_and, BitVec.toNat_ofNat, BitVec.toNat_ofNat, Nat.mod_eq_of_lt (by omega)]
    exact Nat.and_two_pow_sub_one_eq_mod n 7
  show IntKind.i64.wrap (((BitVec.ofInt 64 (n : Int) &&& BitVec.ofInt 64 (127 : Int)).toNat : Nat) : Int) = _
  rw [h1]
  exact W_id (by omega) (by omega)
theorem ones64 (K x : Nat) (hx : x < 18446744073709551616) : bits_OnesCount64.f K (x : Int) = some ((pc 64 x : Nat) : Int) := by
  have m0 : rep8 85 8 = 6148914691236517205 := by decide
  have m1 : rep8 51 8 = 3689348814741910323 := by decide
  have m2 : rep8 15 8 = 1085102592571150095 := by decide
  obtain ⟨a, ha⟩ : ∃ a, s1 (rep8 85 8) x = a := ⟨_, rfl⟩
  have ba : a < 18446744073709551616 := by
    rw [← ha, m0]; unfold s1
    have h1 : x / 2 &&& 6148914691236517205 ≤ 6148914691236517205 := Nat.and_le_right
    have h2 : x &&& 6148914691236517205 ≤ 6148914691236517205 := Nat.and_le_right
    omega
  have e1 : W64 ((bits .and .u64 (shv .shr .u64 (x : Int) 1) 6148914691236517205) + (bits .and .u64 (x : Int) 6148914691236517205)) = (a : Int) := by
    rw [shr64i x 1 1 rfl (by decide), and64i _ 6148914691236517205 6148914691236517205 rfl (by omega) (by decide), and64i _ 6148914691236517205 6148914691236517205 rfl hx (by decide), w64add _ _ (by rw [← ha, m0] at ba; exact ba), ← ha, m0]
    rfl
  obtain ⟨b, hb⟩ : ∃ b, s2 (rep8 51 8) a = b := ⟨_, rfl⟩
  have bb : b ≤ 7378697629483820646 := by
    rw [← hb, m1]; unfold s2
    have h1 : a / 4 &&& 3689348814741910323 ≤ 3689348814741910323 := Nat.and_le_right
    have h2 : a &&& 3689348814741910323 ≤ 3689348814741910323 := Nat.and_le_right
    omega
  have e2 : W64 ((bits .and .u64 (shv .shr .u64 (a : Int) 2) 3689348814741910323) + (bits .and .u64 (a : Int) 3689348814741910323)) = (b : Int) := by
    rw [shr64i a 2 2 rfl (by decide), and64i _ 3689348814741910323 3689348814741910323 rfl (by omega) (by decide), and64i _ 3689348814741910323 3689348814741910323 rfl ba (by decide), w64add _ _ (by
      have := bb
      rw [← hb, m1] at this
      exact Nat.lt_of_le_of_lt (show (a / 2 ^ 2 &&& 3689348814741910323) + (a &&& 3689348814741910323) ≤ 7378697629483820646 from this) (by decide)), ← hb, m1]
    rfl
  have hc : s3 (rep8 15 8) b = cnt8 8 x := by rw [← hb, ← ha]; exact (stage 8 x (by omega)).2
  obtain ⟨hf, bc⟩ := fold8 x
  generalize cnt8 8 x = c at *
  have e3 : bits .and .u64 (W64 ((shv .shr .u64 (b : Int) 4) + (b : Int))) 1085102592571150095 = (c : Int) := by
    rw [shr64i b 4 4 rfl (by decide), w64add _ _ (by omega), and64i _ 1085102592571150095 1085102592571150095 rfl (by omega) (by decide), ← hc, m2]
    rfl
  have e4 : W64 ((c : Int) + (shv .shr .u64 (c : Int) 8)) = ((c + c / 256 : Nat) : Int) := by
    rw [shr64i c 8 8 rfl (by decide), w64add _ _ (by omega)]
  have e5 : W64 (((c + c / 256 : Nat) : Int) + (shv .shr .u64 ((c + c / 256 : Nat) : Int) 16)) = ((c + c / 256 + (c + c / 256) / 65536 : Nat) : Int) := by
    rw [shr64i _ 16 16 rfl (by decide), w64add _ _ (by omega)]
  have e6 : W64 (((c + c / 256 + (c + c / 256) / 65536 : Nat) : Int) + (shv .shr .u64 ((c + c / 256 + (c + c / 256) / 65536 : Nat) : Int) 32)) = ((c + c / 256 + (c + c / 256) / 65536 + (c + c / 256 + (c + c / 256) / 65536) / 4294967296 : Nat) : Int) := by
    rw [shr64i _ 32 32 rfl (by decide), w64add _ _ (by omega)]
  unfold bits_OnesCount64.f
  rw [e1, e2, e3, e4, e5, e6, and127 _ (by omega), hf]
/-! ### a class's words -/
structure COk (a : Tapi_Class) : Prop where
  h0 : 0 ≤ a.f0 ∧ a.f0 < 18446744073709551616
  h1 : 0 ≤ a.f1 ∧ a.f1 < 18446744073709551616
  h2 : 0 ≤ a.f2 ∧ a.f2 < 18446744073709551616
  h3 : 0 ≤ a.f3 ∧ a.f3 < 18446744073709551616
def cw (a : Tapi_Class) (i : Nat) : Int := [a.f0, a.f1, a.f2, a.f3].getD i 0
theorem cw_ok {a : Tapi_Class} (h : COk a) (i : Nat) : 0 ≤ cw a i ∧ cw a i < 18446744073709551616 := by
  obtain ⟨h0, h1, h2, h3⟩ := h
  unfold cw
  match i with
  | 0 => exact h0
  | 1 => exact h1
  | 2 => exact h2
  | 3 => exact h3
  | n + 4 => exact ⟨by simp, by simp⟩
theorem rd_cw (a : Tapi_Class) (i : Int) : rd 0 [a.f0, a.f1, a.f2, a.f3] i = cw a i.toNat := rfl
/-- A class's bit. -/
def bitC (a : Tapi_Class) (b : Nat) : Bool := (cw a (b / 64)).toNat.testBit (b % 64)
theorem bit_val {a : Tapi_Class} (h : COk a) (b : Nat) : bits .and .u64 (shv .shr .u64 (cw a (b / 64)) ((b % 64 : Nat) : Int)) 1 = if bitC a b = true then 1 else 0 := by
  obtain ⟨g1, g2⟩ := cw_ok h (b / 64)
  have e : cw a (b / 64) = ((cw a (b / 64)).toNat : Int) := (Int.toNat_of_nonneg g1).symm
  rw [e]
  exact bit_and1 _ _ (by omega) (Nat.mod_lt _ (by decide))
theorem has_bit {a : Tapi_Class} (h : COk a) (b : Nat) (hb : b < 256) : has a (b : Int) = bitC a b := by
  obtain ⟨e1, e2, e3, e4, e5, e6⟩ := shr6 (b : Int) (by omega) (by omega)
  have hs := has_some 0 a (b : Int) (by omega) (by omega)
  unfold class_Has.f at hs
  rw [if_pos e1, if_pos e2, if_pos e3] at hs
  have hs := Option.some.inj hs
  rw [← hs, e5, e6, rd_cw]
  have e7 : ((b : Int) / 64).toNat = b / 64 := by omega
  have e8 : ((b : Int) % 64) = ((b % 64 : Nat) : Int) := by omega
  rw [e7, e8, bit_val h]
  cases bitC a b <;> rfl
/-- A class by its bits. -/
theorem class_ext {a b : Tapi_Class} (ha : COk a) (hb : COk b) (h : ∀ k, k < 256 → bitC a k = bitC b k) : a = b := by
  have word : ∀ i, i < 4 → cw a i = cw b i := by
    intro i hi
    obtain ⟨a1, a2⟩ := cw_ok ha i
    obtain ⟨b1, b2⟩ := cw_ok hb i
    have : (cw a i).toNat = (cw b i).toNat := by
      apply Nat.eq_of_testBit_eq
      intro j
      by_cases hj : j < 64
      · have := h (64 * i + j) (by omega)
        unfold bitC at this
        rwa [show (64 * i + j) / 64 = i by omega, show (64 * i + j) % 64 = j by omega] at this
      · have hp : (2 : Nat) ^ 64 ≤ 2 ^ j := Nat.pow_le_pow_right (by decide) (by omega)
        rw [Nat.testBit_lt_two_pow (Nat.lt_of_lt_of_le (by omega) hp), Nat.testBit_lt_two_pow (Nat.lt_of_lt_of_le (by omega) hp)]
    omega
  have w0 := word 0 (by decide)
  have w1 := word 1 (by decide)
  have w2 := word 2 (by decide)
  have w3 := word 3 (by decide)
  cases a; cases b
  simp only [cw, List.getD_cons_zero, List.getD_cons_succ] at w0 w1 w2 w3
  subst w0 w1 w2 w3
  rfl
/-! ### Not -/
def notC (a : Tapi_Class) : Tapi_Class := ⟨18446744073709551615 - a.f0, 18446744073709551615 - a.f1, 18446744073709551615 - a.f2, 18446744073709551615 - a.f3⟩
theorem notC_ok {a : Tapi_Class} (h : COk a) : COk (notC a) := by
  obtain ⟨h0, h1, h2, h3⟩ := h
  refine ⟨?_, ?_, ?_, ?_⟩ <;> (unfold notC; constructor <;> simp only <;> omega)
theorem xor_max (x : Int) (h0 : 0 ≤ x) (h1 : x < 18446744073709551616) : bits .xor .u64 (IntKind.u64.max) x = 18446744073709551615 - x := by
  have e : x = (x.toNat : Int) := (Int.toNat_of_nonneg h0).symm
  have m : IntKind.u64.max = ((18446744073709551615 : Nat) : Int) := by decide
  rw [e, m, xor64 _ _ (by decide) (by omega)]
  have h : 18446744073709551615 ^^^ x.toNat = 18446744073709551615 - x.toNat := by
    apply Nat.eq_of_testBit_eq
    intro j
    rw [Nat.testBit_xor, show (18446744073709551615 : Nat) = 2 ^ 64 - 1 from rfl, Nat.testBit_two_pow_sub_one, show 2 ^ 64 - 1 - x.toNat = 2 ^ 64 - (x.toNat + 1) by omega, Nat.testBit_two_pow_sub_succ (by omega)]
    by_cases hj : j < 64
    · simp [hj]
    · have hp : (2 : Nat) ^ 64 ≤ 2 ^ j := Nat.pow_le_pow_right (by decide) (by omega)
      rw [Nat.testBit_lt_two_pow (Nat.lt_of_lt_of_le (by omega) hp)]
      simp [hj]
  rw [h]
  omega
theorem not_bit {a : Tapi_Class} (h : COk a) (b : Nat) (hb : b < 256) : bitC (notC a) b = !bitC a b := by
  obtain ⟨g1, g2⟩ := cw_ok h (b / 64)
  have e : cw (notC a) (b / 64) = 18446744073709551615 - cw a (b / 64) := by
    have : b / 64 = 0 ∨ b / 64 = 1 ∨ b / 64 = 2 ∨ b / 64 = 3 := by omega
    rcases this with h | h | h | h <;> rw [h] <;> rfl
  unfold bitC
  rw [e, show (18446744073709551615 - cw a (b / 64)).toNat = 2 ^ 64 - ((cw a (b / 64)).toNat + 1) by omega, Nat.testBit_two_pow_sub_succ (by omega)]
  have : b % 64 < 64 := Nat.mod_lt _ (by decide)
  simp [this]
theorem not_f {a : Tapi_Class} (h : COk a) (K : Nat) (hK : 5 ≤ K) : class_Not.f K a = some (notC a) := by
  obtain ⟨k, rfl⟩ : ∃ k, K = k + 5 := ⟨K - 5, by omega⟩
  obtain ⟨h0, h1, h2, h3⟩ := h
  have st0 : ∀ a b c d x : Int, stored [a, b, c, d] 0 x = [x, b, c, d] := fun _ _ _ _ _ => rfl
  have st1 : ∀ a b c d x : Int, stored [a, b, c, d] 1 x = [a, x, c, d] := fun _ _ _ _ _ => rfl
  have st2 : ∀ a b c d x : Int, stored [a, b, c, d] 2 x = [a, b, x, d] := fun _ _ _ _ _ => rfl
  have st3 : ∀ a b c d x : Int, stored [a, b, c, d] 3 x = [a, b, c, x] := fun _ _ _ _ _ => rfl
  have r0 : ∀ a b c d : Int, rd 0 [a, b, c, d] 0 = a := fun _ _ _ _ => rfl
  have r1 : ∀ a b c d : Int, rd 0 [a, b, c, d] 1 = b := fun _ _ _ _ => rfl
  have r2 : ∀ a b c d : Int, rd 0 [a, b, c, d] 2 = c := fun _ _ _ _ => rfl
  have r3 : ∀ a b c d : Int, rd 0 [a, b, c, d] 3 = d := fun _ _ _ _ => rfl
  have n0 : W (0 + 1) = 1 := by decide
  have n1 : W (1 + 1) = 2 := by decide
  have n2 : W (2 + 1) = 3 := by decide
  have n3 : W (3 + 1) = 4 := by decide
  unfold class_Not.f
  unfold class_Not.l0 class_Not.b0
  rw [if_pos (by decide), if_pos (by decide)]
  simp only [n0, r0, r1, r2, r3, st0]
  unfold class_Not.l0 class_Not.b0
  rw [if_pos (by decide), if_pos (by decide)]
  simp only [n1, r0, r1, r2, r3, st1]
  unfold class_Not.l0 class_Not.b0
  rw [if_pos (by decide), if_pos (by decide)]
  simp only [n2, r0, r1, r2, r3, st2]
  unfold class_Not.l0 class_Not.b0
  rw [if_pos (by decide), if_pos (by decide)]
  simp only [n3, r0, r1, r2, r3, st3]
  unfold class_Not.l0 class_Not.b0
  rw [if_neg (by decide), xor_max _ h0.1 h0.2, xor_max _ h1.1 h1.2, xor_max _ h2.1 h2.2, xor_max _ h3.1 h3.2]
  rfl
/-! ### Count -/
theorem pc_count : ∀ (n x : Nat), pc n x = ((List.range n).filter fun j => x.testBit j).length
  | 0, x => rfl
  | n + 1, x => by
    rw [pc_succ, pc_count n (x / 2), List.range_succ_eq_map, List.filter_cons, List.filter_map, Nat.testBit_zero]
    have e : ((fun j => x.testBit j) ∘ Nat.succ) = fun j => (x / 2).testBit j := by funext j; simp [Nat.testBit_succ]
    rw [e]
    by_cases h : x % 2 = 1
    · simp [h]; omega
    · have : x % 2 = 0 := by omega
      simp [this]
def countC (a : Tapi_Class) : Nat := pc 64 a.f0.toNat + pc 64 a.f1.toNat + pc 64 a.f2.toNat + pc 64 a.f3.toNat
theorem wsum (c0 c1 c2 c3 : Nat) (l0 : c0 ≤ 64) (l1 : c1 ≤ 64) (l2 : c2 ≤ 64) (l3 : c3 ≤ 64) : W (W (W (W (0 + (c0 : Int)) + (c1 : Int)) + (c2 : Int)) + (c3 : Int)) = ((c0 + c1 + c2 + c3 : Nat) : Int) := by
  rw [W_id (x := 0 + (c0 : Int)) (by omega) (by omega), W_id (x := 0 + (c0 : Int) + (c1 : Int)) (by omega) (by omega), W_id (x := 0 + (c0 : Int) + (c1 : Int) + (c2 : Int)) (by omega) (by omega), W_id (by omega) (by omega)]
  omega
theorem count_f {a : Tapi_Class} (h : COk a) (K : Nat) (hK : 5 ≤ K) : class_Count.f K a = some (countC a : Int) := by
  obtain ⟨k, rfl⟩ : ∃ k, K = k + 5 := ⟨K - 5, by omega⟩
  obtain ⟨h0, h1, h2, h3⟩ := h
  have o : ∀ x : Int, 0 ≤ x → x < 18446744073709551616 → bits_OnesCount64.f (k + 5) x = some ((pc 64 x.toNat : Nat) : Int) := fun x g0 g1 => by
    have := ones64 (k + 5) x.toNat (by omega)
    rwa [Int.toNat_of_nonneg g0] at this
  have l0 := pc_le 64 a.f0.toNat
  have l1 := pc_le 64 a.f1.toNat
  have l2 := pc_le 64 a.f2.toNat
  have l3 := pc_le 64 a.f3.toNat
  have n0 : W (0 + 1) = 1 := by decide
  have n1 : W (1 + 1) = 2 := by decide
  have n2 : W (2 + 1) = 3 := by decide
  have n3 : W (3 + 1) = 4 := by decide
  unfold class_Count.f
  unfold class_Count.l0 class_Count.b0
  rw [if_pos (by decide), if_pos (by decide), show rd 0 [a.f0, a.f1, a.f2, a.f3] 0 = a.f0 from rfl, o _ h0.1 h0.2, Option.bind_some, n0]
  unfold class_Count.l0 class_Count.b0
  rw [if_pos (by decide), if_pos (by decide), show rd 0 [a.f0, a.f1, a.f2, a.f3] 1 = a.f1 from rfl, o _ h1.1 h1.2, Option.bind_some, n1]
  unfold class_Count.l0 class_Count.b0
  rw [if_pos (by decide), if_pos (by decide), show rd 0 [a.f0, a.f1, a.f2, a.f3] 2 = a.f2 from rfl, o _ h2.1 h2.2, Option.bind_some, n2]
  unfold class_Count.l0 class_Count.b0
  rw [if_pos (by decide), if_pos (by decide), show rd 0 [a.f0, a.f1, a.f2, a.f3] 3 = a.f3 from rfl, o _ h3.1 h3.2, Option.bind_some, n3]
  unfold class_Count.l0 class_Count.b0
  rw [if_neg (by decide)]
  show some (W (W (W (W (0 + ((pc 64 a.f0.toNat : Nat) : Int)) + ((pc 64 a.f1.toNat : Nat) : Int)) + ((pc 64 a.f2.toNat : Nat) : Int)) + ((pc 64 a.f3.toNat : Nat) : Int))) = some ((countC a : Nat) : Int)
  rw [wsum _ _ _ _ l0 l1 l2 l3]
  rfl
theorem filter_len (p : Nat → Bool) (n m : Nat) : ((List.range (n + m)).filter p).length = ((List.range n).filter p).length + ((List.range m).filter fun j => p (n + j)).length := by
  rw [List.range_add, List.filter_append, List.length_append, List.filter_map, List.length_map]
  rfl
theorem bytes_bit {a : Tapi_Class} (h : COk a) : bytesOf a = ((List.range 256).filter (bitC a)).map Int.ofNat := by
  unfold bytesOf upto
  congr 1
  refine List.filter_congr fun b hb => ?_
  exact has_bit h b (List.mem_range.1 hb)
theorem bytes_len {a : Tapi_Class} (h : COk a) : (bytesOf a).length = countC a := by
  rw [bytes_bit h, List.length_map, show (256 : Nat) = 64 + (64 + (64 + 64)) from rfl, filter_len, filter_len, filter_len]
  have w : ∀ i, i < 4 → ((List.range 64).filter fun j => bitC a (64 * i + j)).length = pc 64 (cw a i).toNat := by
    intro i hi
    rw [pc_count]
    congr 1
    refine List.filter_congr fun j hj => ?_
    have hj := List.mem_range.1 hj
    unfold bitC
    rw [show (64 * i + j) / 64 = i by omega, show (64 * i + j) % 64 = j by omega]
  have w0 := w 0 (by decide)
  have w1 := w 1 (by decide)
  have w2 := w 2 (by decide)
  have w3 := w 3 (by decide)
  simp only [Nat.mul_zero, Nat.zero_add, Nat.mul_one, Nat.reduceMul] at w0 w1 w2 w3
  have e1 : ∀ j, 64 + (64 + j) = 128 + j := fun j => by omega
  have e2 : ∀ j, 64 + (128 + j) = 192 + j := fun j => by omega
  simp only [e1, e2]
  unfold countC
  rw [w0, w1, w2, w3]
  simp only [cw, List.getD_cons_zero, List.getD_cons_succ]
  omega
theorem stored_mid {α : Type} (A : List α) (x y : α) (R : List α) (k : Nat) (hk : A.length = k) : stored (A ++ x :: R) (k : Int) y = A ++ y :: R := by
  unfold stored
  rw [Int.toNat_natCast, ← hk]
  simp
theorem W_succ (k : Nat) (h : k < 1000000000) : W ((k : Int) + 1) = ((k + 1 : Nat) : Int) := by rw [W_id (by omega) (by omega)]; omega
end Go.Proofs.Ytampekcanmakkaa.G
