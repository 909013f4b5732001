/- Words as natural numbers; how many bits are set. -/
import Derived.Test.YtampekcanmakkaaBase19
set_option linter.unusedVariables false
namespace Go.Proofs.Ytampekcanmakkaa.G
open Go Go.RowKit Go.Proofs
theorem wrap64_nat (n : Nat) (h : n < 18446744073709551616) : IntKind.u64.wrap (n : Int) = n := by
  have := W64_eq (n : Int)
  unfold W64 at this
  rw [this]; omega
theorem wrap8_nat (n : Nat) (h : n < 256) : IntKind.u8.wrap (n : Int) = n := by
  have := W8_eq (n : Int)
  unfold W8 at this
  rw [this]; omega
theorem and64 (x y : Nat) (hx : x < 18446744073709551616) (hy : y < 18446744073709551616) : bits .and .u64 (x : Int) (y : Int) = ((x &&& y : Nat) : Int) := by
  have h : (BitVec.ofInt 64 (x : Int) &&& BitVec.ofInt 64 (y : Int)).toNat = x &&& y := by
    rw [BitVec.ofInt_natCast, BitVec.ofInt_natCast, BitVec.toNat_and, BitVec.toNat_ofNat, BitVec.toNat_ofNat, Nat.mod_eq_of_lt hx, Nat.mod_eq_of_lt hy]
  show IntKind.u64.wrap (((BitVec.ofInt 64 (x : Int) &&& BitVec.ofInt 64 (y : Int)).toNat : Nat) : Int) = _
  rw [h]
  exact wrap64_nat _ (Nat.lt_of_le_of_lt Nat.and_le_left hx)
theorem or64 (x y : Nat) (hx : x < 18446744073709551616) (hy : y < 18446744073709551616) : bits .or .u64 (x : Int) (y : Int) = ((x ||| y : Nat) : Int) := by
  have h : (BitVec.ofInt 64 (x : Int) ||| BitVec.ofInt 64 (y : Int)).toNat = x ||| y := by
    rw [BitVec.ofInt_natCast, BitVec.ofInt_natCast, BitVec.toNat_or, BitVec.toNat_ofNat, BitVec.toNat_ofNat, Nat.mod_eq_of_lt hx, Nat.mod_eq_of_lt hy]
  show IntKind.u64.wrap (((BitVec.ofInt 64 (x : Int) ||| BitVec.ofInt 64 (y : Int)).toNat : Nat) : Int) = _
  rw [h]
  exact wrap64_nat _ (Nat.or_lt_two_pow (n := 64) hx hy)
theorem xor64 (x y : Nat) (hx : x < 18446744073709551616) (hy : y < 18446744073709551616) : bits .xor .u64 (x : Int) (y : Int) = ((x ^^^ y : Nat) : Int) := by
  have h : (BitVec.ofInt 64 (x : Int) ^^^ BitVec.ofInt 64 (y : Int)).toNat = x ^^^ y := by
    rw [BitVec.ofInt_natCast, BitVec.ofInt_natCast, BitVec.toNat_xor, BitVec.toNat_ofNat, BitVec.toNat_ofNat, Nat.mod_eq_of_lt hx, Nat.mod_eq_of_lt hy]
  show IntKind.u64.wrap (((BitVec.ofInt 64 (x : Int) ^^^ BitVec.ofInt 64 (y : Int)).toNat : Nat) : Int) = _
  rw [h]
  exact wrap64_nat _ (Nat.xor_lt_two_pow (n := 64) hx hy)
theorem shr64 (x n : Nat) (hn : n ≤ 64) : shv .shr .u64 (x : Int) (n : Int) = ((x / 2 ^ n : Nat) : Int) := by
  show (x : Int).fdiv (2 ^ (min ((n : Int).toNat) 64)) = _
  rw [Int.toNat_natCast, Nat.min_eq_left hn, Int.fdiv_eq_ediv_of_nonneg _ (Int.pow_nonneg (by decide)), Int.natCast_ediv, Int.natCast_pow]
  rfl
theorem shl64 (n : Nat) (hn : n < 64) : shv .shl .u64 1 (n : Int) = ((2 ^ n : Nat) : Int) := by
  show IntKind.u64.wrap (1 * 2 ^ (min ((n : Int).toNat) 64)) = _
  rw [Int.toNat_natCast, Nat.min_eq_left (by omega), Int.one_mul]
  have : ((2 : Int) ^ n) = ((2 ^ n : Nat) : Int) := by rw [Int.natCast_pow]; rfl
  rw [this]
  exact wrap64_nat _ (Nat.pow_lt_pow_right (by decide) hn)
/-! ### a word's bit -/
theorem bit_and1 (x n : Nat) (hx : x < 18446744073709551616) (hn : n < 64) : bits .and .u64 (shv .shr .u64 (x : Int) (n : Int)) 1 = if x.testBit n = true then 1 else 0 := by
  rw [shr64 x n (by omega), show (1 : Int) = ((1 : Nat) : Int) from rfl, and64 _ _ (Nat.lt_of_le_of_lt (Nat.div_le_self _ _) hx) (by decide), Nat.and_one_is_mod, Nat.testBit_eq_decide_div_mod_eq]
  by_cases h : x / 2 ^ n % 2 = 1
  · rw [h]; simp
  · have : x / 2 ^ n % 2 = 0 := by omega
    rw [this]; simp
/-! ### how many bits are set -/
def pc : Nat → Nat → Nat
  | 0, _ => 0
  | n + 1, x => x % 2 + pc n (x / 2)
theorem and_split (x y : Nat) : x &&& y = (x % 256 &&& y % 256) + 256 * (x / 256 &&& y / 256) := by
  have h1 : (x &&& y) % 2 ^ 8 = (x % 2 ^ 8) &&& (y % 2 ^ 8) := Nat.and_mod_two_pow
  have h2 : (x &&& y) / 2 ^ 8 = (x / 2 ^ 8) &&& (y / 2 ^ 8) := Nat.and_div_two_pow
  have h3 := Nat.mod_add_div (x &&& y) 256
  rw [show (2 : Nat) ^ 8 = 256 from rfl] at h1 h2
  rw [← h1, ← h2]; omega
def s1 (m x : Nat) : Nat := (x / 2 &&& m) + (x &&& m)
def s2 (m x : Nat) : Nat := (x / 4 &&& m) + (x &&& m)
def s3 (m x : Nat) : Nat := (x / 16 + x) &&& m
def rep8 (c : Nat) : Nat → Nat
  | 0 => 0
  | n + 1 => c + 256 * rep8 c n
theorem rep8_succ (c n : Nat) : rep8 c (n + 1) = c + 256 * rep8 c n := rfl
theorem rep8_mod (c n : Nat) (h : c < 256) : rep8 c (n + 1) % 256 = c ∧ rep8 c (n + 1) / 256 = rep8 c n := by
  rw [rep8_succ]; omega
theorem f1 : ∀ b, b < 256 → ∀ t, t < 2 → (((b + 256 * t) / 2) % 256 &&& 85) + (b &&& 85) = s1 85 b ∧ s1 85 b < 256 := by decide +kernel
theorem f2 : ∀ b, b < 256 → ∀ t, t < 4 → (((b + 256 * t) / 4) % 256 &&& 51) + (b &&& 51) = s2 51 b ∧ s2 51 b < 256 := by decide +kernel
theorem s1_split (n x : Nat) : s1 (rep8 85 (n + 1)) x = s1 85 (x % 256) + 256 * s1 (rep8 85 n) (x / 256) := by
  obtain ⟨h1, h2⟩ := rep8_mod 85 n (by decide)
  unfold s1
  rw [and_split (x / 2), and_split x, h1, h2]
  have h3 := (f1 (x % 256) (Nat.mod_lt _ (by decide)) (x / 256 % 2) (Nat.mod_lt _ (by decide))).1
  have h4 : (x % 256 + 256 * (x / 256 % 2)) / 2 % 256 = x / 2 % 256 := by omega
  have h5 : x / 2 / 256 = x / 256 / 2 := by omega
  rw [h4] at h3
  rw [h5]
  unfold s1 at h3
  omega
theorem s2_split (n x : Nat) : s2 (rep8 51 (n + 1)) x = s2 51 (x % 256) + 256 * s2 (rep8 51 n) (x / 256) := by
  obtain ⟨h1, h2⟩ := rep8_mod 51 n (by decide)
  unfold s2
  rw [and_split (x / 4), and_split x, h1, h2]
  have h3 := (f2 (x % 256) (Nat.mod_lt _ (by decide)) (x / 256 % 4) (Nat.mod_lt _ (by decide))).1
  have h4 : (x % 256 + 256 * (x / 256 % 4)) / 4 % 256 = x / 4 % 256 := by omega
  have h5 : x / 4 / 256 = x / 256 / 4 := by omega
  rw [h4] at h3
  rw [h5]
  unfold s2 at h3
  omega
/-- Bytes' nibbles are at most 4. -/
def nib (b : Nat) : Prop := b % 16 ≤ 4 ∧ b / 16 ≤ 4
def small : Nat → Nat → Prop
  | 0, x => x = 0
  | n + 1, x => nib (x % 256) ∧ small n (x / 256)
theorem f3 : ∀ b, b < 256 → nib (s2 51 (s1 85 b)) ∧ s2 51 (s1 85 b) < 256 ∧ s3 15 (s2 51 (s1 85 b)) = pc 8 b := by
  unfold nib; decide +kernel
theorem f4 : ∀ b, b < 256 → nib b → ∀ t, t < 5 → (((b + 256 * t) / 16 + b) % 256 &&& 15) = s3 15 b ∧ ((b + 256 * t) / 16) % 256 + b < 256 := by
  unfold nib; decide +kernel
theorem small_low (n x : Nat) (h : small n x) : x % 16 ≤ 4 := by
  cases n with
  | zero => unfold small at h; omega
  | succ n => obtain ⟨⟨h1, _⟩, _⟩ := h; omega
theorem s3_split (n x : Nat) (h : small (n + 1) x) : s3 (rep8 15 (n + 1)) x = s3 15 (x % 256) + 256 * s3 (rep8 15 n) (x / 256) := by
  obtain ⟨h1, h2⟩ := rep8_mod 15 n (by decide)
  obtain ⟨hn, hs⟩ := h
  have ht := small_low n _ hs
  have h0 := Nat.mod_lt x (show 256 > 0 by decide)
  obtain ⟨h3, h4⟩ := f4 (x % 256) h0 hn (x / 256 % 16) (by omega)
  unfold s3 at *
  rw [and_split, h1, h2]
  have h5 : (x % 256 + 256 * (x / 256 % 16)) / 16 % 256 = x / 16 % 256 := by omega
  have h6 : ((x % 256 + 256 * (x / 256 % 16)) / 16 + x % 256) % 256 = (x / 16 + x) % 256 := by omega
  rw [h6] at h3
  rw [h5] at h4
  have h7 : (x / 16 + x) / 256 = x / 256 / 16 + x / 256 := by omega
  rw [h3, h7]
theorem pc_succ (n x : Nat) : pc (n + 1) x = x % 2 + pc n (x / 2) := rfl
theorem pc_split : ∀ (m n x : Nat), pc (m + n) x = pc m (x % 2 ^ m) + pc n (x / 2 ^ m)
  | 0, n, x => by simp [pc]
  | m + 1, n, x => by
    rw [show m + 1 + n = (m + n) + 1 by omega, pc_succ, pc_succ, pc_split m n (x / 2)]
    have h1 : x % 2 ^ (m + 1) % 2 = x % 2 := by rw [Nat.pow_succ, Nat.mul_comm]; exact Nat.mod_mul_right_mod x 2 (2 ^ m)
    have h2 : x % 2 ^ (m + 1) / 2 = x / 2 % 2 ^ m := by rw [Nat.pow_succ, Nat.mul_comm]; exact Nat.mod_mul_right_div_self x 2 (2 ^ m)
    have h3 : x / 2 ^ (m + 1) = x / 2 / 2 ^ m := by rw [Nat.pow_succ, Nat.mul_comm, Nat.div_div_eq_div_mul]
    rw [h1, h2, h3]; omega
/-- The bytes' counts, side by side. -/
def cnt8 : Nat → Nat → Nat
  | 0, _ => 0
  | n + 1, x => pc 8 (x % 256) + 256 * cnt8 n (x / 256)
theorem pc_le : ∀ n x, pc n x ≤ n
  | 0, x => Nat.le_refl _
  | n + 1, x => by unfold pc; have := pc_le n (x / 2); omega
theorem stage : ∀ n x, x < 256 ^ n → small n (s2 (rep8 51 n) (s1 (rep8 85 n) x)) ∧ s3 (rep8 15 n) (s2 (rep8 51 n) (s1 (rep8 85 n) x)) = cnt8 n x
  | 0, x, h => by
    have : x = 0 := by simpa using h
    subst this
    exact ⟨rfl, rfl⟩
  | n + 1, x, h => by
    have hb := Nat.mod_lt x (show 256 > 0 by decide)
    obtain ⟨g1, g2, g3⟩ := f3 (x % 256) hb
    obtain ⟨ih1, ih2⟩ := stage n (x / 256) (by rw [Nat.pow_succ] at h; exact Nat.div_lt_of_lt_mul (by omega))
    have h85 : s1 85 (x % 256) < 256 := (f1 _ hb 0 (by decide)).2
    have e1 : s1 (rep8 85 (n + 1)) x % 256 = s1 85 (x % 256) ∧ s1 (rep8 85 (n + 1)) x / 256 = s1 (rep8 85 n) (x / 256) := by rw [s1_split]; omega
    have e2 : s2 (rep8 51 (n + 1)) (s1 (rep8 85 (n + 1)) x) = s2 51 (s1 85 (x % 256)) + 256 * s2 (rep8 51 n) (s1 (rep8 85 n) (x / 256)) := by rw [s2_split, e1.1, e1.2]
    have e3 : s2 (rep8 51 (n + 1)) (s1 (rep8 85 (n + 1)) x) % 256 = s2 51 (s1 85 (x % 256)) ∧ s2 (rep8 51 (n + 1)) (s1 (rep8 85 (n + 1)) x) / 256 = s2 (rep8 51 n) (s1 (rep8 85 n) (x / 256)) := by rw [e2]; omega
    have hsm : small (n + 1) (s2 (rep8 51 (n + 1)) (s1 (rep8 85 (n + 1)) x)) := by
      unfold small
      rw [e3.1, e3.2]
      exact ⟨g1, ih1⟩
    refine ⟨hsm, ?_⟩
    rw [s3_split n _ hsm, e3.1, e3.2, g3, ih2]
    rfl
theorem pc64 (x : Nat) : pc 64 x = pc 8 (x % 256) + pc 8 (x / 256 % 256) + pc 8 (x / 65536 % 256) + pc 8 (x / 16777216 % 256) + pc 8 (x / 4294967296 % 256) + pc 8 (x / 1099511627776 % 256) + pc 8 (x / 281474976710656 % 256) + pc 8 (x / 72057594037927936 % 256) := by
  have d : ∀ n y : Nat, pc (8 + n) y = pc 8 (y % 256) + pc n (y / 256) := fun n y => pc_split 8 n y
  have e : ∀ y : Nat, pc 8 y = pc (8 + 0) y := fun _ => rfl
  have h0 : ∀ y : Nat, pc (8 + 0) y = pc 8 (y % 256) := fun y => by rw [d 0 y]; rfl
  rw [show (64 : Nat) = 8 + (8 + (8 + (8 + (8 + (8 + (8 + (8 + 0))))))) from rfl, d, d, d, d, d, d, d]
  simp only [Nat.div_div_eq_div_mul, Nat.reduceMul, Nat.add_assoc]
  rw [h0 (x / 72057594037927936)]
theorem cnt8_succ (n x : Nat) : cnt8 (n + 1) x = pc 8 (x % 256) + 256 * cnt8 n (x / 256) := rfl
theorem lin2 (c0 c1 c2 c3 c4 c5 c6 c7 : Nat) : (c0 + 256 * (c1 + 256 * (c2 + 256 * (c3 + 256 * (c4 + 256 * (c5 + 256 * (c6 + 256 * c7))))))) + (c1 + 256 * (c2 + 256 * (c3 + 256 * (c4 + 256 * (c5 + 256 * (c6 + 256 * c7)))))) = (c0 + c1) + 256 * ((c1 + c2) + 256 * ((c2 + c3) + 256 * ((c3 + c4) + 256 * ((c4 + c5) + 256 * ((c5 + c6) + 256 * ((c6 + c7) + 256 * c7)))))) := by omega
theorem lin4 (c0 c1 c2 c3 c4 c5 c6 c7 : Nat) : ((c0 + c1) + 256 * ((c1 + c2) + 256 * ((c2 + c3) + 256 * ((c3 + c4) + 256 * ((c4 + c5) + 256 * ((c5 + c6) + 256 * ((c6 + c7) + 256 * c7))))))) + ((c2 + c3) + 256 * ((c3 + c4) + 256 * ((c4 + c5) + 256 * ((c5 + c6) + 256 * ((c6 + c7) + 256 * c7))))) = (c0 + c1 + c2 + c3) + 256 * ((c1 + c2 + c3 + c4) + 256 * ((c2 + c3 + c4 + c5) + 256 * ((c3 + c4 + c5 + c6) + 256 * ((c4 + c5 + c6 + c7) + 256 * ((c5 + c6 + c7) + 256 * ((c6 + c7) + 256 * c7)))))) := by omega
theorem fold_c (c0 c1 c2 c3 c4 c5 c6 c7 : Nat) (g0 : c0 ≤ 8) (g1 : c1 ≤ 8) (g2 : c2 ≤ 8) (g3 : c3 ≤ 8) (g4 : c4 ≤ 8) (g5 : c5 ≤ 8) (g6 : c6 ≤ 8) (g7 : c7 ≤ 8)
    : ∀ Y, Y = c0 + 256 * (c1 + 256 * (c2 + 256 * (c3 + 256 * (c4 + 256 * (c5 + 256 * (c6 + 256 * c7)))))) → ((Y + Y / 256) + (Y + Y / 256) / 65536 + ((Y + Y / 256) + (Y + Y / 256) / 65536) / 4294967296) % 128 = c0 + c1 + c2 + c3 + c4 + c5 + c6 + c7 := by
  have dv : ∀ a b : Nat, a < 256 → (a + 256 * b) / 256 = b := fun a b h => by omega
  have ad : ∀ a b c d : Nat, (a + 256 * b) + (c + 256 * d) = (a + c) + 256 * (b + d) := fun a b c d => by omega
  have d2 : ∀ y : Nat, y / 65536 = y / 256 / 256 := fun y => by rw [Nat.div_div_eq_div_mul]
  have d4 : ∀ y : Nat, y / 4294967296 = y / 256 / 256 / 256 / 256 := fun y => by rw [Nat.div_div_eq_div_mul, Nat.div_div_eq_div_mul, Nat.div_div_eq_div_mul]
  have b0 : c0 < 256 := by omega
  have b01 : c0 + c1 < 256 := by omega
  have b12 : c1 + c2 < 256 := by omega
  have b03 : c0 + c1 + c2 + c3 < 256 := by omega
  have b14 : c1 + c2 + c3 + c4 < 256 := by omega
  have b25 : c2 + c3 + c4 + c5 < 256 := by omega
  have b36 : c3 + c4 + c5 + c6 < 256 := by omega
  have bf : c0 + c1 + c2 + c3 + (c4 + c5 + c6 + c7) < 128 := by omega
  have ef : c0 + c1 + c2 + c3 + (c4 + c5 + c6 + c7) = c0 + c1 + c2 + c3 + c4 + c5 + c6 + c7 := by omega
  intro Y hY
  have k1 : Y / 256 = c1 + 256 * (c2 + 256 * (c3 + 256 * (c4 + 256 * (c5 + 256 * (c6 + 256 * c7))))) := by rw [hY, dv _ _ b0]
  obtain ⟨Z, hZ⟩ : ∃ Z, Z = (c0 + c1) + 256 * ((c1 + c2) + 256 * ((c2 + c3) + 256 * ((c3 + c4) + 256 * ((c4 + c5) + 256 * ((c5 + c6) + 256 * ((c6 + c7) + 256 * c7)))))) := ⟨_, rfl⟩
  have k2 : Y + Y / 256 = Z := by rw [k1, hY, hZ]; exact lin2 _ _ _ _ _ _ _ _
  have k3 : Z / 65536 = (c2 + c3) + 256 * ((c3 + c4) + 256 * ((c4 + c5) + 256 * ((c5 + c6) + 256 * ((c6 + c7) + 256 * c7)))) := by rw [hZ, d2, dv _ _ b01, dv _ _ b12]
  obtain ⟨X, hX⟩ : ∃ X, X = (c0 + c1 + c2 + c3) + 256 * ((c1 + c2 + c3 + c4) + 256 * ((c2 + c3 + c4 + c5) + 256 * ((c3 + c4 + c5 + c6) + 256 * ((c4 + c5 + c6 + c7) + 256 * ((c5 + c6 + c7) + 256 * ((c6 + c7) + 256 * c7)))))) := ⟨_, rfl⟩
  have k4 : Z + Z / 65536 = X := by rw [k3, hZ, hX]; exact lin4 _ _ _ _ _ _ _ _
  have k5 : X / 4294967296 = (c4 + c5 + c6 + c7) + 256 * ((c5 + c6 + c7) + 256 * ((c6 + c7) + 256 * c7)) := by rw [hX, d4, dv _ _ b03, dv _ _ b14, dv _ _ b25, dv _ _ b36]
  have k6 : ∃ R, X + X / 4294967296 = (c0 + c1 + c2 + c3 + (c4 + c5 + c6 + c7)) + 256 * R := ⟨_, by rw [k5, hX]; exact ad _ _ _ _⟩
  obtain ⟨R, k6⟩ := k6
  rw [k2, k4, k6]
  clear hX hZ hY k1 k2 k3 k4 k5 k6
  generalize c0 + c1 + c2 + c3 + (c4 + c5 + c6 + c7) = S at *
  omega
theorem fold8 (x : Nat) : ((cnt8 8 x + cnt8 8 x / 256) + (cnt8 8 x + cnt8 8 x / 256) / 65536 + ((cnt8 8 x + cnt8 8 x / 256) + (cnt8 8 x + cnt8 8 x / 256) / 65536) / 4294967296) % 128 = pc 64 x ∧ cnt8 8 x < 4000000000000000000 := by
  have e : cnt8 8 x = pc 8 (x % 256) + 256 * (pc 8 (x / 256 % 256) + 256 * (pc 8 (x / 65536 % 256) + 256 * (pc 8 (x / 16777216 % 256) + 256 * (pc 8 (x / 4294967296 % 256) + 256 * (pc 8 (x / 1099511627776 % 256) + 256 * (pc 8 (x / 281474976710656 % 256) + 256 * (pc 8 (x / 72057594037927936 % 256)))))))) := by
    rw [cnt8_succ, cnt8_succ, cnt8_succ, cnt8_succ, cnt8_succ, cnt8_succ, cnt8_succ, cnt8_succ]
    simp only [Nat.div_div_eq_div_mul, Nat.reduceMul]
    have : ∀ y, cnt8 0 y = 0 := fun _ => rfl
    rw [this, Nat.mul_zero, Nat.add_zero]
  constructor
  · rw [pc64]
    exact fold_c (pc 8 (x % 256)) (pc 8 (x / 256 % 256)) (pc 8 (x / 65536 % 256)) (pc 8 (x / 16777216 % 256)) (pc 8 (x / 4294967296 % 256)) (pc 8 (x / 1099511627776 % 256)) (pc 8 (x / 281474976710656 % 256)) (pc 8 (x / 72057594037927936 % 256)) (pc_le 8 (x % 256)) (pc_le 8 (x / 256 % 256)) (pc_le 8 (x / 65536 % 256)) (pc_le 8 (x / 16777216 % 256)) (pc_le 8 (x / 4294967296 % 256)) (pc_le 8 (x / 1099511627776 % 256)) (pc_le 8 (x / 281474976710656 % 256)) (pc_le 8 (x / 72057594037927936 % 256)) (cnt8 8 x) e
  · rw [e]
    have g0 := pc_le 8 (x % 256)
    have g1 := pc_le 8 (x / 256 % 256)
    have g2 := pc_le 8 (x / 65536 % 256)
    have g3 := pc_le 8 (x / 16777216 % 256)
    have g4 := pc_le 8 (x / 4294967296 % 256)
    have g5 := pc_le 8 (x / 1099511627776 % 256)
    have g6 := pc_le 8 (x / 281474976710656 % 256)
    have g7 := pc_le 8 (x / 72057594037927936 % 256)
    clear e
    generalize pc 8 (x % 256) = c0 at *
    generalize pc 8 (x / 256 % 256) = c1 at *
    generalize pc 8 (x / 65536 % 256) = c2 at *
    generalize pc 8 (x / 16777216 % 256) = c3 at *
    generalize pc 8 (x / 4294967296 % 256) = c4 at *
    generalize pc 8 (x / 1099511627776 % 256) = c5 at *
    generalize pc 8 (x / 281474976710656 % 256) = c6 at *
    generalize pc 8 (x / 72057594037927936 % 256) = c7 at *
    omega
end Go.Proofs.Ytampekcanmakkaa.G
