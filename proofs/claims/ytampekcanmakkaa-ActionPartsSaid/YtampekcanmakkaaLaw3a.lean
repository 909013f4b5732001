/- ActionParts: plain laws on lists: what is read, what is stored, lists that are the same, what was lent is as it was. -/
import Derived.Test.YtampekcanmakkaaX3
set_option linter.unusedVariables false
namespace Go.Proofs.Ytampekcanmakkaa.G
open Go Go.RowKit Go.Proofs
theorem W_small {x : Int} (h0 : -4611686018427387904 ≤ x) (h1 : x ≤ 4611686018427387904) : W x = x := by
  rw [W_id] <;> omega
section
variable {α : Type} {z : α}
theorem rd_nat (xs : List α) (i : Nat) (h : i < xs.length) : rd z xs (i : Int) = xs[i] := by
  unfold rd
  rw [Int.toNat_natCast, List.getD_eq_getElem?_getD, List.getElem?_eq_getElem h]
  rfl
theorem rd_stored_same (xs : List α) (i : Int) (v : α) (h0 : 0 ≤ i) (h1 : i < (xs.length : Int)) : rd z (stored xs i v) i = v := by
  unfold rd stored
  rw [List.getD_eq_getElem?_getD, List.getElem?_set_self (by omega)]
  rfl
theorem rd_stored_other (xs : List α) (i j : Int) (v : α) (h : i.toNat ≠ j.toNat) : rd z (stored xs i v) j = rd z xs j := by
  unfold rd stored
  rw [List.getD_eq_getElem?_getD, List.getD_eq_getElem?_getD, List.getElem?_set_ne h]
theorem rd_append_left (xs ys : List α) (i : Int) (h1 : i.toNat < xs.length) : rd z (xs ++ ys) i = rd z xs i := by
  unfold rd
  rw [List.getD_eq_getElem?_getD, List.getD_eq_getElem?_getD, List.getElem?_append_left h1]
theorem rd_append_at (xs ys : List α) (x : α) (i : Int) (h1 : i.toNat = xs.length) : rd z (xs ++ x :: ys) i = x := by
  unfold rd
  rw [List.getD_eq_getElem?_getD, h1, List.getElem?_append_right (Nat.le_refl _)]
  simp
theorem stored_append (xs ys : List α) (x v : α) (i : Int) (h1 : i.toNat = xs.length) : stored (xs ++ x :: ys) i v = xs ++ v :: ys := by
  unfold stored
  rw [h1, List.set_append_right _ _ (Nat.le_refl _)]
  simp
theorem stored_length (xs : List α) (i : Int) (v : α) : (stored xs i v).length = xs.length := by unfold stored; simp
theorem rd_take (xs : List α) (n : Nat) (i : Int) (h : i.toNat < n) : rd z (xs.take n) i = rd z xs i := by
  unfold rd
  rw [List.getD_eq_getElem?_getD, List.getD_eq_getElem?_getD, List.getElem?_take, if_pos h]
end
/-- Lists of ints that are the same. -/
theorem ints_loop (l : List Int) : ∀ (m : Nat) (i : Nat) (K : Nat), i + m = l.length → m < K → l.length ≤ 4611686018427387903 → dowelbook_Ints_15.l0 l l (some true) K (i : Int) = some true
  | 0, i, K, h, hK, hl => by
    obtain ⟨k, rfl⟩ : ∃ k, K = k + 1 := ⟨K - 1, by omega⟩
    unfold dowelbook_Ints_15.l0 dowelbook_Ints_15.b0
    rw [if_neg (by omega)]
  | m + 1, i, K, h, hK, hl => by
    obtain ⟨k, rfl⟩ : ∃ k, K = k + 1 := ⟨K - 1, by omega⟩
    unfold dowelbook_Ints_15.l0 dowelbook_Ints_15.b0
    rw [if_pos (by omega), if_pos (by omega), if_pos (by omega), if_neg (by simp), W_small (by omega) (by omega)]
    exact ints_loop l m (i + 1) k (by omega) (by omega) hl
theorem ints_same (K : Nat) (l : List Int) (hK : l.length < K) (hl : l.length ≤ 4611686018427387903) : dowelbook_Ints_15.f K l l = some true := by
  unfold dowelbook_Ints_15.f
  rw [if_neg (by simp)]
  exact ints_loop l l.length 0 K (by omega) hK hl
theorem beq_list_refl (b : ByteArray) : (b.toList == b.toList) = true := by simp
theorem acts_loop (l : List S32) : ∀ (m : Nat) (i : Nat) (K : Nat), i + m = l.length → m < K → l.length ≤ 4611686018427387903 → dowelbook_Acts_57.l0 l l (some true) K (i : Int) = some true
  | 0, i, K, h, hK, hl => by
    obtain ⟨k, rfl⟩ : ∃ k, K = k + 1 := ⟨K - 1, by omega⟩
    unfold dowelbook_Acts_57.l0 dowelbook_Acts_57.b0
    rw [if_neg (by omega)]
  | m + 1, i, K, h, hK, hl => by
    obtain ⟨k, rfl⟩ : ∃ k, K = k + 1 := ⟨K - 1, by omega⟩
    unfold dowelbook_Acts_57.l0 dowelbook_Acts_57.b0
    rw [if_pos (by omega), if_pos (by omega), if_pos (by omega), if_neg (by simp), W_small (by omega) (by omega)]
    exact acts_loop l m (i + 1) k (by omega) (by omega) hl
theorem acts_same (K : Nat) (l : List S32) (hK : l.length < K) (hl : l.length ≤ 4611686018427387903) : dowelbook_Acts_57.f K l l = some true := by
  unfold dowelbook_Acts_57.f
  rw [if_neg (by simp)]
  exact acts_loop l l.length 0 K (by omega) hK hl
/-- What is lent. -/
def lmark : S32 := ⟨-78, 0, ⟨#[]⟩, ⟨#[]⟩, z30⟩
def lmore : S32 := ⟨-100077, 0, ⟨#[]⟩, ⟨#[]⟩, z30⟩
theorem mark_77 (K : Nat) : dowelbook_actsMark_51.f K 77 = some lmark := by
  unfold dowelbook_actsMark_51.f lmark
  rw [W_small (by omega) (by omega)]
  rfl
theorem more_77 (K : Nat) : dowelbook_actsMore_52.f K 77 = some lmore := by
  unfold dowelbook_actsMore_52.f lmore
  rw [W_small (by omega) (by omega)]
  rfl
theorem lend_eq (K : Nat) (b : List S32) (hb : b.length ≤ 1048576) : dowelbook_LendActs_12.f K b = some ⟨b ++ [lmark, lmore], b.length⟩ := by
  unfold dowelbook_LendActs_12.f
  rw [W_small (x := (b.length : Int) + 2) (by omega) (by omega), W_small (x := (b.length : Int) + 1) (by omega) (by omega), mark_77, more_77]
  have h2 : (((b.length : Int) + 2).toNat) = b.length + 2 := by omega
  rw [h2]
  have h3 : b ++ (List.replicate (b.length + 2) z32).drop b.length = b ++ [z32, z32] := by
    rw [List.drop_replicate, show b.length + 2 - b.length = 2 by omega]
    rfl
  rw [h3, if_pos (by omega), if_pos (by omega), if_pos (by omega), if_pos (by omega)]
  simp only [Option.bind_some]
  rw [if_pos (by omega), if_pos (by omega), if_pos (by omega), if_pos (by omega), if_pos (by omega)]
  rw [stored_append b [z32] z32 lmark (b.length : Int) (by omega)]
  have h4 : stored (b ++ lmark :: [z32]) ((b.length : Int) + 1) lmore = b ++ [lmark, lmore] := by
    have := stored_append (b ++ [lmark]) [] z32 lmore ((b.length : Int) + 1) (by simp)
    simpa using this
  rw [h4, Int.toNat_natCast]
theorem kept_eq (K : Nat) (b : List S32) (hb : b.length ≤ 1048576) (hK : b.length < K) : dowelbook_KeptActs_16.f K (b ++ [lmark, lmore]) b.length b = some true := by
  unfold dowelbook_KeptActs_16.f
  rw [W_small (x := (b.length : Int) + 2) (by omega) (by omega), W_small (x := (b.length : Int) + 1) (by omega) (by omega), mark_77, more_77]
  have h2 : (((b.length : Int) + 2).toNat) = b.length + 2 := by omega
  rw [h2, if_pos (by omega), if_pos (by simp), List.take_left, acts_same K b hK (by omega)]
  have h5 : (b ++ [lmark, lmore]).take (b.length + 2) = b ++ [lmark, lmore] := List.take_of_length_le (by simp)
  have h6 : rd z32 (b ++ [lmark, lmore]) (b.length : Int) = lmark := rd_append_at b [lmore] lmark _ (by omega)
  have h7 : rd z32 (b ++ [lmark, lmore]) ((b.length : Int) + 1) = lmore := by
    have := rd_append_at (z := z32) (b ++ [lmark]) [] lmore ((b.length : Int) + 1) (by simp)
    simpa using this
  simp only [Option.bind_some]
  rw [if_pos trivial, if_pos (by omega), if_pos (by omega), h5, h6, h7]
  rw [if_pos (by simp), if_pos (by omega), if_pos (by omega)]
  unfold dowelbook_KeptActs_16.j0
  simp
end Go.Proofs.Ytampekcanmakkaa.G
