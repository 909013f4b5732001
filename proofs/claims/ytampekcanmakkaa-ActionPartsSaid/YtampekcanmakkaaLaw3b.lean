/- ActionParts: plain law: lists that share no memory are found so. -/
import Derived.Test.YtampekcanmakkaaLaw3a
set_option linter.unusedVariables false
namespace Go.Proofs.Ytampekcanmakkaa.G
open Go Go.RowKit Go.Proofs
theorem rep_snoc (i : Nat) (M : Int) (ys : List Int) : List.replicate i M ++ M :: ys = List.replicate (i + 1) M ++ ys := by
  rw [List.replicate_succ', List.append_assoc]
  rfl
theorem rd_rep (n : Nat) (M : Int) (ys : List Int) (k : Nat) (h : k < n) : rd 0 (List.replicate n M ++ ys) (k : Int) = M := by
  rw [rd_append_left _ _ _ (by rw [List.length_replicate]; omega), rd_nat _ _ (by rw [List.length_replicate]; exact h)]
  simp
theorem rd_rep2 (n m : Nat) (M q : Int) (k : Nat) (h0 : n ≤ k) (h : k < n + m) : rd 0 (List.replicate n M ++ List.replicate m q) (k : Int) = q := by
  rw [rd_nat _ _ (by simp; omega), List.getElem_append_right (by simp; omega)]
  simp
theorem free_a0 (a : List Int) (brk : List Int → Option Bool) : ∀ (xs : List Int) (i K : Nat), i + xs.length = a.length → xs.length < K → a.length ≤ 2097152 → dowelbook_FreeInts_17_3.l0 a brk K (List.replicate i (W ((-1) - 0)) ++ xs) (i : Int) = brk (List.replicate a.length (W ((-1) - 0)))
  | [], i, K, h, hK, hl => by
    obtain ⟨k, rfl⟩ : ∃ k, K = k + 1 := ⟨K - 1, by omega⟩
    simp only [List.length_nil] at h
    unfold dowelbook_FreeInts_17_3.l0 dowelbook_FreeInts_17_3.b0
    rw [if_neg (by omega), List.append_nil, show i = a.length by omega]
  | y :: ys, i, K, h, hK, hl => by
    obtain ⟨k, rfl⟩ : ∃ k, K = k + 1 := ⟨K - 1, by omega⟩
    simp only [List.length_cons] at h hK
    unfold dowelbook_FreeInts_17_3.l0 dowelbook_FreeInts_17_3.b0
    rw [if_pos (by omega), if_pos (by omega), stored_append _ _ _ _ _ (by simp), rep_snoc, W_small (x := (i : Int) + 1) (by omega) (by omega)]
    exact free_a0 a brk ys (i + 1) k (by omega) (by omega) hl
theorem free_b0 (brk : List Int → Nat → Option Bool) : ∀ (m t K : Nat) (x : List Int), m + t = 20 → m < K → x.length + m ≤ 4194304 → dowelbook_FreeInts_17_3.l3 brk K x x.length (t : Int) = brk (x ++ List.replicate m (W ((-100000) - 0))) (x.length + m)
  | 0, t, K, x, h, hK, hl => by
    obtain ⟨k, rfl⟩ : ∃ k, K = k + 1 := ⟨K - 1, by omega⟩
    unfold dowelbook_FreeInts_17_3.l3 dowelbook_FreeInts_17_3.b3
    rw [if_neg (by omega)]
    simp
  | m + 1, t, K, x, h, hK, hl => by
    obtain ⟨k, rfl⟩ : ∃ k, K = k + 1 := ⟨K - 1, by omega⟩
    unfold dowelbook_FreeInts_17_3.l3 dowelbook_FreeInts_17_3.b3
    rw [if_pos (by omega), if_pos (by omega), W_small (x := (t : Int) + 1) (by omega) (by omega)]
    have h1 := free_b0 brk m (t + 1) k (x ++ [(W ((-100000) - 0))]) (by omega) (by omega) (by simp; omega)
    have h2 : x ++ [(W ((-100000) - 0))] ++ List.replicate m (W ((-100000) - 0)) = x ++ List.replicate (m + 1) (W ((-100000) - 0)) := by rw [List.replicate_succ, List.append_assoc]; rfl
    have h3 : (x ++ [(W ((-100000) - 0))]).length + m = x.length + (m + 1) := by simp; omega
    rw [h2, h3] at h1
    exact h1
theorem free_c0 (a : List Int) (brk : Option Bool) (hl : a.length ≤ 2097152) : ∀ (m i K : Nat), i + m = a.length + 20 → m < K → dowelbook_FreeInts_17_3.l6 (a.length + 20) a (List.replicate a.length (W ((-1) - 0)) ++ List.replicate 20 (W ((-100000) - 0))) brk K (i : Int) = brk
  | 0, i, K, h, hK => by
    obtain ⟨k, rfl⟩ : ∃ k, K = k + 1 := ⟨K - 1, by omega⟩
    unfold dowelbook_FreeInts_17_3.l6 dowelbook_FreeInts_17_3.b6
    rw [if_neg (by omega)]
  | m + 1, i, K, h, hK => by
    obtain ⟨k, rfl⟩ : ∃ k, K = k + 1 := ⟨K - 1, by omega⟩
    unfold dowelbook_FreeInts_17_3.l6 dowelbook_FreeInts_17_3.b6
    rw [if_pos (by omega)]
    have nx := free_c0 a brk hl m (i + 1) k (by omega) (by omega)
    by_cases hi : a.length ≤ i
    · rw [if_pos (by omega)]
      unfold dowelbook_FreeInts_17_3.j7
      rw [if_pos (by omega), if_pos (by omega), rd_rep2 _ _ _ _ _ hi (by omega), if_neg (by simp), W_small (x := (i : Int) + 1) (by omega) (by omega)]
      exact nx
    · rw [if_neg (by omega)]
      unfold dowelbook_FreeInts_17_3.j7
      rw [if_pos (by omega), if_pos (by omega), rd_rep _ _ _ _ (by omega), if_neg (by simp), W_small (x := (i : Int) + 1) (by omega) (by omega)]
      exact nx
theorem free_d0 (a : List Int) (brk : Option Bool) (hl : a.length ≤ 2097152) : ∀ (m i K : Nat), i + m = a.length → m < K → dowelbook_FreeInts_17_3.l8 a (List.replicate a.length (W ((-1) - 0))) brk K (i : Int) = brk
  | 0, i, K, h, hK => by
    obtain ⟨k, rfl⟩ : ∃ k, K = k + 1 := ⟨K - 1, by omega⟩
    unfold dowelbook_FreeInts_17_3.l8 dowelbook_FreeInts_17_3.b8
    rw [if_neg (by omega)]
  | m + 1, i, K, h, hK => by
    obtain ⟨k, rfl⟩ : ∃ k, K = k + 1 := ⟨K - 1, by omega⟩
    unfold dowelbook_FreeInts_17_3.l8 dowelbook_FreeInts_17_3.b8
    have h1 := rd_rep a.length (W ((-1) - 0)) [] i (by omega)
    rw [List.append_nil] at h1
    rw [if_pos (by omega), if_pos (by omega), h1, if_neg (by simp), W_small (x := (i : Int) + 1) (by omega) (by omega)]
    exact free_d0 a brk hl m (i + 1) k (by omega) (by omega)
theorem free_a1 (a : List Int) (brk : List Int → Option Bool) : ∀ (xs : List Int) (i K : Nat), i + xs.length = a.length → xs.length < K → a.length ≤ 2097152 → dowelbook_FreeInts_17_3.l1 a brk K (List.replicate i (W ((-1) - 1)) ++ xs) (i : Int) = brk (List.replicate a.length (W ((-1) - 1)))
  | [], i, K, h, hK, hl => by
    obtain ⟨k, rfl⟩ : ∃ k, K = k + 1 := ⟨K - 1, by omega⟩
    simp only [List.length_nil] at h
    unfold dowelbook_FreeInts_17_3.l1 dowelbook_FreeInts_17_3.b1
    rw [if_neg (by omega), List.append_nil, show i = a.length by omega]
  | y :: ys, i, K, h, hK, hl => by
    obtain ⟨k, rfl⟩ : ∃ k, K = k + 1 := ⟨K - 1, by omega⟩
    simp only [List.length_cons] at h hK
    unfold dowelbook_FreeInts_17_3.l1 dowelbook_FreeInts_17_3.b1
    rw [if_pos (by omega), if_pos (by omega), stored_append _ _ _ _ _ (by simp), rep_snoc, W_small (x := (i : Int) + 1) (by omega) (by omega)]
    exact free_a1 a brk ys (i + 1) k (by omega) (by omega) hl
theorem free_b1 (brk : List Int → Nat → Option Bool) : ∀ (m t K : Nat) (x : List Int), m + t = 20 → m < K → x.length + m ≤ 4194304 → dowelbook_FreeInts_17_3.l4 brk K x x.length (t : Int) = brk (x ++ List.replicate m (W ((-100000) - 1))) (x.length + m)
  | 0, t, K, x, h, hK, hl => by
    obtain ⟨k, rfl⟩ : ∃ k, K = k + 1 := ⟨K - 1, by omega⟩
    unfold dowelbook_FreeInts_17_3.l4 dowelbook_FreeInts_17_3.b4
    rw [if_neg (by omega)]
    simp
  | m + 1, t, K, x, h, hK, hl => by
    obtain ⟨k, rfl⟩ : ∃ k, K = k + 1 := ⟨K - 1, by omega⟩
    unfold dowelbook_FreeInts_17_3.l4 dowelbook_FreeInts_17_3.b4
    rw [if_pos (by omega), if_pos (by omega), W_small (x := (t : Int) + 1) (by omega) (by omega)]
    have h1 := free_b1 brk m (t + 1) k (x ++ [(W ((-100000) - 1))]) (by omega) (by omega) (by simp; omega)
    have h2 : x ++ [(W ((-100000) - 1))] ++ List.replicate m (W ((-100000) - 1)) = x ++ List.replicate (m + 1) (W ((-100000) - 1)) := by rw [List.replicate_succ, List.append_assoc]; rfl
    have h3 : (x ++ [(W ((-100000) - 1))]).length + m = x.length + (m + 1) := by simp; omega
    rw [h2, h3] at h1
    exact h1
theorem free_c1 (a : List Int) (brk : Option Bool) (hl : a.length ≤ 2097152) : ∀ (m i K : Nat), i + m = a.length + 20 → m < K → dowelbook_FreeInts_17_3.l9 (a.length + 20) a (List.replicate a.length (W ((-1) - 1)) ++ List.replicate 20 (W ((-100000) - 1))) brk K (i : Int) = brk
  | 0, i, K, h, hK => by
    obtain ⟨k, rfl⟩ : ∃ k, K = k + 1 := ⟨K - 1, by omega⟩
    unfold dowelbook_FreeInts_17_3.l9 dowelbook_FreeInts_17_3.b9
    rw [if_neg (by omega)]
  | m + 1, i, K, h, hK => by
    obtain ⟨k, rfl⟩ : ∃ k, K = k + 1 := ⟨K - 1, by omega⟩
    unfold dowelbook_FreeInts_17_3.l9 dowelbook_FreeInts_17_3.b9
    rw [if_pos (by omega)]
    have nx := free_c1 a brk hl m (i + 1) k (by omega) (by omega)
    by_cases hi : a.length ≤ i
    · rw [if_pos (by omega)]
      unfold dowelbook_FreeInts_17_3.j10
      rw [if_pos (by omega), if_pos (by omega), rd_rep2 _ _ _ _ _ hi (by omega), if_neg (by simp), W_small (x := (i : Int) + 1) (by omega) (by omega)]
      exact nx
    · rw [if_neg (by omega)]
      unfold dowelbook_FreeInts_17_3.j10
      rw [if_pos (by omega), if_pos (by omega), rd_rep _ _ _ _ (by omega), if_neg (by simp), W_small (x := (i : Int) + 1) (by omega) (by omega)]
      exact nx
theorem free_d1 (a : List Int) (brk : Option Bool) (hl : a.length ≤ 2097152) : ∀ (m i K : Nat), i + m = a.length → m < K → dowelbook_FreeInts_17_3.l11 a (List.replicate a.length (W ((-1) - 1))) brk K (i : Int) = brk
  | 0, i, K, h, hK => by
    obtain ⟨k, rfl⟩ : ∃ k, K = k + 1 := ⟨K - 1, by omega⟩
    unfold dowelbook_FreeInts_17_3.l11 dowelbook_FreeInts_17_3.b11
    rw [if_neg (by omega)]
  | m + 1, i, K, h, hK => by
    obtain ⟨k, rfl⟩ : ∃ k, K = k + 1 := ⟨K - 1, by omega⟩
    unfold dowelbook_FreeInts_17_3.l11 dowelbook_FreeInts_17_3.b11
    have h1 := rd_rep a.length (W ((-1) - 1)) [] i (by omega)
    rw [List.append_nil] at h1
    rw [if_pos (by omega), if_pos (by omega), h1, if_neg (by simp), W_small (x := (i : Int) + 1) (by omega) (by omega)]
    exact free_d1 a brk hl m (i + 1) k (by omega) (by omega)
theorem free_a2 (a : List Int) (brk : List Int → Option Bool) : ∀ (xs : List Int) (i K : Nat), i + xs.length = a.length → xs.length < K → a.length ≤ 2097152 → dowelbook_FreeInts_17_3.l2 a brk K (List.replicate i (W ((-1) - 2)) ++ xs) (i : Int) = brk (List.replicate a.length (W ((-1) - 2)))
  | [], i, K, h, hK, hl => by
    obtain ⟨k, rfl⟩ : ∃ k, K = k + 1 := ⟨K - 1, by omega⟩
    simp only [List.length_nil] at h
    unfold dowelbook_FreeInts_17_3.l2 dowelbook_FreeInts_17_3.b2
    rw [if_neg (by omega), List.append_nil, show i = a.length by omega]
  | y :: ys, i, K, h, hK, hl => by
    obtain ⟨k, rfl⟩ : ∃ k, K = k + 1 := ⟨K - 1, by omega⟩
    simp only [List.length_cons] at h hK
    unfold dowelbook_FreeInts_17_3.l2 dowelbook_FreeInts_17_3.b2
    rw [if_pos (by omega), if_pos (by omega), stored_append _ _ _ _ _ (by simp), rep_snoc, W_small (x := (i : Int) + 1) (by omega) (by omega)]
    exact free_a2 a brk ys (i + 1) k (by omega) (by omega) hl
theorem free_b2 (brk : List Int → Nat → Option Bool) : ∀ (m t K : Nat) (x : List Int), m + t = 20 → m < K → x.length + m ≤ 4194304 → dowelbook_FreeInts_17_3.l5 brk K x x.length (t : Int) = brk (x ++ List.replicate m (W ((-100000) - 2))) (x.length + m)
  | 0, t, K, x, h, hK, hl => by
    obtain ⟨k, rfl⟩ : ∃ k, K = k + 1 := ⟨K - 1, by omega⟩
    unfold dowelbook_FreeInts_17_3.l5 dowelbook_FreeInts_17_3.b5
    rw [if_neg (by omega)]
    simp
  | m + 1, t, K, x, h, hK, hl => by
    obtain ⟨k, rfl⟩ : ∃ k, K = k + 1 := ⟨K - 1, by omega⟩
    unfold dowelbook_FreeInts_17_3.l5 dowelbook_FreeInts_17_3.b5
    rw [if_pos (by omega), if_pos (by omega), W_small (x := (t : Int) + 1) (by omega) (by omega)]
    have h1 := free_b2 brk m (t + 1) k (x ++ [(W ((-100000) - 2))]) (by omega) (by omega) (by simp; omega)
    have h2 : x ++ [(W ((-100000) - 2))] ++ List.replicate m (W ((-100000) - 2)) = x ++ List.replicate (m + 1) (W ((-100000) - 2)) := by rw [List.replicate_succ, List.append_assoc]; rfl
    have h3 : (x ++ [(W ((-100000) - 2))]).length + m = x.length + (m + 1) := by simp; omega
    rw [h2, h3] at h1
    exact h1
theorem free_c2 (a : List Int) (brk : Option Bool) (hl : a.length ≤ 2097152) : ∀ (m i K : Nat), i + m = a.length + 20 → m < K → dowelbook_FreeInts_17_3.l12 (a.length + 20) a (List.replicate a.length (W ((-1) - 2)) ++ List.replicate 20 (W ((-100000) - 2))) brk K (i : Int) = brk
  | 0, i, K, h, hK => by
    obtain ⟨k, rfl⟩ : ∃ k, K = k + 1 := ⟨K - 1, by omega⟩
    unfold dowelbook_FreeInts_17_3.l12 dowelbook_FreeInts_17_3.b12
    rw [if_neg (by omega)]
  | m + 1, i, K, h, hK => by
    obtain ⟨k, rfl⟩ : ∃ k, K = k + 1 := ⟨K - 1, by omega⟩
    unfold dowelbook_FreeInts_17_3.l12 dowelbook_FreeInts_17_3.b12
    rw [if_pos (by omega)]
    have nx := free_c2 a brk hl m (i + 1) k (by omega) (by omega)
    by_cases hi : a.length ≤ i
    · rw [if_pos (by omega)]
      unfold dowelbook_FreeInts_17_3.j13
      rw [if_pos (by omega), if_pos (by omega), rd_rep2 _ _ _ _ _ hi (by omega), if_neg (by simp), W_small (x := (i : Int) + 1) (by omega) (by omega)]
      exact nx
    · rw [if_neg (by omega)]
      unfold dowelbook_FreeInts_17_3.j13
      rw [if_pos (by omega), if_pos (by omega), rd_rep _ _ _ _ (by omega), if_neg (by simp), W_small (x := (i : Int) + 1) (by omega) (by omega)]
      exact nx
theorem free_d2 (a : List Int) (brk : Option Bool) (hl : a.length ≤ 2097152) : ∀ (m i K : Nat), i + m = a.length → m < K → dowelbook_FreeInts_17_3.l14 a (List.replicate a.length (W ((-1) - 2))) brk K (i : Int) = brk
  | 0, i, K, h, hK => by
    obtain ⟨k, rfl⟩ : ∃ k, K = k + 1 := ⟨K - 1, by omega⟩
    unfold dowelbook_FreeInts_17_3.l14 dowelbook_FreeInts_17_3.b14
    rw [if_neg (by omega)]
  | m + 1, i, K, h, hK => by
    obtain ⟨k, rfl⟩ : ∃ k, K = k + 1 := ⟨K - 1, by omega⟩
    unfold dowelbook_FreeInts_17_3.l14 dowelbook_FreeInts_17_3.b14
    have h1 := rd_rep a.length (W ((-1) - 2)) [] i (by omega)
    rw [List.append_nil] at h1
    rw [if_pos (by omega), if_pos (by omega), h1, if_neg (by simp), W_small (x := (i : Int) + 1) (by omega) (by omega)]
    exact free_d2 a brk hl m (i + 1) k (by omega) (by omega)
theorem free_true (K : Nat) (a b c : List Int) (ha : a.length ≤ 2097152) (hb : b.length ≤ 2097152) (hc : c.length ≤ 2097152) (hK : 2097152 + 21 < K) : dowelbook_FreeInts_17_3.f K a b c = some true := by
  unfold dowelbook_FreeInts_17_3.f
  have a0 := fun brk => free_a0 a brk a 0 K (by omega) (by omega) ha
  simp only [List.replicate_zero, List.nil_append, Int.natCast_zero] at a0
  have a1 := fun brk => free_a1 b brk b 0 K (by omega) (by omega) hb
  simp only [List.replicate_zero, List.nil_append, Int.natCast_zero] at a1
  have a2 := fun brk => free_a2 c brk c 0 K (by omega) (by omega) hc
  simp only [List.replicate_zero, List.nil_append, Int.natCast_zero] at a2
  have b0 := fun brk => free_b0 brk 20 0 K (List.replicate a.length (W ((-1) - 0))) (by omega) (by omega) (by rw [List.length_replicate]; omega)
  simp only [List.length_replicate, Int.natCast_zero] at b0
  have b1 := fun brk => free_b1 brk 20 0 K (List.replicate b.length (W ((-1) - 1))) (by omega) (by omega) (by rw [List.length_replicate]; omega)
  simp only [List.length_replicate, Int.natCast_zero] at b1
  have b2 := fun brk => free_b2 brk 20 0 K (List.replicate c.length (W ((-1) - 2))) (by omega) (by omega) (by rw [List.length_replicate]; omega)
  simp only [List.length_replicate, Int.natCast_zero] at b2
  have c0 := fun brk => free_c0 a brk ha (a.length + 20) 0 K (by omega) (by omega)
  have d0 := fun brk => free_d0 a brk ha a.length 0 K (by omega) (by omega)
  simp only [Int.natCast_zero] at c0 d0
  have c1 := fun brk => free_c1 b brk hb (b.length + 20) 0 K (by omega) (by omega)
  have d1 := fun brk => free_d1 b brk hb b.length 0 K (by omega) (by omega)
  simp only [Int.natCast_zero] at c1 d1
  have c2 := fun brk => free_c2 c brk hc (c.length + 20) 0 K (by omega) (by omega)
  have d2 := fun brk => free_d2 c brk hc c.length 0 K (by omega) (by omega)
  simp only [Int.natCast_zero] at c2 d2
  rw [a0]
  rw [a1]
  rw [a2]
  rw [b0]
  rw [b1]
  rw [b2]
  rw [c0, d0, c1, d1, c2, d2]
end Go.Proofs.Ytampekcanmakkaa.G
