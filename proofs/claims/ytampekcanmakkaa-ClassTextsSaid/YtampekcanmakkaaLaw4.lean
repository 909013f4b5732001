/- ClassTexts: plain law: what is computed is true. -/
import Derived.Test.YtampekcanmakkaaLawText
set_option linter.unusedVariables false
namespace Go.Proofs.Ytampekcanmakkaa.G
open Go Go.RowKit Go.Proofs
theorem same_loop (l : List Tapi_Range) (brk : Option Bool) : ∀ (d i K : Nat), i + d = l.length → d < K → l.length ≤ 1000 → dowellaw03_sameRanges.l0 l l brk K (i : Int) = brk
  | 0, i, K, h, hK, hl => by
    obtain ⟨n, rfl⟩ : ∃ n, K = n + 1 := ⟨K - 1, by omega⟩
    unfold dowellaw03_sameRanges.l0 dowellaw03_sameRanges.b0
    rw [if_neg (by omega)]
  | d + 1, i, K, h, hK, hl => by
    obtain ⟨n, rfl⟩ : ∃ n, K = n + 1 := ⟨K - 1, by omega⟩
    unfold dowellaw03_sameRanges.l0 dowellaw03_sameRanges.b0
    rw [if_pos (by omega), if_pos (by omega), if_pos (by omega), if_neg (by simp), W_succ i (by omega)]
    exact same_loop l brk d (i + 1) n (by omega) (by omega) hl
theorem same_f (l : List Tapi_Range) (K : Nat) (hK : 1001 ≤ K) (hl : l.length ≤ 1000) : dowellaw03_sameRanges.f K l l = some true := by
  unfold dowellaw03_sameRanges.f
  rw [if_neg (by simp)]
  exact same_loop l (some true) l.length 0 K (by omega) (by omega) hl
theorem rep_mid {α : Type} (i : Nat) (m : α) (ys : List α) : List.replicate i m ++ m :: ys = List.replicate (i + 1) m ++ ys := by
  rw [List.replicate_succ', List.append_assoc]; rfl
theorem rd_repL (n : Nat) (m : Tapi_Range) (ys : List Tapi_Range) (k : Nat) (h : k < n) : rd zapi_Range (List.replicate n m ++ ys) (k : Int) = m := by
  unfold rd
  rw [Int.toNat_natCast, List.getD_eq_getElem?_getD, List.getElem?_append_left (by simpa using h), List.getElem?_replicate, if_pos h]
  rfl
theorem rd_repR (n q : Nat) (m g : Tapi_Range) (k : Nat) (h0 : n ≤ k) (h : k < n + q) : rd zapi_Range (List.replicate n m ++ List.replicate q g) (k : Int) = g := by
  unfold rd
  rw [Int.toNat_natCast, List.getD_eq_getElem?_getD, List.getElem?_append_right (by simpa using h0), List.getElem?_replicate, if_pos (by simp; omega)]
  rfl
theorem fill0 (t : List Tapi_Range) (brk : List Tapi_Range → Option Bool) : ∀ (xs : List Tapi_Range) (i K : Nat), i + xs.length = t.length → xs.length < K → t.length ≤ 1000 → dowellaw03_ClassTexts.l1 t brk K (List.replicate i ⟨0, 200⟩ ++ xs) (i : Int) = brk (List.replicate t.length ⟨0, 200⟩)
  | [], i, K, h, hK, hl => by
    obtain ⟨n, rfl⟩ : ∃ n, K = n + 1 := ⟨K - 1, by omega⟩
    simp only [List.length_nil] at h
    unfold dowellaw03_ClassTexts.l1 dowellaw03_ClassTexts.b1
    rw [if_neg (by omega), List.append_nil, show i = t.length by omega]
  | y :: ys, i, K, h, hK, hl => by
    obtain ⟨n, rfl⟩ : ∃ n, K = n + 1 := ⟨K - 1, by omega⟩
    simp only [List.length_cons] at h hK
    unfold dowellaw03_ClassTexts.l1 dowellaw03_ClassTexts.b1
    rw [if_pos (by omega), if_pos (by omega), stored_mid _ _ _ _ _ (by simp), rep_mid, W_succ i (by omega)]
    exact fill0 t brk ys (i + 1) n (by omega) (by omega) hl
theorem grow0 (brk : List Tapi_Range → Nat → Option Bool) : ∀ (m t K : Nat) (x : List Tapi_Range), m + t = 16 → m < K → x.length + m ≤ 2000 → dowellaw03_ClassTexts.l4 brk K x x.length (t : Int) = brk (x ++ List.replicate m ⟨0, 100⟩) (x.length + m)
  | 0, t, K, x, h, hK, hl => by
    obtain ⟨n, rfl⟩ : ∃ n, K = n + 1 := ⟨K - 1, by omega⟩
    unfold dowellaw03_ClassTexts.l4 dowellaw03_ClassTexts.b4
    rw [if_neg (by omega)]
    simp
  | m + 1, t, K, x, h, hK, hl => by
    obtain ⟨n, rfl⟩ : ∃ n, K = n + 1 := ⟨K - 1, by omega⟩
    unfold dowellaw03_ClassTexts.l4 dowellaw03_ClassTexts.b4
    rw [if_pos (by omega), if_pos (by omega), W_succ t (by omega)]
    have h1 := grow0 brk m (t + 1) n (x ++ [⟨0, 100⟩]) (by omega) (by omega) (by simp; omega)
    rw [h1, List.append_assoc, List.length_append]
    congr 1
    simp; omega
theorem check0 (t : List Tapi_Range) (brk : Option Bool) (hl : t.length ≤ 1000) : ∀ (m i K : Nat), i + m = t.length + 16 → m < K → dowellaw03_ClassTexts.l7 (t.length + 16) t (List.replicate t.length ⟨0, 200⟩ ++ List.replicate 16 ⟨0, 100⟩) (List.replicate t.length ⟨0, 200⟩) brk K (i : Int) = brk
  | 0, i, K, h, hK => by
    obtain ⟨n, rfl⟩ : ∃ n, K = n + 1 := ⟨K - 1, by omega⟩
    unfold dowellaw03_ClassTexts.l7 dowellaw03_ClassTexts.b7
    rw [if_neg (by omega)]
  | m + 1, i, K, h, hK => by
    obtain ⟨n, rfl⟩ : ∃ n, K = n + 1 := ⟨K - 1, by omega⟩
    have nx := check0 t brk hl m (i + 1) n (by omega) (by omega)
    unfold dowellaw03_ClassTexts.l7 dowellaw03_ClassTexts.b7
    rw [if_pos (by omega)]
    by_cases hi : t.length ≤ i
    · rw [if_pos (by omega)]
      unfold dowellaw03_ClassTexts.j8
      rw [if_pos (by omega), if_pos (by omega), rd_repR _ _ _ _ _ hi (by omega), if_neg (by simp), if_neg (by omega)]
      unfold dowellaw03_ClassTexts.j9
      rw [if_neg (by simp), W_succ i (by omega)]
      exact nx
    · rw [if_neg (by omega)]
      unfold dowellaw03_ClassTexts.j8
      have hr := rd_repL t.length ⟨0, 200⟩ [] i (by omega)
      rw [List.append_nil] at hr
      rw [if_pos (by omega), if_pos (by omega), rd_repL _ _ _ _ (by omega), if_neg (by simp), if_pos (by omega), hr]
      unfold dowellaw03_ClassTexts.j9
      rw [if_neg (by simp), W_succ i (by omega)]
      exact nx
theorem fill1 (t : List Tapi_Range) (brk : List Tapi_Range → Option Bool) : ∀ (xs : List Tapi_Range) (i K : Nat), i + xs.length = t.length → xs.length < K → t.length ≤ 1000 → dowellaw03_ClassTexts.l2 t brk K (List.replicate i ⟨1, 200⟩ ++ xs) (i : Int) = brk (List.replicate t.length ⟨1, 200⟩)
  | [], i, K, h, hK, hl => by
    obtain ⟨n, rfl⟩ : ∃ n, K = n + 1 := ⟨K - 1, by omega⟩
    simp only [List.length_nil] at h
    unfold dowellaw03_ClassTexts.l2 dowellaw03_ClassTexts.b2
    rw [if_neg (by omega), List.append_nil, show i = t.length by omega]
  | y :: ys, i, K, h, hK, hl => by
    obtain ⟨n, rfl⟩ : ∃ n, K = n + 1 := ⟨K - 1, by omega⟩
    simp only [List.length_cons] at h hK
    unfold dowellaw03_ClassTexts.l2 dowellaw03_ClassTexts.b2
    rw [if_pos (by omega), if_pos (by omega), stored_mid _ _ _ _ _ (by simp), rep_mid, W_succ i (by omega)]
    exact fill1 t brk ys (i + 1) n (by omega) (by omega) hl
theorem grow1 (brk : List Tapi_Range → Nat → Option Bool) : ∀ (m t K : Nat) (x : List Tapi_Range), m + t = 16 → m < K → x.length + m ≤ 2000 → dowellaw03_ClassTexts.l5 brk K x x.length (t : Int) = brk (x ++ List.replicate m ⟨1, 100⟩) (x.length + m)
  | 0, t, K, x, h, hK, hl => by
    obtain ⟨n, rfl⟩ : ∃ n, K = n + 1 := ⟨K - 1, by omega⟩
    unfold dowellaw03_ClassTexts.l5 dowellaw03_ClassTexts.b5
    rw [if_neg (by omega)]
    simp
  | m + 1, t, K, x, h, hK, hl => by
    obtain ⟨n, rfl⟩ : ∃ n, K = n + 1 := ⟨K - 1, by omega⟩
    unfold dowellaw03_ClassTexts.l5 dowellaw03_ClassTexts.b5
    rw [if_pos (by omega), if_pos (by omega), W_succ t (by omega)]
    have h1 := grow1 brk m (t + 1) n (x ++ [⟨1, 100⟩]) (by omega) (by omega) (by simp; omega)
    rw [h1, List.append_assoc, List.length_append]
    congr 1
    simp; omega
theorem check1 (t : List Tapi_Range) (brk : Option Bool) (hl : t.length ≤ 1000) : ∀ (m i K : Nat), i + m = t.length + 16 → m < K → dowellaw03_ClassTexts.l10 (t.length + 16) t (List.replicate t.length ⟨1, 200⟩ ++ List.replicate 16 ⟨1, 100⟩) (List.replicate t.length ⟨1, 200⟩) brk K (i : Int) = brk
  | 0, i, K, h, hK => by
    obtain ⟨n, rfl⟩ : ∃ n, K = n + 1 := ⟨K - 1, by omega⟩
    unfold dowellaw03_ClassTexts.l10 dowellaw03_ClassTexts.b10
    rw [if_neg (by omega)]
  | m + 1, i, K, h, hK => by
    obtain ⟨n, rfl⟩ : ∃ n, K = n + 1 := ⟨K - 1, by omega⟩
    have nx := check1 t brk hl m (i + 1) n (by omega) (by omega)
    unfold dowellaw03_ClassTexts.l10 dowellaw03_ClassTexts.b10
    rw [if_pos (by omega)]
    by_cases hi : t.length ≤ i
    · rw [if_pos (by omega)]
      unfold dowellaw03_ClassTexts.j11
      rw [if_pos (by omega), if_pos (by omega), rd_repR _ _ _ _ _ hi (by omega), if_neg (by simp), if_neg (by omega)]
      unfold dowellaw03_ClassTexts.j12
      rw [if_neg (by simp), W_succ i (by omega)]
      exact nx
    · rw [if_neg (by omega)]
      unfold dowellaw03_ClassTexts.j11
      have hr := rd_repL t.length ⟨1, 200⟩ [] i (by omega)
      rw [List.append_nil] at hr
      rw [if_pos (by omega), if_pos (by omega), rd_repL _ _ _ _ (by omega), if_neg (by simp), if_pos (by omega), hr]
      unfold dowellaw03_ClassTexts.j12
      rw [if_neg (by simp), W_succ i (by omega)]
      exact nx
theorem fill2 (t : List Tapi_Range) (brk : List Tapi_Range → Option Bool) : ∀ (xs : List Tapi_Range) (i K : Nat), i + xs.length = t.length → xs.length < K → t.length ≤ 1000 → dowellaw03_ClassTexts.l3 t brk K (List.replicate i ⟨2, 200⟩ ++ xs) (i : Int) = brk (List.replicate t.length ⟨2, 200⟩)
  | [], i, K, h, hK, hl => by
    obtain ⟨n, rfl⟩ : ∃ n, K = n + 1 := ⟨K - 1, by omega⟩
    simp only [List.length_nil] at h
    unfold dowellaw03_ClassTexts.l3 dowellaw03_ClassTexts.b3
    rw [if_neg (by omega), List.append_nil, show i = t.length by omega]
  | y :: ys, i, K, h, hK, hl => by
    obtain ⟨n, rfl⟩ : ∃ n, K = n + 1 := ⟨K - 1, by omega⟩
    simp only [List.length_cons] at h hK
    unfold dowellaw03_ClassTexts.l3 dowellaw03_ClassTexts.b3
    rw [if_pos (by omega), if_pos (by omega), stored_mid _ _ _ _ _ (by simp), rep_mid, W_succ i (by omega)]
    exact fill2 t brk ys (i + 1) n (by omega) (by omega) hl
theorem grow2 (brk : List Tapi_Range → Nat → Option Bool) : ∀ (m t K : Nat) (x : List Tapi_Range), m + t = 16 → m < K → x.length + m ≤ 2000 → dowellaw03_ClassTexts.l6 brk K x x.length (t : Int) = brk (x ++ List.replicate m ⟨2, 100⟩) (x.length + m)
  | 0, t, K, x, h, hK, hl => by
    obtain ⟨n, rfl⟩ : ∃ n, K = n + 1 := ⟨K - 1, by omega⟩
    unfold dowellaw03_ClassTexts.l6 dowellaw03_ClassTexts.b6
    rw [if_neg (by omega)]
    simp
  | m + 1, t, K, x, h, hK, hl => by
    obtain ⟨n, rfl⟩ : ∃ n, K = n + 1 := ⟨K - 1, by omega⟩
    unfold dowellaw03_ClassTexts.l6 dowellaw03_ClassTexts.b6
    rw [if_pos (by omega), if_pos (by omega), W_succ t (by omega)]
    have h1 := grow2 brk m (t + 1) n (x ++ [⟨2, 100⟩]) (by omega) (by omega) (by simp; omega)
    rw [h1, List.append_assoc, List.length_append]
    congr 1
    simp; omega
theorem check2 (t : List Tapi_Range) (brk : Option Bool) (hl : t.length ≤ 1000) : ∀ (m i K : Nat), i + m = t.length + 16 → m < K → dowellaw03_ClassTexts.l13 (t.length + 16) t (List.replicate t.length ⟨2, 200⟩ ++ List.replicate 16 ⟨2, 100⟩) (List.replicate t.length ⟨2, 200⟩) brk K (i : Int) = brk
  | 0, i, K, h, hK => by
    obtain ⟨n, rfl⟩ : ∃ n, K = n + 1 := ⟨K - 1, by omega⟩
    unfold dowellaw03_ClassTexts.l13 dowellaw03_ClassTexts.b13
    rw [if_neg (by omega)]
  | m + 1, i, K, h, hK => by
    obtain ⟨n, rfl⟩ : ∃ n, K = n + 1 := ⟨K - 1, by omega⟩
    have nx := check2 t brk hl m (i + 1) n (by omega) (by omega)
    unfold dowellaw03_ClassTexts.l13 dowellaw03_ClassTexts.b13
    rw [if_pos (by omega)]
    by_cases hi : t.length ≤ i
    · rw [if_pos (by omega)]
      unfold dowellaw03_ClassTexts.j14
      rw [if_pos (by omega), if_pos (by omega), rd_repR _ _ _ _ _ hi (by omega), if_neg (by simp), if_neg (by omega)]
      unfold dowellaw03_ClassTexts.j15
      rw [if_neg (by simp), W_succ i (by omega)]
      exact nx
    · rw [if_neg (by omega)]
      unfold dowellaw03_ClassTexts.j14
      have hr := rd_repL t.length ⟨2, 200⟩ [] i (by omega)
      rw [List.append_nil] at hr
      rw [if_pos (by omega), if_pos (by omega), rd_repL _ _ _ _ (by omega), if_neg (by simp), if_pos (by omega), hr]
      unfold dowellaw03_ClassTexts.j15
      rw [if_neg (by simp), W_succ i (by omega)]
      exact nx
theorem classTexts_true (a b : Tapi_Class) (ha : COk a) (hb : COk b) : dowellaw03_ClassTexts.f 2000 a b = some true := by
  have ra : class_Ranges.f 2000 a = some (rangesF (bytesOf a)) := rfl
  have rb : class_Ranges.f 2000 b = some (rangesF (bytesOf b)) := rfl
  have la : (rangesF (bytesOf a)).length < 1000 := rangesF_upto_len a 256 (Nat.le_refl _)
  have lb : (rangesF (bytesOf b)).length < 1000 := rangesF_upto_len b 256 (Nat.le_refl _)
  obtain ⟨t, t1, t2⟩ := text_f ha 2000 (by omega)
  unfold dowellaw03_ClassTexts.f
  rw [ra, rb, ranges_f ha _ (by omega), ranges_f hb _ (by omega), Option.bind_some, Option.bind_some, Option.bind_some, Option.bind_some, Option.bind_some]
  generalize rangesF (bytesOf a) = p at *
  generalize rangesF (bytesOf b) = q at *
  rw [same_f p _ (by omega) (by omega), Option.bind_some, if_neg (by simp), same_f q _ (by omega) (by omega), Option.bind_some, if_neg (by simp), Option.bind_some, if_neg (by simp), t1, t2, Option.bind_some, Option.bind_some]
  unfold dowellaw03_ClassTexts.j0
  rw [if_neg (by simp)]
  have f0 := fill0 p
  have f1 := fill1 q
  have f2 := fill2 p
  rw [show (0 : Int) = ((0 : Nat) : Int) from rfl]
  have s0 := fun brk => fill0 p brk p 0 2000 (by omega) (by omega) (by omega)
  have s1 := fun brk => fill1 q brk q 0 2000 (by omega) (by omega) (by omega)
  have s2 := fun brk => fill2 p brk p 0 2000 (by omega) (by omega) (by omega)
  simp only [List.replicate_zero, List.nil_append] at s0 s1 s2
  rw [s0, s1, s2]
  have g0 := fun brk => grow0 brk 16 0 2000 (List.replicate p.length ⟨0, 200⟩) rfl (by omega) (by simp; omega)
  have g1 := fun brk => grow1 brk 16 0 2000 (List.replicate q.length ⟨1, 200⟩) rfl (by omega) (by simp; omega)
  have g2 := fun brk => grow2 brk 16 0 2000 (List.replicate p.length ⟨2, 200⟩) rfl (by omega) (by simp; omega)
  simp only [List.length_replicate] at g0 g1 g2
  rw [g0, g1, g2]
  rw [check0 p _ (by omega) (p.length + 16) 0 2000 (by omega) (by omega), check1 q _ (by omega) (q.length + 16) 0 2000 (by omega) (by omega), check2 p _ (by omega) (p.length + 16) 0 2000 (by omega) (by omega), ra, Option.bind_some, same_f p _ (by omega) (by omega)]
  rfl
theorem classTexts_walk (a b : Tapi_Class) (ha : COk a) (hb : COk b) (w : World) : Calls Try.prog 4 #[.agg (cellsC a), .agg (cellsC b)] w (dowellaw03_ClassTexts.R true w) := dowellaw03_ClassTexts.ok 2000 a b w true (classTexts_true a b ha hb)
end Go.Proofs.Ytampekcanmakkaa.G
