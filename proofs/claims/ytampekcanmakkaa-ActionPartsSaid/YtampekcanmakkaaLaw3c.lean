/- ActionParts: plain law: both ways tell the same parts. -/
import Derived.Test.YtampekcanmakkaaLaw3b
set_option linter.unusedVariables false
namespace Go.Proofs.Ytampekcanmakkaa.G
open Go Go.RowKit Go.Proofs
def Rv (l : List Int) : Nat → Int → Int
  | 0, p => p
  | m + 1, p => if 0 < p ∧ 0 ≤ rd 0 l (p - 1) then Rv l m (rd 0 l (p - 1)) else -1
def bgs : List Int → List Int → List Int
  | l, [] => l
  | l, n :: ns => bgs (l ++ [if n < 0 then -1 else Rv l n.toNat l.length]) ns
theorem bgs_cons (l : List Int) (n : Int) (ns : List Int) : bgs l (n :: ns) = bgs (l ++ [if n < 0 then -1 else Rv l n.toNat l.length]) ns := rfl
/-- Where extents begin: never behind their ends. -/
def Good (l : List Int) : Prop := ∀ j : Int, 0 ≤ j → j < (l.length : Int) → rd 0 l j = -1 ∨ (0 ≤ rd 0 l j ∧ rd 0 l j ≤ j)
theorem Rv_range {l : List Int} (hg : Good l) : ∀ (m : Nat) (p : Int), 0 ≤ p → p ≤ (l.length : Int) → Rv l m p = -1 ∨ (0 ≤ Rv l m p ∧ Rv l m p ≤ p - m)
  | 0, p, h0, h1 => .inr ⟨h0, by simp [Rv]⟩
  | m + 1, p, h0, h1 => by
    unfold Rv
    split
    · rename_i h
      have h2 := hg (p - 1) (by omega) (by omega)
      have h3 := Rv_range hg m (rd 0 l (p - 1)) h.2 (by omega)
      omega
    · exact .inl rfl
theorem good_snoc {l : List Int} (hg : Good l) (v : Int) (hv : v = -1 ∨ (0 ≤ v ∧ v ≤ (l.length : Int))) : Good (l ++ [v]) := fun j h0 h1 => by
  rw [List.length_append, List.length_singleton] at h1
  by_cases h : j < (l.length : Int)
  · rw [rd_append_left _ _ _ (by omega)]
    exact hg j h0 h
  · have : j = (l.length : Int) := by omega
    rw [rd_append_at _ _ _ _ (by omega), this]
    exact hv
theorem bv_range {l : List Int} (hg : Good l) (n : Int) : (if n < 0 then -1 else Rv l n.toNat l.length) = -1 ∨ (0 ≤ (if n < 0 then -1 else Rv l n.toNat l.length) ∧ (if n < 0 then -1 else Rv l n.toNat l.length) ≤ (l.length : Int)) := by
  split
  · exact .inl rfl
  · have := Rv_range hg n.toNat l.length (by omega) (Int.le_refl _)
    omega
theorem bgs_good : ∀ (ns l : List Int), Good l → Good (bgs l ns)
  | [], l, h => h
  | n :: ns, l, h => bgs_good ns _ (good_snoc h _ (bv_range h n))
theorem bgs_length : ∀ (ns l : List Int), (bgs l ns).length = l.length + ns.length
  | [], l => rfl
  | n :: ns, l => by
    unfold bgs
    rw [bgs_length ns]
    simp
    omega
theorem bgs_pre : ∀ (ns l : List Int), ∃ t, bgs l ns = l ++ t
  | [], l => ⟨[], by simp [bgs]⟩
  | n :: ns, l => by
    obtain ⟨t, h⟩ := bgs_pre ns (l ++ [if n < 0 then -1 else Rv l n.toNat l.length])
    unfold bgs
    rw [h, List.append_assoc]
    exact ⟨_, rfl⟩
theorem bgs_append : ∀ (ns ms l : List Int), bgs l (ns ++ ms) = bgs (bgs l ns) ms
  | [], ms, l => rfl
  | n :: ns, ms, l => by
    rw [List.cons_append, bgs_cons, bgs_cons, bgs_append ns ms]
/-! ### the document's way -/
theorem ref_inner (b : List S32) (l zs : List Int) (z : Int) (brk : Int → Int → Option (List Int)) (hg : Good l) (N : Int) (hN : (rd z32 b (l.length : Int)).f1 = N) (hlen : l.length + (zs.length + 1) = b.length) (hb : b.length ≤ 1048576) :
    ∀ (K : Nat) (p k : Int), 0 ≤ p → p ≤ (l.length : Int) → 0 ≤ k → k ≤ N → p.toNat < K → k + p ≤ 4194304 → ∃ p' k', dowelref24_Begins_56.l1 (l.length : Int) b (l ++ z :: zs) brk K p k = brk p' k' ∧ ((k' = N ∧ p' = Rv l (N - k).toNat p) ∨ (k' ≠ N ∧ Rv l (N - k).toNat p = -1))
  | 0, p, k, h0, h1, h2, h3, hK, hs => by omega
  | K + 1, p, k, h0, h1, h2, h3, hK, hs => by
    unfold dowelref24_Begins_56.l1 dowelref24_Begins_56.b1
    rw [hN, if_pos (by omega), if_pos (by omega)]
    by_cases hk : k < N
    · rw [if_pos hk]
      have hm : (N - k).toNat = (N - (k + 1)).toNat + 1 := by omega
      by_cases hp : p > 0
      · rw [if_pos hp, W_small (x := p - 1) (by omega) (by omega), if_pos (by omega), if_pos (by omega), stored_append _ _ _ _ _ (by simp)]
        rw [rd_append_left l _ (p - 1) (by omega)]
        have hgp := hg (p - 1) (by omega) (by omega)
        by_cases hr : rd 0 l (p - 1) ≥ 0
        · rw [decide_eq_true hr]
          unfold dowelref24_Begins_56.j2
          rw [if_pos rfl, W_small (x := p - 1) (by omega) (by omega), if_pos (by omega), if_pos (by omega), stored_append _ _ _ _ _ (by simp), rd_append_left l _ (p - 1) (by omega), W_small (x := k + 1) (by omega) (by omega)]
          obtain ⟨p', k', he, hc⟩ := ref_inner b l zs z brk hg N hN hlen hb K (rd 0 l (p - 1)) (k + 1) hr (by omega) (by omega) (by omega) (by omega) (by omega)
          refine ⟨p', k', he, ?_⟩
          rw [hm]
          unfold Rv
          rw [if_pos ⟨hp, hr⟩]
          exact hc
        · rw [decide_eq_false hr]
          unfold dowelref24_Begins_56.j2
          rw [if_neg (by decide)]
          refine ⟨p, k, rfl, .inr ⟨by omega, ?_⟩⟩
          rw [hm]
          unfold Rv
          rw [if_neg (by omega)]
      · rw [if_neg hp]
        unfold dowelref24_Begins_56.j2
        rw [if_neg (by decide)]
        refine ⟨p, k, rfl, .inr ⟨by omega, ?_⟩⟩
        rw [hm]
        unfold Rv
        rw [if_neg (by omega)]
    · rw [if_neg hk]
      unfold dowelref24_Begins_56.j2
      rw [if_neg (by decide)]
      have : (N - k).toNat = 0 := by omega
      refine ⟨p, k, rfl, .inl ⟨by omega, ?_⟩⟩
      rw [this]
      rfl
theorem drop_cons (b : List S32) (i : Nat) (h : i < b.length) : (b.drop i).map (·.f1) = (rd z32 b (i : Int)).f1 :: (b.drop (i + 1)).map (·.f1) := by
  rw [List.drop_eq_getElem_cons h, List.map_cons, rd_nat b i h]
theorem ref_outer (b : List S32) (K : Nat) (brk : List Int → Option (List Int)) (hb : b.length ≤ 1048576) (hK : 1048576 < K) : ∀ (zs l : List Int) (n : Nat), Good l → l.length + zs.length = b.length → zs.length < n →
    dowelref24_Begins_56.l0 b K brk n (l ++ zs) (l.length : Int) = brk (bgs l ((b.drop l.length).map (·.f1)))
  | [], l, n, hg, h, hn => by
    obtain ⟨n, rfl⟩ : ∃ k, n = k + 1 := ⟨n - 1, by omega⟩
    simp only [List.length_nil] at h
    unfold dowelref24_Begins_56.l0 dowelref24_Begins_56.b0
    rw [if_neg (by omega), List.drop_of_length_le (by omega), List.append_nil]
    rfl
  | z :: zs, l, n, hg, h, hn => by
    obtain ⟨n, rfl⟩ : ∃ k, n = k + 1 := ⟨n - 1, by omega⟩
    simp only [List.length_cons] at h hn
    rw [drop_cons b l.length (by omega)]
    have nxt : ∀ v : Int, v = (if (rd z32 b (l.length : Int)).f1 < 0 then -1 else Rv l (rd z32 b (l.length : Int)).f1.toNat l.length) → dowelref24_Begins_56.l0 b K brk n (l ++ v :: zs) (W ((l.length : Int) + 1)) = brk (bgs l ((rd z32 b (l.length : Int)).f1 :: (b.drop (l.length + 1)).map (·.f1))) := fun v hv => by
      rw [W_small (by omega) (by omega)]
      have h1 := ref_outer b K brk hb hK zs (l ++ [v]) n (good_snoc hg v (by rw [hv]; exact bv_range hg _)) (by simp; omega) (by omega)
      have h2 : l ++ v :: zs = l ++ [v] ++ zs := by simp
      have h3 : ((l ++ [v]).length : Int) = (l.length : Int) + 1 := by simp
      rw [h2, ← h3, h1, bgs_cons, ← hv, List.length_append, List.length_singleton]
    unfold dowelref24_Begins_56.l0 dowelref24_Begins_56.b0
    rw [if_pos (by omega), if_pos (by omega), if_pos (by omega)]
    by_cases hneg : (rd z32 b (l.length : Int)).f1 < 0
    · rw [if_pos hneg, stored_append _ _ _ _ _ (by simp)]
      unfold dowelref24_Begins_56.j3
      exact nxt (-1) (by rw [if_pos hneg])
    · rw [if_neg hneg]
      obtain ⟨p', k', he, hc⟩ := ref_inner b l zs z (fun x611 x612 => if 0 ≤ (l.length : Int) then (if (l.length : Int) < (b.length : Int) then (if x612 = (((rd z32 b (l.length : Int))).f1) then (if (l.length : Int) < (((b.length : Int)).toNat : Int) then (dowelref24_Begins_56.j3 (dowelref24_Begins_56.l0 b K brk n) (l.length : Int) (stored (stored (l ++ z :: zs) (l.length : Int) (-1)) (l.length : Int) x611)) else none) else (dowelref24_Begins_56.j3 (dowelref24_Begins_56.l0 b K brk n) (l.length : Int) (stored (l ++ z :: zs) (l.length : Int) (-1)))) else none) else none)
        hg _ rfl (by omega) hb K (l.length : Int) 0 (by omega) (Int.le_refl _) (Int.le_refl _) (by omega) (by omega) (by omega)
      rw [he]
      rw [if_pos (by omega), if_pos (by omega)]
      rw [Int.sub_zero] at hc
      rcases hc with ⟨hk, hp⟩ | ⟨hk, hp⟩
      · rw [if_pos hk, if_pos (by omega), stored_append _ _ _ _ _ (by simp), stored_append _ _ _ _ _ (by simp)]
        unfold dowelref24_Begins_56.j3
        exact nxt p' (by rw [if_neg hneg]; exact hp)
      · rw [if_neg hk, stored_append _ _ _ _ _ (by simp)]
        unfold dowelref24_Begins_56.j3
        exact nxt (-1) (by rw [if_neg hneg]; exact hp.symm)
def begsS (b : List S32) : List Int := bgs [] (b.map (·.f1))
theorem ref_begins (K : Nat) (b : List S32) (hb : b.length ≤ 1048576) (hK : 1048577 < K) : dowelref24_Begins_56.f K b = some (begsS b) := by
  unfold dowelref24_Begins_56.f
  rw [if_pos (by omega), if_pos (by omega), if_pos (by omega)]
  have := ref_outer b K (fun x => some x) hb (by omega) (List.replicate ((b.length : Int)).toNat 0) [] K (fun j h0 h1 => by simp at h1; omega) (by simp) (by simp; omega)
  simpa [begsS] using this
end Go.Proofs.Ytampekcanmakkaa.G
