/- ActionParts: plain law: the code's way, and the statement's answer. -/
import Derived.Test.YtampekcanmakkaaLaw3c
set_option linter.unusedVariables false
namespace Go.Proofs.Ytampekcanmakkaa.G
open Go Go.RowKit Go.Proofs
/-! ### the code's way -/
def Av (l : List Int) (m : Nat) (p : Int) : Int := if m = 0 then p else if p ≤ 0 then p else Rv l m p
theorem act_inner (b : List S32) (l zs : List Int) (z : Int) (brk : Int → Option (List Int)) (hg : Good l) (N : Int) (hN : (rd z32 b (l.length : Int)).f1 = N) (hlen : l.length + (zs.length + 1) = b.length) (hb : b.length ≤ 1048576) (hNs : N ≤ 4194304) :
    ∀ (K : Nat) (p k : Int), -1 ≤ p → p ≤ (l.length : Int) → 0 ≤ k → (k ≤ N ∨ N ≤ 0) → (p + 1).toNat < K → k + p ≤ 4194304 → action_begins_54.l3 b (l.length : Int) (l ++ z :: zs) brk K p k = brk (Av l (N - k).toNat p)
  | 0, p, k, h0, h1, h2, h3, hK, hs => by omega
  | K + 1, p, k, h0, h1, h2, h3, hK, hs => by
    unfold action_begins_54.l3 action_begins_54.b3
    rw [hN]
    by_cases hk : k < N
    · rw [if_pos hk]
      have hm : (N - k).toNat = (N - (k + 1)).toNat + 1 := by omega
      by_cases hp : p > 0
      · rw [decide_eq_true hp]
        unfold action_begins_54.j4
        rw [hN, if_pos rfl, W_small (x := p - 1) (by omega) (by omega), if_pos (by omega), if_pos (by omega), rd_append_left l _ (p - 1) (by omega)]
        have hgp := hg (p - 1) (by omega) (by omega)
        have hA : Av l (N - k).toNat p = Rv l ((N - (k + 1)).toNat + 1) p := by
          unfold Av
          rw [if_neg (by omega), if_neg (by omega), hm]
        rw [hA]
        have ih := fun p' q1 q2 q3 q4 => act_inner b l zs z brk hg N hN hlen hb hNs K p' (k + 1) q1 q2 (by omega) (by omega) q3 q4
        by_cases hr : rd 0 l (p - 1) = 0
        · rw [if_pos hr]
          rw [W_small (x := N - 1) (by omega) (by omega)]
          have hR : Rv l ((N - (k + 1)).toNat + 1) p = Rv l (N - (k + 1)).toNat 0 := by
            rw [Rv, if_pos (by omega), hr]
          rw [hR]
          unfold action_begins_54.j5 action_begins_54.j6
          by_cases hw : k < N - 1
          · obtain ⟨q, hq⟩ : ∃ q, (N - (k + 1)).toNat = q + 1 := ⟨(N - (k + 1)).toNat - 1, by omega⟩
            rw [decide_eq_true hw, if_pos rfl, W_small (x := k + 1) (by omega) (by omega), ih (-1) (by omega) (by omega) (by omega) (by omega), hq, Rv, if_neg (by omega)]
            rfl
          · have hq : (N - (k + 1)).toNat = 0 := by omega
            rw [decide_eq_false hw, if_neg (by decide), W_small (x := p - 1) (by omega) (by omega), rd_append_left l _ (p - 1) (by omega), hr, W_small (x := k + 1) (by omega) (by omega), ih 0 (by omega) (by omega) (by omega) (by omega), hq]
            rfl
        · rw [if_neg hr]
          unfold action_begins_54.j5 action_begins_54.j6
          rw [if_neg (by decide), W_small (x := p - 1) (by omega) (by omega), rd_append_left l _ (p - 1) (by omega), W_small (x := k + 1) (by omega) (by omega), ih _ (by omega) (by omega) (by omega) (by omega)]
          congr 1
          cases hq : (N - (k + 1)).toNat with
          | zero =>
            rw [Rv]
            show rd 0 l (p - 1) = _
            split
            · rfl
            · omega
          | succ q =>
            rw [Rv]
            by_cases h5 : 0 ≤ rd 0 l (p - 1)
            · have e1 : Av l (q + 1) (rd 0 l (p - 1)) = Rv l (q + 1) (rd 0 l (p - 1)) := by
                unfold Av
                rw [if_neg (by omega), if_neg (by omega)]
              rw [e1, if_pos (show 0 < p ∧ 0 ≤ rd 0 l (p - 1) from And.intro hp h5)]
            · have e1 : Av l (q + 1) (rd 0 l (p - 1)) = rd 0 l (p - 1) := by
                unfold Av
                rw [if_neg (by omega), if_pos (by omega)]
              rw [e1, if_neg (by omega)]
              omega
      · rw [decide_eq_false hp]
        unfold action_begins_54.j4
        rw [if_neg (by decide)]
        unfold Av
        rw [if_neg (show ¬ (N - k).toNat = 0 by omega), if_pos (show p ≤ 0 by omega)]
    · rw [if_neg hk]
      unfold action_begins_54.j4
      rw [if_neg (by decide)]
      unfold Av
      rw [if_pos (by omega)]
theorem act_neg (b : List S32) (i : Int) (x : List Int) (brk : Int → Option (List Int)) (K : Nat) (hK : 0 < K) : action_begins_54.l3 b i x brk K (-1) 0 = brk (-1) := by
  obtain ⟨k, rfl⟩ : ∃ k, K = k + 1 := ⟨K - 1, by omega⟩
  unfold action_begins_54.l3 action_begins_54.b3
  split
  · unfold action_begins_54.j4
    rw [if_neg (by decide)]
  · unfold action_begins_54.j4
    rw [if_neg (by decide)]
theorem act_outer (b : List S32) (K : Nat) (brk : List Int → Option (List Int)) (hb : b.length ≤ 1048576) (hK : 1048577 < K) : ∀ (zs l : List Int) (n : Nat), Good l → l.length + zs.length = b.length → zs.length < n →
    action_begins_54.l0 b K brk n (l ++ zs) (l.length : Int) = brk (bgs l ((b.drop l.length).map (·.f1)))
  | [], l, n, hg, h, hn => by
    obtain ⟨n, rfl⟩ : ∃ k, n = k + 1 := ⟨n - 1, by omega⟩
    simp only [List.length_nil] at h
    unfold action_begins_54.l0 action_begins_54.b0
    rw [if_neg (by omega), List.drop_of_length_le (by omega), List.append_nil]
    rfl
  | z :: zs, l, n, hg, h, hn => by
    obtain ⟨n, rfl⟩ : ∃ k, n = k + 1 := ⟨n - 1, by omega⟩
    simp only [List.length_cons] at h hn
    rw [drop_cons b l.length (by omega)]
    have nxt : ∀ v : Int, v = (if (rd z32 b (l.length : Int)).f1 < 0 then -1 else Rv l (rd z32 b (l.length : Int)).f1.toNat l.length) → action_begins_54.l0 b K brk n (l ++ v :: zs) (W ((l.length : Int) + 1)) = brk (bgs l ((rd z32 b (l.length : Int)).f1 :: (b.drop (l.length + 1)).map (·.f1))) := fun v hv => by
      rw [W_small (by omega) (by omega)]
      have h1 := act_outer b K brk hb hK zs (l ++ [v]) n (good_snoc hg v (by rw [hv]; exact bv_range hg _)) (by simp; omega) (by omega)
      have h2 : l ++ v :: zs = l ++ [v] ++ zs := by simp
      have h3 : ((l ++ [v]).length : Int) = (l.length : Int) + 1 := by simp
      rw [h2, ← h3, h1, bgs_cons, ← hv, List.length_append, List.length_singleton]
    unfold action_begins_54.l0 action_begins_54.b0
    rw [if_pos (by omega), if_pos (by omega)]
    by_cases hneg : (rd z32 b (l.length : Int)).f1 < 0
    · rw [if_pos hneg]
      unfold action_begins_54.j1
      rw [if_pos rfl]
      unfold action_begins_54.j2
      rw [act_neg _ _ _ _ _ (by omega), if_pos (by omega), if_pos (by omega), stored_append _ _ _ _ _ (by simp)]
      exact nxt (-1) (by rw [if_pos hneg])
    · rw [if_neg hneg]
      by_cases hbig : (rd z32 b (l.length : Int)).f1 > (l.length : Int)
      · rw [decide_eq_true hbig]
        unfold action_begins_54.j1
        rw [if_pos rfl]
        unfold action_begins_54.j2
        rw [act_neg _ _ _ _ _ (by omega), if_pos (by omega), if_pos (by omega), stored_append _ _ _ _ _ (by simp)]
        refine nxt (-1) ?_
        rw [if_neg hneg]
        have := Rv_range hg (rd z32 b (l.length : Int)).f1.toNat (l.length : Int) (by omega) (Int.le_refl _)
        omega
      · rw [decide_eq_false hbig]
        unfold action_begins_54.j1
        rw [if_neg (by decide)]
        unfold action_begins_54.j2
        rw [act_inner b l zs z _ hg _ rfl (by omega) hb (by omega) K (l.length : Int) 0 (by omega) (Int.le_refl _) (Int.le_refl _) (by omega) (by omega) (by omega)]
        rw [if_pos (by omega), if_pos (by omega), stored_append _ _ _ _ _ (by simp), Int.sub_zero]
        refine nxt _ ?_
        rw [if_neg hneg]
        unfold Av
        split
        · rename_i h6
          rw [h6]
          rfl
        · rw [if_neg (by omega)]
theorem act_begins (K : Nat) (b : List S32) (hb : b.length ≤ 1048576) (hK : 1048577 < K) : action_begins_54.f K b = some (begsS b) := by
  unfold action_begins_54.f
  rw [if_pos (by omega), if_pos (by omega), if_pos (by omega)]
  have := act_outer b K (fun x => some x) hb hK (List.replicate ((b.length : Int)).toNat 0) [] K (fun j h0 h1 => by simp at h1; omega) (by simp) (by simp; omega)
  simpa [begsS] using this
end Go.Proofs.Ytampekcanmakkaa.G
