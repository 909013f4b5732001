/- ActionParts: plain law: the parts, and the statement's answer: true. -/
import Derived.Test.YtampekcanmakkaaLaw3d
set_option linter.unusedVariables false
namespace Go.Proofs.Ytampekcanmakkaa.G
open Go Go.RowKit Go.Proofs
def Pp (l : List Int) : Nat → Int → List Int → List Int
  | 0, _, out => out
  | m + 1, p, out => Pp l m (rd 0 l (p - 1)) (stored out m (p - 1))
theorem Pp_length (l : List Int) : ∀ (m : Nat) (p : Int) (out : List Int), (Pp l m p out).length = out.length
  | 0, _, _ => rfl
  | m + 1, p, out => by
    unfold Pp
    rw [Pp_length l m, stored_length]
theorem act_parts_loop (b : List S32) (i : Int) (l l' : List Int) (brk : List Int → Option (List Int)) (hg : Good l) (hs : l.length ≤ 1048576) (top : Int) (ht : top ≤ (l'.length : Int)) (htl : top ≤ (l.length : Int)) (hr : ∀ j : Int, 0 ≤ j → j < top → rd 0 l' j = rd 0 l j) (N : Int) (hN : (rd z32 b i).f1 = N) (hNs : N ≤ 1048576) :
    ∀ (m : Nat) (p : Int) (out : List Int) (K : Nat), 0 ≤ p → p ≤ top → (m : Int) ≤ N → 0 ≤ Rv l m p → m < K → action_parts_53.l1 b i l' brk K out p ((m : Int) - 1) = brk (Pp l m p out)
  | 0, p, out, K, h0, h1, h2, h3, hK => by
    obtain ⟨k, rfl⟩ : ∃ k, K = k + 1 := ⟨K - 1, by omega⟩
    unfold action_parts_53.l1 action_parts_53.b1
    rw [if_neg (by omega)]
    rfl
  | m + 1, p, out, K, h0, h1, h2, h3, hK => by
    obtain ⟨k, rfl⟩ : ∃ k, K = k + 1 := ⟨K - 1, by omega⟩
    rw [Rv] at h3
    split at h3
    · rename_i hc
      have hgp := hg (p - 1) (by omega) (by omega)
      unfold action_parts_53.l1 action_parts_53.b1
      rw [hN, show (((m + 1 : Nat) : Int) - 1) = (m : Int) by omega, if_pos (by omega), if_pos (by omega), if_pos (by omega), W_small (x := p - 1) (by omega) (by omega), if_pos (by omega), if_pos (by omega), hr (p - 1) (by omega) (by omega), W_small (x := (m : Int) - 1) (by omega) (by omega)]
      exact act_parts_loop b i l l' brk hg hs top ht htl hr N hN hNs m _ _ k hc.2 (by omega) (by omega) h3 (by omega)
    · omega
theorem ref_parts_loop (b : List S32) (i : Int) (l : List Int) (brk : List Int → Option (List Int)) (hg : Good l) (hs : l.length ≤ 1048576) (N : Int) (hN : (rd z32 b i).f1 = N) (hNs : N ≤ 1048576) :
    ∀ (m : Nat) (p : Int) (out : List Int) (K : Nat), 0 ≤ p → p ≤ (l.length : Int) → (m : Int) ≤ N → 0 ≤ Rv l m p → m < K → dowelref24_parts_55.l1 b i l brk K out p ((m : Int) - 1) = brk (Pp l m p out)
  | 0, p, out, K, h0, h1, h2, h3, hK => by
    obtain ⟨k, rfl⟩ : ∃ k, K = k + 1 := ⟨K - 1, by omega⟩
    unfold dowelref24_parts_55.l1 dowelref24_parts_55.b1
    rw [if_neg (by omega)]
    rfl
  | m + 1, p, out, K, h0, h1, h2, h3, hK => by
    obtain ⟨k, rfl⟩ : ∃ k, K = k + 1 := ⟨K - 1, by omega⟩
    rw [Rv] at h3
    split at h3
    · rename_i hc
      have hgp := hg (p - 1) (by omega) (by omega)
      unfold dowelref24_parts_55.l1 dowelref24_parts_55.b1
      rw [hN, show (((m + 1 : Nat) : Int) - 1) = (m : Int) by omega, if_pos (by omega), if_pos (by omega), if_pos (by omega), W_small (x := p - 1) (by omega) (by omega), if_pos (by omega), if_pos (by omega), W_small (x := (m : Int) - 1) (by omega) (by omega)]
      exact ref_parts_loop b i l brk hg hs N hN hNs m _ _ k hc.2 (by omega) (by omega) h3 (by omega)
    · omega
theorem good_nil : Good [] := fun j h0 h1 => by simp at h1; omega
theorem begs_good (b : List S32) : Good (begsS b) := bgs_good _ _ good_nil
theorem begs_length (b : List S32) : (begsS b).length = b.length := by unfold begsS; rw [bgs_length]; simp
/-- What is told of a node. -/
theorem begs_at (b : List S32) (i : Nat) (h : i < b.length) : begsS (b.take (i + 1)) = (begsS b).take (i + 1) ∧ rd 0 (begsS b) (i : Int) = (if (rd z32 b (i : Int)).f1 < 0 then -1 else Rv (begsS (b.take i)) (rd z32 b (i : Int)).f1.toNat (i : Int)) ∧ begsS (b.take i) = (begsS b).take i := by
  have pre : ∀ n, begsS (b.take n) = (begsS b).take n ∨ b.length < n := fun n => by
    by_cases hn : n ≤ b.length
    · left
      have h1 : begsS b = bgs (begsS (b.take n)) ((b.drop n).map (·.f1)) := by
        unfold begsS
        rw [← bgs_append, ← List.map_append, List.take_append_drop]
      obtain ⟨t, ht⟩ := bgs_pre ((b.drop n).map (·.f1)) (begsS (b.take n))
      have h2 : (begsS (b.take n)).length = n := by rw [begs_length, List.length_take]; omega
      rw [h1, ht]
      exact (List.take_left' h2).symm
    · exact .inr (by omega)
  have p0 := (pre i).resolve_right (by omega)
  have p1 := (pre (i + 1)).resolve_right (by omega)
  refine ⟨p1, ?_, p0⟩
  have h2 : (begsS (b.take i)).length = i := by rw [begs_length, List.length_take]; omega
  have h3 : begsS (b.take (i + 1)) = begsS (b.take i) ++ [if (rd z32 b (i : Int)).f1 < 0 then -1 else Rv (begsS (b.take i)) (rd z32 b (i : Int)).f1.toNat (i : Int)] := by
    have e1 : b.take (i + 1) = b.take i ++ [b[i]] := by rw [List.take_succ_eq_append_getElem h]
    have h4 := h2
    unfold begsS at h4 ⊢
    rw [e1, List.map_append, bgs_append, List.map_singleton, bgs_cons, h4, rd_nat b i h]
    rfl
  rw [← rd_take (begsS b) (i + 1) (i : Int) (by omega), ← p1, h3]
  exact rd_append_at _ _ _ _ (by omega)
theorem Rv_eq {l l' : List Int} (hg : Good l) (n : Int) (hn : n ≤ (l.length : Int)) (h : ∀ j : Int, 0 ≤ j → j < n → rd 0 l' j = rd 0 l j) : ∀ (m : Nat) (p : Int), 0 ≤ p → p ≤ n → Rv l' m p = Rv l m p
  | 0, p, h0, h1 => rfl
  | m + 1, p, h0, h1 => by
    rw [Rv, Rv]
    by_cases hp : 0 < p
    · rw [h (p - 1) (by omega) (by omega)]
      have := hg (p - 1) (by omega) (by omega)
      split
      · rename_i hc
        exact Rv_eq hg n hn h m _ hc.2 (by omega)
      · rfl
    · rw [if_neg (by omega), if_neg (by omega)]
def partsS (b : List S32) (i : Int) : List Int := if i < 0 then [] else if i ≥ (b.length : Int) then [] else if rd 0 (begsS b) i < 0 then [] else Pp (begsS b) (rd z32 b i).f1.toNat i (List.replicate (rd z32 b i).f1.toNat 0)
theorem node (b : List S32) (hb : b.length ≤ 1048576) (i : Int) (h0 : 0 ≤ i) (h1 : i < (b.length : Int)) (hr : ¬ rd 0 (begsS b) i < 0) : 0 ≤ (rd z32 b i).f1 ∧ (rd z32 b i).f1 ≤ i ∧ 0 ≤ Rv (begsS b) (rd z32 b i).f1.toNat i := by
  obtain ⟨j, rfl⟩ : ∃ j : Nat, i = (j : Int) := ⟨i.toNat, by omega⟩
  obtain ⟨q1, q2, q3⟩ := begs_at b j (by omega)
  rw [q2] at hr
  by_cases hneg : (rd z32 b (j : Int)).f1 < 0
  · rw [if_pos hneg] at hr; omega
  · rw [if_neg hneg] at hr
    have hl : ((begsS (b.take j)).length : Int) = (j : Int) := by rw [begs_length, List.length_take]; omega
    have h5 := Rv_range (begs_good (b.take j)) (rd z32 b (j : Int)).f1.toNat (j : Int) h0 (by omega)
    have h6 := Rv_eq (l := begsS b) (l' := begsS (b.take j)) (begs_good b) (j : Int) (by rw [begs_length]; omega) (fun k k0 k1 => by rw [q3, rd_take _ _ _ (by omega)]) (rd z32 b (j : Int)).f1.toNat (j : Int) h0 (Int.le_refl _)
    rw [h6] at hr h5
    omega
theorem ref_parts (K : Nat) (b : List S32) (i : Int) (hb : b.length ≤ 1048576) (hK : 1048577 < K) : dowelref24_Parts_14.f K b i = some (partsS b i) := by
  unfold dowelref24_Parts_14.f
  rw [ref_begins K b hb hK]
  simp only [Option.bind_some]
  have key : dowelref24_parts_55.f K b (begsS b) i = some (partsS b i) := by
    unfold dowelref24_parts_55.f partsS
    by_cases h0 : i < 0
    · rw [if_pos h0, if_pos h0]; rfl
    · rw [if_neg h0, if_neg h0]
      by_cases h1 : i ≥ (b.length : Int)
      · rw [if_pos h1, if_pos h1]; rfl
      · rw [if_neg h1, if_neg h1, if_pos (by omega), if_pos (by rw [begs_length]; omega)]
        by_cases h2 : rd 0 (begsS b) i < 0
        · rw [decide_eq_true h2, if_pos h2]; rfl
        · rw [decide_eq_false h2, if_neg h2]
          obtain ⟨n0, n1, n2⟩ := node b hb i (by omega) (by omega) h2
          unfold dowelref24_parts_55.j0
          rw [if_neg (by decide), if_pos (by omega), if_pos (by omega), if_pos (by omega), if_pos (by omega), if_pos (by omega), W_small (x := (rd z32 b i).f1 - 1) (by omega) (by omega)]
          have := ref_parts_loop b i (begsS b) (fun x => some x) (begs_good b) (by rw [begs_length]; exact hb) _ rfl (by omega) (rd z32 b i).f1.toNat i (List.replicate (rd z32 b i).f1.toNat 0) K (by omega) (by rw [begs_length]; omega) (by omega) n2 (by omega)
          rw [show (((rd z32 b i).f1.toNat : Int) - 1) = (rd z32 b i).f1 - 1 by omega] at this
          exact this
  rw [key]
  rfl
theorem act_parts (K : Nat) (b : List S32) (i : Int) (hb : b.length ≤ 1048576) (hK : 1048577 < K) : action_Parts_13.f K b i = some (partsS b i) := by
  unfold action_Parts_13.f partsS
  by_cases h0 : i < 0
  · rw [if_pos h0, if_pos h0]; rfl
  · rw [if_neg h0, if_neg h0]
    by_cases h1 : i ≥ (b.length : Int)
    · rw [decide_eq_true h1, if_pos h1]; rfl
    · rw [decide_eq_false h1, if_neg h1]
      unfold action_Parts_13.j0
      rw [if_neg (by decide), W_small (x := i + 1) (by omega) (by omega), if_pos (by omega), if_pos (by omega)]
      obtain ⟨j, rfl⟩ : ∃ j : Nat, i = (j : Int) := ⟨i.toNat, by omega⟩
      obtain ⟨q1, q2, q3⟩ := begs_at b j (by omega)
      have e1 : ((b.take ((j : Int) + 1).toNat).drop ((0 : Int)).toNat) = b.take (j + 1) := by
        rw [show ((j : Int) + 1).toNat = j + 1 by omega]
        rfl
      rw [e1, act_begins K (b.take (j + 1)) (by rw [List.length_take]; omega) hK, q1]
      simp only [Option.bind_some]
      have hlen : ((begsS b).take (j + 1)).length = j + 1 := by rw [List.length_take, begs_length]; omega
      have key : action_parts_53.f K b ((begsS b).take (j + 1)) (j : Int) = some (if rd 0 (begsS b) (j : Int) < 0 then [] else Pp (begsS b) (rd z32 b (j : Int)).f1.toNat (j : Int) (List.replicate (rd z32 b (j : Int)).f1.toNat 0)) := by
        unfold action_parts_53.f
        rw [if_pos (by omega), if_pos (by rw [hlen]; omega), rd_take _ _ _ (by omega)]
        by_cases h2 : rd 0 (begsS b) (j : Int) < 0
        · rw [if_pos h2, if_pos h2]; rfl
        · rw [if_neg h2, if_neg h2, if_pos (by omega)]
          obtain ⟨n0, n1, n2⟩ := node b hb j (by omega) (by omega) h2
          by_cases h3 : (rd z32 b (j : Int)).f1 = 0
          · rw [h3]
            rfl
          · have h4 : ((rd z32 b (j : Int)).f1 == 0) = false := by simpa using h3
            rw [h4]
            unfold action_parts_53.j0
            rw [if_neg (by decide), if_pos (by omega), if_pos (by omega), if_pos (by omega), if_pos (by omega), if_pos (by omega), W_small (x := ((rd z32 b (j : Int)).f1.toNat : Int) - 1) (by omega) (by omega)]
            exact act_parts_loop b j (begsS b) ((begsS b).take (j + 1)) (fun x => some x) (begs_good b) (by rw [begs_length]; exact hb) (j : Int) (by rw [hlen]; omega) (by rw [begs_length]; omega) (fun k k0 k1 => rd_take _ _ _ (by omega)) _ rfl (by omega) (rd z32 b (j : Int)).f1.toNat (j : Int) _ K (by omega) (Int.le_refl _) (by omega) n2 (by omega)
      rw [key]
      rfl
theorem parts_small (b : List S32) (i : Int) (hb : b.length ≤ 1048576) : (partsS b i).length ≤ 1048576 := by
  unfold partsS
  split
  · simp
  · split
    · simp
    · split
      · simp
      · rename_i h0 h1 h2
        obtain ⟨n0, n1, n2⟩ := node b hb i (by omega) (by omega) h2
        rw [Pp_length, List.length_replicate]
        omega
theorem action_true (b : List S32) (i k : Int) : dowellaw24_ActionParts_3.f 4194304 b i k = some true := by
  unfold dowellaw24_ActionParts_3.f
  by_cases hb : (b.length : Int) > 1048576
  · rw [if_pos hb]
  · rw [if_neg hb]
    have hb' : b.length ≤ 1048576 := by omega
    have s1 := parts_small b i hb'
    have s2 := parts_small b k hb'
    rw [lend_eq _ b hb']
    simp only [Option.bind_some]
    rw [List.take_left, act_parts _ b i hb' (by omega), act_parts _ b k hb' (by omega), ref_parts _ b i hb' (by omega), ref_parts _ b k hb' (by omega)]
    simp only [Option.bind_some]
    rw [ints_same _ _ (by omega) (by omega), ints_same _ _ (by omega) (by omega), kept_eq _ b hb' (by omega), free_true _ _ _ _ (by omega) (by omega) (by omega) (by omega)]
    simp only [Option.bind_some]
    have h1 : action_Parts_13.f 4194304 [(⟨4, 0, ⟨#[]⟩, ⟨#[]⟩, z30⟩ : S32), (⟨7, 1, ⟨#[105, 110, 116]⟩, ⟨#[]⟩, z30⟩ : S32)] 1 = some [0] := by
      rw [act_parts _ _ _ (by simp) (by omega)]
      rfl
    have h2 : dowelbook_Ints_15.f 4194304 [0] [0] = some true := ints_same _ _ (by simp) (by simp)
    rw [if_neg (by simp), if_neg (by simp), if_neg (by simp), if_neg (by simp)]
    unfold dowellaw24_ActionParts_3.j0
    rw [if_neg (by decide), h1]
    simp only [Option.bind_some]
    rw [h2]
    rfl
end Go.Proofs.Ytampekcanmakkaa.G
