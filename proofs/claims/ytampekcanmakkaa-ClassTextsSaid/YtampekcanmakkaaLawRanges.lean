/- Classes: the ranges; the complement of an opened class. -/
import Derived.Test.YtampekcanmakkaaLawClass
set_option linter.unusedVariables false
namespace Go.Proofs.Ytampekcanmakkaa.G
open Go Go.RowKit Go.Proofs
/-! ### Ranges -/
def runEnd (a : Tapi_Class) : Nat → Nat → Nat
  | 0, i => i
  | d + 1, i => if i < 255 ∧ bitC a (i + 1) = true then runEnd a d (i + 1) else i
def rEnd (a : Tapi_Class) (i : Nat) : Nat := runEnd a (255 - i) i
theorem rEnd_eq (a : Tapi_Class) (i : Nat) : rEnd a i = if i < 255 ∧ bitC a (i + 1) = true then rEnd a (i + 1) else i := by
  unfold rEnd
  by_cases h : i < 255
  · rw [show 255 - i = (255 - (i + 1)) + 1 by omega]
    rfl
  · rw [show 255 - i = 0 by omega, if_neg (fun h' => h h'.1)]
    rfl
theorem rEnd_le (a : Tapi_Class) : ∀ (d i : Nat), i + d = 255 → i ≤ rEnd a i ∧ rEnd a i ≤ 255
  | 0, i, h => by
    rw [rEnd_eq, if_neg (fun h' => by omega)]
    omega
  | d + 1, i, h => by
    rw [rEnd_eq]
    split
    · have := rEnd_le a d (i + 1) (by omega)
      omega
    · omega
theorem run_loop (a : Tapi_Class) (brk : Int → Option (List Tapi_Range)) : ∀ (d i K : Nat), i + d = 255 → d < K → dowelref03_Ranges.l2 (openL a) brk K (i : Int) = brk ((rEnd a i : Nat) : Int)
  | 0, i, K, h, hK => by
    obtain ⟨n, rfl⟩ : ∃ n, K = n + 1 := ⟨K - 1, by omega⟩
    unfold dowelref03_Ranges.l2 dowelref03_Ranges.b2
    rw [if_neg (by omega), rEnd_eq, if_neg (fun h' => by omega)]
    rfl
  | d + 1, i, K, h, hK => by
    obtain ⟨n, rfl⟩ : ∃ n, K = n + 1 := ⟨K - 1, by omega⟩
    unfold dowelref03_Ranges.l2 dowelref03_Ranges.b2
    rw [if_pos (by omega), W_succ i (by omega), if_pos (by omega), if_pos (by omega), if_pos (openL_len a), openL_rd a (i + 1) (by omega), rEnd_eq]
    unfold dowelref03_Ranges.j3
    by_cases hb : bitC a (i + 1) = true
    · rw [if_pos hb, if_pos ⟨by omega, hb⟩, W_succ i (by omega)]
      exact run_loop a brk d (i + 1) n (by omega) (by omega)
    · rw [if_neg hb, if_neg (fun h' => hb h'.2)]
/-- Where the two ways stand at a byte. -/
def RInv (a : Tapi_Class) (i : Nat) (F : List Tapi_Range) : Prop :=
  ((i = 0 ∨ bitC a (i - 1) = false) ∧ F = rangesF (upto a i) ∧ (∀ l x, rangesF (upto a i) = l ++ [x] → 0 ≤ x.f1 ∧ x.f1 + 1 < (i : Int))) ∨
  (0 < i ∧ bitC a (i - 1) = true ∧ ∃ l s, rangesF (upto a i) = l ++ [⟨s, ((i - 1 : Nat) : Int)⟩] ∧ F = l ++ [⟨s, ((rEnd a (i - 1) : Nat) : Int)⟩])
theorem rd_last (l : List Tapi_Range) (x : Tapi_Range) : rd zapi_Range (l ++ [x]) (W ((((l ++ [x]).length : Nat) : Int) - 1)) = x ∨ 1000000000 ≤ l.length := by
  by_cases h : l.length < 1000000000
  · left
    rw [W_id (by simp <;> omega) (by simp <;> omega)]
    unfold rd
    have : ((((l ++ [x]).length : Nat) : Int) - 1).toNat = l.length := by simp
    rw [this]
    simp
  · right; omega
theorem step_app (l : List Tapi_Range) (b : Nat) (hb : b < 256) (hl : l.length < 1000) (h : ∀ k x, l = k ++ [x] → 0 ≤ x.f1 ∧ x.f1 + 1 < (b : Int)) : rgStep l (b : Int) = l ++ [⟨(b : Int), (b : Int)⟩] := by
  unfold rgStep
  rw [if_neg]
  rintro ⟨h1, h2⟩
  rcases List.eq_nil_or_concat l with rfl | ⟨k, x, rfl⟩
  · simp at h1
  · rw [List.concat_eq_append] at h h1 h2 hl
    obtain ⟨g0, g1⟩ := h k x rfl
    have e := (rd_last k x).resolve_right (by simp at hl; omega)
    rw [e, W_id (x := x.f1) (by omega) (by omega), W_id (x := x.f1 + 1) (by omega) (by omega), W_id (x := (b : Int)) (by omega) (by omega)] at h2
    have := eq_of_beq h2
    omega
theorem step_ext (k : List Tapi_Range) (s : Int) (b : Nat) (hb : b < 255) (hl : k.length < 1000) : rgStep (k ++ [⟨s, (b : Int)⟩]) ((b + 1 : Nat) : Int) = k ++ [⟨s, ((b + 1 : Nat) : Int)⟩] := by
  have e := (rd_last k ⟨s, (b : Int)⟩).resolve_right (by omega)
  unfold rgStep
  rw [if_pos ⟨by simp <;> omega, by rw [e, W_id (x := (b : Int)) (by omega) (by omega), W_id (x := (b : Int) + 1) (by omega) (by omega), W_id (x := ((b + 1 : Nat) : Int)) (by omega) (by omega)]; simp⟩, e]
  rw [W_id (by simp <;> omega) (by simp <;> omega)]
  unfold stored
  have : ((((k ++ [(⟨s, (b : Int)⟩ : Tapi_Range)]).length : Nat) : Int) - 1).toNat = k.length := by simp
  rw [this]
  simp
theorem rangesF_upto_len (a : Tapi_Class) (i : Nat) (hi : i ≤ 256) : (rangesF (upto a i)).length < 1000 := by
  have h1 := rangesF_len (upto a i)
  have h2 := upto_len a i
  omega
theorem ranges_loop {a : Tapi_Class} (ha : COk a) (brk : List Tapi_Range → Option (List Tapi_Range)) : ∀ (d i K K2 : Nat) (F : List Tapi_Range), i + d = 256 → d < K → 256 ≤ K2 → F.length ≤ i → RInv a i F → dowelref03_Ranges.l0 (openL a) K2 brk K F (i : Int) = brk (rangesF (bytesOf a))
  | 0, i, K, K2, F, h, hK, hK2, hF, hI => by
    obtain ⟨n, rfl⟩ : ∃ n, K = n + 1 := ⟨K - 1, by omega⟩
    unfold dowelref03_Ranges.l0 dowelref03_Ranges.b0
    rw [if_neg (by omega)]
    have hi : i = 256 := by omega
    subst hi
    rcases hI with ⟨_, e, _⟩ | ⟨_, _, l, s, e1, e2⟩
    · rw [e]; rfl
    · have : rEnd a (256 - 1) = 255 := by rw [rEnd_eq, if_neg (fun h' => by omega)]
      rw [e2, this]
      show brk _ = brk (rangesF (upto a 256))
      rw [e1]
  | d + 1, i, K, K2, F, h, hK, hK2, hF, hI => by
    obtain ⟨n, rfl⟩ : ∃ n, K = n + 1 := ⟨K - 1, by omega⟩
    have hb := has_bit ha i (by omega)
    have hlen := rangesF_upto_len a i (by omega)
    have hus := upto_succ a i
    rw [hb] at hus
    unfold dowelref03_Ranges.l0 dowelref03_Ranges.b0
    rw [if_pos (by omega), if_pos (by omega), if_pos (openL_len a), openL_rd a i (by omega)]
    by_cases hc : bitC a i = true
    · rw [if_pos hc] at hus ⊢
      have hr : rangesF (upto a (i + 1)) = rgStep (rangesF (upto a i)) (i : Int) := by rw [hus, rangesF_snoc]
      rcases hI with ⟨hp, e, hsm⟩ | ⟨h0, hp, l, s, e1, e2⟩
      · -- a new range
        have go : dowelref03_Ranges.j1 (openL a) F (dowelref03_Ranges.l0 (openL a) K2 brk n) (i : Int) K2 true = brk (rangesF (bytesOf a)) := by
          unfold dowelref03_Ranges.j1
          rw [if_pos rfl, run_loop a _ (255 - i) i K2 (by omega) (by omega), if_pos (by omega)]
          unfold dowelref03_Ranges.j4
          have hre := rEnd_le a (255 - i) i (by omega)
          rw [W_succ i (by omega), W8_nat i (by omega), W8_nat _ (by omega)]
          refine ranges_loop ha brk d (i + 1) n K2 _ (by omega) (by omega) hK2 (by simp <;> omega) (.inr ⟨by omega, hc, rangesF (upto a i), (i : Int), ?_, ?_⟩)
          · rw [hr, step_app _ i (by omega) hlen hsm]; rfl
          · rw [e]; rfl
        by_cases hi0 : (i : Int) = 0
        · rw [if_pos hi0]; exact go
        · have hi1 : 0 < i := by omega
          rw [if_neg hi0, W_id (x := (i : Int) - 1) (by omega) (by omega), if_pos (by omega), if_pos (by omega), show (i : Int) - 1 = ((i - 1 : Nat) : Int) by omega, openL_rd a (i - 1) (by omega)]
          have hp' : bitC a (i - 1) = false := hp.resolve_left (by omega)
          rw [hp']
          exact go
      · rw [if_neg (by omega), W_id (x := (i : Int) - 1) (by omega) (by omega), if_pos (by omega), if_pos (by omega), show (i : Int) - 1 = ((i - 1 : Nat) : Int) by omega, openL_rd a (i - 1) (by omega), hp]
        unfold dowelref03_Ranges.j1
        rw [if_neg (by decide)]
        unfold dowelref03_Ranges.j4
        rw [W_succ i (by omega)]
        refine ranges_loop ha brk d (i + 1) n K2 _ (by omega) (by omega) hK2 (by omega) (.inr ⟨by omega, hc, l, s, ?_, ?_⟩)
        · have := step_ext l s (i - 1) (by omega) (by rw [e1] at hlen; simp at hlen; omega)
          rw [show i - 1 + 1 = i by omega] at this
          rw [hr, e1, this]
          rfl
        · have : rEnd a (i - 1) = rEnd a i := by
            rw [rEnd_eq a (i - 1), show i - 1 + 1 = i by omega, if_pos ⟨by omega, hc⟩]
          rw [e2, this]
          rfl
    · have hc' : bitC a i = false := by simpa using hc
      rw [if_neg hc] at hus ⊢
      rw [List.append_nil] at hus
      unfold dowelref03_Ranges.j1
      rw [if_neg (by decide)]
      unfold dowelref03_Ranges.j4
      rw [W_succ i (by omega)]
      refine ranges_loop ha brk d (i + 1) n K2 _ (by omega) (by omega) hK2 (by omega) (.inl ⟨.inr (by simpa using hc'), ?_, ?_⟩)
      · rcases hI with ⟨hp, e, hsm⟩ | ⟨h0, hp, l, s, e1, e2⟩
        · rw [e, hus]
        · have : rEnd a (i - 1) = i - 1 := by rw [rEnd_eq, show i - 1 + 1 = i by omega, if_neg (fun h' => hc h'.2)]
          rw [e2, this, hus, e1]
      · rw [hus]
        rcases hI with ⟨hp, e, hsm⟩ | ⟨h0, hp, l, s, e1, e2⟩
        · intro l x hx
          have := hsm l x hx
          omega
        · intro l' x hx
          rw [e1] at hx
          obtain ⟨_, h2⟩ := List.append_inj' hx rfl
          injection h2 with h2
          rw [← h2]
          simp only
          omega
theorem ranges_f {a : Tapi_Class} (ha : COk a) (K : Nat) (hK : 257 ≤ K) : dowelref03_Ranges.f K a = some (rangesF (bytesOf a)) := by
  unfold dowelref03_Ranges.f
  rw [open_f ha K hK, Option.bind_some, if_pos List.length_replicate, if_pos (openL_len a)]
  exact ranges_loop ha (fun x => some x) 256 0 K K [] rfl (by omega) (by omega) (Nat.le_refl _) (.inl ⟨.inl rfl, rfl, fun l x h => by
    have : rangesF (upto a 0) = [] := rfl
    rw [this] at h
    simp at h⟩)
end Go.Proofs.Ytampekcanmakkaa.G
