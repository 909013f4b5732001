/- Classes: what the ranges say; a class of ranges. -/
import Derived.Test.YtampekcanmakkaaLawStep
import Derived.Test.YtampekcanmakkaaLawSet
set_option linter.unusedVariables false
namespace Go.Proofs.Ytampekcanmakkaa.G
open Go Go.RowKit Go.Proofs
def inR (x : Tapi_Range) (j : Nat) : Bool := decide (x.f0 ≤ (j : Int) ∧ (j : Int) ≤ x.f1)
def wid (x : Tapi_Range) : Int := x.f1 - x.f0 + 1
structure RgOk (a : Tapi_Class) (i : Nat) (l : List Tapi_Range) : Prop where
  ok : ∀ x ∈ l, 0 ≤ x.f0 ∧ x.f0 ≤ x.f1 ∧ x.f1 < (i : Int)
  sep : l.Pairwise fun x y => x.f1 + 1 < y.f0
  cov : ∀ j, j < i → bitC a j = l.any fun x => inR x j
  sum : (l.map wid).sum = ((upto a i).length : Int)
theorem any_last (k : List Tapi_Range) (x : Tapi_Range) (j : Nat) : (k ++ [x]).any (fun x => inR x j) = (k.any (fun x => inR x j) || inR x j) := by simp
theorem any_none (l : List Tapi_Range) (j : Nat) (h : ∀ x ∈ l, x.f1 < (j : Int)) : l.any (fun x => inR x j) = false := by
  rw [List.any_eq_false]
  intro x hx
  have := h x hx
  unfold inR
  simp only [decide_eq_true_eq]
  omega
theorem sum_last (k : List Tapi_Range) (x : Tapi_Range) : ((k ++ [x]).map wid).sum = (k.map wid).sum + wid x := by simp
theorem rg_ok {a : Tapi_Class} (ha : COk a) : ∀ i, i ≤ 256 → RgOk a i (rangesF (upto a i))
  | 0, _ => ⟨fun x hx => by simp [upto, rangesF] at hx, by simp [upto, rangesF], fun j hj => by omega, by simp [upto, rangesF]⟩
  | i + 1, hi => by
    obtain ⟨h1, h2, h3, h4⟩ := rg_ok ha i (by omega)
    have hlen := rangesF_upto_len a i (by omega)
    have hs := upto_succ a i
    rw [has_bit ha i (by omega)] at hs
    generalize hl : rangesF (upto a i) = l at *
    by_cases hb : bitC a i = true
    · rw [if_pos hb] at hs
      have hr : rangesF (upto a (i + 1)) = rgStep l (i : Int) := by rw [hs, rangesF_snoc, hl]
      rw [hr]
      have hsl : ((upto a (i + 1)).length : Int) = ((upto a i).length : Int) + 1 := by rw [hs]; simp
      by_cases hc : ∃ k x, l = k ++ [x] ∧ x.f1 + 1 = (i : Int)
      · obtain ⟨k, x, rfl, he⟩ := hc
        obtain ⟨g0, g1, g2⟩ := h1 x (by simp)
        have hi0 : 0 < i := by omega
        obtain ⟨b, rfl⟩ : ∃ b, i = b + 1 := ⟨i - 1, by omega⟩
        have ex : x = ⟨x.f0, (b : Int)⟩ := by
          have : x.f1 = (b : Int) := by omega
          rw [← this]
        have hst : rgStep (k ++ [x]) ((b + 1 : Nat) : Int) = k ++ [⟨x.f0, ((b + 1 : Nat) : Int)⟩] := by
          rw [ex]
          exact step_ext k x.f0 b (by omega) (by simp at hlen; omega)
        rw [hst]
        refine ⟨?_, ?_, ?_, ?_⟩
        · intro y hy
          rcases List.mem_append.1 hy with hy | hy
          · have := h1 y (by simp [hy]); omega
          · rw [List.mem_singleton] at hy; subst hy
            exact ⟨g0, by show x.f0 ≤ ((b + 1 : Nat) : Int); omega, by show ((b + 1 : Nat) : Int) < ((b + 1 + 1 : Nat) : Int); omega⟩
        · rw [List.pairwise_append] at h2 ⊢
          refine ⟨h2.1, by simp, fun y hy z hz => ?_⟩
          rw [List.mem_singleton] at hz; subst hz
          exact h2.2.2 y hy x (by simp)
        · intro j hj
          rw [any_last]
          by_cases e : j = b + 1
          · subst e
            rw [hb]
            have : inR ⟨x.f0, ((b + 1 : Nat) : Int)⟩ (b + 1) = true := by unfold inR; simp only [decide_eq_true_eq]; omega
            rw [this, Bool.or_true]
          · rw [h3 j (by omega), any_last]
            congr 1
            unfold inR
            apply decide_eq_decide.2
            show x.f0 ≤ (j : Int) ∧ (j : Int) ≤ x.f1 ↔ x.f0 ≤ (j : Int) ∧ (j : Int) ≤ ((b + 1 : Nat) : Int)
            omega
        · rw [sum_last, hsl, ← h4, sum_last]
          unfold wid
          simp only
          omega
      · have hst : rgStep l (i : Int) = l ++ [⟨(i : Int), (i : Int)⟩] := step_app l i (by omega) hlen fun k x e => by
          obtain ⟨g0, g1, g2⟩ := h1 x (by rw [e]; simp)
          refine ⟨by omega, ?_⟩
          by_cases e2 : x.f1 + 1 = (i : Int)
          · exact absurd ⟨k, x, e, e2⟩ hc
          · omega
        rw [hst]
        refine ⟨?_, ?_, ?_, ?_⟩
        · intro y hy
          rcases List.mem_append.1 hy with hy | hy
          · have := h1 y hy; omega
          · rw [List.mem_singleton] at hy; subst hy
            exact ⟨by show (0 : Int) ≤ (i : Int); omega, Int.le_refl _, by show (i : Int) < _; omega⟩
        · rw [List.pairwise_append]
          refine ⟨h2, by simp, fun y hy z hz => ?_⟩
          rw [List.mem_singleton] at hz; subst hz
          obtain ⟨g0, g1, g2⟩ := h1 y hy
          show y.f1 + 1 < (i : Int)
          rcases List.eq_nil_or_concat l with rfl | ⟨k, x, rfl⟩
          · cases hy
          · rw [List.concat_eq_append] at *
            obtain ⟨q0, q1, q2⟩ := h1 x (by simp)
            have hx : x.f1 + 1 ≠ (i : Int) := fun e => hc ⟨k, x, rfl, e⟩
            rcases List.mem_append.1 hy with hy | hy
            · have := (List.pairwise_append.1 h2).2.2 y hy x (by simp)
              omega
            · rw [List.mem_singleton] at hy; subst hy; omega
        · intro j hj
          rw [any_last]
          by_cases e : j = i
          · subst e
            rw [hb]
            have : inR ⟨(j : Int), (j : Int)⟩ j = true := by unfold inR; simp
            rw [this, Bool.or_true]
          · rw [h3 j (by omega)]
            have : inR ⟨(i : Int), (i : Int)⟩ j = false := by
              unfold inR
              simp only [decide_eq_false_iff_not]
              omega
            rw [this, Bool.or_false]
        · rw [sum_last, hsl, ← h4]
          unfold wid
          simp only
          omega
    · rw [if_neg hb, List.append_nil] at hs
      rw [hs, hl]
      refine ⟨fun x hx => by have := h1 x hx; omega, h2, fun j hj => ?_, by rw [h4, hs]⟩
      by_cases e : j = i
      · subst e
        rw [any_none l j (fun x hx => (h1 x hx).2.2)]
        simpa using hb
      · exact h3 j (by omega)
theorem rg_all {a : Tapi_Class} (ha : COk a) : RgOk a 256 (rangesF (bytesOf a)) := rg_ok ha 256 (Nat.le_refl _)
/-! ### Of -/
theorem put_f (K : Nat) (c : Tapi_Class) (b : Nat) (hb : b < 256) : class_put.f K c (b : Int) = some (setBit c b) := by
  obtain ⟨e1, e2, e3, e4, e5, e6⟩ := shr6 (b : Int) (by omega) (by omega)
  have e7 : (b : Int) / 64 = ((b / 64 : Nat) : Int) := by omega
  have e8 : (b : Int) % 64 = ((b % 64 : Nat) : Int) := by omega
  unfold class_put.f
  rw [if_pos e1, if_pos e2, if_pos e3, e5, e6, e7, e8, shl64 _ (Nat.mod_lt _ (by decide)), rd_cw, Int.toNat_natCast]
  rfl
theorem of_in (l : List Tapi_Range) (i : Int) (hi : Nat) (hx : (rd zapi_Range l i).f1 = (hi : Int)) (h256 : hi < 256) (K : Nat) : ∀ (d b n : Nat) (c : Tapi_Class) (brk : Int → Int → Int → Int → Option Tapi_Class), b + d = hi + 1 → d < n → COk c →
    ∃ c', COk c' ∧ (∀ j, j < 256 → bitC c' j = (bitC c j || decide (b ≤ j ∧ j ≤ hi))) ∧ class_Of.l1 l i K brk n (b : Int) c.f0 c.f1 c.f2 c.f3 = brk c'.f0 c'.f1 c'.f2 c'.f3
  | 0, b, n, c, brk, h, hn, hc => by
    obtain ⟨n, rfl⟩ : ∃ m, n = m + 1 := ⟨n - 1, by omega⟩
    refine ⟨c, hc, fun j hj => ?_, ?_⟩
    · rw [decide_eq_false (by omega), Bool.or_false]
    · unfold class_Of.l1 class_Of.b1
      rw [hx, W_id (x := (hi : Int)) (by omega) (by omega), if_neg (by omega)]
  | d + 1, b, n, c, brk, h, hn, hc => by
    obtain ⟨n, rfl⟩ : ∃ m, n = m + 1 := ⟨n - 1, by omega⟩
    obtain ⟨c', g1, g2, g3⟩ := of_in l i hi hx h256 K d (b + 1) n (setBit c b) brk (by omega) (by omega) (setBit_ok hc b (by omega))
    refine ⟨c', g1, fun j hj => ?_, ?_⟩
    · rw [g2 j hj, setBit_bit hc b j (by omega) hj]
      by_cases e : j = b
      · subst e
        have : decide (j ≤ j ∧ j ≤ hi) = true := decide_eq_true (by omega)
        rw [this]; simp
      · have : decide (b + 1 ≤ j ∧ j ≤ hi) = decide (b ≤ j ∧ j ≤ hi) := decide_eq_decide.2 (by omega)
        have e' : (j == b) = false := by simpa using e
        rw [this, e', Bool.or_false]
    · rw [← g3]
      conv => lhs; unfold class_Of.l1
      unfold class_Of.b1
      have e8 : W8 (b : Int) = (b : Int) := by rw [W8_eq]; omega
      rw [hx, W_id (x := (hi : Int)) (by omega) (by omega), if_pos (by omega), e8, show (⟨c.f0, c.f1, c.f2, c.f3⟩ : Tapi_Class) = c from rfl, put_f K c b (by omega), Option.bind_some, W_succ b (by omega)]
def ROk2 (l : List Tapi_Range) : Prop := ∀ x ∈ l, 0 ≤ x.f0 ∧ x.f0 ≤ x.f1 ∧ x.f1 < 256
theorem rd_get {l : List Tapi_Range} {i : Nat} (h : i < l.length) : rd zapi_Range l (i : Int) = l[i] := by
  unfold rd
  rw [Int.toNat_natCast, List.getD_eq_getElem?_getD, List.getElem?_eq_getElem h]
  rfl
theorem of_loop (l : List Tapi_Range) (hl : ROk2 l) (hlen : l.length ≤ 2000) (K : Nat) (hK : 257 ≤ K) : ∀ (d i n : Nat) (c : Tapi_Class) (brk : Int → Int → Int → Int → Option Tapi_Class), i + d = l.length → d < n → COk c →
    ∃ c', COk c' ∧ (∀ j, j < 256 → bitC c' j = (bitC c j || (l.drop i).any fun x => inR x j)) ∧ class_Of.l0 l K brk n (i : Int) c.f0 c.f1 c.f2 c.f3 = brk c'.f0 c'.f1 c'.f2 c'.f3
  | 0, i, n, c, brk, h, hn, hc => by
    obtain ⟨n, rfl⟩ : ∃ m, n = m + 1 := ⟨n - 1, by omega⟩
    refine ⟨c, hc, fun j hj => ?_, ?_⟩
    · rw [List.drop_eq_nil_of_le (by omega)]; simp
    · unfold class_Of.l0 class_Of.b0
      rw [if_neg (by omega)]
  | d + 1, i, n, c, brk, h, hn, hc => by
    obtain ⟨n, rfl⟩ : ∃ m, n = m + 1 := ⟨n - 1, by omega⟩
    have hi : i < l.length := by omega
    obtain ⟨q0, q1, q2⟩ := hl l[i] (List.getElem_mem hi)
    have hg := rd_get hi
    obtain ⟨lo, hlo⟩ : ∃ lo : Nat, (l[i]).f0 = (lo : Int) := ⟨(l[i]).f0.toNat, (Int.toNat_of_nonneg q0).symm⟩
    obtain ⟨hh, hhi⟩ : ∃ hh : Nat, (l[i]).f1 = (hh : Int) := ⟨(l[i]).f1.toNat, (Int.toNat_of_nonneg (by omega)).symm⟩
    obtain ⟨c1, f1, f2, f3⟩ := of_in l (i : Int) hh (by rw [hg, hhi]) (by omega) K (hh + 1 - lo) lo K c (fun y0 y1 y2 y3 => class_Of.l0 l K brk n (W ((i : Int) + 1)) y0 y1 y2 y3) (by omega) (by omega) hc
    obtain ⟨c', g1, g2, g3⟩ := of_loop l hl hlen K hK d (i + 1) n c1 brk (by omega) (by omega) f1
    refine ⟨c', g1, fun j hj => ?_, ?_⟩
    · rw [g2 j hj, f2 j hj, List.drop_eq_getElem_cons hi, List.any_cons, Bool.or_assoc]
      congr 2
      unfold inR
      apply decide_eq_decide.2
      rw [hlo, hhi]
      omega
    · rw [← g3]
      conv => lhs; unfold class_Of.l0
      unfold class_Of.b0
      rw [if_pos (by omega), if_pos (by omega), hg, hlo, W_id (x := (lo : Int)) (by omega) (by omega)]
      refine f3.trans ?_
      rw [W_succ i (by omega)]
theorem of_f (l : List Tapi_Range) (hl : ROk2 l) (hlen : l.length ≤ 2000) (K : Nat) (hK : 2001 ≤ K) : ∃ c, class_Of.f K l = some c ∧ COk c ∧ ∀ j, j < 256 → bitC c j = l.any fun x => inR x j := by
  obtain ⟨c, h1, h2, h3⟩ := of_loop l hl hlen K (by omega) l.length 0 K zeroC (fun y0 y1 y2 y3 => some (⟨y0, y1, y2, y3⟩ : Tapi_Class)) (by omega) (by omega) zeroC_ok
  refine ⟨c, h3, h1, fun j hj => ?_⟩
  rw [h2 j hj, zeroC_bit, List.drop_zero, Bool.false_or]
theorem of_is {a : Tapi_Class} (ha : COk a) (l : List Tapi_Range) (hl : ROk2 l) (hlen : l.length ≤ 2000) (hc : ∀ j, j < 256 → bitC a j = l.any fun x => inR x j) (K : Nat) (hK : 2001 ≤ K) : class_Of.f K l = some a := by
  obtain ⟨c, h1, h2, h3⟩ := of_f l hl hlen K hK
  rw [h1, class_ext h2 ha fun k hk => by rw [h3 k hk, hc k hk]]
end Go.Proofs.Ytampekcanmakkaa.G
