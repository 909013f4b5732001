/- Classes: closed again; the complement; the text. -/
import Derived.Test.YtampekcanmakkaaLawRanges
set_option linter.unusedVariables false
namespace Go.Proofs.Ytampekcanmakkaa.G
open Go Go.RowKit Go.Proofs
/-! ### Close -/
def setBit (c : Tapi_Class) (b : Nat) : Tapi_Class := ⟨rd 0 (stored [c.f0, c.f1, c.f2, c.f3] ((b / 64 : Nat) : Int) (bits .or .u64 (cw c (b / 64)) ((2 ^ (b % 64) : Nat) : Int))) 0,
  rd 0 (stored [c.f0, c.f1, c.f2, c.f3] ((b / 64 : Nat) : Int) (bits .or .u64 (cw c (b / 64)) ((2 ^ (b % 64) : Nat) : Int))) 1,
  rd 0 (stored [c.f0, c.f1, c.f2, c.f3] ((b / 64 : Nat) : Int) (bits .or .u64 (cw c (b / 64)) ((2 ^ (b % 64) : Nat) : Int))) 2,
  rd 0 (stored [c.f0, c.f1, c.f2, c.f3] ((b / 64 : Nat) : Int) (bits .or .u64 (cw c (b / 64)) ((2 ^ (b % 64) : Nat) : Int))) 3⟩
theorem setBit_cw (c : Tapi_Class) (b i : Nat) (hb : b < 256) (hi : i < 4) : cw (setBit c b) i = if i = b / 64 then bits .or .u64 (cw c (b / 64)) ((2 ^ (b % 64) : Nat) : Int) else cw c i := by
  have h1 : b / 64 = 0 ∨ b / 64 = 1 ∨ b / 64 = 2 ∨ b / 64 = 3 := by omega
  have h2 : i = 0 ∨ i = 1 ∨ i = 2 ∨ i = 3 := by omega
  unfold setBit
  rcases h1 with h | h | h | h <;> rw [h] <;> rcases h2 with rfl | rfl | rfl | rfl <;> rfl
theorem setBit_word {c : Tapi_Class} (hc : COk c) (b : Nat) : bits .or .u64 (cw c (b / 64)) ((2 ^ (b % 64) : Nat) : Int) = (((cw c (b / 64)).toNat ||| 2 ^ (b % 64) : Nat) : Int) ∧ (cw c (b / 64)).toNat ||| 2 ^ (b % 64) < 18446744073709551616 := by
  obtain ⟨g1, g2⟩ := cw_ok hc (b / 64)
  have hp : 2 ^ (b % 64) < 2 ^ 64 := Nat.pow_lt_pow_right (by decide) (Nat.mod_lt _ (by decide))
  have e : cw c (b / 64) = ((cw c (b / 64)).toNat : Int) := (Int.toNat_of_nonneg g1).symm
  refine ⟨?_, Nat.or_lt_two_pow (n := 64) (by omega) hp⟩
  conv => lhs; rw [e]
  exact or64 _ _ (by omega) hp
theorem setBit_ok {c : Tapi_Class} (hc : COk c) (b : Nat) (hb : b < 256) : COk (setBit c b) := by
  have key : ∀ i, i < 4 → 0 ≤ cw (setBit c b) i ∧ cw (setBit c b) i < 18446744073709551616 := by
    intro i hi
    rw [setBit_cw c b i hb hi]
    split
    · obtain ⟨h1, h2⟩ := setBit_word hc b
      rw [h1]; omega
    · exact cw_ok hc i
  exact ⟨key 0 (by decide), key 1 (by decide), key 2 (by decide), key 3 (by decide)⟩
theorem setBit_bit {c : Tapi_Class} (hc : COk c) (b j : Nat) (hb : b < 256) (hj : j < 256) : bitC (setBit c b) j = (bitC c j || j == b) := by
  unfold bitC
  rw [setBit_cw c b (j / 64) hb (by omega)]
  by_cases h : j / 64 = b / 64
  · rw [if_pos h, (setBit_word hc b).1, Int.toNat_natCast, Nat.testBit_or, Nat.testBit_two_pow, h]
    congr 1
    by_cases e : j = b
    · subst e; simp
    · have : ¬ (b % 64 = j % 64) := by omega
      simp [e, this]
  · rw [if_neg h]
    have : ¬ j = b := fun e => h (by rw [e])
    simp [this]
def zeroC : Tapi_Class := ⟨0, 0, 0, 0⟩
theorem zeroC_ok : COk zeroC := by refine ⟨?_, ?_, ?_, ?_⟩ <;> (unfold zeroC; decide)
theorem zeroC_bit (j : Nat) : bitC zeroC j = false := by
  unfold bitC
  have : cw zeroC (j / 64) = 0 := by
    unfold cw zeroC
    match j / 64 with
    | 0 => rfl
    | 1 => rfl
    | 2 => rfl
    | 3 => rfl
    | n + 4 => simp
  rw [this]
  simp
theorem close_loop (l : List Bool) (hl : l.length = 256) : ∀ (d k K : Nat) (c : Tapi_Class) (brk : Int → Int → Int → Int → Option Tapi_Class), k + d = 256 → d < K → COk c → (∀ j, j < 256 → bitC c j = (decide (j < k) && rd false l (j : Int))) →
    ∃ c', COk c' ∧ (∀ j, j < 256 → bitC c' j = rd false l (j : Int)) ∧ dowelref03_Close.l0 l brk K (k : Int) c.f0 c.f1 c.f2 c.f3 = brk c'.f0 c'.f1 c'.f2 c'.f3
  | 0, k, K, c, brk, h, hK, hc, hb => by
    obtain ⟨n, rfl⟩ : ∃ n, K = n + 1 := ⟨K - 1, by omega⟩
    refine ⟨c, hc, fun j hj => by rw [hb j hj, decide_eq_true (by omega)]; rfl, ?_⟩
    unfold dowelref03_Close.l0 dowelref03_Close.b0
    rw [if_neg (by omega)]
  | d + 1, k, K, c, brk, h, hK, hc, hb => by
    obtain ⟨n, rfl⟩ : ∃ n, K = n + 1 := ⟨K - 1, by omega⟩
    by_cases hk : rd false l (k : Int) = true
    · obtain ⟨c', h1, h2, h3⟩ := close_loop l hl d (k + 1) n (setBit c k) brk (by omega) (by omega) (setBit_ok hc k (by omega)) (fun j hj => by
        rw [setBit_bit hc k j (by omega) hj, hb j hj]
        by_cases e : j = k
        · subst e; simp [hk]
        · have : decide (j < k + 1) = decide (j < k) := by simp; omega
          rw [this]
          simp [e])
      refine ⟨c', h1, h2, ?_⟩
      rw [← h3]
      obtain ⟨e1, e2⟩ := tdm k
      have e3 : W ((k / 64 : Nat) : Int) = ((k / 64 : Nat) : Int) := W_id (by omega) (by omega)
      conv => lhs; unfold dowelref03_Close.l0
      unfold dowelref03_Close.b0
      rw [if_pos (by omega), if_pos (by omega), if_pos hl, if_pos hk, e1, e2, e3, if_pos (by omega), if_pos (by omega), if_pos (by omega), shl64 _ (Nat.mod_lt _ (by decide)), rd_cw, Int.toNat_natCast]
      unfold dowelref03_Close.j1
      rw [W_succ k (by omega)]
      rfl
    · obtain ⟨c', h1, h2, h3⟩ := close_loop l hl d (k + 1) n c brk (by omega) (by omega) hc (fun j hj => by
        rw [hb j hj]
        by_cases e : j = k
        · subst e
          have : rd false l (j : Int) = false := by simpa using hk
          simp [this]
        · have : decide (j < k + 1) = decide (j < k) := by simp; omega
          rw [this])
      refine ⟨c', h1, h2, ?_⟩
      rw [← h3]
      conv => lhs; unfold dowelref03_Close.l0
      unfold dowelref03_Close.b0
      rw [if_pos (by omega), if_pos (by omega), if_pos hl, if_neg hk]
      unfold dowelref03_Close.j1
      rw [W_succ k (by omega)]
theorem close_f (l : List Bool) (hl : l.length = 256) (K : Nat) (hK : 257 ≤ K) : ∃ c, COk c ∧ (∀ j, j < 256 → bitC c j = rd false l (j : Int)) ∧ dowelref03_Close.f K l = some c := by
  unfold dowelref03_Close.f
  obtain ⟨c, h1, h2, h3⟩ := close_loop l hl 256 0 K zeroC (fun y0 y1 y2 y3 => some (⟨y0, y1, y2, y3⟩ : Tapi_Class)) rfl (by omega) zeroC_ok (fun j hj => by rw [zeroC_bit]; simp)
  exact ⟨c, h1, h2, h3⟩
/-! ### the reference's Not -/
def notL (a : Tapi_Class) (k : Nat) : List Bool := (List.range k).map (fun j => !bitC a j) ++ ((List.range (256 - k)).map fun j => bitC a (k + j))
theorem notL_len (a : Tapi_Class) (k : Nat) (h : k ≤ 256) : (notL a k).length = 256 := by unfold notL; simp; omega
theorem notL_succ (a : Tapi_Class) (k : Nat) (h : k < 256) : rd false (notL a k) (k : Int) = bitC a k ∧ stored (notL a k) (k : Int) (!bitC a k) = notL a (k + 1) := by
  have e : notL a k = (List.range k).map (fun j => !bitC a j) ++ bitC a k :: ((List.range (256 - (k + 1))).map fun j => bitC a (k + 1 + j)) := by
    unfold notL
    congr 1
    rw [show 256 - k = (256 - (k + 1)) + 1 by omega, List.range_succ_eq_map, List.map_cons, List.map_map]
    congr 1
    refine List.map_congr_left fun j _ => ?_
    simp only [Function.comp]
    congr 1
    omega
  constructor
  · rw [e]
    unfold rd
    rw [Int.toNat_natCast]
    simp [List.getD_eq_getElem?_getD]
  · rw [e, stored_mid _ _ _ _ _ (by simp)]
    unfold notL
    rw [List.range_succ, List.map_append, List.append_assoc]
    rfl
theorem not_loop (a : Tapi_Class) (brk : List Bool → Option Tapi_Class) : ∀ (d k K : Nat), k + d = 256 → d < K → dowelref03_Not.l0 brk K (k : Int) (notL a k) = brk (notL a 256)
  | 0, k, K, h, hK => by
    obtain ⟨n, rfl⟩ : ∃ n, K = n + 1 := ⟨K - 1, by omega⟩
    unfold dowelref03_Not.l0 dowelref03_Not.b0
    rw [if_neg (by omega), show k = 256 by omega]
  | d + 1, k, K, h, hK => by
    obtain ⟨n, rfl⟩ : ∃ n, K = n + 1 := ⟨K - 1, by omega⟩
    obtain ⟨e1, e2⟩ := notL_succ a k (by omega)
    unfold dowelref03_Not.l0 dowelref03_Not.b0
    rw [if_pos (by omega), if_pos (by omega), if_pos (notL_len a k (by omega)), e1, e2, W_succ k (by omega)]
    exact not_loop a brk d (k + 1) n (by omega) (by omega)
theorem rnot_f {a : Tapi_Class} (ha : COk a) (K : Nat) (hK : 257 ≤ K) : dowelref03_Not.f K a = some (notC a) := by
  unfold dowelref03_Not.f
  have e : openL a = notL a 0 := by unfold openL notL; simp
  rw [open_f ha K hK, Option.bind_some, if_pos List.length_replicate, if_pos (openL_len a), e]
  refine (not_loop a _ 256 0 K rfl (by omega)).trans ?_
  rw [if_pos (notL_len a 256 (Nat.le_refl _))]
  obtain ⟨c, h1, h2, h3⟩ := close_f (notL a 256) (notL_len a 256 (Nat.le_refl _)) K hK
  rw [h3, Option.bind_some]
  congr 1
  refine class_ext h1 (notC_ok ha) fun k hk => ?_
  rw [h2 k hk, not_bit ha k hk]
  unfold rd notL
  rw [Int.toNat_natCast, List.getD_eq_getElem?_getD, List.getElem?_append_left (by simpa using hk), List.getElem?_map, List.getElem?_range hk]
  rfl
/-! ### a byte's own text -/
theorem spell_same (K : Nat) : ∀ b : Int, 0 ≤ b → b < 256 → class_spelling.f K b = dowelref03_spelled.f K b ∧ (∃ t, class_spelling.f K b = some t ∧ t.size ≤ 4) := by
  have h : ∀ n : Nat, n < 256 → class_spelling.f 0 (n : Int) = dowelref03_spelled.f 0 (n : Int) ∧ (match class_spelling.f 0 (n : Int) with | some t => decide (t.size ≤ 4) | none => false) = true := by decide +kernel
  intro b h0 h1
  obtain ⟨g1, g2⟩ := h b.toNat (by omega)
  rw [Int.toNat_of_nonneg h0] at g1 g2
  refine ⟨g1, ?_⟩
  have e : class_spelling.f K b = class_spelling.f 0 b := rfl
  rw [e]
  split at g2
  · rename_i t ht
    exact ⟨t, ht, by simpa using g2⟩
  · cases g2
/-! ### Text -/
theorem strI_append (xs ys : List Int) : strI (xs ++ ys) = strI xs ++ strI ys := by
  apply ByteArray.ext
  simp [strI]
theorem strI_bytesI (t : ByteArray) : strI (bytesI t) = t := by
  apply ByteArray.ext
  apply Array.ext'
  simp only [strI, bytesI, List.map_map]
  have : ((fun n : Int => UInt8.ofNat n.toNat) ∘ fun b : UInt8 => (b.toNat : Int)) = id := by funext b; simp
  rw [this, List.map_id]
theorem strI_size (xs : List Int) : (strI xs).size = xs.length := by simp [strI, ByteArray.size]
/-- Ranges of bytes. -/
def ROk (l : List Tapi_Range) : Prop := ∀ x ∈ l, 0 ≤ x.f0 ∧ x.f0 < 256 ∧ 0 ≤ x.f1 ∧ x.f1 < 256
theorem rd_mem {l : List Tapi_Range} {i : Nat} (h : i < l.length) : rd zapi_Range l (i : Int) ∈ l := by
  unfold rd
  rw [Int.toNat_natCast, List.getD_eq_getElem?_getD, List.getElem?_eq_getElem h]
  exact List.getElem_mem h
theorem text_loop (l : List Tapi_Range) (hl : ROk l) (hlen : l.length ≤ 1000) (K : Nat) (brk : List Int → Nat → Option ByteArray) (brk' : ByteArray → Option ByteArray) :
    ∀ (d i n : Nat) (out : List Int), i + d = l.length → d < n → out.length ≤ 2 + 9 * i → (∀ o : List Int, o.length ≤ 2 + 9 * l.length → brk o o.length = brk' (strI o)) →
      class_Text.l1 l K brk n out out.length (i : Int) = dowelref03_Text.l1 l K brk' n (strI out) (i : Int)
  | 0, i, n, out, h, hn, ho, hb => by
    obtain ⟨n, rfl⟩ : ∃ m, n = m + 1 := ⟨n - 1, by omega⟩
    unfold class_Text.l1 class_Text.b1 dowelref03_Text.l1 dowelref03_Text.b1
    rw [if_neg (by omega), if_neg (by omega)]
    exact hb out (by omega)
  | d + 1, i, n, out, h, hn, ho, hb => by
    obtain ⟨n, rfl⟩ : ∃ m, n = m + 1 := ⟨n - 1, by omega⟩
    have hi : i < l.length := by omega
    obtain ⟨g0, g1, g2, g3⟩ := hl _ (rd_mem hi)
    generalize hx : rd zapi_Range l (i : Int) = x at *
    obtain ⟨e1, t1, s1, z1⟩ := spell_same K x.f0 g0 g1
    obtain ⟨e2, t2, s2, z2⟩ := spell_same K x.f1 g2 g3
    have r1 : dowelref03_spelled.f K x.f0 = some t1 := by rw [← e1, s1]
    have r2 : dowelref03_spelled.f K x.f1 = some t2 := by rw [← e2, s2]
    have b1 := bytesI_len t1
    have b2 := bytesI_len t2
    have nx : ∀ o : List Int, o.length ≤ 2 + 9 * (i + 1) → class_Text.j3 (class_Text.l1 l K brk n) (i : Int) o = dowelref03_Text.j3 (dowelref03_Text.l1 l K brk' n) (i : Int) (strI o) := by
      intro o hlo
      unfold class_Text.j3 dowelref03_Text.j3
      rw [W_succ i (by omega)]
      exact text_loop l hl hlen K brk brk' d (i + 1) n o (by omega) (by omega) hlo hb
    have j2 : ∀ o : List Int, o.length ≤ 7 + 9 * i → class_Text.j2 l (i : Int) K (class_Text.l1 l K brk n) o = dowelref03_Text.j2 (i : Int) l K (dowelref03_Text.l1 l K brk' n) (strI o) := by
      intro o hlo
      have hso := strI_size o
      unfold class_Text.j2 dowelref03_Text.j2
      rw [hx, if_pos (show (0 : Int) ≤ (i : Int) by omega), if_pos (show (i : Int) < (l.length : Int) by omega)]
      by_cases hgt : x.f1 > x.f0
      · rw [if_pos hgt, if_pos hgt, s2, r2, Option.bind_some, Option.bind_some, if_pos (show (o.length + t2.size) * 2 ≤ 140737488355328 by omega), if_pos (show (strI o).size + t2.size ≤ 9223372036854775807 by omega), nx _ (by rw [List.length_append]; omega), strI_append, strI_bytesI]
      · rw [if_neg hgt, if_neg hgt, nx _ (by omega)]
    have hso := strI_size out
    unfold class_Text.l1 class_Text.b1 dowelref03_Text.l1 dowelref03_Text.b1
    rw [hx, if_pos (show (i : Int) < (l.length : Int) by omega), if_pos (show (i : Int) < (l.length : Int) by omega), if_pos (show (0 : Int) ≤ (i : Int) by omega), if_pos (show (0 : Int) ≤ (i : Int) by omega), s1, r1, Option.bind_some, Option.bind_some, if_pos (show (out.length + t1.size) * 2 ≤ 140737488355328 by omega), if_pos (show (strI out).size + t1.size ≤ 9223372036854775807 by omega)]
    have hd : (⟨#[45]⟩ : ByteArray) = strI [45] := by decide
    have e3 : strI out ++ t1 = strI (out ++ bytesI t1) := by rw [strI_append, strI_bytesI]
    rw [e3]
    by_cases hw : W8 (x.f1 - x.f0) > 1
    · rw [if_pos hw, if_pos hw, if_pos (by rw [List.length_append]; omega), if_pos (by rw [strI_size, hd, strI_size, List.length_append]; simp; omega), j2 _ (by rw [List.length_append, List.length_append]; simp; omega), strI_append (out ++ bytesI t1), hd]
    · rw [if_neg hw, if_neg hw, j2 _ (by rw [List.length_append]; omega)]
theorem rangesF_ok (xs : List Int) (h : ∀ x ∈ xs, 0 ≤ x ∧ x < 256) : ROk (rangesF xs) := by
  have key : ∀ (xs : List Int) (l : List Tapi_Range), (∀ x ∈ xs, 0 ≤ x ∧ x < 256) → ROk l → ROk (xs.foldl rgStep l) := by
    intro xs
    induction xs with
    | nil => intro l _ h; exact h
    | cons x xs ih =>
      intro l hx hl
      obtain ⟨g0, g1⟩ := hx x List.mem_cons_self
      refine ih _ (fun y hy => hx y (List.mem_cons_of_mem _ hy)) ?_
      unfold rgStep
      split
      · intro y hy
        unfold stored at hy
        rcases List.mem_or_eq_of_mem_set hy with hy | rfl
        · exact hl y hy
        · rename_i hc
          have : rd zapi_Range l (W ((l.length : Int) - 1)) ∈ l ∨ rd zapi_Range l (W ((l.length : Int) - 1)) = zapi_Range := by
            unfold rd
            rw [List.getD_eq_getElem?_getD]
            by_cases hlt : (W ((l.length : Int) - 1)).toNat < l.length
            · left; rw [List.getElem?_eq_getElem hlt]; exact List.getElem_mem hlt
            · right; rw [List.getElem?_eq_none (by omega)]; rfl
          rcases this with hm | he
          · obtain ⟨a0, a1, _, _⟩ := hl _ hm
            exact ⟨a0, a1, g0, g1⟩
          · rw [he]; exact ⟨Int.le_refl 0, (by show (0 : Int) < 256; decide), g0, g1⟩
      · intro y hy
        rcases List.mem_append.1 hy with hy | hy
        · exact hl y hy
        · rw [List.mem_singleton] at hy; subst hy; exact ⟨g0, g1, g0, g1⟩
  exact key xs [] h (fun x hx => by cases hx)
theorem bytes_range (a : Tapi_Class) : ∀ x ∈ bytesOf a, 0 ≤ x ∧ x < 256 := by
  intro x hx
  unfold bytesOf upto at hx
  obtain ⟨n, hn, rfl⟩ := List.mem_map.1 hx
  have := List.mem_range.1 (List.mem_filter.1 hn).1
  show 0 ≤ ((n : Nat) : Int) ∧ ((n : Nat) : Int) < 256
  omega
/-- The text's end. -/
theorem text_loop_some (l : List Tapi_Range) (hl : ROk l) (hlen : l.length ≤ 1000) (K : Nat) (brk : List Int → Nat → Option ByteArray) :
    ∀ (d i n : Nat) (out : List Int), i + d = l.length → d < n → out.length ≤ 2 + 9 * i → (∀ o : List Int, o.length ≤ 2 + 9 * l.length → ∃ t, brk o o.length = some t) → ∃ t, class_Text.l1 l K brk n out out.length (i : Int) = some t
  | 0, i, n, out, h, hn, ho, hb => by
    obtain ⟨n, rfl⟩ : ∃ m, n = m + 1 := ⟨n - 1, by omega⟩
    unfold class_Text.l1 class_Text.b1
    rw [if_neg (by omega)]
    exact hb out (by omega)
  | d + 1, i, n, out, h, hn, ho, hb => by
    obtain ⟨n, rfl⟩ : ∃ m, n = m + 1 := ⟨n - 1, by omega⟩
    have hi : i < l.length := by omega
    obtain ⟨g0, g1, g2, g3⟩ := hl _ (rd_mem hi)
    generalize hx : rd zapi_Range l (i : Int) = x at *
    obtain ⟨e1, t1, s1, z1⟩ := spell_same K x.f0 g0 g1
    obtain ⟨e2, t2, s2, z2⟩ := spell_same K x.f1 g2 g3
    have b1 := bytesI_len t1
    have b2 := bytesI_len t2
    have nx : ∀ o : List Int, o.length ≤ 2 + 9 * (i + 1) → ∃ t, class_Text.j3 (class_Text.l1 l K brk n) (i : Int) o = some t := by
      intro o hlo
      unfold class_Text.j3
      rw [W_succ i (by omega)]
      exact text_loop_some l hl hlen K brk d (i + 1) n o (by omega) (by omega) hlo hb
    have j2 : ∀ o : List Int, o.length ≤ 7 + 9 * i → ∃ t, class_Text.j2 l (i : Int) K (class_Text.l1 l K brk n) o = some t := by
      intro o hlo
      unfold class_Text.j2
      rw [hx]
      by_cases hgt : x.f1 > x.f0
      · rw [if_pos hgt, s2, Option.bind_some, if_pos (show (o.length + t2.size) * 2 ≤ 140737488355328 by omega)]
        exact nx _ (by rw [List.length_append]; omega)
      · rw [if_neg hgt]
        exact nx _ (by omega)
    unfold class_Text.l1 class_Text.b1
    rw [hx, if_pos (show (i : Int) < (l.length : Int) by omega), if_pos (show (0 : Int) ≤ (i : Int) by omega), s1, Option.bind_some, if_pos (show (out.length + t1.size) * 2 ≤ 140737488355328 by omega)]
    by_cases hw : W8 (x.f1 - x.f0) > 1
    · rw [if_pos hw, if_pos (by rw [List.length_append]; omega)]
      exact j2 _ (by rw [List.length_append, List.length_append]; simp; omega)
    · rw [if_neg hw]
      exact j2 _ (by rw [List.length_append]; omega)
theorem text_j0 {a : Tapi_Class} (ha : COk a) (K : Nat) (hK : 1001 ≤ K) (out : List Int) (ho : out.length ≤ 2) : class_Text.j0 K a.f0 a.f1 a.f2 a.f3 out out.length = dowelref03_Text.j0 K a.f0 a.f1 a.f2 a.f3 (strI out) ∧ (∃ t, class_Text.j0 K a.f0 a.f1 a.f2 a.f3 out out.length = some t) := by
  have hok := rangesF_ok (bytesOf a) (bytes_range a)
  have hlen := rangesF_upto_len a 256 (Nat.le_refl _)
  have hc : class_Ranges.f K (⟨a.f0, a.f1, a.f2, a.f3⟩ : Tapi_Class) = some (rangesF (bytesOf a)) := rfl
  have hr : dowelref03_Ranges.f K (⟨a.f0, a.f1, a.f2, a.f3⟩ : Tapi_Class) = some (rangesF (bytesOf a)) := ranges_f ha K (by omega)
  have hl2 : (rangesF (bytesOf a)).length < 1000 := hlen
  constructor
  · unfold class_Text.j0 dowelref03_Text.j0
    rw [hc, hr, Option.bind_some, Option.bind_some]
    refine text_loop _ hok (by omega) K _ _ (rangesF (bytesOf a)).length 0 K out (by omega) (by omega) (by omega) fun o hlo => ?_
    have h1 := strI_size o
    have h93 : (⟨#[93]⟩ : ByteArray) = strI [93] := by decide
    have h93s : (⟨#[93]⟩ : ByteArray).size = 1 := rfl
    rw [if_pos (show (o.length + 1) * 2 ≤ 140737488355328 by omega), if_pos (show (strI o).size + (⟨#[93]⟩ : ByteArray).size ≤ 9223372036854775807 by omega), strI_append, h93]
  · unfold class_Text.j0
    rw [hc, Option.bind_some]
    refine text_loop_some _ hok (by omega) K _ (rangesF (bytesOf a)).length 0 K out (by omega) (by omega) (by omega) fun o hlo => ?_
    rw [if_pos (show (o.length + 1) * 2 ≤ 140737488355328 by omega)]
    exact ⟨_, rfl⟩
theorem text_f {a : Tapi_Class} (ha : COk a) (K : Nat) (hK : 1001 ≤ K) : ∃ t, class_Text.f K a = some t ∧ dowelref03_Text.f K a = some t := by
  have key : class_Text.f K a = dowelref03_Text.f K a ∧ ∃ t, class_Text.f K a = some t := by
    unfold class_Text.f dowelref03_Text.f
    rw [count_f ha K (by omega), bytes_f ha K (by omega), Option.bind_some, Option.bind_some, bytes_len ha]
    by_cases hc : (countC a : Int) > 128
    · rw [if_pos hc, if_pos hc, not_f ha K (by omega), rnot_f ha K (by omega), Option.bind_some, Option.bind_some]
      have h1 : (⟨#[91, 94]⟩ : ByteArray) = strI ([91] ++ [94]) := by decide
      rw [h1]
      exact text_j0 (notC_ok ha) K hK ([91] ++ [94]) (by decide)
    · rw [if_neg hc, if_neg hc]
      have h1 : (⟨#[91]⟩ : ByteArray) = strI [91] := by decide
      rw [h1]
      exact text_j0 ha K hK [91] (by decide)
  obtain ⟨h1, t, h2⟩ := key
  exact ⟨t, h2, by rw [← h1]; exact h2⟩
end Go.Proofs.Ytampekcanmakkaa.G
