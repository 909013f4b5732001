/- ClassBack: plain law: what is computed is true. -/
import Derived.Test.YtampekcanmakkaaLaw7b
import Derived.KernelRfl
set_option linter.all false
namespace Go.Proofs.Ytampekcanmakkaa.G
open Go Go.RowKit Go.Proofs
theorem parse_plain (K : Nat) (hK : 2001 ≤ K) (s : ByteArray) (hs : s.size ≤ 100000000) (p : Nat) (l : List Tapi_Range) (hl : ROk2 l) (hlen : l.length ≤ 999) (rest : List Int) (h : At s p (91 :: (l.flatMap rtext ++ 93 :: rest))) (c : Tapi_Class) (hc : class_Of.f K (l.flatMap items) = some c) :
    class_Parse.f K s (p : Int) = some (c, ((p + 1 + (l.flatMap rtext).length + 1 : Nat) : Int), zapi_Fault) := by
  obtain ⟨c1, k1, a1⟩ := at_cons h
  obtain ⟨w1, w2, w3, w4⟩ := Wp (p := p) (by omega)
  obtain ⟨ct, rt, t1, t2, t3⟩ := tail_head l hl rest
  have a2 := a1
  rw [t1] at a1
  unfold class_Parse.f
  rw [if_neg (by omega), decide_eq_false (by omega)]
  unfold class_Parse.j0
  rw [if_neg (by decide), if_neg (by omega), if_pos (by omega), if_pos (by omega), c1]
  unfold class_Parse.j1
  rw [if_neg (by decide), w1, skip_miss (bg := (p : Int)) hs K ct 94 rt a1 t3, Option.bind_some]
  dsimp only
  rw [parse_loop s hs (p : Int) K _ rest l K (p + 1) [] hl (by omega) (by simp; omega) a2, List.nil_append, hc, Option.bind_some, if_neg (by decide)]
  rfl
theorem parse_not (K : Nat) (hK : 2001 ≤ K) (s : ByteArray) (hs : s.size ≤ 100000000) (p : Nat) (l : List Tapi_Range) (hl : ROk2 l) (hlen : l.length ≤ 999) (rest : List Int) (h : At s p (91 :: 94 :: (l.flatMap rtext ++ 93 :: rest))) (c : Tapi_Class) (hc : class_Of.f K (l.flatMap items) = some c) (hok : COk c) :
    class_Parse.f K s (p : Int) = some (notC c, ((p + 2 + (l.flatMap rtext).length + 1 : Nat) : Int), zapi_Fault) := by
  obtain ⟨c1, k1, a1⟩ := at_cons h
  obtain ⟨w1, w2, w3, w4⟩ := Wp (p := p) (by omega)
  obtain ⟨_, k2, a2⟩ := at_cons a1
  unfold class_Parse.f
  rw [if_neg (by omega), decide_eq_false (by omega)]
  unfold class_Parse.j0
  rw [if_neg (by decide), if_neg (by omega), if_pos (by omega), if_pos (by omega), c1]
  unfold class_Parse.j1
  rw [if_neg (by decide), w1, skip_hit (bg := (p : Int)) hs K 94 _ a1, Option.bind_some]
  dsimp only
  rw [parse_loop s hs (p : Int) K _ rest l K (p + 1 + 1) [] hl (by omega) (by simp; omega) a2, List.nil_append, hc, Option.bind_some, if_pos rfl, not_f hok K (by omega), Option.bind_some]
  rfl
theorem items_is {a : Tapi_Class} (ha : COk a) (K : Nat) (hK : 2001 ≤ K) : class_Of.f K ((rangesF (bytesOf a)).flatMap items) = some a := by
  have h1 := rg_all ha
  have h2 := rg_len a
  have h3 := items_len (rangesF (bytesOf a))
  exact of_is ha _ (items_ok _ h1.ok) (by omega) (fun j hj => by rw [items_any]; exact h1.cov j hj) K hK
/-! ### works -/
def exC : Tapi_Class := ⟨0, 72057654167470080, 0, 0⟩
theorem exC_ok : COk exC := by refine ⟨?_, ?_, ?_, ?_⟩ <;> (unfold exC; decide)
def exL : List Tapi_Range := [⟨97, 99⟩, ⟨120, 120⟩]
theorem exL_eq : rangesF (bytesOf exC) = exL := by kernel_rfl
theorem exL_text : 91 :: (exL.flatMap rtext ++ 93 :: []) = bytesI ⟨#[91, 97, 45, 99, 120, 93]⟩ := by kernel_rfl
theorem noL_eq : rangesF (bytesOf (notC (notC zapi_Class))) = [] := by kernel_rfl
theorem zapi_ok : COk zapi_Class := by refine ⟨?_, ?_, ?_, ?_⟩ <;> (unfold zapi_Class; decide)
theorem works_f : dowellaw03_works.f 3000 = some true := by
  have hp : class_Parse.f 3000 (⟨#[91, 97, 45, 99, 120, 93]⟩ : ByteArray) 0 = some (exC, 6, zapi_Fault) := by
    have h1 := rg_ok2 exC_ok
    have h2 := items_is exC_ok 3000 (by omega)
    rw [exL_eq] at h1 h2
    exact parse_plain 3000 (by omega) ⟨#[91, 97, 45, 99, 120, 93]⟩ (by decide) 0 exL h1 (by decide) [] ⟨[], [], by rw [exL_text]; simp, rfl⟩ exC h2
  have e1 : class_Has.f 3000 exC 98 = some true := by kernel_rfl
  have e2 : class_Has.f 3000 exC 100 = some false := by kernel_rfl
  have e3 : class_Count.f 3000 exC = some 4 := by rw [count_f exC_ok 3000 (by omega)]; kernel_rfl
  have e4 : class_Text.f 3000 exC = some (⟨#[91, 97, 45, 99, 120, 93]⟩ : ByteArray) := by rw [text_f exC_ok 3000 (by omega), exL_eq]; kernel_rfl
  have e5 : class_Not.f 3000 zapi_Class = some (notC zapi_Class) := not_f zapi_ok 3000 (by omega)
  have e6 : class_Text.f 3000 (notC zapi_Class) = some (⟨#[91, 94, 93]⟩ : ByteArray) := by rw [text_f (notC_ok zapi_ok) 3000 (by omega), noL_eq]; kernel_rfl
  unfold dowellaw03_works.f
  rw [hp, Option.bind_some, if_pos (by decide), if_pos (by decide), e1, Option.bind_some, if_pos rfl, e2, Option.bind_some, if_pos (by decide), e3, Option.bind_some, if_pos rfl, e4, Option.bind_some, if_pos rfl, e5, Option.bind_some, e6, Option.bind_some]
  unfold dowellaw03_works.j0
  rw [beq_self_eq_true]
/-! ### the ranges rise -/
theorem back_loop (l : List Tapi_Range) (hl : ROk2 l) (hsep : l.Pairwise fun x y => x.f1 + 1 < y.f0) (hlen : l.length ≤ 1000) (brk : Int → Option Bool) : ∀ (d i n : Nat) (S : Int), i + d = l.length → d < n → 0 ≤ S → S ≤ 256 * (i : Int) → dowellaw03_ClassBack.l0 l brk n S (i : Int) = brk (S + ((l.drop i).map wid).sum)
  | 0, i, n, S, h, hn, h0, h1 => by
    obtain ⟨n, rfl⟩ : ∃ m, n = m + 1 := ⟨n - 1, by omega⟩
    unfold dowellaw03_ClassBack.l0 dowellaw03_ClassBack.b0
    rw [if_neg (by omega), List.drop_eq_nil_of_le (by omega)]
    simp
  | d + 1, i, n, S, h, hn, h0, h1 => by
    obtain ⟨n, rfl⟩ : ∃ m, n = m + 1 := ⟨n - 1, by omega⟩
    have hi : i < l.length := by omega
    obtain ⟨g0, g1, g2⟩ := hl l[i] (List.getElem_mem hi)
    have hg := rd_get hi
    have hd := List.drop_eq_getElem_cons hi
    have hs : 0 < i → (rd zapi_Range l ((i - 1 : Nat) : Int)).f1 + 1 < (l[i]).f0 ∧ 0 ≤ (rd zapi_Range l ((i - 1 : Nat) : Int)).f1 ∧ (rd zapi_Range l ((i - 1 : Nat) : Int)).f1 < 256 := by
      intro h0
      rw [rd_get (show i - 1 < l.length by omega)]
      obtain ⟨q0, q1, q2⟩ := hl l[i - 1] (List.getElem_mem (by omega))
      exact ⟨List.pairwise_iff_getElem.1 hsep (i - 1) i (by omega) hi (by omega), by omega, q2⟩
    generalize l[i] = x at *
    have nx := back_loop l hl hsep hlen brk d (i + 1) n (S + wid x) (by omega) (by omega) (by unfold wid; omega) (by unfold wid; omega)
    have j1 : dowellaw03_ClassBack.j1 (i : Int) l (dowellaw03_ClassBack.l0 l brk n) S false = brk (S + (((x :: l.drop (i + 1))).map wid).sum) := by
      unfold dowellaw03_ClassBack.j1
      rw [if_neg (by decide), if_pos (by omega), if_pos (by omega), hg, W_succ i (by omega), W_id (x := x.f1) (by omega) (by omega), W_id (x := x.f0) (by omega) (by omega), W_id (x := x.f1 - x.f0) (by omega) (by omega), W_id (x := x.f1 - x.f0 + 1) (by omega) (by omega), W_id (x := S + (x.f1 - x.f0 + 1)) (by omega) (by omega)]
      refine nx.trans ?_
      rw [List.map_cons, List.sum_cons, Int.add_assoc]
    rw [hd]
    unfold dowellaw03_ClassBack.l0 dowellaw03_ClassBack.b0
    rw [if_pos (by omega), if_pos (by omega), hg, if_neg (by omega)]
    by_cases hz : 0 < i
    · obtain ⟨q0, q1, q2⟩ := hs hz
      have e1 : W ((i : Int) - 1) = ((i - 1 : Nat) : Int) := by rw [W_id (by omega) (by omega)]; omega
      rw [if_pos (by omega), e1, if_pos (by omega), if_pos (by omega), W_id (x := (rd zapi_Range l ((i - 1 : Nat) : Int)).f1) (by omega) (by omega), W_id (x := x.f0) (by omega) (by omega), W_id (x := (rd zapi_Range l ((i - 1 : Nat) : Int)).f1 + 1) (by omega) (by omega), decide_eq_false (by omega)]
      exact j1
    · rw [if_neg (by omega)]
      exact j1
/-! ### the text in a text -/
theorem bytesI_app (a b : ByteArray) : bytesI (a ++ b) = bytesI a ++ bytesI b := by
  unfold bytesI
  rw [← List.map_append]
  congr 1
theorem bytesI_strI (xs : List Int) (h : ∀ x ∈ xs, 0 ≤ x ∧ x < 256) : bytesI (strI xs) = xs := by
  unfold bytesI strI
  simp only [List.map_map]
  conv => rhs; rw [← List.map_id xs]
  refine List.map_congr_left fun x hx => ?_
  obtain ⟨h0, h1⟩ := h x hx
  simp only [Function.comp, id]
  have : (UInt8.ofNat x.toNat).toNat = x.toNat := by
    rw [UInt8.toNat_ofNat']
    omega
  rw [this]
  omega
theorem spI_mem (b : Int) : ∀ x ∈ spI b, 0 ≤ x ∧ x < 256 := by
  intro x hx
  unfold spI bytesI at hx
  obtain ⟨u, _, rfl⟩ := List.mem_map.1 hx
  have := u.toNat_lt
  omega
theorem rtext_mem (l : List Tapi_Range) : ∀ x ∈ l.flatMap rtext, 0 ≤ x ∧ x < 256 := by
  intro x hx
  obtain ⟨y, _, hx⟩ := List.mem_flatMap.1 hx
  unfold rtext at hx
  rcases List.mem_append.1 hx with hx | hx
  · rcases List.mem_append.1 hx with hx | hx
    · exact spI_mem _ x hx
    · split at hx
      · rw [List.mem_singleton] at hx; omega
      · cases hx
  · split at hx
    · exact spI_mem _ x hx
    · cases hx
theorem at_mid (a1 a2 : ByteArray) (xs : List Int) (h : ∀ x ∈ xs, 0 ≤ x ∧ x < 256) : At ((a1 ++ strI xs) ++ a2) a1.size xs := by
  refine ⟨bytesI a1, bytesI a2, ?_, bytesI_len a1⟩
  rw [bytesI_app, bytesI_app, bytesI_strI xs h, List.append_assoc]
theorem not_not {a : Tapi_Class} (ha : COk a) : notC (notC a) = a :=
  class_ext (notC_ok (notC_ok ha)) ha fun k hk => by rw [not_bit (notC_ok ha) k hk, not_bit ha k hk, Bool.not_not]
theorem there_and_back {a : Tapi_Class} (ha : COk a) (a1 a2 : ByteArray) (hsz : a1.size + a2.size ≤ 50000000) : ∃ t : ByteArray, class_Text.f 3000 a = some t ∧ t.size ≤ 100000 ∧ class_Parse.f 3000 ((a1 ++ t) ++ a2) (a1.size : Int) = some (a, ((a1.size + t.size : Nat) : Int), zapi_Fault) := by
  rw [text_f ha 3000 (by omega)]
  by_cases hc : (countC a : Int) > 128
  · rw [if_pos hc]
    have h1 := rg_ok2 (notC_ok ha)
    have h2 := items_is (notC_ok ha) 3000 (by omega)
    have h3 := rg_len (notC a)
    have h4 := rtext_len _ h1
    generalize rangesF (bytesOf (notC a)) = l at *
    have hx : [91, 94] ++ l.flatMap rtext ++ [93] = 91 :: 94 :: (l.flatMap rtext ++ 93 :: []) := by simp
    rw [hx]
    have hm : ∀ x ∈ (91 :: 94 :: (l.flatMap rtext ++ 93 :: []) : List Int), 0 ≤ x ∧ x < 256 := by
      intro x hx
      rcases List.mem_cons.1 hx with rfl | hx
      · decide
      · rcases List.mem_cons.1 hx with rfl | hx
        · decide
        · rcases List.mem_append.1 hx with hx | hx
          · exact rtext_mem l x hx
          · rw [List.mem_singleton] at hx; subst hx; decide
    have hz := strI_size (91 :: 94 :: (l.flatMap rtext ++ 93 :: []) : List Int)
    simp only [List.length_cons, List.length_append, List.length_nil] at hz
    refine ⟨_, rfl, by omega, ?_⟩
    rw [parse_not 3000 (by omega) _ (by rw [ByteArray.size_append, ByteArray.size_append]; omega) a1.size l h1 (by omega) [] (at_mid a1 a2 _ hm) (notC a) h2 (notC_ok ha), not_not ha, hz]
    congr 3
    omega
  · rw [if_neg hc]
    have h1 := rg_ok2 ha
    have h2 := items_is ha 3000 (by omega)
    have h3 := rg_len a
    have h4 := rtext_len _ h1
    generalize rangesF (bytesOf a) = l at *
    have hx : [91] ++ l.flatMap rtext ++ [93] = 91 :: (l.flatMap rtext ++ 93 :: []) := by simp
    rw [hx]
    have hm : ∀ x ∈ (91 :: (l.flatMap rtext ++ 93 :: []) : List Int), 0 ≤ x ∧ x < 256 := by
      intro x hx
      rcases List.mem_cons.1 hx with rfl | hx
      · decide
      · rcases List.mem_append.1 hx with hx | hx
        · exact rtext_mem l x hx
        · rw [List.mem_singleton] at hx; subst hx; decide
    have hz := strI_size (91 :: (l.flatMap rtext ++ 93 :: []) : List Int)
    simp only [List.length_cons, List.length_append, List.length_nil] at hz
    refine ⟨_, rfl, by omega, ?_⟩
    rw [parse_plain 3000 (by omega) _ (by rw [ByteArray.size_append, ByteArray.size_append]; omega) a1.size l h1 (by omega) [] (at_mid a1 a2 _ hm) a h2, hz]
    congr 3
    omega
theorem classBack_true (a : Tapi_Class) (ha : COk a) (a1 a2 : ByteArray) (hsz : a1.size + a2.size ≤ 50000000) : dowellaw03_ClassBack.f 3000 a a1 a2 = some true := by
  obtain ⟨t, t1, t2, t3⟩ := there_and_back ha a1 a2 hsz
  have h1 := rg_all ha
  have h2 := rg_len a
  have h4 := of_is ha _ h1.ok (by omega) h1.cov 3000 (by omega)
  have h5 := bytes_len ha
  have hr : class_Ranges.f 3000 a = some (rangesF (bytesOf a)) := rfl
  have hsum := h1.sum
  have e0 : (upto a 256).length = countC a := h5
  unfold dowellaw03_ClassBack.f
  rw [works_f, Option.bind_some, if_neg (fun k => k rfl), t1, Option.bind_some, if_pos (by omega), if_pos (by rw [ByteArray.size_append]; omega), t3, Option.bind_some, hr, Option.bind_some]
  generalize rangesF (bytesOf a) = l at *
  rw [show (0 : Int) = ((0 : Nat) : Int) from rfl]
  refine (back_loop l h1.ok h1.sep (by omega) _ l.length 0 3000 0 (by omega) (by omega) (by omega) (by omega)).trans ?_
  rw [List.drop_zero, hsum, e0]
  dsimp only
  have w1 : W ((a1.size : Int) + (t.size : Int)) = ((a1.size + t.size : Nat) : Int) := by rw [W_id (by omega) (by omega)]; omega
  rw [if_pos (by decide), if_pos (by simp), w1, if_pos rfl, h4, Option.bind_some, if_pos (by simp), count_f ha 3000 (by omega), Option.bind_some]
  unfold dowellaw03_ClassBack.j2
  simp
theorem classBack_walk (a : Tapi_Class) (ha : COk a) (a1 a2 : ByteArray) (hsz : a1.size + a2.size ≤ 50000000) (w : World) : Calls Try.prog 7 #[.agg (cellsC a), .string a1, .string a2] w (dowellaw03_ClassBack.R true w) := dowellaw03_ClassBack.ok 3000 a a1 a2 w true (classBack_true a ha a1 a2 hsz)
end Go.Proofs.Ytampekcanmakkaa.G
