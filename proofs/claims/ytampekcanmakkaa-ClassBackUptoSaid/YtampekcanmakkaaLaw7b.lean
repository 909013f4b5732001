/- Classes: the text, byte by byte; the text read back. -/
import Derived.Test.YtampekcanmakkaaLaw7a
set_option linter.all false
namespace Go.Proofs.Ytampekcanmakkaa.G
open Go Go.RowKit Go.Proofs
theorem strI_size (xs : List Int) : (strI xs).size = xs.length := by simp [strI, ByteArray.size]
def sp (b : Int) : ByteArray := (class_spelling.f 0 b).getD ⟨#[]⟩
def spI (b : Int) : List Int := bytesI (sp b)
theorem sp_f (K : Nat) : ∀ b : Int, 0 ≤ b → b < 256 → class_spelling.f K b = some (sp b) ∧ (spI b).length ≤ 4 := by
  have h : ∀ n : Nat, n < 256 → (class_spelling.f 0 (n : Int)).isSome = true ∧ (spI (n : Int)).length ≤ 4 := by decide +kernel
  intro b h0 h1
  obtain ⟨g1, g2⟩ := byte_all (p := fun b => (class_spelling.f 0 b).isSome = true ∧ (spI b).length ≤ 4) h b h0 h1
  refine ⟨?_, g2⟩
  obtain ⟨v, hv⟩ := Option.isSome_iff_exists.1 g1
  have hv' : class_spelling.f K b = some v := hv
  unfold sp
  rw [hv, hv']
  rfl
def hx (k : Int) : Int := [48, 49, 50, 51, 52, 53, 54, 55, 56, 57, 97, 98, 99, 100, 101, 102].getD k.toNat 0
theorem sp_shape : ∀ b : Int, 0 ≤ b → b < 256 → (b = 9 ∧ spI b = [92, 116]) ∨ (b = 10 ∧ spI b = [92, 110]) ∨ (b = 13 ∧ spI b = [92, 114]) ∨ ((b = 92 ∨ b = 93 ∨ b = 45 ∨ b = 94) ∧ spI b = [92, b]) ∨ spI b = [92, 120, hx (b / 16), hx (b % 16)] ∨ (spI b = [b] ∧ 32 ≤ b ∧ b ≤ 126 ∧ b ≠ 92 ∧ b ≠ 93 ∧ b ≠ 45 ∧ b ≠ 94) :=
  byte_all (by decide +kernel)
theorem hx_digit (K : Nat) : ∀ k : Int, 0 ≤ k → k < 16 → class_digit.f K (hx k) = some k := by
  have h : ∀ n : Nat, n < 16 → class_digit.f 0 (hx (n : Int)) = some (n : Int) := by decide +kernel
  intro k h0 h1
  have := h k.toNat (by omega)
  rw [Int.toNat_of_nonneg h0] at this
  exact this
theorem hx_byte : ∀ b : Int, 0 ≤ b → b < 256 → W8 (bits .or .i64 (shv .shl .i64 (b / 16) 4) (b % 16)) = b := byte_all (by decide +kernel)
theorem sp_head (b : Int) (h0 : 0 ≤ b) (h1 : b < 256) : ∃ c r, spI b = c :: r ∧ c ≠ 45 ∧ c ≠ 93 ∧ c ≠ 94 := by
  rcases sp_shape b h0 h1 with ⟨_, h⟩ | ⟨_, h⟩ | ⟨_, h⟩ | ⟨_, h⟩ | h | ⟨h, g1, g2, g3, g4, g5, g6⟩
  · exact ⟨92, [116], h, by decide, by decide, by decide⟩
  · exact ⟨92, [110], h, by decide, by decide, by decide⟩
  · exact ⟨92, [114], h, by decide, by decide, by decide⟩
  · exact ⟨92, [b], h, by decide, by decide, by decide⟩
  · exact ⟨92, _, h, by decide, by decide, by decide⟩
  · exact ⟨b, [], h, g5, g4, g6⟩
/-- A range's text. -/
def rtext (x : Tapi_Range) : List Int := (spI x.f0 ++ if x.f1 - x.f0 > 1 then [45] else []) ++ if x.f1 > x.f0 then spI x.f1 else []
theorem text_loop (l : List Tapi_Range) (hl : ROk2 l) (hlen : l.length ≤ 1000) (K : Nat) (brk : List Int → Nat → Option ByteArray) :
    ∀ (d i n : Nat) (out : List Int), i + d = l.length → d < n → out.length ≤ 2 + 9 * i → class_Text.l1 l K brk n out out.length (i : Int) = brk (out ++ (l.drop i).flatMap rtext) (out ++ (l.drop i).flatMap rtext).length
  | 0, i, n, out, h, hn, ho => by
    obtain ⟨n, rfl⟩ : ∃ m, n = m + 1 := ⟨n - 1, by omega⟩
    unfold class_Text.l1 class_Text.b1
    rw [if_neg (by omega), List.drop_eq_nil_of_le (by omega), List.flatMap_nil, List.append_nil]
  | d + 1, i, n, out, h, hn, ho => by
    obtain ⟨n, rfl⟩ : ∃ m, n = m + 1 := ⟨n - 1, by omega⟩
    have hi : i < l.length := by omega
    obtain ⟨g0, g1, g2⟩ := hl l[i] (List.getElem_mem hi)
    have hg := rd_get hi
    have hd := List.drop_eq_getElem_cons hi
    generalize l[i] = x at *
    obtain ⟨s1, z1⟩ := sp_f K x.f0 g0 (by omega)
    obtain ⟨s2, z2⟩ := sp_f K x.f1 (by omega) g2
    have b1 : (spI x.f0).length = (sp x.f0).size := bytesI_len _
    have b2 : (spI x.f1).length = (sp x.f1).size := bytesI_len _
    have nx : ∀ o : List Int, o.length ≤ 2 + 9 * (i + 1) → class_Text.j3 (class_Text.l1 l K brk n) (i : Int) o = brk (o ++ (l.drop (i + 1)).flatMap rtext) (o ++ (l.drop (i + 1)).flatMap rtext).length := by
      intro o hlo
      unfold class_Text.j3
      rw [W_succ i (by omega)]
      exact text_loop l hl hlen K brk d (i + 1) n o (by omega) (by omega) hlo
    have j2 : ∀ o : List Int, o.length ≤ 7 + 9 * i → class_Text.j2 l (i : Int) K (class_Text.l1 l K brk n) o = brk ((o ++ if x.f1 > x.f0 then spI x.f1 else []) ++ (l.drop (i + 1)).flatMap rtext) ((o ++ if x.f1 > x.f0 then spI x.f1 else []) ++ (l.drop (i + 1)).flatMap rtext).length := by
      intro o hlo
      unfold class_Text.j2
      rw [hg]
      by_cases hgt : x.f1 > x.f0
      · rw [if_pos hgt, if_pos hgt, s2, Option.bind_some, if_pos (show (o.length + (sp x.f1).size) * 2 ≤ 140737488355328 by omega)]
        exact nx (o ++ spI x.f1) (by rw [List.length_append]; omega)
      · rw [if_neg hgt, if_neg hgt, List.append_nil]
        exact nx o (by omega)
    have e8 : W8 (x.f1 - x.f0) = x.f1 - x.f0 := by rw [W8_eq]; omega
    unfold class_Text.l1 class_Text.b1
    rw [hg, if_pos (show (i : Int) < (l.length : Int) by omega), if_pos (show (0 : Int) ≤ (i : Int) by omega), s1, Option.bind_some, if_pos (show (out.length + (sp x.f0).size) * 2 ≤ 140737488355328 by omega), e8, hd, List.flatMap_cons]
    have hre : ∀ m : List Int, out ++ (((spI x.f0 ++ m) ++ if x.f1 > x.f0 then spI x.f1 else []) ++ (l.drop (i + 1)).flatMap rtext) = (((out ++ spI x.f0) ++ m) ++ if x.f1 > x.f0 then spI x.f1 else []) ++ (l.drop (i + 1)).flatMap rtext := by intro m; simp only [List.append_assoc]
    have hrx : rtext x = (spI x.f0 ++ if x.f1 - x.f0 > 1 then [45] else []) ++ if x.f1 > x.f0 then spI x.f1 else [] := rfl
    rw [hrx]
    by_cases hw : x.f1 - x.f0 > 1
    · rw [if_pos hw, if_pos (by rw [List.length_append, bytesI_len]; omega), if_pos hw, hre]
      exact j2 ((out ++ spI x.f0) ++ [45]) (by rw [List.length_append, List.length_append]; simp; omega)
    · rw [if_neg hw, if_neg hw, hre, List.append_nil]
      exact j2 (out ++ spI x.f0) (by rw [List.length_append]; omega)
theorem rg_ok2 {a : Tapi_Class} (ha : COk a) : ROk2 (rangesF (bytesOf a)) := (rg_all ha).ok
theorem rg_len (a : Tapi_Class) : (rangesF (bytesOf a)).length < 1000 := rangesF_upto_len a 256 (Nat.le_refl _)
theorem rtext_len (l : List Tapi_Range) (hl : ROk2 l) : (l.flatMap rtext).length ≤ 9 * l.length := by
  induction l with
  | nil => simp
  | cons x l ih =>
    have h1 := ih fun y hy => hl y (List.mem_cons_of_mem _ hy)
    obtain ⟨g0, g1, g2⟩ := hl x List.mem_cons_self
    obtain ⟨_, z1⟩ := sp_f 0 x.f0 g0 (by omega)
    obtain ⟨_, z2⟩ := sp_f 0 x.f1 (by omega) g2
    rw [List.flatMap_cons, List.length_append, List.length_cons]
    have : (rtext x).length ≤ 9 := by
      unfold rtext
      rw [List.length_append, List.length_append]
      have q1 : (if x.f1 - x.f0 > 1 then [45] else [] : List Int).length ≤ 1 := by split <;> simp
      have q2 : (if x.f1 > x.f0 then spI x.f1 else [] : List Int).length ≤ 4 := by
        split
        · omega
        · simp
      omega
    omega
theorem text_j0 {a : Tapi_Class} (ha : COk a) (K : Nat) (hK : 1001 ≤ K) (out : List Int) (ho : out.length ≤ 2) : class_Text.j0 K a.f0 a.f1 a.f2 a.f3 out out.length = some (strI (out ++ (rangesF (bytesOf a)).flatMap rtext ++ [93])) := by
  have hl := rg_ok2 ha
  have hlen := rg_len a
  have hc : class_Ranges.f K (⟨a.f0, a.f1, a.f2, a.f3⟩ : Tapi_Class) = some (rangesF (bytesOf a)) := rfl
  unfold class_Text.j0
  rw [hc, Option.bind_some]
  have h1 := rtext_len _ hl
  have := text_loop _ hl (by omega) K (fun x514 x515 => if (x515 + 1) * 2 ≤ 140737488355328 then (some (strI (x514 ++ ([93] : List Int)))) else none) (rangesF (bytesOf a)).length 0 K out (by omega) (by omega) (by omega)
  rw [List.drop_zero] at this
  refine this.trans ?_
  rw [if_pos (by rw [List.length_append]; omega)]
theorem text_f {a : Tapi_Class} (ha : COk a) (K : Nat) (hK : 1001 ≤ K) : class_Text.f K a = some (strI (if (countC a : Int) > 128 then [91, 94] ++ (rangesF (bytesOf (notC a))).flatMap rtext ++ [93] else [91] ++ (rangesF (bytesOf a)).flatMap rtext ++ [93])) := by
  unfold class_Text.f
  rw [count_f ha K (by omega), Option.bind_some]
  by_cases hc : (countC a : Int) > 128
  · rw [if_pos hc, if_pos hc, not_f ha K (by omega), Option.bind_some]
    exact text_j0 (notC_ok ha) K hK [91, 94] (by decide)
  · rw [if_neg hc, if_neg hc]
    exact text_j0 ha K hK [91] (by decide)
/-! ### bytes at a place -/
def At (s : ByteArray) (p : Nat) (xs : List Int) : Prop := ∃ pre post, bytesI s = pre ++ (xs ++ post) ∧ pre.length = p
theorem bt_at (s : ByteArray) (p : Nat) : bt s (p : Int) = (bytesI s).getD p 0 := by
  unfold bt bytesI
  rw [Int.toNat_natCast, List.getD_eq_getElem?_getD, List.getElem?_map]
  by_cases h : p < s.size
  · rw [getElem?_pos s p h, List.getElem?_eq_getElem (show p < s.data.toList.length from h)]
    rfl
  · rw [getElem?_neg s p h, List.getElem?_eq_none (show s.data.toList.length ≤ p from Nat.le_of_not_lt h)]
    rfl
theorem at_cons {s : ByteArray} {p : Nat} {c : Int} {xs : List Int} (h : At s p (c :: xs)) : bt s (p : Int) = c ∧ p < s.size ∧ At s (p + 1) xs := by
  obtain ⟨pre, post, h1, rfl⟩ := h
  refine ⟨?_, ?_, pre ++ [c], post, by rw [h1]; simp, by simp⟩
  · rw [bt_at, h1]; simp
  · rw [← bytesI_len, h1]; simp
theorem at_app {s : ByteArray} {p : Nat} {xs ys : List Int} (h : At s p (xs ++ ys)) : At s (p + xs.length) ys := by
  obtain ⟨pre, post, h1, rfl⟩ := h
  exact ⟨pre ++ xs, post, by rw [h1]; simp, by simp⟩
/-! ### the reader -/
theorem Wp {p : Nat} (h : p < 1000000000) : W ((p : Int) + 1) = ((p + 1 : Nat) : Int) ∧ W ((p : Int) + 2) = ((p + 2 : Nat) : Int) ∧ W ((p : Int) + 3) = ((p + 3 : Nat) : Int) ∧ W ((p : Int) + 4) = ((p + 4 : Nat) : Int) := by
  refine ⟨?_, ?_, ?_, ?_⟩ <;> (rw [W_id (by omega) (by omega)]; omega)
section
variable {s : ByteArray} {bg : Int} {p : Nat} (hs : s.size ≤ 100000000)
include hs
theorem skip_hit (K : Nat) (c : Int) (xs : List Int) (h : At s p (c :: xs)) : class_reader_skip.f K ⟨s, bg, (p : Int)⟩ c = some (true, ⟨s, bg, ((p + 1 : Nat) : Int)⟩) := by
  obtain ⟨h1, h2, h3⟩ := at_cons h
  obtain ⟨w1, w2, w3, w4⟩ := Wp (p := p) (by omega)
  unfold class_reader_skip.f class_reader_skip.j0
  dsimp only
  rw [if_pos (by omega), if_pos (by omega), h1, if_pos (by simp), w1]
theorem skip_miss (K : Nat) (c d : Int) (xs : List Int) (h : At s p (c :: xs)) (hc : c ≠ d) : class_reader_skip.f K ⟨s, bg, (p : Int)⟩ d = some (false, ⟨s, bg, (p : Int)⟩) := by
  obtain ⟨h1, h2, h3⟩ := at_cons h
  unfold class_reader_skip.f class_reader_skip.j0
  dsimp only
  rw [if_pos (by omega), if_pos (by omega), h1, if_neg (by simp [hc])]
theorem byte_esc (K : Nat) (xs : List Int) (h : At s p (92 :: xs)) : class_reader_byte.f K ⟨s, bg, (p : Int)⟩ = class_reader_escape.f K ⟨s, bg, (p : Int)⟩ := by
  obtain ⟨h1, h2, h3⟩ := at_cons h
  unfold class_reader_byte.f
  dsimp only
  rw [if_neg (by omega), if_pos (by omega), if_pos (by omega), h1, if_pos rfl]
  cases class_reader_escape.f K ⟨s, bg, (p : Int)⟩ <;> rfl
theorem byte_f (K : Nat) (b : Int) (h0 : 0 ≤ b) (h1 : b < 256) (rest : List Int) (h : At s p (spI b ++ rest)) : class_reader_byte.f K ⟨s, bg, (p : Int)⟩ = some (b, zapi_Fault, ⟨s, bg, ((p + (spI b).length : Nat) : Int)⟩) := by
  rcases sp_shape b h0 h1 with ⟨e, q⟩ | ⟨e, q⟩ | ⟨e, q⟩ | ⟨e, q⟩ | q | ⟨q, g1, g2, g3, g4, g5, g6⟩
  · rw [q] at h ⊢
    rw [byte_esc hs K _ h]
    obtain ⟨_, k1, a1⟩ := at_cons h
    obtain ⟨c1, k2, a2⟩ := at_cons a1
    obtain ⟨w1, w2, w3, w4⟩ := Wp (p := p) (by omega)
    unfold class_reader_escape.f
    dsimp only
    rw [w1, if_neg (by omega), if_pos (by omega), if_pos (by omega), c1, if_pos rfl]
    unfold class_reader_escape.j2
    dsimp only
    rw [w2, e]
    rfl
  · rw [q] at h ⊢
    rw [byte_esc hs K _ h]
    obtain ⟨_, k1, a1⟩ := at_cons h
    obtain ⟨c1, k2, a2⟩ := at_cons a1
    obtain ⟨w1, w2, w3, w4⟩ := Wp (p := p) (by omega)
    unfold class_reader_escape.f
    dsimp only
    rw [w1, if_neg (by omega), if_pos (by omega), if_pos (by omega), c1, if_neg (by decide), if_pos rfl]
    unfold class_reader_escape.j2
    dsimp only
    rw [w2, e]
    rfl
  · rw [q] at h ⊢
    rw [byte_esc hs K _ h]
    obtain ⟨_, k1, a1⟩ := at_cons h
    obtain ⟨c1, k2, a2⟩ := at_cons a1
    obtain ⟨w1, w2, w3, w4⟩ := Wp (p := p) (by omega)
    unfold class_reader_escape.f
    dsimp only
    rw [w1, if_neg (by omega), if_pos (by omega), if_pos (by omega), c1, if_neg (by decide), if_neg (by decide), if_pos rfl]
    unfold class_reader_escape.j2
    dsimp only
    rw [w2, e]
    rfl
  · rw [q] at h ⊢
    rw [byte_esc hs K _ h]
    obtain ⟨_, k1, a1⟩ := at_cons h
    obtain ⟨c1, k2, a2⟩ := at_cons a1
    obtain ⟨w1, w2, w3, w4⟩ := Wp (p := p) (by omega)
    unfold class_reader_escape.f
    dsimp only
    rw [w1, if_neg (by omega), if_pos (by omega), if_pos (by omega), c1]
    rcases e with rfl | rfl | rfl | rfl
    · rw [if_neg (by decide), if_neg (by decide), if_neg (by decide), if_pos rfl]
      unfold class_reader_escape.j0
      rw [if_pos (by decide)]
      unfold class_reader_escape.j2
      dsimp only
      rw [w1, w2, c1]
      rfl
    · rw [if_neg (by decide), if_neg (by decide), if_neg (by decide), if_neg (by decide), if_pos rfl]
      unfold class_reader_escape.j0
      rw [if_pos (by decide)]
      unfold class_reader_escape.j2
      dsimp only
      rw [w1, w2, c1]
      rfl
    · rw [if_neg (by decide), if_neg (by decide), if_neg (by decide), if_neg (by decide), if_neg (by decide), if_pos rfl]
      unfold class_reader_escape.j0
      rw [if_pos (by decide)]
      unfold class_reader_escape.j2
      dsimp only
      rw [w1, w2, c1]
      rfl
    · rw [if_neg (by decide), if_neg (by decide), if_neg (by decide), if_neg (by decide), if_neg (by decide), if_neg (by decide), if_pos rfl]
      unfold class_reader_escape.j0
      rw [if_pos (by decide)]
      unfold class_reader_escape.j2
      dsimp only
      rw [w1, w2, c1]
      rfl
  · rw [q] at h ⊢
    rw [byte_esc hs K _ h]
    obtain ⟨_, k1, a1⟩ := at_cons h
    obtain ⟨c1, k2, a2⟩ := at_cons a1
    obtain ⟨c2, k3, a3⟩ := at_cons a2
    obtain ⟨c3, k4, a4⟩ := at_cons a3
    obtain ⟨w1, w2, w3, w4⟩ := Wp (p := p) (by omega)
    unfold class_reader_escape.f
    dsimp only
    rw [w1, if_neg (by omega), if_pos (by omega), if_pos (by omega), c1, if_neg (by decide), if_neg (by decide), if_neg (by decide), if_neg (by decide), if_neg (by decide), if_neg (by decide), if_neg (by decide), if_neg (by decide)]
    unfold class_reader_escape.j0
    dsimp only
    rw [if_neg (by decide), w1, c1, if_pos rfl, w3, if_neg (by omega), w2, if_pos (by omega), if_pos (by omega), c2, hx_digit K _ (by omega) (by omega), Option.bind_some, if_pos (by omega), if_pos (by omega), c3, hx_digit K _ (by omega) (by omega), Option.bind_some, if_neg (by omega), decide_eq_false (by omega)]
    unfold class_reader_escape.j1
    dsimp only
    rw [if_neg (by decide), w4, hx_byte b h0 h1]
    rfl
  · rw [q] at h ⊢
    obtain ⟨c1, k1, a1⟩ := at_cons h
    obtain ⟨w1, w2, w3, w4⟩ := Wp (p := p) (by omega)
    unfold class_reader_byte.f
    dsimp only
    rw [if_neg (by omega), if_pos (by omega), if_pos (by omega), c1, if_neg g3, if_neg (by omega), if_neg (by omega), if_neg g4, if_neg g5]
    unfold class_reader_byte.j0
    dsimp only
    rw [if_neg (by simp [g6]), w1, c1]
    rfl
theorem item1 (K : Nat) (b : Int) (h0 : 0 ≤ b) (h1 : b < 256) (c : Int) (rest : List Int) (h : At s p (spI b ++ c :: rest)) (hc : c ≠ 45) : class_reader_item.f K ⟨s, bg, (p : Int)⟩ = some (⟨b, b⟩, zapi_Fault, ⟨s, bg, ((p + (spI b).length : Nat) : Int)⟩) := by
  unfold class_reader_item.f
  rw [byte_f hs K b h0 h1 _ h, Option.bind_some]
  dsimp only
  rw [if_neg (fun k => k rfl), skip_miss hs K c 45 rest (at_app h) hc, Option.bind_some]
  rfl
theorem item2 (K : Nat) (b e : Int) (h0 : 0 ≤ b) (hbe : b ≤ e) (h1 : e < 256) (rest : List Int) (h : At s p (spI b ++ 45 :: (spI e ++ rest))) : class_reader_item.f K ⟨s, bg, (p : Int)⟩ = some (⟨b, e⟩, zapi_Fault, ⟨s, bg, ((p + (spI b).length + 1 + (spI e).length : Nat) : Int)⟩) := by
  unfold class_reader_item.f
  rw [byte_f hs K b h0 (by omega) _ h, Option.bind_some]
  dsimp only
  rw [if_neg (fun k => k rfl), skip_hit hs K 45 _ (at_app h), Option.bind_some]
  unfold class_reader_item.j0
  dsimp only
  rw [if_neg (by decide), byte_f hs K e (by omega) h1 _ (at_cons (at_app h)).2.2, Option.bind_some]
  dsimp only
  rw [if_pos (show zapi_Fault.f1 = 0 from rfl), decide_eq_false (by omega)]
  rfl
/-! ### the loop -/
theorem l2_end (K n : Nat) (brk : List Tapi_Range → ByteArray → Int → Int → Option (Tapi_Class × Int × Tapi_Fault)) (L : List Tapi_Range) (rest : List Int) (h : At s p (93 :: rest)) : class_Parse.l2 K brk (n + 1) L s bg (p : Int) = brk L s bg ((p + 1 : Nat) : Int) := by
  unfold class_Parse.l2 class_Parse.b2
  rw [skip_hit hs K 93 rest h, Option.bind_some]
  dsimp only
  rw [if_neg (fun k => k rfl)]
theorem l2_item (K n : Nat) (brk : List Tapi_Range → ByteArray → Int → Int → Option (Tapi_Class × Int × Tapi_Fault)) (L : List Tapi_Range) (c : Int) (rest : List Int) (h : At s p (c :: rest)) (hc : c ≠ 93) (x : Tapi_Range) (q : Nat) (hi : class_reader_item.f K ⟨s, bg, (p : Int)⟩ = some (x, zapi_Fault, ⟨s, bg, (q : Int)⟩)) (hL : L.length ≤ 2000) :
    class_Parse.l2 K brk (n + 1) L s bg (p : Int) = class_Parse.l2 K brk n (L ++ [x]) s bg (q : Int) := by
  conv => lhs; unfold class_Parse.l2
  unfold class_Parse.b2
  rw [skip_miss hs K c 93 rest h hc, Option.bind_some]
  dsimp only
  rw [if_pos (by decide), hi, Option.bind_some]
  dsimp only
  rw [if_neg (fun k => k rfl), if_pos (by omega)]
end
def items (x : Tapi_Range) : List Tapi_Range := if x.f1 = x.f0 then [⟨x.f0, x.f0⟩] else if x.f1 = x.f0 + 1 then [⟨x.f0, x.f0⟩, ⟨x.f1, x.f1⟩] else [⟨x.f0, x.f1⟩]
theorem tail_head (l : List Tapi_Range) (hl : ROk2 l) (rest : List Int) : ∃ c r, l.flatMap rtext ++ 93 :: rest = c :: r ∧ c ≠ 45 ∧ c ≠ 94 := by
  cases l with
  | nil => exact ⟨93, rest, rfl, by decide, by decide⟩
  | cons x l =>
    obtain ⟨g0, g1, g2⟩ := hl x List.mem_cons_self
    obtain ⟨c, r, h1, h2, h3, h4⟩ := sp_head x.f0 g0 (by omega)
    obtain ⟨r', h5⟩ : ∃ r', rtext x = c :: r' := by unfold rtext; rw [h1]; exact ⟨_, rfl⟩
    refine ⟨c, r' ++ (l.flatMap rtext ++ 93 :: rest), ?_, h2, h4⟩
    rw [List.flatMap_cons, h5]
    simp
theorem parse_loop (s : ByteArray) (hs : s.size ≤ 100000000) (bg : Int) (K : Nat) (brk : List Tapi_Range → ByteArray → Int → Int → Option (Tapi_Class × Int × Tapi_Fault)) (rest : List Int) :
    ∀ (l : List Tapi_Range) (n p : Nat) (L : List Tapi_Range), ROk2 l → 2 * l.length < n → L.length + 2 * l.length ≤ 2000 → At s p (l.flatMap rtext ++ 93 :: rest) → class_Parse.l2 K brk n L s bg (p : Int) = brk (L ++ l.flatMap items) s bg ((p + (l.flatMap rtext).length + 1 : Nat) : Int)
  | [], n, p, L, hl, hn, hL, h => by
    obtain ⟨n, rfl⟩ : ∃ m, n = m + 1 := ⟨n - 1, by omega⟩
    rw [l2_end hs K n brk L rest h, List.flatMap_nil, List.append_nil]
    rfl
  | x :: l, n, p, L, hl, hn, hL, h => by
    simp only [List.length_cons] at hn hL
    have hl' : ROk2 l := fun y hy => hl y (List.mem_cons_of_mem _ hy)
    obtain ⟨g0, g1, g2⟩ := hl x List.mem_cons_self
    obtain ⟨ch, rh, k1, k2, k3, k4⟩ := sp_head x.f0 g0 (by omega)
    obtain ⟨ct, rt, t1, t2, t3⟩ := tail_head l hl' rest
    rw [List.flatMap_cons, List.flatMap_cons, List.append_assoc, List.length_append] at *
    by_cases e0 : x.f1 = x.f0
    · have er : rtext x = spI x.f0 := by unfold rtext; rw [if_neg (by omega), if_neg (by omega), List.append_nil, List.append_nil]
      have ei : items x = [⟨x.f0, x.f0⟩] := by unfold items; rw [if_pos e0]
      rw [er] at h ⊢
      rw [ei]
      obtain ⟨n, rfl⟩ : ∃ m, n = m + 1 := ⟨n - 1, by omega⟩
      have ha := at_app h
      rw [t1] at h
      have hi := item1 (bg := bg) hs K x.f0 g0 (by omega) ct rt h t2
      rw [k1] at h
      rw [l2_item hs K n brk L ch _ h k3 _ _ hi (by omega), parse_loop s hs bg K brk rest l n (p + (spI x.f0).length) (L ++ [(⟨x.f0, x.f0⟩ : Tapi_Range)]) hl' (by omega) (by simp; omega) ha, List.append_assoc]
      congr 2
      omega
    · by_cases e1 : x.f1 = x.f0 + 1
      · obtain ⟨ch', rh', k1', k2', k3', k4'⟩ := sp_head x.f1 (by omega) g2
        have er : rtext x = spI x.f0 ++ spI x.f1 := by unfold rtext; rw [if_neg (by omega), if_pos (by omega), List.append_nil]
        have ei : items x = [⟨x.f0, x.f0⟩, ⟨x.f1, x.f1⟩] := by unfold items; rw [if_neg e0, if_pos e1]
        rw [er, List.append_assoc] at h
        rw [ei, er, List.length_append]
        obtain ⟨n, rfl⟩ : ∃ m, n = m + 2 := ⟨n - 2, by omega⟩
        have ha := at_app h
        have ha2 := at_app ha
        have h' := h
        rw [k1'] at h'
        have hi := item1 (bg := bg) hs K x.f0 g0 (by omega) ch' _ h' k2'
        rw [k1] at h
        rw [l2_item hs K (n + 1) brk L ch _ h k3 _ _ hi (by omega)]
        rw [t1] at ha
        have hi2 := item1 (bg := bg) hs K x.f1 (by omega) g2 ct rt ha t2
        rw [k1'] at ha
        rw [l2_item hs K n brk _ ch' _ ha k3' _ _ hi2 (by simp; omega), parse_loop s hs bg K brk rest l n _ ((L ++ [(⟨x.f0, x.f0⟩ : Tapi_Range)]) ++ [(⟨x.f1, x.f1⟩ : Tapi_Range)]) hl' (by omega) (by simp; omega) ha2]
        congr 1
        · simp
        · omega
      · have er : rtext x = spI x.f0 ++ 45 :: spI x.f1 := by unfold rtext; rw [if_pos (by omega), if_pos (by omega), List.append_assoc]; rfl
        have ei : items x = [⟨x.f0, x.f1⟩] := by unfold items; rw [if_neg e0, if_neg e1]
        have e2 : rtext x ++ (l.flatMap rtext ++ 93 :: rest) = spI x.f0 ++ 45 :: (spI x.f1 ++ (l.flatMap rtext ++ 93 :: rest)) := by rw [er, List.append_assoc]; rfl
        rw [e2] at h
        rw [ei, er, List.length_append, List.length_cons]
        obtain ⟨n, rfl⟩ : ∃ m, n = m + 1 := ⟨n - 1, by omega⟩
        have ha := at_app (at_cons (at_app h)).2.2
        have hi := item2 (bg := bg) hs K x.f0 x.f1 g0 g1 g2 _ h
        rw [k1] at h
        rw [l2_item hs K n brk L ch _ h k3 _ _ hi (by omega), parse_loop s hs bg K brk rest l n _ (L ++ [(⟨x.f0, x.f1⟩ : Tapi_Range)]) hl' (by omega) (by simp; omega) ha, List.append_assoc]
        congr 2
        omega
/-! ### what the items say -/
theorem items_len (l : List Tapi_Range) : (l.flatMap items).length ≤ 2 * l.length := by
  induction l with
  | nil => simp
  | cons x l ih =>
    rw [List.flatMap_cons, List.length_append, List.length_cons]
    have : (items x).length ≤ 2 := by
      unfold items
      split
      · simp
      · split <;> simp
    omega
theorem items_ok (l : List Tapi_Range) (hl : ROk2 l) : ROk2 (l.flatMap items) := by
  intro y hy
  obtain ⟨x, hx, hy⟩ := List.mem_flatMap.1 hy
  obtain ⟨g0, g1, g2⟩ := hl x hx
  unfold items at hy
  split at hy
  · rw [List.mem_singleton] at hy; subst hy; exact ⟨g0, Int.le_refl _, by simp only; omega⟩
  · split at hy
    · rcases List.mem_cons.1 hy with rfl | hy
      · exact ⟨g0, Int.le_refl _, by simp only; omega⟩
      · rw [List.mem_singleton] at hy; subst hy; exact ⟨by simp only; omega, Int.le_refl _, g2⟩
    · rw [List.mem_singleton] at hy; subst hy; exact ⟨g0, g1, g2⟩
theorem items_any (l : List Tapi_Range) (j : Nat) : ((l.flatMap items).any fun x => inR x j) = l.any fun x => inR x j := by
  induction l with
  | nil => rfl
  | cons x l ih =>
    rw [List.flatMap_cons, List.any_append, List.any_cons, ih]
    congr 1
    unfold items
    split
    · rename_i h
      simp only [List.any_cons, List.any_nil, Bool.or_false]
      unfold inR
      rw [h]
    · split
      · rename_i h
        simp only [List.any_cons, List.any_nil, Bool.or_false]
        unfold inR
        rw [← Bool.decide_or]
        apply decide_eq_decide.2
        simp only
        omega
      · simp
end Go.Proofs.Ytampekcanmakkaa.G
