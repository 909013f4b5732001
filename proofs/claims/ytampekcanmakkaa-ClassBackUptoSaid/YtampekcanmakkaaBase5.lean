/- Steps of a region that is gone through in its order. -/
import Derived.Test.YtampekcanmakkaaBase4
set_option linter.unusedVariables false
namespace Go.Proofs.Ytampekcanmakkaa.G
open Go.RowKit
theorem b_split (b : Bool) {G : Prop} (ht : b = true → G) (hf : b = false → G) : G := by
  cases b
  · exact hf rfl
  · exact ht rfl
theorem p_split (p : Prop) [Decidable p] {G : Prop} (ht : p → G) (hf : ¬ p → G) : G := if h : p then ht h else hf h
section
variable {P : Program} {f : Func} {p : List Nat} {Q : Exit → Act → World → Prop} {w : World} {t t' : Array Value}
theorem r_do (i : Nat) (h : (decide (i < (ro f p).size) && wnt f p i t) = true) (hh : OpG P (opAt f p i) t [] w fun v w' => RL P f p (i + 1) Q ⟨putv t (opAt f p i).dst v, []⟩ w') : RL P f p i Q ⟨t, []⟩ w := by
  rw [Bool.and_eq_true, decide_eq_true_eq] at h
  exact r_op h.1 h.2 hh
theorem vals_list {ops : Array Oper} : ∀ (l : List Oper) (vs : List Value) (rest : List Oper) (t : Array Value), l.length = vs.length → runs P ops l vs t w = (vs.map fun v => .ok (.value v) w) → wpList P ops Q rest ⟨puts l vs t, []⟩ w → wpList P ops Q (l ++ rest) ⟨t, []⟩ w
  | [], [], rest, t, _, _, hh => hh
  | [], _ :: _, _, _, h, _, _ => by simp at h
  | _ :: _, [], _, _, h, _, _ => by simp at h
  | o :: l, v :: vs, rest, t, hl, h, hh => by
    simp only [runs, List.map_cons, List.cons.injEq] at h
    obtain ⟨h1, h2⟩ := h
    show wpList P ops Q (o :: (l ++ rest)) _ _
    unfold wpList
    have nxt := vals_list l vs rest (putv t o.dst v) (by simpa using hl) h2 hh
    by_cases hw : Region.wanted o (yielded ops t) = true
    · rw [if_pos hw] at h1
      rw [if_pos hw]
      exact .inl (OpG.wp (OpG.of_run h1 nxt))
    · rw [if_neg hw] at h1
      rw [if_neg hw, put_putv]
      injection h1 with h1
      injection h1 with h1
      subst h1
      exact nxt
theorem r_vals (i j : Nat) (vs : List Value) (hl : (decide (i ≤ j) && decide ((seg f p i j).length = vs.length)) = true) (h : runs P (ro f p) (seg f p i j) vs t w = (vs.map fun v => .ok (.value v) w)) (hh : RL P f p j Q ⟨puts (seg f p i j) vs t, []⟩ w) : RL P f p i Q ⟨t, []⟩ w := by
  rw [Bool.and_eq_true, decide_eq_true_eq, decide_eq_true_eq] at hl
  refine ⟨?_⟩
  replace hh := hh.out
  have e : (ro f p).toList.drop i = seg f p i j ++ (ro f p).toList.drop j := by
    unfold seg
    have : (ro f p).toList.drop j = ((ro f p).toList.drop i).drop (j - i) := by rw [List.drop_drop]; congr 1; omega
    rw [this, List.take_append_drop]
  rw [e]
  exact vals_list _ _ _ _ hl.2 h hh
theorem r_flat {i : Nat} (h : t = t') (hh : RL P f p i Q ⟨t', []⟩ w) : RL P f p i Q ⟨t, []⟩ w := by rw [h]; exact hh
theorem r_fin (i : Nat) (h : (ro f p).toList.drop i = []) (hq : Q .normal ⟨t, []⟩ w) : RL P f p i Q ⟨t, []⟩ w := r_end h hq
theorem w_flat (h : t = t') (hh : (cd f p).wp P Q ⟨t', []⟩ w) : (cd f p).wp P Q ⟨t, []⟩ w := by rw [h]; exact hh
theorem q_flat {e : Exit} (h : t = t') (hh : Q e ⟨t', []⟩ w) : Q e ⟨t, []⟩ w := by rw [h]; exact hh
end
/-! ### a frame by its live slots, the others being whatever they are -/
section
variable {P : Program} {f : Func} {p : List Nat} {Q : Exit → Act → World → Prop} {e : Exit} {t : Array Value} {w : World}
theorem q_into (F : (Nat → Value) → Array Value) (h : t = F (fun i => t.getD i undef)) (hh : ∀ u, Q e ⟨F u, []⟩ w) : Q e ⟨t, []⟩ w := by rw [h]; exact hh _
theorem w_into (F : (Nat → Value) → Array Value) (h : t = F (fun i => t.getD i undef)) (hh : ∀ u, (cd f p).wp P Q ⟨F u, []⟩ w) : (cd f p).wp P Q ⟨t, []⟩ w := by rw [h]; exact hh _
end
/-! ### a region of open order, gone on behind it -/
structure DK (P : Program) (ops : Array Oper) (B : List Nat) (J : (Nat → Bool) → World → Prop) (m i : Nat) (t : Array Value) (C : Array Value → Prop) : Prop where mk :: (out : ∃ t', DSteps P ops B J m i t t' ∧ C t')
section
variable {P : Program} {f : Func} {p : List Nat} {Q : Exit → Act → World → Prop} {ops : Array Oper} {B : List Nat} {J : (Nat → Bool) → World → Prop} {m i : Nat} {t : Array Value} {C : Array Value → Prop}
theorem w_drawk {id : Nat} (h : cd f p = .region id (ro f p) true) (hmx : P.follows .mixedOrders = true) (B : List Nat) (m : Nat) (hok : drawOk (ro f p) B m = true) {J : (Nat → Bool) → World → Prop} {t : Array Value} {w : World}
    (h0 : ∀ w', w'.heap = w.heap → w'.os = w.os → w'.tape = w.tape → w'.output = w.output → J (fun _ => false) w') (hs : DK P (ro f p) B J m 0 t (fun tm => ∀ b w', (∀ j, j < m → b j = true) → J b w' → RL P f p m Q ⟨tm, []⟩ w')) : (cd f p).wp P Q ⟨t, []⟩ w := by
  obtain ⟨tm, h1, h2⟩ := hs.out
  exact w_draw h hmx B m hok h0 h1 h2
theorem k_nil (h : C t) : DK P ops B J m m t C := ⟨t, .nil, h⟩
theorem k_op (v : Value) (hh : (decide (i < m) && Region.wanted (og ops i) (yielded ops t)) = true)
    (h : ∀ b w, J b w → b i = false → (∀ j, j < i → (B.getD i 0).testBit j = true → b j = true) → (∀ d, i < d → d < ops.size → (B.getD d 0).testBit i = true → b d = false) → OpG P (og ops i) t [] w fun u w' => u = v ∧ J (up b i) w') (hn : DK P ops B J m (i + 1) (putv t (og ops i).dst v) C) : DK P ops B J m i t C := by
  rw [Bool.and_eq_true, decide_eq_true_eq] at hh
  obtain ⟨t', h1, h2⟩ := hn.out
  exact ⟨t', d_op v hh.1 hh.2 h h1, h2⟩
theorem k_pure {i : Nat} {t : Array Value} {C : Array Value → Prop} (j : Nat) (vs : List Value) (hok : (decide (i ≤ j) && decide (j ≤ m) && decide (j ≤ (ro f p).size) && decide (vs.length = j - i)) = true)
    (h : ∀ w, runs P (ro f p) (seg f p i j) vs t w = vs.map fun v => .ok (.value v) w) (hJ : ∀ k, i ≤ k → k < j → ∀ b w, J b w → J (up b k) w) (hn : DK P (ro f p) B J m j (puts (seg f p i j) vs t) C) : DK P (ro f p) B J m i t C := by
  obtain ⟨t', h1, h2⟩ := hn.out
  exact ⟨t', d_pure j vs hok h rfl hJ h1, h2⟩
end
end Go.Proofs.Ytampekcanmakkaa.G
