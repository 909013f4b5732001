/- copy; heads of rows with what lies behind them. -/
import Derived.Test.YtampekcanmakkaaBase11
set_option linter.unusedVariables false
namespace Go.Proofs.Ytampekcanmakkaa.G
open Go.RowKit
theorem bnot_t {b : Bool} (h : (!b) = true) : ¬ (b = true) := by cases b <;> simp_all
theorem bnot_f {b : Bool} (h : (!b) = false) : ¬ ¬ (b = true) := by cases b <;> simp_all
/-- A slice told together with what its row holds behind it. -/
structure CutL (α : Type) where
  all : List α
  n : Nat
section
variable {w0 w : World} {α : Type} {K : Kn α} {A : Option Addr} {n c : Nat} {xs : List α}
theorem Ow.takeN (h : Ow w0 K w A n c xs) (k : Nat) (hk : k ≤ n) : Ow w0 K w A k c (xs.take k) := ⟨by rw [List.length_take, h.len]; omega, h.own.take _⟩
theorem Rd.takeN {S : Nat → Prop} (h : Rd S w A (K.cells xs)) (k : Nat) : Rd S w A (K.cells (xs.take k)) := by rw [← cells_take]; exact h.take _
theorem take_len {k : Nat} (h : k ≤ xs.length) : (xs.take k).length = k := by rw [List.length_take]; omega
theorem head_le {k : Nat} {ys : List α} (h : Ow w0 K w A k c (ys.take k)) : k ≤ ys.length := by have := h.len; rw [List.length_take] at this; omega
theorem Ow.norm (h : Ow w0 K w A n c xs) : Ow w0 K w A xs.length c xs := ⟨rfl, h.own⟩
end
section
variable {P : Program} {o : Oper} {t : Array Value} {w0 w : World} {R : Value → World → Prop} {α : Type} {K : Kn α}
theorem ow_copy {T n c m d : Nat} {x y : Operand} {A D : Option Addr} {xs ys : List α} (ho : o.op = .call { callee := .builtin .copy, args := #[x, y], argTypes := #[T, T] }) (hT : sliceE P T = some (K.e, K.sz)) (hpos : (decide (0 < K.sz)) = true)
    (hx : Act.eval ⟨t, []⟩ x = .slice A n c) (hown : Ow w0 K w A n c xs) (hy : Act.eval ⟨t, []⟩ y = .slice D m d) (hm : ys.length = m) (hr : Rd No w D (K.cells ys)) (hle : m ≤ n)
    (hR : ∀ w', Ow w0 K w' A n c (ys ++ xs.drop m) → Kp (Ra A) w w' → R (goInt m) w') : OpG P o t [] w R := by
  obtain ⟨hu, i, hi, hsz⟩ := sliceE_some hT
  obtain ⟨hlen, hown⟩ := hown
  subst hlen
  subst hm
  have hmin : Nat.min ys.length xs.length = ys.length := Nat.min_eq_left hle
  have hnew : (ys ++ xs.drop ys.length).length = xs.length := by rw [List.length_append, List.length_drop]; omega
  have hfirst : (Builtin.firstCells K.sz ys.length (.slice D ys.length d)).run P w = .ok (K.cells ys).toArray w := by
    cases D with
    | some ad => exact run_firstCells_some w K.sz ys.length ad ys.length d (K.cells ys) (cells_len ys) (fun j u hj => by
        obtain ⟨ad', he, _, hc⟩ := hr j u hj
        injection he with he; subst he; exact hc)
    | none =>
      have h0 : ys = [] := by
        cases ys with
        | nil => rfl
        | cons y ys =>
          obtain ⟨ad, h⟩ := hr.some (by rw [cells_len]; exact Nat.mul_pos (by simp) (by simpa using hpos))
          cases h
      subst h0
      exact run_firstCells_none w _ _ _ _
  rcases hown.2 with ⟨hv, hn⟩ | ⟨g, cap, cur, hv, hbg, hg, hnc, hcm, hcs, htake⟩
  · injection hv with hv1 hv2 hv3
    subst hv1
    have hxs : xs = [] := List.eq_nil_of_length_eq_zero hv2
    subst hxs
    have hys : ys = [] := List.eq_nil_of_length_eq_zero (by simpa using hle)
    subst hys
    refine OpG.of_run (v := goInt 0) (w' := w) ?_ (hR w ⟨rfl, by simpa using hown⟩ (Kp.refl _ _))
    simp only [execOp, ho, resolve, invoke, builtin, Sem.run_bind, Sem.run_pure, Result.andThen_ok, List.map_toArray, List.map_cons, List.map_nil, hx, hy]
    simp only [List.length_nil] at hfirst
    simp [Builtin.copy_, run_underlying hu, Builtin.lenOf, sizeOf, typeInfo, hi, hsz, hfirst]
  · injection hv with hv1 hv2 hv3
    subst hv1
    subst hv3
    have hmul := Nat.mul_le_mul_right K.sz hle
    have hmul2 := Nat.mul_le_mul_right K.sz hnc
    have hst := run_storeCells_at P g 0 K.e (K.cells ys) 0 cur w hg (by rw [cells_len, hcs]; omega) (cells_one ys)
    simp only [Nat.add_zero, Nat.zero_add, List.take_zero, List.nil_append] at hst
    refine OpG.of_run (v := goInt ys.length) (w' := w.setRow g (K.cells ys ++ cur.toList.drop (K.cells ys).length).toArray) ?_ (hR _ ⟨hnew, ?_⟩ ⟨rfl, rfl, rfl, by simp, fun k _ hk => setRow_other w g k _ (fun e => hk (by rw [e]; rfl))⟩)
    · simp only [execOp, ho, resolve, invoke, builtin, Sem.run_bind, Sem.run_pure, Result.andThen_ok, List.map_toArray, List.map_cons, List.map_nil, hx, hy]
      simp [Builtin.copy_, run_underlying hu, Builtin.lenOf, sizeOf, typeInfo, hi, hsz, hmin, hfirst, hst]
    · unfold Own
      rw [hnew]
      refine ⟨by rw [cells_len, hnew], .inr ⟨g, c, _, rfl, hbg, setRow_heap w g cur _ K.e _ hg, hnc, hcm, ?_, ?_⟩⟩
      · simp only [List.size_toArray, List.length_append, List.length_drop, Array.length_toList, cells_len]
        omega
      · have h0 : cur.toList.length = c * K.sz := by rw [Array.length_toList]; exact hcs
        have h1 : cur.toList.drop (K.cells ys).length = (K.cells xs).drop (ys.length * K.sz) ++ cur.toList.drop (xs.length * K.sz) := by
          rw [cells_len, ← htake, ← List.drop_append_of_le_length (by rw [List.length_take, h0]; omega), List.take_append_drop]
        rw [h1, cells_drop, ← List.append_assoc, ← cells_append, ← hnew, ← cells_len (K := K)]
        exact List.take_left
end
end Go.Proofs.Ytampekcanmakkaa.G
