/- Big arrays: as a list, of whatever length the type says. -/
import Derived.Test.YtampekcanmakkaaBase16
import Derived.Scope
set_option linter.unusedVariables false
namespace Go.Proofs.Ytampekcanmakkaa.G
open Go.RowKit
def bigT (P : Program) (T n e sz : Nat) : Bool := (match P.underlying T with | some (.array n' e') => n' == n && e' == e | _ => false) && (match P.info? T with | some i => i.size == n * sz | _ => false)
theorem bigT_some {P : Program} {T n e sz : Nat} (h : bigT P T n e sz = true) : P.underlying T = some (.array n e) ∧ ∃ i, P.info? T = some i ∧ i.size = n * sz := by
  unfold bigT at h
  rw [Bool.and_eq_true] at h
  obtain ⟨h1, h2⟩ := h
  constructor
  · split at h1
    · rename_i n' e' he
      rw [Bool.and_eq_true] at h1
      rw [he, eq_of_beq h1.1, eq_of_beq h1.2]
    · cases h1
  · split at h2
    · rename_i i hi
      exact ⟨i, hi, eq_of_beq h2⟩
    · cases h2
section
variable {P : Program} {o : Oper} {t : Array Value} {w : World} {R : Value → World → Prop} {α : Type} {K : Kn α}
theorem ldV_big {T n e : Nat} {xs : List α} (hT : bigT P T n e K.sz = true) (hl : xs.length = n) : ldV P T (K.cells xs).toArray 0 = some (.agg (K.cells xs).toArray) := by
  obtain ⟨h1, i, hi, hs⟩ := bigT_some hT
  have hc : (K.cells xs).toArray.size = n * K.sz := by rw [List.size_toArray, cells_len, hl]
  unfold ldV
  rw [h1]
  simp only [hi, hs, hc, Nat.zero_add]
  rw [if_pos (Nat.le_refl _), ← hc, Array.extract_size]
theorem bg_load {T U b n e : Nat} {x : Operand} {xs : List α} (ho : o.op = .load T x) (hT : bigT P T n e K.sz = true) (hx : Act.eval ⟨t, []⟩ x = .pointer (some ⟨b, 0, none⟩)) (hb : Blk w b (K.cells xs).toArray U) (hl : xs.length = n) (hR : R (.agg (K.cells xs).toArray) w) : OpG P o t [] w R :=
  og_load (off := 0) _ ho hx hb (ldV_big hT hl) hR
theorem bg_store {T U b n e : Nat} {x y : Operand} {xs ys : List α} (ho : o.op = .store T x y) (hT : bigT P T n e K.sz = true) (hx : Act.eval ⟨t, []⟩ x = .pointer (some ⟨b, 0, none⟩)) (hy : Act.eval ⟨t, []⟩ y = .agg (K.cells ys).toArray) (hb : Blk w b (K.cells xs).toArray U) (hl : xs.length = n) (hl2 : ys.length = n)
    (hR : ∀ w', Blk w' b (K.cells ys).toArray U → Kp (One b) w w' → R undef w') : OpG P o t [] w R := by
  obtain ⟨h1, i, hi, hs⟩ := bigT_some hT
  refine og_store (off := 0) (cs' := (K.cells ys).toArray) _ ho hx hy hb ?_ fun w' h k _ => hR w' h k
  have hc1 : (K.cells xs).length = n * K.sz := by rw [cells_len, hl]
  have hc2 : (K.cells ys).length = n * K.sz := by rw [cells_len, hl2]
  have hone : ((K.cells ys).all fun u => u.oneCell') = true := List.all_eq_true.2 fun u hu => cells_one ys u hu
  unfold stV
  rw [hi]
  simp only [Value.cells, List.size_toArray, hs, hc1, hc2, Nat.zero_add, hone, Nat.le_refl, and_self, if_true, List.take_zero, List.nil_append]
  rw [← hc1, List.drop_length, List.append_nil]
/-- An element of a big array's value. -/
theorem bg_index {T e n : Nat} {x y : Operand} {k : IntKind} {iv : Int} {xs : List α} (z : α) (v : Value) (ho : o.op = .index T x y) (hT : arrE P T = some (n, e, K.sz)) (hx : Act.eval ⟨t, []⟩ x = .agg (K.cells xs).toArray) (hy : Act.eval ⟨t, []⟩ y = .int k iv)
    (hn : xs.length = n) (h0 : 0 ≤ iv) (h1 : iv < (n : Int)) (hl : ldV P e (K.enc (rd z xs iv)).toArray 0 = some v) (hR : R v w) : OpG P o t [] w R :=
  ar_index z v ho hT hx hy rfl hn h0 h1 hl hR
end
section
variable {P : Program} {f : Func} {p p0 : List Nat} {Q : Exit → Act → World → Prop} {a : Act} {w : World} {i : Nat}
theorem w_scopeS (h : cd f p = .scope (cd f p0)) (hh : (cd f p0).wp P (Exit.noGoto Q) a w) : (cd f p).wp P Q a w := by rw [h]; exact wp_scope_straight hh
theorem q_ng (h : Q .normal a w) : Exit.noGoto Q .normal a w := h
theorem q_ng_x (h : Q (.exit i) a w) : Exit.noGoto Q (.exit i) a w := h
theorem q_ng_r (h : Q .ret a w) : Exit.noGoto Q .ret a w := h
end
theorem stored_len {α : Type} (xs : List α) (i : Int) (x : α) : (stored xs i x).length = xs.length := by unfold stored; rw [List.length_set]
end Go.Proofs.Ytampekcanmakkaa.G
