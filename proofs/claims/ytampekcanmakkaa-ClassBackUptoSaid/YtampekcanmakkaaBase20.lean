/- '==' of arrays. -/
import Derived.Test.YtampekcanmakkaaBase19
import Derived.ChangeKeysEq
set_option linter.unusedVariables false
namespace Go.Proofs.Ytampekcanmakkaa.G
open Go Go.RowKit
def eqI (P : Program) (d : Nat) (e : TypeId) (xs ys : Array Value) : List Nat → Option Bool
  | [] => some true
  | i :: is => match ldV P e xs (i * P.cellsOf e), ldV P e ys (i * P.cellsOf e) with
    | some a, some b => match eqF P d e a b, eqI P d e xs ys is with
      | some r, some s => some (r && s)
      | _, _ => none
    | _, _ => none
section
variable {P : Program} {o : Oper} {t : Array Value} {w : World} {R : Value → World → Prop}
theorem eqI_ok (d k : Nat) (e : TypeId) (xs ys : Array Value) : ∀ (is : List Nat) (r : Bool), eqI P d e xs ys is = some r → (Op.eqItems (d + k) e (P.cellsOf e) xs ys is).run P w = .ok r w
  | [], r, h => by injection h with h; subst h; simp [Op.eqItems]
  | i :: is, r, h => by
    unfold eqI at h
    split at h
    · rename_i a b ha hb
      split at h
      · rename_i r1 s1 hr hs
        injection h with h
        have h1 := eqF_ok (P := P) (w := w) d e a b r1 k hr
        have h2 := eqI_ok d k e xs ys is s1 hs
        rw [Op.eqItems]
        simp only [Sem.run_bind, run_part_ld ha, run_part_ld hb, h1, Result.andThen_ok]
        subst h
        cases r1
        · simp
        · simpa using h2
      · cases h
    · cases h
theorem run_eqarr {T n e : Nat} {xs ys : Array Value} (r : Bool) (hu : P.underlying T = some (.array n e)) (hi : (P.info? e).isSome = true) (h : eqI P 9 e xs ys (List.range n) = some r) : (Op.equal T (.agg xs) (.agg ys)).run P w = .ok r w := by
  obtain ⟨i, hi⟩ := Option.isSome_iff_exists.1 hi
  have h1 := run_equalIn_array (P := P) w 9999 xs ys hu hi
  exact h1.trans (eqI_ok 9 9990 e xs ys _ r h)
theorem og_eqarr {T U : Nat} {x y : Operand} {xs ys : Array Value} (n e : Nat) (r : Bool) (ho : o.op = .binOp .eql T x y U) (hu : P.underlying T = some (.array n e)) (hi : (P.info? e).isSome = true) (hx : Act.eval ⟨t, []⟩ x = .agg xs) (hy : Act.eval ⟨t, []⟩ y = .agg ys) (hg : P.eqGuardType P.depth T = false) (h : eqI P 9 e xs ys (List.range n) = some r) (hR : R (.bool r) w) : OpG P o t [] w R := by
  refine OpG.of_run (v := .bool r) (w' := w) ?_ hR
  have h1 : (Op.equal T (.agg xs) (.agg ys)).run P w = .ok r w := run_eqarr r hu hi h
  simp [execOp, ho, hx, hy, eqGuard, binOp, Sem.run_bind, hg, h1]
theorem og_nearr {T U : Nat} {x y : Operand} {xs ys : Array Value} (n e : Nat) (r : Bool) (ho : o.op = .binOp .neq T x y U) (hu : P.underlying T = some (.array n e)) (hi : (P.info? e).isSome = true) (hx : Act.eval ⟨t, []⟩ x = .agg xs) (hy : Act.eval ⟨t, []⟩ y = .agg ys) (hg : P.eqGuardType P.depth T = false) (h : eqI P 9 e xs ys (List.range n) = some r) (hR : R (.bool (!r)) w) : OpG P o t [] w R := by
  refine OpG.of_run (v := .bool (!r)) (w' := w) ?_ hR
  have h1 : (Op.equal T (.agg xs) (.agg ys)).run P w = .ok r w := run_eqarr r hu hi h
  simp [execOp, ho, hx, hy, eqGuard, binOp, Sem.run_bind, hg, h1]
end
end Go.Proofs.Ytampekcanmakkaa.G
