/- '==' of structs; arrays at an index that is reckoned. -/
import Derived.Test.YtampekcanmakkaaBase6
import Derived.Laws.StructEq
set_option linter.unusedVariables false
namespace Go.Proofs.Ytampekcanmakkaa.G
open Go.RowKit
def eqL (P : Program) (e : TypeId → Value → Value → Option Bool) (xs ys : Array Value) : List Field → Option Bool
  | [] => some true
  | f :: fs => if (f.name == "_") = true then eqL P e xs ys fs else
    match ldV P f.type xs f.offset, ldV P f.type ys f.offset with
    | some a, some b => match e f.type a b, eqL P e xs ys fs with
      | some r, some s => some (r && s)
      | _, _ => none
    | _, _ => none
def eqF (P : Program) : Nat → TypeId → Value → Value → Option Bool
  | 0, _, _, _ => none
  | d + 1, t, x, y => match P.underlying t with
    | some .bool => match x, y with
      | .bool a, .bool b => some (a == b)
      | _, _ => none
    | some (.int _) => match x, y with
      | .int k a, .int k' b => if k = k' then some (a == b) else none
      | _, _ => none
    | some .string => match x, y with
      | .string a, .string b => some (a.toList == b.toList)
      | _, _ => none
    | some (.struct fs) => match x, y with
      | .agg xs, .agg ys => if P.stoodInHeld t = true then none else eqL P (eqF P d) xs ys fs.toList
      | _, _ => none
    | _ => none
section
variable {P : Program} {w : World}
theorem run_part_ld {T : TypeId} {cs : Array Value} {off : Nat} {v : Value} (hl : ldV P T cs off = some v) : (part T cs off).run P w = .ok v w := by
  unfold ldV at hl
  have agg : ∀ d, P.underlying T = some d → (match d with | .struct _ | .array _ _ => true | _ => false) = true → (match P.info? T with
      | some i => if off + i.size ≤ cs.size then some (Value.agg (cs.extract off (off + i.size))) else none
      | none => none) = some v → (part T cs off).run P w = .ok v w := by
    intro d hd hk hl
    cases hi : P.info? T with
    | none => rw [hi] at hl; cases hl
    | some i =>
      rw [hi] at hl
      simp only at hl
      split at hl
      · injection hl with hl
        subst hl
        have hagg : (isAgg T).run P w = .ok true w := by
          unfold isAgg
          rw [Sem.run_bind, run_underlying hd w]
          cases d <;> simp_all
        simp [part, Sem.run_bind, hagg, sizeOf, typeInfo, hi]
      · cases hl
  have sca : ∀ d, P.underlying T = some d → (match d with | .struct _ | .array _ _ => true | _ => false) = false → cs[off]? = some v → (part T cs off).run P w = .ok v w := by
    intro d hd hk hl
    have hagg : (isAgg T).run P w = .ok false w := by
      unfold isAgg
      rw [Sem.run_bind, run_underlying hd w]
      cases d <;> simp_all
    simp [part, Sem.run_bind, hagg, hl]
  cases hd : P.underlying T with
  | none => rw [hd] at hl; cases hl
  | some d =>
    rw [hd] at hl
    cases d <;> first | exact agg _ hd rfl hl | exact sca _ hd rfl hl
theorem eqF_ok : ∀ (d : Nat) (t : TypeId) (x y : Value) (r : Bool) (e : Nat), eqF P d t x y = some r → (Op.equalIn (d + e) t x y).run P w = .ok r w
  | 0, _, _, _, _, _, h => by cases h
  | d + 1, t, x, y, r, e, h => by
    rw [show d + 1 + e = (d + e) + 1 by omega]
    unfold eqF at h
    split at h
    · rename_i hu
      split at h
      · injection h with h; subst h; exact run_equalIn_bool w _ _ _ _ hu
      · cases h
    · rename_i k0 hu
      split at h
      · split at h
        · rename_i hk; subst hk; injection h with h; subst h; exact run_equalIn_int w _ _ _ _ _ _ hu
        · cases h
      · cases h
    · rename_i hu
      split at h
      · injection h with h; subst h; exact run_equalIn_string w _ _ _ _ hu
      · cases h
    · rename_i fs hu
      split at h
      · rename_i xs ys
        split at h
        · cases h
        · rename_i hst
          have hf : P.fieldsOf t = fs := by simp [Program.fieldsOf, hu]
          rw [run_equalIn_struct (P := P) w (d + e) t xs ys (by rw [hf]; exact hu) (by simpa using hst), hf]
          have key : ∀ (l : List Field) (r : Bool), eqL P (eqF P d) xs ys l = some r → (Op.eqFields (d + e) xs ys l).run P w = .ok r w := by
            intro l
            induction l with
            | nil => intro r h; injection h with h; subst h; simp [Op.eqFields]
            | cons f l ih =>
              intro r h
              unfold eqL at h
              by_cases hn : (f.name == "_") = true
              · rw [if_pos hn] at h
                have hn' : ¬ (f.name ≠ "_") := by simpa using hn
                rw [Op.eqFields, if_neg hn']
                exact ih r h
              · rw [if_neg hn] at h
                have hn' : f.name ≠ "_" := by simpa using hn
                split at h
                · rename_i a b ha hb
                  split at h
                  · rename_i r1 s1 hr hs
                    injection h with h
                    have h1 := eqF_ok d f.type a b r1 e hr
                    have h2 := ih s1 hs
                    rw [Op.eqFields]
                    simp only [if_pos hn', Sem.run_bind, run_part_ld ha, run_part_ld hb, h1, Result.andThen_ok]
                    subst h
                    cases r1
                    · simp
                    · simpa using h2
                  · cases h
                · cases h
          exact key _ _ h
      · cases h
    · cases h
end
section
variable {P : Program} {o : Oper} {t : Array Value} {w : World} {R : Value → World → Prop}
theorem og_eqagg {T U : Nat} {x y : Operand} {xs ys : Array Value} (r : Bool) (ho : o.op = .binOp .eql T x y U) (hx : Act.eval ⟨t, []⟩ x = .agg xs) (hy : Act.eval ⟨t, []⟩ y = .agg ys) (hg : P.eqGuardType P.depth T = false) (h : eqF P 10 T (.agg xs) (.agg ys) = some r) (hR : R (.bool r) w) : OpG P o t [] w R := by
  refine OpG.of_run (v := .bool r) (w' := w) ?_ hR
  have h1 : (Op.equal T (.agg xs) (.agg ys)).run P w = .ok r w := eqF_ok (P := P) (w := w) 10 T _ _ r 9990 h
  simp [execOp, ho, hx, hy, eqGuard, binOp, Sem.run_bind, hg, h1]
theorem og_neagg {T U : Nat} {x y : Operand} {xs ys : Array Value} (r : Bool) (ho : o.op = .binOp .neq T x y U) (hx : Act.eval ⟨t, []⟩ x = .agg xs) (hy : Act.eval ⟨t, []⟩ y = .agg ys) (hg : P.eqGuardType P.depth T = false) (h : eqF P 10 T (.agg xs) (.agg ys) = some r) (hR : R (.bool (!r)) w) : OpG P o t [] w R := by
  refine OpG.of_run (v := .bool (!r)) (w' := w) ?_ hR
  have h1 : (Op.equal T (.agg xs) (.agg ys)).run P w = .ok r w := eqF_ok (P := P) (w := w) 10 T _ _ r 9990 h
  simp [execOp, ho, hx, hy, eqGuard, binOp, Sem.run_bind, hg, h1]
end
end Go.Proofs.Ytampekcanmakkaa.G
