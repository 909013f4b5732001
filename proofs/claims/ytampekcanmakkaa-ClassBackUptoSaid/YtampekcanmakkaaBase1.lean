/- Words of a walk by paths: code by its place, pure operations by the kernel, a region of open order in the text's order. Plain theorems. -/
import Derived.WalkKit
import Derived.KernelRfl
import Derived.Orders
import Derived.LoopN
set_option linter.unusedVariables false
namespace Go.Proofs.Ytampekcanmakkaa.G
open Go.RowKit

/-! ### code by its place -/
def sub : Code → Nat → Code
  | .seq a _, 0 => a
  | .seq _ b, _ => b
  | .cond _ a _, 0 => a
  | .cond _ _ b, _ => b
  | .block _ c, _ => c
  | .loop c, _ => c
  | .scope c, _ => c
  | .rangeFunc _ _ a _, 0 => a
  | .rangeFunc _ _ _ b, _ => b
  | c, _ => c
def cd (f : Func) (p : List Nat) : Code := p.foldl sub (f.body.getD .skip)
def ro (f : Func) (p : List Nat) : Array Oper := match cd f p with
  | .region _ o _ => o
  | _ => #[]
def opAt (f : Func) (p : List Nat) (i : Nat) : Oper := (ro f p).getD i default
def putv (t : Array Value) (d : Option Tmp) (v : Value) : Array Value := match d with
  | some d => t.setIfInBounds d v
  | none => t
theorem put_putv (t : Array Value) (ds : List Deferred) (d : Option Tmp) (v : Value) : (⟨t, ds⟩ : Act).put d v = ⟨putv t d v, ds⟩ := by cases d <;> rfl
def wnt (f : Func) (p : List Nat) (i : Nat) (t : Array Value) : Bool := Region.wanted (opAt f p i) (yielded (ro f p) t)
structure RL (P : Program) (f : Func) (p : List Nat) (i : Nat) (Q : Exit → Act → World → Prop) (a : Act) (w : World) : Prop where mk :: (out : wpList P (ro f p) Q ((ro f p).toList.drop i) a w)

section
variable {P : Program} {f : Func} {p p0 p1 : List Nat} {Q : Exit → Act → World → Prop} {a : Act} {w : World}
theorem w_seq (h : cd f p = .seq (cd f p0) (cd f p1)) (hh : (cd f p0).wp P (Exit.then (fun a w => (cd f p1).wp P Q a w) Q) a w) : (cd f p).wp P Q a w := by
  rw [h]; exact wp_seq hh
theorem w_skip (h : cd f p = .skip) (hh : Q .normal a w) : (cd f p).wp P Q a w := by rw [h]; exact wp_skip hh
theorem w_label {l : Nat} (h : cd f p = .label l) (hh : Q .normal a w) : (cd f p).wp P Q a w := by rw [h]; exact wp_label hh
theorem w_ret (h : cd f p = .ret) (hh : Q .ret a w) : (cd f p).wp P Q a w := by rw [h]; exact wp_ret hh
theorem w_exit {id : Nat} (h : cd f p = .exit id) (hh : Q (.exit id) a w) : (cd f p).wp P Q a w := by rw [h]; exact wp_exit hh
theorem w_block {id : Nat} (h : cd f p = .block id (cd f p0)) (hh : (cd f p0).wp P (Exit.inBlock id Q) a w) : (cd f p).wp P Q a w := by rw [h]; exact wp_block hh
theorem w_cond {c : Operand} {b : Bool} (h : cd f p = .cond c (cd f p0) (cd f p1)) (hc : a.eval c = .bool b) (ht : b = true → (cd f p0).wp P Q a w) (hf : b = false → (cd f p1).wp P Q a w) : (cd f p).wp P Q a w := by
  rw [h]; exact wp_cond_split hc ht hf
theorem w_region {id : Nat} (h : cd f p = .region id (ro f p) false) (hh : RL P f p 0 Q a w) : (cd f p).wp P Q a w := by
  rw [h]; exact wp_region_list hh.out
theorem w_scope (h : cd f p = .scope (cd f p0)) (hh : (Code.scope (cd f p0)).wp P Q a w) : (cd f p).wp P Q a w := by rw [h]; exact hh
theorem w_loop (n : Nat) (h : cd f p = .loop (cd f p0)) (hh : Code.rounds P (cd f p0) Q n a w) : (cd f p).wp P Q a w := by
  rw [h]; exact wp_loop_rounds n hh
end

/-! ### operations -/
/-- What an operation gives: a value in a world. -/
def OpG0 (P : Program) (o : Oper) (t : Array Value) (ds : List Deferred) (w : World) (R : Value → World → Prop) : Prop :=
  match (execOp (Act.eval ⟨t, ds⟩) o).run P w with
  | .ok (.value u) w' => R u w'
  | .ok .skip w' => R undef w'
  | .ok (.enter g args) w' => Calls P g args w' (fun e w'' => ∃ v, e = .returned v ∧ R v w'')
  | _ => False
structure OpG (P : Program) (o : Oper) (t : Array Value) (ds : List Deferred) (w : World) (R : Value → World → Prop) : Prop where mk :: (out : OpG0 P o t ds w R)
theorem OpG.mono {P : Program} {o : Oper} {t : Array Value} {ds : List Deferred} {w : World} {R R' : Value → World → Prop} (h : OpG P o t ds w R) (hr : ∀ v w', R v w' → R' v w') : OpG P o t ds w R' := by
  refine ⟨?_⟩
  replace h := h.out
  unfold OpG0 at *
  split at h
  · exact hr _ _ h
  · exact hr _ _ h
  · exact Calls.mono h fun e w'' ⟨v, he, hv⟩ => ⟨v, he, hr _ _ hv⟩
  · exact h.elim
theorem OpG.congr {P : Program} {o : Oper} {t t' : Array Value} {ds ds' : List Deferred} {w : World} {R : Value → World → Prop} (h : OpG P o t ds w R) (he : execOp (Act.eval ⟨t', ds'⟩) o = execOp (Act.eval ⟨t, ds⟩) o) : OpG P o t' ds' w R := by
  refine ⟨?_⟩
  replace h := h.out
  unfold OpG0 at *
  rw [he]; exact h
theorem OpG.wp {P : Program} {o : Oper} {t : Array Value} {ds : List Deferred} {w : World} {K : Act → World → Prop} {Q : Exit → Act → World → Prop} (h : OpG P o t ds w fun v w' => K ⟨putv t o.dst v, ds⟩ w') : o.wp P ⟨t, ds⟩ w K Q := by
  replace h := h.out
  unfold OpG0 at h
  unfold Oper.wp
  split at h
  · rename_i u w' he; rw [he]; simpa only [Oper.upon, put_putv] using h
  · rename_i w' he; rw [he]; simpa only [Oper.upon, put_putv] using h
  · rename_i g args w' he
    rw [he]
    simp only [Oper.upon]
    refine Calls.mono h ?_
    rintro e w'' ⟨v, rfl, hv⟩
    simpa only [put_putv] using hv
  · exact h.elim
theorem OpG.of_run {P : Program} {o : Oper} {t : Array Value} {ds : List Deferred} {w w' : World} {v : Value} {R : Value → World → Prop} (h : (execOp (Act.eval ⟨t, ds⟩) o).run P w = .ok (.value v) w') (hr : R v w') : OpG P o t ds w R := by
  refine ⟨?_⟩
  unfold OpG0; rw [h]; exact hr
theorem OpG.of_skip {P : Program} {o : Oper} {t : Array Value} {ds : List Deferred} {w w' : World} {R : Value → World → Prop} (h : (execOp (Act.eval ⟨t, ds⟩) o).run P w = .ok .skip w') (hr : R undef w') : OpG P o t ds w R := by
  refine ⟨?_⟩
  unfold OpG0; rw [h]; exact hr
theorem OpG.of_call {P : Program} {o : Oper} {t : Array Value} {ds : List Deferred} {w : World} {g : FuncId} {args : Array Value} {R : Value → World → Prop} (h : (execOp (Act.eval ⟨t, ds⟩) o).run P w = .ok (.enter g args) w)
    (hc : Calls P g args w (fun e w' => ∃ v, e = .returned v ∧ R v w')) : OpG P o t ds w R := by
  refine ⟨?_⟩
  unfold OpG0; rw [h]; exact hc

/-- Pure operations, one behind the other, by the model's own run. -/
def pureRun (P : Program) (ops : Array Oper) : List Oper → Array Value → World → Option (Array Value × World)
  | [], t, w => some (t, w)
  | o :: r, t, w =>
    if Region.wanted o (yielded ops t) then
      match (execOp (Act.eval ⟨t, []⟩) o).run P w with
      | .ok (.value v) w' => pureRun P ops r (putv t o.dst v) w'
      | _ => none
    else pureRun P ops r (putv t o.dst undef) w
def seg (f : Func) (p : List Nat) (i j : Nat) : List Oper := ((ro f p).toList.drop i).take (j - i)

section
variable {P : Program} {f : Func} {p : List Nat} {Q : Exit → Act → World → Prop} {w w' : World} {t t' : Array Value}
theorem r_end {i : Nat} {a : Act} (h : (ro f p).toList.drop i = []) (hq : Q .normal a w) : RL P f p i Q a w := by
  refine ⟨?_⟩
  rw [h]; exact hq
theorem drop_op {i : Nat} (h : i < (ro f p).size) : (ro f p).toList.drop i = opAt f p i :: (ro f p).toList.drop (i + 1) := by
  rw [List.drop_eq_getElem_cons (by simpa using h)]
  congr 1
  simp [opAt, Array.getD_eq_getD_getElem?, Array.getElem?_eq_getElem h]
theorem r_op {i : Nat} (hi : i < (ro f p).size) (hw : wnt f p i t = true) (h : OpG P (opAt f p i) t [] w fun v w' => RL P f p (i + 1) Q ⟨putv t (opAt f p i).dst v, []⟩ w') : RL P f p i Q ⟨t, []⟩ w := by
  refine ⟨?_⟩
  rw [drop_op hi]
  unfold wpList
  rw [if_pos (show Region.wanted (opAt f p i) (yielded (ro f p) t) = true from hw)]
  exact .inl (h.mono fun _ _ h => h.out).wp
theorem r_skip {i : Nat} (hi : i < (ro f p).size) (hw : wnt f p i t = false) (h : RL P f p (i + 1) Q ⟨putv t (opAt f p i).dst undef, []⟩ w) : RL P f p i Q ⟨t, []⟩ w := by
  refine ⟨?_⟩
  rw [drop_op hi]
  unfold wpList
  rw [if_neg (show ¬ Region.wanted (opAt f p i) (yielded (ro f p) t) = true from by unfold wnt at hw; rw [hw]; simp), put_putv]
  exact h.out
theorem pure_list {ops : Array Oper} : ∀ (l rest : List Oper) (t : Array Value) (w : World), pureRun P ops l t w = some (t', w') → wpList P ops Q rest ⟨t', []⟩ w' → wpList P ops Q (l ++ rest) ⟨t, []⟩ w
  | [], rest, t, w, h, hh => by
    simp only [pureRun, Option.some.injEq, Prod.mk.injEq] at h
    obtain ⟨rfl, rfl⟩ := h
    exact hh
  | o :: l, rest, t, w, h, hh => by
    simp only [pureRun] at h
    show wpList P ops Q (o :: (l ++ rest)) _ _
    unfold wpList
    split at h
    · rename_i hw
      rw [if_pos hw]
      left
      split at h
      · rename_i v w1 he
        refine OpG.wp (OpG.of_run he ?_)
        exact pure_list l rest _ _ h hh
      · cases h
    · rename_i hw
      rw [if_neg hw, put_putv]
      exact pure_list l rest _ _ h hh
theorem r_pure {i : Nat} (j : Nat) (hij : i ≤ j) (h : pureRun P (ro f p) (seg f p i j) t w = some (t', w')) (hh : RL P f p j Q ⟨t', []⟩ w') : RL P f p i Q ⟨t, []⟩ w := by
  refine ⟨?_⟩
  replace hh := hh.out
  have e : (ro f p).toList.drop i = seg f p i j ++ (ro f p).toList.drop j := by
    unfold seg
    have : (ro f p).toList.drop j = ((ro f p).toList.drop i).drop (j - i) := by rw [List.drop_drop]; congr 1; omega
    rw [this, List.take_append_drop]
  rw [e]
  exact pure_list _ _ _ _ h hh
end

end Go.Proofs.Ytampekcanmakkaa.G
