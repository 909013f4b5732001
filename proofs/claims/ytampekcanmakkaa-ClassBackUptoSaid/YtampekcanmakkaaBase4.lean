/- Ends of code, results, calls, strings, appends, cuts. -/
import Derived.Test.YtampekcanmakkaaBase3
import Derived.Laws.BytesString
set_option linter.unusedVariables false
namespace Go.Proofs.Ytampekcanmakkaa.G
open Go.RowKit
section
variable {P : Program} {Q : Exit → Act → World → Prop} {K : Act → World → Prop} {a : Act} {w : World} {i j : Nat}
theorem q_then (h : K a w) : Exit.then K Q .normal a w := h
theorem q_then_x (h : Q (.exit i) a w) : Exit.then K Q (.exit i) a w := h
theorem q_then_r (h : Q .ret a w) : Exit.then K Q .ret a w := h
theorem q_in (h : Q .normal a w) : Exit.inBlock i Q .normal a w := h
theorem q_in_hit (h : Q .normal a w) : Exit.inBlock i Q (.exit i) a w := by simp only [Exit.inBlock, if_true]; exact h
theorem q_in_miss (hn : (j == i) = false) (h : Q (.exit j) a w) : Exit.inBlock i Q (.exit j) a w := by
  have : ¬ j = i := by simpa using hn
  simp only [Exit.inBlock, if_neg this]; exact h
theorem q_in_r (h : Q .ret a w) : Exit.inBlock i Q .ret a w := h
end
theorem calls_cd {P : Program} {n : FuncId} {f : Func} {args t : Array Value} {w : World} {R : Ending → World → Prop} (hf : P.funcs[n]? = some f) (hb : f.body.isSome = true) (ht : args ++ Array.replicate (f.ntmps - args.size) undef = t)
    (h : (cd f []).wp P (bodyPost P f R) ⟨t, []⟩ w) : Calls P n args w R := by
  obtain ⟨c, hc⟩ := Option.isSome_iff_exists.1 hb
  refine calls_of_wp hf hc ?_
  rw [ht]
  have : cd f [] = c := by simp [cd, hc]
  rw [← this]; exact h
/-- Results. -/
def resV (P : Program) (t : Array Value) : List ResultVar → World → List Value → Prop
  | [], _, vs => vs = []
  | .tmp x :: r, w, v :: vs => t.getD x undef = v ∧ resV P t r w vs
  | .cell x T :: r, w, v :: vs => (∃ ad, t.getD x undef = .pointer (some ad) ∧ (loadVar T ad).run P w = .ok v w) ∧ resV P t r w vs
  | _ :: _, _, [] => False
def rvF (t : Array Value) : ResultVar → Sem Value
  | .tmp x => pure (t.getD x undef)
  | .cell x T => do loadVar T (← asAddr (t.getD x undef))
theorem rvF_cell {P : Program} {t : Array Value} {x : Tmp} {T : TypeId} {ad : Addr} {v : Value} {w : World} (h : t.getD x undef = .pointer (some ad)) (hl : (loadVar T ad).run P w = .ok v w) : (rvF t (.cell x T)).run P w = .ok v w := by
  have h1 : (asAddr (t.getD x undef)).run P w = .ok ad w := by rw [h]; rfl
  unfold rvF
  rw [Sem.run_bind, h1, Result.andThen_ok, hl]
theorem resV_map {P : Program} {t : Array Value} : ∀ {rs : List ResultVar} {w : World} {vs : List Value}, resV P t rs w vs → (rs.mapM (rvF t)).run P w = .ok vs w
  | [], w, vs, h => by cases h; rfl
  | .tmp x :: r, w, [], h => h.elim
  | .cell x T :: r, w, [], h => h.elim
  | .tmp x :: r, w, v :: vs, h => by
    obtain ⟨h1, h2⟩ := h
    have h3 : (rvF t (.tmp x)).run P w = .ok v w := by subst h1; rfl
    rw [List.mapM_cons, Sem.run_bind, h3, Result.andThen_ok, Sem.run_bind, resV_map h2, Result.andThen_ok]
    rfl
  | .cell x T :: r, w, v :: vs, h => by
    obtain ⟨⟨ad, h1, h3⟩, h2⟩ := h
    rw [List.mapM_cons, Sem.run_bind, rvF_cell h1 h3, Result.andThen_ok, Sem.run_bind, resV_map h2, Result.andThen_ok]
    rfl
def oneOf : List Value → Value
  | [x] => x
  | l => .tuple l.toArray
theorem body_ret {P : Program} {f : Func} {R : Ending → World → Prop} {t : Array Value} {w : World} {vs : List Value} {v : Value} (hr : resV P t f.results.toList w vs) (hv : oneOf vs = v) (h : R (.returned v) w) : bodyPost P f R .ret ⟨t, []⟩ w := by
  refine ⟨rfl, v, ?_, h⟩
  have h1 := resV_map hr
  have h0 : results f t = (do let vs ← f.results.mapM (rvF t); pure (if h : vs.size = 1 then vs[0] else .tuple vs)) := rfl
  have h3 : (f.results.mapM (rvF t)).run P w = .ok vs.toArray w := by
    rw [Array.mapM_eq_mapM_toList]
    show (Sem.run P ((f.results.toList.mapM (rvF t)) >>= fun x => pure x.toArray) w) = _
    rw [Sem.run_bind, h1]
    rfl
  show (results f t).run P w = _
  rw [h0, Sem.run_bind, h3, Result.andThen_ok, ← hv]
  rcases vs with _ | ⟨x, _ | ⟨y, l⟩⟩
  · rfl
  · rfl
  · simp [Sem.run_pure, oneOf]
theorem rv_tmp {P : Program} {t : Array Value} {x : Tmp} {r : List ResultVar} {w : World} {v : Value} {vs : List Value} (h : t.getD x undef = v) (hr : resV P t r w vs) : resV P t (.tmp x :: r) w (v :: vs) := ⟨h, hr⟩
theorem rv_cell {P : Program} {t : Array Value} {x : Tmp} {T b off U : Nat} {cs : Array Value} {r : List ResultVar} {w : World} {v : Value} {vs : List Value} (h : t.getD x undef = .pointer (some ⟨b, off, none⟩)) (hb : Blk w b cs U) (hl : ldV P T cs off = some v) (hr : resV P t r w vs) : resV P t (.cell x T :: r) w (v :: vs) :=
  ⟨⟨_, h, run_loadVar_at (fun j u hj => by rw [add_blk, hb.cell]; exact hj) hl⟩, hr⟩
section
variable {P : Program} {o : Oper} {t : Array Value} {w : World} {R : Value → World → Prop}
theorem og_call {g : FuncId} {av : Array Value} (h : (execOp (Act.eval ⟨t, []⟩) o).run P w = .ok (.enter g av) w) (hc : Calls P g av w (fun e w' => ∃ v, e = .returned v ∧ R v w')) : OpG P o t [] w R := OpG.of_call h hc
theorem og_run {v : Value} (h : (execOp (Act.eval ⟨t, []⟩) o).run P w = .ok (.value v) w) (hR : R v w) : OpG P o t [] w R := OpG.of_run h hR
end

/-! ### kinds of scalars -/
def kInt (k : IntKind) (e : TypeId) : Kn Int := ⟨1, e, fun x => [.int k x], fun _ => rfl, fun x u hu => by simp at hu; subst hu; rfl⟩
def kBool (e : TypeId) : Kn Bool := ⟨1, e, fun x => [.bool x], fun _ => rfl, fun x u hu => by simp at hu; subst hu; rfl⟩
def kStr (e : TypeId) : Kn ByteArray := ⟨1, e, fun x => [.string x], fun _ => rfl, fun x u hu => by simp at hu; subst hu; rfl⟩
abbrev W (x : Int) : Int := IntKind.i64.wrap x
abbrev W8 (x : Int) : Int := IntKind.u8.wrap x
abbrev W64 (x : Int) : Int := IntKind.u64.wrap x
theorem W_eq (x : Int) : W x = (x + 9223372036854775808) % 18446744073709551616 - 9223372036854775808 := by
  have h1 : ((2 : Int) ^ IntKind.i64.bits) = 18446744073709551616 := rfl
  have h2 : ((2 : Int) ^ (IntKind.i64.bits - 1)) = 9223372036854775808 := rfl
  simp only [W, IntKind.wrap, h1, h2]
  simp only [IntKind.signed, Bool.true_and, decide_eq_true_eq]
  split <;> omega
theorem W_id {x : Int} (h0 : -9223372036854775808 ≤ x) (h1 : x ≤ 9223372036854775807) : W x = x := by rw [W_eq]; omega
theorem W8_eq (x : Int) : W8 x = x % 256 := by simp [W8, IntKind.wrap, IntKind.signed, IntKind.bits]
theorem W64_eq (x : Int) : W64 x = x % 18446744073709551616 := by simp [W64, IntKind.wrap, IntKind.signed, IntKind.bits]
/-- A byte of a string. -/
def bt (s : ByteArray) (i : Int) : Int := (((s[i.toNat]?).map (·.toNat)).getD 0 : Nat)
section
variable {P : Program} {o : Oper} {t : Array Value} {w : World} {R : Value → World → Prop}
theorem og_sindex {T : Nat} {x y : Operand} {k : IntKind} {s : ByteArray} {iv : Int} (ho : o.op = .index T x y) (hT : P.underlying T = some .string) (hx : Act.eval ⟨t, []⟩ x = .string s) (hy : Act.eval ⟨t, []⟩ y = .int k iv) (h0 : 0 ≤ iv) (h1 : iv < (s.size : Int))
    (hR : R (.int .u8 (bt s iv)) w) : OpG P o t [] w R := by
  refine OpG.of_run (v := .int .u8 (bt s iv)) (w' := w) ?_ hR
  have h2 : s[iv.toNat]? = some (s[iv.toNat]'(by omega)) := getElem?_pos s iv.toNat (by omega)
  simp [execOp, ho, hx, hy, Instr.index, asIntOf, run_underlying hT, h0, h2, bt]
theorem og_scut {T : Nat} {x : Operand} {lo hi : Option Operand} {s : ByteArray} {l h : Int} {kl kh : IntKind} (ho : o.op = .slice T x lo hi none) (hT : P.underlying T = some .string) (hx : Act.eval ⟨t, []⟩ x = .string s)
    (hlo : (match lo with | some y => Act.eval ⟨t, []⟩ y | none => .int kl 0) = .int kl l) (hhi : (match hi with | some y => Act.eval ⟨t, []⟩ y | none => .int kh s.size) = .int kh h) (h0 : 0 ≤ l) (h1 : l ≤ h) (h2 : h ≤ (s.size : Int))
    (hR : R (.string (s.extract l.toNat h.toNat)) w) : OpG P o t [] w R := by
  refine OpG.of_run (v := .string (s.extract l.toNat h.toNat)) (w' := w) ?_ hR
  have h3 : 0 ≤ h := by omega
  have h4 : l ≤ (h.toNat : Int) := by omega
  cases lo with
  | none =>
    simp only [Value.int.injEq, true_and] at hlo
    subst hlo
    cases hi with
    | none =>
      simp only [Value.int.injEq, true_and] at hhi
      subst hhi
      simp [execOp, ho, hx, Instr.sliceAt, Instr.slice, Instr.sliceBounds, run_underlying hT]
    | some y =>
      simp only at hhi
      simp [execOp, ho, hx, hhi, Instr.sliceAt, Instr.slice, Instr.sliceBounds, Instr.sliceBound, asIntOf, run_underlying hT, h2, h3]
  | some z =>
    simp only at hlo
    cases hi with
    | none =>
      simp only [Value.int.injEq, true_and] at hhi
      subst hhi
      simp [execOp, ho, hx, hlo, Instr.sliceAt, Instr.slice, Instr.sliceBounds, Instr.sliceBound, asIntOf, run_underlying hT, h0, h1]
    | some y =>
      simp only at hhi
      have h5 : (h.toNat : Int) = h := by omega
      simp [execOp, ho, hx, hlo, hhi, Instr.sliceAt, Instr.slice, Instr.sliceBounds, Instr.sliceBound, asIntOf, run_underlying hT, h0, h1, h2, h3, h4, h5]
theorem og_cat {T U : Nat} {x y : Operand} {s u : ByteArray} (ho : o.op = .binOp .add T x y U) (hx : Act.eval ⟨t, []⟩ x = .string s) (hy : Act.eval ⟨t, []⟩ y = .string u) (h : s.size + u.size ≤ 9223372036854775807) (hR : R (.string (s ++ u)) w) : OpG P o t [] w R := by
  refine OpG.of_run (v := .string (s ++ u)) (w' := w) ?_ hR
  have h1 : ¬ ((s.size : Int) + (u.size : Int) > 9223372036854775807) := by omega
  have h2 : ¬ (9223372036854775807 < (s.size : Int) + (u.size : Int)) := by omega
  simp [execOp, ho, hx, hy, eqGuard, binOp, Op.stringOp, IntKind.max, IntKind.signed, IntKind.bits, h2, Sem.run_bind]
/-- A shift by a count that is not below 0. -/
def shv (op : BinOp) (k : IntKind) (x y : Int) : Int := match op with
  | .shl => k.wrap (x * 2 ^ (min y.toNat k.bits))
  | _ => x.fdiv (2 ^ (min y.toNat k.bits))
theorem og_shift {op : BinOp} {T U : Nat} {x y : Operand} {k k' : IntKind} {a b : Int} (hop : op = .shl ∨ op = .shr) (ho : o.op = .binOp op T x y U) (hx : Act.eval ⟨t, []⟩ x = .int k a) (hy : Act.eval ⟨t, []⟩ y = .int k' b) (h0 : 0 ≤ b) (hR : R (.int k (shv op k a b)) w) : OpG P o t [] w R := by
  refine OpG.of_run (v := .int k (shv op k a b)) (w' := w) ?_ hR
  have h1 : ¬ b < 0 := by omega
  rcases hop with rfl | rfl <;> simp [execOp, ho, hx, hy, eqGuard, binOp, Op.shift, h1, shv, Sem.run_bind]
end
end Go.Proofs.Ytampekcanmakkaa.G
