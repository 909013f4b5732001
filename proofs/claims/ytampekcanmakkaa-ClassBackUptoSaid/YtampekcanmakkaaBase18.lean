/- The same words in a round of a range over a function, and ahead of its end. -/
import Derived.Test.YtampekcanmakkaaBase17
import Derived.RangeFuncNested
import Derived.RangeFuncBound
import Derived.RangeFuncCalls
import Derived.RangeFuncLeaves
import Derived.OwnWalkIn
import Derived.TacticsInMore
import Derived.LoopNIn
import Derived.LoopIn
set_option linter.unusedVariables false
namespace Go.Proofs.Ytampekcanmakkaa.G
open Go.RowKit
structure Wd (F : Fence) : Prop where
  fn : ∀ f, F.fn f
  dep : F.depth = none
  calls : ∀ {n : Nat} {P : Program} {g : FuncId} {args : Array Value} {w : World} {R : Ending → World → Prop}, Calls P g args w R → CallsIn F n P g args w R
theorem wd_wide : Wd Fence.wide := ⟨fun _ => trivial, rfl, fun h => callsIn_wide.2 h⟩
theorem wd_round (l : Nat) : Wd (Fence.wide.inRound l) := ⟨fun _ => trivial, rfl, fun h => CallsIn.inRound l (callsIn_wide.2 h)⟩
def noDefer (o : Oper) : Bool := match o.op with | .defer _ => false | _ => true
theorem eval_ds (t : Array Value) (ds : List Deferred) : Act.eval ⟨t, ds⟩ = Act.eval ⟨t, []⟩ := funext fun x => by cases x <;> rfl
structure VL (F : Fence) (n : Nat) (P : Program) (f : Func) (p : List Nat) (i : Nat) (Q : Exit → Act → World → Prop) (a : Act) (w : World) : Prop where mk :: (out : wpListIn F n P (ro f p) Q ((ro f p).toList.drop i) a w)
section
variable {F : Fence} {n : Nat} {P : Program} {f : Func} {p p0 p1 : List Nat} {Q : Exit → Act → World → Prop} {a : Act} {w w' : World} {t t' : Array Value} {ds : List Deferred} {i : Nat}
theorem v_seq (h : cd f p = .seq (cd f p0) (cd f p1)) (hh : (cd f p0).wpIn F n P (Exit.then (fun a w => (cd f p1).wpIn F n P Q a w) Q) a w) : (cd f p).wpIn F n P Q a w := by
  rw [h]; exact wpIn_seq hh
theorem v_skip (h : cd f p = .skip) (hh : Q .normal a w) : (cd f p).wpIn F n P Q a w := by rw [h]; exact wpIn_skip hh
theorem v_ret (h : cd f p = .ret) (hh : Q .ret a w) : (cd f p).wpIn F n P Q a w := by rw [h]; exact wpIn_ret hh
theorem v_exit {id : Nat} (h : cd f p = .exit id) (hh : Q (.exit id) a w) : (cd f p).wpIn F n P Q a w := by rw [h]; exact wpIn_exit hh
theorem v_block {id : Nat} (h : cd f p = .block id (cd f p0)) (hh : (cd f p0).wpIn F n P (Exit.inBlock id Q) a w) : (cd f p).wpIn F n P Q a w := by rw [h]; exact wpIn_block hh
theorem v_cond {c : Operand} {b : Bool} (h : cd f p = .cond c (cd f p0) (cd f p1)) (hc : Act.eval ⟨t, []⟩ c = .bool b) (ht : b = true → (cd f p0).wpIn F n P Q ⟨t, ds⟩ w) (hf : b = false → (cd f p1).wpIn F n P Q ⟨t, ds⟩ w) : (cd f p).wpIn F n P Q ⟨t, ds⟩ w := by
  rw [h]; exact wpIn_cond_split (by rw [eval_ds]; exact hc) ht hf
theorem v_region {id : Nat} (h : cd f p = .region id (ro f p) false) (hh : VL F n P f p 0 Q a w) : (cd f p).wpIn F n P Q a w := by
  rw [h]; exact wpIn_region_list hh.out
theorem v_loop (m : Nat) (h : cd f p = .loop (cd f p0)) (hh : Code.roundsIn F n P (cd f p0) Q m a w) : (cd f p).wpIn F n P Q a w := by
  rw [h]; exact wpIn_loop_rounds m hh
theorem v_fin (i : Nat) (h : (ro f p).toList.drop i = []) (hq : Q .normal a w) : VL F n P f p i Q a w := ⟨by rw [h]; exact hq⟩
theorem semAt_ex (ro : Option Nat) {o : Oper} (hd : noDefer o = true) (ρ : Operand → Value) : o.semAt ro ρ = execOp ρ o := Oper.semAt_eq ro ρ o fun c hc => by rw [noDefer, hc] at hd; cases hd
theorem OpG.wpIn (hF : Wd F) {o : Oper} {K : Act → World → Prop} (hd : noDefer o = true) (h : OpG P o t [] w fun v w' => K ⟨putv t o.dst v, ds⟩ w') : o.wpIn F n P ⟨t, ds⟩ w K Q := by
  refine ⟨fun f _ => hF.fn f, ?_⟩
  rw [semAt_ex _ hd, eval_ds]
  replace h := h.out
  unfold OpG0 at h
  split at h
  · rename_i u w' he
    rw [he, Oper.uponIn_value, put_putv]; exact h
  · rename_i w' he
    rw [he, Oper.uponIn_skip, put_putv]; exact h
  · rename_i g args w' he
    rw [he, Oper.uponIn_enter]
    refine ⟨fun hh => (by rw [hF.dep] at hh; cases hh), hF.calls (Calls.mono h ?_)⟩
    rintro e w'' ⟨v, rfl, hv⟩
    simp only [put_putv]
    exact hv
  · exact h.elim
theorem v_do (hF : Wd F) (i : Nat) (h : (decide (i < (ro f p).size) && wnt f p i t && noDefer (opAt f p i)) = true) (hh : OpG P (opAt f p i) t [] w fun v w' => VL F n P f p (i + 1) Q ⟨putv t (opAt f p i).dst v, ds⟩ w') : VL F n P f p i Q ⟨t, ds⟩ w := by
  rw [Bool.and_eq_true, Bool.and_eq_true, decide_eq_true_eq] at h
  obtain ⟨⟨h1, h2⟩, h3⟩ := h
  refine ⟨?_⟩
  rw [drop_op h1]
  unfold wpListIn
  rw [if_pos (show Region.wanted (opAt f p i) (yielded (ro f p) t) = true from h2)]
  exact OpG.wpIn hF h3 (hh.mono fun _ _ h => h.out)
/-- A call of yield. -/
theorem v_yield (hF : Wd F) (i : Nat) {l fn : Nat} {tmps : Array Value} {assign body : Code} (h : (decide (i < (ro f p).size) && wnt f p i t && noDefer (opAt f p i)) = true) (he : (execOp (Act.eval ⟨t, []⟩) (opAt f p i)).run P w = .ok (.round l fn tmps assign body) w)
    (hh : RoundIn F (n - 1) P l fn tmps assign body w fun e w' => ∃ v, e = .returned v ∧ VL F n P f p (i + 1) Q ⟨putv t (opAt f p i).dst v, ds⟩ w') : VL F n P f p i Q ⟨t, ds⟩ w := by
  rw [Bool.and_eq_true, Bool.and_eq_true, decide_eq_true_eq] at h
  obtain ⟨⟨h1, h2⟩, h3⟩ := h
  refine ⟨?_⟩
  rw [drop_op h1]
  unfold wpListIn
  rw [if_pos (show Region.wanted (opAt f p i) (yielded (ro f p) t) = true from h2)]
  refine ⟨fun f _ => hF.fn f, ?_⟩
  rw [semAt_ex _ h3, eval_ds, he, Oper.uponIn_round]
  refine ⟨fun hh => (by rw [hF.dep] at hh; cases hh), hh.mono ?_⟩
  rintro e w'' ⟨v, rfl, hv⟩
  simp only [put_putv]
  exact hv.out
theorem v_yield2 (hF : Wd F) (i : Nat) {l fn : Nat} {args tmps : Array Value} {assign body : Code} (h : (decide (i < (ro f p).size) && wnt f p i t && noDefer (opAt f p i)) = true) (hx : execOp (Act.eval ⟨t, []⟩) (opAt f p i) = Instr.yield l args) (he : (Instr.yield l args).run P w = .ok (.round l fn tmps assign body) w)
    (hh : RoundIn F (n - 1) P l fn tmps assign body w fun e w' => ∃ v, e = .returned v ∧ VL F n P f p (i + 1) Q ⟨putv t (opAt f p i).dst v, ds⟩ w') : VL F n P f p i Q ⟨t, ds⟩ w := v_yield hF i h (by rw [hx]; exact he) hh
theorem vl_vals (hF : Wd F) {ops : Array Oper} : ∀ (l : List Oper) (vs : List Value) (rest : List Oper) (t : Array Value), l.length = vs.length → (l.all noDefer) = true → runs P ops l vs t w = (vs.map fun v => .ok (.value v) w) → wpListIn F n P ops Q rest ⟨puts l vs t, ds⟩ w → wpListIn F n P ops Q (l ++ rest) ⟨t, ds⟩ w
  | [], [], rest, t, _, _, _, hh => hh
  | [], _ :: _, _, _, h, _, _, _ => by simp at h
  | _ :: _, [], _, _, h, _, _, _ => by simp at h
  | o :: l, v :: vs, rest, t, hl, hnd, h, hh => by
    simp only [runs, List.map_cons, List.cons.injEq] at h
    obtain ⟨h1, h2⟩ := h
    simp only [List.all_cons, Bool.and_eq_true] at hnd
    show wpListIn F n P ops Q (o :: (l ++ rest)) _ _
    unfold wpListIn
    have nxt := vl_vals hF l vs rest (putv t o.dst v) (by simpa using hl) hnd.2 h2 hh
    by_cases hw : Region.wanted o (yielded ops t) = true
    · rw [if_pos hw] at h1
      rw [if_pos hw]
      exact OpG.wpIn hF hnd.1 (OpG.of_run h1 nxt)
    · rw [if_neg hw] at h1
      rw [if_neg hw, put_putv]
      injection h1 with h1
      injection h1 with h1
      subst h1
      exact ⟨fun f _ => hF.fn f, nxt⟩
theorem v_vals (hF : Wd F) (i j : Nat) (vs : List Value) (hl : (decide (i ≤ j) && decide ((seg f p i j).length = vs.length) && (seg f p i j).all noDefer) = true) (h : runs P (ro f p) (seg f p i j) vs t w = (vs.map fun v => .ok (.value v) w)) (hh : VL F n P f p j Q ⟨puts (seg f p i j) vs t, ds⟩ w) : VL F n P f p i Q ⟨t, ds⟩ w := by
  rw [Bool.and_eq_true, Bool.and_eq_true, decide_eq_true_eq, decide_eq_true_eq] at hl
  obtain ⟨⟨hl1, hl2⟩, hl3⟩ := hl
  refine ⟨?_⟩
  replace hh := hh.out
  have e : (ro f p).toList.drop i = seg f p i j ++ (ro f p).toList.drop j := by
    unfold seg
    have : (ro f p).toList.drop j = ((ro f p).toList.drop i).drop (j - i) := by rw [List.drop_drop]; congr 1; omega
    rw [this, List.take_append_drop]
  rw [e]
  exact vl_vals hF _ _ _ _ hl2 hl3 h hh
theorem v_into (T : (Nat → Value) → Array Value) (h : t = T (fun i => t.getD i undef)) (hh : ∀ u, (cd f p).wpIn F n P Q ⟨T u, ds⟩ w) : (cd f p).wpIn F n P Q ⟨t, ds⟩ w := by rw [h]; exact hh _
theorem v_rinto {c : Code} {m : Nat} (T : (Nat → Value) → Array Value) (h : t = T (fun i => t.getD i undef)) (hh : ∀ u, Code.roundsIn F n P c Q m ⟨T u, ds⟩ w) : Code.roundsIn F n P c Q m ⟨t, ds⟩ w := by rw [h]; exact hh _
theorem v_wide (h : (cd f p).wpIn Fence.wide n P Q a w) : (cd f p).wp P Q a w := wpIn_wide.1 h
theorem v_of (h : (cd f p).wp P Q a w) : (cd f p).wpIn Fence.wide n P Q a w := wpIn_wide.2 h
end
theorem vcalls {n : Nat} {P : Program} {g : FuncId} {f : Func} {args t : Array Value} {w : World} {R : Ending → World → Prop} (hf : P.funcs[g]? = some f) (hb : f.body.isSome = true) (ht : args ++ Array.replicate (f.ntmps - args.size) undef = t)
    (h : (cd f []).wpIn Fence.wide n P (bodyPost P f R) ⟨t, []⟩ w) : CallsIn Fence.wide n P g args w R := by
  obtain ⟨c, hc⟩ := Option.isSome_iff_exists.1 hb
  refine callsIn_of_wp hf hc trivial ?_ rfl
  rw [ht]
  have : cd f [] = c := by simp [cd, hc]
  rw [← this]; exact h
theorem vcalls_marks {n : Nat} {P : Program} {g : FuncId} {f : Func} {args t : Array Value} {w : World} {R : Ending → World → Prop} (hf : P.funcs[g]? = some f) (hb : f.body.isSome = true) (ht : args ++ Array.replicate (f.ntmps - args.size) undef = t)
    (h : (cd f []).wpIn Fence.wide n P (bodyPostM Fence.wide n P f R) ⟨t, []⟩ w) : Calls P g args w R := by
  obtain ⟨c, hc⟩ := Option.isSome_iff_exists.1 hb
  refine (callsIn_wide (n := n)).1 (callsIn_of_wp_marks hf hc trivial ?_ rfl)
  rw [ht]
  have : cd f [] = c := by simp [cd, hc]
  rw [← this]; exact h
theorem res_run {P : Program} {f : Func} {t : Array Value} {w : World} {vs : List Value} {v : Value} (hr : resV P t f.results.toList w vs) (hv : oneOf vs = v) : (results f t).run P w = .ok v w := by
  obtain ⟨_, v', h1, h2⟩ := body_ret (P := P) (f := f) (R := fun e _ => e = .returned v) hr hv rfl
  injection h2 with h2
  rw [← h2]; exact h1
theorem body_norm {P : Program} {f : Func} {R : Ending → World → Prop} {t : Array Value} {w : World} {vs : List Value} {v : Value} (hr : resV P t f.results.toList w vs) (hv : oneOf vs = v) (h : R (.returned v) w) : bodyPost P f R .normal ⟨t, []⟩ w := body_ret hr hv h
theorem k_flat {K : Act → World → Prop} {t t' : Array Value} {ds : List Deferred} {w : World} (h : t = t') (hh : K ⟨t', ds⟩ w) : K ⟨t, ds⟩ w := by rw [h]; exact hh
theorem Kp.grown {w w' : World} (k : Kp No w w') : w.grownBy w' none := ⟨k.os, k.tape, k.output, k.size, fun i hi _ => k.block i hi id⟩
theorem abides_kp {B : Nat} {β : Type} {J : β → World → Prop} {w w' : World} (h : AbidesFrom B J) {s : β} (hs : J s w) (k : Kp No w w') : J s w' := h s w w' none hs k.grown (fun r e => by cases e)
/-! ### what a loop over a function leaves as it is -/
section
variable {w W W' : World} {S : Nat → Prop} {row : Option Nat} {α : Type} {K : Kn α} {w0 : World} {A : Option Addr} {n c b B : Nat} {xs : List α} {cs : Array Value} {T : TypeId}
def NotCells (W : World) (row : Option Nat) : Prop := ∀ r, row = some r → ∃ o : Obj, W.heap[r]? = some o ∧ o.isCells = false
theorem Kp.grow (k : Kp S w W) (hg : W.grownBy W' row) (hr : ∀ r, row = some r → S r ∨ w.heap.size ≤ r) : Kp S w W' :=
  ⟨hg.os.trans k.os, hg.tape.trans k.tape, hg.output.trans k.output, Nat.le_trans k.size hg.size, fun i hi hn => (hg.block i (Nat.lt_of_lt_of_le hi k.size) (fun e => (hr i e.symm).elim hn (fun h => by omega))).trans (k.block i hi hn)⟩
theorem Blk.grow (h : Blk W b cs T) (hg : W.grownBy W' row) (hr : NotCells W row) : Blk W' b cs T := (hg.block b h.lt (fun e => by
  obtain ⟨o, ho, hc⟩ := hr b e.symm
  rw [show W.heap[b]? = _ from h] at ho
  injection ho with ho
  subst ho
  cases hc)).trans h
theorem Ow.cellsAt (h : Ow w0 K W A n c xs) {k : Nat} (hk : Ra A k) : ∃ o : Obj, W.heap[k]? = some o ∧ o.isCells = true := by
  rcases h.own.2 with ⟨hv, hn⟩ | ⟨g, cap, cur, hv, hbg, hg, rest⟩
  · injection hv with hv1
    subst hv1
    cases hk
  · injection hv with hv1
    subst hv1
    rw [(ra_some _ _).1 hk]
    exact ⟨_, hg, rfl⟩
theorem Ow.grow (h : Ow w0 K W A n c xs) (hg : W.grownBy W' row) (hr : NotCells W row) : Ow w0 K W' A n c xs := by
  refine ⟨h.len, ?_⟩
  refine own_kp (S := fun k => row = some k) h.own (Kp.of_grown hg) fun x hx e => ?_
  obtain ⟨o, ho, hc⟩ := hr x e
  obtain ⟨o', ho', hc'⟩ := h.cellsAt ((ra_row _ _ _ _).1 hx)
  rw [ho] at ho'
  injection ho' with ho'
  subst ho'
  rw [hc] at hc'
  cases hc'
theorem keeps_kp (k : Kp S W W') (h : ∀ x, S x → ∃ o : Obj, W.heap[x]? = some o ∧ o.isCells = true) : KeepsFrom B W W' :=
  ⟨k.size, fun x o _ hx ho => (k.block x (Array.getElem?_eq_some_iff.1 hx).1 (fun hs => by
    obtain ⟨o', ho', hc⟩ := h x hs
    rw [hx] at ho'
    injection ho' with ho'
    subst ho'
    rw [ho] at hc
    cases hc)).trans hx⟩
theorem Blk.cellsAt (h : Blk W b cs T) {x : Nat} (hx : One b x) : ∃ o : Obj, W.heap[x]? = some o ∧ o.isCells = true := by rw [show x = b from hx]; exact ⟨_, h, rfl⟩
theorem notCells_of (hr : ∀ r, row = some r → B ≤ r ∧ ∃ o : Obj, W.heap[r]? = some o ∧ o.isCells = false) : NotCells W row := fun r e => (hr r e).2
end
end Go.Proofs.Ytampekcanmakkaa.G
