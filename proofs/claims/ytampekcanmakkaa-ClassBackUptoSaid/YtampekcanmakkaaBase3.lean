/- Memory: blocks, what is kept, slices that are read, rows that are owned; an operation each. -/
import Derived.Test.YtampekcanmakkaaBase2
import Derived.Laws.AppendOwn
import Derived.Laws.MakeOwn
import Derived.Laws.OwnMore
import Derived.Below
set_option linter.unusedVariables false
namespace Go.Proofs.Ytampekcanmakkaa.G
open Go.RowKit

/-! ### what is kept -/
structure Kp (S : Nat → Prop) (w w' : World) : Prop where
  os : w'.os = w.os
  tape : w'.tape = w.tape
  output : w'.output = w.output
  size : w.heap.size ≤ w'.heap.size
  block : ∀ k, k < w.heap.size → ¬ S k → w'.heap[k]? = w.heap[k]?
def No : Nat → Prop := fun _ => False
def One (b : Nat) : Nat → Prop := fun k => k = b
def Row (v : Value) : Nat → Prop := fun k => v.ownBlock = some k
def Or2 (S T : Nat → Prop) : Nat → Prop := fun k => S k ∨ T k
section
variable {S T : Nat → Prop} {w w1 w2 : World}
theorem Kp.refl (S : Nat → Prop) (w : World) : Kp S w w := ⟨rfl, rfl, rfl, Nat.le_refl _, fun _ _ _ => rfl⟩
theorem Kp.trans (h : Kp S w w1) (k : Kp T w1 w2) (hs : ∀ x, T x → S x ∨ w.heap.size ≤ x) : Kp S w w2 :=
  ⟨k.os.trans h.os, k.tape.trans h.tape, k.output.trans h.output, Nat.le_trans h.size k.size, fun i hi hn =>
    (k.block i (Nat.lt_of_lt_of_le hi h.size) (fun ht => (hs i ht).elim hn (fun h2 => by omega))).trans (h.block i hi hn)⟩
theorem Kp.mono (h : Kp S w w1) (hs : ∀ x, S x → T x) : Kp T w w1 := ⟨h.os, h.tape, h.output, h.size, fun i hi hn => h.block i hi fun k => hn (hs i k)⟩
theorem Kp.same (h1 : w1.heap = w.heap) (h2 : w1.os = w.os) (h3 : w1.tape = w.tape) (h4 : w1.output = w.output) : Kp S w w1 := ⟨h2, h3, h4, by rw [h1]; exact Nat.le_refl _, fun _ _ _ => by rw [h1]⟩
theorem Kp.below (h : Kp No w w1) : Below w.heap.size w w1 := ⟨h.os, h.tape, h.output, h.size, fun k hk => h.block k hk id⟩
theorem Kp.of_grown {row : Option Nat} (h : w.grownBy w1 row) : Kp (fun k => row = some k) w w1 := ⟨h.os, h.tape, h.output, h.size, fun k hk hn => h.block k hk fun e => hn e.symm⟩
theorem Kp.of_below (h : Below w.heap.size w w1) : Kp No w w1 := ⟨h.os, h.tape, h.output, h.size, fun k hk _ => h.block k hk⟩
theorem Kp.to_grown (h : Kp S w w1) : w.grownBy w1 none ∨ True := .inr trivial
end

/-- A block of cells. -/
def Blk (w : World) (b : Nat) (cs : Array Value) (T : TypeId) : Prop := w.heap[b]? = some (.cells cs T (0, 0))
section
variable {S : Nat → Prop} {w w1 : World} {b : Nat} {cs : Array Value} {T : TypeId}
theorem Blk.kp (h : Blk w b cs T) (k : Kp S w w1) (hn : ¬ S b) : Blk w1 b cs T := (k.block b (Array.getElem?_eq_some_iff.1 h).1 hn).trans h
theorem Blk.lt (h : Blk w b cs T) : b < w.heap.size := (Array.getElem?_eq_some_iff.1 h).1
theorem Blk.cell (h : Blk w b cs T) (o : Nat) : w.cell? ⟨b, o, none⟩ = cs[o]? := by unfold Blk at h; simp [World.cell?, h]
theorem Blk.same (h : Blk w b cs T) (h1 : w1.heap = w.heap) : Blk w1 b cs T := by unfold Blk; rw [h1]; exact h
end

/-! ### loads and stores -/
theorem run_newObj (P : Program) (w : World) (o : Obj) : (newObj o).run P w = .ok w.heap.size (w.alloc o) := rfl
def ldV (P : Program) (T : TypeId) (cs : Array Value) (off : Nat) : Option Value :=
  match P.underlying T with
  | some (.struct _) | some (.array _ _) => match P.info? T with
    | some i => if off + i.size ≤ cs.size then some (.agg (cs.extract off (off + i.size))) else none
    | none => none
  | some _ => cs[off]?
  | none => none
def stV (P : Program) (T : TypeId) (cs : Array Value) (off : Nat) (v : Value) : Option (Array Value) :=
  match P.info? T with
  | some i => if v.cells.size = i.size ∧ off + i.size ≤ cs.size ∧ (v.cells.toList.all fun u => u.oneCell') = true then some (cs.toList.take off ++ v.cells.toList ++ cs.toList.drop (off + v.cells.size)).toArray else none
  | none => none
section
variable {P : Program} {o : Oper} {t : Array Value} {w : World} {R : Value → World → Prop}
theorem run_loadVar_at {T : TypeId} {a : Addr} {cs : Array Value} {off : Nat} {v : Value} (hc : ∀ j u, cs[off + j]? = some u → w.cell? (a.add j) = some u) (hl : ldV P T cs off = some v) : (loadVar T a).run P w = .ok v w := by
  unfold ldV at hl
  have agg : ∀ d, P.underlying T = some d → (match d with | .struct _ | .array _ _ => true | _ => false) = true → (match P.info? T with
      | some i => if off + i.size ≤ cs.size then some (Value.agg (cs.extract off (off + i.size))) else none
      | none => none) = some v → (loadVar T a).run P w = .ok v w := by
    intro d hd hk hl
    cases hi : P.info? T with
    | none => rw [hi] at hl; cases hl
    | some i =>
      rw [hi] at hl
      simp only at hl
      split at hl
      · rename_i hle
        injection hl with hl
        subst hl
        have hagg : (isAgg T).run P w = .ok true w := by
          unfold isAgg
          rw [Sem.run_bind, run_underlying hd w]
          cases d <;> simp_all
        have hlen : (cs.extract off (off + i.size)).toList.length = i.size := by simp; omega
        have := run_loadCells_list (P := P) w a (cs.extract off (off + i.size)).toList (fun j u hj => by
          refine hc j u ?_
          rw [Array.getElem?_toList, Array.getElem?_extract] at hj
          split at hj
          · exact hj
          · cases hj)
        rw [hlen, Array.toArray_toList] at this
        simp [loadVar, Sem.run_bind, hagg, sizeOf, typeInfo, hi, this]
      · cases hl
  have sca : ∀ d, P.underlying T = some d → (match d with | .struct _ | .array _ _ => true | _ => false) = false → cs[off]? = some v → (loadVar T a).run P w = .ok v w := by
    intro d hd hk hl
    have hagg : (isAgg T).run P w = .ok false w := by
      unfold isAgg
      rw [Sem.run_bind, run_underlying hd w]
      cases d <;> simp_all
    have h0 := hc 0 v (by simpa using hl)
    have ha : a.add 0 = a := by simp [Addr.add]
    rw [ha] at h0
    simp [loadVar, Sem.run_bind, hagg, run_load, h0]
  cases hd : P.underlying T with
  | none => rw [hd] at hl; cases hl
  | some d =>
    rw [hd] at hl
    cases d <;> first | exact agg _ hd rfl hl | exact sca _ hd rfl hl
theorem add_blk (b off j : Nat) : (⟨b, off, none⟩ : Addr).add j = ⟨b, off + j, none⟩ := Addr.add_lit b off j
/-- A load out of a block that is known. -/
theorem og_load {T b off U : Nat} {x : Operand} {cs : Array Value} (v : Value) (ho : o.op = .load T x) (hx : Act.eval ⟨t, []⟩ x = .pointer (some ⟨b, off, none⟩)) (hb : Blk w b cs U) (hl : ldV P T cs off = some v) (hR : R v w) : OpG P o t [] w R := by
  refine OpG.of_run (v := v) (w' := w) ?_ hR
  have := run_loadVar_at (P := P) (w := w) (a := ⟨b, off, none⟩) (T := T) (cs := cs) (off := off) (v := v) (fun j u hj => by rw [add_blk, hb.cell]; exact hj) hl
  simp [execOp, ho, hx, Instr.loadAt, Instr.sureAddr, this]
theorem og_store {T b off U : Nat} {x y : Operand} {cs cs' : Array Value} (v : Value) (ho : o.op = .store T x y) (hx : Act.eval ⟨t, []⟩ x = .pointer (some ⟨b, off, none⟩)) (hy : Act.eval ⟨t, []⟩ y = v) (hb : Blk w b cs U) (hl : stV P T cs off v = some cs')
    (hR : ∀ w', Blk w' b cs' U → Kp (One b) w w' → w'.heap.size = w.heap.size → R undef w') : OpG P o t [] w R := by
  unfold stV at hl
  cases hi : P.info? T with
  | none => rw [hi] at hl; cases hl
  | some i =>
    rw [hi] at hl
    simp only at hl
    split at hl
    · rename_i hc
      obtain ⟨h1, h2, h3⟩ := hc
      injection hl with hl
      have hst := run_storeCells_at P b off U v.cells.toList 0 cs w hb (by simp; omega) (fun u hu => List.all_eq_true.1 h3 u hu)
      simp only [Nat.add_zero, Array.length_toList] at hst
      rw [hl] at hst
      refine OpG.of_skip (w' := w.setRow b cs') ?_ (hR _ (setRow_heap w b cs cs' U _ hb) ⟨rfl, rfl, rfl, by simp, fun k _ hk => setRow_other w b k cs' hk⟩ (by simp))
      simp [execOp, ho, hx, hy, Instr.storeAt, Instr.sureAddr, storeVar, Sem.run_bind, sizeOf, typeInfo, hi, h1, hst]
    · cases hl
/-- A new variable. -/
def zeroCells (P : Program) (T : TypeId) : Option (Array Value) := match P.info? T with
  | some i => i.zero.map Value.cells
  | none => none
theorem og_alloc {T : Nat} {cs : Array Value} (ho : o.op = .alloc T) (hz : zeroCells P T = some cs) (hR : ∀ b w', b = w.heap.size → Blk w' b cs T → Kp No w w' → R (.pointer (some ⟨b, 0, none⟩)) w') : OpG P o t [] w R := by
  unfold zeroCells at hz
  cases hi : P.info? T with
  | none => rw [hi] at hz; cases hz
  | some i =>
    rw [hi] at hz
    simp only [Option.map_eq_some_iff] at hz
    obtain ⟨z, hz, hcs⟩ := hz
    refine OpG.of_run (v := .pointer (some ⟨w.heap.size, 0, none⟩)) (w' := w.alloc (.cells cs T)) ?_ (hR _ _ rfl (heap_alloc_new w _) ⟨rfl, rfl, rfl, by simp, fun k hk _ => Below.heap_alloc w _ k hk⟩)
    simp [execOp, ho, Instr.alloc, zeroValue, typeInfo, hi, hz, newVar, newRow, Sem.run_bind, hcs, run_newObj]
theorem og_box {T : Nat} {x : Operand} {cs : Array Value} (ho : o.op = .box T x) (hx : (Act.eval ⟨t, []⟩ x).cells = cs) (hR : ∀ b w', b = w.heap.size → Blk w' b cs T → Kp No w w' → R (.pointer (some ⟨b, 0, none⟩)) w') : OpG P o t [] w R := by
  refine OpG.of_run (v := .pointer (some ⟨w.heap.size, 0, none⟩)) (w' := w.alloc (.cells cs T)) ?_ (hR _ _ rfl (heap_alloc_new w _) ⟨rfl, rfl, rfl, by simp, fun k hk _ => Below.heap_alloc w _ k hk⟩)
  simp [execOp, ho, hx, Instr.box, newVar, newRow, Sem.run_bind, run_newObj]
end

/-! ### flat kinds -/
structure Kn (α : Type) where
  sz : Nat
  e : TypeId
  enc : α → List Value
  len : ∀ x, (enc x).length = sz
  one : ∀ x, ∀ u ∈ enc x, u.oneCell' = true
section
variable {α : Type} {K : Kn α}
def Kn.cells (K : Kn α) (xs : List α) : List Value := xs.flatMap K.enc
theorem cells_len (xs : List α) : (K.cells xs).length = xs.length * K.sz := by
  induction xs with
  | nil => simp [Kn.cells]
  | cons x xs ih =>
    simp only [Kn.cells, List.flatMap_cons, List.length_append, List.length_cons, K.len] at *
    rw [ih, Nat.succ_mul, Nat.add_comm]
theorem cells_append (xs ys : List α) : K.cells (xs ++ ys) = K.cells xs ++ K.cells ys := by simp [Kn.cells]
theorem cells_one (xs : List α) : ∀ u ∈ K.cells xs, u.oneCell' = true := by
  intro u hu
  obtain ⟨x, _, hx⟩ := List.mem_flatMap.1 hu
  exact K.one x u hx
theorem cells_single (x : α) : K.cells [x] = K.enc x := by simp [Kn.cells]
theorem cells_at (xs : List α) (i j : Nat) (z : α) (hi : i < xs.length) (hj : j < K.sz) : (K.cells xs)[i * K.sz + j]? = (K.enc (xs.getD i z))[j]? := by
  induction xs generalizing i with
  | nil => simp at hi
  | cons x xs ih =>
    simp only [Kn.cells, List.flatMap_cons]
    cases i with
    | zero =>
      simp only [Nat.zero_mul, Nat.zero_add, List.getD_cons_zero]
      rw [List.getElem?_append_left (by rw [K.len]; exact hj)]
    | succ i =>
      rw [List.getElem?_append_right (by rw [K.len, Nat.succ_mul]; omega), K.len, show (i + 1) * K.sz + j - K.sz = i * K.sz + j by rw [Nat.succ_mul]; omega]
      have := ih i (by simpa using hi)
      simpa [Kn.cells] using this
theorem cells_take (xs : List α) (n : Nat) : (K.cells xs).take (n * K.sz) = K.cells (xs.take n) := by
  induction xs generalizing n with
  | nil => simp [Kn.cells]
  | cons x xs ih =>
    cases n with
    | zero => simp [Kn.cells]
    | succ n =>
      simp only [Kn.cells, List.flatMap_cons, List.take_succ_cons] at *
      rw [List.take_append, K.len, List.take_of_length_le (by rw [K.len, Nat.succ_mul]; omega), show (n + 1) * K.sz - K.sz = n * K.sz by rw [Nat.succ_mul]; omega, ih]
theorem cells_drop (xs : List α) (n : Nat) : (K.cells xs).drop (n * K.sz) = K.cells (xs.drop n) := by
  induction xs generalizing n with
  | nil => simp [Kn.cells]
  | cons x xs ih =>
    cases n with
    | zero => simp [Kn.cells]
    | succ n =>
      simp only [Kn.cells, List.flatMap_cons, List.drop_succ_cons] at *
      rw [List.drop_append, K.len, List.drop_of_length_le (by rw [K.len, Nat.succ_mul]; omega), show (n + 1) * K.sz - K.sz = n * K.sz by rw [Nat.succ_mul]; omega, ih, List.nil_append]
theorem cells_set (xs : List α) (i : Nat) (x : α) (hi : i < xs.length) : K.cells (xs.set i x) = (K.cells xs).take (i * K.sz) ++ K.enc x ++ (K.cells xs).drop ((i + 1) * K.sz) := by
  rw [cells_take, cells_drop, ← cells_single, ← cells_append, ← cells_append, List.set_eq_take_append_cons_drop, if_pos hi]
  simp
end

/-- What a slice reads as; its block is none of S. -/
def Rd (S : Nat → Prop) (w : World) (A : Option Addr) (cs : List Value) : Prop := ∀ j v, cs[j]? = some v → ∃ ad, A = some ad ∧ ¬ S ad.block ∧ w.cell? (ad.add j) = some v
def eaOf (A : Option Addr) (k : Nat) : Addr := (A.getD ⟨0, 0, none⟩).add k
theorem add_add (a : Addr) (i j : Nat) : (a.add i).add j = a.add (i + j) := by
  unfold Addr.add
  by_cases h1 : i = 0
  · subst h1; simp
  · by_cases h2 : j = 0
    · subst h2; simp
    · simp [h1, h2, show ¬ (i + j = 0) by omega, Nat.add_assoc]
theorem add_block (a : Addr) (i : Nat) : (a.add i).block = a.block := by unfold Addr.add; split <;> rfl
section
variable {S T : Nat → Prop} {w w1 : World} {A : Option Addr} {cs : List Value}
theorem Rd.kp (h : Rd S w A cs) (k : Kp T w w1) (hs : ∀ x, x < w.heap.size → T x → S x) : Rd S w1 A cs := fun j v hj => by
  obtain ⟨ad, rfl, hn, hc⟩ := h j v hj
  have hb := World.block_lt_of_cell? w (ad.add j) hc
  refine ⟨ad, rfl, hn, ?_⟩
  rw [World.cell?_of_block (w := w) (w' := w1) (k.block _ hb fun ht => by rw [add_block] at *; exact hn (hs _ hb ht))]
  exact hc
/-- .. with other blocks shut out: of those that are as old as w. -/
theorem Rd.weak (h : Rd S w A cs) (k : Kp S w w1) (hs : ∀ x, x < w.heap.size → T x → S x) : Rd T w1 A cs := fun j v hj => by
  obtain ⟨ad, rfl, hn, hc⟩ := h j v hj
  have hb := World.block_lt_of_cell? w (ad.add j) hc
  obtain ⟨ad', he, hn', hc'⟩ := (h.kp k (fun _ _ h => h)) j v hj
  injection he with he
  subst he
  rw [add_block] at hb
  exact ⟨ad, rfl, fun ht => hn (hs _ hb ht), hc'⟩
theorem Rd.nil (S : Nat → Prop) (w : World) (A : Option Addr) : Rd S w A [] := fun j v hj => by simp at hj
theorem Rd.same (h : Rd S w A cs) (h1 : w1.heap = w.heap) : Rd S w1 A cs := fun j v hj => by
  obtain ⟨ad, rfl, hn, hc⟩ := h j v hj
  exact ⟨ad, rfl, hn, by simpa [World.cell?, h1] using hc⟩
theorem Rd.at (h : Rd S w A cs) {k : Nat} {v : Value} (hk : cs[k]? = some v) : w.cell? (eaOf A k) = some v := by
  obtain ⟨ad, rfl, hn, hc⟩ := h k v hk
  exact hc
theorem Rd.some (h : Rd S w A cs) (hne : 0 < cs.length) : ∃ ad, A = some ad := by
  obtain ⟨ad, hA, _⟩ := h 0 cs[0] (List.getElem?_eq_getElem hne)
  exact ⟨ad, hA⟩
theorem Rd.take (h : Rd S w A cs) (n : Nat) : Rd S w A (cs.take n) := fun j v hj => by
  rw [List.getElem?_take] at hj
  split at hj
  · exact h j v hj
  · cases hj
theorem Rd.drop (h : Rd S w A cs) (n : Nat) : Rd S w (A.map (·.add n)) (cs.drop n) := fun j v hj => by
  rw [List.getElem?_drop] at hj
  obtain ⟨ad, rfl, hn, hc⟩ := h (n + j) v hj
  exact ⟨ad.add n, rfl, by rwa [add_block], by rwa [add_add]⟩
end
/-- A row that is owned reads as it is. -/
theorem own_rd {S : Nat → Prop} {w : World} {base e size n : Nat} {A : Option Addr} {c : Nat} {xs : List Value} (h : w.ownsRow base e size (.slice A n c) n xs) (hs : ∀ k, Row (.slice A n c) k → ¬ S k) : Rd S w A xs := fun j v hj => by
  cases A with
  | none =>
    rcases h.2 with ⟨_, h2⟩ | ⟨g, cap, cur, hv, _⟩
    · have := h.1; rw [h2] at this; simp at this; subst this; simp at hj
    · cases hv
  | some ad =>
    have hg : (Value.slice (some ad) n c).ownBlock = some ad.block := rfl
    have h0 : ad = ⟨ad.block, 0, none⟩ := by
      rcases h.2 with ⟨h1, _⟩ | ⟨g, cap, cur, hv, _⟩
      · cases h1
      · injection hv with h1 _ _; injection h1 with h1; rw [h1]
    refine ⟨ad, rfl, hs _ hg, ?_⟩
    rw [h0]
    exact h.cells hg j v hj
theorem own_form {w : World} {base e size n : Nat} {v : Value} {xs : List Value} (h : w.ownsRow base e size v n xs) : ∃ A c, v = .slice A n c ∧ n ≤ c := by
  rcases h.2 with ⟨rfl, rfl⟩ | ⟨g, cap, cur, rfl, _, _, h1, _⟩
  · exact ⟨none, 0, rfl, Nat.le_refl _⟩
  · exact ⟨_, _, rfl, h1⟩
theorem own_kp {S : Nat → Prop} {w w1 : World} {base e size n : Nat} {v : Value} {xs : List Value} (h : w.ownsRow base e size v n xs) (k : Kp S w w1) (hs : ∀ x, Row v x → ¬ S x) : w1.ownsRow base e size v n xs := by
  refine ⟨h.1, ?_⟩
  rcases h.2 with hn | ⟨g, cap, cur, rfl, hb, hgg, rest⟩
  · exact .inl hn
  · refine .inr ⟨g, cap, cur, rfl, hb, ?_, rest⟩
    rw [k.block g (Array.getElem?_eq_some_iff.1 hgg).1 (hs g rfl)]
    exact hgg
theorem own_base {w : World} {base base' e size n : Nat} {v : Value} {xs : List Value} (h : w.ownsRow base e size v n xs) (hb : base' ≤ base) : w.ownsRow base' e size v n xs := by
  refine ⟨h.1, ?_⟩
  rcases h.2 with hn | ⟨g, cap, cur, hv, hb', rest⟩
  · exact .inl hn
  · exact .inr ⟨g, cap, cur, hv, by omega, rest⟩
theorem own_same {w w1 : World} {base e size n : Nat} {v : Value} {xs : List Value} (h : w.ownsRow base e size v n xs) (h1 : w1.heap = w.heap) : w1.ownsRow base e size v n xs := by
  refine ⟨h.1, ?_⟩
  rcases h.2 with hn | ⟨g, cap, cur, hv, hb', hg, rest⟩
  · exact .inl hn
  · exact .inr ⟨g, cap, cur, hv, hb', by rw [h1]; exact hg, rest⟩

/-! ### slices -/
section
variable {P : Program} {o : Oper} {t : Array Value} {w : World} {R : Value → World → Prop}
def sliceE (P : Program) (T : TypeId) : Option (TypeId × Nat) := match P.underlying T with
  | some (.slice e) => (P.info? e).map fun i => (e, i.size)
  | _ => none
theorem sliceE_some {T e sz : Nat} (h : sliceE P T = some (e, sz)) : P.underlying T = some (.slice e) ∧ ∃ i, P.info? e = some i ∧ i.size = sz := by
  unfold sliceE at h
  split at h
  · rename_i e' hu
    cases hi : P.info? e' with
    | none => rw [hi] at h; cases h
    | some i =>
      rw [hi] at h
      simp only [Option.map_some, Option.some.injEq, Prod.mk.injEq] at h
      obtain ⟨rfl, rfl⟩ := h
      exact ⟨hu, i, hi, rfl⟩
  · cases h
/-- An element's address. -/
theorem og_index {T e sz n c : Nat} {x y : Operand} {k : IntKind} {A : Option Addr} {iv : Int} (ho : o.op = .indexAddr T x y) (hT : sliceE P T = some (e, sz)) (hx : Act.eval ⟨t, []⟩ x = .slice A n c) (hy : Act.eval ⟨t, []⟩ y = .int k iv)
    (h0 : 0 ≤ iv) (h1 : iv < (n : Int)) (hA : ∃ ad, A = some ad) (hR : R (.pointer (some (eaOf A (iv.toNat * sz)))) w) : OpG P o t [] w R := by
  obtain ⟨hu, i, hi, hsz⟩ := sliceE_some hT
  obtain ⟨ad, rfl⟩ := hA
  refine OpG.of_run (w' := w) ?_ hR
  simp [execOp, ho, hx, hy, Instr.indexAt, asIntOf, run_underlying hu, sizeOf, typeInfo, hi, hsz, h0, h1, eaOf]
/-- A load of an element, or of a field of one. -/
theorem og_loadE {T k off : Nat} {x : Operand} {S : Nat → Prop} {A : Option Addr} {es : List Value} {cs : List Value} (v : Value) (ho : o.op = .load T x) (hx : Act.eval ⟨t, []⟩ x = .pointer (some ((eaOf A k).add off))) (hr : Rd S w A cs)
    (hc : ∀ j u, es[j]? = some u → cs[k + j]? = some u) (hl : ldV P T es.toArray off = some v) (hR : R v w) : OpG P o t [] w R := by
  refine OpG.of_run (v := v) (w' := w) ?_ hR
  have := run_loadVar_at (P := P) (w := w) (a := (eaOf A k).add off) (T := T) (cs := es.toArray) (off := off) (v := v) (fun j u hj => by
    have h1 := hc (off + j) u (by simpa using hj)
    have h2 := hr.at h1
    rw [add_add]
    unfold eaOf at *
    rw [add_add]
    exact h2) hl
  simp [execOp, ho, hx, Instr.loadAt, Instr.sureAddr, this]
theorem elem_cells {α : Type} {K : Kn α} {xs : List α} {iv : Int} {n : Nat} (z : α) (hn : xs.length = n) (h0 : 0 ≤ iv) (h1 : iv < (n : Int)) : ∀ j u, (K.enc (xs.getD iv.toNat z))[j]? = some u → (K.cells xs)[iv.toNat * K.sz + j]? = some u := by
  intro j u hj
  have hjs : j < K.sz := by rw [← K.len (xs.getD iv.toNat z)]; exact (List.getElem?_eq_some_iff.1 hj).1
  rw [cells_at xs _ j z (by omega) hjs]
  exact hj
/-- A slice literal. -/
def litRow (P : Program) (T : TypeId) (len : Nat) (parts : List (Nat × Value)) : Option (TypeId × Array Value) := match sliceE P T with
  | some (e, sz) => if len * sz > 2 ^ 24 then none else match (if len * sz = 0 then some #[] else zeroCells P e) with
    | some z => (Instr.fill (fun i => some (i * sz, sz)) ((Array.range (len * sz)).map (z[· % z.size]!)) parts).map fun cs => (e, cs)
    | none => none
  | none => none
theorem og_lit {T n e : Nat} {ps : Array (Nat × Operand)} {cs : Array Value} {parts : List (Nat × Value)} (ho : o.op = .buildSlice T n ps) (hp : (ps.map fun (i, x) => (i, Act.eval ⟨t, []⟩ x)).toList = parts) (hl : litRow P T n parts = some (e, cs))
    (hR : ∀ b w', b = w.heap.size → Blk w' b cs e → Kp No w w' → R (.slice (some ⟨b, 0, none⟩) n n) w') : OpG P o t [] w R := by
  unfold litRow at hl
  cases hT : sliceE P T with
  | none => rw [hT] at hl; cases hl
  | some r =>
    obtain ⟨e', sz⟩ := r
    rw [hT] at hl
    simp only at hl
    obtain ⟨hu, i, hi, hsz⟩ := sliceE_some hT
    split at hl
    · cases hl
    · rename_i hle
      refine OpG.of_run (w' := w.alloc (.cells cs e)) ?_ (hR _ _ rfl (heap_alloc_new w _) ⟨rfl, rfl, rfl, by simp, fun k hk _ => Below.heap_alloc w _ k hk⟩)
      subst hp
      by_cases h0 : n * sz = 0
      · rw [if_pos h0] at hl
        simp only [Option.map_eq_some_iff] at hl
        obtain ⟨cs', hf, he⟩ := hl
        injection he with he1 he2
        subst he1 he2
        simp [execOp, ho, Instr.buildSlice, run_underlying hu, sizeOf, typeInfo, hi, hsz, h0, hle, newRow, Sem.run_bind, run_newObj] at *
        simp [hf, run_newObj]
      · rw [if_neg h0] at hl
        split at hl
        · rename_i z hz
          simp only [Option.map_eq_some_iff] at hl
          obtain ⟨cs', hf, he⟩ := hl
          injection he with he1 he2
          subst he1 he2
          unfold zeroCells at hz
          rw [hi] at hz
          simp only [Option.map_eq_some_iff] at hz
          obtain ⟨zv, hzv, rfl⟩ := hz
          simp [execOp, ho, Instr.buildSlice, run_underlying hu, sizeOf, typeInfo, hi, hsz, h0, hle, zeroValue, hzv, newRow, Sem.run_bind, run_newObj] at *
          simp [hf, run_newObj]
        · cases hl
end
end Go.Proofs.Ytampekcanmakkaa.G
