/- Rows by their length: what the printed proofs say of own slices. -/
import Derived.Test.YtampekcanmakkaaBase10
set_option linter.unusedVariables false
namespace Go.Proofs.Ytampekcanmakkaa.G
open Go.RowKit
/-- The block of a row. -/
def Ra (A : Option Addr) : Nat → Prop := Row (.slice A 0 0)
theorem ra_row (A : Option Addr) (n c k : Nat) : Row (.slice A n c) k ↔ Ra A k := by cases A <;> exact Iff.rfl
theorem ra_some (b k : Nat) : Ra (some ⟨b, 0, none⟩) k ↔ k = b := by
  unfold Ra Row
  simp only [Value.ownBlock, Option.some.injEq]
  exact eq_comm
structure Ow (w0 : World) {α : Type} (K : Kn α) (w : World) (A : Option Addr) (n c : Nat) (xs : List α) : Prop where
  len : xs.length = n
  own : Own w0 K w A c xs
/-- Two places are apart. -/
def Dj (S T : Nat → Prop) : Prop := ∀ k, S k → ¬ T k
theorem Dj.symm {S T : Nat → Prop} (h : Dj S T) : Dj T S := fun k h1 h2 => h k h2 h1
section
variable {w0 w w1 : World} {α β : Type} {K : Kn α} {L : Kn β} {A D : Option Addr} {n c m d b : Nat} {xs : List α} {ys : List β} {S T : Nat → Prop}
theorem Ow.rd (h : Ow w0 K w A n c xs) (hs : ∀ k, Ra A k → ¬ S k) : Rd S w A (K.cells xs) := h.own.rd fun k hk => hs k ((ra_row _ _ _ _).1 hk)
theorem Ow.rdNo (h : Ow w0 K w A n c xs) : Rd No w A (K.cells xs) := h.rd fun _ _ h => h
theorem Ow.kp (h : Ow w0 K w A n c xs) (k : Kp S w w1) (hs : Dj (Ra A) S) : Ow w0 K w1 A n c xs := ⟨h.len, h.own.kp k fun x hx => hs x ((ra_row _ _ _ _).1 hx)⟩
theorem Ow.kpNo (h : Ow w0 K w A n c xs) (k : Kp No w w1) : Ow w0 K w1 A n c xs := h.kp k fun _ _ h => h
theorem Ow.nil (w0 : World) (K : Kn α) (w : World) : Ow w0 K w none 0 0 ([] : List α) := ⟨rfl, Own.nil _ _ _⟩
theorem Ow.ge (h : Ow w0 K w A n c xs) : ∀ x, Ra A x → w0.heap.size ≤ x := fun x hx => h.own.ge x ((ra_row _ _ _ _).2 hx)
theorem Ow.lt (h : Ow w0 K w A n c xs) : ∀ x, Ra A x → x < w.heap.size := fun x hx => h.own.lt x ((ra_row _ _ _ _).2 hx)
theorem Ow.base {w2 : World} (h : Ow w2 K w A n c xs) (k : Kp S w0 w2) : Ow w0 K w A n c xs := ⟨h.len, h.own.base k.size⟩
theorem Ow.cap (h : Ow w0 K w A n c xs) : n ≤ c := by rw [← h.len]; exact h.own.cap
theorem Ow.take (h : Ow w0 K w A n c xs) (i : Int) (h1 : 0 ≤ i) (h2 : i ≤ (n : Int)) : Ow w0 K w A i.toNat c (xs.take i.toNat) := ⟨by rw [List.length_take, h.len]; omega, h.own.take _⟩
/-- A row is apart from what is made later. -/
theorem Ow.dj_block (h : Ow w0 K w A n c xs) (e : b = w.heap.size) : Dj (Ra A) (One b) := fun k h1 h2 => by have := h.lt k h1; rw [show k = b from h2, e] at this; omega
theorem Ow.dj_row (h : Ow w0 K w A n c xs) (e : b = w.heap.size) : Dj (Ra A) (Ra (some ⟨b, 0, none⟩)) := fun k h1 h2 => h.dj_block e k h1 ((ra_some _ _).1 h2)
theorem blk_dj_row {cs : Array Value} {U : TypeId} {g : Nat} (h : Blk w g cs U) (e : b = w.heap.size) : Dj (One g) (Ra (some ⟨b, 0, none⟩)) := fun k h1 h2 => by
  have := h.lt
  rw [show k = g from h1] at h2
  rw [(ra_some _ _).1 h2, e] at this
  omega
theorem dj_nil : Dj S (Ra none) := fun k h1 h2 => by cases h2
/-- .. from what a row has become. -/
theorem Ow.dj_app (h : Ow w0 K w A n c xs) (hd : Dj (Ra A) (Ra D)) (hn : ∀ k, T k → Ra D k ∨ w.heap.size ≤ k) : Dj (Ra A) T := fun k h1 h2 => (hn k h2).elim (hd k h1) fun h3 => by have := h.lt k h1; omega
theorem blk_dj_app {cs : Array Value} {U : TypeId} {g : Nat} (h : Blk w g cs U) (hd : Dj (One g) (Ra D)) (hn : ∀ k, T k → Ra D k ∨ w.heap.size ≤ k) : Dj (One g) T := fun k h1 h2 => (hn k h2).elim (hd k h1) fun h3 => by have := h.lt; rw [show k = g from h1] at h3; omega
/-- .. from a row that a call has made. -/
theorem Ow.dj_call {w2 : World} (h : Ow w0 K w A n c xs) (h2 : Ow w L w2 D m d ys) : Dj (Ra A) (Ra D) := fun k h1 h3 => by have := h.lt k h1; have := h2.ge k h3; omega
theorem blk_dj_call {w2 : World} {cs : Array Value} {U : TypeId} {g : Nat} (h : Blk w g cs U) (h2 : Ow w L w2 D m d ys) : Dj (One g) (Ra D) := fun k h1 h3 => by have := h.lt; have := h2.ge k h3; rw [show k = g from h1] at this; omega
theorem Kp.own {w2 : World} (h : Ow w0 K w A n c xs) (k0 : Kp No w0 w) (k : Kp (Ra A) w w2) : Kp No w0 w2 := Kp.trans k0 k fun x hx => .inr (h.ge x hx)
theorem Blk.kpOne {cs : Array Value} {U : TypeId} {g : Nat} (h : Blk w g cs U) (k : Kp S w w1) (hd : Dj (One g) S) : Blk w1 g cs U := h.kp k (hd g rfl)
end
section
variable {P : Program} {o : Oper} {t : Array Value} {w0 w : World} {R : Value → World → Prop} {α : Type} {K : Kn α}
theorem ow_index {T e sz n c : Nat} {x y : Operand} {k : IntKind} {A : Option Addr} {iv : Int} {xs : List α} {S : Nat → Prop} (ho : o.op = .indexAddr T x y) (hT : sliceE P T = some (e, sz)) (hx : Act.eval ⟨t, []⟩ x = .slice A n c) (hy : Act.eval ⟨t, []⟩ y = .int k iv)
    (h0 : 0 ≤ iv) (h1 : iv < (n : Int)) (hr : Rd S w A (K.cells xs)) (hl : xs.length = n) (hsz : (decide (0 < K.sz)) = true) (hR : R (.pointer (some (eaOf A (iv.toNat * sz)))) w) : OpG P o t [] w R :=
  og_index ho hT hx hy h0 h1 (rd_some hr hsz h0 (by rw [hl]; exact h1)) hR
theorem ow_loadE {T off n : Nat} {x : Operand} {S : Nat → Prop} {A : Option Addr} {xs : List α} {iv : Int} (z : α) (v : Value) (ho : o.op = .load T x) (hx : Act.eval ⟨t, []⟩ x = .pointer (some ((eaOf A (iv.toNat * K.sz)).add off))) (hr : Rd S w A (K.cells xs)) (hl : xs.length = n)
    (h0 : 0 ≤ iv) (h1 : iv < (n : Int)) (hv : ldV P T (K.enc (rd z xs iv)).toArray off = some v) (hR : R v w) : OpG P o t [] w R :=
  og_loadE v ho hx hr (rd_elem z h0 (by rw [hl]; exact h1)) hv hR
theorem ow_storeE {T off n : Nat} {x y : Operand} {A : Option Addr} {c : Nat} {xs : List α} {iv : Int} (z x' : α) (v : Value) (ho : o.op = .store T x y) (hx : Act.eval ⟨t, []⟩ x = .pointer (some ((eaOf A (iv.toNat * K.sz)).add off))) (hy : Act.eval ⟨t, []⟩ y = v)
    (hown : Ow w0 K w A n c xs) (h0 : 0 ≤ iv) (h1 : iv < (n : Int)) (hl : stV P T (K.enc (rd z xs iv)).toArray off v = some (K.enc x').toArray)
    (hR : ∀ w', Ow w0 K w' A n c (stored xs iv x') → Kp (Ra A) w w' → R undef w') : OpG P o t [] w R := by
  refine og_storeE z x' v ho hx hy hown.own h0 (by rw [hown.len]; exact h1) hl fun w' h k _ => hR w' ⟨?_, h⟩ (k.mono fun k hk => (ra_row _ _ _ _).1 hk)
  unfold stored
  rw [List.length_set]
  exact hown.len
theorem ow_make {T : Nat} {x y : Operand} {kl kc : IntKind} {l c : Int} (z : α) (bytes : Nat) (ho : o.op = .makeSlice T x y) (hT : sliceE P T = some (K.e, K.sz)) (hz : (P.info? K.e).map (fun i => (i.zero.map Value.cells, i.bytes)) = some (some (K.enc z).toArray, bytes)) (hpos : (decide (0 < K.sz)) = true)
    (hx : Act.eval ⟨t, []⟩ x = .int kl l) (hy : Act.eval ⟨t, []⟩ y = .int kc c) (h0 : 0 ≤ l) (hlc : l ≤ c) (hb : (bytes : Int) * c ≤ 281474976710656) (h63 : c ≤ 9223372036854775807) (k0 : Kp No w0 w)
    (hR : ∀ b w', b = w.heap.size → Ow w0 K w' (some ⟨b, 0, none⟩) l.toNat c.toNat (List.replicate l.toNat z) → Kp No w w' → R (.slice (some ⟨b, 0, none⟩) l.toNat c.toNat) w') : OpG P o t [] w R := by
  refine og_make (w0 := w0) z bytes ho hT hz hpos hx hy h0 hlc hb h63 k0.size fun b w' e h k => ?_
  have := hR b w' e ⟨List.length_replicate, h⟩ k
  rw [List.length_replicate]
  exact this
theorem ow_lit {T n e : Nat} {ps : Array (Nat × Operand)} {cs : Array Value} {parts : List (Nat × Value)} (xs : List α) (ho : o.op = .buildSlice T n ps) (hp : (ps.map fun (i, x) => (i, Act.eval ⟨t, []⟩ x)).toList = parts) (hl : litRow P T n parts = some (e, cs))
    (hx : (K.cells xs).toArray = cs) (hn : xs.length = n) (he : K.e = e) (hm : (decide (n ≤ maxLen)) = true) (k0 : Kp No w0 w)
    (hR : ∀ b w', b = w.heap.size → Ow w0 K w' (some ⟨b, 0, none⟩) n n xs → Kp No w w' → R (.slice (some ⟨b, 0, none⟩) n n) w') : OpG P o t [] w R :=
  og_litrow (w0 := w0) xs ho hp hl hx hn he k0.size hm fun b w' e h k => hR b w' e ⟨hn, h⟩ k
theorem ow_append {T n c m d : Nat} {s x : Operand} {A D : Option Addr} {xs ys : List α} {S : Nat → Prop} (z : Value) (bytes : Nat) (ho : o.op = .call { callee := .builtin .append, args := #[s, x], argTypes := #[T, T] })
    (hT : sliceE P T = some (K.e, K.sz)) (hz : (P.info? K.e).map (fun i => (i.zero, i.bytes, (i.zero.getD default).cells.size)) = some (some z, bytes, K.sz)) (hpos : (decide (0 < K.sz)) = true)
    (hs : Act.eval ⟨t, []⟩ s = .slice A n c) (hown : Ow w0 K w A n c xs) (hx : Act.eval ⟨t, []⟩ x = .slice D m d) (hm : ys.length = m) (hr : Rd S w D (K.cells ys)) (hb : (n + m) * (bytes + 1) ≤ 140737488355328) (k0 : Kp No w0 w)
    (hR : ∀ A' c' w', Ow w0 K w' A' (xs ++ ys).length c' (xs ++ ys) → Kp (Ra A) w w' → (∀ k, Ra A' k → Ra A k ∨ w.heap.size ≤ k) → R (.slice A' (xs ++ ys).length c') w') : OpG P o t [] w R := by
  obtain ⟨hlen, hown⟩ := hown
  subst hlen
  subst hm
  have e1 := Nat.mul_add (xs.length + ys.length) bytes 1
  refine og_append (w0 := w0) z bytes ho hT hz hpos hs hown hx rfl hr (by omega) (by omega) k0.size fun A' c' w' h k hn _ => hR A' c' w' ⟨rfl, h⟩ (k.mono fun k hk => (ra_row _ _ _ _).1 hk) fun k hk => ?_
  exact (hn k ((ra_row _ _ _ _).2 hk)).imp (ra_row _ _ _ _).1 id
end
end Go.Proofs.Ytampekcanmakkaa.G
