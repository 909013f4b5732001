/- A slice whose row has been appended to since: it reads as it did. -/
import Derived.Test.YtampekcanmakkaaBase13
set_option linter.unusedVariables false
namespace Go.Proofs.Ytampekcanmakkaa.G
open Go.RowKit
structure Old {α : Type} (K : Kn α) (w : World) (A : Option Addr) (n : Nat) (xs : List α) (D : Option Addr) (ys : List α) : Prop where
  len : xs.length = n
  rd : Rd No w A (K.cells xs)
  lt : ∀ k, Ra A k → k < w.heap.size
  now : (A = D ∧ ∃ zs, ys = xs ++ zs) ∨ Dj (Ra A) (Ra D)
section
variable {w0 w w1 : World} {α β : Type} {K : Kn α} {L : Kn β} {A D E : Option Addr} {n c m d b : Nat} {xs ys zs : List α} {S T : Nat → Prop}
theorem Old.mk0 (h : Ow w0 K w A n c xs) : Old K w A n xs A xs := ⟨h.len, h.rdNo, h.lt, .inl ⟨rfl, [], by simp⟩⟩
theorem rd_dj {cs : List Value} (h : Rd No w A cs) (hd : Dj (Ra A) S) : Rd S w A cs := fun j v hj => by
  obtain ⟨ad, rfl, _, hc⟩ := h j v hj
  exact ⟨ad, rfl, hd _ rfl, hc⟩
theorem rd_no {cs : List Value} (h : Rd S w A cs) : Rd No w A cs := fun j v hj => by
  obtain ⟨ad, rfl, _, hc⟩ := h j v hj
  exact ⟨ad, rfl, fun h => h, hc⟩
theorem Old.kp (h : Old K w A n xs D ys) (k : Kp S w w1) (hs : Dj (Ra A) S) : Old K w1 A n xs D ys := ⟨h.len, rd_no ((rd_dj h.rd hs).kp k fun _ _ h => h), fun x hx => Nat.lt_of_lt_of_le (h.lt x hx) k.size, h.now⟩
theorem Old.kpNo (h : Old K w A n xs D ys) (k : Kp No w w1) : Old K w1 A n xs D ys := h.kp k fun _ _ h => h
/-- What an append has done. -/
def App (w w' : World) (D E : Option Addr) : Prop := E = D ∨ (Kp No w w' ∧ ∀ k, Ra E k → w.heap.size ≤ k)
theorem Old.app {us : List α} {e f : Nat} (h : Old K w A n xs D ys) (ho : Ow w0 K w D m c ys) (hn : Ow w0 K w1 E e f (ys ++ us)) (k : Kp (Ra D) w w1) (ha : App w w1 D E) : Old K w1 A n xs E (ys ++ us) := by
  refine ⟨h.len, ?_, fun x hx => Nat.lt_of_lt_of_le (h.lt x hx) k.size, ?_⟩
  · rcases h.now with ⟨rfl, zs, rfl⟩ | hd
    · rcases ha with rfl | ⟨k2, _⟩
      · have h1 := hn.rdNo.take (K.cells xs).length
        rw [cells_append, cells_append, List.append_assoc, List.take_left] at h1
        exact h1
      · exact h.rd.kp k2 fun _ _ h => h
    · exact rd_no ((rd_dj h.rd hd).kp k fun _ _ h => h)
  · rcases ha with rfl | ⟨_, hg⟩
    · rcases h.now with ⟨rfl, zs, rfl⟩ | hd
      · exact .inl ⟨rfl, zs ++ us, by simp⟩
      · exact .inr hd
    · refine .inr fun x h1 h2 => ?_
      have := h.lt x h1
      have := hg x h2
      omega
theorem Old.dj_block (h : Old K w A n xs D ys) (e : b = w.heap.size) : Dj (Ra A) (One b) := fun k h1 h2 => by have := h.lt k h1; rw [show k = b from h2, e] at this; omega
theorem Old.dj_row (h : Old K w A n xs D ys) (e : b = w.heap.size) : Dj (Ra A) (Ra (some ⟨b, 0, none⟩)) := fun k h1 h2 => h.dj_block e k h1 ((ra_some _ _).1 h2)
theorem Old.dj_app (h : Old K w A n xs D ys) (hd : Dj (Ra A) (Ra E)) (hn : ∀ k, T k → Ra E k ∨ w.heap.size ≤ k) : Dj (Ra A) T := fun k h1 h2 => (hn k h2).elim (hd k h1) fun h3 => by have := h.lt k h1; omega
theorem Old.dj_call {w2 : World} {zs : List β} (h : Old K w A n xs D ys) (h2 : Ow w L w2 E m d zs) : Dj (Ra A) (Ra E) := fun k h1 h3 => by have := h.lt k h1; have := h2.ge k h3; omega
end
section
variable {P : Program} {o : Oper} {t : Array Value} {w0 w : World} {R : Value → World → Prop} {α : Type} {K : Kn α}
/-- An append, and whether the row has moved. -/
theorem ow_append2 {T n c m d : Nat} {s x : Operand} {A D : Option Addr} {xs ys : List α} (z : Value) (bytes : Nat) (ho : o.op = .call { callee := .builtin .append, args := #[s, x], argTypes := #[T, T] })
    (hT : sliceE P T = some (K.e, K.sz)) (hz : (P.info? K.e).map (fun i => (i.zero, i.bytes, (i.zero.getD default).cells.size)) = some (some z, bytes, K.sz)) (hpos : (decide (0 < K.sz)) = true)
    (hs : Act.eval ⟨t, []⟩ s = .slice A n c) (hown : Ow w0 K w A n c xs) (hx : Act.eval ⟨t, []⟩ x = .slice D m d) (hm : ys.length = m) (hr : Rd No w D (K.cells ys)) (hb : (n + m) * (bytes + 1) ≤ 140737488355328) (k0 : Kp No w0 w)
    (hR : ∀ A' c' w', Ow w0 K w' A' (xs ++ ys).length c' (xs ++ ys) → Kp (Ra A) w w' → (∀ k, Ra A' k → Ra A k ∨ w.heap.size ≤ k) → App w w' A A' → R (.slice A' (xs ++ ys).length c') w') : OpG P o t [] w R := by
  obtain ⟨hlen, hown⟩ := hown
  subst hlen
  subst hm
  have e1 := Nat.mul_add (xs.length + ys.length) bytes 1
  refine og_append (w0 := w0) z bytes ho hT hz hpos hs hown hx rfl hr (by omega) (by omega) k0.size fun A' c' w' h k hn ha => hR A' c' w' ⟨rfl, h⟩ (k.mono fun k hk => (ra_row _ _ _ _).1 hk) (fun k hk => ?_) (ha.imp id fun ⟨h1, h2⟩ => ⟨h1, fun k hk => ?_⟩)
  · exact (hn k ((ra_row _ _ _ _).2 hk)).imp (ra_row _ _ _ _).1 id
  · rw [h2] at hk
    exact Nat.le_of_eq ((ra_some _ _).1 hk).symm
end
end Go.Proofs.Ytampekcanmakkaa.G
