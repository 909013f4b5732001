/- Slices: elements read, rows made, appended to, cut. -/
import Derived.Test.YtampekcanmakkaaBase5
set_option linter.unusedVariables false
namespace Go.Proofs.Ytampekcanmakkaa.G
open Go.RowKit
def rd {α : Type} (z : α) (xs : List α) (i : Int) : α := xs.getD i.toNat z
def stored {α : Type} (xs : List α) (i : Int) (x : α) : List α := xs.set i.toNat x
section
variable {α : Type} {K : Kn α} {S : Nat → Prop} {w : World} {A : Option Addr} {xs : List α} {iv : Int}
theorem rd_some (h : Rd S w A (K.cells xs)) (hsz : (decide (0 < K.sz)) = true) (h0 : 0 ≤ iv) (h1 : iv < (xs.length : Int)) : ∃ ad, A = some ad := by
  have h2 : 0 < K.sz := by simpa using hsz
  refine h.some ?_
  rw [cells_len]
  exact Nat.mul_pos (by omega) h2
theorem rd_elem (z : α) (h0 : 0 ≤ iv) (h1 : iv < (xs.length : Int)) : ∀ j u, (K.enc (rd z xs iv))[j]? = some u → (K.cells xs)[iv.toNat * K.sz + j]? = some u := elem_cells z rfl h0 h1
end
/-- A row's own cells. -/
def Own (w0 : World) {α : Type} (K : Kn α) (w : World) (A : Option Addr) (c : Nat) (xs : List α) : Prop := w.ownsRow w0.heap.size K.e K.sz (.slice A xs.length c) xs.length (K.cells xs)
section
variable {w0 w w1 : World} {α : Type} {K : Kn α} {A : Option Addr} {c : Nat} {xs : List α} {S : Nat → Prop}
theorem Own.rd (h : Own w0 K w A c xs) (hs : ∀ k, Row (.slice A xs.length c) k → ¬ S k) : Rd S w A (K.cells xs) := own_rd h hs
theorem Own.kp (h : Own w0 K w A c xs) (k : Kp S w w1) (hs : ∀ x, Row (.slice A xs.length c) x → ¬ S x) : Own w0 K w1 A c xs := own_kp h k hs
theorem Own.same (h : Own w0 K w A c xs) (h1 : w1.heap = w.heap) : Own w0 K w1 A c xs := own_same h h1
theorem Own.nil (w0 : World) (K : Kn α) (w : World) : Own w0 K w none 0 ([] : List α) := World.ownsRow_nil w _ _ _
theorem Own.ge (h : Own w0 K w A c xs) : ∀ x, Row (.slice A xs.length c) x → w0.heap.size ≤ x := fun x hx => (World.ownsRow.lt h x hx).1
theorem Own.lt (h : Own w0 K w A c xs) : ∀ x, Row (.slice A xs.length c) x → x < w.heap.size := fun x hx => (World.ownsRow.lt h x hx).2
theorem Own.base {w0' : World} (h : Own w0 K w A c xs) (hb : w0'.heap.size ≤ w0.heap.size) : Own w0' K w A c xs := own_base h hb
theorem Own.cap (h : Own w0 K w A c xs) : xs.length ≤ c := by
  obtain ⟨A', c', he, hl⟩ := own_form h
  injection he with _ _ h3
  rw [h3]; exact hl
end
theorem ownBlock_slice (A : Option Addr) (n c m d k : Nat) : (Value.slice A n c).ownBlock = some k ↔ (Value.slice A m d).ownBlock = some k := by cases A <;> exact Iff.rfl
section
variable {P : Program} {o : Oper} {t : Array Value} {w0 w : World} {R : Value → World → Prop}
/-- A slice literal, as a row of its own. -/
theorem og_litrow {α : Type} {K : Kn α} {T n e : Nat} {ps : Array (Nat × Operand)} {cs : Array Value} {parts : List (Nat × Value)} (xs : List α) (ho : o.op = .buildSlice T n ps) (hp : (ps.map fun (i, x) => (i, Act.eval ⟨t, []⟩ x)).toList = parts) (hl : litRow P T n parts = some (e, cs))
    (hx : (K.cells xs).toArray = cs) (hn : xs.length = n) (he : K.e = e) (h0 : w0.heap.size ≤ w.heap.size) (hm : (decide (n ≤ maxLen)) = true)
    (hR : ∀ b w', b = w.heap.size → Own w0 K w' (some ⟨b, 0, none⟩) n xs → Kp No w w' → R (.slice (some ⟨b, 0, none⟩) n n) w') : OpG P o t [] w R := by
  refine og_lit ho hp hl fun b w' hb hB k => hR b w' hb ?_ k
  subst hx
  subst he
  unfold Blk at hB
  refine ⟨cells_len xs, .inr ⟨b, n, _, by rw [hn], by omega, hB, by omega, by simpa using hm, by rw [List.size_toArray, cells_len, hn], ?_⟩⟩
  rw [← cells_len]
  simp
/-- An append of a slice that can be read. -/
theorem og_append {α : Type} {K : Kn α} {T c m d : Nat} {s x : Operand} {A D : Option Addr} {xs ys : List α} {S : Nat → Prop} (z : Value) (bytes : Nat) (ho : o.op = .call { callee := .builtin .append, args := #[s, x], argTypes := #[T, T] })
    (hT : sliceE P T = some (K.e, K.sz)) (hz : (P.info? K.e).map (fun i => (i.zero, i.bytes, (i.zero.getD default).cells.size)) = some (some z, bytes, K.sz)) (hpos : (decide (0 < K.sz)) = true)
    (hs : Act.eval ⟨t, []⟩ s = .slice A xs.length c) (hown : Own w0 K w A c xs) (hx : Act.eval ⟨t, []⟩ x = .slice D m d) (hm : m = ys.length) (hr : Rd S w D (K.cells ys)) (h63 : xs.length + ys.length ≤ 140737488355328) (hb : (xs.length + ys.length) * bytes ≤ 140737488355328) (h0 : w0.heap.size ≤ w.heap.size)
    (hR : ∀ A' c' w', Own w0 K w' A' c' (xs ++ ys) → Kp (Row (.slice A xs.length c)) w w' → (∀ k, Row (.slice A' (xs ++ ys).length c') k → Row (.slice A xs.length c) k ∨ w.heap.size ≤ k) → (A' = A ∨ (Kp No w w' ∧ A' = some ⟨w.heap.size, 0, none⟩)) → R (.slice A' (xs ++ ys).length c') w') : OpG P o t [] w R := by
  obtain ⟨hu, i, hi, hsz⟩ := sliceE_some hT
  rw [hi] at hz
  simp only [Option.map_some, Option.some.injEq, Prod.mk.injEq] at hz
  obtain ⟨hz1, hz2, hz3⟩ := hz
  have hpos' : 0 < K.sz := by simpa using hpos
  rw [hz1] at hz3
  simp only [Option.getD_some] at hz3
  subst hm
  -- the case of nothing to append
  have fin : ∀ v' w', (Builtin.append_ #[T, T] o.type #[.slice A xs.length c, .slice D ys.length d]).run P w = .ok v' w' → w'.ownsRow w0.heap.size K.e K.sz v' (xs.length + ys.length) (K.cells xs ++ K.cells ys) → w.grownBy w' (Value.ownBlock (.slice A xs.length c)) → (∀ k, v'.ownBlock = some k → Row (.slice A xs.length c) k ∨ w.heap.size ≤ k) → ((∃ n0 c0, v' = .slice A n0 c0) ∨ (Kp No w w' ∧ ∃ n0 c0, v' = .slice (some ⟨w.heap.size, 0, none⟩) n0 c0)) → OpG P o t [] w R := by
    intro v' w' hrun hown' hg hrow happ
    obtain ⟨A', c', hv, _⟩ := own_form hown'
    subst hv
    refine OpG.of_run (v := .slice A' (xs.length + ys.length) c') (w' := w') ?_ ?_
    · simp only [execOp, ho, resolve, invoke, builtin, Sem.run_bind, Sem.run_pure, Result.andThen_ok, List.map_toArray, List.map_cons, List.map_nil, hs, hx, hrun]
    · have := hR A' c' w' (by unfold Own; rw [List.length_append, cells_append]; exact hown') ((Kp.of_grown hg).mono fun k hk => hk) (fun k hk => hrow k (by rw [List.length_append] at hk; exact hk)) (happ.imp (fun ⟨_, _, e⟩ => by injection e) (fun ⟨k2, _, _, e⟩ => ⟨k2, by injection e⟩))
      rw [List.length_append] at this
      exact this
  cases hys : ys with
  | nil =>
    subst hys
    refine fin (.slice A xs.length c) w ?_ (by unfold Own at hown; simpa [Kn.cells] using hown) ⟨rfl, rfl, rfl, Nat.le_refl _, fun _ _ _ => rfl⟩ (fun k hk => .inl hk) (.inl ⟨_, _, rfl⟩)
    have hcap := hown.cap
    cases A with
    | none =>
      cases D <;> simp [Builtin.append_, run_underlying hu, sizeOf, typeInfo, hi, Builtin.lenOf, hcap, Builtin.firstCells, loadCells, loadCellsFrom]
    | some ad =>
      cases D <;> simp [Builtin.append_, run_underlying hu, sizeOf, typeInfo, hi, Builtin.lenOf, hcap, Builtin.firstCells, loadCells, loadCellsFrom, storeCells]
  | cons y ys' =>
    have hne : 0 < (K.cells ys).length := by rw [cells_len, hys]; exact Nat.mul_pos (by simp) hpos'
    obtain ⟨ad, rfl⟩ := hr.some hne
    have hnews : ∀ j u, (K.cells ys)[j]? = some u → w.cell? (ad.add j) = some u := fun j u hj => by
      obtain ⟨ad', he, _, hc⟩ := hr j u hj
      injection he with he; subst he; exact hc
    have hml : maxLen = 9223372036854775807 := rfl
    obtain ⟨v', w', hrun, h2, h3, h4⟩ := run_append_own (P := P) w w0.heap.size T o.type K.e i z K.sz bytes hu hi hz1 hsz hz2 hz3 hpos' (.slice A xs.length c) xs.length (K.cells xs) hown ad ys.length d (K.cells ys) (cells_len ys) hnews (cells_one ys) (by rw [hml]; omega) hb h0
    have happ : (∃ n0 c0, v' = .slice A n0 c0) ∨ (Kp No w w' ∧ ∃ n0 c0, v' = .slice (some ⟨w.heap.size, 0, none⟩) n0 c0) := by
      have hlen := cells_len (K := K) ys
      have hm0 : 0 < ys.length := by rw [hys]; simp
      rcases hown.2 with ⟨hv, hn⟩ | ⟨g, cap, cur, hv, hbg, hg, hnc, hcm, hcs, htake⟩
      · injection hv with hv1 hv2 hv3
        subst hv1
        rw [hv2, hv3] at hrun
        have hr := run_append_nil (P := P) w T o.type K.e i z hu hi hz1 ad ys.length d (K.cells ys) (by rw [hlen, hsz]) hnews hm0 (by omega) (by rw [hz2]; have := Nat.mul_le_mul_right bytes (show ys.length ≤ xs.length + ys.length by omega); omega)
        rw [hr] at hrun
        injection hrun with h5 h6
        subst h5
        refine .inr ⟨?_, _, _, rfl⟩
        subst h6
        exact ⟨rfl, rfl, rfl, by simp, fun k hk _ => heap_alloc_old w.drew _ hk⟩
      · injection hv with hv1 hv2 hv3
        subst hv1
        subst hv3
        by_cases hroom : xs.length + ys.length ≤ c
        · have hfit : xs.length * i.size + (K.cells ys).length ≤ cur.size := by rw [hlen, hcs, hsz, ← Nat.add_mul]; exact Nat.mul_le_mul_right _ hroom
          have hr := run_append_room (P := P) w T o.type K.e i hu hi g xs.length c cur hg ad ys.length d (K.cells ys) (by rw [hlen, hsz]) hnews (cells_one ys) hroom hfit
          rw [hr] at hrun
          injection hrun with h5 h6
          subst h5
          exact .inl ⟨_, _, rfl⟩
        · have hr := run_append_grow (P := P) w T o.type K.e i z hu hi hz1 ⟨g, 0, none⟩ xs.length c (K.cells xs) (by rw [cells_len, hsz]) (fun j u hj => by simpa [Addr.add_lit] using hown.cells rfl j u hj) ad ys.length d (K.cells ys) (by rw [hlen, hsz]) hnews (by omega) (by omega) (growslice_fits (by omega) (by rw [hz2]; exact hb))
          rw [hr] at hrun
          injection hrun with h5 h6
          subst h5
          refine .inr ⟨?_, _, _, rfl⟩
          subst h6
          exact ⟨rfl, rfl, rfl, by simp, fun k hk _ => heap_alloc_old w.drew _ hk⟩
    refine fin v' w' hrun h2 h3 (fun k hk => ?_) happ
    rcases happ with ⟨n0, c0, e⟩ | ⟨_, n0, c0, e⟩
    · left; rw [e] at hk; exact (ownBlock_slice A n0 c0 xs.length c k).1 hk
    · right; rw [e] at hk; injection hk with hk; exact Nat.le_of_eq hk
end
end Go.Proofs.Ytampekcanmakkaa.G
