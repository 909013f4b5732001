/- Arrays that fill a block: an element written, read; an array's value at a reckoned index. -/
import Derived.Test.YtampekcanmakkaaBase14
set_option linter.unusedVariables false
namespace Go.Proofs.Ytampekcanmakkaa.G
open Go.RowKit
section
variable {P : Program} {o : Oper} {t : Array Value} {w : World} {R : Value → World → Prop} {α : Type} {K : Kn α}
theorem ar_loadA {T U b off : Nat} {x : Operand} {xs : List α} {iv : Int} (z : α) (v : Value) (ho : o.op = .load T x) (hx : Act.eval ⟨t, []⟩ x = .pointer (some ⟨b, 0 + iv.toNat * K.sz + off, none⟩)) (hb : Blk w b (K.cells xs).toArray U)
    (h0 : 0 ≤ iv) (h1 : iv < (xs.length : Int)) (hl : ldV P T (K.enc (rd z xs iv)).toArray off = some v) (hR : R v w) : OpG P o t [] w R :=
  og_loadA (K := K) (xs := xs) (base := 0) (off := off) z v ho hx hb (by simp only [List.drop_zero]; rw [← cells_len]; exact List.take_length) h0 h1 hl hR
theorem ar_storeA {T U b off : Nat} {x y : Operand} {xs : List α} {iv : Int} (z x' : α) (v : Value) (ho : o.op = .store T x y) (hx : Act.eval ⟨t, []⟩ x = .pointer (some ⟨b, 0 + iv.toNat * K.sz + off, none⟩)) (hy : Act.eval ⟨t, []⟩ y = v) (hb : Blk w b (K.cells xs).toArray U)
    (h0 : 0 ≤ iv) (h1 : iv < (xs.length : Int)) (hl : stV P T (K.enc (rd z xs iv)).toArray off v = some (K.enc x').toArray)
    (hR : ∀ w', Blk w' b (K.cells (stored xs iv x')).toArray U → Kp (One b) w w' → R undef w') : OpG P o t [] w R := by
  have hi : iv.toNat < xs.length := by omega
  unfold stV at hl
  cases hinf : P.info? T with
  | none => rw [hinf] at hl; cases hl
  | some i =>
    rw [hinf] at hl
    simp only at hl
    split at hl
    · rename_i hcnd
      obtain ⟨c1, c2, c3⟩ := hcnd
      injection hl with hl
      have hE : (K.enc (rd z xs iv)).take off ++ v.cells.toList ++ (K.enc (rd z xs iv)).drop (off + v.cells.toList.length) = K.enc x' := by
        have := congrArg Array.toList hl
        simpa using this
      have hElen : off + v.cells.toList.length ≤ (K.enc (rd z xs iv)).length := by simp only [List.size_toArray] at c2; simp only [Array.length_toList]; omega
      have hC := cells_set_self (K := K) (xs := xs) iv.toNat z hi
      have hPlen : ((K.cells xs).take (iv.toNat * K.sz)).length = iv.toNat * K.sz := by
        rw [List.length_take, cells_len]
        exact Nat.min_eq_left (Nat.mul_le_mul_right _ (by omega))
      have hput := put_list (P := (K.cells xs).take (iv.toNat * K.sz)) (E := K.enc (rd z xs iv)) (S := (K.cells xs).drop ((iv.toNat + 1) * K.sz)) (vs := v.cells.toList) (off := off) hPlen hElen
      have hC2 : (K.cells xs).take (iv.toNat * K.sz) ++ (K.enc (rd z xs iv) ++ (K.cells xs).drop ((iv.toNat + 1) * K.sz)) = K.cells xs := hC.symm
      rw [hC2, hE] at hput
      have hset := cells_set (K := K) xs iv.toNat x' hi
      have hnew : (K.cells xs).take (iv.toNat * K.sz) ++ (K.enc x' ++ (K.cells xs).drop ((iv.toNat + 1) * K.sz)) = K.cells (stored xs iv x') := by
        unfold stored
        rw [hset, List.append_assoc]
      rw [hnew] at hput
      have hfit : iv.toNat * K.sz + off + v.cells.toList.length ≤ (K.cells xs).toArray.size := by
        have h4 := congrArg List.length hC2
        simp only [List.length_append, hPlen] at h4
        simp only [List.size_toArray, Array.length_toList] at hElen ⊢
        omega
      have hst := run_storeCells_at P b (iv.toNat * K.sz + off) U v.cells.toList 0 (K.cells xs).toArray w hb (by simpa using hfit) (fun u hu => List.all_eq_true.1 c3 u hu)
      simp only [Nat.add_zero] at hst
      rw [hput] at hst
      refine OpG.of_skip (w' := w.setRow b (K.cells (stored xs iv x')).toArray) ?_ (hR _ (setRow_heap w b _ _ U _ hb) ⟨rfl, rfl, rfl, by simp, fun k _ hk => setRow_other w b k _ hk⟩)
      rw [Nat.zero_add] at hx
      simp [execOp, ho, hx, hy, Instr.storeAt, Instr.sureAddr, storeVar, Sem.run_bind, sizeOf, typeInfo, hinf, c1, hst]
    · cases hl
theorem list_rd (z : α) (l : List α) (n : Nat) (h : l.length = n) : l = (List.range n).map fun (j : Nat) => rd z l (j : Int) := by
  apply List.ext_getElem
  · simp [h]
  · intro j h1 h2
    rw [List.getElem_map, List.getElem_range, rd]
    rw [Int.toNat_natCast, List.getD_eq_getElem?_getD, List.getElem?_eq_getElem h1]
    rfl
/-- The same of a small array, whose elements stand one by one. -/
theorem ar_storeS {T U b off n : Nat} {x y : Operand} {xs : List α} {iv : Int} {cs cs' : Array Value} (z x' : α) (v : Value) (ho : o.op = .store T x y) (hx : Act.eval ⟨t, []⟩ x = .pointer (some ⟨b, 0 + iv.toNat * K.sz + off, none⟩)) (hy : Act.eval ⟨t, []⟩ y = v) (hb : Blk w b cs U)
    (hcs : cs = (K.cells xs).toArray) (hn : xs.length = n) (h0 : 0 ≤ iv) (h1 : iv < (n : Int)) (hl : stV P T (K.enc (rd z xs iv)).toArray off v = some (K.enc x').toArray) (hcs' : (K.cells ((List.range n).map fun (j : Nat) => rd z (stored xs iv x') (j : Int))).toArray = cs')
    (hR : ∀ w', Blk w' b cs' U → Kp (One b) w w' → R undef w') : OpG P o t [] w R := by
  subst hcs
  refine ar_storeA z x' v ho hx hy hb h0 (by rw [hn]; exact h1) hl fun w' h k => hR w' ?_ k
  rw [← hcs', ← list_rd z (stored xs iv x') n (by unfold stored; rw [List.length_set]; exact hn)]
  exact h
theorem ldV_seg {T k : Nat} {es cs : Array Value} {v : Value} (hc : ∀ j u, es[j]? = some u → cs[k + j]? = some u) (hf : k + es.size ≤ cs.size) (h : ldV P T es 0 = some v) : ldV P T cs k = some v := by
  unfold ldV at *
  have agg : (match P.info? T with
      | some i => if 0 + i.size ≤ es.size then some (Value.agg (es.extract 0 (0 + i.size))) else none
      | none => none) = some v → (match P.info? T with
      | some i => if k + i.size ≤ cs.size then some (Value.agg (cs.extract k (k + i.size))) else none
      | none => none) = some v := by
    intro h
    cases hi : P.info? T with
    | none => rw [hi] at h; cases h
    | some i =>
      rw [hi] at h
      simp only at h ⊢
      split at h
      · rename_i hle
        injection h with h
        rw [if_pos (by omega), ← h]
        congr 2
        apply Array.ext'
        apply List.ext_getElem?
        intro j
        simp only [Array.getElem?_toList, Array.getElem?_extract]
        by_cases hj : j < i.size
        · have hje : j < es.size := by omega
          have h3 := hc j es[j] (Array.getElem?_eq_getElem hje)
          rw [if_pos (by omega), if_pos (by omega), h3, Nat.zero_add, Array.getElem?_eq_getElem hje]
        · rw [if_neg (by omega), if_neg (by omega)]
      · cases h
  split at h
  · exact agg h
  · exact agg h
  · simpa using hc 0 v h
  · cases h
/-- An element of an array's value. -/
theorem ar_index {T e n : Nat} {x y : Operand} {k : IntKind} {iv : Int} {cs : Array Value} {xs : List α} (z : α) (v : Value) (ho : o.op = .index T x y) (hT : arrE P T = some (n, e, K.sz)) (hx : Act.eval ⟨t, []⟩ x = .agg cs) (hy : Act.eval ⟨t, []⟩ y = .int k iv)
    (hcs : cs = (K.cells xs).toArray) (hn : xs.length = n) (h0 : 0 ≤ iv) (h1 : iv < (n : Int)) (hl : ldV P e (K.enc (rd z xs iv)).toArray 0 = some v) (hR : R v w) : OpG P o t [] w R := by
  obtain ⟨hu, i, hi, hsz⟩ := arrE_some hT
  subst hcs
  have hseg : ldV P e (K.cells xs).toArray (iv.toNat * K.sz) = some v := by
    refine ldV_seg (fun j u hj => ?_) ?_ hl
    · simpa using rd_elem (K := K) (xs := xs) z h0 (by rw [hn]; exact h1) j u (by simpa using hj)
    · have h2 := Nat.mul_le_mul_right K.sz (show iv.toNat + 1 ≤ xs.length by omega)
      rw [Nat.add_mul, Nat.one_mul] at h2
      simp only [List.size_toArray, K.len, cells_len]
      exact h2
  refine OpG.of_run (v := v) (w' := w) ?_ hR
  have := run_part_ld (P := P) (w := w) hseg
  simp [execOp, ho, hx, hy, Instr.index, asIntOf, run_underlying hu, sizeOf, typeInfo, hi, hsz, h0, h1, this]
end
end Go.Proofs.Ytampekcanmakkaa.G
