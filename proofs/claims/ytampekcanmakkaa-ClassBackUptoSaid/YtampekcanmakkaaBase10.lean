/- Own slices: an element written, a row made, cut. -/
import Derived.Test.YtampekcanmakkaaBase8
set_option linter.unusedVariables false
namespace Go.Proofs.Ytampekcanmakkaa.G
open Go.RowKit
section
variable {α : Type} {K : Kn α} {xs : List α}
theorem cells_set_self (i : Nat) (z : α) (hi : i < xs.length) : K.cells xs = (K.cells xs).take (i * K.sz) ++ (K.enc (xs.getD i z) ++ (K.cells xs).drop ((i + 1) * K.sz)) := by
  have h := cells_set (K := K) xs i (xs.getD i z) hi
  have h1 : xs.set i (xs.getD i z) = xs := by
    rw [List.getD_eq_getElem?_getD, List.getElem?_eq_getElem hi]
    exact List.set_getElem_self hi
  rw [h1, List.append_assoc] at h
  exact h
theorem put_list {P E S vs : List Value} {k off : Nat} (hk : P.length = k) (ho : off + vs.length ≤ E.length) :
    (P ++ (E ++ S)).take (k + off) ++ vs ++ (P ++ (E ++ S)).drop (k + off + vs.length) = P ++ ((E.take off ++ vs ++ E.drop (off + vs.length)) ++ S) := by
  subst hk
  have h1 : (P ++ (E ++ S)).take (P.length + off) = P ++ E.take off := by
    rw [List.take_append, List.take_of_length_le (by omega), show P.length + off - P.length = off by omega, List.take_append_of_le_length (by omega)]
  have h2 : (P ++ (E ++ S)).drop (P.length + off + vs.length) = E.drop (off + vs.length) ++ S := by
    rw [List.drop_append, List.drop_of_length_le (by omega), show P.length + off + vs.length - P.length = off + vs.length by omega, List.drop_append_of_le_length (by omega), List.nil_append]
  rw [h1, h2]
  simp
end
section
variable {P : Program} {o : Oper} {t : Array Value} {w0 w : World} {R : Value → World → Prop} {α : Type} {K : Kn α}
theorem Own.take {A : Option Addr} {c : Nat} {xs : List α} (h : Own w0 K w A c xs) (n : Nat) : Own w0 K w A c (xs.take n) := by
  unfold Own at *
  refine ⟨cells_len _, ?_⟩
  rcases h.2 with ⟨hv, hn⟩ | ⟨g, cap, cur, hv, hbg, hg, hnc, hcm, hcs, htake⟩
  · injection hv with hv1 hv2 hv3
    have hxs : xs = [] := List.eq_nil_of_length_eq_zero hv2
    subst hxs
    left
    simp [hv1, hv3]
  · injection hv with hv1 hv2 hv3
    refine .inr ⟨g, cap, cur, by rw [hv1, hv3], hbg, hg, ?_, hcm, hcs, ?_⟩
    · rw [List.length_take]; omega
    · rw [List.length_take, ← cells_take, ← htake, List.take_take]
      by_cases hle : n ≤ xs.length
      · rw [Nat.min_eq_left hle, Nat.min_eq_left (Nat.mul_le_mul_right _ hle)]
      · rw [Nat.min_eq_right (by omega), Nat.min_eq_right (Nat.mul_le_mul_right _ (by omega))]
/-- A store into an element of a row, or into a field of one. -/
theorem og_storeE {T off : Nat} {x y : Operand} {A : Option Addr} {c : Nat} {xs : List α} {iv : Int} (z x' : α) (v : Value) (ho : o.op = .store T x y) (hx : Act.eval ⟨t, []⟩ x = .pointer (some ((eaOf A (iv.toNat * K.sz)).add off))) (hy : Act.eval ⟨t, []⟩ y = v)
    (hown : Own w0 K w A c xs) (h0 : 0 ≤ iv) (h1 : iv < (xs.length : Int)) (hl : stV P T (K.enc (rd z xs iv)).toArray off v = some (K.enc x').toArray)
    (hR : ∀ w', Own w0 K w' A c (stored xs iv x') → Kp (Row (.slice A xs.length c)) w w' → w'.heap.size = w.heap.size → R undef w') : OpG P o t [] w R := by
  have hi : iv.toNat < xs.length := by omega
  rcases hown.2 with ⟨hv, hn⟩ | ⟨g, cap, cur, hv, hbg, hg, hnc, hcm, hcs, htake⟩
  · injection hv with hv1 hv2 hv3; omega
  injection hv with hv1 hv2 hv3
  subst hv1
  subst hv3
  unfold stV at hl
  cases hinf : P.info? T with
  | none => rw [hinf] at hl; cases hl
  | some i =>
    rw [hinf] at hl
    simp only at hl
    split at hl
    · rename_i hcnd
      obtain ⟨c1, c2, c3⟩ := hcnd
      injection hl with hl
      have hE : (K.enc (rd z xs iv)).take off ++ v.cells.toList ++ (K.enc (rd z xs iv)).drop (off + v.cells.toList.length) = K.enc x' := by
        have := congrArg Array.toList hl
        simpa using this
      have hElen : off + v.cells.toList.length ≤ (K.enc (rd z xs iv)).length := by simp only [List.size_toArray] at c2; simp only [Array.length_toList]; omega
      have hC := cells_set_self (K := K) (xs := xs) iv.toNat z hi
      have hL : cur.toList = (K.cells xs).take (iv.toNat * K.sz) ++ (K.enc (rd z xs iv) ++ ((K.cells xs).drop ((iv.toNat + 1) * K.sz) ++ cur.toList.drop (xs.length * K.sz))) := by
        have h3 : cur.toList = K.cells xs ++ cur.toList.drop (xs.length * K.sz) := by rw [← htake]; exact (List.take_append_drop _ _).symm
        calc cur.toList = K.cells xs ++ cur.toList.drop (xs.length * K.sz) := h3
          _ = _ := by
            conv => lhs; rw [hC]
            unfold rd
            simp only [List.append_assoc]
      have hPlen : ((K.cells xs).take (iv.toNat * K.sz)).length = iv.toNat * K.sz := by
        rw [List.length_take, cells_len]
        exact Nat.min_eq_left (Nat.mul_le_mul_right _ (by omega))
      have hput := put_list (P := (K.cells xs).take (iv.toNat * K.sz)) (E := K.enc (rd z xs iv)) (S := (K.cells xs).drop ((iv.toNat + 1) * K.sz) ++ cur.toList.drop (xs.length * K.sz)) (vs := v.cells.toList) (off := off) hPlen hElen
      rw [← hL, hE] at hput
      have hfit : iv.toNat * K.sz + off + v.cells.toList.length ≤ cur.size := by
        have h4 := congrArg List.length hL
        simp only [List.length_append, Array.length_toList, hPlen] at h4
        simp only [Array.length_toList] at hElen ⊢
        omega
      have hst := run_storeCells_at P g (iv.toNat * K.sz + off) K.e v.cells.toList 0 cur w hg (by simpa using hfit) (fun u hu => List.all_eq_true.1 c3 u hu)
      simp only [Nat.add_zero] at hst
      rw [hput] at hst
      have hset := cells_set (K := K) xs iv.toNat x' hi
      have hnew : (K.cells xs).take (iv.toNat * K.sz) ++ (K.enc x' ++ ((K.cells xs).drop ((iv.toNat + 1) * K.sz) ++ cur.toList.drop (xs.length * K.sz))) = K.cells (stored xs iv x') ++ cur.toList.drop (xs.length * K.sz) := by
        unfold stored
        rw [hset]
        simp only [List.append_assoc]
      rw [hnew] at hst
      have hlen2 : (stored xs iv x').length = xs.length := by unfold stored; simp
      refine OpG.of_skip (w' := w.setRow g (K.cells (stored xs iv x') ++ cur.toList.drop (xs.length * K.sz)).toArray) ?_ (hR _ ?_ ⟨rfl, rfl, rfl, by simp, fun k _ hk => setRow_other w g k _ (fun e => hk (by rw [e]; rfl))⟩ (by simp))
      · have hadd : ((eaOf (some ⟨g, 0, none⟩) (iv.toNat * K.sz)).add off) = ⟨g, iv.toNat * K.sz + off, none⟩ := by
          simp [eaOf, Addr.add_lit]
        rw [hadd] at hx
        simp [execOp, ho, hx, hy, Instr.storeAt, Instr.sureAddr, storeVar, Sem.run_bind, sizeOf, typeInfo, hinf, c1, hst]
      · unfold Own
        rw [hlen2]
        refine ⟨by rw [cells_len, hlen2], .inr ⟨g, c, _, rfl, hbg, setRow_heap w g cur _ K.e _ hg, hnc, hcm, ?_, ?_⟩⟩
        · have h4 := congrArg List.length htake
          simp only [List.length_take, Array.length_toList, cells_len] at h4
          simp only [List.size_toArray, List.length_append, List.length_drop, Array.length_toList, cells_len, hlen2]
          have : xs.length * K.sz ≤ cur.size := by omega
          omega
        · rw [← hlen2, ← cells_len (K := K)]
          exact List.take_left
    · cases hl
theorem made_take (z : α) (l c : Nat) (hlc : l ≤ c) (hpos : 0 < K.sz) : (madeCells (K.enc z).toArray (c * K.sz)).toList.take (l * K.sz) = K.cells (List.replicate l z) := by
  have hle := Nat.mul_le_mul_right K.sz hlc
  apply List.ext_getElem?
  intro j
  rw [List.getElem?_take]
  split
  · rename_i hj
    have h1 : j / K.sz < l := (Nat.div_lt_iff_lt_mul hpos).2 hj
    have h2 : j % K.sz < K.sz := Nat.mod_lt _ hpos
    have h3 : j / K.sz * K.sz + j % K.sz = j := by rw [Nat.mul_comm]; exact Nat.div_add_mod j K.sz
    have h4 := cells_at (K := K) (List.replicate l z) (j / K.sz) (j % K.sz) z (by simpa using h1) h2
    rw [h3] at h4
    rw [h4]
    have h5 : (List.replicate l z).getD (j / K.sz) z = z := by rw [List.getD_eq_getElem?_getD, List.getElem?_replicate, if_pos h1]; rfl
    rw [h5]
    have h6 : j < c * K.sz := by omega
    have h7 : j % K.sz < (K.enc z).length := by rw [K.len]; exact h2
    simp [madeCells, h6, K.len, List.getElem?_eq_getElem h7]
  · rename_i hj
    rw [List.getElem?_eq_none]
    rw [cells_len, List.length_replicate]
    omega
/-- make. -/
theorem og_make {T : Nat} {x y : Operand} {kl kc : IntKind} {l c : Int} (z : α) (bytes : Nat) (ho : o.op = .makeSlice T x y) (hT : sliceE P T = some (K.e, K.sz)) (hz : (P.info? K.e).map (fun i => (i.zero.map Value.cells, i.bytes)) = some (some (K.enc z).toArray, bytes)) (hpos : (decide (0 < K.sz)) = true)
    (hx : Act.eval ⟨t, []⟩ x = .int kl l) (hy : Act.eval ⟨t, []⟩ y = .int kc c) (h0 : 0 ≤ l) (hlc : l ≤ c) (hb : (bytes : Int) * c ≤ 281474976710656) (h63 : c ≤ 9223372036854775807) (hw : w0.heap.size ≤ w.heap.size)
    (hR : ∀ b w', b = w.heap.size → Own w0 K w' (some ⟨b, 0, none⟩) c.toNat (List.replicate l.toNat z) → Kp No w w' → R (.slice (some ⟨b, 0, none⟩) (List.replicate l.toNat z).length c.toNat) w') : OpG P o t [] w R := by
  obtain ⟨hu, i, hi, hsz⟩ := sliceE_some hT
  rw [hi] at hz
  simp only [Option.map_some, Option.some.injEq, Prod.mk.injEq, Option.map_eq_some_iff] at hz
  obtain ⟨⟨zv, hzv, hzc⟩, hby⟩ := hz
  have hpos' : 0 < K.sz := by simpa using hpos
  have hrun := run_make (P := P) w T K.e i zv hu hi hzv kl kc l c h0 hlc (by rw [hby]; exact hb) h63
  rw [hzc, hsz] at hrun
  refine OpG.of_run (v := .slice (some ⟨w.heap.size, 0, none⟩) l.toNat c.toNat) (w' := w.alloc (.cells (madeCells (K.enc z).toArray (c.toNat * K.sz)) K.e)) ?_ ?_
  · simp only [execOp, ho, hx, hy, Sem.run_bind, hrun, Result.andThen_ok, Sem.run_pure]
  · have h := hR w.heap.size (w.alloc (.cells (madeCells (K.enc z).toArray (c.toNat * K.sz)) K.e)) rfl ?_ ⟨rfl, rfl, rfl, by simp, fun k hk _ => Below.heap_alloc w _ k hk⟩
    · rw [List.length_replicate] at h
      exact h
    · unfold Own
      rw [List.length_replicate]
      refine ⟨by rw [cells_len, List.length_replicate], .inr ⟨w.heap.size, c.toNat, _, rfl, hw, heap_alloc_new w _, by omega, by unfold maxLen; omega, by rw [size_madeCells], made_take z _ _ (by omega) hpos'⟩⟩
/-- A cut of a slice that is read. -/
theorem run_slice_cut {T e sz n c : Nat} {A : Option Addr} {lo hi : Option Value} {kl kh : IntKind} {l h : Int} (hT : sliceE P T = some (e, sz)) (hlo : (match lo with | some v => v | none => .int kl 0) = .int kl l) (hhi : (match hi with | some v => v | none => .int kh n) = .int kh h)
    (h0 : 0 ≤ l) (h1 : l ≤ h) (h2 : h ≤ (c : Int)) : (Instr.sliceAt T (.slice A n c) lo hi none).run P w = .ok (.slice (if c = l.toNat then A else A.map (·.add (l.toNat * sz))) (h.toNat - l.toNat) (c - l.toNat)) w := by
  obtain ⟨hu, i, hi', hsz⟩ := sliceE_some hT
  have h3 : 0 ≤ h := by omega
  have h4 : l ≤ (h.toNat : Int) := by omega
  cases lo with
  | none =>
    simp only [Value.int.injEq, true_and] at hlo
    subst hlo
    cases hi with
    | none =>
      simp only [Value.int.injEq, true_and] at hhi
      subst hhi
      simp [Instr.sliceAt, Instr.slice, Instr.sliceBounds, run_underlying hu, sizeOf, typeInfo, hi']
    | some y =>
      simp only at hhi
      subst hhi
      simp [Instr.sliceAt, Instr.slice, Instr.sliceBounds, Instr.sliceBound, asIntOf, run_underlying hu, sizeOf, typeInfo, hi', h3, h2]
  | some x =>
    simp only at hlo
    subst hlo
    cases hi with
    | none =>
      simp only [Value.int.injEq, true_and] at hhi
      subst hhi
      simp [Instr.sliceAt, Instr.slice, Instr.sliceBounds, Instr.sliceBound, asIntOf, run_underlying hu, sizeOf, typeInfo, hi', hsz, h0, h1]
    | some y =>
      simp only at hhi
      subst hhi
      simp [Instr.sliceAt, Instr.slice, Instr.sliceBounds, Instr.sliceBound, asIntOf, run_underlying hu, sizeOf, typeInfo, hi', hsz, h3, h2, h0]
      omega
theorem og_rcut {T : Nat} {x : Operand} {lo hi : Option Operand} {A : Option Addr} {c : Nat} {xs : List α} {kl kh : IntKind} {l h : Int} (ho : o.op = .slice T x lo hi none) (hT : sliceE P T = some (K.e, K.sz)) (hx : Act.eval ⟨t, []⟩ x = .slice A xs.length c)
    (hlo : (match lo.map (Act.eval ⟨t, []⟩) with | some v => v | none => .int kl 0) = .int kl l) (hhi : (match hi.map (Act.eval ⟨t, []⟩) with | some v => v | none => .int kh xs.length) = .int kh h) (h0 : 0 ≤ l) (h1 : l ≤ h) (h2 : h ≤ (xs.length : Int)) (hc : xs.length ≤ c) (hr : Rd No w0 A (K.cells xs))
    (hR : ∀ A' c', Rd No w0 A' (K.cells ((xs.take h.toNat).drop l.toNat)) → ((xs.take h.toNat).drop l.toNat).length ≤ c' → R (.slice A' ((xs.take h.toNat).drop l.toNat).length c') w) : OpG P o t [] w R := by
  have hlen : ((xs.take h.toNat).drop l.toNat).length = h.toNat - l.toNat := by rw [List.length_drop, List.length_take]; omega
  have hrun := run_slice_cut (P := P) (w := w) (A := A) (n := xs.length) (c := c) hT hlo hhi h0 h1 (by omega)
  refine OpG.of_run (w' := w) (v := .slice (if c = l.toNat then A else A.map (·.add (l.toNat * K.sz))) (h.toNat - l.toNat) (c - l.toNat)) ?_ ?_
  · simp only [execOp, ho, hx, Option.map_none, Sem.run_bind, hrun, Result.andThen_ok, Sem.run_pure]
  · rw [← hlen]
    refine hR _ _ ?_ (by rw [hlen]; omega)
    by_cases he : c = l.toNat
    · have : (xs.take h.toNat).drop l.toNat = [] := List.eq_nil_of_length_eq_zero (by rw [hlen]; omega)
      rw [this]
      exact Rd.nil _ _ _
    · rw [if_neg he, ← cells_drop, ← cells_take]
      exact (hr.take _).drop _
/-- The head of a row. -/
theorem og_ocut {T : Nat} {x : Operand} {hi : Option Operand} {A : Option Addr} {n c : Nat} {kh : IntKind} {h : Int} {e sz : Nat} (ho : o.op = .slice T x none hi none) (hT : sliceE P T = some (e, sz)) (hx : Act.eval ⟨t, []⟩ x = .slice A n c)
    (hhi : (match hi.map (Act.eval ⟨t, []⟩) with | some v => v | none => .int kh n) = .int kh h) (h1 : 0 ≤ h) (h2 : h ≤ (c : Int)) (hR : R (.slice A h.toNat c) w) : OpG P o t [] w R := by
  have hrun := run_slice_cut (P := P) (w := w) (A := A) (n := n) (c := c) (lo := none) (kl := .i64) (l := 0) hT rfl hhi (Int.le_refl _) h1 h2
  refine OpG.of_run (w' := w) (v := .slice A h.toNat c) ?_ hR
  have hA : (if c = (0 : Int).toNat then A else A.map (·.add ((0 : Int).toNat * sz))) = A := by
    split
    · rfl
    · cases A with
      | none => rfl
      | some a => simp [Addr.add]
  rw [hA] at hrun
  simp only [execOp, ho, hx, Option.map_none, Sem.run_bind, hrun, Result.andThen_ok, Sem.run_pure]
  rfl
end
end Go.Proofs.Ytampekcanmakkaa.G
