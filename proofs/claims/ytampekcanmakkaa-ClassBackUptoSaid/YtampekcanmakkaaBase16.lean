/- Bytes and strings: conversions, appends of a string's bytes. -/
import Derived.Test.YtampekcanmakkaaBase15
import Derived.Lib.AppendStr
import Derived.Laws.BytesString
import Derived.Laws.Runes
set_option linter.unusedVariables false
namespace Go.Proofs.Ytampekcanmakkaa.G
open Go.RowKit
/-- A string's bytes; a string of bytes. -/
def bytesI (s : ByteArray) : List Int := s.data.toList.map fun b => (b.toNat : Int)
def strI (xs : List Int) : ByteArray := ⟨(xs.map fun n => UInt8.ofNat n.toNat).toArray⟩
theorem bytesI_len (s : ByteArray) : (bytesI s).length = s.size := by
  rw [bytesI, List.length_map, Array.length_toList]; rfl
theorem foldl_push (ns : List Int) : ∀ (s : ByteArray), ns.foldl (fun r n => r.push (UInt8.ofNat n.toNat)) s = ⟨s.data ++ (ns.map fun n => UInt8.ofNat n.toNat).toArray⟩ := by
  induction ns with
  | nil => intro s; simp
  | cons n ns ih =>
    intro s
    rw [List.foldl_cons, ih]
    congr 1
    simp [ByteArray.push]
theorem cells_u8 (e : TypeId) (xs : List Int) : (kInt .u8 e).cells xs = xs.map (Value.int .u8) := by
  induction xs with
  | nil => rfl
  | cons x xs ih =>
    show [Value.int .u8 x] ++ (kInt .u8 e).cells xs = _
    rw [ih]; rfl
theorem strCells_bytes (e : TypeId) (s : ByteArray) : Lib.strCells s = (kInt .u8 e).cells (bytesI s) := by
  rw [cells_u8, Lib.strCells, bytesI, List.map_map]; rfl
def conv8 (P : Program) (src dst e : TypeId) : Bool := (match P.underlying src with | some (.slice e') => e' == e | _ => false) && (match P.underlying e with | some (.int .u8) => true | _ => false) && (match P.underlying dst with | some .string => true | _ => false)
theorem conv8_some {P : Program} {src dst e : TypeId} (h : conv8 P src dst e = true) : P.underlying src = some (.slice e) ∧ P.underlying e = some (.int .u8) ∧ P.underlying dst = some .string := by
  unfold conv8 at h
  rw [Bool.and_eq_true, Bool.and_eq_true] at h
  obtain ⟨⟨h1, h2⟩, h3⟩ := h
  refine ⟨?_, ?_, ?_⟩
  · split at h1
    · rename_i e' he; rw [he, eq_of_beq h1]
    · cases h1
  · split at h2
    · assumption
    · cases h2
  · split at h3
    · assumption
    · cases h3
section
variable {P : Program} {o : Oper} {t : Array Value} {w0 w : World} {R : Value → World → Prop}
theorem og_bytesStr {src dst e n c : Nat} {x : Operand} {A : Option Addr} {xs : List Int} (ho : o.op = .convert src dst x) (hT : conv8 P src dst e = true) (hx : Act.eval ⟨t, []⟩ x = .slice A n c) (hr : Rd No w A ((kInt .u8 e).cells xs)) (hl : xs.length = n) (hR : R (.string (strI xs)) w) : OpG P o t [] w R := by
  obtain ⟨h1, h2, h3⟩ := conv8_some hT
  subst hl
  refine OpG.of_run (v := .string (strI xs)) (w' := w) ?_ hR
  have hrun : (Conv.bytesToString (.slice A xs.length c)).run P w = .ok (.string (strI xs)) w := by
    cases hA : A with
    | none =>
      have : xs = [] := by
        rcases xs with _ | ⟨y, ys⟩
        · rfl
        · obtain ⟨ad, h⟩ := hr.some (by rw [cells_len]; simp [kInt])
          rw [hA] at h; cases h
      subst this
      rfl
    | some a =>
      subst hA
      have hld : (loadCells a xs.length).run P w = .ok (xs.map (Value.int .u8)).toArray w := by
        have := run_loadCells_list (P := P) w a (xs.map (Value.int .u8)) (fun j u hj => by
          obtain ⟨ad', he, _, hc⟩ := hr j u (by rw [cells_u8]; exact hj)
          injection he with he; subst he; exact hc)
        rwa [List.length_map] at this
      rw [run_bytesToString w a xs.length c xs hld, foldl_push]
      congr 2
      simp [strI, ByteArray.empty, ByteArray.emptyWithCapacity]
      rfl
  have := run_convert_bytes_string (P := P) w src dst e A xs.length c h1 h2 h3
  simp [execOp, ho, hx, this, hrun]
theorem og_intStr {src dst : Nat} {x : Operand} {k : IntKind} {n : Int} (ho : o.op = .convert src dst x) (hT : ((P.underlying src).isSome && (match P.underlying dst with | some .string => true | _ => false)) = true) (hx : Act.eval ⟨t, []⟩ x = .int k n) (hR : R (.string (Utf8.encode n)) w) : OpG P o t [] w R := by
  rw [Bool.and_eq_true] at hT
  obtain ⟨h1, h2⟩ := hT
  have h3 : P.underlying dst = some .string := by
    split at h2
    · assumption
    · cases h2
  refine OpG.of_run (v := .string (Utf8.encode n)) (w' := w) ?_ hR
  have := run_convert_int_string (P := P) w src dst k n h1 h3
  simp [execOp, ho, hx, this]
theorem sliceE_of {T e sz : Nat} (h : sliceE P T = some (e, sz)) : P.underlying T = some (.slice e) := (sliceE_some h).1
/-- An append of a string's bytes. -/
theorem ow_appendS {T U e n c : Nat} {sl x : Operand} {A : Option Addr} {xs : List Int} {s : ByteArray} (ho : o.op = .call { callee := .builtin .append, args := #[sl, x], argTypes := #[T, U] })
    (hT : sliceE P T = some (e, 1)) (hU : P.underlying U = some .string) (hz : (P.info? e).map (fun i => (i.zero, i.bytes)) = some (some (.int .u8 0), 1))
    (hs : Act.eval ⟨t, []⟩ sl = .slice A n c) (hown : Ow w0 (kInt .u8 e) w A n c xs) (hx : Act.eval ⟨t, []⟩ x = .string s) (hb : (n + s.size) * 2 ≤ 140737488355328) (k0 : w0.heap.size ≤ w.heap.size)
    (hR : ∀ A' c' w', Ow w0 (kInt .u8 e) w' A' (xs ++ bytesI s).length c' (xs ++ bytesI s) → Kp (Ra A) w w' → (∀ k, Ra A' k → Ra A k ∨ w.heap.size ≤ k) → App w w' A A' → R (.slice A' (xs ++ bytesI s).length c') w') : OpG P o t [] w R := by
  obtain ⟨hlen, hown⟩ := hown
  subst hlen
  obtain ⟨hu, i, hi, hsz⟩ := sliceE_some hT
  rw [hi] at hz
  simp only [Option.map_some, Option.some.injEq, Prod.mk.injEq] at hz
  obtain ⟨hz1, hz2⟩ := hz
  have hxl : ((kInt .u8 e).cells xs).length = xs.length := by rw [cells_len]; simp [kInt]
  have hlen : (xs ++ bytesI s).length = xs.length + s.size := by rw [List.length_append, bytesI_len]
  have hml : maxLen = 9223372036854775807 := rfl
  obtain ⟨v', w', hrun, h2, h3, h4⟩ := Lib.run_append_own_string (P := P) w w0.heap.size T U o.type e i hu hU hi hz1 hsz hz2 (.slice A xs.length c) xs.length ((kInt .u8 e).cells xs) hown s (by rw [hml]; omega) (by omega) k0
  have happ : (∃ n0 c0, v' = .slice A n0 c0) ∨ (Kp No w w' ∧ ∃ n0 c0, v' = .slice (some ⟨w.heap.size, 0, none⟩) n0 c0) := by
    rcases hown.2 with ⟨hv, hn⟩ | ⟨g, cap, cur, hv, hbg, hg, hnc, hcm, hcs, htake⟩
    · injection hv with hv1 hv2 hv3
      subst hv1
      have hxs : xs = [] := List.eq_nil_of_length_eq_zero hv2
      subst hxs
      subst hv3
      by_cases hm : s.size = 0
      · left
        have hf := Lib.run_firstCells_string (P := P) w 1 s
        rw [hm] at hf
        have hr : (Builtin.append_ #[T, U] o.type #[.slice none 0 0, .string s]).run P w = .ok (.slice none 0 0) w := by
          simp [Builtin.append_, run_underlying hu, run_underlying hU, sizeOf, typeInfo, hi, hsz, Builtin.lenOf, hm, hf]
        rw [List.length_nil, hr] at hrun
        injection hrun with h5 h6
        exact ⟨_, _, h5.symm⟩
      · have hr := run_append_nil_string (P := P) w T U o.type e i (.int .u8 0) hu hU hi hz1 s (by omega) (by omega) (by rw [hz2]; omega)
        rw [List.length_nil, hr] at hrun
        injection hrun with h5 h6
        subst h5
        refine .inr ⟨?_, _, _, rfl⟩
        subst h6
        exact ⟨rfl, rfl, rfl, by simp, fun k hk _ => heap_alloc_old w.drew _ hk⟩
    · injection hv with hv1 hv2 hv3
      subst hv1
      subst hv3
      have hcs' : cur.size = c := by simpa [kInt] using hcs
      by_cases hroom : xs.length + s.size ≤ c
      · have hr := Lib.run_append_room_string (P := P) w T U o.type e i hu hU hi hsz g xs.length c cur hg s hroom (by omega)
        rw [hr] at hrun
        injection hrun with h5 h6
        subst h5
        exact .inl ⟨_, _, rfl⟩
      · have hr := Lib.run_append_grow_string (P := P) w T U o.type e i (.int .u8 0) hu hU hi hz1 ⟨g, 0, none⟩ xs.length c ((kInt .u8 e).cells xs) (by rw [hsz, hxl, Nat.mul_one]) (fun j u hj => by simpa [Addr.add_lit] using hown.cells rfl j u hj) s (by omega) (by omega) (by rw [hz2]; exact growslice_fits (by omega) (by omega))
        rw [hr] at hrun
        injection hrun with h5 h6
        subst h5
        refine .inr ⟨?_, _, _, rfl⟩
        subst h6
        exact ⟨rfl, rfl, rfl, by simp, fun k hk _ => heap_alloc_old w.drew _ hk⟩
  obtain ⟨A', c', hv, _⟩ := own_form h2
  subst hv
  refine OpG.of_run (v := .slice A' (xs.length + s.size) c') (w' := w') ?_ ?_
  · simp only [execOp, ho, resolve, invoke, builtin, Sem.run_bind, Sem.run_pure, Result.andThen_ok, List.map_toArray, List.map_cons, List.map_nil, hs, hx, hrun]
  · have := hR A' c' w' ⟨rfl, by unfold Own; rw [hlen, cells_append, ← strCells_bytes]; exact h2⟩ ((Kp.of_grown h3).mono fun k hk => (ra_row _ _ _ _).1 hk) (fun k hk => by
      rcases happ with ⟨n0, c0, e⟩ | ⟨_, n0, c0, e⟩
      · injection e with e; subst e; exact .inl hk
      · injection e with e; subst e; exact .inr (Nat.le_of_eq ((ra_some _ _).1 hk).symm)) (by
      rcases happ with ⟨n0, c0, e⟩ | ⟨k2, n0, c0, e⟩
      · injection e with e; exact .inl e
      · injection e with e; subst e; exact .inr ⟨k2, fun k hk => Nat.le_of_eq ((ra_some _ _).1 hk).symm⟩)
    rw [hlen] at this
    exact this
end
end Go.Proofs.Ytampekcanmakkaa.G
