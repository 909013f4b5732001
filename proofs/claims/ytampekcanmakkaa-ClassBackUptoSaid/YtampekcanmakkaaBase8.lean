/- Arrays at an index that is reckoned; the library's functions that are called. -/
import Derived.Test.YtampekcanmakkaaBase7
import Derived.Test.YtampekcanmakkaaShelf
set_option linter.unusedVariables false
namespace Go.Proofs.Ytampekcanmakkaa.G
open Go.RowKit
section
variable {P : Program} {o : Oper} {t : Array Value} {w : World} {R : Value → World → Prop}
def arrE (P : Program) (T : TypeId) : Option (Nat × TypeId × Nat) := match P.underlying T with
  | some (.array n e) => (P.info? e).map fun i => (n, e, i.size)
  | _ => none
theorem arrE_some {T n e sz : Nat} (h : arrE P T = some (n, e, sz)) : P.underlying T = some (.array n e) ∧ ∃ i, P.info? e = some i ∧ i.size = sz := by
  unfold arrE at h
  split at h
  · rename_i n' e' hu
    cases hi : P.info? e' with
    | none => rw [hi] at h; cases h
    | some i =>
      rw [hi] at h
      simp only [Option.map_some, Option.some.injEq, Prod.mk.injEq] at h
      obtain ⟨rfl, rfl, rfl⟩ := h
      exact ⟨hu, i, hi, rfl⟩
  · cases h
/-- The address of an array's element. -/
theorem og_indexA {T n e sz b off : Nat} {x y : Operand} {k : IntKind} {iv : Int} (ho : o.op = .indexAddr T x y) (hT : arrE P T = some (n, e, sz)) (hx : Act.eval ⟨t, []⟩ x = .pointer (some ⟨b, off, none⟩)) (hy : Act.eval ⟨t, []⟩ y = .int k iv)
    (h0 : 0 ≤ iv) (h1 : iv < (n : Int)) (hR : R (.pointer (some ⟨b, off + iv.toNat * sz, none⟩)) w) : OpG P o t [] w R := by
  obtain ⟨hu, i, hi, hsz⟩ := arrE_some hT
  refine OpG.of_run (w' := w) ?_ hR
  simp [execOp, ho, hx, hy, Instr.indexAt, asIntOf, run_underlying hu, Instr.sureAddr, sizeOf, typeInfo, hi, hsz, h0, h1, Addr.add_lit]
/-- A load of an array's element, or of a field of one. -/
theorem og_loadA {α : Type} {K : Kn α} {T U b base off : Nat} {x : Operand} {cs : Array Value} {xs : List α} {iv : Int} (z : α) (v : Value) (ho : o.op = .load T x) (hx : Act.eval ⟨t, []⟩ x = .pointer (some ⟨b, base + iv.toNat * K.sz + off, none⟩)) (hb : Blk w b cs U)
    (hcs : (cs.toList.drop base).take (xs.length * K.sz) = K.cells xs) (h0 : 0 ≤ iv) (h1 : iv < (xs.length : Int)) (hl : ldV P T (K.enc (rd z xs iv)).toArray off = some v) (hR : R v w) : OpG P o t [] w R := by
  refine OpG.of_run (v := v) (w' := w) ?_ hR
  have := run_loadVar_at (P := P) (w := w) (a := ⟨b, base + iv.toNat * K.sz + off, none⟩) (T := T) (cs := (K.enc (rd z xs iv)).toArray) (off := off) (v := v) (fun j u hj => by
    have h2 := rd_elem (K := K) (xs := xs) z h0 h1 (off + j) u (by simpa using hj)
    rw [← hcs, List.getElem?_take] at h2
    split at h2
    · rw [List.getElem?_drop] at h2
      rw [add_blk, hb.cell, ← Array.getElem?_toList, ← h2]
      congr 1
      omega
    · cases h2) hl
  simp [execOp, ho, hx, Instr.loadAt, Instr.sureAddr, this]
end
/-! ### the library's -/
section
open Go.Proofs
variable (K : Nat)
def L_repeat.f (K : Nat) (s : ByteArray) (c : Int) : Option ByteArray := if 0 ≤ c ∧ c ≤ 9223372036854775807 ∧ s.size * c.toNat ≤ 140737488355328 then some ⟨(Lib.repeatL s.data.toList c.toNat).toArray⟩ else none
def L_repeat.R (r : ByteArray) (w : World) : Ending → World → Prop := fun e w' => e = .returned (.string r) ∧ Kp No w w'
theorem L_repeat.ok (s : ByteArray) (c : Int) (w : World) (r : ByteArray) (H : L_repeat.f K s c = some r) : Calls Try.prog 65 #[.string s, .int .i64 c] w (L_repeat.R r w) := by
  unfold L_repeat.f at H
  split at H
  · rename_i h
    obtain ⟨h1, h2, h3⟩ := h
    obtain rfl := Option.some.inj H
    have hc : ((c.toNat : Int)) = c := by omega
    have h4 := Try.strings_Repeat s c.toNat w (by omega) h3
    rw [hc] at h4
    refine h4.mono ?_
    rintro e w' ⟨rfl, hb⟩
    exact ⟨rfl, Kp.of_below hb⟩
  · cases H
def L_indexByte.f (K : Nat) (s : ByteArray) (c : Int) : Option Int := some (Lib.indexByte s.data.toList c.toNat.toUInt8)
def L_indexByte.R (r : Int) (w : World) : Ending → World → Prop := fun e w' => e = .returned (.int .i64 r) ∧ Kp No w w'
theorem L_indexByte.ok (s : ByteArray) (c : Int) (w : World) (r : Int) (H : L_indexByte.f K s c = some r) : Calls Try.prog 146 #[.string s, .int .u8 c] w (L_indexByte.R r w) := by
  obtain rfl := Option.some.inj H
  refine (Try.strings_IndexByte s c w).mono ?_
  rintro e w' ⟨rfl, rfl⟩
  exact ⟨rfl, Kp.refl _ _⟩
def L_hasPrefix.f (K : Nat) (s p : ByteArray) : Option Bool := some (Lib.hasPrefix s.data.toList p.data.toList)
def L_hasPrefix.R (r : Bool) (w : World) : Ending → World → Prop := fun e w' => e = .returned (.bool r) ∧ Kp No w w'
theorem L_hasPrefix.ok (s p : ByteArray) (w : World) (r : Bool) (H : L_hasPrefix.f K s p = some r) : Calls Try.prog 106 #[.string s, .string p] w (L_hasPrefix.R r w) := by
  obtain rfl := Option.some.inj H
  refine (Try.strings_HasPrefix s p w).mono ?_
  rintro e w' ⟨rfl, rfl⟩
  exact ⟨rfl, Kp.refl _ _⟩
end
end Go.Proofs.Ytampekcanmakkaa.G
