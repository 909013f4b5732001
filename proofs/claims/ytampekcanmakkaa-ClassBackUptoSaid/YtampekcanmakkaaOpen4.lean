/- Classes that are handed in: what they read as. -/
import Derived.Test.YtampekcanmakkaaLawClass
import Derived.WalkKit
import Derived.ProofKit
import Derived.OpenShut
import Derived.WideShapes
set_option linter.all false
namespace Go.Proofs.Ytampekcanmakkaa.G
open Go Go.RowKit Go.ChangeAt Go.ChangeShapes Go.WideShapes
theorem cells_u64 : Try.prog.cellsOf 35 = 1 := by kernel_rfl
theorem cells_class : Try.prog.cellsOf 37 = 4 := by kernel_rfl
theorem list4 {cs : List Value} (h : cs.length = 4) : ∃ c0 c1 c2 c3, cs = [c0, c1, c2, c3] := by
  match cs, h with
  | [c0, c1, c2, c3], _ => exact ⟨c0, c1, c2, c3, rfl⟩
theorem u64_wf {n : Int} (h : (Lit.int .u64 n).wf = true) : 0 ≤ n ∧ n < 18446744073709551616 := by
  simp [Lit.wf, IntKind.min, IntKind.max, IntKind.signed, IntKind.bits] at h
  omega
theorem open_class {w : World} {base : Nat} {spare : Nat → Bool} {held : Bool} {H : Type} {enc : TypeId × Value → H} {v : Value} {d : DataW H} {ps : List MemPlace} {r : Reach} {W : World} {b0 : Nat} (hval : Value.okWide Try.prog W r b0 37 v) (hd : DataW.Trod enc Try.prog w base spare held 37 v d ps) :
    ∃ a : Tapi_Class, COk a ∧ v = .agg (cellsC a) := by
  have hv : ∃ cs : Array Value, v = .agg cs ∧ cs.size = Try.prog.cellsOf 37 := by
    simp only [Value.okWide, Try.underlying37] at hval
    obtain ⟨cs, h1, h2, _⟩ := hval
    exact ⟨cs, h1, h2⟩
  obtain ⟨cs, rfl, hn⟩ := hv
  rw [cells_class] at hn
  obtain ⟨fuel, hf⟩ := hd
  obtain ⟨xs, m, _, _, hl, hx, he⟩ := DataW.trod_array Try.underlying37 hf
  rw [cells_class] at hl
  obtain ⟨c0, c1, c2, c3, e⟩ := list4 hl
  have one : ∀ i, i < 4 → ∃ n, ((Value.agg cs).cells.toList.drop (i * 1)).take 1 = [.int .u64 n] ∧ (Lit.int .u64 n).wf = true := fun i hi => by
    have h1 := he i hi
    rw [cells_u64, List.getElem?_eq_getElem (by omega)] at h1
    obtain ⟨n, h2, _, h3⟩ := DataW.trod_int Try.underlying35 h1
    exact ⟨n, h2, h3⟩
  obtain ⟨n0, e0, w0⟩ := one 0 (by omega)
  obtain ⟨n1, e1, w1⟩ := one 1 (by omega)
  obtain ⟨n2, e2, w2⟩ := one 2 (by omega)
  obtain ⟨n3, e3, w3⟩ := one 3 (by omega)
  rw [e] at e0 e1 e2 e3
  simp at e0 e1 e2 e3
  subst e0 e1 e2 e3
  refine ⟨⟨n0, n1, n2, n3⟩, ⟨u64_wf w0, u64_wf w1, u64_wf w2, u64_wf w3⟩, ?_⟩
  have e' : cs.toList = [Value.int .u64 n0, Value.int .u64 n1, Value.int .u64 n2, Value.int .u64 n3] := e
  have : cs = #[Value.int .u64 n0, Value.int .u64 n1, Value.int .u64 n2, Value.int .u64 n3] := by cases cs; simp_all
  rw [this]; rfl
end Go.Proofs.Ytampekcanmakkaa.G
