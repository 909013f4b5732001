/- Rows of slices; rounds of a loop, one by one. -/
import Derived.Test.YtampekcanmakkaaBase12
set_option linter.unusedVariables false
namespace Go.Proofs.Ytampekcanmakkaa.G
open Go.RowKit
structure Sl where
  A : Option Addr
  n : Nat
  c : Nat
def zSl : Sl := ⟨none, 0, 0⟩
def kSl (e : TypeId) : Kn Sl := ⟨1, e, fun x => [.slice x.A x.n x.c], fun _ => rfl, fun x u hu => by simp at hu; subst hu; rfl⟩
theorem w_round {P : Program} {f : Func} {p0 : List Nat} {Q : Exit → Act → World → Prop} {a : Act} {w : World} (n : Nat) (h : (cd f p0).wp P (Exit.then (Code.rounds P (cd f p0) Q n) Q) a w) : Code.rounds P (cd f p0) Q (n + 1) a w := h
end Go.Proofs.Ytampekcanmakkaa.G
