/- Lists of acts that are handed in: what they read as. -/
import Derived.Test.YtampekcanmakkaaOpen1
import Derived.Test.YtampekcanmakkaaLaw3e
set_option linter.unusedVariables false
namespace Go.Proofs.Ytampekcanmakkaa.G
open Go Go.RowKit Go.ChangeAt Go.ChangeShapes Go.WideShapes
theorem cells3 : Try.prog.cellsOf 3 = 1 := by kernel_rfl
theorem cells9 : Try.prog.cellsOf 9 = 1 := by kernel_rfl
theorem cells31 : Try.prog.cellsOf 31 = 2 := by kernel_rfl
theorem cells33 : Try.prog.cellsOf 33 = 6 := by kernel_rfl
theorem list2 {cs : List Value} (h : cs.length = 2) : ∃ c0 c1, cs = [c0, c1] := by
  match cs, h with
  | [c0, c1], _ => exact ⟨c0, c1, rfl⟩
theorem list6 {cs : List Value} (h : cs.length = 6) : ∃ c0 c1 c2 c3 c4 c5, cs = [c0, c1, c2, c3, c4, c5] := by
  match cs, h with
  | [c0, c1, c2, c3, c4, c5], _ => exact ⟨c0, c1, c2, c3, c4, c5, rfl⟩
theorem elem_S30 : Elem Try.prog (K30 31) := fun H enc w base spare held fuel cs x h => by
  obtain ⟨hl, n, hf⟩ := field_of Try.underlying31 h
  obtain ⟨y0, g0⟩ := hf 0 _ rfl
  obtain ⟨y1, g1⟩ := hf 1 _ rfl
  have hl2 : cs.length = 2 := hl.trans cells31
  obtain ⟨c0, c1, rfl⟩ := list2 hl2
  obtain ⟨v0, e0, _, _⟩ := DataW.trod_int Try.underlying3 g0
  obtain ⟨v1, e1, _, _⟩ := DataW.trod_int Try.underlying3 g1
  simp [cells3] at e0 e1
  subst e0 e1
  exact ⟨⟨v0, v1⟩, rfl⟩
theorem elem_S32 : Elem Try.prog (K32 33) := fun H enc w base spare held fuel cs x h => by
  obtain ⟨hl, n, hf⟩ := field_of Try.underlying33 h
  obtain ⟨y0, g0⟩ := hf 0 _ rfl
  obtain ⟨y1, g1⟩ := hf 1 _ rfl
  obtain ⟨y2, g2⟩ := hf 2 _ rfl
  obtain ⟨y3, g3⟩ := hf 3 _ rfl
  obtain ⟨y4, g4⟩ := hf 4 _ rfl
  have hl2 : cs.length = 6 := hl.trans cells33
  obtain ⟨c0, c1, c2, c3, c4, c5, rfl⟩ := list6 hl2
  obtain ⟨v0, e0, _, _⟩ := DataW.trod_int Try.underlying3 g0
  obtain ⟨v1, e1, _, _⟩ := DataW.trod_int Try.underlying3 g1
  obtain ⟨v2, e2, _, _⟩ := DataW.trod_string Try.underlying9 g2
  obtain ⟨v3, e3, _, _⟩ := DataW.trod_string Try.underlying9 g3
  obtain ⟨v4, e4⟩ := elem_S30 _ _ _ _ _ _ _ _ _ g4
  simp [cells3] at e0 e1
  simp [cells9] at e2 e3
  simp [cells31, K30] at e4
  obtain ⟨e4, e5⟩ := e4
  subst e0 e1 e2 e3 e4 e5
  exact ⟨⟨v0, v1, v2, v3, v4⟩, rfl⟩
theorem action_walk (A : Option Addr) (n c : Nat) (b : List S32) (i k : Int) (w : World) (hr : Rd No w A ((K32 33).cells b)) (hn : b.length = n) (hc : n ≤ c) : Calls Try.prog 3 #[.slice A n c, .int .i64 i, .int .i64 k] w (dowellaw24_ActionParts_3.R true w) :=
  dowellaw24_ActionParts_3.ok 4194304 A c b i k n w hr hc hn true (action_true b i k)
end Go.Proofs.Ytampekcanmakkaa.G
