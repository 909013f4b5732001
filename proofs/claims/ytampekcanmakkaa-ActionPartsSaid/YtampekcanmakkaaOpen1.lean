/- Arguments that are slices of flat elements: what they read as. -/
import Derived.Test.YtampekcanmakkaaBase9
import Derived.Test.YtampekcanmakkaaBase14
set_option linter.unusedVariables false
namespace Go.Proofs.Ytampekcanmakkaa.G
open Go Go.RowKit Go.ChangeAt Go.ChangeShapes Go.WideShapes
/-- Cells that are read are an element's. -/
def Elem (P : Program) {α : Type} (K : Kn α) : Prop := ∀ (H : Type) (enc : TypeId × Value → H) (w : World) (base : Nat) (spare : Nat → Bool) (held : Bool) (fuel : Nat) (cs : List Value) (x : DataW H × List MemPlace), DataW.trod enc P w base spare held fuel K.e cs = some x → ∃ v : α, cs = K.enc v
theorem row_open {P : Program} {α : Type} {K : Kn α} (z : α) (he : Elem P K) {H : Type} {enc : TypeId × Value → H} {w : World} {spare : Nat → Bool} {held : Bool} {fuel t : Nat} {A : Option Addr} {n c : Nat} {x : DataW H × List MemPlace} (ht : P.underlying t = some (.slice K.e)) (hs : P.cellsOf K.e = K.sz)
    (h : DataW.trod enc P w 0 spare held fuel t [.slice A n c] = some x) : ∃ xs : List α, xs.length = n ∧ n ≤ c ∧ Rd No w A (K.cells xs) := by
  rcases DataW.trod_slice ht h with ⟨hcs, _⟩ | ⟨a, len, cap, elems, rest, m, _, hcs, _, _, hlc, _, hlen, hel, _, _⟩
  · injection hcs with h1 _
    injection h1 with h1 h2 h3
    subst h1 h2 h3
    exact ⟨[], rfl, Nat.le_refl _, Rd.nil _ _ _⟩
  · injection hcs with h1 _
    injection h1 with h1 h2 h3
    subst h1 h2 h3
    have one : ∀ i, i < n → ∃ v : α, w.cells? 0 (a.add (i * K.sz)) K.sz = some (K.enc v) := fun i hi => by
      have h4 := hel i hi
      rw [hs, List.getElem?_eq_getElem (by omega), Option.bind_eq_some_iff] at h4
      obtain ⟨cs, h5, h6⟩ := h4
      obtain ⟨v, rfl⟩ := he H enc w 0 spare held m cs _ h6
      exact ⟨v, h5⟩
    have pick : ∃ f : Nat → α, ∀ i, i < n → w.cells? 0 (a.add (i * K.sz)) K.sz = some (K.enc (f i)) := by
      classical
      refine ⟨fun i => if hi : i < n then Classical.choose (one i hi) else z, fun i hi => ?_⟩
      simp only [dif_pos hi]
      exact Classical.choose_spec (one i hi)
    obtain ⟨f, hf⟩ := pick
    have hxl : ((List.range n).map f).length = n := by simp
    refine ⟨(List.range n).map f, hxl, hlc, fun j v hj => ⟨a, rfl, fun h => h, ?_⟩⟩
    have hjl : j < n * K.sz := by
      have := (List.getElem?_eq_some_iff.1 hj).1
      rw [cells_len, hxl] at this
      exact this
    have hpos : 0 < K.sz := by
      rcases Nat.eq_zero_or_pos K.sz with h0 | h0
      · rw [h0] at hjl; omega
      · exact h0
    have h1 : j / K.sz < n := (Nat.div_lt_iff_lt_mul hpos).2 hjl
    have h2 : j % K.sz < K.sz := Nat.mod_lt _ hpos
    have h3 : j / K.sz * K.sz + j % K.sz = j := by rw [Nat.mul_comm]; exact Nat.div_add_mod j K.sz
    have h4 := cells_at (K := K) ((List.range n).map f) (j / K.sz) (j % K.sz) z (by rw [hxl]; exact h1) h2
    rw [h3, hj] at h4
    have h5 : ((List.range n).map f).getD (j / K.sz) z = f (j / K.sz) := by
      rw [List.getD_eq_getElem?_getD, List.getElem?_map, List.getElem?_range h1]
      rfl
    rw [h5] at h4
    obtain ⟨_, _, h7⟩ := World.cells?_some (hf _ h1)
    have h8 := h7 _ h2
    rw [add_add, h3, ← h4] at h8
    exact h8
/-- A field of a struct that is read. -/
theorem field_of {P : Program} {H : Type} {enc : TypeId × Value → H} {w : World} {base : Nat} {spare : Nat → Bool} {held : Bool} {fuel t : Nat} {cs : List Value} {x : DataW H × List MemPlace} {fs : Array Field} (ht : P.underlying t = some (.struct fs)) (h : DataW.trod enc P w base spare held fuel t cs = some x) :
    cs.length = P.cellsOf t ∧ ∃ n, ∀ (i : Nat) (f : Field), fs[i]? = some f → ∃ y, DataW.trod enc P w base spare held n f.type ((cs.drop f.offset).take (P.cellsOf f.type)) = some y := by
  obtain ⟨xs, n, _, _, hl, hx, hf⟩ := DataW.trod_struct ht h
  refine ⟨hl, n, fun i f hi => ?_⟩
  have h1 := hf i f hi
  have h2 : i < xs.length := by rw [hx]; exact (Array.getElem?_eq_some_iff.1 hi).1
  rw [List.getElem?_eq_getElem h2] at h1
  exact ⟨_, h1⟩
end Go.Proofs.Ytampekcanmakkaa.G
