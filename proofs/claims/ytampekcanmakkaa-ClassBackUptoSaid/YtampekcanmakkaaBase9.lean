/- A row's end where new blocks were made at most. -/
import Derived.Test.YtampekcanmakkaaBase8
import Derived.ChangeSame
import Derived.WalkKit
import Derived.ProofKit
import Derived.OpenShut
set_option linter.unusedVariables false
namespace Go.Proofs.Ytampekcanmakkaa.G
open Go.RowKit Go.ChangeAt Go.ChangeShapes Go.WideShapes
section
variable {H : Type} {enc : TypeId × Value → H} {P : Program} {f : Func} {s : ChangeSpec} {apart fresh handsOn again : Bool} {W W' : World} {args : Array Value} {v : Value} {ds gs : List (DataW H)} {before pa pv : List MemPlace}
theorem post_of_kp (k : Kp No W W') (hW : DataW.Whole enc P f.params.toList s.vars apart W args.toList ds gs before)
    (hres : ∀ (b : Nat) (sp : Nat → Bool) (hd : Bool), DataW.TrodAll enc P W' b sp hd f.resultTypes.toList (v.resultList f.resultTypes.size) (s.fn H (ds ++ gs)).results [])
    (hargs : ∀ sp : Nat → Bool, (∀ p ∈ before, sp p.block = true) → DataW.TrodAll enc P W' 0 sp true f.params.toList args.toList (s.fn H (ds ++ gs)).args pa)
    (hvars : ∀ sp : Nat → Bool, (∀ p ∈ before, sp p.block = true) → DataW.TrodVars enc P W' sp s.vars (s.fn H (ds ++ gs)).vars pv) (hps : before = pa ++ pv)
    (hok : ∀ (j : Nat) (t : TypeId) (r : Value), f.resultTypes[j]? = some t → (v.resultList f.resultTypes.size)[j]? = some r → Value.okWide P W' .any 0 t r) : s.post enc P f apart fresh handsOn again W args v W' := by
  have old : ∀ p ∈ before, p.block < W.heap.size := fun p hp => hW.lt p hp
  have mark : ∀ p ∈ before, decide (p.block < W.heap.size) = true := fun p hp => decide_eq_true (old p hp)
  have A := hargs (fun b => decide (b < W.heap.size)) mark
  have A1 := hargs (fun _ => true) (fun _ _ => rfl)
  have V1 := hvars (fun _ => true) (fun _ _ => rfl)
  obtain ⟨p0, q0, hA0, hV0, hb0, hz, hn⟩ := id hW
  have all : ∀ p, p ∈ ([] ++ pa) ++ pv ↔ p ∈ before := fun p => by rw [hps]; simp
  refine ⟨ds, gs, before, [], pa, pv, hW, hres _ _ _, A, hvars _ mark, World.keptBut_mono (fun p hp => ⟨hp, ?_⟩) (k.below.frame _), fun _ => ⟨hok, _, _, ([] ++ pa) ++ pv, ⟨[] ++ pa, pv, trodAll_append A1 (hres _ _ _), V1, rfl, ?_, ?_⟩, ?_⟩⟩
  · rw [hps, List.mem_append] at hp
    exact .inr hp
  · intro b off hp
    have hp' := (all _).1 hp
    rw [k.below.frozen (old _ hp')]
    exact hz b off hp'
  · intro ha
    have h1 := hn ha
    rw [hps] at h1
    simpa using h1
  · intro p hp _
    exact (all p).1 hp
end
end Go.Proofs.Ytampekcanmakkaa.G
