/- ClassBack: the row, where what it reads is of bulk at most 1048576: it returns true, and the input reads as it did. -/
import Derived.Test.YtampekcanmakkaaRows
import Derived.Test.YtampekcanmakkaaBase9
import Derived.Test.YtampekcanmakkaaLaw7
import Derived.Test.YtampekcanmakkaaOpen4
import Derived.WalkKit
import Derived.ProofKit
import Derived.OpenShut
import Derived.JoinedCond
import Derived.ChangeMaps5
namespace Go.Proofs.Ytampekcanmakkaa.classBack
open Go.ChangeShapes Go.WideShapes Go.ChangeAt Go.RowKit
set_option linter.all false
theorem own : ownKnob Try.prog.godebug = none := by kernel_rfl
theorem laidOut : laidOutB Try.prog = true := by kernel_rfl
def noClass : Value := .agg #[.int .u64 0, .int .u64 0, .int .u64 0, .int .u64 0]
def noText : Value := .string ⟨#[]⟩
set_option maxRecDepth 100000 in
theorem lifted (os : Os) (started : os.Started) (H : Type) (enc : TypeId × Value → H) (F0 : Stop.Interp) :
    ReturnsInHanded {} Try.checked os 7 .any ((Rows.OpenSpec.upto Rows.classBackSpec).pre6 enc Try.prog Try.f7 Rows.classBackUptoRow.domain false) (((Rows.OpenSpec.upto Rows.classBackSpec).at F0).post enc Try.prog Try.f7 false true false false) := by
  refine returnsInHanded_of_cond (C := Try.checked) (s := Rows.OpenSpec.upto Rows.classBackSpec) (k := Rows.uptoSmall) rfl own started (by kernel_rfl) Try.func7
    (OpenSpec.witness (enc := enc) (C := Try.checked) (s := Rows.OpenSpec.upto Rows.classBackSpec) (k := Rows.uptoSmall) rfl false ⟨#[], #[noClass, noText, noText], []⟩ 8 (by kernel_rfl) (by kernel_rfl) (by kernel_rfl)
      (x := ([.agg [.lit (.int .u64 0), .lit (.int .u64 0), .lit (.int .u64 0), .lit (.int .u64 0)], .lit (.string []), .lit (.string [])], [], [])) (by kernel_rfl) (by kernel_rfl) (by kernel_rfl)) ?_
  intro W base args ds gs before hval0 hW hcnd hk _
  have hval : ∀ (j : Nat) t v, Try.f7.params[j]? = some t → args[j]? = some v → Value.okWide Try.prog W .any base t v := hval0
  have hW' := hW
  obtain ⟨p, q, hA0, hV, rfl, hfz, hnd⟩ := hW
  have hA : DataW.TrodAll enc Try.prog W 0 (fun _ => true) true Try.f7.params.toList args.toList ds p := hA0
  rw [Try.params7] at hA hval
  obtain ⟨v0, vs0, d0, ds0, p0, q0, hargs, rfl, rfl, h0, r0⟩ := trodAll_cons hA
  obtain ⟨v1, vs1, d1, ds1, p1, q1, rfl, rfl, rfl, h1, r1⟩ := trodAll_cons r0
  obtain ⟨v2, vs2, d2, ds2, p2, q2, rfl, rfl, rfl, h2, r2⟩ := trodAll_cons r1
  obtain ⟨rfl, rfl, rfl⟩ := trodAll_nil r2
  obtain rfl : args = #[v0, v1, v2] := by cases args; simp_all
  obtain ⟨rfl, rfl⟩ := trodVars_none hV
  obtain ⟨a, ha, ea⟩ := G.open_class (hval 0 _ v0 rfl rfl) h0
  obtain ⟨s1, e1, f1, g1, m1⟩ := Go.ChangeMaps.open_string Try.underlying9 (hval 1 _ v1 rfl rfl) h1
  obtain ⟨s2, e2, f2, g2, m2⟩ := Go.ChangeMaps.open_string Try.underlying9 (hval 2 _ v2 rfl rfl) h2
  subst ea e1 e2 f1 f2 g1 g2
  clear hA0 hval0
  simp only [List.append_nil] at hW' hk
  have hb : Rows.uptoBulkAll [d0, .lit (.string s1.data.toList), .lit (.string s2.data.toList)] ≤ 1048576 := of_decide_eq_true hk
  have hsz : s1.size + s2.size ≤ 50000000 := by
    simp only [Rows.uptoBulkAll, Rows.uptoBulk, Array.length_toList] at hb
    have z1 : s1.data.size = s1.size := rfl
    have z2 : s2.data.size = s2.size := rfl
    omega
  have hlt : ∀ x ∈ p0, x.block < W.heap.size := fun x hx => by simpa using hW'.lt x (by simpa using hx)
  refine (G.classBack_walk a ha s1 s2 hsz W).mono fun e W' ⟨he, hg⟩ => ?_
  subst he
  exact ⟨_, rfl, G.post_of_kp (s := (Rows.OpenSpec.upto Rows.classBackSpec).at F0) (pa := p0 ++ ([] ++ ([] ++ []))) (pv := []) hg hW' (fun _ _ _ => (trodAll_cons_mk (shut_bool Try.underlying4 _) trodAll_mk0)) (fun sp hsp => (trodAll_cons_mk (WideElems.Trod_stays laidOut (by kernel_rfl) (of_decide_eq_true (by kernel_rfl)) h0 (fun x hx => hg.below.same (hlt x hx)) (fun x hx => hsp x (by simpa using hx))) (trodAll_cons_mk (Go.ChangeMaps.shut_string Try.underlying9 m1) (trodAll_cons_mk (Go.ChangeMaps.shut_string Try.underlying9 m2) trodAll_mk0)))) (fun _ _ => rfl) (by simp)
    (ok_one (by kernel_rfl) rfl (okWide_bool_mk Try.underlying4 _))⟩
theorem over : Rows.classBackUptoRow.holds Try.pinned (Rows.OpenSpec.upto Rows.classBackSpec) :=
  OpenClaim.holds_of_cond 7 Try.f7 rfl rfl rfl rfl rfl rfl rfl ⟨rfl, rfl, rfl, rfl, rfl⟩ rfl rfl rfl rfl rfl (by kernel_rfl) Try.func7 (by kernel_rfl)
    (of_decide_eq_true (by kernel_rfl)) (by unfold Func.isWrapper; first | (rw [if_pos (by decide +kernel)]; kernel_rfl) | (rw [if_neg (by decide +kernel)]; exact ⟨rfl, rfl⟩))
    (fun os started H enc _ F0 => lifted os started H enc F0)
theorem proved : Rows.ClassBackUptoSaid := over
#print axioms proved
end Go.Proofs.Ytampekcanmakkaa.classBack
