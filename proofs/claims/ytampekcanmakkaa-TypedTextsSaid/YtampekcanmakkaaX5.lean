/- What the functions compute, and that the calls come to it: printed by a program. -/
import Derived.Test.YtampekcanmakkaaBase8
import Derived.Test.YtampekcanmakkaaProg
set_option linter.unusedVariables false
namespace Go.Proofs.Ytampekcanmakkaa.G
open Go Go.RowKit Go.Proofs
structure S30 where
  f0 : Int
  f1 : Int
def z30 : S30 := ⟨0, 0⟩
def K30 (e : TypeId) : Kn S30 := ⟨2, e, fun x => [.int .i64 x.f0, .int .i64 x.f1], fun _ => rfl, fun x u hu => by simp at hu; rcases hu with rfl | rfl <;> rfl⟩

/-! ### dowel/typed.Text -/
def typed_Text_23.j0F (b4 : Nat) (x12 : Bool) (u_ : Nat → Value) : Array Value := #[u_ 0, .pointer (some ⟨b4, 0, none⟩), u_ 2, u_ 3, u_ 4, u_ 5, u_ 6, u_ 7, u_ 8, u_ 9, u_ 10, u_ 11, .bool x12, u_ 13, u_ 14, u_ 15, u_ 16, u_ 17, u_ 18, u_ 19, u_ 20, u_ 21, u_ 22, u_ 23, u_ 24, u_ 25, u_ 26, u_ 27, u_ 28, u_ 29, u_ 30, u_ 31, u_ 32, u_ 33, u_ 34, u_ 35, u_ 36, u_ 37]
def typed_Text_23.j1F (b4 : Nat) (x21 : ByteArray) (u_ : Nat → Value) : Array Value := #[u_ 0, .pointer (some ⟨b4, 0, none⟩), u_ 2, u_ 3, .string x21, u_ 5, u_ 6, u_ 7, u_ 8, u_ 9, u_ 10, u_ 11, u_ 12, u_ 13, u_ 14, u_ 15, u_ 16, u_ 17, u_ 18, u_ 19, u_ 20, u_ 21, u_ 22, u_ 23, u_ 24, u_ 25, u_ 26, u_ 27, u_ 28, u_ 29, u_ 30, u_ 31, u_ 32, u_ 33, u_ 34, u_ 35, u_ 36, u_ 37]
def typed_Text_23.j1 (K : Nat) (a0 : S30) (x21 : ByteArray) : Option (ByteArray × Int) := (L_repeat.f K (⟨#[91]⟩ : ByteArray) a0.f1).bind fun t23 => (if t23.size + x21.size ≤ 9223372036854775807 then ((L_repeat.f K (⟨#[93]⟩ : ByteArray) a0.f1).bind fun t26 => (if (t23 ++ x21).size + t26.size ≤ 9223372036854775807 then (some ((t23 ++ x21) ++ t26, 0)) else none)) else none)
def typed_Text_23.j0 (a0 : S30) (K : Nat) (x12 : Bool) : Option (ByteArray × Int) := if x12 = true then (some ((⟨#[]⟩ : ByteArray), 6)) else (if ((a0.f0 == 1) && ((a0.f1 == a0.f1) && true)) = true then (typed_Text_23.j1 K a0 (⟨#[105, 110, 116]⟩ : ByteArray)) else (if ((a0.f0 == 2) && ((a0.f1 == a0.f1) && true)) = true then (typed_Text_23.j1 K a0 (⟨#[116, 101, 120, 116]⟩ : ByteArray)) else (if ((a0.f0 == 3) && ((a0.f1 == a0.f1) && true)) = true then (typed_Text_23.j1 K a0 (⟨#[98, 111, 111, 108]⟩ : ByteArray)) else (some ((⟨#[]⟩ : ByteArray), 6)))))
def typed_Text_23.f (K : Nat) (a0 : S30) : Option (ByteArray × Int) := if a0.f1 < 0 then (typed_Text_23.j0 a0 K true) else (typed_Text_23.j0 a0 K (decide (a0.f1 > 8)))
def typed_Text_23.R (r : ByteArray × Int) (w : World) : Ending → World → Prop := fun e w' => e = .returned (.tuple #[.string r.1, .int .i64 r.2]) ∧ Kp No w w'
set_option maxRecDepth 20000 in
set_option maxHeartbeats 4000000 in
theorem typed_Text_23.j1.ok (K : Nat) (a0 : S30) (w : World) (r : ByteArray × Int) {Q : Exit → Act → World → Prop} (b4 : Nat) (HR : ∀ a w', bodyPost Try.prog Try.f23 (typed_Text_23.R r w) .ret a w' → Q .ret a w')  (x21 : ByteArray) (u20 : Nat → Value) (w18 : World) (k19 : Kp No w w18) (hb22 : Blk w18 b4 #[.int .i64 a0.f0, .int .i64 a0.f1] 31) (ghb22 : w.heap.size ≤ b4) (H : typed_Text_23.j1 K a0 x21 = some r) : (Exit.then (fun a w => (cd Try.f23 [1, 1, 1, 1]).wp Try.prog Q a w) Q) .normal ⟨typed_Text_23.j1F b4 x21 u20, []⟩ w18 := by
  unfold typed_Text_23.j1 at H
  refine q_then ?_
  refine w_seq (p := [1, 1, 1, 1]) (p0 := [1, 1, 1, 1, 0]) (p1 := [1, 1, 1, 1, 1]) (by kernel_rfl) ?_
  obtain ⟨t23, ht24, H⟩ := Option.bind_eq_some_iff.1 H
  refine p_split (t23.size + x21.size ≤ 9223372036854775807) (fun h25 => ?_) (fun h25 => ?_)
  · rw [if_pos h25] at H
    obtain ⟨t26, ht27, H⟩ := Option.bind_eq_some_iff.1 H
    refine p_split ((t23 ++ x21).size + t26.size ≤ 9223372036854775807) (fun h28 => ?_) (fun h28 => ?_)
    · rw [if_pos h28] at H
      refine w_drawk (p := [1, 1, 1, 1, 0]) (id := 12) (by kernel_rfl) (by kernel_rfl) [0, 1, 3, 0, 15, 0, 32, 103, 255, 511, 1023] 11 (by kernel_rfl) (J := (fun _ w_ => Kp No w18 w_)) (fun w_ h1 h2 h3 h4 => Kp.same h1 h2 h3 h4) ?_
      refine k_pure 1 [.pointer (some ⟨b4, 1, none⟩)] (by kernel_rfl) (fun _ => by kernel_rfl) (fun _ _ _ _ _ h => h) ?_
      refine k_op (.int .i64 a0.f1) (by kernel_rfl) (fun b_ w_ hJ hb_ hd_ he_ => og_load (T := 3) (x := (Operand.tmp 29)) (b := b4) (off := 1) (.int .i64 a0.f1) (by kernel_rfl) (by kernel_rfl) (Blk.kp hb22 hJ id) (by kernel_rfl) ⟨rfl, hJ⟩) ?_
      refine k_op (.string t23) (by kernel_rfl) (fun b_ w_ hJ hb_ hd_ he_ => og_call (g := 65) (av := #[.string (⟨#[91]⟩ : ByteArray), .int .i64 a0.f1]) (by kernel_rfl) ((L_repeat.ok K (⟨#[91]⟩ : ByteArray) a0.f1 w_ t23 ht24).mono (by rintro e w3_ ⟨rfl, k3_⟩; exact ⟨_, rfl, rfl, Kp.trans hJ k3_ (fun _ h => h.elim)⟩))) ?_
      refine k_pure 4 [.string x21] (by kernel_rfl) (fun _ => by kernel_rfl) (fun _ _ _ _ _ h => h) ?_
      refine k_op (.string (t23 ++ x21)) (by kernel_rfl) (fun b_ w_ hJ hb_ hd_ he_ => og_cat (T := 9) (U := 9) (x := (Operand.tmp 31)) (y := (Operand.tmp 32)) (by kernel_rfl) (by kernel_rfl) (by kernel_rfl) h25 ⟨rfl, hJ⟩) ?_
      refine k_pure 6 [.pointer (some ⟨b4, 1, none⟩)] (by kernel_rfl) (fun _ => by kernel_rfl) (fun _ _ _ _ _ h => h) ?_
      refine k_op (.int .i64 a0.f1) (by kernel_rfl) (fun b_ w_ hJ hb_ hd_ he_ => og_load (T := 3) (x := (Operand.tmp 34)) (b := b4) (off := 1) (.int .i64 a0.f1) (by kernel_rfl) (by kernel_rfl) (Blk.kp hb22 hJ id) (by kernel_rfl) ⟨rfl, hJ⟩) ?_
      refine k_op (.string t26) (by kernel_rfl) (fun b_ w_ hJ hb_ hd_ he_ => og_call (g := 65) (av := #[.string (⟨#[93]⟩ : ByteArray), .int .i64 a0.f1]) (by kernel_rfl) ((L_repeat.ok K (⟨#[93]⟩ : ByteArray) a0.f1 w_ t26 ht27).mono (by rintro e w3_ ⟨rfl, k3_⟩; exact ⟨_, rfl, rfl, Kp.trans hJ k3_ (fun _ h => h.elim)⟩))) ?_
      refine k_op (.string ((t23 ++ x21) ++ t26)) (by kernel_rfl) (fun b_ w_ hJ hb_ hd_ he_ => og_cat (T := 9) (U := 9) (x := (Operand.tmp 33)) (y := (Operand.tmp 36)) (by kernel_rfl) (by kernel_rfl) (by kernel_rfl) h28 ⟨rfl, hJ⟩) ?_
      refine k_pure 11 [.string ((t23 ++ x21) ++ t26), .int .i64 0] (by kernel_rfl) (fun _ => by kernel_rfl) (fun _ _ _ _ _ h => h) ?_
      refine k_nil ?_
      rintro b_ w29 hall_ k_
      have k30 := k_
      have k31 := Kp.trans k19 k30 (fun _ h => h.elim)
      have hb32 := Blk.kp hb22 k30 id
      refine r_fin 11 (by kernel_rfl) ?_
      refine q_then ?_
      refine w_ret (p := [1, 1, 1, 1, 1]) (by kernel_rfl) ?_
      obtain rfl := Option.some.inj H
      refine HR _ _ (body_ret (vs := [.string ((t23 ++ x21) ++ t26), .int .i64 0]) (rv_tmp (by kernel_rfl) (rv_tmp (by kernel_rfl) rfl)) rfl ?_)
      exact ⟨rfl, k31⟩
    · rw [if_neg h28] at H
      cases H
  · rw [if_neg h25] at H
    cases H
set_option maxRecDepth 20000 in
set_option maxHeartbeats 4000000 in
theorem typed_Text_23.j0.ok (K : Nat) (a0 : S30) (w : World) (r : ByteArray × Int) {Q : Exit → Act → World → Prop} (b4 : Nat) (HR : ∀ a w', bodyPost Try.prog Try.f23 (typed_Text_23.R r w) .ret a w' → Q .ret a w')  (x12 : Bool) (u11 : Nat → Value) (w9 : World) (k10 : Kp No w w9) (hb13 : Blk w9 b4 #[.int .i64 a0.f0, .int .i64 a0.f1] 31) (ghb13 : w.heap.size ≤ b4) (H : typed_Text_23.j0 a0 K x12 = some r) : (cd Try.f23 [1, 0, 1]).wp Try.prog (Exit.then (fun a w => (cd Try.f23 [1, 1]).wp Try.prog Q a w) Q) ⟨typed_Text_23.j0F b4 x12 u11, []⟩ w9 := by
  unfold typed_Text_23.j0 at H
  refine w_cond (p := [1, 0, 1]) (p0 := [1, 0, 1, 0]) (p1 := [1, 0, 1, 1]) (c := (Operand.tmp 12)) (b := x12) (by kernel_rfl) (by kernel_rfl) ?_ ?_
  · intro h_
    have h14 : x12 = true := h_
    clear h_
    rw [if_pos h14] at H
    refine w_seq (p := [1, 0, 1, 0]) (p0 := [1, 0, 1, 0, 0]) (p1 := [1, 0, 1, 0, 1]) (by kernel_rfl) ?_
    refine w_region (p := [1, 0, 1, 0, 0]) (id := 2) (by kernel_rfl) ?_
    refine r_vals 0 2 [.string (⟨#[]⟩ : ByteArray), .int .i64 6] (by kernel_rfl) (by kernel_rfl) ?_
    refine r_fin 2 (by kernel_rfl) ?_
    refine q_then ?_
    refine w_ret (p := [1, 0, 1, 0, 1]) (by kernel_rfl) ?_
    refine q_then_r ?_
    obtain rfl := Option.some.inj H
    refine HR _ _ (body_ret (vs := [.string (⟨#[]⟩ : ByteArray), .int .i64 6]) (rv_tmp (by kernel_rfl) (rv_tmp (by kernel_rfl) rfl)) rfl ?_)
    exact ⟨rfl, k10⟩
  · intro h_
    have h14 : ¬ (x12 = true) := by rw [h_]; decide
    clear h_
    rw [if_neg h14] at H
    refine w_skip (p := [1, 0, 1, 1]) (by kernel_rfl) ?_
    refine q_then ?_
    refine w_seq (p := [1, 1]) (p0 := [1, 1, 0]) (p1 := [1, 1, 1]) (by kernel_rfl) ?_
    refine w_region (p := [1, 1, 0]) (id := 3) (by kernel_rfl) ?_
    refine r_vals 0 1 [.string (⟨#[]⟩ : ByteArray)] (by kernel_rfl) (by kernel_rfl) ?_
    refine r_fin 1 (by kernel_rfl) ?_
    refine q_then ?_
    refine w_seq (p := [1, 1, 1]) (p0 := [1, 1, 1, 0]) (p1 := [1, 1, 1, 1]) (by kernel_rfl) ?_
    refine w_seq (p := [1, 1, 1, 0]) (p0 := [1, 1, 1, 0, 0]) (p1 := [1, 1, 1, 0, 1]) (by kernel_rfl) ?_
    refine w_region (p := [1, 1, 1, 0, 0]) (id := 4) (by kernel_rfl) ?_
    refine r_do 0 (by kernel_rfl) (og_load (T := 31) (x := (Operand.tmp 1)) (b := b4) (off := 0) (.agg #[.int .i64 a0.f0, .int .i64 a0.f1]) (by kernel_rfl) (by kernel_rfl) hb13 (by kernel_rfl) ?_) 
    refine r_fin 1 (by kernel_rfl) ?_
    refine q_then ?_
    refine w_block (p := [1, 1, 1, 0, 1]) (p0 := [1, 1, 1, 0, 1, 0]) (id := 0) (by kernel_rfl) ?_
    refine w_seq (p := [1, 1, 1, 0, 1, 0]) (p0 := [1, 1, 1, 0, 1, 0, 0]) (p1 := [1, 1, 1, 0, 1, 0, 1]) (by kernel_rfl) ?_
    refine w_region (p := [1, 1, 1, 0, 1, 0, 0]) (id := 6) (by kernel_rfl) ?_
    refine r_vals 0 1 [.pointer (some ⟨b4, 1, none⟩)] (by kernel_rfl) (by kernel_rfl) ?_
    refine r_do 1 (by kernel_rfl) (og_load (T := 3) (x := (Operand.tmp 15)) (b := b4) (off := 1) (.int .i64 a0.f1) (by kernel_rfl) (by kernel_rfl) hb13 (by kernel_rfl) ?_) 
    refine r_vals 2 3 [.agg #[.int .i64 1, .int .i64 a0.f1]] (by kernel_rfl) (by kernel_rfl) ?_
    refine r_do 3 (by kernel_rfl) (og_eqagg (T := 31) (U := 31) (x := (Operand.tmp 13)) (y := (Operand.tmp 17)) (xs := #[.int .i64 a0.f0, .int .i64 a0.f1]) (ys := #[.int .i64 1, .int .i64 a0.f1]) (((a0.f0 == 1) && ((a0.f1 == a0.f1) && true))) (by kernel_rfl) (by kernel_rfl) (by kernel_rfl) (by kernel_rfl) (by kernel_rfl) ?_) 
    refine r_vals 4 5 [.bool ((a0.f0 == 1) && ((a0.f1 == a0.f1) && true))] (by kernel_rfl) (by kernel_rfl) ?_
    refine r_fin 5 (by kernel_rfl) ?_
    refine q_then ?_
    refine w_cond (p := [1, 1, 1, 0, 1, 0, 1]) (p0 := [1, 1, 1, 0, 1, 0, 1, 0]) (p1 := [1, 1, 1, 0, 1, 0, 1, 1]) (c := (Operand.tmp 14)) (b := ((a0.f0 == 1) && ((a0.f1 == a0.f1) && true))) (by kernel_rfl) (by kernel_rfl) ?_ ?_
    · intro h_
      have h15 : ((a0.f0 == 1) && ((a0.f1 == a0.f1) && true)) = true := h_
      clear h_
      rw [if_pos h15] at H
      refine w_region (p := [1, 1, 1, 0, 1, 0, 1, 0]) (id := 7) (by kernel_rfl) ?_
      refine r_vals 0 1 [.string (⟨#[105, 110, 116]⟩ : ByteArray)] (by kernel_rfl) (by kernel_rfl) ?_
      refine r_fin 1 (by kernel_rfl) ?_
      refine q_in ?_
      refine q_into (typed_Text_23.j1F b4 (⟨#[105, 110, 116]⟩ : ByteArray)) (by kernel_rfl) (fun u_ => ?_)
      exact typed_Text_23.j1.ok K a0 w r b4 HR  (⟨#[105, 110, 116]⟩ : ByteArray) u_ w9 k10 hb13 ghb13 H
    · intro h_
      have h15 : ¬ (((a0.f0 == 1) && ((a0.f1 == a0.f1) && true)) = true) := by rw [h_]; decide
      clear h_
      rw [if_neg h15] at H
      refine w_seq (p := [1, 1, 1, 0, 1, 0, 1, 1]) (p0 := [1, 1, 1, 0, 1, 0, 1, 1, 0]) (p1 := [1, 1, 1, 0, 1, 0, 1, 1, 1]) (by kernel_rfl) ?_
      refine w_region (p := [1, 1, 1, 0, 1, 0, 1, 1, 0]) (id := 8) (by kernel_rfl) ?_
      refine r_vals 0 1 [.pointer (some ⟨b4, 1, none⟩)] (by kernel_rfl) (by kernel_rfl) ?_
      refine r_do 1 (by kernel_rfl) (og_load (T := 3) (x := (Operand.tmp 20)) (b := b4) (off := 1) (.int .i64 a0.f1) (by kernel_rfl) (by kernel_rfl) hb13 (by kernel_rfl) ?_) 
      refine r_vals 2 3 [.agg #[.int .i64 2, .int .i64 a0.f1]] (by kernel_rfl) (by kernel_rfl) ?_
      refine r_do 3 (by kernel_rfl) (og_eqagg (T := 31) (U := 31) (x := (Operand.tmp 13)) (y := (Operand.tmp 22)) (xs := #[.int .i64 a0.f0, .int .i64 a0.f1]) (ys := #[.int .i64 2, .int .i64 a0.f1]) (((a0.f0 == 2) && ((a0.f1 == a0.f1) && true))) (by kernel_rfl) (by kernel_rfl) (by kernel_rfl) (by kernel_rfl) (by kernel_rfl) ?_) 
      refine r_vals 4 5 [.bool ((a0.f0 == 2) && ((a0.f1 == a0.f1) && true))] (by kernel_rfl) (by kernel_rfl) ?_
      refine r_fin 5 (by kernel_rfl) ?_
      refine q_then ?_
      refine w_cond (p := [1, 1, 1, 0, 1, 0, 1, 1, 1]) (p0 := [1, 1, 1, 0, 1, 0, 1, 1, 1, 0]) (p1 := [1, 1, 1, 0, 1, 0, 1, 1, 1, 1]) (c := (Operand.tmp 19)) (b := ((a0.f0 == 2) && ((a0.f1 == a0.f1) && true))) (by kernel_rfl) (by kernel_rfl) ?_ ?_
      · intro h_
        have h16 : ((a0.f0 == 2) && ((a0.f1 == a0.f1) && true)) = true := h_
        clear h_
        rw [if_pos h16] at H
        refine w_region (p := [1, 1, 1, 0, 1, 0, 1, 1, 1, 0]) (id := 9) (by kernel_rfl) ?_
        refine r_vals 0 1 [.string (⟨#[116, 101, 120, 116]⟩ : ByteArray)] (by kernel_rfl) (by kernel_rfl) ?_
        refine r_fin 1 (by kernel_rfl) ?_
        refine q_in ?_
        refine q_into (typed_Text_23.j1F b4 (⟨#[116, 101, 120, 116]⟩ : ByteArray)) (by kernel_rfl) (fun u_ => ?_)
        exact typed_Text_23.j1.ok K a0 w r b4 HR  (⟨#[116, 101, 120, 116]⟩ : ByteArray) u_ w9 k10 hb13 ghb13 H
      · intro h_
        have h16 : ¬ (((a0.f0 == 2) && ((a0.f1 == a0.f1) && true)) = true) := by rw [h_]; decide
        clear h_
        rw [if_neg h16] at H
        refine w_seq (p := [1, 1, 1, 0, 1, 0, 1, 1, 1, 1]) (p0 := [1, 1, 1, 0, 1, 0, 1, 1, 1, 1, 0]) (p1 := [1, 1, 1, 0, 1, 0, 1, 1, 1, 1, 1]) (by kernel_rfl) ?_
        refine w_region (p := [1, 1, 1, 0, 1, 0, 1, 1, 1, 1, 0]) (id := 10) (by kernel_rfl) ?_
        refine r_vals 0 1 [.pointer (some ⟨b4, 1, none⟩)] (by kernel_rfl) (by kernel_rfl) ?_
        refine r_do 1 (by kernel_rfl) (og_load (T := 3) (x := (Operand.tmp 25)) (b := b4) (off := 1) (.int .i64 a0.f1) (by kernel_rfl) (by kernel_rfl) hb13 (by kernel_rfl) ?_) 
        refine r_vals 2 3 [.agg #[.int .i64 3, .int .i64 a0.f1]] (by kernel_rfl) (by kernel_rfl) ?_
        refine r_do 3 (by kernel_rfl) (og_eqagg (T := 31) (U := 31) (x := (Operand.tmp 13)) (y := (Operand.tmp 27)) (xs := #[.int .i64 a0.f0, .int .i64 a0.f1]) (ys := #[.int .i64 3, .int .i64 a0.f1]) (((a0.f0 == 3) && ((a0.f1 == a0.f1) && true))) (by kernel_rfl) (by kernel_rfl) (by kernel_rfl) (by kernel_rfl) (by kernel_rfl) ?_) 
        refine r_vals 4 5 [.bool ((a0.f0 == 3) && ((a0.f1 == a0.f1) && true))] (by kernel_rfl) (by kernel_rfl) ?_
        refine r_fin 5 (by kernel_rfl) ?_
        refine q_then ?_
        refine w_cond (p := [1, 1, 1, 0, 1, 0, 1, 1, 1, 1, 1]) (p0 := [1, 1, 1, 0, 1, 0, 1, 1, 1, 1, 1, 0]) (p1 := [1, 1, 1, 0, 1, 0, 1, 1, 1, 1, 1, 1]) (c := (Operand.tmp 24)) (b := ((a0.f0 == 3) && ((a0.f1 == a0.f1) && true))) (by kernel_rfl) (by kernel_rfl) ?_ ?_
        · intro h_
          have h17 : ((a0.f0 == 3) && ((a0.f1 == a0.f1) && true)) = true := h_
          clear h_
          rw [if_pos h17] at H
          refine w_region (p := [1, 1, 1, 0, 1, 0, 1, 1, 1, 1, 1, 0]) (id := 11) (by kernel_rfl) ?_
          refine r_vals 0 1 [.string (⟨#[98, 111, 111, 108]⟩ : ByteArray)] (by kernel_rfl) (by kernel_rfl) ?_
          refine r_fin 1 (by kernel_rfl) ?_
          refine q_in ?_
          refine q_into (typed_Text_23.j1F b4 (⟨#[98, 111, 111, 108]⟩ : ByteArray)) (by kernel_rfl) (fun u_ => ?_)
          exact typed_Text_23.j1.ok K a0 w r b4 HR  (⟨#[98, 111, 111, 108]⟩ : ByteArray) u_ w9 k10 hb13 ghb13 H
        · intro h_
          have h17 : ¬ (((a0.f0 == 3) && ((a0.f1 == a0.f1) && true)) = true) := by rw [h_]; decide
          clear h_
          rw [if_neg h17] at H
          refine w_seq (p := [1, 1, 1, 0, 1, 0, 1, 1, 1, 1, 1, 1]) (p0 := [1, 1, 1, 0, 1, 0, 1, 1, 1, 1, 1, 1, 0]) (p1 := [1, 1, 1, 0, 1, 0, 1, 1, 1, 1, 1, 1, 1]) (by kernel_rfl) ?_
          refine w_region (p := [1, 1, 1, 0, 1, 0, 1, 1, 1, 1, 1, 1, 0]) (id := 5) (by kernel_rfl) ?_
          refine r_vals 0 2 [.string (⟨#[]⟩ : ByteArray), .int .i64 6] (by kernel_rfl) (by kernel_rfl) ?_
          refine r_fin 2 (by kernel_rfl) ?_
          refine q_then ?_
          refine w_ret (p := [1, 1, 1, 0, 1, 0, 1, 1, 1, 1, 1, 1, 1]) (by kernel_rfl) ?_
          refine q_in_r ?_
          refine q_then_r ?_
          obtain rfl := Option.some.inj H
          refine HR _ _ (body_ret (vs := [.string (⟨#[]⟩ : ByteArray), .int .i64 6]) (rv_tmp (by kernel_rfl) (rv_tmp (by kernel_rfl) rfl)) rfl ?_)
          exact ⟨rfl, k10⟩
set_option maxRecDepth 20000 in
set_option maxHeartbeats 4000000 in
theorem typed_Text_23.ok (K : Nat) (a0 : S30) (w : World) (r : ByteArray × Int) (H : typed_Text_23.f K a0 = some r) : Calls Try.prog 23 #[.agg #[.int .i64 a0.f0, .int .i64 a0.f1]] w (typed_Text_23.R r w) := by
  refine calls_cd (t := #[.agg #[.int .i64 a0.f0, .int .i64 a0.f1], undef, undef, undef, undef, undef, undef, undef, undef, undef, undef, undef, undef, undef, undef, undef, undef, undef, undef, undef, undef, undef, undef, undef, undef, undef, undef, undef, undef, undef, undef, undef, undef, undef, undef, undef, undef, undef]) Try.func23 (by kernel_rfl) (by kernel_rfl) ?_
  unfold typed_Text_23.f at H
  have HR : ∀ a w', bodyPost Try.prog Try.f23 (typed_Text_23.R r w) .ret a w' → bodyPost Try.prog Try.f23 (typed_Text_23.R r w) .ret a w' := fun _ _ h => h
  refine w_seq (p := []) (p0 := [0]) (p1 := [1]) (by kernel_rfl) ?_
  refine w_region (p := [0]) (id := 0) (by kernel_rfl) ?_
  refine r_do 0 (by kernel_rfl) (og_box (T := 31) (x := (Operand.tmp 0)) (cs := #[.int .i64 a0.f0, .int .i64 a0.f1]) (by kernel_rfl) (by kernel_rfl) ?_) 
  intro b4 w1 e5 hb3 k2
  have g6 : w.heap.size ≤ b4 := by rw [e5]; exact Kp.size (Kp.refl No w)
  clear e5
  have k7 := Kp.trans (Kp.refl No w) k2 (fun _ h => h.elim)
  refine r_vals 1 3 [.string (⟨#[]⟩ : ByteArray), .int .i64 0] (by kernel_rfl) (by kernel_rfl) ?_
  refine r_fin 3 (by kernel_rfl) ?_
  refine q_then ?_
  refine w_seq (p := [1]) (p0 := [1, 0]) (p1 := [1, 1]) (by kernel_rfl) ?_
  refine w_seq (p := [1, 0]) (p0 := [1, 0, 0]) (p1 := [1, 0, 1]) (by kernel_rfl) ?_
  refine w_region (p := [1, 0, 0]) (id := 1) (by kernel_rfl) ?_
  refine r_vals 0 1 [.pointer (some ⟨b4, 1, none⟩)] (by kernel_rfl) (by kernel_rfl) ?_
  refine r_do 1 (by kernel_rfl) (og_load (T := 3) (x := (Operand.tmp 5)) (b := b4) (off := 1) (.int .i64 a0.f1) (by kernel_rfl) (by kernel_rfl) hb3 (by kernel_rfl) ?_) 
  refine r_vals 2 4 [.bool (decide (a0.f1 < 0)), .bool (decide (a0.f1 < 0))] (by kernel_rfl) (by kernel_rfl) ?_
  refine b_split (decide (a0.f1 < 0)) (fun h_ => ?_) (fun h_ => ?_)
  · have h8 : a0.f1 < 0 := by simpa using h_
    rw [if_pos h8] at H
    rw [h_]
    clear h_
    refine r_vals 4 8 [undef, undef, undef, .bool true] (by kernel_rfl) (by kernel_rfl) ?_
    refine r_fin 8 (by kernel_rfl) ?_
    refine q_then ?_
    refine w_into (typed_Text_23.j0F b4 true) (by kernel_rfl) (fun u_ => ?_)
    exact typed_Text_23.j0.ok K a0 w r b4 HR  true u_ w1 k7 hb3 g6 H
  · have h8 : ¬ (a0.f1 < 0) := by simpa using h_
    rw [if_neg h8] at H
    rw [h_]
    clear h_
    refine r_vals 4 5 [.pointer (some ⟨b4, 1, none⟩)] (by kernel_rfl) (by kernel_rfl) ?_
    refine r_do 5 (by kernel_rfl) (og_load (T := 3) (x := (Operand.tmp 9)) (b := b4) (off := 1) (.int .i64 a0.f1) (by kernel_rfl) (by kernel_rfl) hb3 (by kernel_rfl) ?_) 
    refine r_vals 6 8 [.bool (decide (a0.f1 > 8)), .bool (decide (a0.f1 > 8))] (by kernel_rfl) (by kernel_rfl) ?_
    refine r_fin 8 (by kernel_rfl) ?_
    refine q_then ?_
    refine w_into (typed_Text_23.j0F b4 (decide (a0.f1 > 8))) (by kernel_rfl) (fun u_ => ?_)
    exact typed_Text_23.j0.ok K a0 w r b4 HR  (decide (a0.f1 > 8)) u_ w1 k7 hb3 g6 H
/-! ### dowel/dowelref25.Text -/
def dowelref25_Text_24.F1 (b36 : Nat) (x76 : ByteArray) (x77 : Int) (u_ : Nat → Value) : Array Value := #[u_ 0, .pointer (some ⟨b36, 0, none⟩), u_ 2, u_ 3, u_ 4, .string x76, .int .i64 x77, u_ 7, u_ 8, u_ 9, u_ 10, u_ 11, u_ 12, u_ 13, u_ 14, u_ 15, u_ 16, u_ 17, u_ 18, u_ 19, u_ 20, u_ 21, u_ 22, u_ 23, u_ 24, u_ 25, u_ 26, u_ 27, u_ 28, u_ 29, u_ 30, u_ 31, u_ 32, u_ 33, u_ 34, u_ 35, u_ 36, u_ 37, u_ 38, u_ 39]
def dowelref25_Text_24.F1_0 (x85 : ByteArray) (u_ : Nat → Value) : Array Value := #[u_ 0, u_ 1, u_ 2, u_ 3, u_ 4, .string x85, u_ 6, u_ 7, u_ 8, u_ 9, u_ 10, u_ 11, u_ 12, u_ 13, u_ 14, u_ 15, u_ 16, u_ 17, u_ 18, u_ 19, u_ 20, u_ 21, u_ 22, u_ 23, u_ 24, u_ 25, u_ 26, u_ 27, u_ 28, u_ 29, u_ 30, u_ 31, u_ 32, u_ 33, u_ 34, u_ 35, u_ 36, u_ 37, u_ 38, u_ 39]
def dowelref25_Text_24.b1 (a0 : S30) (next1 : ByteArray → Int → Option (ByteArray × Int)) (brk1_0 : ByteArray → Option (ByteArray × Int)) (x76 : ByteArray) (x77 : Int) : Option (ByteArray × Int) := if x77 < a0.f1 then (if (⟨#[91]⟩ : ByteArray).size + x76.size ≤ 9223372036854775807 then (if ((⟨#[91]⟩ : ByteArray) ++ x76).size + (⟨#[93]⟩ : ByteArray).size ≤ 9223372036854775807 then (next1 (((⟨#[91]⟩ : ByteArray) ++ x76) ++ (⟨#[93]⟩ : ByteArray)) (W (x77 + 1))) else none) else none) else (brk1_0 x76)
def dowelref25_Text_24.l1 (a0 : S30) (brk1_0 : ByteArray → Option (ByteArray × Int)) : Nat → ByteArray → Int → Option (ByteArray × Int)
  | 0, _, _ => none
  | n_ + 1, x76, x77 => dowelref25_Text_24.b1 a0 (dowelref25_Text_24.l1 a0 brk1_0 n_) brk1_0 x76 x77
def dowelref25_Text_24.j0F (b36 : Nat) (b43 : Nat) (x60 : Bool) (u_ : Nat → Value) : Array Value := #[u_ 0, .pointer (some ⟨b36, 0, none⟩), u_ 2, u_ 3, .pointer (some ⟨b43, 0, none⟩), u_ 5, u_ 6, u_ 7, u_ 8, u_ 9, u_ 10, u_ 11, u_ 12, u_ 13, u_ 14, u_ 15, u_ 16, u_ 17, u_ 18, u_ 19, u_ 20, u_ 21, u_ 22, u_ 23, u_ 24, .bool x60, u_ 26, u_ 27, u_ 28, u_ 29, u_ 30, u_ 31, u_ 32, u_ 33, u_ 34, u_ 35, u_ 36, u_ 37, u_ 38, u_ 39]
def dowelref25_Text_24.j0 (a0 : S30) (K : Nat) (x60 : Bool) : Option (ByteArray × Int) := if x60 = true then (some ((⟨#[]⟩ : ByteArray), 6)) else (if 0 ≤ a0.f0 then (if a0.f0 < 4 then (dowelref25_Text_24.l1 a0 (fun x85 => some (x85, 0)) K (rd (⟨#[]⟩ : ByteArray) [(⟨#[]⟩ : ByteArray), (⟨#[105, 110, 116]⟩ : ByteArray), (⟨#[116, 101, 120, 116]⟩ : ByteArray), (⟨#[98, 111, 111, 108]⟩ : ByteArray)] a0.f0) 0) else none) else none)
def dowelref25_Text_24.f (K : Nat) (a0 : S30) : Option (ByteArray × Int) := if a0.f0 < 1 then (dowelref25_Text_24.j0 a0 K true) else (if a0.f0 > 3 then (dowelref25_Text_24.j0 a0 K true) else (if a0.f1 < 0 then (dowelref25_Text_24.j0 a0 K true) else (dowelref25_Text_24.j0 a0 K (decide (a0.f1 > 8)))))
def dowelref25_Text_24.R (r : ByteArray × Int) (w : World) : Ending → World → Prop := fun e w' => e = .returned (.tuple #[.string r.1, .int .i64 r.2]) ∧ Kp No w w'
set_option maxRecDepth 20000 in
set_option maxHeartbeats 4000000 in
theorem dowelref25_Text_24.b1.ok (K : Nat) (a0 : S30) (w : World) (r : ByteArray × Int) (b36 : Nat) {Q : Exit → Act → World → Prop} (HR : ∀ a w', bodyPost Try.prog Try.f24 (dowelref25_Text_24.R r w) .ret a w' → Q .ret a w') {next1 : ByteArray → Int → Option (ByteArray × Int)} {brk1_0 : ByteArray → Option (ByteArray × Int)} (HN1 : ∀ (x76q : ByteArray) (x77q : Int) (u73q : Nat → Value) (w74q : World) (k75q : Kp No w w74q) (hb78q : Blk w74q b36 #[.int .i64 a0.f0, .int .i64 a0.f1] 31) (ghb78q : w.heap.size ≤ b36), next1 x76q x77q = some r → Q .normal ⟨dowelref25_Text_24.F1 b36 x76q x77q u73q, []⟩ w74q) (HX1_0 : ∀ (x85q : ByteArray) (u84q : Nat → Value) (w82q : World) (k83q : Kp No w w82q) , brk1_0 x85q = some r → Q (.exit 0) ⟨dowelref25_Text_24.F1_0 x85q u84q, []⟩ w82q) (x76 : ByteArray) (x77 : Int) (u73 : Nat → Value) (w74 : World) (k75 : Kp No w w74) (hb78 : Blk w74 b36 #[.int .i64 a0.f0, .int .i64 a0.f1] 31) (ghb78 : w.heap.size ≤ b36) (H : dowelref25_Text_24.b1 a0 next1 brk1_0 x76 x77 = some r) : (cd Try.f24 [1, 1, 1, 1, 0, 1, 0, 0]).wp Try.prog Q ⟨dowelref25_Text_24.F1 b36 x76 x77 u73, []⟩ w74 := by
  unfold dowelref25_Text_24.b1 at H
  refine w_seq (p := [1, 1, 1, 1, 0, 1, 0, 0]) (p0 := [1, 1, 1, 1, 0, 1, 0, 0, 0]) (p1 := [1, 1, 1, 1, 0, 1, 0, 0, 1]) (by kernel_rfl) ?_
  refine w_seq (p := [1, 1, 1, 1, 0, 1, 0, 0, 0]) (p0 := [1, 1, 1, 1, 0, 1, 0, 0, 0, 0]) (p1 := [1, 1, 1, 1, 0, 1, 0, 0, 0, 1]) (by kernel_rfl) ?_
  refine w_region (p := [1, 1, 1, 1, 0, 1, 0, 0, 0, 0]) (id := 6) (by kernel_rfl) ?_
  refine r_vals 0 2 [.int .i64 x77, .pointer (some ⟨b36, 1, none⟩)] (by kernel_rfl) (by kernel_rfl) ?_
  refine r_do 2 (by kernel_rfl) (og_load (T := 3) (x := (Operand.tmp 31)) (b := b36) (off := 1) (.int .i64 a0.f1) (by kernel_rfl) (by kernel_rfl) hb78 (by kernel_rfl) ?_) 
  refine r_vals 3 4 [.bool (decide (x77 < a0.f1))] (by kernel_rfl) (by kernel_rfl) ?_
  refine r_fin 4 (by kernel_rfl) ?_
  refine q_then ?_
  refine w_cond (p := [1, 1, 1, 1, 0, 1, 0, 0, 0, 1]) (p0 := [1, 1, 1, 1, 0, 1, 0, 0, 0, 1, 0]) (p1 := [1, 1, 1, 1, 0, 1, 0, 0, 0, 1, 1]) (c := (Operand.tmp 33)) (b := decide (x77 < a0.f1)) (by kernel_rfl) (by kernel_rfl) ?_ ?_
  · intro h_
    have h79 : x77 < a0.f1 := by simpa using h_
    clear h_
    rw [if_pos h79] at H
    refine w_skip (p := [1, 1, 1, 1, 0, 1, 0, 0, 0, 1, 0]) (by kernel_rfl) ?_
    refine q_then ?_
    refine w_seq (p := [1, 1, 1, 1, 0, 1, 0, 0, 1]) (p0 := [1, 1, 1, 1, 0, 1, 0, 0, 1, 0]) (p1 := [1, 1, 1, 1, 0, 1, 0, 0, 1, 1]) (by kernel_rfl) ?_
    refine w_block (p := [1, 1, 1, 1, 0, 1, 0, 0, 1, 0]) (p0 := [1, 1, 1, 1, 0, 1, 0, 0, 1, 0, 0]) (id := 1) (by kernel_rfl) ?_
    refine w_region (p := [1, 1, 1, 1, 0, 1, 0, 0, 1, 0, 0]) (id := 8) (by kernel_rfl) ?_
    refine r_vals 0 1 [.string x76] (by kernel_rfl) (by kernel_rfl) ?_
    refine p_split ((⟨#[91]⟩ : ByteArray).size + x76.size ≤ 9223372036854775807) (fun h80 => ?_) (fun h80 => ?_)
    · rw [if_pos h80] at H
      refine r_do 1 (by kernel_rfl) (og_cat (T := 9) (U := 9) (x := (Operand.const (Value.string { data := #[91] }))) (y := (Operand.tmp 36)) (by kernel_rfl) (by kernel_rfl) (by kernel_rfl) h80 ?_) 
      refine p_split (((⟨#[91]⟩ : ByteArray) ++ x76).size + (⟨#[93]⟩ : ByteArray).size ≤ 9223372036854775807) (fun h81 => ?_) (fun h81 => ?_)
      · rw [if_pos h81] at H
        refine r_do 2 (by kernel_rfl) (og_cat (T := 9) (U := 9) (x := (Operand.tmp 37)) (y := (Operand.const (Value.string { data := #[93] }))) (by kernel_rfl) (by kernel_rfl) (by kernel_rfl) h81 ?_) 
        refine r_vals 3 4 [.string (((⟨#[91]⟩ : ByteArray) ++ x76) ++ (⟨#[93]⟩ : ByteArray))] (by kernel_rfl) (by kernel_rfl) ?_
        refine r_fin 4 (by kernel_rfl) ?_
        refine q_in ?_
        refine q_then ?_
        refine w_region (p := [1, 1, 1, 1, 0, 1, 0, 0, 1, 1]) (id := 7) (by kernel_rfl) ?_
        refine r_vals 0 3 [.int .i64 x77, .int .i64 (W (x77 + 1)), .int .i64 (W (x77 + 1))] (by kernel_rfl) (by kernel_rfl) ?_
        refine r_fin 3 (by kernel_rfl) ?_
        refine q_into (dowelref25_Text_24.F1 b36 (((⟨#[91]⟩ : ByteArray) ++ x76) ++ (⟨#[93]⟩ : ByteArray)) (W (x77 + 1))) (by kernel_rfl) (fun u_ => ?_)
        exact HN1 (((⟨#[91]⟩ : ByteArray) ++ x76) ++ (⟨#[93]⟩ : ByteArray)) (W (x77 + 1)) u_ w74 k75 hb78 ghb78 H
      · rw [if_neg h81] at H
        cases H
    · rw [if_neg h80] at H
      cases H
  · intro h_
    have h79 : ¬ (x77 < a0.f1) := by simpa using h_
    clear h_
    rw [if_neg h79] at H
    refine w_exit (p := [1, 1, 1, 1, 0, 1, 0, 0, 0, 1, 1]) (id := 0) (by kernel_rfl) ?_
    refine q_then_x ?_
    refine q_into (dowelref25_Text_24.F1_0 x76) (by kernel_rfl) (fun u_ => ?_)
    exact HX1_0 x76 u_ w74 k75 H
set_option maxRecDepth 20000 in
set_option maxHeartbeats 4000000 in
theorem dowelref25_Text_24.l1.ok (K : Nat) (a0 : S30) (w : World) (r : ByteArray × Int) (b36 : Nat) {Q : Exit → Act → World → Prop} (HR : ∀ a w', bodyPost Try.prog Try.f24 (dowelref25_Text_24.R r w) .ret a w' → Q .ret a w') {brk1_0 : ByteArray → Option (ByteArray × Int)} (HX1_0 : ∀ (x85q : ByteArray) (u84q : Nat → Value) (w82q : World) (k83q : Kp No w w82q) , brk1_0 x85q = some r → Q (.exit 0) ⟨dowelref25_Text_24.F1_0 x85q u84q, []⟩ w82q) : ∀ (n_ : Nat) (x76 : ByteArray) (x77 : Int) (u73 : Nat → Value) (w74 : World) (k75 : Kp No w w74) (hb78 : Blk w74 b36 #[.int .i64 a0.f0, .int .i64 a0.f1] 31) (ghb78 : w.heap.size ≤ b36) (H : dowelref25_Text_24.l1 a0 brk1_0 n_ x76 x77 = some r), Code.rounds Try.prog (cd Try.f24 [1, 1, 1, 1, 0, 1, 0, 0]) Q n_ ⟨dowelref25_Text_24.F1 b36 x76 x77 u73, []⟩ w74
  | 0, _, _, _, _, _, _, _, H => by cases H
  | n_ + 1, x76, x77, u73, w74, k75, hb78, ghb78, H =>
    dowelref25_Text_24.b1.ok K a0 w r b36 (Q := Exit.then (Code.rounds Try.prog (cd Try.f24 [1, 1, 1, 1, 0, 1, 0, 0]) Q n_) Q) (fun a w' h_ => q_then_r (HR a w' h_)) (fun x0_ x1_ x2_ x3_ x4_ x5_ x6_ h_ => dowelref25_Text_24.l1.ok K a0 w r b36 HR HX1_0 n_ x0_ x1_ x2_ x3_ x4_ x5_ x6_ h_) (fun x0_ x1_ x2_ x3_ h_ => q_then_x (HX1_0 x0_ x1_ x2_ x3_ h_)) x76 x77 u73 w74 k75 hb78 ghb78 H
set_option maxRecDepth 20000 in
set_option maxHeartbeats 4000000 in
theorem dowelref25_Text_24.j0.ok (K : Nat) (a0 : S30) (w : World) (r : ByteArray × Int) {Q : Exit → Act → World → Prop} (b36 : Nat) (b43 : Nat) (HR : ∀ a w', bodyPost Try.prog Try.f24 (dowelref25_Text_24.R r w) .ret a w' → Q .ret a w')  (x60 : Bool) (u59 : Nat → Value) (w57 : World) (k58 : Kp No w w57) (hb61 : Blk w57 b36 #[.int .i64 a0.f0, .int .i64 a0.f1] 31) (hb62 : Blk w57 b43 #[.string (⟨#[]⟩ : ByteArray), .string (⟨#[105, 110, 116]⟩ : ByteArray), .string (⟨#[116, 101, 120, 116]⟩ : ByteArray), .string (⟨#[98, 111, 111, 108]⟩ : ByteArray)] 115) (ghb61 : w.heap.size ≤ b36) (ghb62 : w.heap.size ≤ b43) (nhb61hb62 : b36 ≠ b43) (H : dowelref25_Text_24.j0 a0 K x60 = some r) : (cd Try.f24 [1, 1, 0, 1]).wp Try.prog (Exit.then (fun a w => (cd Try.f24 [1, 1, 1]).wp Try.prog Q a w) Q) ⟨dowelref25_Text_24.j0F b36 b43 x60 u59, []⟩ w57 := by
  unfold dowelref25_Text_24.j0 at H
  refine w_cond (p := [1, 1, 0, 1]) (p0 := [1, 1, 0, 1, 0]) (p1 := [1, 1, 0, 1, 1]) (c := (Operand.tmp 25)) (b := x60) (by kernel_rfl) (by kernel_rfl) ?_ ?_
  · intro h_
    have h63 : x60 = true := h_
    clear h_
    rw [if_pos h63] at H
    refine w_seq (p := [1, 1, 0, 1, 0]) (p0 := [1, 1, 0, 1, 0, 0]) (p1 := [1, 1, 0, 1, 0, 1]) (by kernel_rfl) ?_
    refine w_region (p := [1, 1, 0, 1, 0, 0]) (id := 3) (by kernel_rfl) ?_
    refine r_vals 0 2 [.string (⟨#[]⟩ : ByteArray), .int .i64 6] (by kernel_rfl) (by kernel_rfl) ?_
    refine r_fin 2 (by kernel_rfl) ?_
    refine q_then ?_
    refine w_ret (p := [1, 1, 0, 1, 0, 1]) (by kernel_rfl) ?_
    refine q_then_r ?_
    obtain rfl := Option.some.inj H
    refine HR _ _ (body_ret (vs := [.string (⟨#[]⟩ : ByteArray), .int .i64 6]) (rv_tmp (by kernel_rfl) (rv_tmp (by kernel_rfl) rfl)) rfl ?_)
    exact ⟨rfl, k58⟩
  · intro h_
    have h63 : ¬ (x60 = true) := by rw [h_]; decide
    clear h_
    rw [if_neg h63] at H
    refine w_skip (p := [1, 1, 0, 1, 1]) (by kernel_rfl) ?_
    refine q_then ?_
    refine w_seq (p := [1, 1, 1]) (p0 := [1, 1, 1, 0]) (p1 := [1, 1, 1, 1]) (by kernel_rfl) ?_
    refine w_region (p := [1, 1, 1, 0]) (id := 4) (by kernel_rfl) ?_
    refine r_vals 0 1 [.pointer (some ⟨b36, 0, none⟩)] (by kernel_rfl) (by kernel_rfl) ?_
    refine r_do 1 (by kernel_rfl) (og_load (T := 3) (x := (Operand.tmp 26)) (b := b36) (off := 0) (.int .i64 a0.f0) (by kernel_rfl) (by kernel_rfl) hb61 (by kernel_rfl) ?_) 
    refine p_split (0 ≤ a0.f0) (fun h64 => ?_) (fun h64 => ?_)
    · rw [if_pos h64] at H
      refine p_split (a0.f0 < 4) (fun h65 => ?_) (fun h65 => ?_)
      · rw [if_pos h65] at H
        refine r_do 2 (by kernel_rfl) (og_indexA (T := 115) (n := 4) (e := 9) (sz := 1) (b := b43) (off := 0) (iv := a0.f0) (x := (Operand.tmp 4)) (y := (Operand.tmp 27)) (k := .i64) (by kernel_rfl) (by kernel_rfl) (by kernel_rfl) (by kernel_rfl) h64 h65 ?_) 
        refine r_do 3 (by kernel_rfl) (og_loadA (K := (kStr 9)) (T := 9) (x := (Operand.tmp 28)) (b := b43) (base := 0) (off := 0) (xs := [(⟨#[]⟩ : ByteArray), (⟨#[105, 110, 116]⟩ : ByteArray), (⟨#[116, 101, 120, 116]⟩ : ByteArray), (⟨#[98, 111, 111, 108]⟩ : ByteArray)]) (iv := a0.f0) (⟨#[]⟩ : ByteArray) (.string (rd (⟨#[]⟩ : ByteArray) [(⟨#[]⟩ : ByteArray), (⟨#[105, 110, 116]⟩ : ByteArray), (⟨#[116, 101, 120, 116]⟩ : ByteArray), (⟨#[98, 111, 111, 108]⟩ : ByteArray)] a0.f0)) (by kernel_rfl) (by kernel_rfl) hb62 (by kernel_rfl) h64 h65 (by kernel_rfl) ?_) 
        refine r_vals 4 5 [.string (rd (⟨#[]⟩ : ByteArray) [(⟨#[]⟩ : ByteArray), (⟨#[105, 110, 116]⟩ : ByteArray), (⟨#[116, 101, 120, 116]⟩ : ByteArray), (⟨#[98, 111, 111, 108]⟩ : ByteArray)] a0.f0)] (by kernel_rfl) (by kernel_rfl) ?_
        refine r_fin 5 (by kernel_rfl) ?_
        refine q_then ?_
        refine w_seq (p := [1, 1, 1, 1]) (p0 := [1, 1, 1, 1, 0]) (p1 := [1, 1, 1, 1, 1]) (by kernel_rfl) ?_
        refine w_seq (p := [1, 1, 1, 1, 0]) (p0 := [1, 1, 1, 1, 0, 0]) (p1 := [1, 1, 1, 1, 0, 1]) (by kernel_rfl) ?_
        refine w_region (p := [1, 1, 1, 1, 0, 0]) (id := 5) (by kernel_rfl) ?_
        refine r_vals 0 1 [.int .i64 0] (by kernel_rfl) (by kernel_rfl) ?_
        refine r_fin 1 (by kernel_rfl) ?_
        refine q_then ?_
        refine w_block (p := [1, 1, 1, 1, 0, 1]) (p0 := [1, 1, 1, 1, 0, 1, 0]) (id := 0) (by kernel_rfl) ?_
        refine w_into (dowelref25_Text_24.F1 b36 (rd (⟨#[]⟩ : ByteArray) [(⟨#[]⟩ : ByteArray), (⟨#[105, 110, 116]⟩ : ByteArray), (⟨#[116, 101, 120, 116]⟩ : ByteArray), (⟨#[98, 111, 111, 108]⟩ : ByteArray)] a0.f0) 0) (by kernel_rfl) (fun u_ => ?_)
        refine w_loop (p := [1, 1, 1, 1, 0, 1, 0]) (p0 := [1, 1, 1, 1, 0, 1, 0, 0]) K (by kernel_rfl) ?_
        refine dowelref25_Text_24.l1.ok K a0 w r b36 (fun a w' h_ => q_in_r (q_then_r (HR a w' h_))) ?_ K (rd (⟨#[]⟩ : ByteArray) [(⟨#[]⟩ : ByteArray), (⟨#[105, 110, 116]⟩ : ByteArray), (⟨#[116, 101, 120, 116]⟩ : ByteArray), (⟨#[98, 111, 111, 108]⟩ : ByteArray)] a0.f0) 0 u_ w57 k58 hb61 ghb61 H
        intro x85 u84 w82 k83 H
        try dsimp only at H
        refine q_in_hit ?_
        refine q_then ?_
        refine w_seq (p := [1, 1, 1, 1, 1]) (p0 := [1, 1, 1, 1, 1, 0]) (p1 := [1, 1, 1, 1, 1, 1]) (by kernel_rfl) ?_
        refine w_region (p := [1, 1, 1, 1, 1, 0]) (id := 9) (by kernel_rfl) ?_
        refine r_vals 0 3 [.string x85, .string x85, .int .i64 0] (by kernel_rfl) (by kernel_rfl) ?_
        refine r_fin 3 (by kernel_rfl) ?_
        refine q_then ?_
        refine w_ret (p := [1, 1, 1, 1, 1, 1]) (by kernel_rfl) ?_
        obtain rfl := Option.some.inj H
        refine HR _ _ (body_ret (vs := [.string x85, .int .i64 0]) (rv_tmp (by kernel_rfl) (rv_tmp (by kernel_rfl) rfl)) rfl ?_)
        exact ⟨rfl, k83⟩
      · rw [if_neg h65] at H
        cases H
    · rw [if_neg h64] at H
      cases H
set_option maxRecDepth 20000 in
set_option maxHeartbeats 4000000 in
theorem dowelref25_Text_24.ok (K : Nat) (a0 : S30) (w : World) (r : ByteArray × Int) (H : dowelref25_Text_24.f K a0 = some r) : Calls Try.prog 24 #[.agg #[.int .i64 a0.f0, .int .i64 a0.f1]] w (dowelref25_Text_24.R r w) := by
  refine calls_cd (t := #[.agg #[.int .i64 a0.f0, .int .i64 a0.f1], undef, undef, undef, undef, undef, undef, undef, undef, undef, undef, undef, undef, undef, undef, undef, undef, undef, undef, undef, undef, undef, undef, undef, undef, undef, undef, undef, undef, undef, undef, undef, undef, undef, undef, undef, undef, undef, undef, undef]) Try.func24 (by kernel_rfl) (by kernel_rfl) ?_
  unfold dowelref25_Text_24.f at H
  have HR : ∀ a w', bodyPost Try.prog Try.f24 (dowelref25_Text_24.R r w) .ret a w' → bodyPost Try.prog Try.f24 (dowelref25_Text_24.R r w) .ret a w' := fun _ _ h => h
  refine w_seq (p := []) (p0 := [0]) (p1 := [1]) (by kernel_rfl) ?_
  refine w_region (p := [0]) (id := 0) (by kernel_rfl) ?_
  refine r_do 0 (by kernel_rfl) (og_box (T := 31) (x := (Operand.tmp 0)) (cs := #[.int .i64 a0.f0, .int .i64 a0.f1]) (by kernel_rfl) (by kernel_rfl) ?_) 
  intro b36 w33 e37 hb35 k34
  have g38 : w.heap.size ≤ b36 := by rw [e37]; exact Kp.size (Kp.refl No w)
  clear e37
  have k39 := Kp.trans (Kp.refl No w) k34 (fun _ h => h.elim)
  refine r_vals 1 3 [.string (⟨#[]⟩ : ByteArray), .int .i64 0] (by kernel_rfl) (by kernel_rfl) ?_
  refine r_fin 3 (by kernel_rfl) ?_
  refine q_then ?_
  refine w_seq (p := [1]) (p0 := [1, 0]) (p1 := [1, 1]) (by kernel_rfl) ?_
  refine w_region (p := [1, 0]) (id := 1) (by kernel_rfl) ?_
  refine r_vals 0 1 [.agg #[.string (⟨#[]⟩ : ByteArray), .string (⟨#[105, 110, 116]⟩ : ByteArray), .string (⟨#[116, 101, 120, 116]⟩ : ByteArray), .string (⟨#[98, 111, 111, 108]⟩ : ByteArray)]] (by kernel_rfl) (by kernel_rfl) ?_
  refine r_do 1 (by kernel_rfl) (og_alloc (T := 115) (cs := #[.string (⟨#[]⟩ : ByteArray), .string (⟨#[]⟩ : ByteArray), .string (⟨#[]⟩ : ByteArray), .string (⟨#[]⟩ : ByteArray)]) (by kernel_rfl) (by kernel_rfl) ?_) 
  intro b43 w40 e44 hb42 k41
  have n45 : b36 ≠ b43 := by rw [e44]; exact Nat.ne_of_lt hb35.lt
  have g46 : w.heap.size ≤ b43 := by rw [e44]; exact Kp.size k39
  clear e44
  have k47 := Kp.trans k39 k41 (fun _ h => h.elim)
  have hb48 := Blk.kp hb35 k41 id
  refine r_do 2 (by kernel_rfl) (og_store (T := 115) (x := (Operand.tmp 4)) (y := (Operand.tmp 7)) (b := b43) (off := 0) (.agg #[.string (⟨#[]⟩ : ByteArray), .string (⟨#[105, 110, 116]⟩ : ByteArray), .string (⟨#[116, 101, 120, 116]⟩ : ByteArray), .string (⟨#[98, 111, 111, 108]⟩ : ByteArray)]) (by kernel_rfl) (by kernel_rfl) (by kernel_rfl) hb42 (cs' := #[.string (⟨#[]⟩ : ByteArray), .string (⟨#[105, 110, 116]⟩ : ByteArray), .string (⟨#[116, 101, 120, 116]⟩ : ByteArray), .string (⟨#[98, 111, 111, 108]⟩ : ByteArray)]) (by kernel_rfl) ?_) 
  intro w50 hb49 k51 _
  have k52 := Kp.trans k47 k51 (fun x hx => .inr (by rw [show x = _ from hx]; exact g46))
  have hb53 := Blk.kp hb48 k51 (show ¬ (b36 = b43) from n45)
  refine r_fin 3 (by kernel_rfl) ?_
  refine q_then ?_
  refine w_seq (p := [1, 1]) (p0 := [1, 1, 0]) (p1 := [1, 1, 1]) (by kernel_rfl) ?_
  refine w_seq (p := [1, 1, 0]) (p0 := [1, 1, 0, 0]) (p1 := [1, 1, 0, 1]) (by kernel_rfl) ?_
  refine w_region (p := [1, 1, 0, 0]) (id := 2) (by kernel_rfl) ?_
  refine r_vals 0 1 [.pointer (some ⟨b36, 0, none⟩)] (by kernel_rfl) (by kernel_rfl) ?_
  refine r_do 1 (by kernel_rfl) (og_load (T := 3) (x := (Operand.tmp 8)) (b := b36) (off := 0) (.int .i64 a0.f0) (by kernel_rfl) (by kernel_rfl) hb53 (by kernel_rfl) ?_) 
  refine r_vals 2 4 [.bool (decide (a0.f0 < 1)), .bool (decide (a0.f0 < 1))] (by kernel_rfl) (by kernel_rfl) ?_
  refine b_split (decide (a0.f0 < 1)) (fun h_ => ?_) (fun h_ => ?_)
  · have h54 : a0.f0 < 1 := by simpa using h_
    rw [if_pos h54] at H
    rw [h_]
    clear h_
    refine r_vals 4 18 [undef, undef, undef, .bool true, .bool true, undef, undef, undef, .bool true, .bool true, undef, undef, undef, .bool true] (by kernel_rfl) (by kernel_rfl) ?_
    refine r_fin 18 (by kernel_rfl) ?_
    refine q_then ?_
    refine w_into (dowelref25_Text_24.j0F b36 b43 true) (by kernel_rfl) (fun u_ => ?_)
    exact dowelref25_Text_24.j0.ok K a0 w r b36 b43 HR  true u_ w50 k52 hb53 hb49 g38 g46 n45 H
  · have h54 : ¬ (a0.f0 < 1) := by simpa using h_
    rw [if_neg h54] at H
    rw [h_]
    clear h_
    refine r_vals 4 5 [.pointer (some ⟨b36, 0, none⟩)] (by kernel_rfl) (by kernel_rfl) ?_
    refine r_do 5 (by kernel_rfl) (og_load (T := 3) (x := (Operand.tmp 12)) (b := b36) (off := 0) (.int .i64 a0.f0) (by kernel_rfl) (by kernel_rfl) hb53 (by kernel_rfl) ?_) 
    refine r_vals 6 9 [.bool (decide (a0.f0 > 3)), .bool (decide (a0.f0 > 3)), .bool (decide (a0.f0 > 3))] (by kernel_rfl) (by kernel_rfl) ?_
    refine b_split (decide (a0.f0 > 3)) (fun h_ => ?_) (fun h_ => ?_)
    · have h55 : a0.f0 > 3 := by simpa using h_
      rw [if_pos h55] at H
      rw [h_]
      clear h_
      refine r_vals 9 18 [undef, undef, undef, .bool true, .bool true, undef, undef, undef, .bool true] (by kernel_rfl) (by kernel_rfl) ?_
      refine r_fin 18 (by kernel_rfl) ?_
      refine q_then ?_
      refine w_into (dowelref25_Text_24.j0F b36 b43 true) (by kernel_rfl) (fun u_ => ?_)
      exact dowelref25_Text_24.j0.ok K a0 w r b36 b43 HR  true u_ w50 k52 hb53 hb49 g38 g46 n45 H
    · have h55 : ¬ (a0.f0 > 3) := by simpa using h_
      rw [if_neg h55] at H
      rw [h_]
      clear h_
      refine r_vals 9 10 [.pointer (some ⟨b36, 1, none⟩)] (by kernel_rfl) (by kernel_rfl) ?_
      refine r_do 10 (by kernel_rfl) (og_load (T := 3) (x := (Operand.tmp 17)) (b := b36) (off := 1) (.int .i64 a0.f1) (by kernel_rfl) (by kernel_rfl) hb53 (by kernel_rfl) ?_) 
      refine r_vals 11 14 [.bool (decide (a0.f1 < 0)), .bool (decide (a0.f1 < 0)), .bool (decide (a0.f1 < 0))] (by kernel_rfl) (by kernel_rfl) ?_
      refine b_split (decide (a0.f1 < 0)) (fun h_ => ?_) (fun h_ => ?_)
      · have h56 : a0.f1 < 0 := by simpa using h_
        rw [if_pos h56] at H
        rw [h_]
        clear h_
        refine r_vals 14 18 [undef, undef, undef, .bool true] (by kernel_rfl) (by kernel_rfl) ?_
        refine r_fin 18 (by kernel_rfl) ?_
        refine q_then ?_
        refine w_into (dowelref25_Text_24.j0F b36 b43 true) (by kernel_rfl) (fun u_ => ?_)
        exact dowelref25_Text_24.j0.ok K a0 w r b36 b43 HR  true u_ w50 k52 hb53 hb49 g38 g46 n45 H
      · have h56 : ¬ (a0.f1 < 0) := by simpa using h_
        rw [if_neg h56] at H
        rw [h_]
        clear h_
        refine r_vals 14 15 [.pointer (some ⟨b36, 1, none⟩)] (by kernel_rfl) (by kernel_rfl) ?_
        refine r_do 15 (by kernel_rfl) (og_load (T := 3) (x := (Operand.tmp 22)) (b := b36) (off := 1) (.int .i64 a0.f1) (by kernel_rfl) (by kernel_rfl) hb53 (by kernel_rfl) ?_) 
        refine r_vals 16 18 [.bool (decide (a0.f1 > 8)), .bool (decide (a0.f1 > 8))] (by kernel_rfl) (by kernel_rfl) ?_
        refine r_fin 18 (by kernel_rfl) ?_
        refine q_then ?_
        refine w_into (dowelref25_Text_24.j0F b36 b43 (decide (a0.f1 > 8))) (by kernel_rfl) (fun u_ => ?_)
        exact dowelref25_Text_24.j0.ok K a0 w r b36 b43 HR  (decide (a0.f1 > 8)) u_ w50 k52 hb53 hb49 g38 g46 n45 H
/-! ### dowel/dowellaw25.TypedTexts -/
def dowellaw25_TypedTexts_5.j0F (x100 : Bool) (u_ : Nat → Value) : Array Value := #[u_ 0, u_ 1, u_ 2, u_ 3, .bool x100, u_ 5, u_ 6, u_ 7, u_ 8, u_ 9, u_ 10, u_ 11, u_ 12, u_ 13, u_ 14, u_ 15, u_ 16, u_ 17, u_ 18, u_ 19, u_ 20, u_ 21, u_ 22, u_ 23, u_ 24, u_ 25, u_ 26, u_ 27, u_ 28, u_ 29, u_ 30]
def dowellaw25_TypedTexts_5.j0 (x100 : Bool) : Option (Bool) := some x100
def dowellaw25_TypedTexts_5.f (K : Nat) (a0 : Int) (a1 : Int) : Option (Bool) := (typed_Text_23.f K (⟨a0, a1⟩ : S30)).bind fun t86 => ((dowelref25_Text_24.f K (⟨a0, a1⟩ : S30)).bind fun t91 => (if t86.1.toList = t91.1.toList then (dowellaw25_TypedTexts_5.j0 (t86.2 == t91.2)) else (dowellaw25_TypedTexts_5.j0 false)))
def dowellaw25_TypedTexts_5.R (r : Bool) (w : World) : Ending → World → Prop := fun e w' => e = .returned (.bool r) ∧ Kp No w w'
set_option maxRecDepth 20000 in
set_option maxHeartbeats 4000000 in
theorem dowellaw25_TypedTexts_5.j0.ok (K : Nat) (a0 : Int) (a1 : Int) (w : World) (r : Bool) {Q : Exit → Act → World → Prop}  (HR : ∀ a w', bodyPost Try.prog Try.f5 (dowellaw25_TypedTexts_5.R r w) .ret a w' → Q .ret a w')  (x100 : Bool) (u99 : Nat → Value) (w97 : World) (k98 : Kp No w w97)  (H : dowellaw25_TypedTexts_5.j0 x100 = some r) : (cd Try.f5 [1, 1, 1, 1]).wp Try.prog Q ⟨dowellaw25_TypedTexts_5.j0F x100 u99, []⟩ w97 := by
  unfold dowellaw25_TypedTexts_5.j0 at H
  refine w_ret (p := [1, 1, 1, 1]) (by kernel_rfl) ?_
  obtain rfl := Option.some.inj H
  refine HR _ _ (body_ret (vs := [.bool x100]) (rv_tmp (by kernel_rfl) rfl) rfl ?_)
  exact ⟨rfl, k98⟩
set_option maxRecDepth 20000 in
set_option maxHeartbeats 4000000 in
theorem dowellaw25_TypedTexts_5.ok (K : Nat) (a0 : Int) (a1 : Int) (w : World) (r : Bool) (H : dowellaw25_TypedTexts_5.f K a0 a1 = some r) : Calls Try.prog 5 #[.int .i64 a0, .int .i64 a1] w (dowellaw25_TypedTexts_5.R r w) := by
  refine calls_cd (t := #[.int .i64 a0, .int .i64 a1, undef, undef, undef, undef, undef, undef, undef, undef, undef, undef, undef, undef, undef, undef, undef, undef, undef, undef, undef, undef, undef, undef, undef, undef, undef, undef, undef, undef, undef]) Try.func5 (by kernel_rfl) (by kernel_rfl) ?_
  unfold dowellaw25_TypedTexts_5.f at H
  have HR : ∀ a w', bodyPost Try.prog Try.f5 (dowellaw25_TypedTexts_5.R r w) .ret a w' → bodyPost Try.prog Try.f5 (dowellaw25_TypedTexts_5.R r w) .ret a w' := fun _ _ h => h
  refine w_seq (p := []) (p0 := [0]) (p1 := [1]) (by kernel_rfl) ?_
  refine w_region (p := [0]) (id := 0) (by kernel_rfl) ?_
  refine r_vals 0 1 [.bool false] (by kernel_rfl) (by kernel_rfl) ?_
  refine r_fin 1 (by kernel_rfl) ?_
  refine q_then ?_
  refine w_seq (p := [1]) (p0 := [1, 0]) (p1 := [1, 1]) (by kernel_rfl) ?_
  refine w_region (p := [1, 0]) (id := 1) (by kernel_rfl) ?_
  refine r_vals 0 3 [.int .i64 a0, .int .i64 a1, .agg #[.int .i64 a0, .int .i64 a1]] (by kernel_rfl) (by kernel_rfl) ?_
  obtain ⟨t86, ht87, H⟩ := Option.bind_eq_some_iff.1 H
  refine r_do 3 (by kernel_rfl) (og_call (g := 23) (av := #[.agg #[.int .i64 a0, .int .i64 a1]]) (by kernel_rfl) ?_) 
  refine (typed_Text_23.ok K (⟨a0, a1⟩ : S30) w t86 ht87).mono ?_
  rintro e w88 ⟨rfl, k89⟩
  refine ⟨_, rfl, ?_⟩
  have k90 := Kp.trans (Kp.refl No w) k89 (fun _ h => h.elim)
  refine r_vals 4 9 [.tuple #[.string t86.1, .int .i64 t86.2], .string t86.1, .int .i64 t86.2, .string t86.1, .int .i64 t86.2] (by kernel_rfl) (by kernel_rfl) ?_
  refine r_fin 9 (by kernel_rfl) ?_
  refine q_then ?_
  refine w_seq (p := [1, 1]) (p0 := [1, 1, 0]) (p1 := [1, 1, 1]) (by kernel_rfl) ?_
  refine w_region (p := [1, 1, 0]) (id := 2) (by kernel_rfl) ?_
  refine r_vals 0 3 [.int .i64 a0, .int .i64 a1, .agg #[.int .i64 a0, .int .i64 a1]] (by kernel_rfl) (by kernel_rfl) ?_
  obtain ⟨t91, ht92, H⟩ := Option.bind_eq_some_iff.1 H
  refine r_do 3 (by kernel_rfl) (og_call (g := 24) (av := #[.agg #[.int .i64 a0, .int .i64 a1]]) (by kernel_rfl) ?_) 
  refine (dowelref25_Text_24.ok K (⟨a0, a1⟩ : S30) w88 t91 ht92).mono ?_
  rintro e w93 ⟨rfl, k94⟩
  refine ⟨_, rfl, ?_⟩
  have k95 := Kp.trans k90 k94 (fun _ h => h.elim)
  refine r_vals 4 9 [.tuple #[.string t91.1, .int .i64 t91.2], .string t91.1, .int .i64 t91.2, .string t91.1, .int .i64 t91.2] (by kernel_rfl) (by kernel_rfl) ?_
  refine r_fin 9 (by kernel_rfl) ?_
  refine q_then ?_
  refine w_seq (p := [1, 1, 1]) (p0 := [1, 1, 1, 0]) (p1 := [1, 1, 1, 1]) (by kernel_rfl) ?_
  refine w_region (p := [1, 1, 1, 0]) (id := 3) (by kernel_rfl) ?_
  refine r_vals 0 4 [.string t86.1, .string t91.1, .bool (t86.1.toList == t91.1.toList), .bool (t86.1.toList == t91.1.toList)] (by kernel_rfl) (by kernel_rfl) ?_
  refine b_split (t86.1.toList == t91.1.toList) (fun h_ => ?_) (fun h_ => ?_)
  · have h96 : t86.1.toList = t91.1.toList := by simpa using h_
    rw [if_pos h96] at H
    rw [h_]
    clear h_
    refine r_vals 4 9 [.int .i64 t86.2, .int .i64 t91.2, .bool (t86.2 == t91.2), .bool (t86.2 == t91.2), .bool (t86.2 == t91.2)] (by kernel_rfl) (by kernel_rfl) ?_
    refine r_fin 9 (by kernel_rfl) ?_
    refine q_then ?_
    refine w_into (dowellaw25_TypedTexts_5.j0F (t86.2 == t91.2)) (by kernel_rfl) (fun u_ => ?_)
    exact dowellaw25_TypedTexts_5.j0.ok K a0 a1 w r  HR  (t86.2 == t91.2) u_ w93 k95  H
  · have h96 : ¬ (t86.1.toList = t91.1.toList) := by simpa using h_
    rw [if_neg h96] at H
    rw [h_]
    clear h_
    refine r_vals 4 9 [undef, undef, undef, .bool false, .bool false] (by kernel_rfl) (by kernel_rfl) ?_
    refine r_fin 9 (by kernel_rfl) ?_
    refine q_then ?_
    refine w_into (dowellaw25_TypedTexts_5.j0F false) (by kernel_rfl) (fun u_ => ?_)
    exact dowellaw25_TypedTexts_5.j0.ok K a0 a1 w r  HR  false u_ w93 k95  H
end Go.Proofs.Ytampekcanmakkaa.G
