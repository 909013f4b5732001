/- What the functions compute, and that the calls come to it: printed by a program. -/
import Derived.Test.YtampekcanmakkaaX7p1
import Derived.Test.YtampekcanmakkaaProg
set_option linter.unusedVariables false
namespace Go.Proofs.Ytampekcanmakkaa.G
open Go Go.RowKit Go.Proofs
set_option maxRecDepth 20000 in
set_option maxHeartbeats 4000000 in
theorem class_reader_escape.j0.ok (K : Nat) (a0b : Nat) (a0T : Nat) (a0 : Tclass_reader) (w : World) (r : Int × Tapi_Fault × Tclass_reader) {Q : Exit → Act → World → Prop} (b758 : Nat) (b767 : Nat) (HR : ∀ a w', bodyPost Try.prog Try.f145 (class_reader_escape.R a0b a0T r w) .ret a w' → Q .ret a w')  (x813 : Bool) (u812 : Nat → Value) (w810 : World) (k811 : Kp (One a0b) w w810) (hb814 : Blk w810 a0b #[.string a0.f0, .int .i64 a0.f1, .int .i64 a0.f2] a0T) (hb815 : Blk w810 b758 #[.int .i64 0, .int .i64 0] 65) (hb816 : Blk w810 b767 #[.int .i64 a0.f2, .int .i64 42] 65) (ghb815 : w.heap.size ≤ b758) (ghb816 : w.heap.size ≤ b767) (nhb814hb815 : a0b ≠ b758) (nhb814hb816 : a0b ≠ b767) (nhb815hb816 : b758 ≠ b767) (H : class_reader_escape.j0 a0 K x813 = some r) : (cd Try.f145 [1, 1, 1, 1, 0, 1, 0, 1, 1, 1, 1, 1, 1, 1]).wp Try.prog (Exit.inBlock 0 (Exit.then (fun a w => (cd Try.f145 [1, 1, 1, 1, 1]).wp Try.prog Q a w) Q)) ⟨class_reader_escape.j0F a0b b758 b767 a0 x813 u812, []⟩ w810 := by
  unfold class_reader_escape.j0 at H
  refine w_cond (p := [1, 1, 1, 1, 0, 1, 0, 1, 1, 1, 1, 1, 1, 1]) (p0 := [1, 1, 1, 1, 0, 1, 0, 1, 1, 1, 1, 1, 1, 1, 0]) (p1 := [1, 1, 1, 1, 0, 1, 0, 1, 1, 1, 1, 1, 1, 1, 1]) (c := (Operand.tmp 43)) (b := x813) (by kernel_rfl) (by kernel_rfl) ?_ ?_
  · intro h_
    have h817 : x813 = true := h_
    clear h_
    rw [if_pos h817] at H
    refine w_skip (p := [1, 1, 1, 1, 0, 1, 0, 1, 1, 1, 1, 1, 1, 1, 0]) (by kernel_rfl) ?_
    refine q_in ?_
    refine q_into (class_reader_escape.j2F a0b b758 (bt a0.f0 (W (a0.f2 + 1)))) (by kernel_rfl) (fun u_ => ?_)
    exact class_reader_escape.j2.ok K a0b a0T a0 w r b758 HR  (bt a0.f0 (W (a0.f2 + 1))) u_ w810 k811 hb814 hb815 ghb815 nhb814hb815 H
  · intro h_
    have h817 : ¬ (x813 = true) := by rw [h_]; decide
    clear h_
    rw [if_neg h817] at H
    refine w_seq (p := [1, 1, 1, 1, 0, 1, 0, 1, 1, 1, 1, 1, 1, 1, 1]) (p0 := [1, 1, 1, 1, 0, 1, 0, 1, 1, 1, 1, 1, 1, 1, 1, 0]) (p1 := [1, 1, 1, 1, 0, 1, 0, 1, 1, 1, 1, 1, 1, 1, 1, 1]) (by kernel_rfl) ?_
    refine w_region (p := [1, 1, 1, 1, 0, 1, 0, 1, 1, 1, 1, 1, 1, 1, 1, 0]) (id := 19) (by kernel_rfl) ?_
    refine r_vals 0 2 [.bool ((bt a0.f0 (W (a0.f2 + 1))) == 120), .bool ((bt a0.f0 (W (a0.f2 + 1))) == 120)] (by kernel_rfl) (by kernel_rfl) ?_
    refine r_fin 2 (by kernel_rfl) ?_
    refine q_then ?_
    refine w_cond (p := [1, 1, 1, 1, 0, 1, 0, 1, 1, 1, 1, 1, 1, 1, 1, 1]) (p0 := [1, 1, 1, 1, 0, 1, 0, 1, 1, 1, 1, 1, 1, 1, 1, 1, 0]) (p1 := [1, 1, 1, 1, 0, 1, 0, 1, 1, 1, 1, 1, 1, 1, 1, 1, 1]) (c := (Operand.tmp 50)) (b := (bt a0.f0 (W (a0.f2 + 1))) == 120) (by kernel_rfl) (by kernel_rfl) ?_ ?_
    · intro h_
      have h818 : (bt a0.f0 (W (a0.f2 + 1))) = 120 := by simpa using h_
      clear h_
      rw [if_pos h818] at H
      refine w_seq (p := [1, 1, 1, 1, 0, 1, 0, 1, 1, 1, 1, 1, 1, 1, 1, 1, 0]) (p0 := [1, 1, 1, 1, 0, 1, 0, 1, 1, 1, 1, 1, 1, 1, 1, 1, 0, 0]) (p1 := [1, 1, 1, 1, 0, 1, 0, 1, 1, 1, 1, 1, 1, 1, 1, 1, 0, 1]) (by kernel_rfl) ?_
      refine w_seq (p := [1, 1, 1, 1, 0, 1, 0, 1, 1, 1, 1, 1, 1, 1, 1, 1, 0, 0]) (p0 := [1, 1, 1, 1, 0, 1, 0, 1, 1, 1, 1, 1, 1, 1, 1, 1, 0, 0, 0]) (p1 := [1, 1, 1, 1, 0, 1, 0, 1, 1, 1, 1, 1, 1, 1, 1, 1, 0, 0, 1]) (by kernel_rfl) ?_
      refine w_drawk (p := [1, 1, 1, 1, 0, 1, 0, 1, 1, 1, 1, 1, 1, 1, 1, 1, 0, 0, 0]) (id := 20) (by kernel_rfl) (by kernel_rfl) [0, 1, 3, 7, 15, 0, 32, 96, 224, 480, 1023] 11 (by kernel_rfl) (J := (fun _ w_ => Kp No w810 w_)) (fun w_ h1 h2 h3 h4 => Kp.same h1 h2 h3 h4) ?_
      refine k_pure 3 [.pointer (some ⟨a0b, 0, none⟩), .pointer (some ⟨a0b, 0, none⟩), .pointer (some ⟨a0b, 2, none⟩)] (by kernel_rfl) (fun _ => by kernel_rfl) (fun _ _ _ _ _ h => h) ?_
      refine k_op (.int .i64 a0.f2) (by kernel_rfl) (fun b_ w_ hJ hb_ hd_ he_ => og_load (T := 3) (x := (Operand.tmp 54)) (b := a0b) (off := 2) (.int .i64 a0.f2) (by kernel_rfl) (by kernel_rfl) (Blk.kp hb814 hJ id) (by kernel_rfl) ⟨rfl, hJ⟩) ?_
      refine k_pure 8 [.int .i64 (W (a0.f2 + 3)), .pointer (some ⟨a0b, 0, none⟩), .pointer (some ⟨a0b, 0, none⟩), .pointer (some ⟨a0b, 0, none⟩)] (by kernel_rfl) (fun _ => by kernel_rfl) (fun _ _ _ _ _ h => h) ?_
      refine k_op (.string a0.f0) (by kernel_rfl) (fun b_ w_ hJ hb_ hd_ he_ => og_load (T := 9) (x := (Operand.tmp 59)) (b := a0b) (off := 0) (.string a0.f0) (by kernel_rfl) (by kernel_rfl) (Blk.kp hb814 hJ id) (by kernel_rfl) ⟨rfl, hJ⟩) ?_
      refine k_pure 11 [.int .i64 (a0.f0.size : Int), .bool (decide ((W (a0.f2 + 3)) ≥ (a0.f0.size : Int)))] (by kernel_rfl) (fun _ => by kernel_rfl) (fun _ _ _ _ _ h => h) ?_
      refine k_nil ?_
      rintro b_ w819 hall_ k_
      have k820 := k_
      have k821 := Kp.trans k811 k820 (fun _ h => h.elim)
      have hb822 := Blk.kp hb814 k820 id
      have hb823 := Blk.kp hb815 k820 id
      have hb824 := Blk.kp hb816 k820 id
      refine r_fin 11 (by kernel_rfl) ?_
      refine q_then ?_
      refine w_cond (p := [1, 1, 1, 1, 0, 1, 0, 1, 1, 1, 1, 1, 1, 1, 1, 1, 0, 0, 1]) (p0 := [1, 1, 1, 1, 0, 1, 0, 1, 1, 1, 1, 1, 1, 1, 1, 1, 0, 0, 1, 0]) (p1 := [1, 1, 1, 1, 0, 1, 0, 1, 1, 1, 1, 1, 1, 1, 1, 1, 0, 0, 1, 1]) (c := (Operand.tmp 62)) (b := decide ((W (a0.f2 + 3)) ≥ (a0.f0.size : Int))) (by kernel_rfl) (by kernel_rfl) ?_ ?_
      · intro h_
        have h825 : (W (a0.f2 + 3)) ≥ (a0.f0.size : Int) := by simpa using h_
        clear h_
        rw [if_pos h825] at H
        refine w_seq (p := [1, 1, 1, 1, 0, 1, 0, 1, 1, 1, 1, 1, 1, 1, 1, 1, 0, 0, 1, 0]) (p0 := [1, 1, 1, 1, 0, 1, 0, 1, 1, 1, 1, 1, 1, 1, 1, 1, 0, 0, 1, 0, 0]) (p1 := [1, 1, 1, 1, 0, 1, 0, 1, 1, 1, 1, 1, 1, 1, 1, 1, 0, 0, 1, 0, 1]) (by kernel_rfl) ?_
        refine w_drawk (p := [1, 1, 1, 1, 0, 1, 0, 1, 1, 1, 1, 1, 1, 1, 1, 1, 0, 0, 1, 0, 0]) (id := 21) (by kernel_rfl) (by kernel_rfl) [0, 0, 3] 3 (by kernel_rfl) (J := (fun b_ w_ => Kp (fun k => k = b758) w819 w_ ∧ Blk w_ b758 (if b_ 2 = true then #[.int .i64 a0.f2, .int .i64 42] else #[.int .i64 0, .int .i64 0]) 65)) (fun w_ h1 h2 h3 h4 => ⟨Kp.same h1 h2 h3 h4, by simpa using hb823.same h1⟩) ?_
        refine k_op (.agg #[.int .i64 a0.f2, .int .i64 42]) (by kernel_rfl) (fun b_ w_ hJ hb_ hd_ he_ => og_load (T := 65) (x := (Operand.tmp 4)) (b := b767) (off := 0) (.agg #[.int .i64 a0.f2, .int .i64 42]) (by kernel_rfl) (by kernel_rfl) (Blk.kp hb824 hJ.1 (Ne.symm nhb815hb816)) (by kernel_rfl) ⟨rfl, by simpa [up] using hJ⟩) ?_
        refine k_pure 2 [.int .u8 0] (by kernel_rfl) (fun _ => by kernel_rfl) (fun k h1 h2 b w h => by simpa [up, show ¬ (2 = k) by omega] using h) ?_
        refine k_op (undef) (by kernel_rfl) (fun b_ w_ hJ hb_ hd_ he_ => og_store (T := 65) (x := (Operand.tmp 3)) (y := (Operand.tmp 63)) (b := b758) (off := 0) (.agg #[.int .i64 a0.f2, .int .i64 42]) (by kernel_rfl) (by kernel_rfl) (by kernel_rfl) (by have h_ := hJ.2; rw [if_neg (by rw [hb_]; decide)] at h_; exact h_) (cs' := #[.int .i64 a0.f2, .int .i64 42]) (by kernel_rfl) (fun w2_ h2_ k2_ _ => ⟨rfl, Kp.trans hJ.1 k2_ (fun x hx => .inl (by rw [show x = _ from hx] <;> simp)), by rw [if_pos (by simp [up])]; exact h2_⟩)) ?_
        refine k_nil ?_
        rintro b_ w826 hall_ k_
        obtain ⟨k827, hb828⟩ := k_
        rw [if_pos (hall_ 2 (by decide))] at hb828
        have k829 := Kp.trans k821 k827 (fun x hx => by rcases hx with rfl <;> first | exact .inr ghb815)
        have hb830 := Blk.kp hb822 k827 nhb814hb815
        have hb831 := Blk.kp hb824 k827 (Ne.symm nhb815hb816)
        refine r_fin 3 (by kernel_rfl) ?_
        refine q_then ?_
        refine w_ret (p := [1, 1, 1, 1, 0, 1, 0, 1, 1, 1, 1, 1, 1, 1, 1, 1, 0, 0, 1, 0, 1]) (by kernel_rfl) ?_
        refine q_then_r ?_
        refine q_in_r ?_
        refine q_then_r ?_
        obtain rfl := Option.some.inj H
        refine HR _ _ (body_ret (vs := [.int .u8 0, .agg #[.int .i64 a0.f2, .int .i64 42]]) (rv_tmp (by kernel_rfl) (rv_cell (off := 0) (v := .agg #[.int .i64 a0.f2, .int .i64 42]) (by kernel_rfl) hb828 (by kernel_rfl) rfl)) rfl ?_)
        exact ⟨rfl, k829, hb830⟩
      · intro h_
        have h825 : ¬ ((W (a0.f2 + 3)) ≥ (a0.f0.size : Int)) := by simpa using h_
        clear h_
        rw [if_neg h825] at H
        refine w_skip (p := [1, 1, 1, 1, 0, 1, 0, 1, 1, 1, 1, 1, 1, 1, 1, 1, 0, 0, 1, 1]) (by kernel_rfl) ?_
        refine q_then ?_
        refine w_seq (p := [1, 1, 1, 1, 0, 1, 0, 1, 1, 1, 1, 1, 1, 1, 1, 1, 0, 1]) (p0 := [1, 1, 1, 1, 0, 1, 0, 1, 1, 1, 1, 1, 1, 1, 1, 1, 0, 1, 0]) (p1 := [1, 1, 1, 1, 0, 1, 0, 1, 1, 1, 1, 1, 1, 1, 1, 1, 0, 1, 1]) (by kernel_rfl) ?_
        refine p_split (0 ≤ (W (a0.f2 + 2))) (fun h832 => ?_) (fun h832 => ?_)
        · rw [if_pos h832] at H
          refine p_split ((W (a0.f2 + 2)) < (a0.f0.size : Int)) (fun h833 => ?_) (fun h833 => ?_)
          · rw [if_pos h833] at H
            obtain ⟨t834, ht835, H⟩ := Option.bind_eq_some_iff.1 H
            refine p_split (0 ≤ (W (a0.f2 + 3))) (fun h836 => ?_) (fun h836 => ?_)
            · rw [if_pos h836] at H
              refine p_split ((W (a0.f2 + 3)) < (a0.f0.size : Int)) (fun h837 => ?_) (fun h837 => ?_)
              · rw [if_pos h837] at H
                obtain ⟨t838, ht839, H⟩ := Option.bind_eq_some_iff.1 H
                refine w_drawk (p := [1, 1, 1, 1, 0, 1, 0, 1, 1, 1, 1, 1, 1, 1, 1, 1, 0, 1, 0]) (id := 22) (by kernel_rfl) (by kernel_rfl) [0, 1, 3, 7, 0, 16, 48, 112, 240, 511, 1023, 0, 2048, 6144, 14336, 0, 32768, 98304, 229376, 491520, 1046528, 2097151, 4194303, 8388607] 24 (by kernel_rfl) (J := (fun _ w_ => Kp No w819 w_)) (fun w_ h1 h2 h3 h4 => Kp.same h1 h2 h3 h4) ?_
                refine k_pure 3 [.pointer (some ⟨a0b, 0, none⟩), .pointer (some ⟨a0b, 0, none⟩), .pointer (some ⟨a0b, 0, none⟩)] (by kernel_rfl) (fun _ => by kernel_rfl) (fun _ _ _ _ _ h => h) ?_
                refine k_op (.string a0.f0) (by kernel_rfl) (fun b_ w_ hJ hb_ hd_ he_ => og_load (T := 9) (x := (Operand.tmp 66)) (b := a0b) (off := 0) (.string a0.f0) (by kernel_rfl) (by kernel_rfl) (Blk.kp hb822 hJ id) (by kernel_rfl) ⟨rfl, hJ⟩) ?_
                refine k_pure 7 [.pointer (some ⟨a0b, 0, none⟩), .pointer (some ⟨a0b, 0, none⟩), .pointer (some ⟨a0b, 2, none⟩)] (by kernel_rfl) (fun _ => by kernel_rfl) (fun _ _ _ _ _ h => h) ?_
                refine k_op (.int .i64 a0.f2) (by kernel_rfl) (fun b_ w_ hJ hb_ hd_ he_ => og_load (T := 3) (x := (Operand.tmp 70)) (b := a0b) (off := 2) (.int .i64 a0.f2) (by kernel_rfl) (by kernel_rfl) (Blk.kp hb822 hJ id) (by kernel_rfl) ⟨rfl, hJ⟩) ?_
                refine k_pure 9 [.int .i64 (W (a0.f2 + 2))] (by kernel_rfl) (fun _ => by kernel_rfl) (fun _ _ _ _ _ h => h) ?_
                refine k_op (.int .u8 (bt a0.f0 (W (a0.f2 + 2)))) (by kernel_rfl) (fun b_ w_ hJ hb_ hd_ he_ => og_sindex (T := 9) (x := (Operand.tmp 67)) (y := (Operand.tmp 72)) (k := .i64) (by kernel_rfl) (by kernel_rfl) (by kernel_rfl) (by kernel_rfl) h832 h833 ⟨rfl, hJ⟩) ?_
                refine k_op (.int .i64 t834) (by kernel_rfl) (fun b_ w_ hJ hb_ hd_ he_ => og_call (g := 171) (av := #[.int .u8 (bt a0.f0 (W (a0.f2 + 2)))]) (by kernel_rfl) ((class_digit.ok K (bt a0.f0 (W (a0.f2 + 2))) w_ t834 ht835).mono (by rintro e w3_ ⟨rfl, k3_⟩; exact ⟨_, rfl, rfl, Kp.trans hJ k3_ (fun _ h => h.elim)⟩))) ?_
                refine k_pure 14 [.pointer (some ⟨a0b, 0, none⟩), .pointer (some ⟨a0b, 0, none⟩), .pointer (some ⟨a0b, 0, none⟩)] (by kernel_rfl) (fun _ => by kernel_rfl) (fun _ _ _ _ _ h => h) ?_
                refine k_op (.string a0.f0) (by kernel_rfl) (fun b_ w_ hJ hb_ hd_ he_ => og_load (T := 9) (x := (Operand.tmp 77)) (b := a0b) (off := 0) (.string a0.f0) (by kernel_rfl) (by kernel_rfl) (Blk.kp hb822 hJ id) (by kernel_rfl) ⟨rfl, hJ⟩) ?_
                refine k_pure 18 [.pointer (some ⟨a0b, 0, none⟩), .pointer (some ⟨a0b, 0, none⟩), .pointer (some ⟨a0b, 2, none⟩)] (by kernel_rfl) (fun _ => by kernel_rfl) (fun _ _ _ _ _ h => h) ?_
                refine k_op (.int .i64 a0.f2) (by kernel_rfl) (fun b_ w_ hJ hb_ hd_ he_ => og_load (T := 3) (x := (Operand.tmp 81)) (b := a0b) (off := 2) (.int .i64 a0.f2) (by kernel_rfl) (by kernel_rfl) (Blk.kp hb822 hJ id) (by kernel_rfl) ⟨rfl, hJ⟩) ?_
                refine k_pure 20 [.int .i64 (W (a0.f2 + 3))] (by kernel_rfl) (fun _ => by kernel_rfl) (fun _ _ _ _ _ h => h) ?_
                refine k_op (.int .u8 (bt a0.f0 (W (a0.f2 + 3)))) (by kernel_rfl) (fun b_ w_ hJ hb_ hd_ he_ => og_sindex (T := 9) (x := (Operand.tmp 78)) (y := (Operand.tmp 83)) (k := .i64) (by kernel_rfl) (by kernel_rfl) (by kernel_rfl) (by kernel_rfl) h836 h837 ⟨rfl, hJ⟩) ?_
                refine k_op (.int .i64 t838) (by kernel_rfl) (fun b_ w_ hJ hb_ hd_ he_ => og_call (g := 171) (av := #[.int .u8 (bt a0.f0 (W (a0.f2 + 3)))]) (by kernel_rfl) ((class_digit.ok K (bt a0.f0 (W (a0.f2 + 3))) w_ t838 ht839).mono (by rintro e w3_ ⟨rfl, k3_⟩; exact ⟨_, rfl, rfl, Kp.trans hJ k3_ (fun _ h => h.elim)⟩))) ?_
                refine k_pure 24 [.int .i64 t834, .int .i64 t838] (by kernel_rfl) (fun _ => by kernel_rfl) (fun _ _ _ _ _ h => h) ?_
                refine k_nil ?_
                rintro b_ w840 hall_ k_
                have k841 := k_
                have k842 := Kp.trans k821 k841 (fun _ h => h.elim)
                have hb843 := Blk.kp hb822 k841 id
                have hb844 := Blk.kp hb823 k841 id
                have hb845 := Blk.kp hb824 k841 id
                refine r_fin 24 (by kernel_rfl) ?_
                refine q_then ?_
                refine w_seq (p := [1, 1, 1, 1, 0, 1, 0, 1, 1, 1, 1, 1, 1, 1, 1, 1, 0, 1, 1]) (p0 := [1, 1, 1, 1, 0, 1, 0, 1, 1, 1, 1, 1, 1, 1, 1, 1, 0, 1, 1, 0]) (p1 := [1, 1, 1, 1, 0, 1, 0, 1, 1, 1, 1, 1, 1, 1, 1, 1, 0, 1, 1, 1]) (by kernel_rfl) ?_
                refine w_seq (p := [1, 1, 1, 1, 0, 1, 0, 1, 1, 1, 1, 1, 1, 1, 1, 1, 0, 1, 1, 0]) (p0 := [1, 1, 1, 1, 0, 1, 0, 1, 1, 1, 1, 1, 1, 1, 1, 1, 0, 1, 1, 0, 0]) (p1 := [1, 1, 1, 1, 0, 1, 0, 1, 1, 1, 1, 1, 1, 1, 1, 1, 0, 1, 1, 0, 1]) (by kernel_rfl) ?_
                refine w_region (p := [1, 1, 1, 1, 0, 1, 0, 1, 1, 1, 1, 1, 1, 1, 1, 1, 0, 1, 1, 0, 0]) (id := 23) (by kernel_rfl) ?_
                refine r_vals 0 3 [.int .i64 t834, .bool (decide (t834 < 0)), .bool (decide (t834 < 0))] (by kernel_rfl) (by kernel_rfl) ?_
                refine b_split (decide (t834 < 0)) (fun h_ => ?_) (fun h_ => ?_)
                · have h846 : t834 < 0 := by simpa using h_
                  rw [if_pos h846] at H
                  rw [h_]
                  clear h_
                  refine r_vals 3 6 [undef, undef, .bool true] (by kernel_rfl) (by kernel_rfl) ?_
                  refine r_fin 6 (by kernel_rfl) ?_
                  refine q_then ?_
                  refine w_into (class_reader_escape.j1F a0b b758 b767 t834 t838 true) (by kernel_rfl) (fun u_ => ?_)
                  exact class_reader_escape.j1.ok K a0b a0T a0 w r b758 b767 t834 t838 HR  true u_ w840 k842 hb843 hb844 hb845 ghb815 ghb816 nhb814hb815 nhb814hb816 nhb815hb816 H
                · have h846 : ¬ (t834 < 0) := by simpa using h_
                  rw [if_neg h846] at H
                  rw [h_]
                  clear h_
                  refine r_vals 3 6 [.int .i64 t838, .bool (decide (t838 < 0)), .bool (decide (t838 < 0))] (by kernel_rfl) (by kernel_rfl) ?_
                  refine r_fin 6 (by kernel_rfl) ?_
                  refine q_then ?_
                  refine w_into (class_reader_escape.j1F a0b b758 b767 t834 t838 (decide (t838 < 0))) (by kernel_rfl) (fun u_ => ?_)
                  exact class_reader_escape.j1.ok K a0b a0T a0 w r b758 b767 t834 t838 HR  (decide (t838 < 0)) u_ w840 k842 hb843 hb844 hb845 ghb815 ghb816 nhb814hb815 nhb814hb816 nhb815hb816 H
              · rw [if_neg h837] at H
                cases H
            · rw [if_neg h836] at H
              cases H
          · rw [if_neg h833] at H
            cases H
        · rw [if_neg h832] at H
          cases H
    · intro h_
      have h818 : ¬ ((bt a0.f0 (W (a0.f2 + 1))) = 120) := by simpa using h_
      clear h_
      rw [if_neg h818] at H
      refine w_seq (p := [1, 1, 1, 1, 0, 1, 0, 1, 1, 1, 1, 1, 1, 1, 1, 1, 1]) (p0 := [1, 1, 1, 1, 0, 1, 0, 1, 1, 1, 1, 1, 1, 1, 1, 1, 1, 0]) (p1 := [1, 1, 1, 1, 0, 1, 0, 1, 1, 1, 1, 1, 1, 1, 1, 1, 1, 1]) (by kernel_rfl) ?_
      refine w_drawk (p := [1, 1, 1, 1, 0, 1, 0, 1, 1, 1, 1, 1, 1, 1, 1, 1, 1, 0]) (id := 6) (by kernel_rfl) (by kernel_rfl) [0, 0, 3] 3 (by kernel_rfl) (J := (fun b_ w_ => Kp (fun k => k = b758) w810 w_ ∧ Blk w_ b758 (if b_ 2 = true then #[.int .i64 a0.f2, .int .i64 42] else #[.int .i64 0, .int .i64 0]) 65)) (fun w_ h1 h2 h3 h4 => ⟨Kp.same h1 h2 h3 h4, by simpa using hb815.same h1⟩) ?_
      refine k_op (.agg #[.int .i64 a0.f2, .int .i64 42]) (by kernel_rfl) (fun b_ w_ hJ hb_ hd_ he_ => og_load (T := 65) (x := (Operand.tmp 4)) (b := b767) (off := 0) (.agg #[.int .i64 a0.f2, .int .i64 42]) (by kernel_rfl) (by kernel_rfl) (Blk.kp hb816 hJ.1 (Ne.symm nhb815hb816)) (by kernel_rfl) ⟨rfl, by simpa [up] using hJ⟩) ?_
      refine k_pure 2 [.int .u8 0] (by kernel_rfl) (fun _ => by kernel_rfl) (fun k h1 h2 b w h => by simpa [up, show ¬ (2 = k) by omega] using h) ?_
      refine k_op (undef) (by kernel_rfl) (fun b_ w_ hJ hb_ hd_ he_ => og_store (T := 65) (x := (Operand.tmp 3)) (y := (Operand.tmp 36)) (b := b758) (off := 0) (.agg #[.int .i64 a0.f2, .int .i64 42]) (by kernel_rfl) (by kernel_rfl) (by kernel_rfl) (by have h_ := hJ.2; rw [if_neg (by rw [hb_]; decide)] at h_; exact h_) (cs' := #[.int .i64 a0.f2, .int .i64 42]) (by kernel_rfl) (fun w2_ h2_ k2_ _ => ⟨rfl, Kp.trans hJ.1 k2_ (fun x hx => .inl (by rw [show x = _ from hx] <;> simp)), by rw [if_pos (by simp [up])]; exact h2_⟩)) ?_
      refine k_nil ?_
      rintro b_ w873 hall_ k_
      obtain ⟨k874, hb875⟩ := k_
      rw [if_pos (hall_ 2 (by decide))] at hb875
      have k876 := Kp.trans k811 k874 (fun x hx => by rcases hx with rfl <;> first | exact .inr ghb815)
      have hb877 := Blk.kp hb814 k874 nhb814hb815
      have hb878 := Blk.kp hb816 k874 (Ne.symm nhb815hb816)
      refine r_fin 3 (by kernel_rfl) ?_
      refine q_then ?_
      refine w_ret (p := [1, 1, 1, 1, 0, 1, 0, 1, 1, 1, 1, 1, 1, 1, 1, 1, 1, 1]) (by kernel_rfl) ?_
      refine q_in_r ?_
      refine q_then_r ?_
      obtain rfl := Option.some.inj H
      refine HR _ _ (body_ret (vs := [.int .u8 0, .agg #[.int .i64 a0.f2, .int .i64 42]]) (rv_tmp (by kernel_rfl) (rv_cell (off := 0) (v := .agg #[.int .i64 a0.f2, .int .i64 42]) (by kernel_rfl) hb875 (by kernel_rfl) rfl)) rfl ?_)
      exact ⟨rfl, k876, hb877⟩
set_option maxRecDepth 20000 in
set_option maxHeartbeats 4000000 in
theorem class_reader_escape.ok (K : Nat) (a0b : Nat) (a0T : Nat) (a0 : Tclass_reader) (w : World) (a0h : Blk w a0b #[.string a0.f0, .int .i64 a0.f1, .int .i64 a0.f2] a0T) (r : Int × Tapi_Fault × Tclass_reader) (H : class_reader_escape.f K a0 = some r) : Calls Try.prog 145 #[.pointer (some ⟨a0b, 0, none⟩)] w (class_reader_escape.R a0b a0T r w) := by
  refine calls_cd (t := #[.pointer (some ⟨a0b, 0, none⟩), undef, undef, undef, undef, undef, undef, undef, undef, undef, undef, undef, undef, undef, undef, undef, undef, undef, undef, undef, undef, undef, undef, undef, undef, undef, undef, undef, undef, undef, undef, undef, undef, undef, undef, undef, undef, undef, undef, undef, undef, undef, undef, undef, undef, undef, undef, undef, undef, undef, undef, undef, undef, undef, undef, undef, undef, undef, undef, undef, undef, undef, undef, undef, undef, undef, undef, undef, undef, undef, undef, undef, undef, undef, undef, undef, undef, undef, undef, undef, undef, undef, undef, undef, undef, undef, undef, undef, undef, undef, undef, undef, undef, undef, undef, undef, undef, undef, undef, undef, undef, undef, undef, undef, undef, undef, undef, undef, undef, undef, undef, undef, undef, undef, undef]) Try.func145 (by kernel_rfl) (by kernel_rfl) ?_
  unfold class_reader_escape.f at H
  have HR : ∀ a w', bodyPost Try.prog Try.f145 (class_reader_escape.R a0b a0T r w) .ret a w' → bodyPost Try.prog Try.f145 (class_reader_escape.R a0b a0T r w) .ret a w' := fun _ _ h => h
  refine w_seq (p := []) (p0 := [0]) (p1 := [1]) (by kernel_rfl) ?_
  refine w_region (p := [0]) (id := 0) (by kernel_rfl) ?_
  refine r_vals 0 1 [.int .u8 0] (by kernel_rfl) (by kernel_rfl) ?_
  refine r_do 1 (by kernel_rfl) (og_alloc (T := 65) (cs := #[.int .i64 0, .int .i64 0]) (by kernel_rfl) (by kernel_rfl) ?_) 
  intro b758 w755 e759 hb757 k756
  have n760 : a0b ≠ b758 := by rw [e759]; exact Nat.ne_of_lt a0h.lt
  have g761 : w.heap.size ≤ b758 := by rw [e759]; exact Kp.size (Kp.refl (One a0b) w)
  clear e759
  have k762 := Kp.trans (Kp.refl (One a0b) w) k756 (fun _ h => h.elim)
  have hb763 := Blk.kp a0h k756 id
  refine r_fin 2 (by kernel_rfl) ?_
  refine q_then ?_
  refine w_seq (p := [1]) (p0 := [1, 0]) (p1 := [1, 1]) (by kernel_rfl) ?_
  refine w_region (p := [1, 0]) (id := 1) (by kernel_rfl) ?_
  refine r_vals 0 3 [.pointer (some ⟨a0b, 0, none⟩), .pointer (some ⟨a0b, 0, none⟩), .pointer (some ⟨a0b, 2, none⟩)] (by kernel_rfl) (by kernel_rfl) ?_
  refine r_do 3 (by kernel_rfl) (og_load (T := 3) (x := (Operand.tmp 10)) (b := a0b) (off := 2) (.int .i64 a0.f2) (by kernel_rfl) (by kernel_rfl) hb763 (by kernel_rfl) ?_) 
  refine r_vals 4 5 [.agg #[.int .i64 a0.f2, .int .i64 42]] (by kernel_rfl) (by kernel_rfl) ?_
  refine r_do 5 (by kernel_rfl) (og_alloc (T := 65) (cs := #[.int .i64 0, .int .i64 0]) (by kernel_rfl) (by kernel_rfl) ?_) 
  intro b767 w764 e768 hb766 k765
  have n769 : a0b ≠ b767 := by rw [e768]; exact Nat.ne_of_lt hb763.lt
  have n770 : b758 ≠ b767 := by rw [e768]; exact Nat.ne_of_lt hb757.lt
  have g771 : w.heap.size ≤ b767 := by rw [e768]; exact Kp.size k762
  clear e768
  have k772 := Kp.trans k762 k765 (fun _ h => h.elim)
  have hb773 := Blk.kp hb763 k765 id
  have hb774 := Blk.kp hb757 k765 id
  refine r_do 6 (by kernel_rfl) (og_store (T := 65) (x := (Operand.tmp 4)) (y := (Operand.tmp 12)) (b := b767) (off := 0) (.agg #[.int .i64 a0.f2, .int .i64 42]) (by kernel_rfl) (by kernel_rfl) (by kernel_rfl) hb766 (cs' := #[.int .i64 a0.f2, .int .i64 42]) (by kernel_rfl) ?_) 
  intro w776 hb775 k777 _
  have k778 := Kp.trans k772 k777 (fun x hx => .inr (by rw [show x = _ from hx]; exact g771))
  have hb779 := Blk.kp hb773 k777 (show ¬ (a0b = b767) from n769)
  have hb780 := Blk.kp hb774 k777 (show ¬ (b758 = b767) from n770)
  refine r_fin 7 (by kernel_rfl) ?_
  refine q_then ?_
  refine w_seq (p := [1, 1]) (p0 := [1, 1, 0]) (p1 := [1, 1, 1]) (by kernel_rfl) ?_
  refine w_seq (p := [1, 1, 0]) (p0 := [1, 1, 0, 0]) (p1 := [1, 1, 0, 1]) (by kernel_rfl) ?_
  refine w_drawk (p := [1, 1, 0, 0]) (id := 2) (by kernel_rfl) (by kernel_rfl) [0, 1, 3, 7, 15, 0, 32, 96, 224, 480, 1023] 11 (by kernel_rfl) (J := (fun _ w_ => Kp No w776 w_)) (fun w_ h1 h2 h3 h4 => Kp.same h1 h2 h3 h4) ?_
  refine k_pure 3 [.pointer (some ⟨a0b, 0, none⟩), .pointer (some ⟨a0b, 0, none⟩), .pointer (some ⟨a0b, 2, none⟩)] (by kernel_rfl) (fun _ => by kernel_rfl) (fun _ _ _ _ _ h => h) ?_
  refine k_op (.int .i64 a0.f2) (by kernel_rfl) (fun b_ w_ hJ hb_ hd_ he_ => og_load (T := 3) (x := (Operand.tmp 15)) (b := a0b) (off := 2) (.int .i64 a0.f2) (by kernel_rfl) (by kernel_rfl) (Blk.kp hb779 hJ id) (by kernel_rfl) ⟨rfl, hJ⟩) ?_
  refine k_pure 8 [.int .i64 (W (a0.f2 + 1)), .pointer (some ⟨a0b, 0, none⟩), .pointer (some ⟨a0b, 0, none⟩), .pointer (some ⟨a0b, 0, none⟩)] (by kernel_rfl) (fun _ => by kernel_rfl) (fun _ _ _ _ _ h => h) ?_
  refine k_op (.string a0.f0) (by kernel_rfl) (fun b_ w_ hJ hb_ hd_ he_ => og_load (T := 9) (x := (Operand.tmp 20)) (b := a0b) (off := 0) (.string a0.f0) (by kernel_rfl) (by kernel_rfl) (Blk.kp hb779 hJ id) (by kernel_rfl) ⟨rfl, hJ⟩) ?_
  refine k_pure 11 [.int .i64 (a0.f0.size : Int), .bool (decide ((W (a0.f2 + 1)) ≥ (a0.f0.size : Int)))] (by kernel_rfl) (fun _ => by kernel_rfl) (fun _ _ _ _ _ h => h) ?_
  refine k_nil ?_
  rintro b_ w781 hall_ k_
  have k782 := k_
  have k783 := Kp.trans k778 k782 (fun _ h => h.elim)
  have hb784 := Blk.kp hb779 k782 id
  have hb785 := Blk.kp hb780 k782 id
  have hb786 := Blk.kp hb775 k782 id
  refine r_fin 11 (by kernel_rfl) ?_
  refine q_then ?_
  refine w_cond (p := [1, 1, 0, 1]) (p0 := [1, 1, 0, 1, 0]) (p1 := [1, 1, 0, 1, 1]) (c := (Operand.tmp 23)) (b := decide ((W (a0.f2 + 1)) ≥ (a0.f0.size : Int))) (by kernel_rfl) (by kernel_rfl) ?_ ?_
  · intro h_
    have h787 : (W (a0.f2 + 1)) ≥ (a0.f0.size : Int) := by simpa using h_
    clear h_
    rw [if_pos h787] at H
    refine w_seq (p := [1, 1, 0, 1, 0]) (p0 := [1, 1, 0, 1, 0, 0]) (p1 := [1, 1, 0, 1, 0, 1]) (by kernel_rfl) ?_
    refine w_drawk (p := [1, 1, 0, 1, 0, 0]) (id := 3) (by kernel_rfl) (by kernel_rfl) [0, 0, 3] 3 (by kernel_rfl) (J := (fun b_ w_ => Kp (fun k => k = b758) w781 w_ ∧ Blk w_ b758 (if b_ 2 = true then #[.int .i64 a0.f2, .int .i64 42] else #[.int .i64 0, .int .i64 0]) 65)) (fun w_ h1 h2 h3 h4 => ⟨Kp.same h1 h2 h3 h4, by simpa using hb785.same h1⟩) ?_
    refine k_op (.agg #[.int .i64 a0.f2, .int .i64 42]) (by kernel_rfl) (fun b_ w_ hJ hb_ hd_ he_ => og_load (T := 65) (x := (Operand.tmp 4)) (b := b767) (off := 0) (.agg #[.int .i64 a0.f2, .int .i64 42]) (by kernel_rfl) (by kernel_rfl) (Blk.kp hb786 hJ.1 (Ne.symm n770)) (by kernel_rfl) ⟨rfl, by simpa [up] using hJ⟩) ?_
    refine k_pure 2 [.int .u8 0] (by kernel_rfl) (fun _ => by kernel_rfl) (fun k h1 h2 b w h => by simpa [up, show ¬ (2 = k) by omega] using h) ?_
    refine k_op (undef) (by kernel_rfl) (fun b_ w_ hJ hb_ hd_ he_ => og_store (T := 65) (x := (Operand.tmp 3)) (y := (Operand.tmp 24)) (b := b758) (off := 0) (.agg #[.int .i64 a0.f2, .int .i64 42]) (by kernel_rfl) (by kernel_rfl) (by kernel_rfl) (by have h_ := hJ.2; rw [if_neg (by rw [hb_]; decide)] at h_; exact h_) (cs' := #[.int .i64 a0.f2, .int .i64 42]) (by kernel_rfl) (fun w2_ h2_ k2_ _ => ⟨rfl, Kp.trans hJ.1 k2_ (fun x hx => .inl (by rw [show x = _ from hx] <;> simp)), by rw [if_pos (by simp [up])]; exact h2_⟩)) ?_
    refine k_nil ?_
    rintro b_ w788 hall_ k_
    obtain ⟨k789, hb790⟩ := k_
    rw [if_pos (hall_ 2 (by decide))] at hb790
    have k791 := Kp.trans k783 k789 (fun x hx => by rcases hx with rfl <;> first | exact .inr g761)
    have hb792 := Blk.kp hb784 k789 n760
    have hb793 := Blk.kp hb786 k789 (Ne.symm n770)
    refine r_fin 3 (by kernel_rfl) ?_
    refine q_then ?_
    refine w_ret (p := [1, 1, 0, 1, 0, 1]) (by kernel_rfl) ?_
    refine q_then_r ?_
    obtain rfl := Option.some.inj H
    refine HR _ _ (body_ret (vs := [.int .u8 0, .agg #[.int .i64 a0.f2, .int .i64 42]]) (rv_tmp (by kernel_rfl) (rv_cell (off := 0) (v := .agg #[.int .i64 a0.f2, .int .i64 42]) (by kernel_rfl) hb790 (by kernel_rfl) rfl)) rfl ?_)
    exact ⟨rfl, k791, hb792⟩
  · intro h_
    have h787 : ¬ ((W (a0.f2 + 1)) ≥ (a0.f0.size : Int)) := by simpa using h_
    clear h_
    rw [if_neg h787] at H
    refine w_skip (p := [1, 1, 0, 1, 1]) (by kernel_rfl) ?_
    refine q_then ?_
    refine w_seq (p := [1, 1, 1]) (p0 := [1, 1, 1, 0]) (p1 := [1, 1, 1, 1]) (by kernel_rfl) ?_
    refine p_split (0 ≤ (W (a0.f2 + 1))) (fun h794 => ?_) (fun h794 => ?_)
    · rw [if_pos h794] at H
      refine p_split ((W (a0.f2 + 1)) < (a0.f0.size : Int)) (fun h795 => ?_) (fun h795 => ?_)
      · rw [if_pos h795] at H
        refine w_drawk (p := [1, 1, 1, 0]) (id := 4) (by kernel_rfl) (by kernel_rfl) [0, 1, 3, 7, 0, 16, 48, 112, 240, 511, 1023] 11 (by kernel_rfl) (J := (fun _ w_ => Kp No w781 w_)) (fun w_ h1 h2 h3 h4 => Kp.same h1 h2 h3 h4) ?_
        refine k_pure 3 [.pointer (some ⟨a0b, 0, none⟩), .pointer (some ⟨a0b, 0, none⟩), .pointer (some ⟨a0b, 0, none⟩)] (by kernel_rfl) (fun _ => by kernel_rfl) (fun _ _ _ _ _ h => h) ?_
        refine k_op (.string a0.f0) (by kernel_rfl) (fun b_ w_ hJ hb_ hd_ he_ => og_load (T := 9) (x := (Operand.tmp 27)) (b := a0b) (off := 0) (.string a0.f0) (by kernel_rfl) (by kernel_rfl) (Blk.kp hb784 hJ id) (by kernel_rfl) ⟨rfl, hJ⟩) ?_
        refine k_pure 7 [.pointer (some ⟨a0b, 0, none⟩), .pointer (some ⟨a0b, 0, none⟩), .pointer (some ⟨a0b, 2, none⟩)] (by kernel_rfl) (fun _ => by kernel_rfl) (fun _ _ _ _ _ h => h) ?_
        refine k_op (.int .i64 a0.f2) (by kernel_rfl) (fun b_ w_ hJ hb_ hd_ he_ => og_load (T := 3) (x := (Operand.tmp 31)) (b := a0b) (off := 2) (.int .i64 a0.f2) (by kernel_rfl) (by kernel_rfl) (Blk.kp hb784 hJ id) (by kernel_rfl) ⟨rfl, hJ⟩) ?_
        refine k_pure 9 [.int .i64 (W (a0.f2 + 1))] (by kernel_rfl) (fun _ => by kernel_rfl) (fun _ _ _ _ _ h => h) ?_
        refine k_op (.int .u8 (bt a0.f0 (W (a0.f2 + 1)))) (by kernel_rfl) (fun b_ w_ hJ hb_ hd_ he_ => og_sindex (T := 9) (x := (Operand.tmp 28)) (y := (Operand.tmp 33)) (k := .i64) (by kernel_rfl) (by kernel_rfl) (by kernel_rfl) (by kernel_rfl) h794 h795 ⟨rfl, hJ⟩) ?_
        refine k_pure 11 [.int .u8 (bt a0.f0 (W (a0.f2 + 1)))] (by kernel_rfl) (fun _ => by kernel_rfl) (fun _ _ _ _ _ h => h) ?_
        refine k_nil ?_
        rintro b_ w796 hall_ k_
        have k797 := k_
        have k798 := Kp.trans k783 k797 (fun _ h => h.elim)
        have hb799 := Blk.kp hb784 k797 id
        have hb800 := Blk.kp hb785 k797 id
        have hb801 := Blk.kp hb786 k797 id
        refine r_fin 11 (by kernel_rfl) ?_
        refine q_then ?_
        refine w_seq (p := [1, 1, 1, 1]) (p0 := [1, 1, 1, 1, 0]) (p1 := [1, 1, 1, 1, 1]) (by kernel_rfl) ?_
        refine w_seq (p := [1, 1, 1, 1, 0]) (p0 := [1, 1, 1, 1, 0, 0]) (p1 := [1, 1, 1, 1, 0, 1]) (by kernel_rfl) ?_
        refine w_region (p := [1, 1, 1, 1, 0, 0]) (id := 5) (by kernel_rfl) ?_
        refine r_vals 0 1 [.int .u8 (bt a0.f0 (W (a0.f2 + 1)))] (by kernel_rfl) (by kernel_rfl) ?_
        refine r_fin 1 (by kernel_rfl) ?_
        refine q_then ?_
        refine w_block (p := [1, 1, 1, 1, 0, 1]) (p0 := [1, 1, 1, 1, 0, 1, 0]) (id := 0) (by kernel_rfl) ?_
        refine w_seq (p := [1, 1, 1, 1, 0, 1, 0]) (p0 := [1, 1, 1, 1, 0, 1, 0, 0]) (p1 := [1, 1, 1, 1, 0, 1, 0, 1]) (by kernel_rfl) ?_
        refine w_region (p := [1, 1, 1, 1, 0, 1, 0, 0]) (id := 7) (by kernel_rfl) ?_
        refine r_vals 0 2 [.bool ((bt a0.f0 (W (a0.f2 + 1))) == 116), .bool ((bt a0.f0 (W (a0.f2 + 1))) == 116)] (by kernel_rfl) (by kernel_rfl) ?_
        refine r_fin 2 (by kernel_rfl) ?_
        refine q_then ?_
        refine w_cond (p := [1, 1, 1, 1, 0, 1, 0, 1]) (p0 := [1, 1, 1, 1, 0, 1, 0, 1, 0]) (p1 := [1, 1, 1, 1, 0, 1, 0, 1, 1]) (c := (Operand.tmp 37)) (b := (bt a0.f0 (W (a0.f2 + 1))) == 116) (by kernel_rfl) (by kernel_rfl) ?_ ?_
        · intro h_
          have h802 : (bt a0.f0 (W (a0.f2 + 1))) = 116 := by simpa using h_
          clear h_
          rw [if_pos h802] at H
          refine w_region (p := [1, 1, 1, 1, 0, 1, 0, 1, 0]) (id := 8) (by kernel_rfl) ?_
          refine r_vals 0 1 [.int .u8 9] (by kernel_rfl) (by kernel_rfl) ?_
          refine r_fin 1 (by kernel_rfl) ?_
          refine q_in ?_
          refine q_into (class_reader_escape.j2F a0b b758 9) (by kernel_rfl) (fun u_ => ?_)
          exact class_reader_escape.j2.ok K a0b a0T a0 w r b758 HR  9 u_ w796 k798 hb799 hb800 g761 n760 H
        · intro h_
          have h802 : ¬ ((bt a0.f0 (W (a0.f2 + 1))) = 116) := by simpa using h_
          clear h_
          rw [if_neg h802] at H
          refine w_seq (p := [1, 1, 1, 1, 0, 1, 0, 1, 1]) (p0 := [1, 1, 1, 1, 0, 1, 0, 1, 1, 0]) (p1 := [1, 1, 1, 1, 0, 1, 0, 1, 1, 1]) (by kernel_rfl) ?_
          refine w_region (p := [1, 1, 1, 1, 0, 1, 0, 1, 1, 0]) (id := 9) (by kernel_rfl) ?_
          refine r_vals 0 2 [.bool ((bt a0.f0 (W (a0.f2 + 1))) == 110), .bool ((bt a0.f0 (W (a0.f2 + 1))) == 110)] (by kernel_rfl) (by kernel_rfl) ?_
          refine r_fin 2 (by kernel_rfl) ?_
          refine q_then ?_
          refine w_cond (p := [1, 1, 1, 1, 0, 1, 0, 1, 1, 1]) (p0 := [1, 1, 1, 1, 0, 1, 0, 1, 1, 1, 0]) (p1 := [1, 1, 1, 1, 0, 1, 0, 1, 1, 1, 1]) (c := (Operand.tmp 39)) (b := (bt a0.f0 (W (a0.f2 + 1))) == 110) (by kernel_rfl) (by kernel_rfl) ?_ ?_
          · intro h_
            have h803 : (bt a0.f0 (W (a0.f2 + 1))) = 110 := by simpa using h_
            clear h_
            rw [if_pos h803] at H
            refine w_region (p := [1, 1, 1, 1, 0, 1, 0, 1, 1, 1, 0]) (id := 10) (by kernel_rfl) ?_
            refine r_vals 0 1 [.int .u8 10] (by kernel_rfl) (by kernel_rfl) ?_
            refine r_fin 1 (by kernel_rfl) ?_
            refine q_in ?_
            refine q_into (class_reader_escape.j2F a0b b758 10) (by kernel_rfl) (fun u_ => ?_)
            exact class_reader_escape.j2.ok K a0b a0T a0 w r b758 HR  10 u_ w796 k798 hb799 hb800 g761 n760 H
          · intro h_
            have h803 : ¬ ((bt a0.f0 (W (a0.f2 + 1))) = 110) := by simpa using h_
            clear h_
            rw [if_neg h803] at H
            refine w_seq (p := [1, 1, 1, 1, 0, 1, 0, 1, 1, 1, 1]) (p0 := [1, 1, 1, 1, 0, 1, 0, 1, 1, 1, 1, 0]) (p1 := [1, 1, 1, 1, 0, 1, 0, 1, 1, 1, 1, 1]) (by kernel_rfl) ?_
            refine w_region (p := [1, 1, 1, 1, 0, 1, 0, 1, 1, 1, 1, 0]) (id := 11) (by kernel_rfl) ?_
            refine r_vals 0 2 [.bool ((bt a0.f0 (W (a0.f2 + 1))) == 114), .bool ((bt a0.f0 (W (a0.f2 + 1))) == 114)] (by kernel_rfl) (by kernel_rfl) ?_
            refine r_fin 2 (by kernel_rfl) ?_
            refine q_then ?_
            refine w_cond (p := [1, 1, 1, 1, 0, 1, 0, 1, 1, 1, 1, 1]) (p0 := [1, 1, 1, 1, 0, 1, 0, 1, 1, 1, 1, 1, 0]) (p1 := [1, 1, 1, 1, 0, 1, 0, 1, 1, 1, 1, 1, 1]) (c := (Operand.tmp 41)) (b := (bt a0.f0 (W (a0.f2 + 1))) == 114) (by kernel_rfl) (by kernel_rfl) ?_ ?_
            · intro h_
              have h804 : (bt a0.f0 (W (a0.f2 + 1))) = 114 := by simpa using h_
              clear h_
              rw [if_pos h804] at H
              refine w_region (p := [1, 1, 1, 1, 0, 1, 0, 1, 1, 1, 1, 1, 0]) (id := 12) (by kernel_rfl) ?_
              refine r_vals 0 1 [.int .u8 13] (by kernel_rfl) (by kernel_rfl) ?_
              refine r_fin 1 (by kernel_rfl) ?_
              refine q_in ?_
              refine q_into (class_reader_escape.j2F a0b b758 13) (by kernel_rfl) (fun u_ => ?_)
              exact class_reader_escape.j2.ok K a0b a0T a0 w r b758 HR  13 u_ w796 k798 hb799 hb800 g761 n760 H
            · intro h_
              have h804 : ¬ ((bt a0.f0 (W (a0.f2 + 1))) = 114) := by simpa using h_
              clear h_
              rw [if_neg h804] at H
              refine w_seq (p := [1, 1, 1, 1, 0, 1, 0, 1, 1, 1, 1, 1, 1]) (p0 := [1, 1, 1, 1, 0, 1, 0, 1, 1, 1, 1, 1, 1, 0]) (p1 := [1, 1, 1, 1, 0, 1, 0, 1, 1, 1, 1, 1, 1, 1]) (by kernel_rfl) ?_
              refine w_seq (p := [1, 1, 1, 1, 0, 1, 0, 1, 1, 1, 1, 1, 1, 0]) (p0 := [1, 1, 1, 1, 0, 1, 0, 1, 1, 1, 1, 1, 1, 0, 0]) (p1 := [1, 1, 1, 1, 0, 1, 0, 1, 1, 1, 1, 1, 1, 0, 1]) (by kernel_rfl) ?_
              refine w_region (p := [1, 1, 1, 1, 0, 1, 0, 1, 1, 1, 1, 1, 1, 0, 0]) (id := 13) (by kernel_rfl) ?_
              refine r_vals 0 2 [.bool ((bt a0.f0 (W (a0.f2 + 1))) == 92), .bool ((bt a0.f0 (W (a0.f2 + 1))) == 92)] (by kernel_rfl) (by kernel_rfl) ?_
              refine r_fin 2 (by kernel_rfl) ?_
              refine q_then ?_
              refine w_cond (p := [1, 1, 1, 1, 0, 1, 0, 1, 1, 1, 1, 1, 1, 0, 1]) (p0 := [1, 1, 1, 1, 0, 1, 0, 1, 1, 1, 1, 1, 1, 0, 1, 0]) (p1 := [1, 1, 1, 1, 0, 1, 0, 1, 1, 1, 1, 1, 1, 0, 1, 1]) (c := (Operand.tmp 43)) (b := (bt a0.f0 (W (a0.f2 + 1))) == 92) (by kernel_rfl) (by kernel_rfl) ?_ ?_
              · intro h_
                have h805 : (bt a0.f0 (W (a0.f2 + 1))) = 92 := by simpa using h_
                clear h_
                rw [if_pos h805] at H
                refine w_skip (p := [1, 1, 1, 1, 0, 1, 0, 1, 1, 1, 1, 1, 1, 0, 1, 0]) (by kernel_rfl) ?_
                refine q_then ?_
                refine w_into (class_reader_escape.j0F a0b b758 b767 a0 ((bt a0.f0 (W (a0.f2 + 1))) == 92)) (by kernel_rfl) (fun u_ => ?_)
                exact class_reader_escape.j0.ok K a0b a0T a0 w r b758 b767 HR  ((bt a0.f0 (W (a0.f2 + 1))) == 92) u_ w796 k798 hb799 hb800 hb801 g761 g771 n760 n769 n770 H
              · intro h_
                have h805 : ¬ ((bt a0.f0 (W (a0.f2 + 1))) = 92) := by simpa using h_
                clear h_
                rw [if_neg h805] at H
                refine w_seq (p := [1, 1, 1, 1, 0, 1, 0, 1, 1, 1, 1, 1, 1, 0, 1, 1]) (p0 := [1, 1, 1, 1, 0, 1, 0, 1, 1, 1, 1, 1, 1, 0, 1, 1, 0]) (p1 := [1, 1, 1, 1, 0, 1, 0, 1, 1, 1, 1, 1, 1, 0, 1, 1, 1]) (by kernel_rfl) ?_
                refine w_region (p := [1, 1, 1, 1, 0, 1, 0, 1, 1, 1, 1, 1, 1, 0, 1, 1, 0]) (id := 14) (by kernel_rfl) ?_
                refine r_vals 0 2 [.bool ((bt a0.f0 (W (a0.f2 + 1))) == 93), .bool ((bt a0.f0 (W (a0.f2 + 1))) == 93)] (by kernel_rfl) (by kernel_rfl) ?_
                refine r_fin 2 (by kernel_rfl) ?_
                refine q_then ?_
                refine w_cond (p := [1, 1, 1, 1, 0, 1, 0, 1, 1, 1, 1, 1, 1, 0, 1, 1, 1]) (p0 := [1, 1, 1, 1, 0, 1, 0, 1, 1, 1, 1, 1, 1, 0, 1, 1, 1, 0]) (p1 := [1, 1, 1, 1, 0, 1, 0, 1, 1, 1, 1, 1, 1, 0, 1, 1, 1, 1]) (c := (Operand.tmp 43)) (b := (bt a0.f0 (W (a0.f2 + 1))) == 93) (by kernel_rfl) (by kernel_rfl) ?_ ?_
                · intro h_
                  have h806 : (bt a0.f0 (W (a0.f2 + 1))) = 93 := by simpa using h_
                  clear h_
                  rw [if_pos h806] at H
                  refine w_skip (p := [1, 1, 1, 1, 0, 1, 0, 1, 1, 1, 1, 1, 1, 0, 1, 1, 1, 0]) (by kernel_rfl) ?_
                  refine q_then ?_
                  refine w_into (class_reader_escape.j0F a0b b758 b767 a0 ((bt a0.f0 (W (a0.f2 + 1))) == 93)) (by kernel_rfl) (fun u_ => ?_)
                  exact class_reader_escape.j0.ok K a0b a0T a0 w r b758 b767 HR  ((bt a0.f0 (W (a0.f2 + 1))) == 93) u_ w796 k798 hb799 hb800 hb801 g761 g771 n760 n769 n770 H
                · intro h_
                  have h806 : ¬ ((bt a0.f0 (W (a0.f2 + 1))) = 93) := by simpa using h_
                  clear h_
                  rw [if_neg h806] at H
                  refine w_seq (p := [1, 1, 1, 1, 0, 1, 0, 1, 1, 1, 1, 1, 1, 0, 1, 1, 1, 1]) (p0 := [1, 1, 1, 1, 0, 1, 0, 1, 1, 1, 1, 1, 1, 0, 1, 1, 1, 1, 0]) (p1 := [1, 1, 1, 1, 0, 1, 0, 1, 1, 1, 1, 1, 1, 0, 1, 1, 1, 1, 1]) (by kernel_rfl) ?_
                  refine w_region (p := [1, 1, 1, 1, 0, 1, 0, 1, 1, 1, 1, 1, 1, 0, 1, 1, 1, 1, 0]) (id := 15) (by kernel_rfl) ?_
                  refine r_vals 0 2 [.bool ((bt a0.f0 (W (a0.f2 + 1))) == 45), .bool ((bt a0.f0 (W (a0.f2 + 1))) == 45)] (by kernel_rfl) (by kernel_rfl) ?_
                  refine r_fin 2 (by kernel_rfl) ?_
                  refine q_then ?_
                  refine w_cond (p := [1, 1, 1, 1, 0, 1, 0, 1, 1, 1, 1, 1, 1, 0, 1, 1, 1, 1, 1]) (p0 := [1, 1, 1, 1, 0, 1, 0, 1, 1, 1, 1, 1, 1, 0, 1, 1, 1, 1, 1, 0]) (p1 := [1, 1, 1, 1, 0, 1, 0, 1, 1, 1, 1, 1, 1, 0, 1, 1, 1, 1, 1, 1]) (c := (Operand.tmp 43)) (b := (bt a0.f0 (W (a0.f2 + 1))) == 45) (by kernel_rfl) (by kernel_rfl) ?_ ?_
                  · intro h_
                    have h807 : (bt a0.f0 (W (a0.f2 + 1))) = 45 := by simpa using h_
                    clear h_
                    rw [if_pos h807] at H
                    refine w_skip (p := [1, 1, 1, 1, 0, 1, 0, 1, 1, 1, 1, 1, 1, 0, 1, 1, 1, 1, 1, 0]) (by kernel_rfl) ?_
                    refine q_then ?_
                    refine w_into (class_reader_escape.j0F a0b b758 b767 a0 ((bt a0.f0 (W (a0.f2 + 1))) == 45)) (by kernel_rfl) (fun u_ => ?_)
                    exact class_reader_escape.j0.ok K a0b a0T a0 w r b758 b767 HR  ((bt a0.f0 (W (a0.f2 + 1))) == 45) u_ w796 k798 hb799 hb800 hb801 g761 g771 n760 n769 n770 H
                  · intro h_
                    have h807 : ¬ ((bt a0.f0 (W (a0.f2 + 1))) = 45) := by simpa using h_
                    clear h_
                    rw [if_neg h807] at H
                    refine w_seq (p := [1, 1, 1, 1, 0, 1, 0, 1, 1, 1, 1, 1, 1, 0, 1, 1, 1, 1, 1, 1]) (p0 := [1, 1, 1, 1, 0, 1, 0, 1, 1, 1, 1, 1, 1, 0, 1, 1, 1, 1, 1, 1, 0]) (p1 := [1, 1, 1, 1, 0, 1, 0, 1, 1, 1, 1, 1, 1, 0, 1, 1, 1, 1, 1, 1, 1]) (by kernel_rfl) ?_
                    refine w_region (p := [1, 1, 1, 1, 0, 1, 0, 1, 1, 1, 1, 1, 1, 0, 1, 1, 1, 1, 1, 1, 0]) (id := 16) (by kernel_rfl) ?_
                    refine r_vals 0 2 [.bool ((bt a0.f0 (W (a0.f2 + 1))) == 94), .bool ((bt a0.f0 (W (a0.f2 + 1))) == 94)] (by kernel_rfl) (by kernel_rfl) ?_
                    refine r_fin 2 (by kernel_rfl) ?_
                    refine q_then ?_
                    refine w_cond (p := [1, 1, 1, 1, 0, 1, 0, 1, 1, 1, 1, 1, 1, 0, 1, 1, 1, 1, 1, 1, 1]) (p0 := [1, 1, 1, 1, 0, 1, 0, 1, 1, 1, 1, 1, 1, 0, 1, 1, 1, 1, 1, 1, 1, 0]) (p1 := [1, 1, 1, 1, 0, 1, 0, 1, 1, 1, 1, 1, 1, 0, 1, 1, 1, 1, 1, 1, 1, 1]) (c := (Operand.tmp 43)) (b := (bt a0.f0 (W (a0.f2 + 1))) == 94) (by kernel_rfl) (by kernel_rfl) ?_ ?_
                    · intro h_
                      have h808 : (bt a0.f0 (W (a0.f2 + 1))) = 94 := by simpa using h_
                      clear h_
                      rw [if_pos h808] at H
                      refine w_skip (p := [1, 1, 1, 1, 0, 1, 0, 1, 1, 1, 1, 1, 1, 0, 1, 1, 1, 1, 1, 1, 1, 0]) (by kernel_rfl) ?_
                      refine q_then ?_
                      refine w_into (class_reader_escape.j0F a0b b758 b767 a0 ((bt a0.f0 (W (a0.f2 + 1))) == 94)) (by kernel_rfl) (fun u_ => ?_)
                      exact class_reader_escape.j0.ok K a0b a0T a0 w r b758 b767 HR  ((bt a0.f0 (W (a0.f2 + 1))) == 94) u_ w796 k798 hb799 hb800 hb801 g761 g771 n760 n769 n770 H
                    · intro h_
                      have h808 : ¬ ((bt a0.f0 (W (a0.f2 + 1))) = 94) := by simpa using h_
                      clear h_
                      rw [if_neg h808] at H
                      refine w_seq (p := [1, 1, 1, 1, 0, 1, 0, 1, 1, 1, 1, 1, 1, 0, 1, 1, 1, 1, 1, 1, 1, 1]) (p0 := [1, 1, 1, 1, 0, 1, 0, 1, 1, 1, 1, 1, 1, 0, 1, 1, 1, 1, 1, 1, 1, 1, 0]) (p1 := [1, 1, 1, 1, 0, 1, 0, 1, 1, 1, 1, 1, 1, 0, 1, 1, 1, 1, 1, 1, 1, 1, 1]) (by kernel_rfl) ?_
                      refine w_region (p := [1, 1, 1, 1, 0, 1, 0, 1, 1, 1, 1, 1, 1, 0, 1, 1, 1, 1, 1, 1, 1, 1, 0]) (id := 17) (by kernel_rfl) ?_
                      refine r_vals 0 2 [.bool ((bt a0.f0 (W (a0.f2 + 1))) == 39), .bool ((bt a0.f0 (W (a0.f2 + 1))) == 39)] (by kernel_rfl) (by kernel_rfl) ?_
                      refine r_fin 2 (by kernel_rfl) ?_
                      refine q_then ?_
                      refine w_cond (p := [1, 1, 1, 1, 0, 1, 0, 1, 1, 1, 1, 1, 1, 0, 1, 1, 1, 1, 1, 1, 1, 1, 1]) (p0 := [1, 1, 1, 1, 0, 1, 0, 1, 1, 1, 1, 1, 1, 0, 1, 1, 1, 1, 1, 1, 1, 1, 1, 0]) (p1 := [1, 1, 1, 1, 0, 1, 0, 1, 1, 1, 1, 1, 1, 0, 1, 1, 1, 1, 1, 1, 1, 1, 1, 1]) (c := (Operand.tmp 43)) (b := (bt a0.f0 (W (a0.f2 + 1))) == 39) (by kernel_rfl) (by kernel_rfl) ?_ ?_
                      · intro h_
                        have h809 : (bt a0.f0 (W (a0.f2 + 1))) = 39 := by simpa using h_
                        clear h_
                        rw [if_pos h809] at H
                        refine w_skip (p := [1, 1, 1, 1, 0, 1, 0, 1, 1, 1, 1, 1, 1, 0, 1, 1, 1, 1, 1, 1, 1, 1, 1, 0]) (by kernel_rfl) ?_
                        refine q_then ?_
                        refine w_into (class_reader_escape.j0F a0b b758 b767 a0 ((bt a0.f0 (W (a0.f2 + 1))) == 39)) (by kernel_rfl) (fun u_ => ?_)
                        exact class_reader_escape.j0.ok K a0b a0T a0 w r b758 b767 HR  ((bt a0.f0 (W (a0.f2 + 1))) == 39) u_ w796 k798 hb799 hb800 hb801 g761 g771 n760 n769 n770 H
                      · intro h_
                        have h809 : ¬ ((bt a0.f0 (W (a0.f2 + 1))) = 39) := by simpa using h_
                        clear h_
                        rw [if_neg h809] at H
                        refine w_region (p := [1, 1, 1, 1, 0, 1, 0, 1, 1, 1, 1, 1, 1, 0, 1, 1, 1, 1, 1, 1, 1, 1, 1, 1]) (id := 18) (by kernel_rfl) ?_
                        refine r_vals 0 2 [.bool ((bt a0.f0 (W (a0.f2 + 1))) == 34), .bool ((bt a0.f0 (W (a0.f2 + 1))) == 34)] (by kernel_rfl) (by kernel_rfl) ?_
                        refine r_fin 2 (by kernel_rfl) ?_
                        refine q_then ?_
                        refine w_into (class_reader_escape.j0F a0b b758 b767 a0 ((bt a0.f0 (W (a0.f2 + 1))) == 34)) (by kernel_rfl) (fun u_ => ?_)
                        exact class_reader_escape.j0.ok K a0b a0T a0 w r b758 b767 HR  ((bt a0.f0 (W (a0.f2 + 1))) == 34) u_ w796 k798 hb799 hb800 hb801 g761 g771 n760 n769 n770 H
      · rw [if_neg h795] at H
        cases H
    · rw [if_neg h794] at H
      cases H
/-! ### (*dowel/class.reader).byte -/
def class_reader_byte.j0F (a0b : Nat) (b898 : Nat) (a0 : Tclass_reader) (x942 : Bool) (u_ : Nat → Value) : Array Value := #[.pointer (some ⟨a0b, 0, none⟩), u_ 1, u_ 2, .pointer (some ⟨b898, 0, none⟩), .int .u8 (bt a0.f0 a0.f2), u_ 5, u_ 6, u_ 7, u_ 8, u_ 9, u_ 10, u_ 11, u_ 12, u_ 13, u_ 14, u_ 15, u_ 16, u_ 17, u_ 18, u_ 19, u_ 20, u_ 21, u_ 22, u_ 23, u_ 24, u_ 25, u_ 26, u_ 27, u_ 28, u_ 29, u_ 30, u_ 31, u_ 32, u_ 33, u_ 34, u_ 35, .bool x942, u_ 37, u_ 38, u_ 39, u_ 40, u_ 41, u_ 42, u_ 43, u_ 44, u_ 45, u_ 46, u_ 47, u_ 48, u_ 49, u_ 50, u_ 51, u_ 52, u_ 53, u_ 54, u_ 55, u_ 56, u_ 57, u_ 58, u_ 59, u_ 60, u_ 61, u_ 62, u_ 63, u_ 64, u_ 65, u_ 66, u_ 67, u_ 68]
def class_reader_byte.j0 (a0 : Tclass_reader) (x942 : Bool) : Option (Int × Tapi_Fault × Tclass_reader) := if x942 = true then (some (0, (⟨a0.f2, 30⟩ : Tapi_Fault), a0)) else (some (bt a0.f0 a0.f2, zapi_Fault, (⟨a0.f0, a0.f1, W (a0.f2 + 1)⟩ : Tclass_reader)))
def class_reader_byte.f (K : Nat) (a0 : Tclass_reader) : Option (Int × Tapi_Fault × Tclass_reader) := if a0.f2 ≥ (a0.f0.size : Int) then (some (0, (⟨a0.f1, 41⟩ : Tapi_Fault), a0)) else (if 0 ≤ a0.f2 then (if a0.f2 < (a0.f0.size : Int) then (if (bt a0.f0 a0.f2) = 92 then ((class_reader_escape.f K a0).bind fun t923 => (some (t923.1, t923.2.1, t923.2.2))) else (if (bt a0.f0 a0.f2) < 32 then (class_reader_byte.j0 a0 true) else (if (bt a0.f0 a0.f2) > 126 then (class_reader_byte.j0 a0 true) else (if (bt a0.f0 a0.f2) = 93 then (class_reader_byte.j0 a0 true) else (if (bt a0.f0 a0.f2) = 45 then (class_reader_byte.j0 a0 true) else (class_reader_byte.j0 a0 ((bt a0.f0 a0.f2) == 94))))))) else none) else none)
def class_reader_byte.R (a0b a0T : Nat) (r : Int × Tapi_Fault × Tclass_reader) (w : World) : Ending → World → Prop := fun e w' => e = .returned (.tuple #[.int .u8 r.1, .agg #[.int .i64 r.2.1.f0, .int .i64 r.2.1.f1]]) ∧ Kp (One a0b) w w' ∧ Blk w' a0b #[.string r.2.2.f0, .int .i64 r.2.2.f1, .int .i64 r.2.2.f2] a0T
set_option maxRecDepth 20000 in
set_option maxHeartbeats 4000000 in
theorem class_reader_byte.j0.ok (K : Nat) (a0b : Nat) (a0T : Nat) (a0 : Tclass_reader) (w : World) (r : Int × Tapi_Fault × Tclass_reader) {Q : Exit → Act → World → Prop} (b898 : Nat) (HR : ∀ a w', bodyPost Try.prog Try.f114 (class_reader_byte.R a0b a0T r w) .ret a w' → Q .ret a w')  (x942 : Bool) (u941 : Nat → Value) (w939 : World) (k940 : Kp (One a0b) w w939) (hb943 : Blk w939 a0b #[.string a0.f0, .int .i64 a0.f1, .int .i64 a0.f2] a0T) (hb944 : Blk w939 b898 #[.int .i64 0, .int .i64 0] 65) (ghb944 : w.heap.size ≤ b898) (nhb943hb944 : a0b ≠ b898) (H : class_reader_byte.j0 a0 x942 = some r) : (cd Try.f114 [1, 1, 1, 0, 0, 1, 1, 1]).wp Try.prog (Exit.inBlock 0 (Exit.then (fun a w => (cd Try.f114 [1, 1, 1, 1]).wp Try.prog Q a w) Q)) ⟨class_reader_byte.j0F a0b b898 a0 x942 u941, []⟩ w939 := by
  unfold class_reader_byte.j0 at H
  refine w_cond (p := [1, 1, 1, 0, 0, 1, 1, 1]) (p0 := [1, 1, 1, 0, 0, 1, 1, 1, 0]) (p1 := [1, 1, 1, 0, 0, 1, 1, 1, 1]) (c := (Operand.tmp 36)) (b := x942) (by kernel_rfl) (by kernel_rfl) ?_ ?_
  · intro h_
    have h945 : x942 = true := h_
    clear h_
    rw [if_pos h945] at H
    refine w_seq (p := [1, 1, 1, 0, 0, 1, 1, 1, 0]) (p0 := [1, 1, 1, 0, 0, 1, 1, 1, 0, 0]) (p1 := [1, 1, 1, 0, 0, 1, 1, 1, 0, 1]) (by kernel_rfl) ?_
    refine w_drawk (p := [1, 1, 1, 0, 0, 1, 1, 1, 0, 0]) (id := 7) (by kernel_rfl) (by kernel_rfl) [0, 1, 3, 7, 15, 0, 63] 7 (by kernel_rfl) (J := (fun b_ w_ => Kp (fun k => k = b898) w939 w_ ∧ Blk w_ b898 (if b_ 6 = true then #[.int .i64 a0.f2, .int .i64 30] else #[.int .i64 0, .int .i64 0]) 65)) (fun w_ h1 h2 h3 h4 => ⟨Kp.same h1 h2 h3 h4, by simpa using hb944.same h1⟩) ?_
    refine k_pure 3 [.pointer (some ⟨a0b, 0, none⟩), .pointer (some ⟨a0b, 0, none⟩), .pointer (some ⟨a0b, 2, none⟩)] (by kernel_rfl) (fun _ => by kernel_rfl) (fun k h1 h2 b w h => by simpa [up, show ¬ (6 = k) by omega] using h) ?_
    refine k_op (.int .i64 a0.f2) (by kernel_rfl) (fun b_ w_ hJ hb_ hd_ he_ => og_load (T := 3) (x := (Operand.tmp 57)) (b := a0b) (off := 2) (.int .i64 a0.f2) (by kernel_rfl) (by kernel_rfl) (Blk.kp hb943 hJ.1 nhb943hb944) (by kernel_rfl) ⟨rfl, by simpa [up] using hJ⟩) ?_
    refine k_pure 6 [.agg #[.int .i64 a0.f2, .int .i64 30], .int .u8 0] (by kernel_rfl) (fun _ => by kernel_rfl) (fun k h1 h2 b w h => by simpa [up, show ¬ (6 = k) by omega] using h) ?_
    refine k_op (undef) (by kernel_rfl) (fun b_ w_ hJ hb_ hd_ he_ => og_store (T := 65) (x := (Operand.tmp 3)) (y := (Operand.tmp 59)) (b := b898) (off := 0) (.agg #[.int .i64 a0.f2, .int .i64 30]) (by kernel_rfl) (by kernel_rfl) (by kernel_rfl) (by have h_ := hJ.2; rw [if_neg (by rw [hb_]; decide)] at h_; exact h_) (cs' := #[.int .i64 a0.f2, .int .i64 30]) (by kernel_rfl) (fun w2_ h2_ k2_ _ => ⟨rfl, Kp.trans hJ.1 k2_ (fun x hx => .inl (by rw [show x = _ from hx] <;> simp)), by rw [if_pos (by simp [up])]; exact h2_⟩)) ?_
    refine k_nil ?_
    rintro b_ w946 hall_ k_
    obtain ⟨k947, hb948⟩ := k_
    rw [if_pos (hall_ 6 (by decide))] at hb948
    have k949 := Kp.trans k940 k947 (fun x hx => by rcases hx with rfl <;> first | exact .inr ghb944)
    have hb950 := Blk.kp hb943 k947 nhb943hb944
    refine r_fin 7 (by kernel_rfl) ?_
    refine q_then ?_
    refine w_ret (p := [1, 1, 1, 0, 0, 1, 1, 1, 0, 1]) (by kernel_rfl) ?_
    refine q_in_r ?_
    refine q_then_r ?_
    obtain rfl := Option.some.inj H
    refine HR _ _ (body_ret (vs := [.int .u8 0, .agg #[.int .i64 a0.f2, .int .i64 30]]) (rv_tmp (by kernel_rfl) (rv_cell (off := 0) (v := .agg #[.int .i64 a0.f2, .int .i64 30]) (by kernel_rfl) hb948 (by kernel_rfl) rfl)) rfl ?_)
    exact ⟨rfl, k949, hb950⟩
  · intro h_
    have h945 : ¬ (x942 = true) := by rw [h_]; decide
    clear h_
    rw [if_neg h945] at H
    refine w_skip (p := [1, 1, 1, 0, 0, 1, 1, 1, 1]) (by kernel_rfl) ?_
    refine q_in ?_
    refine q_then ?_
    refine w_seq (p := [1, 1, 1, 1]) (p0 := [1, 1, 1, 1, 0]) (p1 := [1, 1, 1, 1, 1]) (by kernel_rfl) ?_
    refine w_region (p := [1, 1, 1, 1, 0]) (id := 8) (by kernel_rfl) ?_
    refine r_vals 0 3 [.pointer (some ⟨a0b, 0, none⟩), .pointer (some ⟨a0b, 0, none⟩), .pointer (some ⟨a0b, 2, none⟩)] (by kernel_rfl) (by kernel_rfl) ?_
    refine r_do 3 (by kernel_rfl) (og_load (T := 3) (x := (Operand.tmp 62)) (b := a0b) (off := 2) (.int .i64 a0.f2) (by kernel_rfl) (by kernel_rfl) hb943 (by kernel_rfl) ?_) 
    refine r_vals 4 7 [.int .i64 (W (a0.f2 + 1)), .pointer (some ⟨a0b, 0, none⟩), .pointer (some ⟨a0b, 2, none⟩)] (by kernel_rfl) (by kernel_rfl) ?_
    refine r_do 7 (by kernel_rfl) (og_store (T := 3) (x := (Operand.tmp 66)) (y := (Operand.tmp 64)) (b := a0b) (off := 2) (.int .i64 (W (a0.f2 + 1))) (by kernel_rfl) (by kernel_rfl) (by kernel_rfl) hb943 (cs' := #[.string a0.f0, .int .i64 a0.f1, .int .i64 (W (a0.f2 + 1))]) (by kernel_rfl) ?_) 
    intro w952 hb951 k953 _
    have k954 := Kp.trans k940 k953 (fun x hx => .inl hx)
    have hb955 := Blk.kp hb944 k953 (show ¬ (b898 = a0b) from (Ne.symm nhb943hb944))
    refine r_fin 8 (by kernel_rfl) ?_
    refine q_then ?_
    refine w_seq (p := [1, 1, 1, 1, 1]) (p0 := [1, 1, 1, 1, 1, 0]) (p1 := [1, 1, 1, 1, 1, 1]) (by kernel_rfl) ?_
    refine w_region (p := [1, 1, 1, 1, 1, 0]) (id := 9) (by kernel_rfl) ?_
    refine r_vals 0 3 [.int .u8 (bt a0.f0 a0.f2), .agg #[.int .i64 0, .int .i64 0], .int .u8 (bt a0.f0 a0.f2)] (by kernel_rfl) (by kernel_rfl) ?_
    refine r_do 3 (by kernel_rfl) (og_store (T := 65) (x := (Operand.tmp 3)) (y := (Operand.tmp 68)) (b := b898) (off := 0) (.agg #[.int .i64 0, .int .i64 0]) (by kernel_rfl) (by kernel_rfl) (by kernel_rfl) hb955 (cs' := #[.int .i64 0, .int .i64 0]) (by kernel_rfl) ?_) 
    intro w957 hb956 k958 _
    have k959 := Kp.trans k954 k958 (fun x hx => .inr (by rw [show x = _ from hx]; exact ghb944))
    have hb960 := Blk.kp hb951 k958 (show ¬ (a0b = b898) from nhb943hb944)
    refine r_fin 4 (by kernel_rfl) ?_
    refine q_then ?_
    refine w_ret (p := [1, 1, 1, 1, 1, 1]) (by kernel_rfl) ?_
    obtain rfl := Option.some.inj H
    refine HR _ _ (body_ret (vs := [.int .u8 (bt a0.f0 a0.f2), .agg #[.int .i64 0, .int .i64 0]]) (rv_tmp (by kernel_rfl) (rv_cell (off := 0) (v := .agg #[.int .i64 0, .int .i64 0]) (by kernel_rfl) hb956 (by kernel_rfl) rfl)) rfl ?_)
    exact ⟨rfl, k959, hb960⟩
set_option maxRecDepth 20000 in
set_option maxHeartbeats 4000000 in
theorem class_reader_byte.ok (K : Nat) (a0b : Nat) (a0T : Nat) (a0 : Tclass_reader) (w : World) (a0h : Blk w a0b #[.string a0.f0, .int .i64 a0.f1, .int .i64 a0.f2] a0T) (r : Int × Tapi_Fault × Tclass_reader) (H : class_reader_byte.f K a0 = some r) : Calls Try.prog 114 #[.pointer (some ⟨a0b, 0, none⟩)] w (class_reader_byte.R a0b a0T r w) := by
  refine calls_cd (t := #[.pointer (some ⟨a0b, 0, none⟩), undef, undef, undef, undef, undef, undef, undef, undef, undef, undef, undef, undef, undef, undef, undef, undef, undef, undef, undef, undef, undef, undef, undef, undef, undef, undef, undef, undef, undef, undef, undef, undef, undef, undef, undef, undef, undef, undef, undef, undef, undef, undef, undef, undef, undef, undef, undef, undef, undef, undef, undef, undef, undef, undef, undef, undef, undef, undef, undef, undef, undef, undef, undef, undef, undef, undef, undef, undef]) Try.func114 (by kernel_rfl) (by kernel_rfl) ?_
  unfold class_reader_byte.f at H
  have HR : ∀ a w', bodyPost Try.prog Try.f114 (class_reader_byte.R a0b a0T r w) .ret a w' → bodyPost Try.prog Try.f114 (class_reader_byte.R a0b a0T r w) .ret a w' := fun _ _ h => h
  refine w_seq (p := []) (p0 := [0]) (p1 := [1]) (by kernel_rfl) ?_
  refine w_region (p := [0]) (id := 0) (by kernel_rfl) ?_
  refine r_vals 0 1 [.int .u8 0] (by kernel_rfl) (by kernel_rfl) ?_
  refine r_do 1 (by kernel_rfl) (og_alloc (T := 65) (cs := #[.int .i64 0, .int .i64 0]) (by kernel_rfl) (by kernel_rfl) ?_) 
  intro b898 w895 e899 hb897 k896
  have n900 : a0b ≠ b898 := by rw [e899]; exact Nat.ne_of_lt a0h.lt
  have g901 : w.heap.size ≤ b898 := by rw [e899]; exact Kp.size (Kp.refl (One a0b) w)
  clear e899
  have k902 := Kp.trans (Kp.refl (One a0b) w) k896 (fun _ h => h.elim)
  have hb903 := Blk.kp a0h k896 id
  refine r_fin 2 (by kernel_rfl) ?_
  refine q_then ?_
  refine w_seq (p := [1]) (p0 := [1, 0]) (p1 := [1, 1]) (by kernel_rfl) ?_
  refine w_seq (p := [1, 0]) (p0 := [1, 0, 0]) (p1 := [1, 0, 1]) (by kernel_rfl) ?_
  refine w_drawk (p := [1, 0, 0]) (id := 1) (by kernel_rfl) (by kernel_rfl) [0, 1, 3, 7, 0, 16, 48, 112, 240, 511] 10 (by kernel_rfl) (J := (fun _ w_ => Kp No w895 w_)) (fun w_ h1 h2 h3 h4 => Kp.same h1 h2 h3 h4) ?_
  refine k_pure 3 [.pointer (some ⟨a0b, 0, none⟩), .pointer (some ⟨a0b, 0, none⟩), .pointer (some ⟨a0b, 2, none⟩)] (by kernel_rfl) (fun _ => by kernel_rfl) (fun _ _ _ _ _ h => h) ?_
  refine k_op (.int .i64 a0.f2) (by kernel_rfl) (fun b_ w_ hJ hb_ hd_ he_ => og_load (T := 3) (x := (Operand.tmp 7)) (b := a0b) (off := 2) (.int .i64 a0.f2) (by kernel_rfl) (by kernel_rfl) (Blk.kp hb903 hJ id) (by kernel_rfl) ⟨rfl, hJ⟩) ?_
  refine k_pure 7 [.pointer (some ⟨a0b, 0, none⟩), .pointer (some ⟨a0b, 0, none⟩), .pointer (some ⟨a0b, 0, none⟩)] (by kernel_rfl) (fun _ => by kernel_rfl) (fun _ _ _ _ _ h => h) ?_
  refine k_op (.string a0.f0) (by kernel_rfl) (fun b_ w_ hJ hb_ hd_ he_ => og_load (T := 9) (x := (Operand.tmp 11)) (b := a0b) (off := 0) (.string a0.f0) (by kernel_rfl) (by kernel_rfl) (Blk.kp hb903 hJ id) (by kernel_rfl) ⟨rfl, hJ⟩) ?_
  refine k_pure 10 [.int .i64 (a0.f0.size : Int), .bool (decide (a0.f2 ≥ (a0.f0.size : Int)))] (by kernel_rfl) (fun _ => by kernel_rfl) (fun _ _ _ _ _ h => h) ?_
  refine k_nil ?_
  rintro b_ w904 hall_ k_
  have k905 := k_
  have k906 := Kp.trans k902 k905 (fun _ h => h.elim)
  have hb907 := Blk.kp hb903 k905 id
  have hb908 := Blk.kp hb897 k905 id
  refine r_fin 10 (by kernel_rfl) ?_
  refine q_then ?_
  refine w_cond (p := [1, 0, 1]) (p0 := [1, 0, 1, 0]) (p1 := [1, 0, 1, 1]) (c := (Operand.tmp 14)) (b := decide (a0.f2 ≥ (a0.f0.size : Int))) (by kernel_rfl) (by kernel_rfl) ?_ ?_
  · intro h_
    have h909 : a0.f2 ≥ (a0.f0.size : Int) := by simpa using h_
    clear h_
    rw [if_pos h909] at H
    refine w_seq (p := [1, 0, 1, 0]) (p0 := [1, 0, 1, 0, 0]) (p1 := [1, 0, 1, 0, 1]) (by kernel_rfl) ?_
    refine w_drawk (p := [1, 0, 1, 0, 0]) (id := 2) (by kernel_rfl) (by kernel_rfl) [0, 1, 3, 7, 15, 0, 63] 7 (by kernel_rfl) (J := (fun b_ w_ => Kp (fun k => k = b898) w904 w_ ∧ Blk w_ b898 (if b_ 6 = true then #[.int .i64 a0.f1, .int .i64 41] else #[.int .i64 0, .int .i64 0]) 65)) (fun w_ h1 h2 h3 h4 => ⟨Kp.same h1 h2 h3 h4, by simpa using hb908.same h1⟩) ?_
    refine k_pure 3 [.pointer (some ⟨a0b, 0, none⟩), .pointer (some ⟨a0b, 0, none⟩), .pointer (some ⟨a0b, 1, none⟩)] (by kernel_rfl) (fun _ => by kernel_rfl) (fun k h1 h2 b w h => by simpa [up, show ¬ (6 = k) by omega] using h) ?_
    refine k_op (.int .i64 a0.f1) (by kernel_rfl) (fun b_ w_ hJ hb_ hd_ he_ => og_load (T := 3) (x := (Operand.tmp 17)) (b := a0b) (off := 1) (.int .i64 a0.f1) (by kernel_rfl) (by kernel_rfl) (Blk.kp hb907 hJ.1 n900) (by kernel_rfl) ⟨rfl, by simpa [up] using hJ⟩) ?_
    refine k_pure 6 [.agg #[.int .i64 a0.f1, .int .i64 41], .int .u8 0] (by kernel_rfl) (fun _ => by kernel_rfl) (fun k h1 h2 b w h => by simpa [up, show ¬ (6 = k) by omega] using h) ?_
    refine k_op (undef) (by kernel_rfl) (fun b_ w_ hJ hb_ hd_ he_ => og_store (T := 65) (x := (Operand.tmp 3)) (y := (Operand.tmp 19)) (b := b898) (off := 0) (.agg #[.int .i64 a0.f1, .int .i64 41]) (by kernel_rfl) (by kernel_rfl) (by kernel_rfl) (by have h_ := hJ.2; rw [if_neg (by rw [hb_]; decide)] at h_; exact h_) (cs' := #[.int .i64 a0.f1, .int .i64 41]) (by kernel_rfl) (fun w2_ h2_ k2_ _ => ⟨rfl, Kp.trans hJ.1 k2_ (fun x hx => .inl (by rw [show x = _ from hx] <;> simp)), by rw [if_pos (by simp [up])]; exact h2_⟩)) ?_
    refine k_nil ?_
    rintro b_ w910 hall_ k_
    obtain ⟨k911, hb912⟩ := k_
    rw [if_pos (hall_ 6 (by decide))] at hb912
    have k913 := Kp.trans k906 k911 (fun x hx => by rcases hx with rfl <;> first | exact .inr g901)
    have hb914 := Blk.kp hb907 k911 n900
    refine r_fin 7 (by kernel_rfl) ?_
    refine q_then ?_
    refine w_ret (p := [1, 0, 1, 0, 1]) (by kernel_rfl) ?_
    refine q_then_r ?_
    obtain rfl := Option.some.inj H
    refine HR _ _ (body_ret (vs := [.int .u8 0, .agg #[.int .i64 a0.f1, .int .i64 41]]) (rv_tmp (by kernel_rfl) (rv_cell (off := 0) (v := .agg #[.int .i64 a0.f1, .int .i64 41]) (by kernel_rfl) hb912 (by kernel_rfl) rfl)) rfl ?_)
    exact ⟨rfl, k913, hb914⟩
  · intro h_
    have h909 : ¬ (a0.f2 ≥ (a0.f0.size : Int)) := by simpa using h_
    clear h_
    rw [if_neg h909] at H
    refine w_skip (p := [1, 0, 1, 1]) (by kernel_rfl) ?_
    refine q_then ?_
    refine w_seq (p := [1, 1]) (p0 := [1, 1, 0]) (p1 := [1, 1, 1]) (by kernel_rfl) ?_
    refine p_split (0 ≤ a0.f2) (fun h915 => ?_) (fun h915 => ?_)
    · rw [if_pos h915] at H
      refine p_split (a0.f2 < (a0.f0.size : Int)) (fun h916 => ?_) (fun h916 => ?_)
      · rw [if_pos h916] at H
        refine w_drawk (p := [1, 1, 0]) (id := 3) (by kernel_rfl) (by kernel_rfl) [0, 1, 3, 7, 0, 16, 48, 112, 255, 511] 10 (by kernel_rfl) (J := (fun _ w_ => Kp No w904 w_)) (fun w_ h1 h2 h3 h4 => Kp.same h1 h2 h3 h4) ?_
        refine k_pure 3 [.pointer (some ⟨a0b, 0, none⟩), .pointer (some ⟨a0b, 0, none⟩), .pointer (some ⟨a0b, 0, none⟩)] (by kernel_rfl) (fun _ => by kernel_rfl) (fun _ _ _ _ _ h => h) ?_
        refine k_op (.string a0.f0) (by kernel_rfl) (fun b_ w_ hJ hb_ hd_ he_ => og_load (T := 9) (x := (Operand.tmp 22)) (b := a0b) (off := 0) (.string a0.f0) (by kernel_rfl) (by kernel_rfl) (Blk.kp hb907 hJ id) (by kernel_rfl) ⟨rfl, hJ⟩) ?_
        refine k_pure 7 [.pointer (some ⟨a0b, 0, none⟩), .pointer (some ⟨a0b, 0, none⟩), .pointer (some ⟨a0b, 2, none⟩)] (by kernel_rfl) (fun _ => by kernel_rfl) (fun _ _ _ _ _ h => h) ?_
        refine k_op (.int .i64 a0.f2) (by kernel_rfl) (fun b_ w_ hJ hb_ hd_ he_ => og_load (T := 3) (x := (Operand.tmp 26)) (b := a0b) (off := 2) (.int .i64 a0.f2) (by kernel_rfl) (by kernel_rfl) (Blk.kp hb907 hJ id) (by kernel_rfl) ⟨rfl, hJ⟩) ?_
        refine k_op (.int .u8 (bt a0.f0 a0.f2)) (by kernel_rfl) (fun b_ w_ hJ hb_ hd_ he_ => og_sindex (T := 9) (x := (Operand.tmp 23)) (y := (Operand.tmp 27)) (k := .i64) (by kernel_rfl) (by kernel_rfl) (by kernel_rfl) (by kernel_rfl) h915 h916 ⟨rfl, hJ⟩) ?_
        refine k_pure 10 [.int .u8 (bt a0.f0 a0.f2)] (by kernel_rfl) (fun _ => by kernel_rfl) (fun _ _ _ _ _ h => h) ?_
        refine k_nil ?_
        rintro b_ w917 hall_ k_
        have k918 := k_
        have k919 := Kp.trans k906 k918 (fun _ h => h.elim)
        have hb920 := Blk.kp hb907 k918 id
        have hb921 := Blk.kp hb908 k918 id
        refine r_fin 10 (by kernel_rfl) ?_
        refine q_then ?_
        refine w_seq (p := [1, 1, 1]) (p0 := [1, 1, 1, 0]) (p1 := [1, 1, 1, 1]) (by kernel_rfl) ?_
        refine w_block (p := [1, 1, 1, 0]) (p0 := [1, 1, 1, 0, 0]) (id := 0) (by kernel_rfl) ?_
        refine w_seq (p := [1, 1, 1, 0, 0]) (p0 := [1, 1, 1, 0, 0, 0]) (p1 := [1, 1, 1, 0, 0, 1]) (by kernel_rfl) ?_
        refine w_region (p := [1, 1, 1, 0, 0, 0]) (id := 4) (by kernel_rfl) ?_
        refine r_vals 0 3 [.int .u8 (bt a0.f0 a0.f2), .bool ((bt a0.f0 a0.f2) == 92), .bool ((bt a0.f0 a0.f2) == 92)] (by kernel_rfl) (by kernel_rfl) ?_
        refine r_fin 3 (by kernel_rfl) ?_
        refine q_then ?_
        refine w_cond (p := [1, 1, 1, 0, 0, 1]) (p0 := [1, 1, 1, 0, 0, 1, 0]) (p1 := [1, 1, 1, 0, 0, 1, 1]) (c := (Operand.tmp 29)) (b := (bt a0.f0 a0.f2) == 92) (by kernel_rfl) (by kernel_rfl) ?_ ?_
        · intro h_
          have h922 : (bt a0.f0 a0.f2) = 92 := by simpa using h_
          clear h_
          rw [if_pos h922] at H
          refine w_seq (p := [1, 1, 1, 0, 0, 1, 0]) (p0 := [1, 1, 1, 0, 0, 1, 0, 0]) (p1 := [1, 1, 1, 0, 0, 1, 0, 1]) (by kernel_rfl) ?_
          refine w_region (p := [1, 1, 1, 0, 0, 1, 0, 0]) (id := 5) (by kernel_rfl) ?_
          refine r_vals 0 1 [.pointer (some ⟨a0b, 0, none⟩)] (by kernel_rfl) (by kernel_rfl) ?_
          obtain ⟨t923, ht924, H⟩ := Option.bind_eq_some_iff.1 H
          refine r_do 1 (by kernel_rfl) (og_call (g := 145) (av := #[.pointer (some ⟨a0b, 0, none⟩)]) (by kernel_rfl) ?_) 
          refine (class_reader_escape.ok K a0b a0T a0 w917 hb920 t923 ht924).mono ?_
          rintro e w925 ⟨rfl, k926, hb927⟩
          refine ⟨_, rfl, ?_⟩
          have k928 := Kp.trans k919 k926 (fun x hx => .inl hx)
          have hb929 := Blk.kp hb921 k926 (show ¬ (b898 = a0b) from (Ne.symm n900))
          refine r_vals 2 5 [.int .u8 t923.1, .agg #[.int .i64 t923.2.1.f0, .int .i64 t923.2.1.f1], .int .u8 t923.1] (by kernel_rfl) (by kernel_rfl) ?_
          refine r_do 5 (by kernel_rfl) (og_store (T := 65) (x := (Operand.tmp 3)) (y := (Operand.tmp 35)) (b := b898) (off := 0) (.agg #[.int .i64 t923.2.1.f0, .int .i64 t923.2.1.f1]) (by kernel_rfl) (by kernel_rfl) (by kernel_rfl) hb929 (cs' := #[.int .i64 t923.2.1.f0, .int .i64 t923.2.1.f1]) (by kernel_rfl) ?_) 
          intro w931 hb930 k932 _
          have k933 := Kp.trans k928 k932 (fun x hx => .inr (by rw [show x = _ from hx]; exact g901))
          have hb934 := Blk.kp hb927 k932 (show ¬ (a0b = b898) from n900)
          refine r_fin 6 (by kernel_rfl) ?_
          refine q_then ?_
          refine w_ret (p := [1, 1, 1, 0, 0, 1, 0, 1]) (by kernel_rfl) ?_
          refine q_in_r ?_
          refine q_then_r ?_
          obtain rfl := Option.some.inj H
          refine HR _ _ (body_ret (vs := [.int .u8 t923.1, .agg #[.int .i64 t923.2.1.f0, .int .i64 t923.2.1.f1]]) (rv_tmp (by kernel_rfl) (rv_cell (off := 0) (v := .agg #[.int .i64 t923.2.1.f0, .int .i64 t923.2.1.f1]) (by kernel_rfl) hb930 (by kernel_rfl) rfl)) rfl ?_)
          exact ⟨rfl, k933, hb934⟩
        · intro h_
          have h922 : ¬ ((bt a0.f0 a0.f2) = 92) := by simpa using h_
          clear h_
          rw [if_neg h922] at H
          refine w_seq (p := [1, 1, 1, 0, 0, 1, 1]) (p0 := [1, 1, 1, 0, 0, 1, 1, 0]) (p1 := [1, 1, 1, 0, 0, 1, 1, 1]) (by kernel_rfl) ?_
          refine w_region (p := [1, 1, 1, 0, 0, 1, 1, 0]) (id := 6) (by kernel_rfl) ?_
          refine r_vals 0 3 [.int .u8 (bt a0.f0 a0.f2), .bool (decide ((bt a0.f0 a0.f2) < 32)), .bool (decide ((bt a0.f0 a0.f2) < 32))] (by kernel_rfl) (by kernel_rfl) ?_
          refine b_split (decide ((bt a0.f0 a0.f2) < 32)) (fun h_ => ?_) (fun h_ => ?_)
          · have h935 : (bt a0.f0 a0.f2) < 32 := by simpa using h_
            rw [if_pos h935] at H
            rw [h_]
            clear h_
            refine r_vals 3 19 [undef, undef, .bool true, .bool true, undef, undef, .bool true, .bool true, undef, undef, .bool true, .bool true, undef, undef, .bool true, .bool true] (by kernel_rfl) (by kernel_rfl) ?_
            refine r_fin 19 (by kernel_rfl) ?_
            refine q_then ?_
            refine w_into (class_reader_byte.j0F a0b b898 a0 true) (by kernel_rfl) (fun u_ => ?_)
            exact class_reader_byte.j0.ok K a0b a0T a0 w r b898 HR  true u_ w917 k919 hb920 hb921 g901 n900 H
          · have h935 : ¬ ((bt a0.f0 a0.f2) < 32) := by simpa using h_
            rw [if_neg h935] at H
            rw [h_]
            clear h_
            refine r_vals 3 7 [.int .u8 (bt a0.f0 a0.f2), .bool (decide ((bt a0.f0 a0.f2) > 126)), .bool (decide ((bt a0.f0 a0.f2) > 126)), .bool (decide ((bt a0.f0 a0.f2) > 126))] (by kernel_rfl) (by kernel_rfl) ?_
            refine b_split (decide ((bt a0.f0 a0.f2) > 126)) (fun h_ => ?_) (fun h_ => ?_)
            · have h936 : (bt a0.f0 a0.f2) > 126 := by simpa using h_
              rw [if_pos h936] at H
              rw [h_]
              clear h_
              refine r_vals 7 19 [undef, undef, .bool true, .bool true, undef, undef, .bool true, .bool true, undef, undef, .bool true, .bool true] (by kernel_rfl) (by kernel_rfl) ?_
              refine r_fin 19 (by kernel_rfl) ?_
              refine q_then ?_
              refine w_into (class_reader_byte.j0F a0b b898 a0 true) (by kernel_rfl) (fun u_ => ?_)
              exact class_reader_byte.j0.ok K a0b a0T a0 w r b898 HR  true u_ w917 k919 hb920 hb921 g901 n900 H
            · have h936 : ¬ ((bt a0.f0 a0.f2) > 126) := by simpa using h_
              rw [if_neg h936] at H
              rw [h_]
              clear h_
              refine r_vals 7 11 [.int .u8 (bt a0.f0 a0.f2), .bool ((bt a0.f0 a0.f2) == 93), .bool ((bt a0.f0 a0.f2) == 93), .bool ((bt a0.f0 a0.f2) == 93)] (by kernel_rfl) (by kernel_rfl) ?_
              refine b_split ((bt a0.f0 a0.f2) == 93) (fun h_ => ?_) (fun h_ => ?_)
              · have h937 : (bt a0.f0 a0.f2) = 93 := by simpa using h_
                rw [if_pos h937] at H
                rw [h_]
                clear h_
                refine r_vals 11 19 [undef, undef, .bool true, .bool true, undef, undef, .bool true, .bool true] (by kernel_rfl) (by kernel_rfl) ?_
                refine r_fin 19 (by kernel_rfl) ?_
                refine q_then ?_
                refine w_into (class_reader_byte.j0F a0b b898 a0 true) (by kernel_rfl) (fun u_ => ?_)
                exact class_reader_byte.j0.ok K a0b a0T a0 w r b898 HR  true u_ w917 k919 hb920 hb921 g901 n900 H
              · have h937 : ¬ ((bt a0.f0 a0.f2) = 93) := by simpa using h_
                rw [if_neg h937] at H
                rw [h_]
                clear h_
                refine r_vals 11 15 [.int .u8 (bt a0.f0 a0.f2), .bool ((bt a0.f0 a0.f2) == 45), .bool ((bt a0.f0 a0.f2) == 45), .bool ((bt a0.f0 a0.f2) == 45)] (by kernel_rfl) (by kernel_rfl) ?_
                refine b_split ((bt a0.f0 a0.f2) == 45) (fun h_ => ?_) (fun h_ => ?_)
                · have h938 : (bt a0.f0 a0.f2) = 45 := by simpa using h_
                  rw [if_pos h938] at H
                  rw [h_]
                  clear h_
                  refine r_vals 15 19 [undef, undef, .bool true, .bool true] (by kernel_rfl) (by kernel_rfl) ?_
                  refine r_fin 19 (by kernel_rfl) ?_
                  refine q_then ?_
                  refine w_into (class_reader_byte.j0F a0b b898 a0 true) (by kernel_rfl) (fun u_ => ?_)
                  exact class_reader_byte.j0.ok K a0b a0T a0 w r b898 HR  true u_ w917 k919 hb920 hb921 g901 n900 H
                · have h938 : ¬ ((bt a0.f0 a0.f2) = 45) := by simpa using h_
                  rw [if_neg h938] at H
                  rw [h_]
                  clear h_
                  refine r_vals 15 19 [.int .u8 (bt a0.f0 a0.f2), .bool ((bt a0.f0 a0.f2) == 94), .bool ((bt a0.f0 a0.f2) == 94), .bool ((bt a0.f0 a0.f2) == 94)] (by kernel_rfl) (by kernel_rfl) ?_
                  refine r_fin 19 (by kernel_rfl) ?_
                  refine q_then ?_
                  refine w_into (class_reader_byte.j0F a0b b898 a0 ((bt a0.f0 a0.f2) == 94)) (by kernel_rfl) (fun u_ => ?_)
                  exact class_reader_byte.j0.ok K a0b a0T a0 w r b898 HR  ((bt a0.f0 a0.f2) == 94) u_ w917 k919 hb920 hb921 g901 n900 H
      · rw [if_neg h916] at H
        cases H
    · rw [if_neg h915] at H
      cases H
/-! ### (*dowel/class.reader).item -/
def class_reader_item.j0F (a0b : Nat) (b964 : Nat) (b973 : Nat) (a0 : Tclass_reader) (t981 : Int × Tapi_Fault × Tclass_reader) (b992 : Nat) (x1022 : Bool) (u_ : Nat → Value) : Array Value := #[.pointer (some ⟨a0b, 0, none⟩), u_ 1, .pointer (some ⟨b964, 0, none⟩), .pointer (some ⟨b973, 0, none⟩), .int .i64 a0.f2, .int .u8 t981.1, .pointer (some ⟨b992, 0, none⟩), u_ 7, u_ 8, u_ 9, u_ 10, u_ 11, u_ 12, u_ 13, u_ 14, u_ 15, u_ 16, u_ 17, u_ 18, u_ 19, u_ 20, u_ 21, u_ 22, u_ 23, .bool x1022, u_ 25, u_ 26, u_ 27, u_ 28, u_ 29, u_ 30, u_ 31, u_ 32, u_ 33, u_ 34, u_ 35, u_ 36, u_ 37, u_ 38, u_ 39, u_ 40, u_ 41, u_ 42, u_ 43, u_ 44, u_ 45, u_ 46, u_ 47]
def class_reader_item.j1F (b964 : Nat) (b973 : Nat) (a0 : Tclass_reader) (t981 : Int × Tapi_Fault × Tclass_reader) (b992 : Nat) (t1038 : Int × Tapi_Fault × Tclass_reader) (x1058 : Bool) (u_ : Nat → Value) : Array Value := #[u_ 0, u_ 1, .pointer (some ⟨b964, 0, none⟩), .pointer (some ⟨b973, 0, none⟩), .int .i64 a0.f2, .int .u8 t981.1, .pointer (some ⟨b992, 0, none⟩), .int .u8 t1038.1, u_ 8, u_ 9, u_ 10, u_ 11, u_ 12, u_ 13, u_ 14, u_ 15, u_ 16, u_ 17, u_ 18, u_ 19, u_ 20, u_ 21, u_ 22, u_ 23, u_ 24, u_ 25, u_ 26, u_ 27, u_ 28, u_ 29, u_ 30, u_ 31, u_ 32, u_ 33, u_ 34, u_ 35, u_ 36, u_ 37, u_ 38, u_ 39, u_ 40, .bool x1058, u_ 42, u_ 43, u_ 44, u_ 45, u_ 46, u_ 47]
def class_reader_item.j2F (b964 : Nat) (b973 : Nat) (t981 : Int × Tapi_Fault × Tclass_reader) (b992 : Nat) (t1038 : Int × Tapi_Fault × Tclass_reader) (u_ : Nat → Value) : Array Value := #[u_ 0, u_ 1, .pointer (some ⟨b964, 0, none⟩), .pointer (some ⟨b973, 0, none⟩), u_ 4, .int .u8 t981.1, .pointer (some ⟨b992, 0, none⟩), .int .u8 t1038.1, u_ 8, u_ 9, u_ 10, u_ 11, u_ 12, u_ 13, u_ 14, u_ 15, u_ 16, u_ 17, u_ 18, u_ 19, u_ 20, u_ 21, u_ 22, u_ 23, u_ 24, u_ 25, u_ 26, u_ 27, u_ 28, u_ 29, u_ 30, u_ 31, u_ 32, u_ 33, u_ 34, u_ 35, u_ 36, u_ 37, u_ 38, u_ 39, u_ 40, u_ 41, u_ 42, u_ 43, u_ 44, u_ 45, u_ 46, u_ 47]
def class_reader_item.j2 (t981 : Int × Tapi_Fault × Tclass_reader) (t1038 : Int × Tapi_Fault × Tclass_reader) (y1077 : Int) (y1078 : Int) : Option (Tapi_Range × Tapi_Fault × Tclass_reader) := some ((⟨t981.1, t1038.1⟩ : Tapi_Range), (⟨y1077, y1078⟩ : Tapi_Fault), t1038.2.2)
def class_reader_item.j1 (t981 : Int × Tapi_Fault × Tclass_reader) (t1038 : Int × Tapi_Fault × Tclass_reader) (a0 : Tclass_reader) (x1058 : Bool) : Option (Tapi_Range × Tapi_Fault × Tclass_reader) := if x1058 = true then (class_reader_item.j2 t981 t1038 a0.f2 30) else (class_reader_item.j2 t981 t1038 t1038.2.1.f0 t1038.2.1.f1)
def class_reader_item.j0 (t981 : Int × Tapi_Fault × Tclass_reader) (K : Nat) (a0 : Tclass_reader) (x1022 : Bool) (y1023 : ByteArray) (y1024 : Int) (y1025 : Int) : Option (Tapi_Range × Tapi_Fault × Tclass_reader) := if x1022 = true then (some ((⟨t981.1, t981.1⟩ : Tapi_Range), t981.2.1, (⟨y1023, y1024, y1025⟩ : Tclass_reader))) else ((class_reader_byte.f K (⟨y1023, y1024, y1025⟩ : Tclass_reader)).bind fun t1038 => (if t1038.2.1.f1 = 0 then (class_reader_item.j1 t981 t1038 a0 (decide (t981.1 > t1038.1))) else (class_reader_item.j1 t981 t1038 a0 false)))
def class_reader_item.f (K : Nat) (a0 : Tclass_reader) : Option (Tapi_Range × Tapi_Fault × Tclass_reader) := (class_reader_byte.f K a0).bind fun t981 => (if ¬ (t981.2.1.f1 = 0) then (class_reader_item.j0 t981 K a0 true t981.2.2.f0 t981.2.2.f1 t981.2.2.f2) else ((class_reader_skip.f K t981.2.2 45).bind fun t1010 => (class_reader_item.j0 t981 K a0 (!t1010.1) t1010.2.f0 t1010.2.f1 t1010.2.f2)))
def class_reader_item.R (a0b a0T : Nat) (r : Tapi_Range × Tapi_Fault × Tclass_reader) (w : World) : Ending → World → Prop := fun e w' => e = .returned (.tuple #[.agg #[.int .u8 r.1.f0, .int .u8 r.1.f1], .agg #[.int .i64 r.2.1.f0, .int .i64 r.2.1.f1]]) ∧ Kp (One a0b) w w' ∧ Blk w' a0b #[.string r.2.2.f0, .int .i64 r.2.2.f1, .int .i64 r.2.2.f2] a0T
set_option maxRecDepth 20000 in
set_option maxHeartbeats 4000000 in
theorem class_reader_item.j2.ok (K : Nat) (a0b : Nat) (a0T : Nat) (a0 : Tclass_reader) (w : World) (r : Tapi_Range × Tapi_Fault × Tclass_reader) {Q : Exit → Act → World → Prop} (b964 : Nat) (b973 : Nat) (t981 : Int × Tapi_Fault × Tclass_reader) (b992 : Nat) (t1038 : Int × Tapi_Fault × Tclass_reader) (HR : ∀ a w', bodyPost Try.prog Try.f79 (class_reader_item.R a0b a0T r w) .ret a w' → Q .ret a w')  (y1077 : Int) (y1078 : Int) (u1073 : Nat → Value) (w1071 : World) (k1072 : Kp (One a0b) w w1071) (hb1074 : Blk w1071 a0b #[.string t1038.2.2.f0, .int .i64 t1038.2.2.f1, .int .i64 t1038.2.2.f2] a0T) (hb1075 : Blk w1071 b964 #[.int .u8 0, .int .u8 0] 44) (hb1076 : Blk w1071 b973 #[.int .i64 0, .int .i64 0] 65) (hb1079 : Blk w1071 b992 #[.int .i64 y1077, .int .i64 y1078] 65) (ghb1075 : w.heap.size ≤ b964) (ghb1076 : w.heap.size ≤ b973) (ghb1079 : w.heap.size ≤ b992) (nhb1074hb1075 : a0b ≠ b964) (nhb1074hb1076 : a0b ≠ b973) (nhb1074hb1079 : a0b ≠ b992) (nhb1075hb1076 : b964 ≠ b973) (nhb1075hb1079 : b964 ≠ b992) (nhb1076hb1079 : b973 ≠ b992) (H : class_reader_item.j2 t981 t1038 y1077 y1078 = some r) : (cd Try.f79 [1, 1, 1, 1, 1, 1]).wp Try.prog Q ⟨class_reader_item.j2F b964 b973 t981 b992 t1038 u1073, []⟩ w1071 := by
  unfold class_reader_item.j2 at H
  refine w_seq (p := [1, 1, 1, 1, 1, 1]) (p0 := [1, 1, 1, 1, 1, 1, 0]) (p1 := [1, 1, 1, 1, 1, 1, 1]) (by kernel_rfl) ?_
  refine w_drawk (p := [1, 1, 1, 1, 1, 1, 0]) (id := 8) (by kernel_rfl) (by kernel_rfl) [0, 0, 3, 0, 7, 31] 6 (by kernel_rfl) (J := (fun b_ w_ => Kp (fun k => k = b964 ∨ k = b973) w1071 w_ ∧ Blk w_ b964 (if b_ 4 = true then #[.int .u8 t981.1, .int .u8 t1038.1] else #[.int .u8 0, .int .u8 0]) 44 ∧ Blk w_ b973 (if b_ 5 = true then #[.int .i64 y1077, .int .i64 y1078] else #[.int .i64 0, .int .i64 0]) 65)) (fun w_ h1 h2 h3 h4 => ⟨Kp.same h1 h2 h3 h4, by simpa using hb1075.same h1, by simpa using hb1076.same h1⟩) ?_
  refine k_pure 3 [.int .u8 t981.1, .int .u8 t1038.1, .agg #[.int .u8 t981.1, .int .u8 t1038.1]] (by kernel_rfl) (fun _ => by kernel_rfl) (fun k h1 h2 b w h => by simpa [up, show ¬ (4 = k) by omega, show ¬ (5 = k) by omega] using h) ?_
  refine k_op (.agg #[.int .i64 y1077, .int .i64 y1078]) (by kernel_rfl) (fun b_ w_ hJ hb_ hd_ he_ => og_load (T := 65) (x := (Operand.tmp 6)) (b := b992) (off := 0) (.agg #[.int .i64 y1077, .int .i64 y1078]) (by kernel_rfl) (by kernel_rfl) (Blk.kp hb1079 hJ.1 (by simp only [not_or]; exact ⟨(Ne.symm nhb1075hb1079), (Ne.symm nhb1076hb1079)⟩)) (by kernel_rfl) ⟨rfl, by simpa [up] using hJ⟩) ?_
  refine k_op (undef) (by kernel_rfl) (fun b_ w_ hJ hb_ hd_ he_ => og_store (T := 44) (x := (Operand.tmp 2)) (y := (Operand.tmp 46)) (b := b964) (off := 0) (.agg #[.int .u8 t981.1, .int .u8 t1038.1]) (by kernel_rfl) (by kernel_rfl) (by kernel_rfl) (by have h_ := hJ.2.1; rw [if_neg (by rw [hb_]; decide)] at h_; exact h_) (cs' := #[.int .u8 t981.1, .int .u8 t1038.1]) (by kernel_rfl) (fun w2_ h2_ k2_ _ => ⟨rfl, Kp.trans hJ.1 k2_ (fun x hx => .inl (by rw [show x = _ from hx] <;> simp)), by rw [if_pos (by simp [up])]; exact h2_, by have h5_ := Blk.kp hJ.2.2 k2_ (Ne.symm nhb1075hb1076); simpa [up] using h5_⟩)) ?_
  refine k_op (undef) (by kernel_rfl) (fun b_ w_ hJ hb_ hd_ he_ => og_store (T := 65) (x := (Operand.tmp 3)) (y := (Operand.tmp 47)) (b := b973) (off := 0) (.agg #[.int .i64 y1077, .int .i64 y1078]) (by kernel_rfl) (by kernel_rfl) (by kernel_rfl) (by have h_ := hJ.2.2; rw [if_neg (by rw [hb_]; decide)] at h_; exact h_) (cs' := #[.int .i64 y1077, .int .i64 y1078]) (by kernel_rfl) (fun w2_ h2_ k2_ _ => ⟨rfl, Kp.trans hJ.1 k2_ (fun x hx => .inl (by rw [show x = _ from hx] <;> simp)), by have h5_ := Blk.kp hJ.2.1 k2_ nhb1075hb1076; simpa [up] using h5_, by rw [if_pos (by simp [up])]; exact h2_⟩)) ?_
  refine k_nil ?_
  rintro b_ w1080 hall_ k_
  obtain ⟨k1081, hb1082, hb1083⟩ := k_
  rw [if_pos (hall_ 4 (by decide))] at hb1082
  rw [if_pos (hall_ 5 (by decide))] at hb1083
  have k1084 := Kp.trans k1072 k1081 (fun x hx => by rcases hx with rfl | rfl <;> first | exact .inr ghb1075 | exact .inr ghb1076)
  have hb1085 := Blk.kp hb1074 k1081 (by simp only [not_or]; exact ⟨nhb1074hb1075, nhb1074hb1076⟩)
  have hb1086 := Blk.kp hb1079 k1081 (by simp only [not_or]; exact ⟨(Ne.symm nhb1075hb1079), (Ne.symm nhb1076hb1079)⟩)
  refine r_fin 6 (by kernel_rfl) ?_
  refine q_then ?_
  refine w_ret (p := [1, 1, 1, 1, 1, 1, 1]) (by kernel_rfl) ?_
  obtain rfl := Option.some.inj H
  refine HR _ _ (body_ret (vs := [.agg #[.int .u8 t981.1, .int .u8 t1038.1], .agg #[.int .i64 y1077, .int .i64 y1078]]) (rv_cell (off := 0) (v := .agg #[.int .u8 t981.1, .int .u8 t1038.1]) (by kernel_rfl) hb1082 (by kernel_rfl) (rv_cell (off := 0) (v := .agg #[.int .i64 y1077, .int .i64 y1078]) (by kernel_rfl) hb1083 (by kernel_rfl) rfl)) rfl ?_)
  exact ⟨rfl, k1084, hb1085⟩
set_option maxRecDepth 20000 in
set_option maxHeartbeats 4000000 in
theorem class_reader_item.j1.ok (K : Nat) (a0b : Nat) (a0T : Nat) (a0 : Tclass_reader) (w : World) (r : Tapi_Range × Tapi_Fault × Tclass_reader) {Q : Exit → Act → World → Prop} (b964 : Nat) (b973 : Nat) (t981 : Int × Tapi_Fault × Tclass_reader) (b992 : Nat) (t1038 : Int × Tapi_Fault × Tclass_reader) (HR : ∀ a w', bodyPost Try.prog Try.f79 (class_reader_item.R a0b a0T r w) .ret a w' → Q .ret a w')  (x1058 : Bool) (u1057 : Nat → Value) (w1055 : World) (k1056 : Kp (One a0b) w w1055) (hb1059 : Blk w1055 a0b #[.string t1038.2.2.f0, .int .i64 t1038.2.2.f1, .int .i64 t1038.2.2.f2] a0T) (hb1060 : Blk w1055 b964 #[.int .u8 0, .int .u8 0] 44) (hb1061 : Blk w1055 b973 #[.int .i64 0, .int .i64 0] 65) (hb1062 : Blk w1055 b992 #[.int .i64 t1038.2.1.f0, .int .i64 t1038.2.1.f1] 65) (ghb1060 : w.heap.size ≤ b964) (ghb1061 : w.heap.size ≤ b973) (ghb1062 : w.heap.size ≤ b992) (nhb1059hb1060 : a0b ≠ b964) (nhb1059hb1061 : a0b ≠ b973) (nhb1059hb1062 : a0b ≠ b992) (nhb1060hb1061 : b964 ≠ b973) (nhb1060hb1062 : b964 ≠ b992) (nhb1061hb1062 : b973 ≠ b992) (H : class_reader_item.j1 t981 t1038 a0 x1058 = some r) : (cd Try.f79 [1, 1, 1, 1, 1, 0, 1]).wp Try.prog (Exit.then (fun a w => (cd Try.f79 [1, 1, 1, 1, 1, 1]).wp Try.prog Q a w) Q) ⟨class_reader_item.j1F b964 b973 a0 t981 b992 t1038 x1058 u1057, []⟩ w1055 := by
  unfold class_reader_item.j1 at H
  refine w_cond (p := [1, 1, 1, 1, 1, 0, 1]) (p0 := [1, 1, 1, 1, 1, 0, 1, 0]) (p1 := [1, 1, 1, 1, 1, 0, 1, 1]) (c := (Operand.tmp 41)) (b := x1058) (by kernel_rfl) (by kernel_rfl) ?_ ?_
  · intro h_
    have h1063 : x1058 = true := h_
    clear h_
    rw [if_pos h1063] at H
    refine w_region (p := [1, 1, 1, 1, 1, 0, 1, 0]) (id := 7) (by kernel_rfl) ?_
    refine r_vals 0 2 [.int .i64 a0.f2, .agg #[.int .i64 a0.f2, .int .i64 30]] (by kernel_rfl) (by kernel_rfl) ?_
    refine r_do 2 (by kernel_rfl) (og_store (T := 65) (x := (Operand.tmp 6)) (y := (Operand.tmp 43)) (b := b992) (off := 0) (.agg #[.int .i64 a0.f2, .int .i64 30]) (by kernel_rfl) (by kernel_rfl) (by kernel_rfl) hb1062 (cs' := #[.int .i64 a0.f2, .int .i64 30]) (by kernel_rfl) ?_) 
    intro w1065 hb1064 k1066 _
    have k1067 := Kp.trans k1056 k1066 (fun x hx => .inr (by rw [show x = _ from hx]; exact ghb1062))
    have hb1068 := Blk.kp hb1059 k1066 (show ¬ (a0b = b992) from nhb1059hb1062)
    have hb1069 := Blk.kp hb1060 k1066 (show ¬ (b964 = b992) from nhb1060hb1062)
    have hb1070 := Blk.kp hb1061 k1066 (show ¬ (b973 = b992) from nhb1061hb1062)
    refine r_fin 3 (by kernel_rfl) ?_
    refine q_then ?_
    refine w_into (class_reader_item.j2F b964 b973 t981 b992 t1038) (by kernel_rfl) (fun u_ => ?_)
    exact class_reader_item.j2.ok K a0b a0T a0 w r b964 b973 t981 b992 t1038 HR  a0.f2 30 u_ w1065 k1067 hb1068 hb1069 hb1070 hb1064 ghb1060 ghb1061 ghb1062 nhb1059hb1060 nhb1059hb1061 nhb1059hb1062 nhb1060hb1061 nhb1060hb1062 nhb1061hb1062 H
  · intro h_
    have h1063 : ¬ (x1058 = true) := by rw [h_]; decide
    clear h_
    rw [if_neg h1063] at H
    refine w_skip (p := [1, 1, 1, 1, 1, 0, 1, 1]) (by kernel_rfl) ?_
    refine q_then ?_
    refine w_into (class_reader_item.j2F b964 b973 t981 b992 t1038) (by kernel_rfl) (fun u_ => ?_)
    exact class_reader_item.j2.ok K a0b a0T a0 w r b964 b973 t981 b992 t1038 HR  t1038.2.1.f0 t1038.2.1.f1 u_ w1055 k1056 hb1059 hb1060 hb1061 hb1062 ghb1060 ghb1061 ghb1062 nhb1059hb1060 nhb1059hb1061 nhb1059hb1062 nhb1060hb1061 nhb1060hb1062 nhb1061hb1062 H
set_option maxRecDepth 20000 in
set_option maxHeartbeats 4000000 in
theorem class_reader_item.j0.ok (K : Nat) (a0b : Nat) (a0T : Nat) (a0 : Tclass_reader) (w : World) (r : Tapi_Range × Tapi_Fault × Tclass_reader) {Q : Exit → Act → World → Prop} (b964 : Nat) (b973 : Nat) (t981 : Int × Tapi_Fault × Tclass_reader) (b992 : Nat) (HR : ∀ a w', bodyPost Try.prog Try.f79 (class_reader_item.R a0b a0T r w) .ret a w' → Q .ret a w')  (x1022 : Bool) (y1023 : ByteArray) (y1024 : Int) (y1025 : Int) (u1021 : Nat → Value) (w1019 : World) (k1020 : Kp (One a0b) w w1019) (hb1026 : Blk w1019 a0b #[.string y1023, .int .i64 y1024, .int .i64 y1025] a0T) (hb1027 : Blk w1019 b964 #[.int .u8 0, .int .u8 0] 44) (hb1028 : Blk w1019 b973 #[.int .i64 0, .int .i64 0] 65) (hb1029 : Blk w1019 b992 #[.int .i64 t981.2.1.f0, .int .i64 t981.2.1.f1] 65) (ghb1027 : w.heap.size ≤ b964) (ghb1028 : w.heap.size ≤ b973) (ghb1029 : w.heap.size ≤ b992) (nhb1026hb1027 : a0b ≠ b964) (nhb1026hb1028 : a0b ≠ b973) (nhb1026hb1029 : a0b ≠ b992) (nhb1027hb1028 : b964 ≠ b973) (nhb1027hb1029 : b964 ≠ b992) (nhb1028hb1029 : b973 ≠ b992) (H : class_reader_item.j0 t981 K a0 x1022 y1023 y1024 y1025 = some r) : (cd Try.f79 [1, 1, 1, 0, 1]).wp Try.prog (Exit.then (fun a w => (cd Try.f79 [1, 1, 1, 1]).wp Try.prog Q a w) Q) ⟨class_reader_item.j0F a0b b964 b973 a0 t981 b992 x1022 u1021, []⟩ w1019 := by
  unfold class_reader_item.j0 at H
  refine w_cond (p := [1, 1, 1, 0, 1]) (p0 := [1, 1, 1, 0, 1, 0]) (p1 := [1, 1, 1, 0, 1, 1]) (c := (Operand.tmp 24)) (b := x1022) (by kernel_rfl) (by kernel_rfl) ?_ ?_
  · intro h_
    have h1030 : x1022 = true := h_
    clear h_
    rw [if_pos h1030] at H
    refine w_seq (p := [1, 1, 1, 0, 1, 0]) (p0 := [1, 1, 1, 0, 1, 0, 0]) (p1 := [1, 1, 1, 0, 1, 0, 1]) (by kernel_rfl) ?_
    refine w_drawk (p := [1, 1, 1, 0, 1, 0, 0]) (id := 4) (by kernel_rfl) (by kernel_rfl) [0, 0, 3, 0, 7, 31] 6 (by kernel_rfl) (J := (fun b_ w_ => Kp (fun k => k = b964 ∨ k = b973) w1019 w_ ∧ Blk w_ b964 (if b_ 4 = true then #[.int .u8 t981.1, .int .u8 t981.1] else #[.int .u8 0, .int .u8 0]) 44 ∧ Blk w_ b973 (if b_ 5 = true then #[.int .i64 t981.2.1.f0, .int .i64 t981.2.1.f1] else #[.int .i64 0, .int .i64 0]) 65)) (fun w_ h1 h2 h3 h4 => ⟨Kp.same h1 h2 h3 h4, by simpa using hb1027.same h1, by simpa using hb1028.same h1⟩) ?_
    refine k_pure 3 [.int .u8 t981.1, .int .u8 t981.1, .agg #[.int .u8 t981.1, .int .u8 t981.1]] (by kernel_rfl) (fun _ => by kernel_rfl) (fun k h1 h2 b w h => by simpa [up, show ¬ (4 = k) by omega, show ¬ (5 = k) by omega] using h) ?_
    refine k_op (.agg #[.int .i64 t981.2.1.f0, .int .i64 t981.2.1.f1]) (by kernel_rfl) (fun b_ w_ hJ hb_ hd_ he_ => og_load (T := 65) (x := (Operand.tmp 6)) (b := b992) (off := 0) (.agg #[.int .i64 t981.2.1.f0, .int .i64 t981.2.1.f1]) (by kernel_rfl) (by kernel_rfl) (Blk.kp hb1029 hJ.1 (by simp only [not_or]; exact ⟨(Ne.symm nhb1027hb1029), (Ne.symm nhb1028hb1029)⟩)) (by kernel_rfl) ⟨rfl, by simpa [up] using hJ⟩) ?_
    refine k_op (undef) (by kernel_rfl) (fun b_ w_ hJ hb_ hd_ he_ => og_store (T := 44) (x := (Operand.tmp 2)) (y := (Operand.tmp 27)) (b := b964) (off := 0) (.agg #[.int .u8 t981.1, .int .u8 t981.1]) (by kernel_rfl) (by kernel_rfl) (by kernel_rfl) (by have h_ := hJ.2.1; rw [if_neg (by rw [hb_]; decide)] at h_; exact h_) (cs' := #[.int .u8 t981.1, .int .u8 t981.1]) (by kernel_rfl) (fun w2_ h2_ k2_ _ => ⟨rfl, Kp.trans hJ.1 k2_ (fun x hx => .inl (by rw [show x = _ from hx] <;> simp)), by rw [if_pos (by simp [up])]; exact h2_, by have h5_ := Blk.kp hJ.2.2 k2_ (Ne.symm nhb1027hb1028); simpa [up] using h5_⟩)) ?_
    refine k_op (undef) (by kernel_rfl) (fun b_ w_ hJ hb_ hd_ he_ => og_store (T := 65) (x := (Operand.tmp 3)) (y := (Operand.tmp 28)) (b := b973) (off := 0) (.agg #[.int .i64 t981.2.1.f0, .int .i64 t981.2.1.f1]) (by kernel_rfl) (by kernel_rfl) (by kernel_rfl) (by have h_ := hJ.2.2; rw [if_neg (by rw [hb_]; decide)] at h_; exact h_) (cs' := #[.int .i64 t981.2.1.f0, .int .i64 t981.2.1.f1]) (by kernel_rfl) (fun w2_ h2_ k2_ _ => ⟨rfl, Kp.trans hJ.1 k2_ (fun x hx => .inl (by rw [show x = _ from hx] <;> simp)), by have h5_ := Blk.kp hJ.2.1 k2_ nhb1027hb1028; simpa [up] using h5_, by rw [if_pos (by simp [up])]; exact h2_⟩)) ?_
    refine k_nil ?_
    rintro b_ w1031 hall_ k_
    obtain ⟨k1032, hb1033, hb1034⟩ := k_
    rw [if_pos (hall_ 4 (by decide))] at hb1033
    rw [if_pos (hall_ 5 (by decide))] at hb1034
    have k1035 := Kp.trans k1020 k1032 (fun x hx => by rcases hx with rfl | rfl <;> first | exact .inr ghb1027 | exact .inr ghb1028)
    have hb1036 := Blk.kp hb1026 k1032 (by simp only [not_or]; exact ⟨nhb1026hb1027, nhb1026hb1028⟩)
    have hb1037 := Blk.kp hb1029 k1032 (by simp only [not_or]; exact ⟨(Ne.symm nhb1027hb1029), (Ne.symm nhb1028hb1029)⟩)
    refine r_fin 6 (by kernel_rfl) ?_
    refine q_then ?_
    refine w_ret (p := [1, 1, 1, 0, 1, 0, 1]) (by kernel_rfl) ?_
    refine q_then_r ?_
    obtain rfl := Option.some.inj H
    refine HR _ _ (body_ret (vs := [.agg #[.int .u8 t981.1, .int .u8 t981.1], .agg #[.int .i64 t981.2.1.f0, .int .i64 t981.2.1.f1]]) (rv_cell (off := 0) (v := .agg #[.int .u8 t981.1, .int .u8 t981.1]) (by kernel_rfl) hb1033 (by kernel_rfl) (rv_cell (off := 0) (v := .agg #[.int .i64 t981.2.1.f0, .int .i64 t981.2.1.f1]) (by kernel_rfl) hb1034 (by kernel_rfl) rfl)) rfl ?_)
    exact ⟨rfl, k1035, hb1036⟩
  · intro h_
    have h1030 : ¬ (x1022 = true) := by rw [h_]; decide
    clear h_
    rw [if_neg h1030] at H
    refine w_skip (p := [1, 1, 1, 0, 1, 1]) (by kernel_rfl) ?_
    refine q_then ?_
    refine w_seq (p := [1, 1, 1, 1]) (p0 := [1, 1, 1, 1, 0]) (p1 := [1, 1, 1, 1, 1]) (by kernel_rfl) ?_
    refine w_region (p := [1, 1, 1, 1, 0]) (id := 5) (by kernel_rfl) ?_
    refine r_vals 0 1 [.pointer (some ⟨a0b, 0, none⟩)] (by kernel_rfl) (by kernel_rfl) ?_
    obtain ⟨t1038, ht1039, H⟩ := Option.bind_eq_some_iff.1 H
    refine r_do 1 (by kernel_rfl) (og_call (g := 114) (av := #[.pointer (some ⟨a0b, 0, none⟩)]) (by kernel_rfl) ?_) 
    refine (class_reader_byte.ok K a0b a0T (⟨y1023, y1024, y1025⟩ : Tclass_reader) w1019 hb1026 t1038 ht1039).mono ?_
    rintro e w1040 ⟨rfl, k1041, hb1042⟩
    refine ⟨_, rfl, ?_⟩
    have k1043 := Kp.trans k1020 k1041 (fun x hx => .inl hx)
    have hb1044 := Blk.kp hb1027 k1041 (show ¬ (b964 = a0b) from (Ne.symm nhb1026hb1027))
    have hb1045 := Blk.kp hb1028 k1041 (show ¬ (b973 = a0b) from (Ne.symm nhb1026hb1028))
    have hb1046 := Blk.kp hb1029 k1041 (show ¬ (b992 = a0b) from (Ne.symm nhb1026hb1029))
    refine r_vals 2 6 [.tuple #[.int .u8 t1038.1, .agg #[.int .i64 t1038.2.1.f0, .int .i64 t1038.2.1.f1]], .int .u8 t1038.1, .agg #[.int .i64 t1038.2.1.f0, .int .i64 t1038.2.1.f1], .int .u8 t1038.1] (by kernel_rfl) (by kernel_rfl) ?_
    refine r_do 6 (by kernel_rfl) (og_store (T := 65) (x := (Operand.tmp 6)) (y := (Operand.tmp 33)) (b := b992) (off := 0) (.agg #[.int .i64 t1038.2.1.f0, .int .i64 t1038.2.1.f1]) (by kernel_rfl) (by kernel_rfl) (by kernel_rfl) hb1046 (cs' := #[.int .i64 t1038.2.1.f0, .int .i64 t1038.2.1.f1]) (by kernel_rfl) ?_) 
    intro w1048 hb1047 k1049 _
    have k1050 := Kp.trans k1043 k1049 (fun x hx => .inr (by rw [show x = _ from hx]; exact ghb1029))
    have hb1051 := Blk.kp hb1042 k1049 (show ¬ (a0b = b992) from nhb1026hb1029)
    have hb1052 := Blk.kp hb1044 k1049 (show ¬ (b964 = b992) from nhb1027hb1029)
    have hb1053 := Blk.kp hb1045 k1049 (show ¬ (b973 = b992) from nhb1028hb1029)
    refine r_fin 7 (by kernel_rfl) ?_
    refine q_then ?_
    refine w_seq (p := [1, 1, 1, 1, 1]) (p0 := [1, 1, 1, 1, 1, 0]) (p1 := [1, 1, 1, 1, 1, 1]) (by kernel_rfl) ?_
    refine w_seq (p := [1, 1, 1, 1, 1, 0]) (p0 := [1, 1, 1, 1, 1, 0, 0]) (p1 := [1, 1, 1, 1, 1, 0, 1]) (by kernel_rfl) ?_
    refine w_region (p := [1, 1, 1, 1, 1, 0, 0]) (id := 6) (by kernel_rfl) ?_
    refine r_vals 0 1 [.pointer (some ⟨b992, 1, none⟩)] (by kernel_rfl) (by kernel_rfl) ?_
    refine r_do 1 (by kernel_rfl) (og_load (T := 46) (x := (Operand.tmp 34)) (b := b992) (off := 1) (.int .i64 t1038.2.1.f1) (by kernel_rfl) (by kernel_rfl) hb1047 (by kernel_rfl) ?_) 
    refine r_vals 2 4 [.bool (t1038.2.1.f1 == 0), .bool (t1038.2.1.f1 == 0)] (by kernel_rfl) (by kernel_rfl) ?_
    refine b_split (t1038.2.1.f1 == 0) (fun h_ => ?_) (fun h_ => ?_)
    · have h1054 : t1038.2.1.f1 = 0 := by simpa using h_
      rw [if_pos h1054] at H
      rw [h_]
      clear h_
      refine r_vals 4 8 [.int .u8 t981.1, .int .u8 t1038.1, .bool (decide (t981.1 > t1038.1)), .bool (decide (t981.1 > t1038.1))] (by kernel_rfl) (by kernel_rfl) ?_
      refine r_fin 8 (by kernel_rfl) ?_
      refine q_then ?_
      refine w_into (class_reader_item.j1F b964 b973 a0 t981 b992 t1038 (decide (t981.1 > t1038.1))) (by kernel_rfl) (fun u_ => ?_)
      exact class_reader_item.j1.ok K a0b a0T a0 w r b964 b973 t981 b992 t1038 HR  (decide (t981.1 > t1038.1)) u_ w1048 k1050 hb1051 hb1052 hb1053 hb1047 ghb1027 ghb1028 ghb1029 nhb1026hb1027 nhb1026hb1028 nhb1026hb1029 nhb1027hb1028 nhb1027hb1029 nhb1028hb1029 H
    · have h1054 : ¬ (t1038.2.1.f1 = 0) := by simpa using h_
      rw [if_neg h1054] at H
      rw [h_]
      clear h_
      refine r_vals 4 8 [undef, undef, undef, .bool false] (by kernel_rfl) (by kernel_rfl) ?_
      refine r_fin 8 (by kernel_rfl) ?_
      refine q_then ?_
      refine w_into (class_reader_item.j1F b964 b973 a0 t981 b992 t1038 false) (by kernel_rfl) (fun u_ => ?_)
      exact class_reader_item.j1.ok K a0b a0T a0 w r b964 b973 t981 b992 t1038 HR  false u_ w1048 k1050 hb1051 hb1052 hb1053 hb1047 ghb1027 ghb1028 ghb1029 nhb1026hb1027 nhb1026hb1028 nhb1026hb1029 nhb1027hb1028 nhb1027hb1029 nhb1028hb1029 H
set_option maxRecDepth 20000 in
set_option maxHeartbeats 4000000 in
theorem class_reader_item.ok (K : Nat) (a0b : Nat) (a0T : Nat) (a0 : Tclass_reader) (w : World) (a0h : Blk w a0b #[.string a0.f0, .int .i64 a0.f1, .int .i64 a0.f2] a0T) (r : Tapi_Range × Tapi_Fault × Tclass_reader) (H : class_reader_item.f K a0 = some r) : Calls Try.prog 79 #[.pointer (some ⟨a0b, 0, none⟩)] w (class_reader_item.R a0b a0T r w) := by
  refine calls_cd (t := #[.pointer (some ⟨a0b, 0, none⟩), undef, undef, undef, undef, undef, undef, undef, undef, undef, undef, undef, undef, undef, undef, undef, undef, undef, undef, undef, undef, undef, undef, undef, undef, undef, undef, undef, undef, undef, undef, undef, undef, undef, undef, undef, undef, undef, undef, undef, undef, undef, undef, undef, undef, undef, undef, undef]) Try.func79 (by kernel_rfl) (by kernel_rfl) ?_
  unfold class_reader_item.f at H
  have HR : ∀ a w', bodyPost Try.prog Try.f79 (class_reader_item.R a0b a0T r w) .ret a w' → bodyPost Try.prog Try.f79 (class_reader_item.R a0b a0T r w) .ret a w' := fun _ _ h => h
  refine w_seq (p := []) (p0 := [0]) (p1 := [1]) (by kernel_rfl) ?_
  refine w_region (p := [0]) (id := 0) (by kernel_rfl) ?_
  refine r_do 0 (by kernel_rfl) (og_alloc (T := 44) (cs := #[.int .u8 0, .int .u8 0]) (by kernel_rfl) (by kernel_rfl) ?_) 
  intro b964 w961 e965 hb963 k962
  have n966 : a0b ≠ b964 := by rw [e965]; exact Nat.ne_of_lt a0h.lt
  have g967 : w.heap.size ≤ b964 := by rw [e965]; exact Kp.size (Kp.refl (One a0b) w)
  clear e965
  have k968 := Kp.trans (Kp.refl (One a0b) w) k962 (fun _ h => h.elim)
  have hb969 := Blk.kp a0h k962 id
  refine r_do 1 (by kernel_rfl) (og_alloc (T := 65) (cs := #[.int .i64 0, .int .i64 0]) (by kernel_rfl) (by kernel_rfl) ?_) 
  intro b973 w970 e974 hb972 k971
  have n975 : a0b ≠ b973 := by rw [e974]; exact Nat.ne_of_lt hb969.lt
  have n976 : b964 ≠ b973 := by rw [e974]; exact Nat.ne_of_lt hb963.lt
  have g977 : w.heap.size ≤ b973 := by rw [e974]; exact Kp.size k968
  clear e974
  have k978 := Kp.trans k968 k971 (fun _ h => h.elim)
  have hb979 := Blk.kp hb969 k971 id
  have hb980 := Blk.kp hb963 k971 id
  refine r_fin 2 (by kernel_rfl) ?_
  refine q_then ?_
  refine w_seq (p := [1]) (p0 := [1, 0]) (p1 := [1, 1]) (by kernel_rfl) ?_
  refine w_region (p := [1, 0]) (id := 1) (by kernel_rfl) ?_
  refine r_vals 0 3 [.pointer (some ⟨a0b, 0, none⟩), .pointer (some ⟨a0b, 0, none⟩), .pointer (some ⟨a0b, 2, none⟩)] (by kernel_rfl) (by kernel_rfl) ?_
  refine r_do 3 (by kernel_rfl) (og_load (T := 3) (x := (Operand.tmp 10)) (b := a0b) (off := 2) (.int .i64 a0.f2) (by kernel_rfl) (by kernel_rfl) hb979 (by kernel_rfl) ?_) 
  refine r_vals 4 5 [.int .i64 a0.f2] (by kernel_rfl) (by kernel_rfl) ?_
  refine r_fin 5 (by kernel_rfl) ?_
  refine q_then ?_
  refine w_seq (p := [1, 1]) (p0 := [1, 1, 0]) (p1 := [1, 1, 1]) (by kernel_rfl) ?_
  refine w_region (p := [1, 1, 0]) (id := 2) (by kernel_rfl) ?_
  refine r_vals 0 1 [.pointer (some ⟨a0b, 0, none⟩)] (by kernel_rfl) (by kernel_rfl) ?_
  obtain ⟨t981, ht982, H⟩ := Option.bind_eq_some_iff.1 H
  refine r_do 1 (by kernel_rfl) (og_call (g := 114) (av := #[.pointer (some ⟨a0b, 0, none⟩)]) (by kernel_rfl) ?_) 
  refine (class_reader_byte.ok K a0b a0T a0 w970 hb979 t981 ht982).mono ?_
  rintro e w983 ⟨rfl, k984, hb985⟩
  refine ⟨_, rfl, ?_⟩
  have k986 := Kp.trans k978 k984 (fun x hx => .inl hx)
  have hb987 := Blk.kp hb980 k984 (show ¬ (b964 = a0b) from (Ne.symm n966))
  have hb988 := Blk.kp hb972 k984 (show ¬ (b973 = a0b) from (Ne.symm n975))
  refine r_vals 2 5 [.tuple #[.int .u8 t981.1, .agg #[.int .i64 t981.2.1.f0, .int .i64 t981.2.1.f1]], .int .u8 t981.1, .agg #[.int .i64 t981.2.1.f0, .int .i64 t981.2.1.f1]] (by kernel_rfl) (by kernel_rfl) ?_
  refine r_do 5 (by kernel_rfl) (og_alloc (T := 65) (cs := #[.int .i64 0, .int .i64 0]) (by kernel_rfl) (by kernel_rfl) ?_) 
  intro b992 w989 e993 hb991 k990
  have n994 : a0b ≠ b992 := by rw [e993]; exact Nat.ne_of_lt hb985.lt
  have n995 : b964 ≠ b992 := by rw [e993]; exact Nat.ne_of_lt hb987.lt
  have n996 : b973 ≠ b992 := by rw [e993]; exact Nat.ne_of_lt hb988.lt
  have g997 : w.heap.size ≤ b992 := by rw [e993]; exact Kp.size k986
  clear e993
  have k998 := Kp.trans k986 k990 (fun _ h => h.elim)
  have hb999 := Blk.kp hb985 k990 id
  have hb1000 := Blk.kp hb987 k990 id
  have hb1001 := Blk.kp hb988 k990 id
  refine r_vals 6 7 [.int .u8 t981.1] (by kernel_rfl) (by kernel_rfl) ?_
  refine r_do 7 (by kernel_rfl) (og_store (T := 65) (x := (Operand.tmp 6)) (y := (Operand.tmp 16)) (b := b992) (off := 0) (.agg #[.int .i64 t981.2.1.f0, .int .i64 t981.2.1.f1]) (by kernel_rfl) (by kernel_rfl) (by kernel_rfl) hb991 (cs' := #[.int .i64 t981.2.1.f0, .int .i64 t981.2.1.f1]) (by kernel_rfl) ?_) 
  intro w1003 hb1002 k1004 _
  have k1005 := Kp.trans k998 k1004 (fun x hx => .inr (by rw [show x = _ from hx]; exact g997))
  have hb1006 := Blk.kp hb999 k1004 (show ¬ (a0b = b992) from n994)
  have hb1007 := Blk.kp hb1000 k1004 (show ¬ (b964 = b992) from n995)
  have hb1008 := Blk.kp hb1001 k1004 (show ¬ (b973 = b992) from n996)
  refine r_fin 8 (by kernel_rfl) ?_
  refine q_then ?_
  refine w_seq (p := [1, 1, 1]) (p0 := [1, 1, 1, 0]) (p1 := [1, 1, 1, 1]) (by kernel_rfl) ?_
  refine w_seq (p := [1, 1, 1, 0]) (p0 := [1, 1, 1, 0, 0]) (p1 := [1, 1, 1, 0, 1]) (by kernel_rfl) ?_
  refine w_region (p := [1, 1, 1, 0, 0]) (id := 3) (by kernel_rfl) ?_
  refine r_vals 0 1 [.pointer (some ⟨b992, 1, none⟩)] (by kernel_rfl) (by kernel_rfl) ?_
  refine r_do 1 (by kernel_rfl) (og_load (T := 46) (x := (Operand.tmp 17)) (b := b992) (off := 1) (.int .i64 t981.2.1.f1) (by kernel_rfl) (by kernel_rfl) hb1002 (by kernel_rfl) ?_) 
  refine r_vals 2 4 [.bool (t981.2.1.f1 != 0), .bool (t981.2.1.f1 != 0)] (by kernel_rfl) (by kernel_rfl) ?_
  refine b_split (t981.2.1.f1 != 0) (fun h_ => ?_) (fun h_ => ?_)
  · have h1009 : ¬ (t981.2.1.f1 = 0) := by simpa using h_
    rw [if_pos h1009] at H
    rw [h_]
    clear h_
    refine r_vals 4 8 [undef, undef, undef, .bool true] (by kernel_rfl) (by kernel_rfl) ?_
    refine r_fin 8 (by kernel_rfl) ?_
    refine q_then ?_
    refine w_into (class_reader_item.j0F a0b b964 b973 a0 t981 b992 true) (by kernel_rfl) (fun u_ => ?_)
    exact class_reader_item.j0.ok K a0b a0T a0 w r b964 b973 t981 b992 HR  true t981.2.2.f0 t981.2.2.f1 t981.2.2.f2 u_ w1003 k1005 hb1006 hb1007 hb1008 hb1002 g967 g977 g997 n966 n975 n994 n976 n995 n996 H
  · have h1009 : ¬ (¬ (t981.2.1.f1 = 0)) := by simpa using h_
    rw [if_neg h1009] at H
    rw [h_]
    clear h_
    refine r_vals 4 5 [.pointer (some ⟨a0b, 0, none⟩)] (by kernel_rfl) (by kernel_rfl) ?_
    obtain ⟨t1010, ht1011, H⟩ := Option.bind_eq_some_iff.1 H
    refine r_do 5 (by kernel_rfl) (og_call (g := 78) (av := #[.pointer (some ⟨a0b, 0, none⟩), .int .u8 45]) (by kernel_rfl) ?_) 
    refine (class_reader_skip.ok K a0b a0T t981.2.2 45 w1003 hb1006 t1010 ht1011).mono ?_
    rintro e w1012 ⟨rfl, k1013, hb1014⟩
    refine ⟨_, rfl, ?_⟩
    have k1015 := Kp.trans k1005 k1013 (fun x hx => .inl hx)
    have hb1016 := Blk.kp hb1007 k1013 (show ¬ (b964 = a0b) from (Ne.symm n966))
    have hb1017 := Blk.kp hb1008 k1013 (show ¬ (b973 = a0b) from (Ne.symm n975))
    have hb1018 := Blk.kp hb1002 k1013 (show ¬ (b992 = a0b) from (Ne.symm n994))
    refine r_vals 6 8 [.bool (!t1010.1), .bool (!t1010.1)] (by kernel_rfl) (by kernel_rfl) ?_
    refine r_fin 8 (by kernel_rfl) ?_
    refine q_then ?_
    refine w_into (class_reader_item.j0F a0b b964 b973 a0 t981 b992 (!t1010.1)) (by kernel_rfl) (fun u_ => ?_)
    exact class_reader_item.j0.ok K a0b a0T a0 w r b964 b973 t981 b992 HR  (!t1010.1) t1010.2.f0 t1010.2.f1 t1010.2.f2 u_ w1012 k1015 hb1014 hb1016 hb1017 hb1018 g967 g977 g997 n966 n975 n994 n976 n995 n996 H
/-! ### dowel/class.Parse -/
def class_Parse.F2 (b1090 : Nat) (b1097 : Nat) (b1144 : Nat) (t1152 : Bool × Tclass_reader) (A1295 : Option Addr) (x1294 : List Tapi_Range) (c1296 : Nat) (u_ : Nat → Value) : Array Value := #[u_ 0, u_ 1, u_ 2, u_ 3, .pointer (some ⟨b1090, 0, none⟩), u_ 5, .pointer (some ⟨b1097, 0, none⟩), .pointer (some ⟨b1144, 0, none⟩), .bool t1152.1, .slice A1295 x1294.length c1296, u_ 10, u_ 11, u_ 12, u_ 13, u_ 14, u_ 15, u_ 16, u_ 17, u_ 18, u_ 19, u_ 20, u_ 21, u_ 22, u_ 23, u_ 24, u_ 25, u_ 26, u_ 27, u_ 28, u_ 29, u_ 30, u_ 31, u_ 32, u_ 33, u_ 34, u_ 35, u_ 36, u_ 37, u_ 38, u_ 39, u_ 40, u_ 41, u_ 42, u_ 43, u_ 44, u_ 45, u_ 46, u_ 47, u_ 48, u_ 49, u_ 50, u_ 51, u_ 52, u_ 53, u_ 54, u_ 55, u_ 56, u_ 57, u_ 58, u_ 59, u_ 60, u_ 61, u_ 62, u_ 63, u_ 64, u_ 65, u_ 66, u_ 67, u_ 68, u_ 69, u_ 70, u_ 71]
def class_Parse.F2_0 (b1090 : Nat) (b1097 : Nat) (b1144 : Nat) (t1152 : Bool × Tclass_reader) (A1436 : Option Addr) (x1435 : List Tapi_Range) (c1437 : Nat) (u_ : Nat → Value) : Array Value := #[u_ 0, u_ 1, u_ 2, u_ 3, .pointer (some ⟨b1090, 0, none⟩), u_ 5, .pointer (some ⟨b1097, 0, none⟩), .pointer (some ⟨b1144, 0, none⟩), .bool t1152.1, .slice A1436 x1435.length c1437, u_ 10, u_ 11, u_ 12, u_ 13, u_ 14, u_ 15, u_ 16, u_ 17, u_ 18, u_ 19, u_ 20, u_ 21, u_ 22, u_ 23, u_ 24, u_ 25, u_ 26, u_ 27, u_ 28, u_ 29, u_ 30, u_ 31, u_ 32, u_ 33, u_ 34, u_ 35, u_ 36, u_ 37, u_ 38, u_ 39, u_ 40, u_ 41, u_ 42, u_ 43, u_ 44, u_ 45, u_ 46, u_ 47, u_ 48, u_ 49, u_ 50, u_ 51, u_ 52, u_ 53, u_ 54, u_ 55, u_ 56, u_ 57, u_ 58, u_ 59, u_ 60, u_ 61, u_ 62, u_ 63, u_ 64, u_ 65, u_ 66, u_ 67, u_ 68, u_ 69, u_ 70, u_ 71]
def class_Parse.b2 (K : Nat) (next2 : List Tapi_Range → ByteArray → Int → Int → Option (Tapi_Class × Int × Tapi_Fault)) (brk2_0 : List Tapi_Range → ByteArray → Int → Int → Option (Tapi_Class × Int × Tapi_Fault)) (x1294 : List Tapi_Range) (x1299 : ByteArray) (x1300 : Int) (x1301 : Int) : Option (Tapi_Class × Int × Tapi_Fault) := (class_reader_skip.f K (⟨x1299, x1300, x1301⟩ : Tclass_reader) 93).bind fun t1311 => (if ¬ (t1311.1 = true) then ((class_reader_item.f K t1311.2).bind fun t1321 => (if ¬ (t1321.2.1.f1 = 0) then (some (zapi_Class, 0, t1321.2.1)) else (if (x1294.length + 1) * 3 ≤ 140737488355328 then (next2 (x1294 ++ ([t1321.1] : List Tapi_Range)) t1321.2.2.f0 t1321.2.2.f1 t1321.2.2.f2) else none))) else (brk2_0 x1294 t1311.2.f0 t1311.2.f1 t1311.2.f2))
def class_Parse.l2 (K : Nat) (brk2_0 : List Tapi_Range → ByteArray → Int → Int → Option (Tapi_Class × Int × Tapi_Fault)) : Nat → List Tapi_Range → ByteArray → Int → Int → Option (Tapi_Class × Int × Tapi_Fault)
  | 0, _, _, _, _ => none
  | n_ + 1, x1294, x1299, x1300, x1301 => class_Parse.b2 K (class_Parse.l2 K brk2_0 n_) brk2_0 x1294 x1299 x1300 x1301
def class_Parse.j0F (a0 : ByteArray) (a1 : Int) (b1090 : Nat) (b1097 : Nat) (x1107 : Bool) (u_ : Nat → Value) : Array Value := #[.string a0, .int .i64 a1, u_ 2, u_ 3, .pointer (some ⟨b1090, 0, none⟩), u_ 5, .pointer (some ⟨b1097, 0, none⟩), u_ 7, u_ 8, u_ 9, u_ 10, u_ 11, u_ 12, u_ 13, u_ 14, u_ 15, u_ 16, u_ 17, u_ 18, u_ 19, .bool x1107, u_ 21, u_ 22, u_ 23, u_ 24, u_ 25, u_ 26, u_ 27, u_ 28, u_ 29, u_ 30, u_ 31, u_ 32, u_ 33, u_ 34, u_ 35, u_ 36, u_ 37, u_ 38, u_ 39, u_ 40, u_ 41, u_ 42, u_ 43, u_ 44, u_ 45, u_ 46, u_ 47, u_ 48, u_ 49, u_ 50, u_ 51, u_ 52, u_ 53, u_ 54, u_ 55, u_ 56, u_ 57, u_ 58, u_ 59, u_ 60, u_ 61, u_ 62, u_ 63, u_ 64, u_ 65, u_ 66, u_ 67, u_ 68, u_ 69, u_ 70, u_ 71]
def class_Parse.j1F (a0 : ByteArray) (a1 : Int) (b1090 : Nat) (b1097 : Nat) (x1127 : Bool) (u_ : Nat → Value) : Array Value := #[.string a0, .int .i64 a1, u_ 2, u_ 3, .pointer (some ⟨b1090, 0, none⟩), u_ 5, .pointer (some ⟨b1097, 0, none⟩), u_ 7, u_ 8, u_ 9, u_ 10, u_ 11, u_ 12, u_ 13, u_ 14, u_ 15, u_ 16, u_ 17, u_ 18, u_ 19, u_ 20, u_ 21, u_ 22, u_ 23, u_ 24, u_ 25, u_ 26, u_ 27, u_ 28, u_ 29, u_ 30, u_ 31, .bool x1127, u_ 33, u_ 34, u_ 35, u_ 36, u_ 37, u_ 38, u_ 39, u_ 40, u_ 41, u_ 42, u_ 43, u_ 44, u_ 45, u_ 46, u_ 47, u_ 48, u_ 49, u_ 50, u_ 51, u_ 52, u_ 53, u_ 54, u_ 55, u_ 56, u_ 57, u_ 58, u_ 59, u_ 60, u_ 61, u_ 62, u_ 63, u_ 64, u_ 65, u_ 66, u_ 67, u_ 68, u_ 69, u_ 70, u_ 71]
def class_Parse.j3F (b1090 : Nat) (b1097 : Nat) (b1144 : Nat) (b1464 : Nat) (u_ : Nat → Value) : Array Value := #[u_ 0, u_ 1, u_ 2, u_ 3, .pointer (some ⟨b1090, 0, none⟩), u_ 5, .pointer (some ⟨b1097, 0, none⟩), .pointer (some ⟨b1144, 0, none⟩), u_ 8, u_ 9, u_ 10, u_ 11, .pointer (some ⟨b1464, 0, none⟩), u_ 13, u_ 14, u_ 15, u_ 16, u_ 17, u_ 18, u_ 19, u_ 20, u_ 21, u_ 22, u_ 23, u_ 24, u_ 25, u_ 26, u_ 27, u_ 28, u_ 29, u_ 30, u_ 31, u_ 32, u_ 33, u_ 34, u_ 35, u_ 36, u_ 37, u_ 38, u_ 39, u_ 40, u_ 41, u_ 42, u_ 43, u_ 44, u_ 45, u_ 46, u_ 47, u_ 48, u_ 49, u_ 50, u_ 51, u_ 52, u_ 53, u_ 54, u_ 55, u_ 56, u_ 57, u_ 58, u_ 59, u_ 60, u_ 61, u_ 62, u_ 63, u_ 64, u_ 65, u_ 66, u_ 67, u_ 68, u_ 69, u_ 70, u_ 71]
def class_Parse.j3 (y1442 : Int) (y1509 : Int) (y1510 : Int) (y1511 : Int) (y1512 : Int) : Option (Tapi_Class × Int × Tapi_Fault) := some ((⟨y1509, y1510, y1511, y1512⟩ : Tapi_Class), y1442, zapi_Fault)
def class_Parse.j1 (a1 : Int) (K : Nat) (a0 : ByteArray) (x1127 : Bool) : Option (Tapi_Class × Int × Tapi_Fault) := if x1127 = true then (some (zapi_Class, 0, (⟨a1, 30⟩ : Tapi_Fault))) else ((class_reader_skip.f K (⟨a0, a1, W (a1 + 1)⟩ : Tclass_reader) 94).bind fun t1152 => (class_Parse.l2 K (fun x1435 y1440 y1441 y1442 => (class_Of.f K x1435).bind fun t1452 => (if t1152.1 = true then ((class_Not.f K t1452).bind fun t1485 => (class_Parse.j3 y1442 t1485.f0 t1485.f1 t1485.f2 t1485.f3)) else (class_Parse.j3 y1442 t1452.f0 t1452.f1 t1452.f2 t1452.f3))) K ([] : List Tapi_Range) t1152.2.f0 t1152.2.f1 t1152.2.f2))
def class_Parse.j0 (a1 : Int) (a0 : ByteArray) (K : Nat) (x1107 : Bool) : Option (Tapi_Class × Int × Tapi_Fault) := if x1107 = true then (some (zapi_Class, 0, (⟨0, 5⟩ : Tapi_Fault))) else (if a1 = (a0.size : Int) then (class_Parse.j1 a1 K a0 true) else (if 0 ≤ a1 then (if a1 < (a0.size : Int) then (class_Parse.j1 a1 K a0 ((bt a0 a1) != 91)) else none) else none))
def class_Parse.f (K : Nat) (a0 : ByteArray) (a1 : Int) : Option (Tapi_Class × Int × Tapi_Fault) := if a1 < 0 then (class_Parse.j0 a1 a0 K true) else (class_Parse.j0 a1 a0 K (decide (a1 > (a0.size : Int))))
def class_Parse.R (r : Tapi_Class × Int × Tapi_Fault) (w : World) : Ending → World → Prop := fun e w' => e = .returned (.tuple #[.agg #[.int .u64 r.1.f0, .int .u64 r.1.f1, .int .u64 r.1.f2, .int .u64 r.1.f3], .int .i64 r.2.1, .agg #[.int .i64 r.2.2.f0, .int .i64 r.2.2.f1]]) ∧ Kp No w w'
set_option maxRecDepth 20000 in
set_option maxHeartbeats 4000000 in
theorem class_Parse.b2.ok (K : Nat) (a0 : ByteArray) (a1 : Int) (w : World) (r : Tapi_Class × Int × Tapi_Fault) (b1090 : Nat) (b1097 : Nat) (b1144 : Nat) (t1152 : Bool × Tclass_reader) {Q : Exit → Act → World → Prop} (HR : ∀ a w', bodyPost Try.prog Try.f32 (class_Parse.R r w) .ret a w' → Q .ret a w') {next2 : List Tapi_Range → ByteArray → Int → Int → Option (Tapi_Class × Int × Tapi_Fault)} {brk2_0 : List Tapi_Range → ByteArray → Int → Int → Option (Tapi_Class × Int × Tapi_Fault)} (HN2 : ∀ (x1294q : List Tapi_Range) (x1299q : ByteArray) (x1300q : Int) (x1301q : Int) (A1295q : Option Addr) (c1296q : Nat) (u1291q : Nat → Value) (w1292q : World) (k1293q : Kp No w w1292q) (hb1297q : Blk w1292q b1090 #[.int .u64 0, .int .u64 0, .int .u64 0, .int .u64 0] 37) (hb1298q : Blk w1292q b1097 #[.int .i64 0, .int .i64 0] 65) (hb1302q : Blk w1292q b1144 #[.string x1299q, .int .i64 x1300q, .int .i64 x1301q] 146) (ghb1297q : w.heap.size ≤ b1090) (ghb1298q : w.heap.size ≤ b1097) (ghb1302q : w.heap.size ≤ b1144) (nhb1297hb1298q : b1090 ≠ b1097) (nhb1297hb1302q : b1090 ≠ b1144) (nhb1298hb1302q : b1097 ≠ b1144) (ho1307q : Ow w (Kapi_Range 44) w1292q A1295q x1294q.length c1296q x1294q) (n1308q : Dj (One b1090) (Ra A1295q)) (n1309q : Dj (One b1097) (Ra A1295q)) (n1310q : Dj (One b1144) (Ra A1295q)), next2 x1294q x1299q x1300q x1301q = some r → Q .normal ⟨class_Parse.F2 b1090 b1097 b1144 t1152 A1295q x1294q c1296q u1291q, []⟩ w1292q) (HX2_0 : ∀ (x1435q : List Tapi_Range) (y1440q : ByteArray) (y1441q : Int) (y1442q : Int) (A1436q : Option Addr) (c1437q : Nat) (u1433q : Nat → Value) (w1431q : World) (k1432q : Kp No w w1431q) (hb1438q : Blk w1431q b1090 #[.int .u64 0, .int .u64 0, .int .u64 0, .int .u64 0] 37) (hb1439q : Blk w1431q b1097 #[.int .i64 0, .int .i64 0] 65) (hb1443q : Blk w1431q b1144 #[.string y1440q, .int .i64 y1441q, .int .i64 y1442q] 146) (ghb1438q : w.heap.size ≤ b1090) (ghb1439q : w.heap.size ≤ b1097) (ghb1443q : w.heap.size ≤ b1144) (nhb1438hb1439q : b1090 ≠ b1097) (nhb1438hb1443q : b1090 ≠ b1144) (nhb1439hb1443q : b1097 ≠ b1144) (ho1448q : Ow w (Kapi_Range 44) w1431q A1436q x1435q.length c1437q x1435q) (n1449q : Dj (One b1090) (Ra A1436q)) (n1450q : Dj (One b1097) (Ra A1436q)) (n1451q : Dj (One b1144) (Ra A1436q)), brk2_0 x1435q y1440q y1441q y1442q = some r → Q (.exit 0) ⟨class_Parse.F2_0 b1090 b1097 b1144 t1152 A1436q x1435q c1437q u1433q, []⟩ w1431q) (x1294 : List Tapi_Range) (x1299 : ByteArray) (x1300 : Int) (x1301 : Int) (A1295 : Option Addr) (c1296 : Nat) (u1291 : Nat → Value) (w1292 : World) (k1293 : Kp No w w1292) (hb1297 : Blk w1292 b1090 #[.int .u64 0, .int .u64 0, .int .u64 0, .int .u64 0] 37) (hb1298 : Blk w1292 b1097 #[.int .i64 0, .int .i64 0] 65) (hb1302 : Blk w1292 b1144 #[.string x1299, .int .i64 x1300, .int .i64 x1301] 146) (ghb1297 : w.heap.size ≤ b1090) (ghb1298 : w.heap.size ≤ b1097) (ghb1302 : w.heap.size ≤ b1144) (nhb1297hb1298 : b1090 ≠ b1097) (nhb1297hb1302 : b1090 ≠ b1144) (nhb1298hb1302 : b1097 ≠ b1144) (ho1307 : Ow w (Kapi_Range 44) w1292 A1295 x1294.length c1296 x1294) (n1308 : Dj (One b1090) (Ra A1295)) (n1309 : Dj (One b1097) (Ra A1295)) (n1310 : Dj (One b1144) (Ra A1295)) (H : class_Parse.b2 K next2 brk2_0 x1294 x1299 x1300 x1301 = some r) : (cd Try.f32 [1, 1, 1, 1, 1, 1, 0, 0, 0]).wp Try.prog Q ⟨class_Parse.F2 b1090 b1097 b1144 t1152 A1295 x1294 c1296 u1291, []⟩ w1292 := by
  unfold class_Parse.b2 at H
  refine w_seq (p := [1, 1, 1, 1, 1, 1, 0, 0, 0]) (p0 := [1, 1, 1, 1, 1, 1, 0, 0, 0, 0]) (p1 := [1, 1, 1, 1, 1, 1, 0, 0, 0, 1]) (by kernel_rfl) ?_
  refine w_seq (p := [1, 1, 1, 1, 1, 1, 0, 0, 0, 0]) (p0 := [1, 1, 1, 1, 1, 1, 0, 0, 0, 0, 0]) (p1 := [1, 1, 1, 1, 1, 1, 0, 0, 0, 0, 1]) (by kernel_rfl) ?_
  refine w_region (p := [1, 1, 1, 1, 1, 1, 0, 0, 0, 0, 0]) (id := 8) (by kernel_rfl) ?_
  refine r_vals 0 1 [.pointer (some ⟨b1144, 0, none⟩)] (by kernel_rfl) (by kernel_rfl) ?_
  obtain ⟨t1311, ht1312, H⟩ := Option.bind_eq_some_iff.1 H
  refine r_do 1 (by kernel_rfl) (og_call (g := 78) (av := #[.pointer (some ⟨b1144, 0, none⟩), .int .u8 93]) (by kernel_rfl) ?_) 
  refine (class_reader_skip.ok K b1144 146 (⟨x1299, x1300, x1301⟩ : Tclass_reader) 93 w1292 hb1302 t1311 ht1312).mono ?_
  rintro e w1313 ⟨rfl, k1314, hb1315⟩
  refine ⟨_, rfl, ?_⟩
  have k1316 := Kp.trans k1293 k1314 (fun x hx => .inr (by rw [show x = _ from hx]; exact ghb1302))
  have hb1317 := Blk.kp hb1297 k1314 (show ¬ (b1090 = b1144) from nhb1297hb1302)
  have hb1318 := Blk.kp hb1298 k1314 (show ¬ (b1097 = b1144) from nhb1298hb1302)
  have ho1319 := Ow.kp ho1307 k1314 (Dj.symm n1310)
  refine r_vals 2 3 [.bool (!t1311.1)] (by kernel_rfl) (by kernel_rfl) ?_
  refine r_fin 3 (by kernel_rfl) ?_
  refine q_then ?_
  refine w_cond (p := [1, 1, 1, 1, 1, 1, 0, 0, 0, 0, 1]) (p0 := [1, 1, 1, 1, 1, 1, 0, 0, 0, 0, 1, 0]) (p1 := [1, 1, 1, 1, 1, 1, 0, 0, 0, 0, 1, 1]) (c := (Operand.tmp 46)) (b := !t1311.1) (by kernel_rfl) (by kernel_rfl) ?_ ?_
  · intro h_
    have h1320 : ¬ (t1311.1 = true) := bnot_t h_
    clear h_
    rw [if_pos h1320] at H
    refine w_skip (p := [1, 1, 1, 1, 1, 1, 0, 0, 0, 0, 1, 0]) (by kernel_rfl) ?_
    refine q_then ?_
    refine w_block (p := [1, 1, 1, 1, 1, 1, 0, 0, 0, 1]) (p0 := [1, 1, 1, 1, 1, 1, 0, 0, 0, 1, 0]) (id := 1) (by kernel_rfl) ?_
    refine w_seq (p := [1, 1, 1, 1, 1, 1, 0, 0, 0, 1, 0]) (p0 := [1, 1, 1, 1, 1, 1, 0, 0, 0, 1, 0, 0]) (p1 := [1, 1, 1, 1, 1, 1, 0, 0, 0, 1, 0, 1]) (by kernel_rfl) ?_
    refine w_region (p := [1, 1, 1, 1, 1, 1, 0, 0, 0, 1, 0, 0]) (id := 9) (by kernel_rfl) ?_
    refine r_vals 0 1 [.pointer (some ⟨b1144, 0, none⟩)] (by kernel_rfl) (by kernel_rfl) ?_
    obtain ⟨t1321, ht1322, H⟩ := Option.bind_eq_some_iff.1 H
    refine r_do 1 (by kernel_rfl) (og_call (g := 79) (av := #[.pointer (some ⟨b1144, 0, none⟩)]) (by kernel_rfl) ?_) 
    refine (class_reader_item.ok K b1144 146 t1311.2 w1313 hb1315 t1321 ht1322).mono ?_
    rintro e w1323 ⟨rfl, k1324, hb1325⟩
    refine ⟨_, rfl, ?_⟩
    have k1326 := Kp.trans k1316 k1324 (fun x hx => .inr (by rw [show x = _ from hx]; exact ghb1302))
    have hb1327 := Blk.kp hb1317 k1324 (show ¬ (b1090 = b1144) from nhb1297hb1302)
    have hb1328 := Blk.kp hb1318 k1324 (show ¬ (b1097 = b1144) from nhb1298hb1302)
    have ho1329 := Ow.kp ho1319 k1324 (Dj.symm n1310)
    refine r_vals 2 5 [.tuple #[.agg #[.int .u8 t1321.1.f0, .int .u8 t1321.1.f1], .agg #[.int .i64 t1321.2.1.f0, .int .i64 t1321.2.1.f1]], .agg #[.int .u8 t1321.1.f0, .int .u8 t1321.1.f1], .agg #[.int .i64 t1321.2.1.f0, .int .i64 t1321.2.1.f1]] (by kernel_rfl) (by kernel_rfl) ?_
    refine r_do 5 (by kernel_rfl) (og_alloc (T := 44) (cs := #[.int .u8 0, .int .u8 0]) (by kernel_rfl) (by kernel_rfl) ?_) 
    intro b1333 w1330 e1334 hb1332 k1331
    have n1335 : b1090 ≠ b1333 := by rw [e1334]; exact Nat.ne_of_lt hb1327.lt
    have n1336 : b1097 ≠ b1333 := by rw [e1334]; exact Nat.ne_of_lt hb1328.lt
    have n1337 : b1144 ≠ b1333 := by rw [e1334]; exact Nat.ne_of_lt hb1325.lt
    have n1338 := Ow.dj_block ho1329 e1334
    have g1339 : w.heap.size ≤ b1333 := by rw [e1334]; exact Kp.size k1326
    clear e1334
    have k1340 := Kp.trans k1326 k1331 (fun _ h => h.elim)
    have hb1341 := Blk.kp hb1327 k1331 id
    have hb1342 := Blk.kp hb1328 k1331 id
    have hb1343 := Blk.kp hb1325 k1331 id
    have ho1344 := Ow.kpNo ho1329 k1331
    refine r_do 6 (by kernel_rfl) (og_alloc (T := 65) (cs := #[.int .i64 0, .int .i64 0]) (by kernel_rfl) (by kernel_rfl) ?_) 
    intro b1348 w1345 e1349 hb1347 k1346
    have n1350 : b1090 ≠ b1348 := by rw [e1349]; exact Nat.ne_of_lt hb1341.lt
    have n1351 : b1097 ≠ b1348 := by rw [e1349]; exact Nat.ne_of_lt hb1342.lt
    have n1352 : b1144 ≠ b1348 := by rw [e1349]; exact Nat.ne_of_lt hb1343.lt
    have n1353 : b1333 ≠ b1348 := by rw [e1349]; exact Nat.ne_of_lt hb1332.lt
    have n1354 := Ow.dj_block ho1344 e1349
    have g1355 : w.heap.size ≤ b1348 := by rw [e1349]; exact Kp.size k1340
    clear e1349
    have k1356 := Kp.trans k1340 k1346 (fun _ h => h.elim)
    have hb1357 := Blk.kp hb1341 k1346 id
    have hb1358 := Blk.kp hb1342 k1346 id
    have hb1359 := Blk.kp hb1343 k1346 id
    have hb1360 := Blk.kp hb1332 k1346 id
    have ho1361 := Ow.kpNo ho1344 k1346
    refine r_do 7 (by kernel_rfl) (og_store (T := 44) (x := (Operand.tmp 10)) (y := (Operand.tmp 50)) (b := b1333) (off := 0) (.agg #[.int .u8 t1321.1.f0, .int .u8 t1321.1.f1]) (by kernel_rfl) (by kernel_rfl) (by kernel_rfl) hb1360 (cs' := #[.int .u8 t1321.1.f0, .int .u8 t1321.1.f1]) (by kernel_rfl) ?_) 
    intro w1363 hb1362 k1364 _
    have k1365 := Kp.trans k1356 k1364 (fun x hx => .inr (by rw [show x = _ from hx]; exact g1339))
    have hb1366 := Blk.kp hb1357 k1364 (show ¬ (b1090 = b1333) from n1335)
    have hb1367 := Blk.kp hb1358 k1364 (show ¬ (b1097 = b1333) from n1336)
    have hb1368 := Blk.kp hb1359 k1364 (show ¬ (b1144 = b1333) from n1337)
    have hb1369 := Blk.kp hb1347 k1364 (show ¬ (b1348 = b1333) from (Ne.symm n1353))
    have ho1370 := Ow.kp ho1361 k1364 n1338
    refine r_do 8 (by kernel_rfl) (og_store (T := 65) (x := (Operand.tmp 11)) (y := (Operand.tmp 51)) (b := b1348) (off := 0) (.agg #[.int .i64 t1321.2.1.f0, .int .i64 t1321.2.1.f1]) (by kernel_rfl) (by kernel_rfl) (by kernel_rfl) hb1369 (cs' := #[.int .i64 t1321.2.1.f0, .int .i64 t1321.2.1.f1]) (by kernel_rfl) ?_) 
    intro w1372 hb1371 k1373 _
    have k1374 := Kp.trans k1365 k1373 (fun x hx => .inr (by rw [show x = _ from hx]; exact g1355))
    have hb1375 := Blk.kp hb1366 k1373 (show ¬ (b1090 = b1348) from n1350)
    have hb1376 := Blk.kp hb1367 k1373 (show ¬ (b1097 = b1348) from n1351)
    have hb1377 := Blk.kp hb1368 k1373 (show ¬ (b1144 = b1348) from n1352)
    have hb1378 := Blk.kp hb1362 k1373 (show ¬ (b1333 = b1348) from n1353)
    have ho1379 := Ow.kp ho1370 k1373 n1354
    refine r_fin 9 (by kernel_rfl) ?_
    refine q_then ?_
    refine w_seq (p := [1, 1, 1, 1, 1, 1, 0, 0, 0, 1, 0, 1]) (p0 := [1, 1, 1, 1, 1, 1, 0, 0, 0, 1, 0, 1, 0]) (p1 := [1, 1, 1, 1, 1, 1, 0, 0, 0, 1, 0, 1, 1]) (by kernel_rfl) ?_
    refine w_seq (p := [1, 1, 1, 1, 1, 1, 0, 0, 0, 1, 0, 1, 0]) (p0 := [1, 1, 1, 1, 1, 1, 0, 0, 0, 1, 0, 1, 0, 0]) (p1 := [1, 1, 1, 1, 1, 1, 0, 0, 0, 1, 0, 1, 0, 1]) (by kernel_rfl) ?_
    refine w_region (p := [1, 1, 1, 1, 1, 1, 0, 0, 0, 1, 0, 1, 0, 0]) (id := 10) (by kernel_rfl) ?_
    refine r_vals 0 1 [.pointer (some ⟨b1348, 1, none⟩)] (by kernel_rfl) (by kernel_rfl) ?_
    refine r_do 1 (by kernel_rfl) (og_load (T := 46) (x := (Operand.tmp 52)) (b := b1348) (off := 1) (.int .i64 t1321.2.1.f1) (by kernel_rfl) (by kernel_rfl) hb1371 (by kernel_rfl) ?_) 
    refine r_vals 2 3 [.bool (t1321.2.1.f1 != 0)] (by kernel_rfl) (by kernel_rfl) ?_
    refine r_fin 3 (by kernel_rfl) ?_
    refine q_then ?_
    refine w_cond (p := [1, 1, 1, 1, 1, 1, 0, 0, 0, 1, 0, 1, 0, 1]) (p0 := [1, 1, 1, 1, 1, 1, 0, 0, 0, 1, 0, 1, 0, 1, 0]) (p1 := [1, 1, 1, 1, 1, 1, 0, 0, 0, 1, 0, 1, 0, 1, 1]) (c := (Operand.tmp 54)) (b := t1321.2.1.f1 != 0) (by kernel_rfl) (by kernel_rfl) ?_ ?_
    · intro h_
      have h1380 : ¬ (t1321.2.1.f1 = 0) := by simpa using h_
      clear h_
      rw [if_pos h1380] at H
      refine w_seq (p := [1, 1, 1, 1, 1, 1, 0, 0, 0, 1, 0, 1, 0, 1, 0]) (p0 := [1, 1, 1, 1, 1, 1, 0, 0, 0, 1, 0, 1, 0, 1, 0, 0]) (p1 := [1, 1, 1, 1, 1, 1, 0, 0, 0, 1, 0, 1, 0, 1, 0, 1]) (by kernel_rfl) ?_
      refine w_drawk (p := [1, 1, 1, 1, 1, 1, 0, 0, 0, 1, 0, 1, 0, 1, 0, 0]) (id := 11) (by kernel_rfl) (by kernel_rfl) [0, 0, 1, 5, 15] 5 (by kernel_rfl) (J := (fun b_ w_ => Kp (fun k => k = b1090 ∨ k = b1097) w1372 w_ ∧ Blk w_ b1090 (if b_ 2 = true then #[.int .u64 0, .int .u64 0, .int .u64 0, .int .u64 0] else #[.int .u64 0, .int .u64 0, .int .u64 0, .int .u64 0]) 37 ∧ Blk w_ b1097 (if b_ 4 = true then #[.int .i64 t1321.2.1.f0, .int .i64 t1321.2.1.f1] else #[.int .i64 0, .int .i64 0]) 65)) (fun w_ h1 h2 h3 h4 => ⟨Kp.same h1 h2 h3 h4, by simpa using hb1375.same h1, by simpa using hb1376.same h1⟩) ?_
      refine k_pure 1 [.agg #[.int .u64 0, .int .u64 0, .int .u64 0, .int .u64 0]] (by kernel_rfl) (fun _ => by kernel_rfl) (fun k h1 h2 b w h => by simpa [up, show ¬ (2 = k) by omega, show ¬ (4 = k) by omega] using h) ?_
      refine k_op (.agg #[.int .i64 t1321.2.1.f0, .int .i64 t1321.2.1.f1]) (by kernel_rfl) (fun b_ w_ hJ hb_ hd_ he_ => og_load (T := 65) (x := (Operand.tmp 11)) (b := b1348) (off := 0) (.agg #[.int .i64 t1321.2.1.f0, .int .i64 t1321.2.1.f1]) (by kernel_rfl) (by kernel_rfl) (Blk.kp hb1371 hJ.1 (by simp only [not_or]; exact ⟨(Ne.symm n1350), (Ne.symm n1351)⟩)) (by kernel_rfl) ⟨rfl, by simpa [up] using hJ⟩) ?_
      refine k_op (undef) (by kernel_rfl) (fun b_ w_ hJ hb_ hd_ he_ => og_store (T := 37) (x := (Operand.tmp 4)) (y := (Operand.tmp 55)) (b := b1090) (off := 0) (.agg #[.int .u64 0, .int .u64 0, .int .u64 0, .int .u64 0]) (by kernel_rfl) (by kernel_rfl) (by kernel_rfl) (by have h_ := hJ.2.1; rw [if_neg (by rw [hb_]; decide)] at h_; exact h_) (cs' := #[.int .u64 0, .int .u64 0, .int .u64 0, .int .u64 0]) (by kernel_rfl) (fun w2_ h2_ k2_ _ => ⟨rfl, Kp.trans hJ.1 k2_ (fun x hx => .inl (by rw [show x = _ from hx] <;> simp)), by rw [if_pos (by simp [up])]; exact h2_, by have h5_ := Blk.kp hJ.2.2 k2_ (Ne.symm nhb1297hb1298); simpa [up] using h5_⟩)) ?_
      refine k_pure 4 [.int .i64 0] (by kernel_rfl) (fun _ => by kernel_rfl) (fun k h1 h2 b w h => by simpa [up, show ¬ (2 = k) by omega, show ¬ (4 = k) by omega] using h) ?_
      refine k_op (undef) (by kernel_rfl) (fun b_ w_ hJ hb_ hd_ he_ => og_store (T := 65) (x := (Operand.tmp 6)) (y := (Operand.tmp 56)) (b := b1097) (off := 0) (.agg #[.int .i64 t1321.2.1.f0, .int .i64 t1321.2.1.f1]) (by kernel_rfl) (by kernel_rfl) (by kernel_rfl) (by have h_ := hJ.2.2; rw [if_neg (by rw [hb_]; decide)] at h_; exact h_) (cs' := #[.int .i64 t1321.2.1.f0, .int .i64 t1321.2.1.f1]) (by kernel_rfl) (fun w2_ h2_ k2_ _ => ⟨rfl, Kp.trans hJ.1 k2_ (fun x hx => .inl (by rw [show x = _ from hx] <;> simp)), by have h5_ := Blk.kp hJ.2.1 k2_ nhb1297hb1298; simpa [up] using h5_, by rw [if_pos (by simp [up])]; exact h2_⟩)) ?_
      refine k_nil ?_
      rintro b_ w1381 hall_ k_
      obtain ⟨k1382, hb1383, hb1384⟩ := k_
      rw [if_pos (hall_ 2 (by decide))] at hb1383
      rw [if_pos (hall_ 4 (by decide))] at hb1384
      have k1385 := Kp.trans k1374 k1382 (fun x hx => by rcases hx with rfl | rfl <;> first | exact .inr ghb1297 | exact .inr ghb1298)
      have hb1386 := Blk.kp hb1377 k1382 (by simp only [not_or]; exact ⟨(Ne.symm nhb1297hb1302), (Ne.symm nhb1298hb1302)⟩)
      have hb1387 := Blk.kp hb1378 k1382 (by simp only [not_or]; exact ⟨(Ne.symm n1335), (Ne.symm n1336)⟩)
      have hb1388 := Blk.kp hb1371 k1382 (by simp only [not_or]; exact ⟨(Ne.symm n1350), (Ne.symm n1351)⟩)
      have ho1389 := Ow.kp ho1379 k1382 (fun x h1 h2 => by rcases h2 with h2 | h2 <;> first | exact (Dj.symm n1308) x h1 h2 | exact (Dj.symm n1309) x h1 h2)
      refine r_fin 5 (by kernel_rfl) ?_
      refine q_then ?_
      refine w_ret (p := [1, 1, 1, 1, 1, 1, 0, 0, 0, 1, 0, 1, 0, 1, 0, 1]) (by kernel_rfl) ?_
      refine q_then_r ?_
      refine q_in_r ?_
      obtain rfl := Option.some.inj H
      refine HR _ _ (body_ret (vs := [.agg #[.int .u64 0, .int .u64 0, .int .u64 0, .int .u64 0], .int .i64 0, .agg #[.int .i64 t1321.2.1.f0, .int .i64 t1321.2.1.f1]]) (rv_cell (off := 0) (v := .agg #[.int .u64 0, .int .u64 0, .int .u64 0, .int .u64 0]) (by kernel_rfl) hb1383 (by kernel_rfl) (rv_tmp (by kernel_rfl) (rv_cell (off := 0) (v := .agg #[.int .i64 t1321.2.1.f0, .int .i64 t1321.2.1.f1]) (by kernel_rfl) hb1384 (by kernel_rfl) rfl))) rfl ?_)
      exact ⟨rfl, k1385⟩
    · intro h_
      have h1380 : ¬ (¬ (t1321.2.1.f1 = 0)) := by simpa using h_
      clear h_
      rw [if_neg h1380] at H
      refine w_skip (p := [1, 1, 1, 1, 1, 1, 0, 0, 0, 1, 0, 1, 0, 1, 1]) (by kernel_rfl) ?_
      refine q_then ?_
      refine w_region (p := [1, 1, 1, 1, 1, 1, 0, 0, 0, 1, 0, 1, 1]) (id := 12) (by kernel_rfl) ?_
      refine r_vals 0 1 [.slice A1295 x1294.length c1296] (by kernel_rfl) (by kernel_rfl) ?_
      refine r_do 1 (by kernel_rfl) (og_load (T := 44) (x := (Operand.tmp 10)) (b := b1333) (off := 0) (.agg #[.int .u8 t1321.1.f0, .int .u8 t1321.1.f1]) (by kernel_rfl) (by kernel_rfl) hb1378 (by kernel_rfl) ?_) 
      refine r_do 2 (by kernel_rfl) (ow_lit (K := (Kapi_Range 44)) (w0 := w) (T := 38) (n := 1) (e := 44) (ps := #[(0, (Operand.tmp 58))]) (cs := #[.int .u8 t1321.1.f0, .int .u8 t1321.1.f1]) (parts := [(0, .agg #[.int .u8 t1321.1.f0, .int .u8 t1321.1.f1])]) ([t1321.1] : List Tapi_Range) (by kernel_rfl) (by kernel_rfl) (by kernel_rfl) (by kernel_rfl) rfl rfl (by kernel_rfl) k1374 ?_) 
      intro b1393 w1390 e1394 ho1392 k1391
      have n1396 := blk_dj_row hb1375 e1394
      have n1397 := blk_dj_row hb1376 e1394
      have n1398 := blk_dj_row hb1377 e1394
      have n1399 := blk_dj_row hb1378 e1394
      have n1400 := blk_dj_row hb1371 e1394
      have n1401 := Ow.dj_row ho1379 e1394
      clear e1394
      have k1402 := Kp.trans k1374 k1391 (fun _ h => h.elim)
      have hb1403 := Blk.kp hb1375 k1391 id
      have hb1404 := Blk.kp hb1376 k1391 id
      have hb1405 := Blk.kp hb1377 k1391 id
      have hb1406 := Blk.kp hb1378 k1391 id
      have hb1407 := Blk.kp hb1371 k1391 id
      have ho1408 := Ow.kpNo ho1379 k1391
      refine p_split ((x1294.length + 1) * 3 ≤ 140737488355328) (fun h1409 => ?_) (fun h1409 => ?_)
      · rw [if_pos h1409] at H
        refine r_do 3 (by kernel_rfl) (ow_append2 (K := (Kapi_Range 44)) (w0 := w) (T := 38) (n := x1294.length) (c := c1296) (m := 1) (d := 1) (s := (Operand.tmp 57)) (x := (Operand.tmp 59)) (A := A1295) (D := (some ⟨b1393, 0, none⟩)) (xs := x1294) (ys := ([t1321.1] : List Tapi_Range)) (.agg #[.int .u8 0, .int .u8 0]) 2 (by kernel_rfl) (by kernel_rfl) (by kernel_rfl) (by kernel_rfl) (by kernel_rfl) ho1408 (by kernel_rfl) (Ow.len ho1392) (Ow.rdNo ho1392) h1409 k1402 ?_) 
        intro A1414 c1415 w1410 ho1412 k1411 hn1413 ha1417
        have n1418 := blk_dj_app hb1403 n1308 hn1413
        have n1419 := blk_dj_app hb1404 n1309 hn1413
        have n1420 := blk_dj_app hb1405 n1310 hn1413
        have n1421 := blk_dj_app hb1406 (Dj.symm n1338) hn1413
        have n1422 := blk_dj_app hb1407 (Dj.symm n1354) hn1413
        have n1423 := Ow.dj_app ho1392 (Dj.symm n1401) hn1413
        clear hn1413 ha1417
        have k1424 := Kp.own ho1408 k1402 k1411
        have hb1425 := Blk.kpOne hb1403 k1411 n1308
        have hb1426 := Blk.kpOne hb1404 k1411 n1309
        have hb1427 := Blk.kpOne hb1405 k1411 n1310
        have hb1428 := Blk.kpOne hb1406 k1411 (Dj.symm n1338)
        have hb1429 := Blk.kpOne hb1407 k1411 (Dj.symm n1354)
        have ho1430 := Ow.kp ho1392 k1411 (Dj.symm n1401)
        refine r_vals 4 5 [.slice A1414 ((x1294 ++ ([t1321.1] : List Tapi_Range)).length) c1415] (by kernel_rfl) (by kernel_rfl) ?_
        refine r_fin 5 (by kernel_rfl) ?_
        refine q_in ?_
        refine q_into (class_Parse.F2 b1090 b1097 b1144 t1152 A1414 (x1294 ++ ([t1321.1] : List Tapi_Range)) c1415) (by kernel_rfl) (fun u_ => ?_)
        exact HN2 (x1294 ++ ([t1321.1] : List Tapi_Range)) t1321.2.2.f0 t1321.2.2.f1 t1321.2.2.f2 A1414 c1415 u_ w1410 k1424 hb1425 hb1426 hb1427 ghb1297 ghb1298 ghb1302 nhb1297hb1298 nhb1297hb1302 nhb1298hb1302 ho1412 n1418 n1419 n1420 H
      · rw [if_neg h1409] at H
        cases H
  · intro h_
    have h1320 : ¬ (¬ (t1311.1 = true)) := bnot_f h_
    clear h_
    rw [if_neg h1320] at H
    refine w_exit (p := [1, 1, 1, 1, 1, 1, 0, 0, 0, 0, 1, 1]) (id := 0) (by kernel_rfl) ?_
    refine q_then_x ?_
    refine q_into (class_Parse.F2_0 b1090 b1097 b1144 t1152 A1295 x1294 c1296) (by kernel_rfl) (fun u_ => ?_)
    exact HX2_0 x1294 t1311.2.f0 t1311.2.f1 t1311.2.f2 A1295 c1296 u_ w1313 k1316 hb1317 hb1318 hb1315 ghb1297 ghb1298 ghb1302 nhb1297hb1298 nhb1297hb1302 nhb1298hb1302 ho1319 n1308 n1309 n1310 H
set_option maxRecDepth 20000 in
set_option maxHeartbeats 4000000 in
theorem class_Parse.l2.ok (K : Nat) (a0 : ByteArray) (a1 : Int) (w : World) (r : Tapi_Class × Int × Tapi_Fault) (b1090 : Nat) (b1097 : Nat) (b1144 : Nat) (t1152 : Bool × Tclass_reader) {Q : Exit → Act → World → Prop} (HR : ∀ a w', bodyPost Try.prog Try.f32 (class_Parse.R r w) .ret a w' → Q .ret a w') {brk2_0 : List Tapi_Range → ByteArray → Int → Int → Option (Tapi_Class × Int × Tapi_Fault)} (HX2_0 : ∀ (x1435q : List Tapi_Range) (y1440q : ByteArray) (y1441q : Int) (y1442q : Int) (A1436q : Option Addr) (c1437q : Nat) (u1433q : Nat → Value) (w1431q : World) (k1432q : Kp No w w1431q) (hb1438q : Blk w1431q b1090 #[.int .u64 0, .int .u64 0, .int .u64 0, .int .u64 0] 37) (hb1439q : Blk w1431q b1097 #[.int .i64 0, .int .i64 0] 65) (hb1443q : Blk w1431q b1144 #[.string y1440q, .int .i64 y1441q, .int .i64 y1442q] 146) (ghb1438q : w.heap.size ≤ b1090) (ghb1439q : w.heap.size ≤ b1097) (ghb1443q : w.heap.size ≤ b1144) (nhb1438hb1439q : b1090 ≠ b1097) (nhb1438hb1443q : b1090 ≠ b1144) (nhb1439hb1443q : b1097 ≠ b1144) (ho1448q : Ow w (Kapi_Range 44) w1431q A1436q x1435q.length c1437q x1435q) (n1449q : Dj (One b1090) (Ra A1436q)) (n1450q : Dj (One b1097) (Ra A1436q)) (n1451q : Dj (One b1144) (Ra A1436q)), brk2_0 x1435q y1440q y1441q y1442q = some r → Q (.exit 0) ⟨class_Parse.F2_0 b1090 b1097 b1144 t1152 A1436q x1435q c1437q u1433q, []⟩ w1431q) : ∀ (n_ : Nat) (x1294 : List Tapi_Range) (x1299 : ByteArray) (x1300 : Int) (x1301 : Int) (A1295 : Option Addr) (c1296 : Nat) (u1291 : Nat → Value) (w1292 : World) (k1293 : Kp No w w1292) (hb1297 : Blk w1292 b1090 #[.int .u64 0, .int .u64 0, .int .u64 0, .int .u64 0] 37) (hb1298 : Blk w1292 b1097 #[.int .i64 0, .int .i64 0] 65) (hb1302 : Blk w1292 b1144 #[.string x1299, .int .i64 x1300, .int .i64 x1301] 146) (ghb1297 : w.heap.size ≤ b1090) (ghb1298 : w.heap.size ≤ b1097) (ghb1302 : w.heap.size ≤ b1144) (nhb1297hb1298 : b1090 ≠ b1097) (nhb1297hb1302 : b1090 ≠ b1144) (nhb1298hb1302 : b1097 ≠ b1144) (ho1307 : Ow w (Kapi_Range 44) w1292 A1295 x1294.length c1296 x1294) (n1308 : Dj (One b1090) (Ra A1295)) (n1309 : Dj (One b1097) (Ra A1295)) (n1310 : Dj (One b1144) (Ra A1295)) (H : class_Parse.l2 K brk2_0 n_ x1294 x1299 x1300 x1301 = some r), Code.rounds Try.prog (cd Try.f32 [1, 1, 1, 1, 1, 1, 0, 0, 0]) Q n_ ⟨class_Parse.F2 b1090 b1097 b1144 t1152 A1295 x1294 c1296 u1291, []⟩ w1292
  | 0, _, _, _, _, _, _, _, _, _, _, _, _, _, _, _, _, _, _, _, _, _, _, H => by cases H
  | n_ + 1, x1294, x1299, x1300, x1301, A1295, c1296, u1291, w1292, k1293, hb1297, hb1298, hb1302, ghb1297, ghb1298, ghb1302, nhb1297hb1298, nhb1297hb1302, nhb1298hb1302, ho1307, n1308, n1309, n1310, H =>
    class_Parse.b2.ok K a0 a1 w r b1090 b1097 b1144 t1152 (Q := Exit.then (Code.rounds Try.prog (cd Try.f32 [1, 1, 1, 1, 1, 1, 0, 0, 0]) Q n_) Q) (fun a w' h_ => q_then_r (HR a w' h_)) (fun x0_ x1_ x2_ x3_ x4_ x5_ x6_ x7_ x8_ x9_ x10_ x11_ x12_ x13_ x14_ x15_ x16_ x17_ x18_ x19_ x20_ x21_ h_ => class_Parse.l2.ok K a0 a1 w r b1090 b1097 b1144 t1152 HR HX2_0 n_ x0_ x1_ x2_ x3_ x4_ x5_ x6_ x7_ x8_ x9_ x10_ x11_ x12_ x13_ x14_ x15_ x16_ x17_ x18_ x19_ x20_ x21_ h_) (fun x0_ x1_ x2_ x3_ x4_ x5_ x6_ x7_ x8_ x9_ x10_ x11_ x12_ x13_ x14_ x15_ x16_ x17_ x18_ x19_ x20_ x21_ h_ => q_then_x (HX2_0 x0_ x1_ x2_ x3_ x4_ x5_ x6_ x7_ x8_ x9_ x10_ x11_ x12_ x13_ x14_ x15_ x16_ x17_ x18_ x19_ x20_ x21_ h_)) x1294 x1299 x1300 x1301 A1295 c1296 u1291 w1292 k1293 hb1297 hb1298 hb1302 ghb1297 ghb1298 ghb1302 nhb1297hb1298 nhb1297hb1302 nhb1298hb1302 ho1307 n1308 n1309 n1310 H
set_option maxRecDepth 20000 in
set_option maxHeartbeats 4000000 in
theorem class_Parse.j3.ok (K : Nat) (a0 : ByteArray) (a1 : Int) (w : World) (r : Tapi_Class × Int × Tapi_Fault) {Q : Exit → Act → World → Prop} (b1090 : Nat) (b1097 : Nat) (b1144 : Nat) (b1464 : Nat) (y1440 : ByteArray) (y1441 : Int) (y1442 : Int) (HR : ∀ a w', bodyPost Try.prog Try.f32 (class_Parse.R r w) .ret a w' → Q .ret a w')  (y1509 : Int) (y1510 : Int) (y1511 : Int) (y1512 : Int) (u1505 : Nat → Value) (w1503 : World) (k1504 : Kp No w w1503) (hb1506 : Blk w1503 b1090 #[.int .u64 0, .int .u64 0, .int .u64 0, .int .u64 0] 37) (hb1507 : Blk w1503 b1097 #[.int .i64 0, .int .i64 0] 65) (hb1508 : Blk w1503 b1144 #[.string y1440, .int .i64 y1441, .int .i64 y1442] 146) (hb1513 : Blk w1503 b1464 #[.int .u64 y1509, .int .u64 y1510, .int .u64 y1511, .int .u64 y1512] 37) (ghb1506 : w.heap.size ≤ b1090) (ghb1507 : w.heap.size ≤ b1097) (ghb1508 : w.heap.size ≤ b1144) (ghb1513 : w.heap.size ≤ b1464) (nhb1506hb1507 : b1090 ≠ b1097) (nhb1506hb1508 : b1090 ≠ b1144) (nhb1506hb1513 : b1090 ≠ b1464) (nhb1507hb1508 : b1097 ≠ b1144) (nhb1507hb1513 : b1097 ≠ b1464) (nhb1508hb1513 : b1144 ≠ b1464) (H : class_Parse.j3 y1442 y1509 y1510 y1511 y1512 = some r) : (cd Try.f32 [1, 1, 1, 1, 1, 1, 1, 1, 1]).wp Try.prog Q ⟨class_Parse.j3F b1090 b1097 b1144 b1464 u1505, []⟩ w1503 := by
  unfold class_Parse.j3 at H
  refine w_seq (p := [1, 1, 1, 1, 1, 1, 1, 1, 1]) (p0 := [1, 1, 1, 1, 1, 1, 1, 1, 1, 0]) (p1 := [1, 1, 1, 1, 1, 1, 1, 1, 1, 1]) (by kernel_rfl) ?_
  refine w_drawk (p := [1, 1, 1, 1, 1, 1, 1, 1, 1, 0]) (id := 16) (by kernel_rfl) (by kernel_rfl) [0, 0, 2, 6, 14, 0, 1, 95, 255] 9 (by kernel_rfl) (J := (fun b_ w_ => Kp (fun k => k = b1090 ∨ k = b1097) w1503 w_ ∧ Blk w_ b1090 (if b_ 6 = true then #[.int .u64 y1509, .int .u64 y1510, .int .u64 y1511, .int .u64 y1512] else #[.int .u64 0, .int .u64 0, .int .u64 0, .int .u64 0]) 37 ∧ Blk w_ b1097 (if b_ 8 = true then #[.int .i64 0, .int .i64 0] else #[.int .i64 0, .int .i64 0]) 65)) (fun w_ h1 h2 h3 h4 => ⟨Kp.same h1 h2 h3 h4, by simpa using hb1506.same h1, by simpa using hb1507.same h1⟩) ?_
  refine k_op (.agg #[.int .u64 y1509, .int .u64 y1510, .int .u64 y1511, .int .u64 y1512]) (by kernel_rfl) (fun b_ w_ hJ hb_ hd_ he_ => og_load (T := 37) (x := (Operand.tmp 12)) (b := b1464) (off := 0) (.agg #[.int .u64 y1509, .int .u64 y1510, .int .u64 y1511, .int .u64 y1512]) (by kernel_rfl) (by kernel_rfl) (Blk.kp hb1513 hJ.1 (by simp only [not_or]; exact ⟨(Ne.symm nhb1506hb1513), (Ne.symm nhb1507hb1513)⟩)) (by kernel_rfl) ⟨rfl, by simpa [up] using hJ⟩) ?_
  refine k_pure 4 [.pointer (some ⟨b1144, 0, none⟩), .pointer (some ⟨b1144, 0, none⟩), .pointer (some ⟨b1144, 2, none⟩)] (by kernel_rfl) (fun _ => by kernel_rfl) (fun k h1 h2 b w h => by simpa [up, show ¬ (6 = k) by omega, show ¬ (8 = k) by omega] using h) ?_
  refine k_op (.int .i64 y1442) (by kernel_rfl) (fun b_ w_ hJ hb_ hd_ he_ => og_load (T := 3) (x := (Operand.tmp 69)) (b := b1144) (off := 2) (.int .i64 y1442) (by kernel_rfl) (by kernel_rfl) (Blk.kp hb1508 hJ.1 (by simp only [not_or]; exact ⟨(Ne.symm nhb1506hb1508), (Ne.symm nhb1507hb1508)⟩)) (by kernel_rfl) ⟨rfl, by simpa [up] using hJ⟩) ?_
  refine k_pure 6 [.agg #[.int .i64 0, .int .i64 0]] (by kernel_rfl) (fun _ => by kernel_rfl) (fun k h1 h2 b w h => by simpa [up, show ¬ (6 = k) by omega, show ¬ (8 = k) by omega] using h) ?_
  refine k_op (undef) (by kernel_rfl) (fun b_ w_ hJ hb_ hd_ he_ => og_store (T := 37) (x := (Operand.tmp 4)) (y := (Operand.tmp 66)) (b := b1090) (off := 0) (.agg #[.int .u64 y1509, .int .u64 y1510, .int .u64 y1511, .int .u64 y1512]) (by kernel_rfl) (by kernel_rfl) (by kernel_rfl) (by have h_ := hJ.2.1; rw [if_neg (by rw [hb_]; decide)] at h_; exact h_) (cs' := #[.int .u64 y1509, .int .u64 y1510, .int .u64 y1511, .int .u64 y1512]) (by kernel_rfl) (fun w2_ h2_ k2_ _ => ⟨rfl, Kp.trans hJ.1 k2_ (fun x hx => .inl (by rw [show x = _ from hx] <;> simp)), by rw [if_pos (by simp [up])]; exact h2_, by have h5_ := Blk.kp hJ.2.2 k2_ (Ne.symm nhb1506hb1507); simpa [up] using h5_⟩)) ?_
  refine k_pure 8 [.int .i64 y1442] (by kernel_rfl) (fun _ => by kernel_rfl) (fun k h1 h2 b w h => by simpa [up, show ¬ (6 = k) by omega, show ¬ (8 = k) by omega] using h) ?_
  refine k_op (undef) (by kernel_rfl) (fun b_ w_ hJ hb_ hd_ he_ => og_store (T := 65) (x := (Operand.tmp 6)) (y := (Operand.tmp 71)) (b := b1097) (off := 0) (.agg #[.int .i64 0, .int .i64 0]) (by kernel_rfl) (by kernel_rfl) (by kernel_rfl) (by have h_ := hJ.2.2; rw [if_neg (by rw [hb_]; decide)] at h_; exact h_) (cs' := #[.int .i64 0, .int .i64 0]) (by kernel_rfl) (fun w2_ h2_ k2_ _ => ⟨rfl, Kp.trans hJ.1 k2_ (fun x hx => .inl (by rw [show x = _ from hx] <;> simp)), by have h5_ := Blk.kp hJ.2.1 k2_ nhb1506hb1507; simpa [up] using h5_, by rw [if_pos (by simp [up])]; exact h2_⟩)) ?_
  refine k_nil ?_
  rintro b_ w1514 hall_ k_
  obtain ⟨k1515, hb1516, hb1517⟩ := k_
  rw [if_pos (hall_ 6 (by decide))] at hb1516
  rw [if_pos (hall_ 8 (by decide))] at hb1517
  have k1518 := Kp.trans k1504 k1515 (fun x hx => by rcases hx with rfl | rfl <;> first | exact .inr ghb1506 | exact .inr ghb1507)
  have hb1519 := Blk.kp hb1508 k1515 (by simp only [not_or]; exact ⟨(Ne.symm nhb1506hb1508), (Ne.symm nhb1507hb1508)⟩)
  have hb1520 := Blk.kp hb1513 k1515 (by simp only [not_or]; exact ⟨(Ne.symm nhb1506hb1513), (Ne.symm nhb1507hb1513)⟩)
  refine r_fin 9 (by kernel_rfl) ?_
  refine q_then ?_
  refine w_ret (p := [1, 1, 1, 1, 1, 1, 1, 1, 1, 1]) (by kernel_rfl) ?_
  obtain rfl := Option.some.inj H
  refine HR _ _ (body_ret (vs := [.agg #[.int .u64 y1509, .int .u64 y1510, .int .u64 y1511, .int .u64 y1512], .int .i64 y1442, .agg #[.int .i64 0, .int .i64 0]]) (rv_cell (off := 0) (v := .agg #[.int .u64 y1509, .int .u64 y1510, .int .u64 y1511, .int .u64 y1512]) (by kernel_rfl) hb1516 (by kernel_rfl) (rv_tmp (by kernel_rfl) (rv_cell (off := 0) (v := .agg #[.int .i64 0, .int .i64 0]) (by kernel_rfl) hb1517 (by kernel_rfl) rfl))) rfl ?_)
  exact ⟨rfl, k1518⟩
set_option maxRecDepth 20000 in
set_option maxHeartbeats 4000000 in
theorem class_Parse.j1.ok (K : Nat) (a0 : ByteArray) (a1 : Int) (w : World) (r : Tapi_Class × Int × Tapi_Fault) {Q : Exit → Act → World → Prop} (b1090 : Nat) (b1097 : Nat) (HR : ∀ a w', bodyPost Try.prog Try.f32 (class_Parse.R r w) .ret a w' → Q .ret a w')  (x1127 : Bool) (u1126 : Nat → Value) (w1124 : World) (k1125 : Kp No w w1124) (hb1128 : Blk w1124 b1090 #[.int .u64 0, .int .u64 0, .int .u64 0, .int .u64 0] 37) (hb1129 : Blk w1124 b1097 #[.int .i64 0, .int .i64 0] 65) (ghb1128 : w.heap.size ≤ b1090) (ghb1129 : w.heap.size ≤ b1097) (nhb1128hb1129 : b1090 ≠ b1097) (H : class_Parse.j1 a1 K a0 x1127 = some r) : (cd Try.f32 [1, 1, 0, 1]).wp Try.prog (Exit.then (fun a w => (cd Try.f32 [1, 1, 1]).wp Try.prog Q a w) Q) ⟨class_Parse.j1F a0 a1 b1090 b1097 x1127 u1126, []⟩ w1124 := by
  unfold class_Parse.j1 at H
  refine w_cond (p := [1, 1, 0, 1]) (p0 := [1, 1, 0, 1, 0]) (p1 := [1, 1, 0, 1, 1]) (c := (Operand.tmp 32)) (b := x1127) (by kernel_rfl) (by kernel_rfl) ?_ ?_
  · intro h_
    have h1130 : x1127 = true := h_
    clear h_
    rw [if_pos h1130] at H
    refine w_seq (p := [1, 1, 0, 1, 0]) (p0 := [1, 1, 0, 1, 0, 0]) (p1 := [1, 1, 0, 1, 0, 1]) (by kernel_rfl) ?_
    refine w_region (p := [1, 1, 0, 1, 0, 0]) (id := 4) (by kernel_rfl) ?_
    refine r_vals 0 3 [.agg #[.int .u64 0, .int .u64 0, .int .u64 0, .int .u64 0], .int .i64 a1, .agg #[.int .i64 a1, .int .i64 30]] (by kernel_rfl) (by kernel_rfl) ?_
    refine r_do 3 (by kernel_rfl) (og_store (T := 37) (x := (Operand.tmp 4)) (y := (Operand.tmp 33)) (b := b1090) (off := 0) (.agg #[.int .u64 0, .int .u64 0, .int .u64 0, .int .u64 0]) (by kernel_rfl) (by kernel_rfl) (by kernel_rfl) hb1128 (cs' := #[.int .u64 0, .int .u64 0, .int .u64 0, .int .u64 0]) (by kernel_rfl) ?_) 
    intro w1132 hb1131 k1133 _
    have k1134 := Kp.trans k1125 k1133 (fun x hx => .inr (by rw [show x = _ from hx]; exact ghb1128))
    have hb1135 := Blk.kp hb1129 k1133 (show ¬ (b1097 = b1090) from (Ne.symm nhb1128hb1129))
    refine r_vals 4 5 [.int .i64 0] (by kernel_rfl) (by kernel_rfl) ?_
    refine r_do 5 (by kernel_rfl) (og_store (T := 65) (x := (Operand.tmp 6)) (y := (Operand.tmp 35)) (b := b1097) (off := 0) (.agg #[.int .i64 a1, .int .i64 30]) (by kernel_rfl) (by kernel_rfl) (by kernel_rfl) hb1135 (cs' := #[.int .i64 a1, .int .i64 30]) (by kernel_rfl) ?_) 
    intro w1137 hb1136 k1138 _
    have k1139 := Kp.trans k1134 k1138 (fun x hx => .inr (by rw [show x = _ from hx]; exact ghb1129))
    have hb1140 := Blk.kp hb1131 k1138 (show ¬ (b1090 = b1097) from nhb1128hb1129)
    refine r_fin 6 (by kernel_rfl) ?_
    refine q_then ?_
    refine w_ret (p := [1, 1, 0, 1, 0, 1]) (by kernel_rfl) ?_
    refine q_then_r ?_
    obtain rfl := Option.some.inj H
    refine HR _ _ (body_ret (vs := [.agg #[.int .u64 0, .int .u64 0, .int .u64 0, .int .u64 0], .int .i64 0, .agg #[.int .i64 a1, .int .i64 30]]) (rv_cell (off := 0) (v := .agg #[.int .u64 0, .int .u64 0, .int .u64 0, .int .u64 0]) (by kernel_rfl) hb1140 (by kernel_rfl) (rv_tmp (by kernel_rfl) (rv_cell (off := 0) (v := .agg #[.int .i64 a1, .int .i64 30]) (by kernel_rfl) hb1136 (by kernel_rfl) rfl))) rfl ?_)
    exact ⟨rfl, k1139⟩
  · intro h_
    have h1130 : ¬ (x1127 = true) := by rw [h_]; decide
    clear h_
    rw [if_neg h1130] at H
    refine w_skip (p := [1, 1, 0, 1, 1]) (by kernel_rfl) ?_
    refine q_then ?_
    refine w_seq (p := [1, 1, 1]) (p0 := [1, 1, 1, 0]) (p1 := [1, 1, 1, 1]) (by kernel_rfl) ?_
    refine w_region (p := [1, 1, 1, 0]) (id := 5) (by kernel_rfl) ?_
    refine r_vals 0 5 [.string a0, .int .i64 a1, .int .i64 a1, .int .i64 (W (a1 + 1)), .agg #[.string a0, .int .i64 a1, .int .i64 (W (a1 + 1))]] (by kernel_rfl) (by kernel_rfl) ?_
    refine r_do 5 (by kernel_rfl) (og_box (T := 146) (x := (Operand.tmp 40)) (cs := #[.string a0, .int .i64 a1, .int .i64 (W (a1 + 1))]) (by kernel_rfl) (by kernel_rfl) ?_) 
    intro b1144 w1141 e1145 hb1143 k1142
    have n1146 : b1090 ≠ b1144 := by rw [e1145]; exact Nat.ne_of_lt hb1128.lt
    have n1147 : b1097 ≠ b1144 := by rw [e1145]; exact Nat.ne_of_lt hb1129.lt
    have g1148 : w.heap.size ≤ b1144 := by rw [e1145]; exact Kp.size k1125
    clear e1145
    have k1149 := Kp.trans k1125 k1142 (fun _ h => h.elim)
    have hb1150 := Blk.kp hb1128 k1142 id
    have hb1151 := Blk.kp hb1129 k1142 id
    refine r_vals 6 7 [.pointer (some ⟨b1144, 0, none⟩)] (by kernel_rfl) (by kernel_rfl) ?_
    refine r_fin 7 (by kernel_rfl) ?_
    refine q_then ?_
    refine w_seq (p := [1, 1, 1, 1]) (p0 := [1, 1, 1, 1, 0]) (p1 := [1, 1, 1, 1, 1]) (by kernel_rfl) ?_
    refine w_region (p := [1, 1, 1, 1, 0]) (id := 6) (by kernel_rfl) ?_
    refine r_vals 0 1 [.pointer (some ⟨b1144, 0, none⟩)] (by kernel_rfl) (by kernel_rfl) ?_
    obtain ⟨t1152, ht1153, H⟩ := Option.bind_eq_some_iff.1 H
    refine r_do 1 (by kernel_rfl) (og_call (g := 78) (av := #[.pointer (some ⟨b1144, 0, none⟩), .int .u8 94]) (by kernel_rfl) ?_) 
    refine (class_reader_skip.ok K b1144 146 (⟨a0, a1, W (a1 + 1)⟩ : Tclass_reader) 94 w1141 hb1143 t1152 ht1153).mono ?_
    rintro e w1154 ⟨rfl, k1155, hb1156⟩
    refine ⟨_, rfl, ?_⟩
    have k1157 := Kp.trans k1149 k1155 (fun x hx => .inr (by rw [show x = _ from hx]; exact g1148))
    have hb1158 := Blk.kp hb1150 k1155 (show ¬ (b1090 = b1144) from n1146)
    have hb1159 := Blk.kp hb1151 k1155 (show ¬ (b1097 = b1144) from n1147)
    refine r_vals 2 3 [.bool t1152.1] (by kernel_rfl) (by kernel_rfl) ?_
    refine r_fin 3 (by kernel_rfl) ?_
    refine q_then ?_
    refine w_seq (p := [1, 1, 1, 1, 1]) (p0 := [1, 1, 1, 1, 1, 0]) (p1 := [1, 1, 1, 1, 1, 1]) (by kernel_rfl) ?_
    refine w_region (p := [1, 1, 1, 1, 1, 0]) (id := 7) (by kernel_rfl) ?_
    refine r_vals 0 1 [.slice none 0 0] (by kernel_rfl) (by kernel_rfl) ?_
    refine r_fin 1 (by kernel_rfl) ?_
    refine q_then ?_
    refine w_seq (p := [1, 1, 1, 1, 1, 1]) (p0 := [1, 1, 1, 1, 1, 1, 0]) (p1 := [1, 1, 1, 1, 1, 1, 1]) (by kernel_rfl) ?_
    refine w_block (p := [1, 1, 1, 1, 1, 1, 0]) (p0 := [1, 1, 1, 1, 1, 1, 0, 0]) (id := 0) (by kernel_rfl) ?_
    refine w_into (class_Parse.F2 b1090 b1097 b1144 t1152 none ([] : List Tapi_Range) 0) (by kernel_rfl) (fun u_ => ?_)
    refine w_loop (p := [1, 1, 1, 1, 1, 1, 0, 0]) (p0 := [1, 1, 1, 1, 1, 1, 0, 0, 0]) K (by kernel_rfl) ?_
    refine class_Parse.l2.ok K a0 a1 w r b1090 b1097 b1144 t1152 (fun a w' h_ => q_in_r (q_then_r (HR a w' h_))) ?_ K ([] : List Tapi_Range) t1152.2.f0 t1152.2.f1 t1152.2.f2 none 0 u_ w1154 k1157 hb1158 hb1159 hb1156 ghb1128 ghb1129 g1148 nhb1128hb1129 n1146 n1147 (Ow.nil w (Kapi_Range 44) w1154) dj_nil dj_nil dj_nil H
    intro x1435 y1440 y1441 y1442 A1436 c1437 u1433 w1431 k1432 hb1438 hb1439 hb1443 ghb1438 ghb1439 ghb1443 nhb1438hb1439 nhb1438hb1443 nhb1439hb1443 ho1448 n1449 n1450 n1451 H
    try dsimp only at H
    refine q_in_hit ?_
    refine q_then ?_
    refine w_seq (p := [1, 1, 1, 1, 1, 1, 1]) (p0 := [1, 1, 1, 1, 1, 1, 1, 0]) (p1 := [1, 1, 1, 1, 1, 1, 1, 1]) (by kernel_rfl) ?_
    refine w_region (p := [1, 1, 1, 1, 1, 1, 1, 0]) (id := 13) (by kernel_rfl) ?_
    refine r_vals 0 1 [.slice A1436 x1435.length c1437] (by kernel_rfl) (by kernel_rfl) ?_
    obtain ⟨t1452, ht1453, H⟩ := Option.bind_eq_some_iff.1 H
    refine r_do 1 (by kernel_rfl) (og_call (g := 33) (av := #[.slice A1436 x1435.length c1437]) (by kernel_rfl) ?_) 
    refine (class_Of.ok K A1436 c1437 x1435 x1435.length w1431 (Ow.rdNo ho1448) (Ow.cap ho1448) (Ow.len ho1448) t1452 ht1453).mono ?_
    rintro e w1454 ⟨rfl, k1455⟩
    refine ⟨_, rfl, ?_⟩
    have k1456 := Kp.trans k1432 k1455 (fun _ h => h.elim)
    have hb1457 := Blk.kp hb1438 k1455 id
    have hb1458 := Blk.kp hb1439 k1455 id
    have hb1459 := Blk.kp hb1443 k1455 id
    have ho1460 := Ow.kpNo ho1448 k1455
    refine r_do 2 (by kernel_rfl) (og_alloc (T := 37) (cs := #[.int .u64 0, .int .u64 0, .int .u64 0, .int .u64 0]) (by kernel_rfl) (by kernel_rfl) ?_) 
    intro b1464 w1461 e1465 hb1463 k1462
    have n1466 : b1090 ≠ b1464 := by rw [e1465]; exact Nat.ne_of_lt hb1457.lt
    have n1467 : b1097 ≠ b1464 := by rw [e1465]; exact Nat.ne_of_lt hb1458.lt
    have n1468 : b1144 ≠ b1464 := by rw [e1465]; exact Nat.ne_of_lt hb1459.lt
    have n1469 := Ow.dj_block ho1460 e1465
    have g1470 : w.heap.size ≤ b1464 := by rw [e1465]; exact Kp.size k1456
    clear e1465
    have k1471 := Kp.trans k1456 k1462 (fun _ h => h.elim)
    have hb1472 := Blk.kp hb1457 k1462 id
    have hb1473 := Blk.kp hb1458 k1462 id
    have hb1474 := Blk.kp hb1459 k1462 id
    have ho1475 := Ow.kpNo ho1460 k1462
    refine r_do 3 (by kernel_rfl) (og_store (T := 37) (x := (Operand.tmp 12)) (y := (Operand.tmp 62)) (b := b1464) (off := 0) (.agg #[.int .u64 t1452.f0, .int .u64 t1452.f1, .int .u64 t1452.f2, .int .u64 t1452.f3]) (by kernel_rfl) (by kernel_rfl) (by kernel_rfl) hb1463 (cs' := #[.int .u64 t1452.f0, .int .u64 t1452.f1, .int .u64 t1452.f2, .int .u64 t1452.f3]) (by kernel_rfl) ?_) 
    intro w1477 hb1476 k1478 _
    have k1479 := Kp.trans k1471 k1478 (fun x hx => .inr (by rw [show x = _ from hx]; exact g1470))
    have hb1480 := Blk.kp hb1472 k1478 (show ¬ (b1090 = b1464) from n1466)
    have hb1481 := Blk.kp hb1473 k1478 (show ¬ (b1097 = b1464) from n1467)
    have hb1482 := Blk.kp hb1474 k1478 (show ¬ (b1144 = b1464) from n1468)
    have ho1483 := Ow.kp ho1475 k1478 n1469
    refine r_fin 4 (by kernel_rfl) ?_
    refine q_then ?_
    refine w_seq (p := [1, 1, 1, 1, 1, 1, 1, 1]) (p0 := [1, 1, 1, 1, 1, 1, 1, 1, 0]) (p1 := [1, 1, 1, 1, 1, 1, 1, 1, 1]) (by kernel_rfl) ?_
    refine w_seq (p := [1, 1, 1, 1, 1, 1, 1, 1, 0]) (p0 := [1, 1, 1, 1, 1, 1, 1, 1, 0, 0]) (p1 := [1, 1, 1, 1, 1, 1, 1, 1, 0, 1]) (by kernel_rfl) ?_
    refine w_region (p := [1, 1, 1, 1, 1, 1, 1, 1, 0, 0]) (id := 14) (by kernel_rfl) ?_
    refine r_vals 0 1 [.bool t1152.1] (by kernel_rfl) (by kernel_rfl) ?_
    refine r_fin 1 (by kernel_rfl) ?_
    refine q_then ?_
    refine w_cond (p := [1, 1, 1, 1, 1, 1, 1, 1, 0, 1]) (p0 := [1, 1, 1, 1, 1, 1, 1, 1, 0, 1, 0]) (p1 := [1, 1, 1, 1, 1, 1, 1, 1, 0, 1, 1]) (c := (Operand.tmp 63)) (b := t1152.1) (by kernel_rfl) (by kernel_rfl) ?_ ?_
    · intro h_
      have h1484 : t1152.1 = true := h_
      clear h_
      rw [if_pos h1484] at H
      refine w_region (p := [1, 1, 1, 1, 1, 1, 1, 1, 0, 1, 0]) (id := 15) (by kernel_rfl) ?_
      refine r_do 0 (by kernel_rfl) (og_load (T := 37) (x := (Operand.tmp 12)) (b := b1464) (off := 0) (.agg #[.int .u64 t1452.f0, .int .u64 t1452.f1, .int .u64 t1452.f2, .int .u64 t1452.f3]) (by kernel_rfl) (by kernel_rfl) hb1476 (by kernel_rfl) ?_) 
      obtain ⟨t1485, ht1486, H⟩ := Option.bind_eq_some_iff.1 H
      refine r_do 1 (by kernel_rfl) (og_call (g := 60) (av := #[.agg #[.int .u64 t1452.f0, .int .u64 t1452.f1, .int .u64 t1452.f2, .int .u64 t1452.f3]]) (by kernel_rfl) ?_) 
      refine (class_Not.ok K t1452 w1477 t1485 ht1486).mono ?_
      rintro e w1487 ⟨rfl, k1488⟩
      refine ⟨_, rfl, ?_⟩
      have k1489 := Kp.trans k1479 k1488 (fun _ h => h.elim)
      have hb1490 := Blk.kp hb1480 k1488 id
      have hb1491 := Blk.kp hb1481 k1488 id
      have hb1492 := Blk.kp hb1482 k1488 id
      have hb1493 := Blk.kp hb1476 k1488 id
      have ho1494 := Ow.kpNo ho1483 k1488
      refine r_do 2 (by kernel_rfl) (og_store (T := 37) (x := (Operand.tmp 12)) (y := (Operand.tmp 65)) (b := b1464) (off := 0) (.agg #[.int .u64 t1485.f0, .int .u64 t1485.f1, .int .u64 t1485.f2, .int .u64 t1485.f3]) (by kernel_rfl) (by kernel_rfl) (by kernel_rfl) hb1493 (cs' := #[.int .u64 t1485.f0, .int .u64 t1485.f1, .int .u64 t1485.f2, .int .u64 t1485.f3]) (by kernel_rfl) ?_) 
      intro w1496 hb1495 k1497 _
      have k1498 := Kp.trans k1489 k1497 (fun x hx => .inr (by rw [show x = _ from hx]; exact g1470))
      have hb1499 := Blk.kp hb1490 k1497 (show ¬ (b1090 = b1464) from n1466)
      have hb1500 := Blk.kp hb1491 k1497 (show ¬ (b1097 = b1464) from n1467)
      have hb1501 := Blk.kp hb1492 k1497 (show ¬ (b1144 = b1464) from n1468)
      have ho1502 := Ow.kp ho1494 k1497 n1469
      refine r_fin 3 (by kernel_rfl) ?_
      refine q_then ?_
      refine w_into (class_Parse.j3F b1090 b1097 b1144 b1464) (by kernel_rfl) (fun u_ => ?_)
      exact class_Parse.j3.ok K a0 a1 w r b1090 b1097 b1144 b1464 y1440 y1441 y1442 HR  t1485.f0 t1485.f1 t1485.f2 t1485.f3 u_ w1496 k1498 hb1499 hb1500 hb1501 hb1495 ghb1438 ghb1439 ghb1443 g1470 nhb1438hb1439 nhb1438hb1443 n1466 nhb1439hb1443 n1467 n1468 H
    · intro h_
      have h1484 : ¬ (t1152.1 = true) := by rw [h_]; decide
      clear h_
      rw [if_neg h1484] at H
      refine w_skip (p := [1, 1, 1, 1, 1, 1, 1, 1, 0, 1, 1]) (by kernel_rfl) ?_
      refine q_then ?_
      refine w_into (class_Parse.j3F b1090 b1097 b1144 b1464) (by kernel_rfl) (fun u_ => ?_)
      exact class_Parse.j3.ok K a0 a1 w r b1090 b1097 b1144 b1464 y1440 y1441 y1442 HR  t1452.f0 t1452.f1 t1452.f2 t1452.f3 u_ w1477 k1479 hb1480 hb1481 hb1482 hb1476 ghb1438 ghb1439 ghb1443 g1470 nhb1438hb1439 nhb1438hb1443 n1466 nhb1439hb1443 n1467 n1468 H
set_option maxRecDepth 20000 in
set_option maxHeartbeats 4000000 in
theorem class_Parse.j0.ok (K : Nat) (a0 : ByteArray) (a1 : Int) (w : World) (r : Tapi_Class × Int × Tapi_Fault) {Q : Exit → Act → World → Prop} (b1090 : Nat) (b1097 : Nat) (HR : ∀ a w', bodyPost Try.prog Try.f32 (class_Parse.R r w) .ret a w' → Q .ret a w')  (x1107 : Bool) (u1106 : Nat → Value) (w1104 : World) (k1105 : Kp No w w1104) (hb1108 : Blk w1104 b1090 #[.int .u64 0, .int .u64 0, .int .u64 0, .int .u64 0] 37) (hb1109 : Blk w1104 b1097 #[.int .i64 0, .int .i64 0] 65) (ghb1108 : w.heap.size ≤ b1090) (ghb1109 : w.heap.size ≤ b1097) (nhb1108hb1109 : b1090 ≠ b1097) (H : class_Parse.j0 a1 a0 K x1107 = some r) : (cd Try.f32 [1, 0, 1]).wp Try.prog (Exit.then (fun a w => (cd Try.f32 [1, 1]).wp Try.prog Q a w) Q) ⟨class_Parse.j0F a0 a1 b1090 b1097 x1107 u1106, []⟩ w1104 := by
  unfold class_Parse.j0 at H
  refine w_cond (p := [1, 0, 1]) (p0 := [1, 0, 1, 0]) (p1 := [1, 0, 1, 1]) (c := (Operand.tmp 20)) (b := x1107) (by kernel_rfl) (by kernel_rfl) ?_ ?_
  · intro h_
    have h1110 : x1107 = true := h_
    clear h_
    rw [if_pos h1110] at H
    refine w_seq (p := [1, 0, 1, 0]) (p0 := [1, 0, 1, 0, 0]) (p1 := [1, 0, 1, 0, 1]) (by kernel_rfl) ?_
    refine w_region (p := [1, 0, 1, 0, 0]) (id := 2) (by kernel_rfl) ?_
    refine r_vals 0 2 [.agg #[.int .u64 0, .int .u64 0, .int .u64 0, .int .u64 0], .agg #[.int .i64 0, .int .i64 5]] (by kernel_rfl) (by kernel_rfl) ?_
    refine r_do 2 (by kernel_rfl) (og_store (T := 37) (x := (Operand.tmp 4)) (y := (Operand.tmp 21)) (b := b1090) (off := 0) (.agg #[.int .u64 0, .int .u64 0, .int .u64 0, .int .u64 0]) (by kernel_rfl) (by kernel_rfl) (by kernel_rfl) hb1108 (cs' := #[.int .u64 0, .int .u64 0, .int .u64 0, .int .u64 0]) (by kernel_rfl) ?_) 
    intro w1112 hb1111 k1113 _
    have k1114 := Kp.trans k1105 k1113 (fun x hx => .inr (by rw [show x = _ from hx]; exact ghb1108))
    have hb1115 := Blk.kp hb1109 k1113 (show ¬ (b1097 = b1090) from (Ne.symm nhb1108hb1109))
    refine r_vals 3 4 [.int .i64 0] (by kernel_rfl) (by kernel_rfl) ?_
    refine r_do 4 (by kernel_rfl) (og_store (T := 65) (x := (Operand.tmp 6)) (y := (Operand.tmp 22)) (b := b1097) (off := 0) (.agg #[.int .i64 0, .int .i64 5]) (by kernel_rfl) (by kernel_rfl) (by kernel_rfl) hb1115 (cs' := #[.int .i64 0, .int .i64 5]) (by kernel_rfl) ?_) 
    intro w1117 hb1116 k1118 _
    have k1119 := Kp.trans k1114 k1118 (fun x hx => .inr (by rw [show x = _ from hx]; exact ghb1109))
    have hb1120 := Blk.kp hb1111 k1118 (show ¬ (b1090 = b1097) from nhb1108hb1109)
    refine r_fin 5 (by kernel_rfl) ?_
    refine q_then ?_
    refine w_ret (p := [1, 0, 1, 0, 1]) (by kernel_rfl) ?_
    refine q_then_r ?_
    obtain rfl := Option.some.inj H
    refine HR _ _ (body_ret (vs := [.agg #[.int .u64 0, .int .u64 0, .int .u64 0, .int .u64 0], .int .i64 0, .agg #[.int .i64 0, .int .i64 5]]) (rv_cell (off := 0) (v := .agg #[.int .u64 0, .int .u64 0, .int .u64 0, .int .u64 0]) (by kernel_rfl) hb1120 (by kernel_rfl) (rv_tmp (by kernel_rfl) (rv_cell (off := 0) (v := .agg #[.int .i64 0, .int .i64 5]) (by kernel_rfl) hb1116 (by kernel_rfl) rfl))) rfl ?_)
    exact ⟨rfl, k1119⟩
  · intro h_
    have h1110 : ¬ (x1107 = true) := by rw [h_]; decide
    clear h_
    rw [if_neg h1110] at H
    refine w_skip (p := [1, 0, 1, 1]) (by kernel_rfl) ?_
    refine q_then ?_
    refine w_seq (p := [1, 1]) (p0 := [1, 1, 0]) (p1 := [1, 1, 1]) (by kernel_rfl) ?_
    refine w_seq (p := [1, 1, 0]) (p0 := [1, 1, 0, 0]) (p1 := [1, 1, 0, 1]) (by kernel_rfl) ?_
    refine w_region (p := [1, 1, 0, 0]) (id := 3) (by kernel_rfl) ?_
    refine r_vals 0 5 [.int .i64 a1, .string a0, .int .i64 (a0.size : Int), .bool (a1 == (a0.size : Int)), .bool (a1 == (a0.size : Int))] (by kernel_rfl) (by kernel_rfl) ?_
    refine b_split (a1 == (a0.size : Int)) (fun h_ => ?_) (fun h_ => ?_)
    · have h1121 : a1 = (a0.size : Int) := by simpa using h_
      rw [if_pos h1121] at H
      rw [h_]
      clear h_
      refine r_vals 5 10 [undef, undef, undef, undef, .bool true] (by kernel_rfl) (by kernel_rfl) ?_
      refine r_fin 10 (by kernel_rfl) ?_
      refine q_then ?_
      refine w_into (class_Parse.j1F a0 a1 b1090 b1097 true) (by kernel_rfl) (fun u_ => ?_)
      exact class_Parse.j1.ok K a0 a1 w r b1090 b1097 HR  true u_ w1104 k1105 hb1108 hb1109 ghb1108 ghb1109 nhb1108hb1109 H
    · have h1121 : ¬ (a1 = (a0.size : Int)) := by simpa using h_
      rw [if_neg h1121] at H
      rw [h_]
      clear h_
      refine r_vals 5 7 [.string a0, .int .i64 a1] (by kernel_rfl) (by kernel_rfl) ?_
      refine p_split (0 ≤ a1) (fun h1122 => ?_) (fun h1122 => ?_)
      · rw [if_pos h1122] at H
        refine p_split (a1 < (a0.size : Int)) (fun h1123 => ?_) (fun h1123 => ?_)
        · rw [if_pos h1123] at H
          refine r_do 7 (by kernel_rfl) (og_sindex (T := 9) (x := (Operand.tmp 28)) (y := (Operand.tmp 29)) (k := .i64) (by kernel_rfl) (by kernel_rfl) (by kernel_rfl) (by kernel_rfl) h1122 h1123 ?_) 
          refine r_vals 8 10 [.bool ((bt a0 a1) != 91), .bool ((bt a0 a1) != 91)] (by kernel_rfl) (by kernel_rfl) ?_
          refine r_fin 10 (by kernel_rfl) ?_
          refine q_then ?_
          refine w_into (class_Parse.j1F a0 a1 b1090 b1097 ((bt a0 a1) != 91)) (by kernel_rfl) (fun u_ => ?_)
          exact class_Parse.j1.ok K a0 a1 w r b1090 b1097 HR  ((bt a0 a1) != 91) u_ w1104 k1105 hb1108 hb1109 ghb1108 ghb1109 nhb1108hb1109 H
        · rw [if_neg h1123] at H
          cases H
      · rw [if_neg h1122] at H
        cases H
set_option maxRecDepth 20000 in
set_option maxHeartbeats 4000000 in
theorem class_Parse.ok (K : Nat) (a0 : ByteArray) (a1 : Int) (w : World)  (r : Tapi_Class × Int × Tapi_Fault) (H : class_Parse.f K a0 a1 = some r) : Calls Try.prog 32 #[.string a0, .int .i64 a1] w (class_Parse.R r w) := by
  refine calls_cd (t := #[.string a0, .int .i64 a1, undef, undef, undef, undef, undef, undef, undef, undef, undef, undef, undef, undef, undef, undef, undef, undef, undef, undef, undef, undef, undef, undef, undef, undef, undef, undef, undef, undef, undef, undef, undef, undef, undef, undef, undef, undef, undef, undef, undef, undef, undef, undef, undef, undef, undef, undef, undef, undef, undef, undef, undef, undef, undef, undef, undef, undef, undef, undef, undef, undef, undef, undef, undef, undef, undef, undef, undef, undef, undef, undef]) Try.func32 (by kernel_rfl) (by kernel_rfl) ?_
  unfold class_Parse.f at H
  have HR : ∀ a w', bodyPost Try.prog Try.f32 (class_Parse.R r w) .ret a w' → bodyPost Try.prog Try.f32 (class_Parse.R r w) .ret a w' := fun _ _ h => h
  refine w_seq (p := []) (p0 := [0]) (p1 := [1]) (by kernel_rfl) ?_
  refine w_region (p := [0]) (id := 0) (by kernel_rfl) ?_
  refine r_do 0 (by kernel_rfl) (og_alloc (T := 37) (cs := #[.int .u64 0, .int .u64 0, .int .u64 0, .int .u64 0]) (by kernel_rfl) (by kernel_rfl) ?_) 
  intro b1090 w1087 e1091 hb1089 k1088
  have g1092 : w.heap.size ≤ b1090 := by rw [e1091]; exact Kp.size (Kp.refl No w)
  clear e1091
  have k1093 := Kp.trans (Kp.refl No w) k1088 (fun _ h => h.elim)
  refine r_vals 1 2 [.int .i64 0] (by kernel_rfl) (by kernel_rfl) ?_
  refine r_do 2 (by kernel_rfl) (og_alloc (T := 65) (cs := #[.int .i64 0, .int .i64 0]) (by kernel_rfl) (by kernel_rfl) ?_) 
  intro b1097 w1094 e1098 hb1096 k1095
  have n1099 : b1090 ≠ b1097 := by rw [e1098]; exact Nat.ne_of_lt hb1089.lt
  have g1100 : w.heap.size ≤ b1097 := by rw [e1098]; exact Kp.size k1093
  clear e1098
  have k1101 := Kp.trans k1093 k1095 (fun _ h => h.elim)
  have hb1102 := Blk.kp hb1089 k1095 id
  refine r_fin 3 (by kernel_rfl) ?_
  refine q_then ?_
  refine w_seq (p := [1]) (p0 := [1, 0]) (p1 := [1, 1]) (by kernel_rfl) ?_
  refine w_seq (p := [1, 0]) (p0 := [1, 0, 0]) (p1 := [1, 0, 1]) (by kernel_rfl) ?_
  refine w_region (p := [1, 0, 0]) (id := 1) (by kernel_rfl) ?_
  refine r_vals 0 3 [.int .i64 a1, .bool (decide (a1 < 0)), .bool (decide (a1 < 0))] (by kernel_rfl) (by kernel_rfl) ?_
  refine b_split (decide (a1 < 0)) (fun h_ => ?_) (fun h_ => ?_)
  · have h1103 : a1 < 0 := by simpa using h_
    rw [if_pos h1103] at H
    rw [h_]
    clear h_
    refine r_vals 3 8 [undef, undef, undef, undef, .bool true] (by kernel_rfl) (by kernel_rfl) ?_
    refine r_fin 8 (by kernel_rfl) ?_
    refine q_then ?_
    refine w_into (class_Parse.j0F a0 a1 b1090 b1097 true) (by kernel_rfl) (fun u_ => ?_)
    exact class_Parse.j0.ok K a0 a1 w r b1090 b1097 HR  true u_ w1094 k1101 hb1102 hb1096 g1092 g1100 n1099 H
  · have h1103 : ¬ (a1 < 0) := by simpa using h_
    rw [if_neg h1103] at H
    rw [h_]
    clear h_
    refine r_vals 3 8 [.int .i64 a1, .string a0, .int .i64 (a0.size : Int), .bool (decide (a1 > (a0.size : Int))), .bool (decide (a1 > (a0.size : Int)))] (by kernel_rfl) (by kernel_rfl) ?_
    refine r_fin 8 (by kernel_rfl) ?_
    refine q_then ?_
    refine w_into (class_Parse.j0F a0 a1 b1090 b1097 (decide (a1 > (a0.size : Int)))) (by kernel_rfl) (fun u_ => ?_)
    exact class_Parse.j0.ok K a0 a1 w r b1090 b1097 HR  (decide (a1 > (a0.size : Int))) u_ w1094 k1101 hb1102 hb1096 g1092 g1100 n1099 H
/-! ### dowel/dowellaw03.works -/
def dowellaw03_works.j0F (x1603 : Bool) (u_ : Nat → Value) : Array Value := #[.bool x1603, u_ 1, u_ 2, u_ 3, u_ 4, u_ 5, u_ 6, u_ 7, u_ 8, u_ 9, u_ 10, u_ 11, u_ 12, u_ 13, u_ 14, u_ 15, u_ 16, u_ 17, u_ 18, u_ 19, u_ 20, u_ 21, u_ 22, u_ 23, u_ 24, u_ 25, u_ 26, u_ 27, u_ 28, u_ 29, u_ 30, u_ 31, u_ 32, u_ 33, u_ 34, u_ 35, u_ 36, u_ 37, u_ 38, u_ 39, u_ 40]
def dowellaw03_works.j0 (x1603 : Bool) : Option (Bool) := some x1603
def dowellaw03_works.f (K : Nat)  : Option (Bool) := (class_Parse.f K (⟨#[91, 97, 45, 99, 120, 93]⟩ : ByteArray) 0).bind fun t1521 => (if ((t1521.2.2.f0 == 0) && ((t1521.2.2.f1 == 0) && true)) = true then (if t1521.2.1 = 6 then ((class_Has.f K t1521.1 98).bind fun t1554 => (if t1554 = true then ((class_Has.f K t1521.1 100).bind fun t1562 => (if ¬ (t1562 = true) then ((class_Count.f K t1521.1).bind fun t1570 => (if t1570 = 4 then ((class_Text.f K t1521.1).bind fun t1578 => (if t1578.toList = (⟨#[91, 97, 45, 99, 120, 93]⟩ : ByteArray).toList then ((class_Not.f K zapi_Class).bind fun t1586 => ((class_Text.f K t1586).bind fun t1593 => (dowellaw03_works.j0 (t1593.toList == (⟨#[91, 94, 93]⟩ : ByteArray).toList)))) else (dowellaw03_works.j0 false))) else (dowellaw03_works.j0 false))) else (dowellaw03_works.j0 false))) else (dowellaw03_works.j0 false))) else (dowellaw03_works.j0 false)) else (dowellaw03_works.j0 false))
def dowellaw03_works.R (r : Bool) (w : World) : Ending → World → Prop := fun e w' => e = .returned (.bool r) ∧ Kp No w w'
set_option maxRecDepth 20000 in
set_option maxHeartbeats 4000000 in
theorem dowellaw03_works.j0.ok (K : Nat)  (w : World) (r : Bool) {Q : Exit → Act → World → Prop}  (HR : ∀ a w', bodyPost Try.prog Try.f31 (dowellaw03_works.R r w) .ret a w' → Q .ret a w')  (x1603 : Bool) (u1602 : Nat → Value) (w1600 : World) (k1601 : Kp No w w1600)  (H : dowellaw03_works.j0 x1603 = some r) : (cd Try.f31 [1, 1, 1]).wp Try.prog Q ⟨dowellaw03_works.j0F x1603 u1602, []⟩ w1600 := by
  unfold dowellaw03_works.j0 at H
  refine w_ret (p := [1, 1, 1]) (by kernel_rfl) ?_
  obtain rfl := Option.some.inj H
  refine HR _ _ (body_ret (vs := [.bool x1603]) (rv_tmp (by kernel_rfl) rfl) rfl ?_)
  exact ⟨rfl, k1601⟩
set_option maxRecDepth 20000 in
set_option maxHeartbeats 4000000 in
theorem dowellaw03_works.ok (K : Nat)  (w : World)  (r : Bool) (H : dowellaw03_works.f K  = some r) : Calls Try.prog 31 #[] w (dowellaw03_works.R r w) := by
  refine calls_cd (t := #[undef, undef, undef, undef, undef, undef, undef, undef, undef, undef, undef, undef, undef, undef, undef, undef, undef, undef, undef, undef, undef, undef, undef, undef, undef, undef, undef, undef, undef, undef, undef, undef, undef, undef, undef, undef, undef, undef, undef, undef, undef]) Try.func31 (by kernel_rfl) (by kernel_rfl) ?_
  unfold dowellaw03_works.f at H
  have HR : ∀ a w', bodyPost Try.prog Try.f31 (dowellaw03_works.R r w) .ret a w' → bodyPost Try.prog Try.f31 (dowellaw03_works.R r w) .ret a w' := fun _ _ h => h
  refine w_seq (p := []) (p0 := [0]) (p1 := [1]) (by kernel_rfl) ?_
  refine w_region (p := [0]) (id := 0) (by kernel_rfl) ?_
  refine r_vals 0 1 [.bool false] (by kernel_rfl) (by kernel_rfl) ?_
  refine r_fin 1 (by kernel_rfl) ?_
  refine q_then ?_
  refine w_seq (p := [1]) (p0 := [1, 0]) (p1 := [1, 1]) (by kernel_rfl) ?_
  refine w_region (p := [1, 0]) (id := 1) (by kernel_rfl) ?_
  obtain ⟨t1521, ht1522, H⟩ := Option.bind_eq_some_iff.1 H
  refine r_do 0 (by kernel_rfl) (og_call (g := 32) (av := #[.string (⟨#[91, 97, 45, 99, 120, 93]⟩ : ByteArray), .int .i64 0]) (by kernel_rfl) ?_) 
  refine (class_Parse.ok K (⟨#[91, 97, 45, 99, 120, 93]⟩ : ByteArray) 0 w t1521 ht1522).mono ?_
  rintro e w1523 ⟨rfl, k1524⟩
  refine ⟨_, rfl, ?_⟩
  have k1525 := Kp.trans (Kp.refl No w) k1524 (fun _ h => h.elim)
  refine r_vals 1 5 [.tuple #[.agg #[.int .u64 t1521.1.f0, .int .u64 t1521.1.f1, .int .u64 t1521.1.f2, .int .u64 t1521.1.f3], .int .i64 t1521.2.1, .agg #[.int .i64 t1521.2.2.f0, .int .i64 t1521.2.2.f1]], .agg #[.int .u64 t1521.1.f0, .int .u64 t1521.1.f1, .int .u64 t1521.1.f2, .int .u64 t1521.1.f3], .int .i64 t1521.2.1, .agg #[.int .i64 t1521.2.2.f0, .int .i64 t1521.2.2.f1]] (by kernel_rfl) (by kernel_rfl) ?_
  refine r_do 5 (by kernel_rfl) (og_alloc (T := 37) (cs := #[.int .u64 0, .int .u64 0, .int .u64 0, .int .u64 0]) (by kernel_rfl) (by kernel_rfl) ?_) 
  intro b1529 w1526 e1530 hb1528 k1527
  have g1531 : w.heap.size ≤ b1529 := by rw [e1530]; exact Kp.size k1525
  clear e1530
  have k1532 := Kp.trans k1525 k1527 (fun _ h => h.elim)
  refine r_do 6 (by kernel_rfl) (og_alloc (T := 65) (cs := #[.int .i64 0, .int .i64 0]) (by kernel_rfl) (by kernel_rfl) ?_) 
  intro b1536 w1533 e1537 hb1535 k1534
  have n1538 : b1529 ≠ b1536 := by rw [e1537]; exact Nat.ne_of_lt hb1528.lt
  have g1539 : w.heap.size ≤ b1536 := by rw [e1537]; exact Kp.size k1532
  clear e1537
  have k1540 := Kp.trans k1532 k1534 (fun _ h => h.elim)
  have hb1541 := Blk.kp hb1528 k1534 id
  refine r_do 7 (by kernel_rfl) (og_store (T := 37) (x := (Operand.tmp 1)) (y := (Operand.tmp 6)) (b := b1529) (off := 0) (.agg #[.int .u64 t1521.1.f0, .int .u64 t1521.1.f1, .int .u64 t1521.1.f2, .int .u64 t1521.1.f3]) (by kernel_rfl) (by kernel_rfl) (by kernel_rfl) hb1541 (cs' := #[.int .u64 t1521.1.f0, .int .u64 t1521.1.f1, .int .u64 t1521.1.f2, .int .u64 t1521.1.f3]) (by kernel_rfl) ?_) 
  intro w1543 hb1542 k1544 _
  have k1545 := Kp.trans k1540 k1544 (fun x hx => .inr (by rw [show x = _ from hx]; exact g1531))
  have hb1546 := Blk.kp hb1535 k1544 (show ¬ (b1536 = b1529) from (Ne.symm n1538))
  refine r_vals 8 9 [.int .i64 t1521.2.1] (by kernel_rfl) (by kernel_rfl) ?_
  refine r_do 9 (by kernel_rfl) (og_store (T := 65) (x := (Operand.tmp 3)) (y := (Operand.tmp 8)) (b := b1536) (off := 0) (.agg #[.int .i64 t1521.2.2.f0, .int .i64 t1521.2.2.f1]) (by kernel_rfl) (by kernel_rfl) (by kernel_rfl) hb1546 (cs' := #[.int .i64 t1521.2.2.f0, .int .i64 t1521.2.2.f1]) (by kernel_rfl) ?_) 
  intro w1548 hb1547 k1549 _
  have k1550 := Kp.trans k1545 k1549 (fun x hx => .inr (by rw [show x = _ from hx]; exact g1539))
  have hb1551 := Blk.kp hb1542 k1549 (show ¬ (b1529 = b1536) from n1538)
  refine r_fin 10 (by kernel_rfl) ?_
  refine q_then ?_
  refine w_seq (p := [1, 1]) (p0 := [1, 1, 0]) (p1 := [1, 1, 1]) (by kernel_rfl) ?_
  refine w_region (p := [1, 1, 0]) (id := 2) (by kernel_rfl) ?_
  refine r_do 0 (by kernel_rfl) (og_load (T := 65) (x := (Operand.tmp 3)) (b := b1536) (off := 0) (.agg #[.int .i64 t1521.2.2.f0, .int .i64 t1521.2.2.f1]) (by kernel_rfl) (by kernel_rfl) hb1547 (by kernel_rfl) ?_) 
  refine r_vals 1 2 [.agg #[.int .i64 0, .int .i64 0]] (by kernel_rfl) (by kernel_rfl) ?_
  refine r_do 2 (by kernel_rfl) (og_eqagg (T := 65) (U := 65) (x := (Operand.tmp 9)) (y := (Operand.tmp 10)) (xs := #[.int .i64 t1521.2.2.f0, .int .i64 t1521.2.2.f1]) (ys := #[.int .i64 0, .int .i64 0]) (((t1521.2.2.f0 == 0) && ((t1521.2.2.f1 == 0) && true))) (by kernel_rfl) (by kernel_rfl) (by kernel_rfl) (by kernel_rfl) (by kernel_rfl) ?_) 
  refine r_vals 3 4 [.bool ((t1521.2.2.f0 == 0) && ((t1521.2.2.f1 == 0) && true))] (by kernel_rfl) (by kernel_rfl) ?_
  refine b_split (((t1521.2.2.f0 == 0) && ((t1521.2.2.f1 == 0) && true))) (fun h_ => ?_) (fun h_ => ?_)
  · have h1552 : ((t1521.2.2.f0 == 0) && ((t1521.2.2.f1 == 0) && true)) = true := h_
    rw [if_pos h1552] at H
    rw [h_]
    clear h_
    refine r_vals 4 8 [.int .i64 t1521.2.1, .bool (t1521.2.1 == 6), .bool (t1521.2.1 == 6), .bool (t1521.2.1 == 6)] (by kernel_rfl) (by kernel_rfl) ?_
    refine b_split (t1521.2.1 == 6) (fun h_ => ?_) (fun h_ => ?_)
    · have h1553 : t1521.2.1 = 6 := by simpa using h_
      rw [if_pos h1553] at H
      rw [h_]
      clear h_
      refine r_do 8 (by kernel_rfl) (og_load (T := 37) (x := (Operand.tmp 1)) (b := b1529) (off := 0) (.agg #[.int .u64 t1521.1.f0, .int .u64 t1521.1.f1, .int .u64 t1521.1.f2, .int .u64 t1521.1.f3]) (by kernel_rfl) (by kernel_rfl) hb1551 (by kernel_rfl) ?_) 
      obtain ⟨t1554, ht1555, H⟩ := Option.bind_eq_some_iff.1 H
      refine r_do 9 (by kernel_rfl) (og_call (g := 70) (av := #[.agg #[.int .u64 t1521.1.f0, .int .u64 t1521.1.f1, .int .u64 t1521.1.f2, .int .u64 t1521.1.f3], .int .u8 98]) (by kernel_rfl) ?_) 
      refine (class_Has.ok K t1521.1 98 w1548 t1554 ht1555).mono ?_
      rintro e w1556 ⟨rfl, k1557⟩
      refine ⟨_, rfl, ?_⟩
      have k1558 := Kp.trans k1550 k1557 (fun _ h => h.elim)
      have hb1559 := Blk.kp hb1551 k1557 id
      have hb1560 := Blk.kp hb1547 k1557 id
      refine r_vals 10 12 [.bool t1554, .bool t1554] (by kernel_rfl) (by kernel_rfl) ?_
      refine b_split (t1554) (fun h_ => ?_) (fun h_ => ?_)
      · have h1561 : t1554 = true := h_
        rw [if_pos h1561] at H
        rw [h_]
        clear h_
        refine r_do 12 (by kernel_rfl) (og_load (T := 37) (x := (Operand.tmp 1)) (b := b1529) (off := 0) (.agg #[.int .u64 t1521.1.f0, .int .u64 t1521.1.f1, .int .u64 t1521.1.f2, .int .u64 t1521.1.f3]) (by kernel_rfl) (by kernel_rfl) hb1559 (by kernel_rfl) ?_) 
        obtain ⟨t1562, ht1563, H⟩ := Option.bind_eq_some_iff.1 H
        refine r_do 13 (by kernel_rfl) (og_call (g := 70) (av := #[.agg #[.int .u64 t1521.1.f0, .int .u64 t1521.1.f1, .int .u64 t1521.1.f2, .int .u64 t1521.1.f3], .int .u8 100]) (by kernel_rfl) ?_) 
        refine (class_Has.ok K t1521.1 100 w1556 t1562 ht1563).mono ?_
        rintro e w1564 ⟨rfl, k1565⟩
        refine ⟨_, rfl, ?_⟩
        have k1566 := Kp.trans k1558 k1565 (fun _ h => h.elim)
        have hb1567 := Blk.kp hb1559 k1565 id
        have hb1568 := Blk.kp hb1560 k1565 id
        refine r_vals 14 17 [.bool (!t1562), .bool (!t1562), .bool (!t1562)] (by kernel_rfl) (by kernel_rfl) ?_
        refine b_split (!t1562) (fun h_ => ?_) (fun h_ => ?_)
        · have h1569 : ¬ (t1562 = true) := bnot_t h_
          rw [if_pos h1569] at H
          rw [h_]
          clear h_
          refine r_do 17 (by kernel_rfl) (og_load (T := 37) (x := (Operand.tmp 1)) (b := b1529) (off := 0) (.agg #[.int .u64 t1521.1.f0, .int .u64 t1521.1.f1, .int .u64 t1521.1.f2, .int .u64 t1521.1.f3]) (by kernel_rfl) (by kernel_rfl) hb1567 (by kernel_rfl) ?_) 
          obtain ⟨t1570, ht1571, H⟩ := Option.bind_eq_some_iff.1 H
          refine r_do 18 (by kernel_rfl) (og_call (g := 34) (av := #[.agg #[.int .u64 t1521.1.f0, .int .u64 t1521.1.f1, .int .u64 t1521.1.f2, .int .u64 t1521.1.f3]]) (by kernel_rfl) ?_) 
          refine (class_Count.ok K t1521.1 w1564 t1570 ht1571).mono ?_
          rintro e w1572 ⟨rfl, k1573⟩
          refine ⟨_, rfl, ?_⟩
          have k1574 := Kp.trans k1566 k1573 (fun _ h => h.elim)
          have hb1575 := Blk.kp hb1567 k1573 id
          have hb1576 := Blk.kp hb1568 k1573 id
          refine r_vals 19 22 [.bool (t1570 == 4), .bool (t1570 == 4), .bool (t1570 == 4)] (by kernel_rfl) (by kernel_rfl) ?_
          refine b_split (t1570 == 4) (fun h_ => ?_) (fun h_ => ?_)
          · have h1577 : t1570 = 4 := by simpa using h_
            rw [if_pos h1577] at H
            rw [h_]
            clear h_
            refine r_do 22 (by kernel_rfl) (og_load (T := 37) (x := (Operand.tmp 1)) (b := b1529) (off := 0) (.agg #[.int .u64 t1521.1.f0, .int .u64 t1521.1.f1, .int .u64 t1521.1.f2, .int .u64 t1521.1.f3]) (by kernel_rfl) (by kernel_rfl) hb1575 (by kernel_rfl) ?_) 
            obtain ⟨t1578, ht1579, H⟩ := Option.bind_eq_some_iff.1 H
            refine r_do 23 (by kernel_rfl) (og_call (g := 21) (av := #[.agg #[.int .u64 t1521.1.f0, .int .u64 t1521.1.f1, .int .u64 t1521.1.f2, .int .u64 t1521.1.f3]]) (by kernel_rfl) ?_) 
            refine (class_Text.ok K t1521.1 w1572 t1578 ht1579).mono ?_
            rintro e w1580 ⟨rfl, k1581⟩
            refine ⟨_, rfl, ?_⟩
            have k1582 := Kp.trans k1574 k1581 (fun _ h => h.elim)
            have hb1583 := Blk.kp hb1575 k1581 id
            have hb1584 := Blk.kp hb1576 k1581 id
            refine r_vals 24 27 [.bool (t1578.toList == (⟨#[91, 97, 45, 99, 120, 93]⟩ : ByteArray).toList), .bool (t1578.toList == (⟨#[91, 97, 45, 99, 120, 93]⟩ : ByteArray).toList), .bool (t1578.toList == (⟨#[91, 97, 45, 99, 120, 93]⟩ : ByteArray).toList)] (by kernel_rfl) (by kernel_rfl) ?_
            refine b_split (t1578.toList == (⟨#[91, 97, 45, 99, 120, 93]⟩ : ByteArray).toList) (fun h_ => ?_) (fun h_ => ?_)
            · have h1585 : t1578.toList = (⟨#[91, 97, 45, 99, 120, 93]⟩ : ByteArray).toList := by simpa using h_
              rw [if_pos h1585] at H
              rw [h_]
              clear h_
              refine r_vals 27 28 [.agg #[.int .u64 0, .int .u64 0, .int .u64 0, .int .u64 0]] (by kernel_rfl) (by kernel_rfl) ?_
              obtain ⟨t1586, ht1587, H⟩ := Option.bind_eq_some_iff.1 H
              refine r_do 28 (by kernel_rfl) (og_call (g := 60) (av := #[.agg #[.int .u64 0, .int .u64 0, .int .u64 0, .int .u64 0]]) (by kernel_rfl) ?_) 
              refine (class_Not.ok K zapi_Class w1580 t1586 ht1587).mono ?_
              rintro e w1588 ⟨rfl, k1589⟩
              refine ⟨_, rfl, ?_⟩
              have k1590 := Kp.trans k1582 k1589 (fun _ h => h.elim)
              have hb1591 := Blk.kp hb1583 k1589 id
              have hb1592 := Blk.kp hb1584 k1589 id
              obtain ⟨t1593, ht1594, H⟩ := Option.bind_eq_some_iff.1 H
              refine r_do 29 (by kernel_rfl) (og_call (g := 21) (av := #[.agg #[.int .u64 t1586.f0, .int .u64 t1586.f1, .int .u64 t1586.f2, .int .u64 t1586.f3]]) (by kernel_rfl) ?_) 
              refine (class_Text.ok K t1586 w1588 t1593 ht1594).mono ?_
              rintro e w1595 ⟨rfl, k1596⟩
              refine ⟨_, rfl, ?_⟩
              have k1597 := Kp.trans k1590 k1596 (fun _ h => h.elim)
              have hb1598 := Blk.kp hb1591 k1596 id
              have hb1599 := Blk.kp hb1592 k1596 id
              refine r_vals 30 33 [.bool (t1593.toList == (⟨#[91, 94, 93]⟩ : ByteArray).toList), .bool (t1593.toList == (⟨#[91, 94, 93]⟩ : ByteArray).toList), .bool (t1593.toList == (⟨#[91, 94, 93]⟩ : ByteArray).toList)] (by kernel_rfl) (by kernel_rfl) ?_
              refine r_fin 33 (by kernel_rfl) ?_
              refine q_then ?_
              refine w_into (dowellaw03_works.j0F (t1593.toList == (⟨#[91, 94, 93]⟩ : ByteArray).toList)) (by kernel_rfl) (fun u_ => ?_)
              exact dowellaw03_works.j0.ok K  w r  HR  (t1593.toList == (⟨#[91, 94, 93]⟩ : ByteArray).toList) u_ w1595 k1597  H
            · have h1585 : ¬ (t1578.toList = (⟨#[91, 97, 45, 99, 120, 93]⟩ : ByteArray).toList) := by simpa using h_
              rw [if_neg h1585] at H
              rw [h_]
              clear h_
              refine r_vals 27 33 [undef, undef, undef, undef, .bool false, .bool false] (by kernel_rfl) (by kernel_rfl) ?_
              refine r_fin 33 (by kernel_rfl) ?_
              refine q_then ?_
              refine w_into (dowellaw03_works.j0F false) (by kernel_rfl) (fun u_ => ?_)
              exact dowellaw03_works.j0.ok K  w r  HR  false u_ w1580 k1582  H
          · have h1577 : ¬ (t1570 = 4) := by simpa using h_
            rw [if_neg h1577] at H
            rw [h_]
            clear h_
            refine r_vals 22 33 [undef, undef, undef, .bool false, .bool false, undef, undef, undef, undef, .bool false, .bool false] (by kernel_rfl) (by kernel_rfl) ?_
            refine r_fin 33 (by kernel_rfl) ?_
            refine q_then ?_
            refine w_into (dowellaw03_works.j0F false) (by kernel_rfl) (fun u_ => ?_)
            exact dowellaw03_works.j0.ok K  w r  HR  false u_ w1572 k1574  H
        · have h1569 : ¬ (¬ (t1562 = true)) := bnot_f h_
          rw [if_neg h1569] at H
          rw [h_]
          clear h_
          refine r_vals 17 33 [undef, undef, undef, .bool false, .bool false, undef, undef, undef, .bool false, .bool false, undef, undef, undef, undef, .bool false, .bool false] (by kernel_rfl) (by kernel_rfl) ?_
          refine r_fin 33 (by kernel_rfl) ?_
          refine q_then ?_
          refine w_into (dowellaw03_works.j0F false) (by kernel_rfl) (fun u_ => ?_)
          exact dowellaw03_works.j0.ok K  w r  HR  false u_ w1564 k1566  H
      · have h1561 : ¬ (t1554 = true) := by rw [h_]; decide
        rw [if_neg h1561] at H
        rw [h_]
        clear h_
        refine r_vals 12 33 [undef, undef, undef, .bool false, .bool false, undef, undef, undef, .bool false, .bool false, undef, undef, undef, .bool false, .bool false, undef, undef, undef, undef, .bool false, .bool false] (by kernel_rfl) (by kernel_rfl) ?_
        refine r_fin 33 (by kernel_rfl) ?_
        refine q_then ?_
        refine w_into (dowellaw03_works.j0F false) (by kernel_rfl) (fun u_ => ?_)
        exact dowellaw03_works.j0.ok K  w r  HR  false u_ w1556 k1558  H
    · have h1553 : ¬ (t1521.2.1 = 6) := by simpa using h_
      rw [if_neg h1553] at H
      rw [h_]
      clear h_
      refine r_vals 8 33 [undef, undef, .bool false, .bool false, undef, undef, undef, .bool false, .bool false, undef, undef, undef, .bool false, .bool false, undef, undef, undef, .bool false, .bool false, undef, undef, undef, undef, .bool false, .bool false] (by kernel_rfl) (by kernel_rfl) ?_
      refine r_fin 33 (by kernel_rfl) ?_
      refine q_then ?_
      refine w_into (dowellaw03_works.j0F false) (by kernel_rfl) (fun u_ => ?_)
      exact dowellaw03_works.j0.ok K  w r  HR  false u_ w1548 k1550  H
  · have h1552 : ¬ (((t1521.2.2.f0 == 0) && ((t1521.2.2.f1 == 0) && true)) = true) := by rw [h_]; decide
    rw [if_neg h1552] at H
    rw [h_]
    clear h_
    refine r_vals 4 33 [undef, undef, .bool false, .bool false, undef, undef, .bool false, .bool false, undef, undef, undef, .bool false, .bool false, undef, undef, undef, .bool false, .bool false, undef, undef, undef, .bool false, .bool false, undef, undef, undef, undef, .bool false, .bool false] (by kernel_rfl) (by kernel_rfl) ?_
    refine r_fin 33 (by kernel_rfl) ?_
    refine q_then ?_
    refine w_into (dowellaw03_works.j0F false) (by kernel_rfl) (fun u_ => ?_)
    exact dowellaw03_works.j0.ok K  w r  HR  false u_ w1548 k1550  H
/-! ### dowel/dowellaw03.ClassBack -/
def dowellaw03_ClassBack.F0 (a1 : ByteArray) (b1607 : Nat) (t1618 : ByteArray) (b1635 : Nat) (t1626 : Tapi_Class × Int × Tapi_Fault) (b1644 : Nat) (A1669 : Option Addr) (t1664 : List Tapi_Range) (c1670 : Nat) (x1736 : Int) (x1737 : Int) (u_ : Nat → Value) : Array Value := #[u_ 0, .string a1, u_ 2, .pointer (some ⟨b1607, 0, none⟩), u_ 4, u_ 5, u_ 6, .string t1618, .pointer (some ⟨b1635, 0, none⟩), .int .i64 t1626.2.1, .pointer (some ⟨b1644, 0, none⟩), .slice A1669 t1664.length c1670, .int .i64 x1736, .int .i64 x1737, u_ 14, u_ 15, u_ 16, u_ 17, u_ 18, u_ 19, u_ 20, u_ 21, u_ 22, u_ 23, u_ 24, u_ 25, u_ 26, u_ 27, u_ 28, u_ 29, u_ 30, u_ 31, u_ 32, u_ 33, u_ 34, u_ 35, u_ 36, u_ 37, u_ 38, u_ 39, u_ 40, u_ 41, u_ 42, u_ 43, u_ 44, u_ 45, u_ 46, u_ 47, u_ 48, u_ 49, u_ 50, u_ 51, u_ 52, u_ 53, u_ 54, u_ 55, u_ 56, u_ 57, u_ 58, u_ 59, u_ 60, u_ 61, u_ 62, u_ 63, u_ 64, u_ 65, u_ 66, u_ 67, u_ 68, u_ 69, u_ 70, u_ 71, u_ 72, u_ 73, u_ 74, u_ 75, u_ 76, u_ 77, u_ 78, u_ 79, u_ 80, u_ 81, u_ 82, u_ 83, u_ 84, u_ 85, u_ 86, u_ 87, u_ 88, u_ 89, u_ 90, u_ 91, u_ 92, u_ 93, u_ 94, u_ 95, u_ 96, u_ 97, u_ 98, u_ 99, u_ 100, u_ 101, u_ 102, u_ 103, u_ 104, u_ 105, u_ 106, u_ 107, u_ 108, u_ 109, u_ 110, u_ 111, u_ 112, u_ 113, u_ 114]
def dowellaw03_ClassBack.F0_0 (a1 : ByteArray) (b1607 : Nat) (t1618 : ByteArray) (b1635 : Nat) (t1626 : Tapi_Class × Int × Tapi_Fault) (b1644 : Nat) (A1669 : Option Addr) (t1664 : List Tapi_Range) (c1670 : Nat) (x1804 : Int) (u_ : Nat → Value) : Array Value := #[u_ 0, .string a1, u_ 2, .pointer (some ⟨b1607, 0, none⟩), u_ 4, u_ 5, u_ 6, .string t1618, .pointer (some ⟨b1635, 0, none⟩), .int .i64 t1626.2.1, .pointer (some ⟨b1644, 0, none⟩), .slice A1669 t1664.length c1670, .int .i64 x1804, u_ 13, u_ 14, u_ 15, u_ 16, u_ 17, u_ 18, u_ 19, u_ 20, u_ 21, u_ 22, u_ 23, u_ 24, u_ 25, u_ 26, u_ 27, u_ 28, u_ 29, u_ 30, u_ 31, u_ 32, u_ 33, u_ 34, u_ 35, u_ 36, u_ 37, u_ 38, u_ 39, u_ 40, u_ 41, u_ 42, u_ 43, u_ 44, u_ 45, u_ 46, u_ 47, u_ 48, u_ 49, u_ 50, u_ 51, u_ 52, u_ 53, u_ 54, u_ 55, u_ 56, u_ 57, u_ 58, u_ 59, u_ 60, u_ 61, u_ 62, u_ 63, u_ 64, u_ 65, u_ 66, u_ 67, u_ 68, u_ 69, u_ 70, u_ 71, u_ 72, u_ 73, u_ 74, u_ 75, u_ 76, u_ 77, u_ 78, u_ 79, u_ 80, u_ 81, u_ 82, u_ 83, u_ 84, u_ 85, u_ 86, u_ 87, u_ 88, u_ 89, u_ 90, u_ 91, u_ 92, u_ 93, u_ 94, u_ 95, u_ 96, u_ 97, u_ 98, u_ 99, u_ 100, u_ 101, u_ 102, u_ 103, u_ 104, u_ 105, u_ 106, u_ 107, u_ 108, u_ 109, u_ 110, u_ 111, u_ 112, u_ 113, u_ 114]
def dowellaw03_ClassBack.j1F (a1 : ByteArray) (b1607 : Nat) (t1618 : ByteArray) (b1635 : Nat) (t1626 : Tapi_Class × Int × Tapi_Fault) (b1644 : Nat) (A1669 : Option Addr) (t1664 : List Tapi_Range) (c1670 : Nat) (x1736 : Int) (x1737 : Int) (x1782 : Bool) (u_ : Nat → Value) : Array Value := #[u_ 0, .string a1, u_ 2, .pointer (some ⟨b1607, 0, none⟩), u_ 4, u_ 5, u_ 6, .string t1618, .pointer (some ⟨b1635, 0, none⟩), .int .i64 t1626.2.1, .pointer (some ⟨b1644, 0, none⟩), .slice A1669 t1664.length c1670, .int .i64 x1736, .int .i64 x1737, u_ 14, u_ 15, u_ 16, u_ 17, u_ 18, u_ 19, u_ 20, u_ 21, u_ 22, u_ 23, u_ 24, u_ 25, u_ 26, u_ 27, u_ 28, u_ 29, u_ 30, u_ 31, u_ 32, u_ 33, u_ 34, u_ 35, u_ 36, u_ 37, u_ 38, u_ 39, u_ 40, u_ 41, u_ 42, u_ 43, u_ 44, u_ 45, u_ 46, u_ 47, u_ 48, u_ 49, u_ 50, u_ 51, u_ 52, u_ 53, u_ 54, u_ 55, u_ 56, u_ 57, u_ 58, u_ 59, u_ 60, u_ 61, u_ 62, u_ 63, u_ 64, u_ 65, u_ 66, u_ 67, u_ 68, .bool x1782, u_ 70, u_ 71, u_ 72, u_ 73, u_ 74, u_ 75, u_ 76, u_ 77, u_ 78, u_ 79, u_ 80, u_ 81, u_ 82, u_ 83, u_ 84, u_ 85, u_ 86, u_ 87, u_ 88, u_ 89, u_ 90, u_ 91, u_ 92, u_ 93, u_ 94, u_ 95, u_ 96, u_ 97, u_ 98, u_ 99, u_ 100, u_ 101, u_ 102, u_ 103, u_ 104, u_ 105, u_ 106, u_ 107, u_ 108, u_ 109, u_ 110, u_ 111, u_ 112, u_ 113, u_ 114]
def dowellaw03_ClassBack.j1 (x1737 : Int) (t1664 : List Tapi_Range) (next0 : Int → Int → Option (Bool)) (x1736 : Int) (x1782 : Bool) : Option (Bool) := if x1782 = true then (some false) else (if 0 ≤ x1737 then (if x1737 < (t1664.length : Int) then (next0 (W (x1736 + (W ((W ((W (((rd zapi_Range t1664 x1737)).f1)) - (W (((rd zapi_Range t1664 x1737)).f0)))) + 1)))) (W (x1737 + 1))) else none) else none)
def dowellaw03_ClassBack.b0 (t1664 : List Tapi_Range) (next0 : Int → Int → Option (Bool)) (brk0_0 : Int → Option (Bool)) (x1736 : Int) (x1737 : Int) : Option (Bool) := if x1737 < (t1664.length : Int) then (if 0 ≤ x1737 then (if (((rd zapi_Range t1664 x1737)).f0) > (((rd zapi_Range t1664 x1737)).f1) then (dowellaw03_ClassBack.j1 x1737 t1664 next0 x1736 true) else (if x1737 > 0 then (if 0 ≤ (W (x1737 - 1)) then (if (W (x1737 - 1)) < (t1664.length : Int) then (dowellaw03_ClassBack.j1 x1737 t1664 next0 x1736 (decide ((W ((W (((rd zapi_Range t1664 (W (x1737 - 1)))).f1)) + 1)) ≥ (W (((rd zapi_Range t1664 x1737)).f0))))) else none) else none) else (dowellaw03_ClassBack.j1 x1737 t1664 next0 x1736 false))) else none) else (brk0_0 x1736)
def dowellaw03_ClassBack.l0 (t1664 : List Tapi_Range) (brk0_0 : Int → Option (Bool)) : Nat → Int → Int → Option (Bool)
  | 0, _, _ => none
  | n_ + 1, x1736, x1737 => dowellaw03_ClassBack.b0 t1664 (dowellaw03_ClassBack.l0 t1664 brk0_0 n_) brk0_0 x1736 x1737
def dowellaw03_ClassBack.j2F (x1848 : Bool) (u_ : Nat → Value) : Array Value := #[u_ 0, u_ 1, u_ 2, u_ 3, u_ 4, u_ 5, .bool x1848, u_ 7, u_ 8, u_ 9, u_ 10, u_ 11, u_ 12, u_ 13, u_ 14, u_ 15, u_ 16, u_ 17, u_ 18, u_ 19, u_ 20, u_ 21, u_ 22, u_ 23, u_ 24, u_ 25, u_ 26, u_ 27, u_ 28, u_ 29, u_ 30, u_ 31, u_ 32, u_ 33, u_ 34, u_ 35, u_ 36, u_ 37, u_ 38, u_ 39, u_ 40, u_ 41, u_ 42, u_ 43, u_ 44, u_ 45, u_ 46, u_ 47, u_ 48, u_ 49, u_ 50, u_ 51, u_ 52, u_ 53, u_ 54, u_ 55, u_ 56, u_ 57, u_ 58, u_ 59, u_ 60, u_ 61, u_ 62, u_ 63, u_ 64, u_ 65, u_ 66, u_ 67, u_ 68, u_ 69, u_ 70, u_ 71, u_ 72, u_ 73, u_ 74, u_ 75, u_ 76, u_ 77, u_ 78, u_ 79, u_ 80, u_ 81, u_ 82, u_ 83, u_ 84, u_ 85, u_ 86, u_ 87, u_ 88, u_ 89, u_ 90, u_ 91, u_ 92, u_ 93, u_ 94, u_ 95, u_ 96, u_ 97, u_ 98, u_ 99, u_ 100, u_ 101, u_ 102, u_ 103, u_ 104, u_ 105, u_ 106, u_ 107, u_ 108, u_ 109, u_ 110, u_ 111, u_ 112, u_ 113, u_ 114]
def dowellaw03_ClassBack.j2 (x1848 : Bool) : Option (Bool) := some x1848
def dowellaw03_ClassBack.f (K : Nat) (a0 : Tapi_Class) (a1 : ByteArray) (a2 : ByteArray) : Option (Bool) := (dowellaw03_works.f K ).bind fun t1611 => (if ¬ (t1611 = true) then (some false) else ((class_Text.f K a0).bind fun t1618 => (if a1.size + t1618.size ≤ 9223372036854775807 then (if (a1 ++ t1618).size + a2.size ≤ 9223372036854775807 then ((class_Parse.f K ((a1 ++ t1618) ++ a2) (a1.size : Int)).bind fun t1626 => ((class_Ranges.f K a0).bind fun t1664 => (dowellaw03_ClassBack.l0 t1664 (fun x1804 => if ((t1626.2.2.f0 == 0) && ((t1626.2.2.f1 == 0) && true)) = true then (if ((t1626.1.f0 == a0.f0) && ((t1626.1.f1 == a0.f1) && ((t1626.1.f2 == a0.f2) && ((t1626.1.f3 == a0.f3) && true)))) = true then (if t1626.2.1 = (W ((a1.size : Int) + (t1618.size : Int))) then ((class_Of.f K t1664).bind fun t1826 => (if ((t1826.f0 == a0.f0) && ((t1826.f1 == a0.f1) && ((t1826.f2 == a0.f2) && ((t1826.f3 == a0.f3) && true)))) = true then ((class_Count.f K a0).bind fun t1836 => (dowellaw03_ClassBack.j2 (x1804 == t1836))) else (dowellaw03_ClassBack.j2 false))) else (dowellaw03_ClassBack.j2 false)) else (dowellaw03_ClassBack.j2 false)) else (dowellaw03_ClassBack.j2 false)) K 0 0))) else none) else none)))
def dowellaw03_ClassBack.R (r : Bool) (w : World) : Ending → World → Prop := fun e w' => e = .returned (.bool r) ∧ Kp No w w'
set_option maxRecDepth 20000 in
set_option maxHeartbeats 4000000 in
theorem dowellaw03_ClassBack.j1.ok (K : Nat) (a0 : Tapi_Class) (a1 : ByteArray) (a2 : ByteArray) (w : World) (r : Bool) {Q : Exit → Act → World → Prop} (b1607 : Nat) (t1618 : ByteArray) (b1635 : Nat) (t1626 : Tapi_Class × Int × Tapi_Fault) (b1644 : Nat) (A1669 : Option Addr) (t1664 : List Tapi_Range) (c1670 : Nat) (x1736 : Int) (x1737 : Int) (next0 : Int → Int → Option (Bool)) (brk0_0 : Int → Option (Bool)) (HR : ∀ a w', bodyPost Try.prog Try.f7 (dowellaw03_ClassBack.R r w) .ret a w' → Q .ret a w') (HN0 : ∀ (x1736q : Int) (x1737q : Int) (u1733q : Nat → Value) (w1734q : World) (k1735q : Kp No w w1734q) (hb1738q : Blk w1734q b1607 #[.int .u64 a0.f0, .int .u64 a0.f1, .int .u64 a0.f2, .int .u64 a0.f3] 37) (hb1739q : Blk w1734q b1635 #[.int .u64 t1626.1.f0, .int .u64 t1626.1.f1, .int .u64 t1626.1.f2, .int .u64 t1626.1.f3] 37) (hb1740q : Blk w1734q b1644 #[.int .i64 t1626.2.2.f0, .int .i64 t1626.2.2.f1] 65) (ghb1738q : w.heap.size ≤ b1607) (ghb1739q : w.heap.size ≤ b1635) (ghb1740q : w.heap.size ≤ b1644) (nhb1738hb1739q : b1607 ≠ b1635) (nhb1738hb1740q : b1607 ≠ b1644) (nhb1739hb1740q : b1635 ≠ b1644) (ho1745q : Ow w (Kapi_Range 44) w1734q A1669 t1664.length c1670 t1664) (n1746q : Dj (One b1607) (Ra A1669)) (n1747q : Dj (One b1635) (Ra A1669)) (n1748q : Dj (One b1644) (Ra A1669)), next0 x1736q x1737q = some r → Q .normal ⟨dowellaw03_ClassBack.F0 a1 b1607 t1618 b1635 t1626 b1644 A1669 t1664 c1670 x1736q x1737q u1733q, []⟩ w1734q) (HX0_0 : ∀ (x1804q : Int) (u1802q : Nat → Value) (w1800q : World) (k1801q : Kp No w w1800q) (hb1805q : Blk w1800q b1607 #[.int .u64 a0.f0, .int .u64 a0.f1, .int .u64 a0.f2, .int .u64 a0.f3] 37) (hb1806q : Blk w1800q b1635 #[.int .u64 t1626.1.f0, .int .u64 t1626.1.f1, .int .u64 t1626.1.f2, .int .u64 t1626.1.f3] 37) (hb1807q : Blk w1800q b1644 #[.int .i64 t1626.2.2.f0, .int .i64 t1626.2.2.f1] 65) (ghb1805q : w.heap.size ≤ b1607) (ghb1806q : w.heap.size ≤ b1635) (ghb1807q : w.heap.size ≤ b1644) (nhb1805hb1806q : b1607 ≠ b1635) (nhb1805hb1807q : b1607 ≠ b1644) (nhb1806hb1807q : b1635 ≠ b1644) (ho1812q : Ow w (Kapi_Range 44) w1800q A1669 t1664.length c1670 t1664) (n1813q : Dj (One b1607) (Ra A1669)) (n1814q : Dj (One b1635) (Ra A1669)) (n1815q : Dj (One b1644) (Ra A1669)), brk0_0 x1804q = some r → Q (.exit 0) ⟨dowellaw03_ClassBack.F0_0 a1 b1607 t1618 b1635 t1626 b1644 A1669 t1664 c1670 x1804q u1802q, []⟩ w1800q) (x1782 : Bool) (u1780 : Nat → Value) (w1778 : World) (k1779 : Kp No w w1778) (hb1783 : Blk w1778 b1607 #[.int .u64 a0.f0, .int .u64 a0.f1, .int .u64 a0.f2, .int .u64 a0.f3] 37) (hb1784 : Blk w1778 b1635 #[.int .u64 t1626.1.f0, .int .u64 t1626.1.f1, .int .u64 t1626.1.f2, .int .u64 t1626.1.f3] 37) (hb1785 : Blk w1778 b1644 #[.int .i64 t1626.2.2.f0, .int .i64 t1626.2.2.f1] 65) (ghb1783 : w.heap.size ≤ b1607) (ghb1784 : w.heap.size ≤ b1635) (ghb1785 : w.heap.size ≤ b1644) (nhb1783hb1784 : b1607 ≠ b1635) (nhb1783hb1785 : b1607 ≠ b1644) (nhb1784hb1785 : b1635 ≠ b1644) (ho1786 : Ow w (Kapi_Range 44) w1778 A1669 t1664.length c1670 t1664) (n1787 : Dj (One b1607) (Ra A1669)) (n1788 : Dj (One b1635) (Ra A1669)) (n1789 : Dj (One b1644) (Ra A1669)) (H : dowellaw03_ClassBack.j1 x1737 t1664 next0 x1736 x1782 = some r) : (cd Try.f7 [1, 1, 1, 1, 1, 1, 0, 1, 0, 0, 1, 0, 0, 0, 1]).wp Try.prog (Exit.then (fun a w => (cd Try.f7 [1, 1, 1, 1, 1, 1, 0, 1, 0, 0, 1, 0, 0, 1]).wp Try.prog (Exit.inBlock 1 (Exit.then (fun a w => (cd Try.f7 [1, 1, 1, 1, 1, 1, 0, 1, 0, 0, 1, 1]).wp Try.prog Q a w) Q)) a w) (Exit.inBlock 1 (Exit.then (fun a w => (cd Try.f7 [1, 1, 1, 1, 1, 1, 0, 1, 0, 0, 1, 1]).wp Try.prog Q a w) Q))) ⟨dowellaw03_ClassBack.j1F a1 b1607 t1618 b1635 t1626 b1644 A1669 t1664 c1670 x1736 x1737 x1782 u1780, []⟩ w1778 := by
  unfold dowellaw03_ClassBack.j1 at H
  refine w_cond (p := [1, 1, 1, 1, 1, 1, 0, 1, 0, 0, 1, 0, 0, 0, 1]) (p0 := [1, 1, 1, 1, 1, 1, 0, 1, 0, 0, 1, 0, 0, 0, 1, 0]) (p1 := [1, 1, 1, 1, 1, 1, 0, 1, 0, 0, 1, 0, 0, 0, 1, 1]) (c := (Operand.tmp 69)) (b := x1782) (by kernel_rfl) (by kernel_rfl) ?_ ?_
  · intro h_
    have h1790 : x1782 = true := h_
    clear h_
    rw [if_pos h1790] at H
    refine w_seq (p := [1, 1, 1, 1, 1, 1, 0, 1, 0, 0, 1, 0, 0, 0, 1, 0]) (p0 := [1, 1, 1, 1, 1, 1, 0, 1, 0, 0, 1, 0, 0, 0, 1, 0, 0]) (p1 := [1, 1, 1, 1, 1, 1, 0, 1, 0, 0, 1, 0, 0, 0, 1, 0, 1]) (by kernel_rfl) ?_
    refine w_region (p := [1, 1, 1, 1, 1, 1, 0, 1, 0, 0, 1, 0, 0, 0, 1, 0, 0]) (id := 11) (by kernel_rfl) ?_
    refine r_vals 0 1 [.bool false] (by kernel_rfl) (by kernel_rfl) ?_
    refine r_fin 1 (by kernel_rfl) ?_
    refine q_then ?_
    refine w_ret (p := [1, 1, 1, 1, 1, 1, 0, 1, 0, 0, 1, 0, 0, 0, 1, 0, 1]) (by kernel_rfl) ?_
    refine q_then_r ?_
    refine q_in_r ?_
    refine q_then_r ?_
    obtain rfl := Option.some.inj H
    refine HR _ _ (body_ret (vs := [.bool false]) (rv_tmp (by kernel_rfl) rfl) rfl ?_)
    exact ⟨rfl, k1779⟩
  · intro h_
    have h1790 : ¬ (x1782 = true) := by rw [h_]; decide
    clear h_
    rw [if_neg h1790] at H
    refine w_skip (p := [1, 1, 1, 1, 1, 1, 0, 1, 0, 0, 1, 0, 0, 0, 1, 1]) (by kernel_rfl) ?_
    refine q_then ?_
    refine p_split (0 ≤ x1737) (fun h1791 => ?_) (fun h1791 => ?_)
    · rw [if_pos h1791] at H
      refine p_split (x1737 < (t1664.length : Int)) (fun h1792 => ?_) (fun h1792 => ?_)
      · rw [if_pos h1792] at H
        refine w_drawk (p := [1, 1, 1, 1, 1, 1, 0, 1, 0, 0, 1, 0, 0, 1]) (id := 12) (by kernel_rfl) (by kernel_rfl) [0, 0, 0, 6, 14, 30, 62, 0, 0, 384, 896, 1920, 3968, 8190, 16382, 32767, 65535] 17 (by kernel_rfl) (J := (fun _ w_ => Kp No w1778 w_)) (fun w_ h1 h2 h3 h4 => Kp.same h1 h2 h3 h4) ?_
        refine k_pure 3 [.int .i64 x1736, .slice A1669 t1664.length c1670, .int .i64 x1737] (by kernel_rfl) (fun _ => by kernel_rfl) (fun _ _ _ _ _ h => h) ?_
        refine k_op (.pointer (some (eaOf A1669 (x1737.toNat * 2)))) (by kernel_rfl) (fun b_ w_ hJ hb_ hd_ he_ => ow_index (K := (Kapi_Range 44)) (T := 38) (e := 44) (sz := 2) (x := (Operand.tmp 71)) (y := (Operand.tmp 72)) (k := .i64) (n := t1664.length) (c := c1670) (A := A1669) (xs := t1664) (iv := x1737) (by kernel_rfl) (by kernel_rfl) (by kernel_rfl) (by kernel_rfl) h1791 h1792 (Ow.rdNo (Ow.kpNo ho1786 hJ)) (Ow.len ho1786) (by kernel_rfl) ⟨rfl, hJ⟩) ?_
        refine k_pure 5 [.pointer (some ((eaOf A1669 (x1737.toNat * 2)).add 1))] (by kernel_rfl) (fun _ => by kernel_rfl) (fun _ _ _ _ _ h => h) ?_
        refine k_op (.int .u8 (((rd zapi_Range t1664 x1737)).f1)) (by kernel_rfl) (fun b_ w_ hJ hb_ hd_ he_ => ow_loadE (K := (Kapi_Range 44)) (T := 5) (x := (Operand.tmp 74)) (off := 1) (A := A1669) (n := t1664.length) (xs := t1664) (iv := x1737) zapi_Range (.int .u8 (((rd zapi_Range t1664 x1737)).f1)) (by kernel_rfl) (by kernel_rfl) (Ow.rdNo (Ow.kpNo ho1786 hJ)) (Ow.len ho1786) h1791 h1792 (by kernel_rfl) ⟨rfl, hJ⟩) ?_
        refine k_pure 9 [.int .i64 (W (((rd zapi_Range t1664 x1737)).f1)), .slice A1669 t1664.length c1670, .int .i64 x1737] (by kernel_rfl) (fun _ => by kernel_rfl) (fun _ _ _ _ _ h => h) ?_
        refine k_op (.pointer (some (eaOf A1669 (x1737.toNat * 2)))) (by kernel_rfl) (fun b_ w_ hJ hb_ hd_ he_ => ow_index (K := (Kapi_Range 44)) (T := 38) (e := 44) (sz := 2) (x := (Operand.tmp 77)) (y := (Operand.tmp 78)) (k := .i64) (n := t1664.length) (c := c1670) (A := A1669) (xs := t1664) (iv := x1737) (by kernel_rfl) (by kernel_rfl) (by kernel_rfl) (by kernel_rfl) h1791 h1792 (Ow.rdNo (Ow.kpNo ho1786 hJ)) (Ow.len ho1786) (by kernel_rfl) ⟨rfl, hJ⟩) ?_
        refine k_pure 11 [.pointer (some ((eaOf A1669 (x1737.toNat * 2)).add 0))] (by kernel_rfl) (fun _ => by kernel_rfl) (fun _ _ _ _ _ h => h) ?_
        refine k_op (.int .u8 (((rd zapi_Range t1664 x1737)).f0)) (by kernel_rfl) (fun b_ w_ hJ hb_ hd_ he_ => ow_loadE (K := (Kapi_Range 44)) (T := 5) (x := (Operand.tmp 80)) (off := 0) (A := A1669) (n := t1664.length) (xs := t1664) (iv := x1737) zapi_Range (.int .u8 (((rd zapi_Range t1664 x1737)).f0)) (by kernel_rfl) (by kernel_rfl) (Ow.rdNo (Ow.kpNo ho1786 hJ)) (Ow.len ho1786) h1791 h1792 (by kernel_rfl) ⟨rfl, hJ⟩) ?_
        refine k_pure 17 [.int .i64 (W (((rd zapi_Range t1664 x1737)).f0)), .int .i64 (W ((W (((rd zapi_Range t1664 x1737)).f1)) - (W (((rd zapi_Range t1664 x1737)).f0)))), .int .i64 (W ((W ((W (((rd zapi_Range t1664 x1737)).f1)) - (W (((rd zapi_Range t1664 x1737)).f0)))) + 1)), .int .i64 (W (x1736 + (W ((W ((W (((rd zapi_Range t1664 x1737)).f1)) - (W (((rd zapi_Range t1664 x1737)).f0)))) + 1)))), .int .i64 (W (x1736 + (W ((W ((W (((rd zapi_Range t1664 x1737)).f1)) - (W (((rd zapi_Range t1664 x1737)).f0)))) + 1))))] (by kernel_rfl) (fun _ => by kernel_rfl) (fun _ _ _ _ _ h => h) ?_
        refine k_nil ?_
        rintro b_ w1793 hall_ k_
        have k1794 := k_
        have k1795 := Kp.trans k1779 k1794 (fun _ h => h.elim)
        have hb1796 := Blk.kp hb1783 k1794 id
        have hb1797 := Blk.kp hb1784 k1794 id
        have hb1798 := Blk.kp hb1785 k1794 id
        have ho1799 := Ow.kpNo ho1786 k1794
        refine r_fin 17 (by kernel_rfl) ?_
        refine q_in ?_
        refine q_then ?_
        refine w_region (p := [1, 1, 1, 1, 1, 1, 0, 1, 0, 0, 1, 1]) (id := 9) (by kernel_rfl) ?_
        refine r_vals 0 3 [.int .i64 x1737, .int .i64 (W (x1737 + 1)), .int .i64 (W (x1737 + 1))] (by kernel_rfl) (by kernel_rfl) ?_
        refine r_fin 3 (by kernel_rfl) ?_
        refine q_into (dowellaw03_ClassBack.F0 a1 b1607 t1618 b1635 t1626 b1644 A1669 t1664 c1670 (W (x1736 + (W ((W ((W (((rd zapi_Range t1664 x1737)).f1)) - (W (((rd zapi_Range t1664 x1737)).f0)))) + 1)))) (W (x1737 + 1))) (by kernel_rfl) (fun u_ => ?_)
        exact HN0 (W (x1736 + (W ((W ((W (((rd zapi_Range t1664 x1737)).f1)) - (W (((rd zapi_Range t1664 x1737)).f0)))) + 1)))) (W (x1737 + 1)) u_ w1793 k1795 hb1796 hb1797 hb1798 ghb1783 ghb1784 ghb1785 nhb1783hb1784 nhb1783hb1785 nhb1784hb1785 ho1799 n1787 n1788 n1789 H
      · rw [if_neg h1792] at H
        cases H
    · rw [if_neg h1791] at H
      cases H
set_option maxRecDepth 20000 in
set_option maxHeartbeats 4000000 in
theorem dowellaw03_ClassBack.b0.ok (K : Nat) (a0 : Tapi_Class) (a1 : ByteArray) (a2 : ByteArray) (w : World) (r : Bool) (b1607 : Nat) (t1618 : ByteArray) (b1635 : Nat) (t1626 : Tapi_Class × Int × Tapi_Fault) (b1644 : Nat) (A1669 : Option Addr) (t1664 : List Tapi_Range) (c1670 : Nat) {Q : Exit → Act → World → Prop} (HR : ∀ a w', bodyPost Try.prog Try.f7 (dowellaw03_ClassBack.R r w) .ret a w' → Q .ret a w') {next0 : Int → Int → Option (Bool)} {brk0_0 : Int → Option (Bool)} (HN0 : ∀ (x1736q : Int) (x1737q : Int) (u1733q : Nat → Value) (w1734q : World) (k1735q : Kp No w w1734q) (hb1738q : Blk w1734q b1607 #[.int .u64 a0.f0, .int .u64 a0.f1, .int .u64 a0.f2, .int .u64 a0.f3] 37) (hb1739q : Blk w1734q b1635 #[.int .u64 t1626.1.f0, .int .u64 t1626.1.f1, .int .u64 t1626.1.f2, .int .u64 t1626.1.f3] 37) (hb1740q : Blk w1734q b1644 #[.int .i64 t1626.2.2.f0, .int .i64 t1626.2.2.f1] 65) (ghb1738q : w.heap.size ≤ b1607) (ghb1739q : w.heap.size ≤ b1635) (ghb1740q : w.heap.size ≤ b1644) (nhb1738hb1739q : b1607 ≠ b1635) (nhb1738hb1740q : b1607 ≠ b1644) (nhb1739hb1740q : b1635 ≠ b1644) (ho1745q : Ow w (Kapi_Range 44) w1734q A1669 t1664.length c1670 t1664) (n1746q : Dj (One b1607) (Ra A1669)) (n1747q : Dj (One b1635) (Ra A1669)) (n1748q : Dj (One b1644) (Ra A1669)), next0 x1736q x1737q = some r → Q .normal ⟨dowellaw03_ClassBack.F0 a1 b1607 t1618 b1635 t1626 b1644 A1669 t1664 c1670 x1736q x1737q u1733q, []⟩ w1734q) (HX0_0 : ∀ (x1804q : Int) (u1802q : Nat → Value) (w1800q : World) (k1801q : Kp No w w1800q) (hb1805q : Blk w1800q b1607 #[.int .u64 a0.f0, .int .u64 a0.f1, .int .u64 a0.f2, .int .u64 a0.f3] 37) (hb1806q : Blk w1800q b1635 #[.int .u64 t1626.1.f0, .int .u64 t1626.1.f1, .int .u64 t1626.1.f2, .int .u64 t1626.1.f3] 37) (hb1807q : Blk w1800q b1644 #[.int .i64 t1626.2.2.f0, .int .i64 t1626.2.2.f1] 65) (ghb1805q : w.heap.size ≤ b1607) (ghb1806q : w.heap.size ≤ b1635) (ghb1807q : w.heap.size ≤ b1644) (nhb1805hb1806q : b1607 ≠ b1635) (nhb1805hb1807q : b1607 ≠ b1644) (nhb1806hb1807q : b1635 ≠ b1644) (ho1812q : Ow w (Kapi_Range 44) w1800q A1669 t1664.length c1670 t1664) (n1813q : Dj (One b1607) (Ra A1669)) (n1814q : Dj (One b1635) (Ra A1669)) (n1815q : Dj (One b1644) (Ra A1669)), brk0_0 x1804q = some r → Q (.exit 0) ⟨dowellaw03_ClassBack.F0_0 a1 b1607 t1618 b1635 t1626 b1644 A1669 t1664 c1670 x1804q u1802q, []⟩ w1800q) (x1736 : Int) (x1737 : Int) (u1733 : Nat → Value) (w1734 : World) (k1735 : Kp No w w1734) (hb1738 : Blk w1734 b1607 #[.int .u64 a0.f0, .int .u64 a0.f1, .int .u64 a0.f2, .int .u64 a0.f3] 37) (hb1739 : Blk w1734 b1635 #[.int .u64 t1626.1.f0, .int .u64 t1626.1.f1, .int .u64 t1626.1.f2, .int .u64 t1626.1.f3] 37) (hb1740 : Blk w1734 b1644 #[.int .i64 t1626.2.2.f0, .int .i64 t1626.2.2.f1] 65) (ghb1738 : w.heap.size ≤ b1607) (ghb1739 : w.heap.size ≤ b1635) (ghb1740 : w.heap.size ≤ b1644) (nhb1738hb1739 : b1607 ≠ b1635) (nhb1738hb1740 : b1607 ≠ b1644) (nhb1739hb1740 : b1635 ≠ b1644) (ho1745 : Ow w (Kapi_Range 44) w1734 A1669 t1664.length c1670 t1664) (n1746 : Dj (One b1607) (Ra A1669)) (n1747 : Dj (One b1635) (Ra A1669)) (n1748 : Dj (One b1644) (Ra A1669)) (H : dowellaw03_ClassBack.b0 t1664 next0 brk0_0 x1736 x1737 = some r) : (cd Try.f7 [1, 1, 1, 1, 1, 1, 0, 1, 0, 0]).wp Try.prog Q ⟨dowellaw03_ClassBack.F0 a1 b1607 t1618 b1635 t1626 b1644 A1669 t1664 c1670 x1736 x1737 u1733, []⟩ w1734 := by
  unfold dowellaw03_ClassBack.b0 at H
  refine w_seq (p := [1, 1, 1, 1, 1, 1, 0, 1, 0, 0]) (p0 := [1, 1, 1, 1, 1, 1, 0, 1, 0, 0, 0]) (p1 := [1, 1, 1, 1, 1, 1, 0, 1, 0, 0, 1]) (by kernel_rfl) ?_
  refine w_seq (p := [1, 1, 1, 1, 1, 1, 0, 1, 0, 0, 0]) (p0 := [1, 1, 1, 1, 1, 1, 0, 1, 0, 0, 0, 0]) (p1 := [1, 1, 1, 1, 1, 1, 0, 1, 0, 0, 0, 1]) (by kernel_rfl) ?_
  refine w_region (p := [1, 1, 1, 1, 1, 1, 0, 1, 0, 0, 0, 0]) (id := 8) (by kernel_rfl) ?_
  refine r_vals 0 4 [.int .i64 x1737, .slice A1669 t1664.length c1670, .int .i64 (t1664.length : Int), .bool (decide (x1737 < (t1664.length : Int)))] (by kernel_rfl) (by kernel_rfl) ?_
  refine r_fin 4 (by kernel_rfl) ?_
  refine q_then ?_
  refine w_cond (p := [1, 1, 1, 1, 1, 1, 0, 1, 0, 0, 0, 1]) (p0 := [1, 1, 1, 1, 1, 1, 0, 1, 0, 0, 0, 1, 0]) (p1 := [1, 1, 1, 1, 1, 1, 0, 1, 0, 0, 0, 1, 1]) (c := (Operand.tmp 35)) (b := decide (x1737 < (t1664.length : Int))) (by kernel_rfl) (by kernel_rfl) ?_ ?_
  · intro h_
    have h1749 : x1737 < (t1664.length : Int) := by simpa using h_
    clear h_
    rw [if_pos h1749] at H
    refine w_skip (p := [1, 1, 1, 1, 1, 1, 0, 1, 0, 0, 0, 1, 0]) (by kernel_rfl) ?_
    refine q_then ?_
    refine w_seq (p := [1, 1, 1, 1, 1, 1, 0, 1, 0, 0, 1]) (p0 := [1, 1, 1, 1, 1, 1, 0, 1, 0, 0, 1, 0]) (p1 := [1, 1, 1, 1, 1, 1, 0, 1, 0, 0, 1, 1]) (by kernel_rfl) ?_
    refine w_block (p := [1, 1, 1, 1, 1, 1, 0, 1, 0, 0, 1, 0]) (p0 := [1, 1, 1, 1, 1, 1, 0, 1, 0, 0, 1, 0, 0]) (id := 1) (by kernel_rfl) ?_
    refine w_seq (p := [1, 1, 1, 1, 1, 1, 0, 1, 0, 0, 1, 0, 0]) (p0 := [1, 1, 1, 1, 1, 1, 0, 1, 0, 0, 1, 0, 0, 0]) (p1 := [1, 1, 1, 1, 1, 1, 0, 1, 0, 0, 1, 0, 0, 1]) (by kernel_rfl) ?_
    refine w_seq (p := [1, 1, 1, 1, 1, 1, 0, 1, 0, 0, 1, 0, 0, 0]) (p0 := [1, 1, 1, 1, 1, 1, 0, 1, 0, 0, 1, 0, 0, 0, 0]) (p1 := [1, 1, 1, 1, 1, 1, 0, 1, 0, 0, 1, 0, 0, 0, 1]) (by kernel_rfl) ?_
    refine p_split (0 ≤ x1737) (fun h1750 => ?_) (fun h1750 => ?_)
    · rw [if_pos h1750] at H
      refine b_split (decide ((((rd zapi_Range t1664 x1737)).f0) > (((rd zapi_Range t1664 x1737)).f1))) (fun h1752 => ?_) (fun h1752 => ?_)
      · have h1751 : (((rd zapi_Range t1664 x1737)).f0) > (((rd zapi_Range t1664 x1737)).f1) := by simpa using h1752
        rw [if_pos h1751] at H
        refine w_drawk (p := [1, 1, 1, 1, 1, 1, 0, 1, 0, 0, 1, 0, 0, 0, 0]) (id := 10) (by kernel_rfl) (by kernel_rfl) [0, 0, 3, 7, 15, 0, 0, 96, 224, 480, 1023, 2047, 4095, 8191, 16383, 32767, 32767, 98303, 262143, 524287, 1048575, 2097151, 4194303, 32767, 32767, 25198591, 58753023, 125861887, 260079615, 536870911, 1073741823, 2147483647] 32 (by kernel_rfl) (J := (fun _ w_ => Kp No w1734 w_)) (fun w_ h1 h2 h3 h4 => Kp.same h1 h2 h3 h4) ?_
        refine k_pure 2 [.slice A1669 t1664.length c1670, .int .i64 x1737] (by kernel_rfl) (fun _ => by kernel_rfl) (fun _ _ _ _ _ h => h) ?_
        refine k_op (.pointer (some (eaOf A1669 (x1737.toNat * 2)))) (by kernel_rfl) (fun b_ w_ hJ hb_ hd_ he_ => ow_index (K := (Kapi_Range 44)) (T := 38) (e := 44) (sz := 2) (x := (Operand.tmp 38)) (y := (Operand.tmp 39)) (k := .i64) (n := t1664.length) (c := c1670) (A := A1669) (xs := t1664) (iv := x1737) (by kernel_rfl) (by kernel_rfl) (by kernel_rfl) (by kernel_rfl) h1750 h1749 (Ow.rdNo (Ow.kpNo ho1745 hJ)) (Ow.len ho1745) (by kernel_rfl) ⟨rfl, hJ⟩) ?_
        refine k_pure 4 [.pointer (some ((eaOf A1669 (x1737.toNat * 2)).add 0))] (by kernel_rfl) (fun _ => by kernel_rfl) (fun _ _ _ _ _ h => h) ?_
        refine k_op (.int .u8 (((rd zapi_Range t1664 x1737)).f0)) (by kernel_rfl) (fun b_ w_ hJ hb_ hd_ he_ => ow_loadE (K := (Kapi_Range 44)) (T := 5) (x := (Operand.tmp 41)) (off := 0) (A := A1669) (n := t1664.length) (xs := t1664) (iv := x1737) zapi_Range (.int .u8 (((rd zapi_Range t1664 x1737)).f0)) (by kernel_rfl) (by kernel_rfl) (Ow.rdNo (Ow.kpNo ho1745 hJ)) (Ow.len ho1745) h1750 h1749 (by kernel_rfl) ⟨rfl, hJ⟩) ?_
        refine k_pure 7 [.slice A1669 t1664.length c1670, .int .i64 x1737] (by kernel_rfl) (fun _ => by kernel_rfl) (fun _ _ _ _ _ h => h) ?_
        refine k_op (.pointer (some (eaOf A1669 (x1737.toNat * 2)))) (by kernel_rfl) (fun b_ w_ hJ hb_ hd_ he_ => ow_index (K := (Kapi_Range 44)) (T := 38) (e := 44) (sz := 2) (x := (Operand.tmp 43)) (y := (Operand.tmp 44)) (k := .i64) (n := t1664.length) (c := c1670) (A := A1669) (xs := t1664) (iv := x1737) (by kernel_rfl) (by kernel_rfl) (by kernel_rfl) (by kernel_rfl) h1750 h1749 (Ow.rdNo (Ow.kpNo ho1745 hJ)) (Ow.len ho1745) (by kernel_rfl) ⟨rfl, hJ⟩) ?_
        refine k_pure 9 [.pointer (some ((eaOf A1669 (x1737.toNat * 2)).add 1))] (by kernel_rfl) (fun _ => by kernel_rfl) (fun _ _ _ _ _ h => h) ?_
        refine k_op (.int .u8 (((rd zapi_Range t1664 x1737)).f1)) (by kernel_rfl) (fun b_ w_ hJ hb_ hd_ he_ => ow_loadE (K := (Kapi_Range 44)) (T := 5) (x := (Operand.tmp 46)) (off := 1) (A := A1669) (n := t1664.length) (xs := t1664) (iv := x1737) zapi_Range (.int .u8 (((rd zapi_Range t1664 x1737)).f1)) (by kernel_rfl) (by kernel_rfl) (Ow.rdNo (Ow.kpNo ho1745 hJ)) (Ow.len ho1745) h1750 h1749 (by kernel_rfl) ⟨rfl, hJ⟩) ?_
        refine k_pure 11 [.bool (decide ((((rd zapi_Range t1664 x1737)).f0) > (((rd zapi_Range t1664 x1737)).f1)))] (by kernel_rfl) (fun _ => by kernel_rfl) (fun _ _ _ _ _ h => h) ?_
        refine k_op (.bool true) (by kernel_rfl) (fun b_ w_ hJ hb_ hd_ he_ => og_run (v := .bool (decide ((((rd zapi_Range t1664 x1737)).f0) > (((rd zapi_Range t1664 x1737)).f1)))) (by kernel_rfl) ⟨by rw [h1752], hJ⟩) ?_
        refine k_pure 32 [undef, undef, undef, undef, undef, undef, undef, undef, undef, undef, undef, undef, undef, undef, undef, undef, undef, undef, undef, .bool true] (by kernel_rfl) (fun _ => by kernel_rfl) (fun _ _ _ _ _ h => h) ?_
        refine k_nil ?_
        rintro b_ w1753 hall_ k_
        have k1754 := k_
        have k1755 := Kp.trans k1735 k1754 (fun _ h => h.elim)
        have hb1756 := Blk.kp hb1738 k1754 id
        have hb1757 := Blk.kp hb1739 k1754 id
        have hb1758 := Blk.kp hb1740 k1754 id
        have ho1759 := Ow.kpNo ho1745 k1754
        refine r_fin 32 (by kernel_rfl) ?_
        refine q_then ?_
        refine w_into (dowellaw03_ClassBack.j1F a1 b1607 t1618 b1635 t1626 b1644 A1669 t1664 c1670 x1736 x1737 true) (by kernel_rfl) (fun u_ => ?_)
        exact dowellaw03_ClassBack.j1.ok K a0 a1 a2 w r b1607 t1618 b1635 t1626 b1644 A1669 t1664 c1670 x1736 x1737 next0 brk0_0 HR HN0 HX0_0 true u_ w1753 k1755 hb1756 hb1757 hb1758 ghb1738 ghb1739 ghb1740 nhb1738hb1739 nhb1738hb1740 nhb1739hb1740 ho1759 n1746 n1747 n1748 H
      · have h1751 : ¬ ((((rd zapi_Range t1664 x1737)).f0) > (((rd zapi_Range t1664 x1737)).f1)) := by simpa using h1752
        rw [if_neg h1751] at H
        refine b_split (decide (x1737 > 0)) (fun h1761 => ?_) (fun h1761 => ?_)
        · have h1760 : x1737 > 0 := by simpa using h1761
          rw [if_pos h1760] at H
          refine p_split (0 ≤ (W (x1737 - 1))) (fun h1762 => ?_) (fun h1762 => ?_)
          · rw [if_pos h1762] at H
            refine p_split ((W (x1737 - 1)) < (t1664.length : Int)) (fun h1763 => ?_) (fun h1763 => ?_)
            · rw [if_pos h1763] at H
              refine w_drawk (p := [1, 1, 1, 1, 1, 1, 0, 1, 0, 0, 1, 0, 0, 0, 0]) (id := 10) (by kernel_rfl) (by kernel_rfl) [0, 0, 3, 7, 15, 0, 0, 96, 224, 480, 1023, 2047, 4095, 8191, 16383, 32767, 32767, 98303, 262143, 524287, 1048575, 2097151, 4194303, 32767, 32767, 25198591, 58753023, 125861887, 260079615, 536870911, 1073741823, 2147483647] 32 (by kernel_rfl) (J := (fun _ w_ => Kp No w1734 w_)) (fun w_ h1 h2 h3 h4 => Kp.same h1 h2 h3 h4) ?_
              refine k_pure 2 [.slice A1669 t1664.length c1670, .int .i64 x1737] (by kernel_rfl) (fun _ => by kernel_rfl) (fun _ _ _ _ _ h => h) ?_
              refine k_op (.pointer (some (eaOf A1669 (x1737.toNat * 2)))) (by kernel_rfl) (fun b_ w_ hJ hb_ hd_ he_ => ow_index (K := (Kapi_Range 44)) (T := 38) (e := 44) (sz := 2) (x := (Operand.tmp 38)) (y := (Operand.tmp 39)) (k := .i64) (n := t1664.length) (c := c1670) (A := A1669) (xs := t1664) (iv := x1737) (by kernel_rfl) (by kernel_rfl) (by kernel_rfl) (by kernel_rfl) h1750 h1749 (Ow.rdNo (Ow.kpNo ho1745 hJ)) (Ow.len ho1745) (by kernel_rfl) ⟨rfl, hJ⟩) ?_
              refine k_pure 4 [.pointer (some ((eaOf A1669 (x1737.toNat * 2)).add 0))] (by kernel_rfl) (fun _ => by kernel_rfl) (fun _ _ _ _ _ h => h) ?_
              refine k_op (.int .u8 (((rd zapi_Range t1664 x1737)).f0)) (by kernel_rfl) (fun b_ w_ hJ hb_ hd_ he_ => ow_loadE (K := (Kapi_Range 44)) (T := 5) (x := (Operand.tmp 41)) (off := 0) (A := A1669) (n := t1664.length) (xs := t1664) (iv := x1737) zapi_Range (.int .u8 (((rd zapi_Range t1664 x1737)).f0)) (by kernel_rfl) (by kernel_rfl) (Ow.rdNo (Ow.kpNo ho1745 hJ)) (Ow.len ho1745) h1750 h1749 (by kernel_rfl) ⟨rfl, hJ⟩) ?_
              refine k_pure 7 [.slice A1669 t1664.length c1670, .int .i64 x1737] (by kernel_rfl) (fun _ => by kernel_rfl) (fun _ _ _ _ _ h => h) ?_
              refine k_op (.pointer (some (eaOf A1669 (x1737.toNat * 2)))) (by kernel_rfl) (fun b_ w_ hJ hb_ hd_ he_ => ow_index (K := (Kapi_Range 44)) (T := 38) (e := 44) (sz := 2) (x := (Operand.tmp 43)) (y := (Operand.tmp 44)) (k := .i64) (n := t1664.length) (c := c1670) (A := A1669) (xs := t1664) (iv := x1737) (by kernel_rfl) (by kernel_rfl) (by kernel_rfl) (by kernel_rfl) h1750 h1749 (Ow.rdNo (Ow.kpNo ho1745 hJ)) (Ow.len ho1745) (by kernel_rfl) ⟨rfl, hJ⟩) ?_
              refine k_pure 9 [.pointer (some ((eaOf A1669 (x1737.toNat * 2)).add 1))] (by kernel_rfl) (fun _ => by kernel_rfl) (fun _ _ _ _ _ h => h) ?_
              refine k_op (.int .u8 (((rd zapi_Range t1664 x1737)).f1)) (by kernel_rfl) (fun b_ w_ hJ hb_ hd_ he_ => ow_loadE (K := (Kapi_Range 44)) (T := 5) (x := (Operand.tmp 46)) (off := 1) (A := A1669) (n := t1664.length) (xs := t1664) (iv := x1737) zapi_Range (.int .u8 (((rd zapi_Range t1664 x1737)).f1)) (by kernel_rfl) (by kernel_rfl) (Ow.rdNo (Ow.kpNo ho1745 hJ)) (Ow.len ho1745) h1750 h1749 (by kernel_rfl) ⟨rfl, hJ⟩) ?_
              refine k_pure 11 [.bool (decide ((((rd zapi_Range t1664 x1737)).f0) > (((rd zapi_Range t1664 x1737)).f1)))] (by kernel_rfl) (fun _ => by kernel_rfl) (fun _ _ _ _ _ h => h) ?_
              refine k_op (.bool false) (by kernel_rfl) (fun b_ w_ hJ hb_ hd_ he_ => og_run (v := .bool (decide ((((rd zapi_Range t1664 x1737)).f0) > (((rd zapi_Range t1664 x1737)).f1)))) (by kernel_rfl) ⟨by rw [h1752], hJ⟩) ?_
              refine k_pure 14 [.int .i64 x1737, .bool (decide (x1737 > 0))] (by kernel_rfl) (fun _ => by kernel_rfl) (fun _ _ _ _ _ h => h) ?_
              refine k_op (.bool true) (by kernel_rfl) (fun b_ w_ hJ hb_ hd_ he_ => og_run (v := .bool (decide (x1737 > 0))) (by kernel_rfl) ⟨by rw [h1761], hJ⟩) ?_
              refine k_pure 18 [.slice A1669 t1664.length c1670, .int .i64 x1737, .int .i64 (W (x1737 - 1))] (by kernel_rfl) (fun _ => by kernel_rfl) (fun _ _ _ _ _ h => h) ?_
              refine k_op (.pointer (some (eaOf A1669 ((W (x1737 - 1)).toNat * 2)))) (by kernel_rfl) (fun b_ w_ hJ hb_ hd_ he_ => ow_index (K := (Kapi_Range 44)) (T := 38) (e := 44) (sz := 2) (x := (Operand.tmp 53)) (y := (Operand.tmp 55)) (k := .i64) (n := t1664.length) (c := c1670) (A := A1669) (xs := t1664) (iv := (W (x1737 - 1))) (by kernel_rfl) (by kernel_rfl) (by kernel_rfl) (by kernel_rfl) h1762 h1763 (Ow.rdNo (Ow.kpNo ho1745 hJ)) (Ow.len ho1745) (by kernel_rfl) ⟨rfl, hJ⟩) ?_
              refine k_pure 20 [.pointer (some ((eaOf A1669 ((W (x1737 - 1)).toNat * 2)).add 1))] (by kernel_rfl) (fun _ => by kernel_rfl) (fun _ _ _ _ _ h => h) ?_
              refine k_op (.int .u8 (((rd zapi_Range t1664 (W (x1737 - 1)))).f1)) (by kernel_rfl) (fun b_ w_ hJ hb_ hd_ he_ => ow_loadE (K := (Kapi_Range 44)) (T := 5) (x := (Operand.tmp 57)) (off := 1) (A := A1669) (n := t1664.length) (xs := t1664) (iv := (W (x1737 - 1))) zapi_Range (.int .u8 (((rd zapi_Range t1664 (W (x1737 - 1)))).f1)) (by kernel_rfl) (by kernel_rfl) (Ow.rdNo (Ow.kpNo ho1745 hJ)) (Ow.len ho1745) h1762 h1763 (by kernel_rfl) ⟨rfl, hJ⟩) ?_
              refine k_pure 25 [.int .i64 (W (((rd zapi_Range t1664 (W (x1737 - 1)))).f1)), .int .i64 (W ((W (((rd zapi_Range t1664 (W (x1737 - 1)))).f1)) + 1)), .slice A1669 t1664.length c1670, .int .i64 x1737] (by kernel_rfl) (fun _ => by kernel_rfl) (fun _ _ _ _ _ h => h) ?_
              refine k_op (.pointer (some (eaOf A1669 (x1737.toNat * 2)))) (by kernel_rfl) (fun b_ w_ hJ hb_ hd_ he_ => ow_index (K := (Kapi_Range 44)) (T := 38) (e := 44) (sz := 2) (x := (Operand.tmp 61)) (y := (Operand.tmp 62)) (k := .i64) (n := t1664.length) (c := c1670) (A := A1669) (xs := t1664) (iv := x1737) (by kernel_rfl) (by kernel_rfl) (by kernel_rfl) (by kernel_rfl) h1750 h1749 (Ow.rdNo (Ow.kpNo ho1745 hJ)) (Ow.len ho1745) (by kernel_rfl) ⟨rfl, hJ⟩) ?_
              refine k_pure 27 [.pointer (some ((eaOf A1669 (x1737.toNat * 2)).add 0))] (by kernel_rfl) (fun _ => by kernel_rfl) (fun _ _ _ _ _ h => h) ?_
              refine k_op (.int .u8 (((rd zapi_Range t1664 x1737)).f0)) (by kernel_rfl) (fun b_ w_ hJ hb_ hd_ he_ => ow_loadE (K := (Kapi_Range 44)) (T := 5) (x := (Operand.tmp 64)) (off := 0) (A := A1669) (n := t1664.length) (xs := t1664) (iv := x1737) zapi_Range (.int .u8 (((rd zapi_Range t1664 x1737)).f0)) (by kernel_rfl) (by kernel_rfl) (Ow.rdNo (Ow.kpNo ho1745 hJ)) (Ow.len ho1745) h1750 h1749 (by kernel_rfl) ⟨rfl, hJ⟩) ?_
              refine k_pure 32 [.int .i64 (W (((rd zapi_Range t1664 x1737)).f0)), .bool (decide ((W ((W (((rd zapi_Range t1664 (W (x1737 - 1)))).f1)) + 1)) ≥ (W (((rd zapi_Range t1664 x1737)).f0)))), .bool (decide ((W ((W (((rd zapi_Range t1664 (W (x1737 - 1)))).f1)) + 1)) ≥ (W (((rd zapi_Range t1664 x1737)).f0)))), .bool (decide ((W ((W (((rd zapi_Range t1664 (W (x1737 - 1)))).f1)) + 1)) ≥ (W (((rd zapi_Range t1664 x1737)).f0))))] (by kernel_rfl) (fun _ => by kernel_rfl) (fun _ _ _ _ _ h => h) ?_
              refine k_nil ?_
              rintro b_ w1764 hall_ k_
              have k1765 := k_
              have k1766 := Kp.trans k1735 k1765 (fun _ h => h.elim)
              have hb1767 := Blk.kp hb1738 k1765 id
              have hb1768 := Blk.kp hb1739 k1765 id
              have hb1769 := Blk.kp hb1740 k1765 id
              have ho1770 := Ow.kpNo ho1745 k1765
              refine r_fin 32 (by kernel_rfl) ?_
              refine q_then ?_
              refine w_into (dowellaw03_ClassBack.j1F a1 b1607 t1618 b1635 t1626 b1644 A1669 t1664 c1670 x1736 x1737 (decide ((W ((W (((rd zapi_Range t1664 (W (x1737 - 1)))).f1)) + 1)) ≥ (W (((rd zapi_Range t1664 x1737)).f0))))) (by kernel_rfl) (fun u_ => ?_)
              exact dowellaw03_ClassBack.j1.ok K a0 a1 a2 w r b1607 t1618 b1635 t1626 b1644 A1669 t1664 c1670 x1736 x1737 next0 brk0_0 HR HN0 HX0_0 (decide ((W ((W (((rd zapi_Range t1664 (W (x1737 - 1)))).f1)) + 1)) ≥ (W (((rd zapi_Range t1664 x1737)).f0)))) u_ w1764 k1766 hb1767 hb1768 hb1769 ghb1738 ghb1739 ghb1740 nhb1738hb1739 nhb1738hb1740 nhb1739hb1740 ho1770 n1746 n1747 n1748 H
            · rw [if_neg h1763] at H
              cases H
          · rw [if_neg h1762] at H
            cases H
        · have h1760 : ¬ (x1737 > 0) := by simpa using h1761
          rw [if_neg h1760] at H
          refine w_drawk (p := [1, 1, 1, 1, 1, 1, 0, 1, 0, 0, 1, 0, 0, 0, 0]) (id := 10) (by kernel_rfl) (by kernel_rfl) [0, 0, 3, 7, 15, 0, 0, 96, 224, 480, 1023, 2047, 4095, 8191, 16383, 32767, 32767, 98303, 262143, 524287, 1048575, 2097151, 4194303, 32767, 32767, 25198591, 58753023, 125861887, 260079615, 536870911, 1073741823, 2147483647] 32 (by kernel_rfl) (J := (fun _ w_ => Kp No w1734 w_)) (fun w_ h1 h2 h3 h4 => Kp.same h1 h2 h3 h4) ?_
          refine k_pure 2 [.slice A1669 t1664.length c1670, .int .i64 x1737] (by kernel_rfl) (fun _ => by kernel_rfl) (fun _ _ _ _ _ h => h) ?_
          refine k_op (.pointer (some (eaOf A1669 (x1737.toNat * 2)))) (by kernel_rfl) (fun b_ w_ hJ hb_ hd_ he_ => ow_index (K := (Kapi_Range 44)) (T := 38) (e := 44) (sz := 2) (x := (Operand.tmp 38)) (y := (Operand.tmp 39)) (k := .i64) (n := t1664.length) (c := c1670) (A := A1669) (xs := t1664) (iv := x1737) (by kernel_rfl) (by kernel_rfl) (by kernel_rfl) (by kernel_rfl) h1750 h1749 (Ow.rdNo (Ow.kpNo ho1745 hJ)) (Ow.len ho1745) (by kernel_rfl) ⟨rfl, hJ⟩) ?_
          refine k_pure 4 [.pointer (some ((eaOf A1669 (x1737.toNat * 2)).add 0))] (by kernel_rfl) (fun _ => by kernel_rfl) (fun _ _ _ _ _ h => h) ?_
          refine k_op (.int .u8 (((rd zapi_Range t1664 x1737)).f0)) (by kernel_rfl) (fun b_ w_ hJ hb_ hd_ he_ => ow_loadE (K := (Kapi_Range 44)) (T := 5) (x := (Operand.tmp 41)) (off := 0) (A := A1669) (n := t1664.length) (xs := t1664) (iv := x1737) zapi_Range (.int .u8 (((rd zapi_Range t1664 x1737)).f0)) (by kernel_rfl) (by kernel_rfl) (Ow.rdNo (Ow.kpNo ho1745 hJ)) (Ow.len ho1745) h1750 h1749 (by kernel_rfl) ⟨rfl, hJ⟩) ?_
          refine k_pure 7 [.slice A1669 t1664.length c1670, .int .i64 x1737] (by kernel_rfl) (fun _ => by kernel_rfl) (fun _ _ _ _ _ h => h) ?_
          refine k_op (.pointer (some (eaOf A1669 (x1737.toNat * 2)))) (by kernel_rfl) (fun b_ w_ hJ hb_ hd_ he_ => ow_index (K := (Kapi_Range 44)) (T := 38) (e := 44) (sz := 2) (x := (Operand.tmp 43)) (y := (Operand.tmp 44)) (k := .i64) (n := t1664.length) (c := c1670) (A := A1669) (xs := t1664) (iv := x1737) (by kernel_rfl) (by kernel_rfl) (by kernel_rfl) (by kernel_rfl) h1750 h1749 (Ow.rdNo (Ow.kpNo ho1745 hJ)) (Ow.len ho1745) (by kernel_rfl) ⟨rfl, hJ⟩) ?_
          refine k_pure 9 [.pointer (some ((eaOf A1669 (x1737.toNat * 2)).add 1))] (by kernel_rfl) (fun _ => by kernel_rfl) (fun _ _ _ _ _ h => h) ?_
          refine k_op (.int .u8 (((rd zapi_Range t1664 x1737)).f1)) (by kernel_rfl) (fun b_ w_ hJ hb_ hd_ he_ => ow_loadE (K := (Kapi_Range 44)) (T := 5) (x := (Operand.tmp 46)) (off := 1) (A := A1669) (n := t1664.length) (xs := t1664) (iv := x1737) zapi_Range (.int .u8 (((rd zapi_Range t1664 x1737)).f1)) (by kernel_rfl) (by kernel_rfl) (Ow.rdNo (Ow.kpNo ho1745 hJ)) (Ow.len ho1745) h1750 h1749 (by kernel_rfl) ⟨rfl, hJ⟩) ?_
          refine k_pure 11 [.bool (decide ((((rd zapi_Range t1664 x1737)).f0) > (((rd zapi_Range t1664 x1737)).f1)))] (by kernel_rfl) (fun _ => by kernel_rfl) (fun _ _ _ _ _ h => h) ?_
          refine k_op (.bool false) (by kernel_rfl) (fun b_ w_ hJ hb_ hd_ he_ => og_run (v := .bool (decide ((((rd zapi_Range t1664 x1737)).f0) > (((rd zapi_Range t1664 x1737)).f1)))) (by kernel_rfl) ⟨by rw [h1752], hJ⟩) ?_
          refine k_pure 14 [.int .i64 x1737, .bool (decide (x1737 > 0))] (by kernel_rfl) (fun _ => by kernel_rfl) (fun _ _ _ _ _ h => h) ?_
          refine k_op (.bool false) (by kernel_rfl) (fun b_ w_ hJ hb_ hd_ he_ => og_run (v := .bool (decide (x1737 > 0))) (by kernel_rfl) ⟨by rw [h1761], hJ⟩) ?_
          refine k_pure 32 [undef, undef, undef, undef, undef, undef, undef, undef, undef, undef, undef, undef, undef, undef, undef, .bool false, .bool false] (by kernel_rfl) (fun _ => by kernel_rfl) (fun _ _ _ _ _ h => h) ?_
          refine k_nil ?_
          rintro b_ w1771 hall_ k_
          have k1772 := k_
          have k1773 := Kp.trans k1735 k1772 (fun _ h => h.elim)
          have hb1774 := Blk.kp hb1738 k1772 id
          have hb1775 := Blk.kp hb1739 k1772 id
          have hb1776 := Blk.kp hb1740 k1772 id
          have ho1777 := Ow.kpNo ho1745 k1772
          refine r_fin 32 (by kernel_rfl) ?_
          refine q_then ?_
          refine w_into (dowellaw03_ClassBack.j1F a1 b1607 t1618 b1635 t1626 b1644 A1669 t1664 c1670 x1736 x1737 false) (by kernel_rfl) (fun u_ => ?_)
          exact dowellaw03_ClassBack.j1.ok K a0 a1 a2 w r b1607 t1618 b1635 t1626 b1644 A1669 t1664 c1670 x1736 x1737 next0 brk0_0 HR HN0 HX0_0 false u_ w1771 k1773 hb1774 hb1775 hb1776 ghb1738 ghb1739 ghb1740 nhb1738hb1739 nhb1738hb1740 nhb1739hb1740 ho1777 n1746 n1747 n1748 H
    · rw [if_neg h1750] at H
      cases H
  · intro h_
    have h1749 : ¬ (x1737 < (t1664.length : Int)) := by simpa using h_
    clear h_
    rw [if_neg h1749] at H
    refine w_exit (p := [1, 1, 1, 1, 1, 1, 0, 1, 0, 0, 0, 1, 1]) (id := 0) (by kernel_rfl) ?_
    refine q_then_x ?_
    refine q_into (dowellaw03_ClassBack.F0_0 a1 b1607 t1618 b1635 t1626 b1644 A1669 t1664 c1670 x1736) (by kernel_rfl) (fun u_ => ?_)
    exact HX0_0 x1736 u_ w1734 k1735 hb1738 hb1739 hb1740 ghb1738 ghb1739 ghb1740 nhb1738hb1739 nhb1738hb1740 nhb1739hb1740 ho1745 n1746 n1747 n1748 H
set_option maxRecDepth 20000 in
set_option maxHeartbeats 4000000 in
theorem dowellaw03_ClassBack.l0.ok (K : Nat) (a0 : Tapi_Class) (a1 : ByteArray) (a2 : ByteArray) (w : World) (r : Bool) (b1607 : Nat) (t1618 : ByteArray) (b1635 : Nat) (t1626 : Tapi_Class × Int × Tapi_Fault) (b1644 : Nat) (A1669 : Option Addr) (t1664 : List Tapi_Range) (c1670 : Nat) {Q : Exit → Act → World → Prop} (HR : ∀ a w', bodyPost Try.prog Try.f7 (dowellaw03_ClassBack.R r w) .ret a w' → Q .ret a w') {brk0_0 : Int → Option (Bool)} (HX0_0 : ∀ (x1804q : Int) (u1802q : Nat → Value) (w1800q : World) (k1801q : Kp No w w1800q) (hb1805q : Blk w1800q b1607 #[.int .u64 a0.f0, .int .u64 a0.f1, .int .u64 a0.f2, .int .u64 a0.f3] 37) (hb1806q : Blk w1800q b1635 #[.int .u64 t1626.1.f0, .int .u64 t1626.1.f1, .int .u64 t1626.1.f2, .int .u64 t1626.1.f3] 37) (hb1807q : Blk w1800q b1644 #[.int .i64 t1626.2.2.f0, .int .i64 t1626.2.2.f1] 65) (ghb1805q : w.heap.size ≤ b1607) (ghb1806q : w.heap.size ≤ b1635) (ghb1807q : w.heap.size ≤ b1644) (nhb1805hb1806q : b1607 ≠ b1635) (nhb1805hb1807q : b1607 ≠ b1644) (nhb1806hb1807q : b1635 ≠ b1644) (ho1812q : Ow w (Kapi_Range 44) w1800q A1669 t1664.length c1670 t1664) (n1813q : Dj (One b1607) (Ra A1669)) (n1814q : Dj (One b1635) (Ra A1669)) (n1815q : Dj (One b1644) (Ra A1669)), brk0_0 x1804q = some r → Q (.exit 0) ⟨dowellaw03_ClassBack.F0_0 a1 b1607 t1618 b1635 t1626 b1644 A1669 t1664 c1670 x1804q u1802q, []⟩ w1800q) : ∀ (n_ : Nat) (x1736 : Int) (x1737 : Int) (u1733 : Nat → Value) (w1734 : World) (k1735 : Kp No w w1734) (hb1738 : Blk w1734 b1607 #[.int .u64 a0.f0, .int .u64 a0.f1, .int .u64 a0.f2, .int .u64 a0.f3] 37) (hb1739 : Blk w1734 b1635 #[.int .u64 t1626.1.f0, .int .u64 t1626.1.f1, .int .u64 t1626.1.f2, .int .u64 t1626.1.f3] 37) (hb1740 : Blk w1734 b1644 #[.int .i64 t1626.2.2.f0, .int .i64 t1626.2.2.f1] 65) (ghb1738 : w.heap.size ≤ b1607) (ghb1739 : w.heap.size ≤ b1635) (ghb1740 : w.heap.size ≤ b1644) (nhb1738hb1739 : b1607 ≠ b1635) (nhb1738hb1740 : b1607 ≠ b1644) (nhb1739hb1740 : b1635 ≠ b1644) (ho1745 : Ow w (Kapi_Range 44) w1734 A1669 t1664.length c1670 t1664) (n1746 : Dj (One b1607) (Ra A1669)) (n1747 : Dj (One b1635) (Ra A1669)) (n1748 : Dj (One b1644) (Ra A1669)) (H : dowellaw03_ClassBack.l0 t1664 brk0_0 n_ x1736 x1737 = some r), Code.rounds Try.prog (cd Try.f7 [1, 1, 1, 1, 1, 1, 0, 1, 0, 0]) Q n_ ⟨dowellaw03_ClassBack.F0 a1 b1607 t1618 b1635 t1626 b1644 A1669 t1664 c1670 x1736 x1737 u1733, []⟩ w1734
  | 0, _, _, _, _, _, _, _, _, _, _, _, _, _, _, _, _, _, _, H => by cases H
  | n_ + 1, x1736, x1737, u1733, w1734, k1735, hb1738, hb1739, hb1740, ghb1738, ghb1739, ghb1740, nhb1738hb1739, nhb1738hb1740, nhb1739hb1740, ho1745, n1746, n1747, n1748, H =>
    dowellaw03_ClassBack.b0.ok K a0 a1 a2 w r b1607 t1618 b1635 t1626 b1644 A1669 t1664 c1670 (Q := Exit.then (Code.rounds Try.prog (cd Try.f7 [1, 1, 1, 1, 1, 1, 0, 1, 0, 0]) Q n_) Q) (fun a w' h_ => q_then_r (HR a w' h_)) (fun x0_ x1_ x2_ x3_ x4_ x5_ x6_ x7_ x8_ x9_ x10_ x11_ x12_ x13_ x14_ x15_ x16_ x17_ h_ => dowellaw03_ClassBack.l0.ok K a0 a1 a2 w r b1607 t1618 b1635 t1626 b1644 A1669 t1664 c1670 HR HX0_0 n_ x0_ x1_ x2_ x3_ x4_ x5_ x6_ x7_ x8_ x9_ x10_ x11_ x12_ x13_ x14_ x15_ x16_ x17_ h_) (fun x0_ x1_ x2_ x3_ x4_ x5_ x6_ x7_ x8_ x9_ x10_ x11_ x12_ x13_ x14_ x15_ x16_ h_ => q_then_x (HX0_0 x0_ x1_ x2_ x3_ x4_ x5_ x6_ x7_ x8_ x9_ x10_ x11_ x12_ x13_ x14_ x15_ x16_ h_)) x1736 x1737 u1733 w1734 k1735 hb1738 hb1739 hb1740 ghb1738 ghb1739 ghb1740 nhb1738hb1739 nhb1738hb1740 nhb1739hb1740 ho1745 n1746 n1747 n1748 H
set_option maxRecDepth 20000 in
set_option maxHeartbeats 4000000 in
theorem dowellaw03_ClassBack.j2.ok (K : Nat) (a0 : Tapi_Class) (a1 : ByteArray) (a2 : ByteArray) (w : World) (r : Bool) {Q : Exit → Act → World → Prop}  (HR : ∀ a w', bodyPost Try.prog Try.f7 (dowellaw03_ClassBack.R r w) .ret a w' → Q .ret a w')  (x1848 : Bool) (u1847 : Nat → Value) (w1845 : World) (k1846 : Kp No w w1845)  (H : dowellaw03_ClassBack.j2 x1848 = some r) : (cd Try.f7 [1, 1, 1, 1, 1, 1, 1, 1]).wp Try.prog Q ⟨dowellaw03_ClassBack.j2F x1848 u1847, []⟩ w1845 := by
  unfold dowellaw03_ClassBack.j2 at H
  refine w_ret (p := [1, 1, 1, 1, 1, 1, 1, 1]) (by kernel_rfl) ?_
  obtain rfl := Option.some.inj H
  refine HR _ _ (body_ret (vs := [.bool x1848]) (rv_tmp (by kernel_rfl) rfl) rfl ?_)
  exact ⟨rfl, k1846⟩
set_option maxRecDepth 20000 in
set_option maxHeartbeats 4000000 in
theorem dowellaw03_ClassBack.ok (K : Nat) (a0 : Tapi_Class) (a1 : ByteArray) (a2 : ByteArray) (w : World)  (r : Bool) (H : dowellaw03_ClassBack.f K a0 a1 a2 = some r) : Calls Try.prog 7 #[.agg #[.int .u64 a0.f0, .int .u64 a0.f1, .int .u64 a0.f2, .int .u64 a0.f3], .string a1, .string a2] w (dowellaw03_ClassBack.R r w) := by
  refine calls_cd (t := #[.agg #[.int .u64 a0.f0, .int .u64 a0.f1, .int .u64 a0.f2, .int .u64 a0.f3], .string a1, .string a2, undef, undef, undef, undef, undef, undef, undef, undef, undef, undef, undef, undef, undef, undef, undef, undef, undef, undef, undef, undef, undef, undef, undef, undef, undef, undef, undef, undef, undef, undef, undef, undef, undef, undef, undef, undef, undef, undef, undef, undef, undef, undef, undef, undef, undef, undef, undef, undef, undef, undef, undef, undef, undef, undef, undef, undef, undef, undef, undef, undef, undef, undef, undef, undef, undef, undef, undef, undef, undef, undef, undef, undef, undef, undef, undef, undef, undef, undef, undef, undef, undef, undef, undef, undef, undef, undef, undef, undef, undef, undef, undef, undef, undef, undef, undef, undef, undef, undef, undef, undef, undef, undef, undef, undef, undef, undef, undef, undef, undef, undef, undef, undef]) Try.func7 (by kernel_rfl) (by kernel_rfl) ?_
  unfold dowellaw03_ClassBack.f at H
  have HR : ∀ a w', bodyPost Try.prog Try.f7 (dowellaw03_ClassBack.R r w) .ret a w' → bodyPost Try.prog Try.f7 (dowellaw03_ClassBack.R r w) .ret a w' := fun _ _ h => h
  refine w_seq (p := []) (p0 := [0]) (p1 := [1]) (by kernel_rfl) ?_
  refine w_region (p := [0]) (id := 0) (by kernel_rfl) ?_
  refine r_do 0 (by kernel_rfl) (og_box (T := 37) (x := (Operand.tmp 0)) (cs := #[.int .u64 a0.f0, .int .u64 a0.f1, .int .u64 a0.f2, .int .u64 a0.f3]) (by kernel_rfl) (by kernel_rfl) ?_) 
  intro b1607 w1604 e1608 hb1606 k1605
  have g1609 : w.heap.size ≤ b1607 := by rw [e1608]; exact Kp.size (Kp.refl No w)
  clear e1608
  have k1610 := Kp.trans (Kp.refl No w) k1605 (fun _ h => h.elim)
  refine r_vals 1 2 [.bool false] (by kernel_rfl) (by kernel_rfl) ?_
  refine r_fin 2 (by kernel_rfl) ?_
  refine q_then ?_
  refine w_seq (p := [1]) (p0 := [1, 0]) (p1 := [1, 1]) (by kernel_rfl) ?_
  refine w_seq (p := [1, 0]) (p0 := [1, 0, 0]) (p1 := [1, 0, 1]) (by kernel_rfl) ?_
  refine w_region (p := [1, 0, 0]) (id := 1) (by kernel_rfl) ?_
  obtain ⟨t1611, ht1612, H⟩ := Option.bind_eq_some_iff.1 H
  refine r_do 0 (by kernel_rfl) (og_call (g := 31) (av := #[]) (by kernel_rfl) ?_) 
  refine (dowellaw03_works.ok K  w1604 t1611 ht1612).mono ?_
  rintro e w1613 ⟨rfl, k1614⟩
  refine ⟨_, rfl, ?_⟩
  have k1615 := Kp.trans k1610 k1614 (fun _ h => h.elim)
  have hb1616 := Blk.kp hb1606 k1614 id
  refine r_vals 1 2 [.bool (!t1611)] (by kernel_rfl) (by kernel_rfl) ?_
  refine r_fin 2 (by kernel_rfl) ?_
  refine q_then ?_
  refine w_cond (p := [1, 0, 1]) (p0 := [1, 0, 1, 0]) (p1 := [1, 0, 1, 1]) (c := (Operand.tmp 15)) (b := !t1611) (by kernel_rfl) (by kernel_rfl) ?_ ?_
  · intro h_
    have h1617 : ¬ (t1611 = true) := bnot_t h_
    clear h_
    rw [if_pos h1617] at H
    refine w_seq (p := [1, 0, 1, 0]) (p0 := [1, 0, 1, 0, 0]) (p1 := [1, 0, 1, 0, 1]) (by kernel_rfl) ?_
    refine w_region (p := [1, 0, 1, 0, 0]) (id := 2) (by kernel_rfl) ?_
    refine r_vals 0 1 [.bool false] (by kernel_rfl) (by kernel_rfl) ?_
    refine r_fin 1 (by kernel_rfl) ?_
    refine q_then ?_
    refine w_ret (p := [1, 0, 1, 0, 1]) (by kernel_rfl) ?_
    refine q_then_r ?_
    obtain rfl := Option.some.inj H
    refine HR _ _ (body_ret (vs := [.bool false]) (rv_tmp (by kernel_rfl) rfl) rfl ?_)
    exact ⟨rfl, k1615⟩
  · intro h_
    have h1617 : ¬ (¬ (t1611 = true)) := bnot_f h_
    clear h_
    rw [if_neg h1617] at H
    refine w_skip (p := [1, 0, 1, 1]) (by kernel_rfl) ?_
    refine q_then ?_
    refine w_seq (p := [1, 1]) (p0 := [1, 1, 0]) (p1 := [1, 1, 1]) (by kernel_rfl) ?_
    refine w_region (p := [1, 1, 0]) (id := 3) (by kernel_rfl) ?_
    refine r_do 0 (by kernel_rfl) (og_load (T := 37) (x := (Operand.tmp 3)) (b := b1607) (off := 0) (.agg #[.int .u64 a0.f0, .int .u64 a0.f1, .int .u64 a0.f2, .int .u64 a0.f3]) (by kernel_rfl) (by kernel_rfl) hb1616 (by kernel_rfl) ?_) 
    obtain ⟨t1618, ht1619, H⟩ := Option.bind_eq_some_iff.1 H
    refine r_do 1 (by kernel_rfl) (og_call (g := 21) (av := #[.agg #[.int .u64 a0.f0, .int .u64 a0.f1, .int .u64 a0.f2, .int .u64 a0.f3]]) (by kernel_rfl) ?_) 
    refine (class_Text.ok K a0 w1613 t1618 ht1619).mono ?_
    rintro e w1620 ⟨rfl, k1621⟩
    refine ⟨_, rfl, ?_⟩
    have k1622 := Kp.trans k1615 k1621 (fun _ h => h.elim)
    have hb1623 := Blk.kp hb1616 k1621 id
    refine r_vals 2 3 [.string t1618] (by kernel_rfl) (by kernel_rfl) ?_
    refine r_fin 3 (by kernel_rfl) ?_
    refine q_then ?_
    refine w_seq (p := [1, 1, 1]) (p0 := [1, 1, 1, 0]) (p1 := [1, 1, 1, 1]) (by kernel_rfl) ?_
    refine w_region (p := [1, 1, 1, 0]) (id := 4) (by kernel_rfl) ?_
    refine r_vals 0 2 [.string a1, .string t1618] (by kernel_rfl) (by kernel_rfl) ?_
    refine p_split (a1.size + t1618.size ≤ 9223372036854775807) (fun h1624 => ?_) (fun h1624 => ?_)
    · rw [if_pos h1624] at H
      refine r_do 2 (by kernel_rfl) (og_cat (T := 9) (U := 9) (x := (Operand.tmp 19)) (y := (Operand.tmp 20)) (by kernel_rfl) (by kernel_rfl) (by kernel_rfl) h1624 ?_) 
      refine r_vals 3 4 [.string a2] (by kernel_rfl) (by kernel_rfl) ?_
      refine p_split ((a1 ++ t1618).size + a2.size ≤ 9223372036854775807) (fun h1625 => ?_) (fun h1625 => ?_)
      · rw [if_pos h1625] at H
        refine r_do 4 (by kernel_rfl) (og_cat (T := 9) (U := 9) (x := (Operand.tmp 21)) (y := (Operand.tmp 22)) (by kernel_rfl) (by kernel_rfl) (by kernel_rfl) h1625 ?_) 
        refine r_vals 5 7 [.string a1, .int .i64 (a1.size : Int)] (by kernel_rfl) (by kernel_rfl) ?_
        obtain ⟨t1626, ht1627, H⟩ := Option.bind_eq_some_iff.1 H
        refine r_do 7 (by kernel_rfl) (og_call (g := 32) (av := #[.string ((a1 ++ t1618) ++ a2), .int .i64 (a1.size : Int)]) (by kernel_rfl) ?_) 
        refine (class_Parse.ok K ((a1 ++ t1618) ++ a2) (a1.size : Int) w1620 t1626 ht1627).mono ?_
        rintro e w1628 ⟨rfl, k1629⟩
        refine ⟨_, rfl, ?_⟩
        have k1630 := Kp.trans k1622 k1629 (fun _ h => h.elim)
        have hb1631 := Blk.kp hb1623 k1629 id
        refine r_vals 8 12 [.tuple #[.agg #[.int .u64 t1626.1.f0, .int .u64 t1626.1.f1, .int .u64 t1626.1.f2, .int .u64 t1626.1.f3], .int .i64 t1626.2.1, .agg #[.int .i64 t1626.2.2.f0, .int .i64 t1626.2.2.f1]], .agg #[.int .u64 t1626.1.f0, .int .u64 t1626.1.f1, .int .u64 t1626.1.f2, .int .u64 t1626.1.f3], .int .i64 t1626.2.1, .agg #[.int .i64 t1626.2.2.f0, .int .i64 t1626.2.2.f1]] (by kernel_rfl) (by kernel_rfl) ?_
        refine r_do 12 (by kernel_rfl) (og_alloc (T := 37) (cs := #[.int .u64 0, .int .u64 0, .int .u64 0, .int .u64 0]) (by kernel_rfl) (by kernel_rfl) ?_) 
        intro b1635 w1632 e1636 hb1634 k1633
        have n1637 : b1607 ≠ b1635 := by rw [e1636]; exact Nat.ne_of_lt hb1631.lt
        have g1638 : w.heap.size ≤ b1635 := by rw [e1636]; exact Kp.size k1630
        clear e1636
        have k1639 := Kp.trans k1630 k1633 (fun _ h => h.elim)
        have hb1640 := Blk.kp hb1631 k1633 id
        refine r_do 13 (by kernel_rfl) (og_alloc (T := 65) (cs := #[.int .i64 0, .int .i64 0]) (by kernel_rfl) (by kernel_rfl) ?_) 
        intro b1644 w1641 e1645 hb1643 k1642
        have n1646 : b1607 ≠ b1644 := by rw [e1645]; exact Nat.ne_of_lt hb1640.lt
        have n1647 : b1635 ≠ b1644 := by rw [e1645]; exact Nat.ne_of_lt hb1634.lt
        have g1648 : w.heap.size ≤ b1644 := by rw [e1645]; exact Kp.size k1639
        clear e1645
        have k1649 := Kp.trans k1639 k1642 (fun _ h => h.elim)
        have hb1650 := Blk.kp hb1640 k1642 id
        have hb1651 := Blk.kp hb1634 k1642 id
        refine r_do 14 (by kernel_rfl) (og_store (T := 37) (x := (Operand.tmp 8)) (y := (Operand.tmp 27)) (b := b1635) (off := 0) (.agg #[.int .u64 t1626.1.f0, .int .u64 t1626.1.f1, .int .u64 t1626.1.f2, .int .u64 t1626.1.f3]) (by kernel_rfl) (by kernel_rfl) (by kernel_rfl) hb1651 (cs' := #[.int .u64 t1626.1.f0, .int .u64 t1626.1.f1, .int .u64 t1626.1.f2, .int .u64 t1626.1.f3]) (by kernel_rfl) ?_) 
        intro w1653 hb1652 k1654 _
        have k1655 := Kp.trans k1649 k1654 (fun x hx => .inr (by rw [show x = _ from hx]; exact g1638))
        have hb1656 := Blk.kp hb1650 k1654 (show ¬ (b1607 = b1635) from n1637)
        have hb1657 := Blk.kp hb1643 k1654 (show ¬ (b1644 = b1635) from (Ne.symm n1647))
        refine r_vals 15 16 [.int .i64 t1626.2.1] (by kernel_rfl) (by kernel_rfl) ?_
        refine r_do 16 (by kernel_rfl) (og_store (T := 65) (x := (Operand.tmp 10)) (y := (Operand.tmp 29)) (b := b1644) (off := 0) (.agg #[.int .i64 t1626.2.2.f0, .int .i64 t1626.2.2.f1]) (by kernel_rfl) (by kernel_rfl) (by kernel_rfl) hb1657 (cs' := #[.int .i64 t1626.2.2.f0, .int .i64 t1626.2.2.f1]) (by kernel_rfl) ?_) 
        intro w1659 hb1658 k1660 _
        have k1661 := Kp.trans k1655 k1660 (fun x hx => .inr (by rw [show x = _ from hx]; exact g1648))
        have hb1662 := Blk.kp hb1656 k1660 (show ¬ (b1607 = b1644) from n1646)
        have hb1663 := Blk.kp hb1652 k1660 (show ¬ (b1635 = b1644) from n1647)
        refine r_fin 17 (by kernel_rfl) ?_
        refine q_then ?_
        refine w_seq (p := [1, 1, 1, 1]) (p0 := [1, 1, 1, 1, 0]) (p1 := [1, 1, 1, 1, 1]) (by kernel_rfl) ?_
        refine w_region (p := [1, 1, 1, 1, 0]) (id := 5) (by kernel_rfl) ?_
        refine r_do 0 (by kernel_rfl) (og_load (T := 37) (x := (Operand.tmp 3)) (b := b1607) (off := 0) (.agg #[.int .u64 a0.f0, .int .u64 a0.f1, .int .u64 a0.f2, .int .u64 a0.f3]) (by kernel_rfl) (by kernel_rfl) hb1662 (by kernel_rfl) ?_) 
        obtain ⟨t1664, ht1665, H⟩ := Option.bind_eq_some_iff.1 H
        refine r_do 1 (by kernel_rfl) (og_call (g := 18) (av := #[.agg #[.int .u64 a0.f0, .int .u64 a0.f1, .int .u64 a0.f2, .int .u64 a0.f3]]) (by kernel_rfl) ?_) 
        refine (class_Ranges.ok K a0 w1659 t1664 ht1665).mono ?_
        rintro e w1666 ⟨A1669, n1672, c1670, rfl, k1667, ho1673⟩
        obtain rfl := ho1673.len
        refine ⟨_, rfl, ?_⟩
        have n1674 := blk_dj_call hb1662 ho1673
        have n1675 := blk_dj_call hb1663 ho1673
        have n1676 := blk_dj_call hb1658 ho1673
        have ho1671 := Ow.base ho1673 k1661
        have k1677 := Kp.trans k1661 k1667 (fun _ h => h.elim)
        have hb1678 := Blk.kp hb1662 k1667 id
        have hb1679 := Blk.kp hb1663 k1667 id
        have hb1680 := Blk.kp hb1658 k1667 id
        refine r_vals 2 3 [.slice A1669 t1664.length c1670] (by kernel_rfl) (by kernel_rfl) ?_
        refine r_fin 3 (by kernel_rfl) ?_
        refine q_then ?_
        refine w_seq (p := [1, 1, 1, 1, 1]) (p0 := [1, 1, 1, 1, 1, 0]) (p1 := [1, 1, 1, 1, 1, 1]) (by kernel_rfl) ?_
        refine w_region (p := [1, 1, 1, 1, 1, 0]) (id := 6) (by kernel_rfl) ?_
        refine r_vals 0 1 [.int .i64 0] (by kernel_rfl) (by kernel_rfl) ?_
        refine r_fin 1 (by kernel_rfl) ?_
        refine q_then ?_
        refine w_seq (p := [1, 1, 1, 1, 1, 1]) (p0 := [1, 1, 1, 1, 1, 1, 0]) (p1 := [1, 1, 1, 1, 1, 1, 1]) (by kernel_rfl) ?_
        refine w_seq (p := [1, 1, 1, 1, 1, 1, 0]) (p0 := [1, 1, 1, 1, 1, 1, 0, 0]) (p1 := [1, 1, 1, 1, 1, 1, 0, 1]) (by kernel_rfl) ?_
        refine w_region (p := [1, 1, 1, 1, 1, 1, 0, 0]) (id := 7) (by kernel_rfl) ?_
        refine r_vals 0 1 [.int .i64 0] (by kernel_rfl) (by kernel_rfl) ?_
        refine r_fin 1 (by kernel_rfl) ?_
        refine q_then ?_
        refine w_block (p := [1, 1, 1, 1, 1, 1, 0, 1]) (p0 := [1, 1, 1, 1, 1, 1, 0, 1, 0]) (id := 0) (by kernel_rfl) ?_
        refine w_into (dowellaw03_ClassBack.F0 a1 b1607 t1618 b1635 t1626 b1644 A1669 t1664 c1670 0 0) (by kernel_rfl) (fun u_ => ?_)
        refine w_loop (p := [1, 1, 1, 1, 1, 1, 0, 1, 0]) (p0 := [1, 1, 1, 1, 1, 1, 0, 1, 0, 0]) K (by kernel_rfl) ?_
        refine dowellaw03_ClassBack.l0.ok K a0 a1 a2 w r b1607 t1618 b1635 t1626 b1644 A1669 t1664 c1670 (fun a w' h_ => q_in_r (q_then_r (HR a w' h_))) ?_ K 0 0 u_ w1666 k1677 hb1678 hb1679 hb1680 g1609 g1638 g1648 n1637 n1646 n1647 ho1671 n1674 n1675 n1676 H
        intro x1804 u1802 w1800 k1801 hb1805 hb1806 hb1807 ghb1805 ghb1806 ghb1807 nhb1805hb1806 nhb1805hb1807 nhb1806hb1807 ho1812 n1813 n1814 n1815 H
        try dsimp only at H
        refine q_in_hit ?_
        refine q_then ?_
        refine w_seq (p := [1, 1, 1, 1, 1, 1, 1]) (p0 := [1, 1, 1, 1, 1, 1, 1, 0]) (p1 := [1, 1, 1, 1, 1, 1, 1, 1]) (by kernel_rfl) ?_
        refine w_drawc (p := [1, 1, 1, 1, 1, 1, 1, 0]) (id := 13) (by kernel_rfl) (by kernel_rfl) [0, 0, 3, 7, 15, 15, 63, 127, 255, 511, 511, 1535, 511, 4607, 15871, 32767, 65535, 131071, 262143, 524287, 262143, 2097151, 4194303, 8388607, 16777215, 16777215, 50331647, 134217727, 268435455, 536870911] 67633152 [0, 1, 2, 3, 4, 5, 6, 7, 8, 9, 10, 11, 12, 13, 14, 15, 16, 17, 18, 20, 19, 21, 22, 23, 24, 25, 26, 27, 28, 29] (by kernel_rfl) (G := fun w_ => Blk w_ b1644 #[.int .i64 t1626.2.2.f0, .int .i64 t1626.2.2.f1] 65 ∧ Blk w_ b1635 #[.int .u64 t1626.1.f0, .int .u64 t1626.1.f1, .int .u64 t1626.1.f2, .int .u64 t1626.1.f3] 37 ∧ Blk w_ b1607 #[.int .u64 a0.f0, .int .u64 a0.f1, .int .u64 a0.f2, .int .u64 a0.f3] 37) (fun w_ h_ => ⟨hb1807.same h_, hb1806.same h_, hb1805.same h_⟩) ?_
        intro w1816 k1817 _
        have k1818 := Kp.trans k1801 k1817 (fun _ h => h.elim)
        have hb1819 := Blk.kp hb1805 k1817 id
        have hb1820 := Blk.kp hb1806 k1817 id
        have hb1821 := Blk.kp hb1807 k1817 id
        have ho1822 := Ow.kpNo ho1812 k1817
        refine c_q (p := [1, 1, 1, 1, 1, 1, 1, 0]) 0 (.agg #[.int .i64 t1626.2.2.f0, .int .i64 t1626.2.2.f1]) (by kernel_rfl) (fun w_ hG_ => og_load (T := 65) (x := (Operand.tmp 10)) (b := b1644) (off := 0) (.agg #[.int .i64 t1626.2.2.f0, .int .i64 t1626.2.2.f1]) (by kernel_rfl) (by kernel_rfl) hG_.1 (by kernel_rfl) ⟨rfl, rfl⟩) ?_
        refine c_val (p := [1, 1, 1, 1, 1, 1, 1, 0]) 1 (.agg #[.int .i64 0, .int .i64 0]) (by kernel_rfl) (fun _ => by kernel_rfl) ?_
        refine c_q (p := [1, 1, 1, 1, 1, 1, 1, 0]) 2 (.bool ((t1626.2.2.f0 == 0) && ((t1626.2.2.f1 == 0) && true))) (by kernel_rfl) (fun w_ hG_ => og_eqagg (T := 65) (U := 65) (x := (Operand.tmp 86)) (y := (Operand.tmp 87)) (xs := #[.int .i64 t1626.2.2.f0, .int .i64 t1626.2.2.f1]) (ys := #[.int .i64 0, .int .i64 0]) (((t1626.2.2.f0 == 0) && ((t1626.2.2.f1 == 0) && true))) (by kernel_rfl) (by kernel_rfl) (by kernel_rfl) (by kernel_rfl) (by kernel_rfl) ⟨rfl, rfl⟩) ?_
        refine c_val (p := [1, 1, 1, 1, 1, 1, 1, 0]) 3 (.bool ((t1626.2.2.f0 == 0) && ((t1626.2.2.f1 == 0) && true))) (by kernel_rfl) (fun _ => by kernel_rfl) ?_
        refine b_split (((t1626.2.2.f0 == 0) && ((t1626.2.2.f1 == 0) && true))) (fun h_ => ?_) (fun h_ => ?_)
        · have h1823 : ((t1626.2.2.f0 == 0) && ((t1626.2.2.f1 == 0) && true)) = true := h_
          rw [if_pos h1823] at H
          rw [h_]
          clear h_
          refine c_q (p := [1, 1, 1, 1, 1, 1, 1, 0]) 4 (.agg #[.int .u64 t1626.1.f0, .int .u64 t1626.1.f1, .int .u64 t1626.1.f2, .int .u64 t1626.1.f3]) (by kernel_rfl) (fun w_ hG_ => og_load (T := 37) (x := (Operand.tmp 8)) (b := b1635) (off := 0) (.agg #[.int .u64 t1626.1.f0, .int .u64 t1626.1.f1, .int .u64 t1626.1.f2, .int .u64 t1626.1.f3]) (by kernel_rfl) (by kernel_rfl) hG_.2.1 (by kernel_rfl) ⟨rfl, rfl⟩) ?_
          refine c_q (p := [1, 1, 1, 1, 1, 1, 1, 0]) 5 (.agg #[.int .u64 a0.f0, .int .u64 a0.f1, .int .u64 a0.f2, .int .u64 a0.f3]) (by kernel_rfl) (fun w_ hG_ => og_load (T := 37) (x := (Operand.tmp 3)) (b := b1607) (off := 0) (.agg #[.int .u64 a0.f0, .int .u64 a0.f1, .int .u64 a0.f2, .int .u64 a0.f3]) (by kernel_rfl) (by kernel_rfl) hG_.2.2 (by kernel_rfl) ⟨rfl, rfl⟩) ?_
          refine c_q (p := [1, 1, 1, 1, 1, 1, 1, 0]) 6 (.bool ((t1626.1.f0 == a0.f0) && ((t1626.1.f1 == a0.f1) && ((t1626.1.f2 == a0.f2) && ((t1626.1.f3 == a0.f3) && true))))) (by kernel_rfl) (fun w_ hG_ => og_eqarr (T := 37) (U := 37) (x := (Operand.tmp 90)) (y := (Operand.tmp 91)) (xs := #[.int .u64 t1626.1.f0, .int .u64 t1626.1.f1, .int .u64 t1626.1.f2, .int .u64 t1626.1.f3]) (ys := #[.int .u64 a0.f0, .int .u64 a0.f1, .int .u64 a0.f2, .int .u64 a0.f3]) 4 35 (((t1626.1.f0 == a0.f0) && ((t1626.1.f1 == a0.f1) && ((t1626.1.f2 == a0.f2) && ((t1626.1.f3 == a0.f3) && true))))) (by kernel_rfl) (by kernel_rfl) (by kernel_rfl) (by kernel_rfl) (by kernel_rfl) (by kernel_rfl) (by kernel_rfl) ⟨rfl, rfl⟩) ?_
          refine c_val (p := [1, 1, 1, 1, 1, 1, 1, 0]) 7 (.bool ((t1626.1.f0 == a0.f0) && ((t1626.1.f1 == a0.f1) && ((t1626.1.f2 == a0.f2) && ((t1626.1.f3 == a0.f3) && true))))) (by kernel_rfl) (fun _ => by kernel_rfl) ?_
          refine c_val (p := [1, 1, 1, 1, 1, 1, 1, 0]) 8 (.bool ((t1626.1.f0 == a0.f0) && ((t1626.1.f1 == a0.f1) && ((t1626.1.f2 == a0.f2) && ((t1626.1.f3 == a0.f3) && true))))) (by kernel_rfl) (fun _ => by kernel_rfl) ?_
          refine b_split (((t1626.1.f0 == a0.f0) && ((t1626.1.f1 == a0.f1) && ((t1626.1.f2 == a0.f2) && ((t1626.1.f3 == a0.f3) && true))))) (fun h_ => ?_) (fun h_ => ?_)
          · have h1824 : ((t1626.1.f0 == a0.f0) && ((t1626.1.f1 == a0.f1) && ((t1626.1.f2 == a0.f2) && ((t1626.1.f3 == a0.f3) && true)))) = true := h_
            rw [if_pos h1824] at H
            rw [h_]
            clear h_
            refine c_val (p := [1, 1, 1, 1, 1, 1, 1, 0]) 9 (.int .i64 t1626.2.1) (by kernel_rfl) (fun _ => by kernel_rfl) ?_
            refine c_val (p := [1, 1, 1, 1, 1, 1, 1, 0]) 10 (.string a1) (by kernel_rfl) (fun _ => by kernel_rfl) ?_
            refine c_val (p := [1, 1, 1, 1, 1, 1, 1, 0]) 11 (.int .i64 (a1.size : Int)) (by kernel_rfl) (fun _ => by kernel_rfl) ?_
            refine c_val (p := [1, 1, 1, 1, 1, 1, 1, 0]) 12 (.string t1618) (by kernel_rfl) (fun _ => by kernel_rfl) ?_
            refine c_val (p := [1, 1, 1, 1, 1, 1, 1, 0]) 13 (.int .i64 (t1618.size : Int)) (by kernel_rfl) (fun _ => by kernel_rfl) ?_
            refine c_val (p := [1, 1, 1, 1, 1, 1, 1, 0]) 14 (.int .i64 (W ((a1.size : Int) + (t1618.size : Int)))) (by kernel_rfl) (fun _ => by kernel_rfl) ?_
            refine c_val (p := [1, 1, 1, 1, 1, 1, 1, 0]) 15 (.bool (t1626.2.1 == (W ((a1.size : Int) + (t1618.size : Int))))) (by kernel_rfl) (fun _ => by kernel_rfl) ?_
            refine c_val (p := [1, 1, 1, 1, 1, 1, 1, 0]) 16 (.bool (t1626.2.1 == (W ((a1.size : Int) + (t1618.size : Int))))) (by kernel_rfl) (fun _ => by kernel_rfl) ?_
            refine c_val (p := [1, 1, 1, 1, 1, 1, 1, 0]) 17 (.bool (t1626.2.1 == (W ((a1.size : Int) + (t1618.size : Int))))) (by kernel_rfl) (fun _ => by kernel_rfl) ?_
            refine b_split (t1626.2.1 == (W ((a1.size : Int) + (t1618.size : Int)))) (fun h_ => ?_) (fun h_ => ?_)
            · have h1825 : t1626.2.1 = (W ((a1.size : Int) + (t1618.size : Int))) := by simpa using h_
              rw [if_pos h1825] at H
              rw [h_]
              clear h_
              refine c_val (p := [1, 1, 1, 1, 1, 1, 1, 0]) 18 (.slice A1669 t1664.length c1670) (by kernel_rfl) (fun _ => by kernel_rfl) ?_
              refine c_q (p := [1, 1, 1, 1, 1, 1, 1, 0]) 20 (.agg #[.int .u64 a0.f0, .int .u64 a0.f1, .int .u64 a0.f2, .int .u64 a0.f3]) (by kernel_rfl) (fun w_ hG_ => og_load (T := 37) (x := (Operand.tmp 3)) (b := b1607) (off := 0) (.agg #[.int .u64 a0.f0, .int .u64 a0.f1, .int .u64 a0.f2, .int .u64 a0.f3]) (by kernel_rfl) (by kernel_rfl) hG_.2.2 (by kernel_rfl) ⟨rfl, rfl⟩) ?_
              obtain ⟨t1826, ht1827, H⟩ := Option.bind_eq_some_iff.1 H
              refine c_do (p := [1, 1, 1, 1, 1, 1, 1, 0]) 19 (by kernel_rfl) (og_call (g := 33) (av := #[.slice A1669 t1664.length c1670]) (by kernel_rfl) ?_) 
              refine (class_Of.ok K A1669 c1670 t1664 t1664.length w1816 (Ow.rdNo ho1822) (Ow.cap ho1822) (Ow.len ho1822) t1826 ht1827).mono ?_
              rintro e w1828 ⟨rfl, k1829⟩
              refine ⟨_, rfl, ?_⟩
              have k1830 := Kp.trans k1818 k1829 (fun _ h => h.elim)
              have hb1831 := Blk.kp hb1819 k1829 id
              have hb1832 := Blk.kp hb1820 k1829 id
              have hb1833 := Blk.kp hb1821 k1829 id
              have ho1834 := Ow.kpNo ho1822 k1829
              refine ⟨⟨hb1833, hb1832, hb1831⟩, ?_⟩
              refine c_q (p := [1, 1, 1, 1, 1, 1, 1, 0]) 21 (.bool ((t1826.f0 == a0.f0) && ((t1826.f1 == a0.f1) && ((t1826.f2 == a0.f2) && ((t1826.f3 == a0.f3) && true))))) (by kernel_rfl) (fun w_ hG_ => og_eqarr (T := 37) (U := 37) (x := (Operand.tmp 105)) (y := (Operand.tmp 106)) (xs := #[.int .u64 t1826.f0, .int .u64 t1826.f1, .int .u64 t1826.f2, .int .u64 t1826.f3]) (ys := #[.int .u64 a0.f0, .int .u64 a0.f1, .int .u64 a0.f2, .int .u64 a0.f3]) 4 35 (((t1826.f0 == a0.f0) && ((t1826.f1 == a0.f1) && ((t1826.f2 == a0.f2) && ((t1826.f3 == a0.f3) && true))))) (by kernel_rfl) (by kernel_rfl) (by kernel_rfl) (by kernel_rfl) (by kernel_rfl) (by kernel_rfl) (by kernel_rfl) ⟨rfl, rfl⟩) ?_
              refine c_val (p := [1, 1, 1, 1, 1, 1, 1, 0]) 22 (.bool ((t1826.f0 == a0.f0) && ((t1826.f1 == a0.f1) && ((t1826.f2 == a0.f2) && ((t1826.f3 == a0.f3) && true))))) (by kernel_rfl) (fun _ => by kernel_rfl) ?_
              refine c_val (p := [1, 1, 1, 1, 1, 1, 1, 0]) 23 (.bool ((t1826.f0 == a0.f0) && ((t1826.f1 == a0.f1) && ((t1826.f2 == a0.f2) && ((t1826.f3 == a0.f3) && true))))) (by kernel_rfl) (fun _ => by kernel_rfl) ?_
              refine b_split (((t1826.f0 == a0.f0) && ((t1826.f1 == a0.f1) && ((t1826.f2 == a0.f2) && ((t1826.f3 == a0.f3) && true))))) (fun h_ => ?_) (fun h_ => ?_)
              · have h1835 : ((t1826.f0 == a0.f0) && ((t1826.f1 == a0.f1) && ((t1826.f2 == a0.f2) && ((t1826.f3 == a0.f3) && true)))) = true := h_
                rw [if_pos h1835] at H
                rw [h_]
                clear h_
                refine c_val (p := [1, 1, 1, 1, 1, 1, 1, 0]) 24 (.int .i64 x1804) (by kernel_rfl) (fun _ => by kernel_rfl) ?_
                refine c_q (p := [1, 1, 1, 1, 1, 1, 1, 0]) 25 (.agg #[.int .u64 a0.f0, .int .u64 a0.f1, .int .u64 a0.f2, .int .u64 a0.f3]) (by kernel_rfl) (fun w_ hG_ => og_load (T := 37) (x := (Operand.tmp 3)) (b := b1607) (off := 0) (.agg #[.int .u64 a0.f0, .int .u64 a0.f1, .int .u64 a0.f2, .int .u64 a0.f3]) (by kernel_rfl) (by kernel_rfl) hG_.2.2 (by kernel_rfl) ⟨rfl, rfl⟩) ?_
                obtain ⟨t1836, ht1837, H⟩ := Option.bind_eq_some_iff.1 H
                refine c_do (p := [1, 1, 1, 1, 1, 1, 1, 0]) 26 (by kernel_rfl) (og_call (g := 34) (av := #[.agg #[.int .u64 a0.f0, .int .u64 a0.f1, .int .u64 a0.f2, .int .u64 a0.f3]]) (by kernel_rfl) ?_) 
                refine (class_Count.ok K a0 w1828 t1836 ht1837).mono ?_
                rintro e w1838 ⟨rfl, k1839⟩
                refine ⟨_, rfl, ?_⟩
                have k1840 := Kp.trans k1830 k1839 (fun _ h => h.elim)
                have hb1841 := Blk.kp hb1831 k1839 id
                have hb1842 := Blk.kp hb1832 k1839 id
                have hb1843 := Blk.kp hb1833 k1839 id
                have ho1844 := Ow.kpNo ho1834 k1839
                refine ⟨⟨hb1843, hb1842, hb1841⟩, ?_⟩
                refine c_val (p := [1, 1, 1, 1, 1, 1, 1, 0]) 27 (.bool (x1804 == t1836)) (by kernel_rfl) (fun _ => by kernel_rfl) ?_
                refine c_val (p := [1, 1, 1, 1, 1, 1, 1, 0]) 28 (.bool (x1804 == t1836)) (by kernel_rfl) (fun _ => by kernel_rfl) ?_
                refine c_val (p := [1, 1, 1, 1, 1, 1, 1, 0]) 29 (.bool (x1804 == t1836)) (by kernel_rfl) (fun _ => by kernel_rfl) ?_
                refine c_nil ?_
                refine q_then ?_
                refine w_into (dowellaw03_ClassBack.j2F (x1804 == t1836)) (by kernel_rfl) (fun u_ => ?_)
                exact dowellaw03_ClassBack.j2.ok K a0 a1 a2 w r  HR  (x1804 == t1836) u_ w1838 k1840  H
              · have h1835 : ¬ (((t1826.f0 == a0.f0) && ((t1826.f1 == a0.f1) && ((t1826.f2 == a0.f2) && ((t1826.f3 == a0.f3) && true)))) = true) := by rw [h_]; decide
                rw [if_neg h1835] at H
                rw [h_]
                clear h_
                refine c_val (p := [1, 1, 1, 1, 1, 1, 1, 0]) 24 (undef) (by kernel_rfl) (fun _ => by kernel_rfl) ?_
                refine c_val (p := [1, 1, 1, 1, 1, 1, 1, 0]) 25 (undef) (by kernel_rfl) (fun _ => by kernel_rfl) ?_
                refine c_skip (p := [1, 1, 1, 1, 1, 1, 1, 0]) 26 (by kernel_rfl) ?_
                refine c_val (p := [1, 1, 1, 1, 1, 1, 1, 0]) 27 (undef) (by kernel_rfl) (fun _ => by kernel_rfl) ?_
                refine c_val (p := [1, 1, 1, 1, 1, 1, 1, 0]) 28 (.bool false) (by kernel_rfl) (fun _ => by kernel_rfl) ?_
                refine c_val (p := [1, 1, 1, 1, 1, 1, 1, 0]) 29 (.bool false) (by kernel_rfl) (fun _ => by kernel_rfl) ?_
                refine c_nil ?_
                refine q_then ?_
                refine w_into (dowellaw03_ClassBack.j2F false) (by kernel_rfl) (fun u_ => ?_)
                exact dowellaw03_ClassBack.j2.ok K a0 a1 a2 w r  HR  false u_ w1828 k1830  H
            · have h1825 : ¬ (t1626.2.1 = (W ((a1.size : Int) + (t1618.size : Int)))) := by simpa using h_
              rw [if_neg h1825] at H
              rw [h_]
              clear h_
              refine c_val (p := [1, 1, 1, 1, 1, 1, 1, 0]) 18 (undef) (by kernel_rfl) (fun _ => by kernel_rfl) ?_
              refine c_val (p := [1, 1, 1, 1, 1, 1, 1, 0]) 20 (undef) (by kernel_rfl) (fun _ => by kernel_rfl) ?_
              refine c_skip (p := [1, 1, 1, 1, 1, 1, 1, 0]) 19 (by kernel_rfl) ?_
              refine c_val (p := [1, 1, 1, 1, 1, 1, 1, 0]) 21 (undef) (by kernel_rfl) (fun _ => by kernel_rfl) ?_
              refine c_val (p := [1, 1, 1, 1, 1, 1, 1, 0]) 22 (.bool false) (by kernel_rfl) (fun _ => by kernel_rfl) ?_
              refine c_val (p := [1, 1, 1, 1, 1, 1, 1, 0]) 23 (.bool false) (by kernel_rfl) (fun _ => by kernel_rfl) ?_
              refine c_val (p := [1, 1, 1, 1, 1, 1, 1, 0]) 24 (undef) (by kernel_rfl) (fun _ => by kernel_rfl) ?_
              refine c_val (p := [1, 1, 1, 1, 1, 1, 1, 0]) 25 (undef) (by kernel_rfl) (fun _ => by kernel_rfl) ?_
              refine c_skip (p := [1, 1, 1, 1, 1, 1, 1, 0]) 26 (by kernel_rfl) ?_
              refine c_val (p := [1, 1, 1, 1, 1, 1, 1, 0]) 27 (undef) (by kernel_rfl) (fun _ => by kernel_rfl) ?_
              refine c_val (p := [1, 1, 1, 1, 1, 1, 1, 0]) 28 (.bool false) (by kernel_rfl) (fun _ => by kernel_rfl) ?_
              refine c_val (p := [1, 1, 1, 1, 1, 1, 1, 0]) 29 (.bool false) (by kernel_rfl) (fun _ => by kernel_rfl) ?_
              refine c_nil ?_
              refine q_then ?_
              refine w_into (dowellaw03_ClassBack.j2F false) (by kernel_rfl) (fun u_ => ?_)
              exact dowellaw03_ClassBack.j2.ok K a0 a1 a2 w r  HR  false u_ w1816 k1818  H
          · have h1824 : ¬ (((t1626.1.f0 == a0.f0) && ((t1626.1.f1 == a0.f1) && ((t1626.1.f2 == a0.f2) && ((t1626.1.f3 == a0.f3) && true)))) = true) := by rw [h_]; decide
            rw [if_neg h1824] at H
            rw [h_]
            clear h_
            refine c_val (p := [1, 1, 1, 1, 1, 1, 1, 0]) 9 (undef) (by kernel_rfl) (fun _ => by kernel_rfl) ?_
            refine c_val (p := [1, 1, 1, 1, 1, 1, 1, 0]) 10 (undef) (by kernel_rfl) (fun _ => by kernel_rfl) ?_
            refine c_val (p := [1, 1, 1, 1, 1, 1, 1, 0]) 11 (undef) (by kernel_rfl) (fun _ => by kernel_rfl) ?_
            refine c_val (p := [1, 1, 1, 1, 1, 1, 1, 0]) 12 (undef) (by kernel_rfl) (fun _ => by kernel_rfl) ?_
            refine c_val (p := [1, 1, 1, 1, 1, 1, 1, 0]) 13 (undef) (by kernel_rfl) (fun _ => by kernel_rfl) ?_
            refine c_val (p := [1, 1, 1, 1, 1, 1, 1, 0]) 14 (undef) (by kernel_rfl) (fun _ => by kernel_rfl) ?_
            refine c_val (p := [1, 1, 1, 1, 1, 1, 1, 0]) 15 (undef) (by kernel_rfl) (fun _ => by kernel_rfl) ?_
            refine c_val (p := [1, 1, 1, 1, 1, 1, 1, 0]) 16 (.bool false) (by kernel_rfl) (fun _ => by kernel_rfl) ?_
            refine c_val (p := [1, 1, 1, 1, 1, 1, 1, 0]) 17 (.bool false) (by kernel_rfl) (fun _ => by kernel_rfl) ?_
            refine c_val (p := [1, 1, 1, 1, 1, 1, 1, 0]) 18 (undef) (by kernel_rfl) (fun _ => by kernel_rfl) ?_
            refine c_val (p := [1, 1, 1, 1, 1, 1, 1, 0]) 20 (undef) (by kernel_rfl) (fun _ => by kernel_rfl) ?_
            refine c_skip (p := [1, 1, 1, 1, 1, 1, 1, 0]) 19 (by kernel_rfl) ?_
            refine c_val (p := [1, 1, 1, 1, 1, 1, 1, 0]) 21 (undef) (by kernel_rfl) (fun _ => by kernel_rfl) ?_
            refine c_val (p := [1, 1, 1, 1, 1, 1, 1, 0]) 22 (.bool false) (by kernel_rfl) (fun _ => by kernel_rfl) ?_
            refine c_val (p := [1, 1, 1, 1, 1, 1, 1, 0]) 23 (.bool false) (by kernel_rfl) (fun _ => by kernel_rfl) ?_
            refine c_val (p := [1, 1, 1, 1, 1, 1, 1, 0]) 24 (undef) (by kernel_rfl) (fun _ => by kernel_rfl) ?_
            refine c_val (p := [1, 1, 1, 1, 1, 1, 1, 0]) 25 (undef) (by kernel_rfl) (fun _ => by kernel_rfl) ?_
            refine c_skip (p := [1, 1, 1, 1, 1, 1, 1, 0]) 26 (by kernel_rfl) ?_
            refine c_val (p := [1, 1, 1, 1, 1, 1, 1, 0]) 27 (undef) (by kernel_rfl) (fun _ => by kernel_rfl) ?_
            refine c_val (p := [1, 1, 1, 1, 1, 1, 1, 0]) 28 (.bool false) (by kernel_rfl) (fun _ => by kernel_rfl) ?_
            refine c_val (p := [1, 1, 1, 1, 1, 1, 1, 0]) 29 (.bool false) (by kernel_rfl) (fun _ => by kernel_rfl) ?_
            refine c_nil ?_
            refine q_then ?_
            refine w_into (dowellaw03_ClassBack.j2F false) (by kernel_rfl) (fun u_ => ?_)
            exact dowellaw03_ClassBack.j2.ok K a0 a1 a2 w r  HR  false u_ w1816 k1818  H
        · have h1823 : ¬ (((t1626.2.2.f0 == 0) && ((t1626.2.2.f1 == 0) && true)) = true) := by rw [h_]; decide
          rw [if_neg h1823] at H
          rw [h_]
          clear h_
          refine c_val (p := [1, 1, 1, 1, 1, 1, 1, 0]) 4 (undef) (by kernel_rfl) (fun _ => by kernel_rfl) ?_
          refine c_val (p := [1, 1, 1, 1, 1, 1, 1, 0]) 5 (undef) (by kernel_rfl) (fun _ => by kernel_rfl) ?_
          refine c_val (p := [1, 1, 1, 1, 1, 1, 1, 0]) 6 (undef) (by kernel_rfl) (fun _ => by kernel_rfl) ?_
          refine c_val (p := [1, 1, 1, 1, 1, 1, 1, 0]) 7 (.bool false) (by kernel_rfl) (fun _ => by kernel_rfl) ?_
          refine c_val (p := [1, 1, 1, 1, 1, 1, 1, 0]) 8 (.bool false) (by kernel_rfl) (fun _ => by kernel_rfl) ?_
          refine c_val (p := [1, 1, 1, 1, 1, 1, 1, 0]) 9 (undef) (by kernel_rfl) (fun _ => by kernel_rfl) ?_
          refine c_val (p := [1, 1, 1, 1, 1, 1, 1, 0]) 10 (undef) (by kernel_rfl) (fun _ => by kernel_rfl) ?_
          refine c_val (p := [1, 1, 1, 1, 1, 1, 1, 0]) 11 (undef) (by kernel_rfl) (fun _ => by kernel_rfl) ?_
          refine c_val (p := [1, 1, 1, 1, 1, 1, 1, 0]) 12 (undef) (by kernel_rfl) (fun _ => by kernel_rfl) ?_
          refine c_val (p := [1, 1, 1, 1, 1, 1, 1, 0]) 13 (undef) (by kernel_rfl) (fun _ => by kernel_rfl) ?_
          refine c_val (p := [1, 1, 1, 1, 1, 1, 1, 0]) 14 (undef) (by kernel_rfl) (fun _ => by kernel_rfl) ?_
          refine c_val (p := [1, 1, 1, 1, 1, 1, 1, 0]) 15 (undef) (by kernel_rfl) (fun _ => by kernel_rfl) ?_
          refine c_val (p := [1, 1, 1, 1, 1, 1, 1, 0]) 16 (.bool false) (by kernel_rfl) (fun _ => by kernel_rfl) ?_
          refine c_val (p := [1, 1, 1, 1, 1, 1, 1, 0]) 17 (.bool false) (by kernel_rfl) (fun _ => by kernel_rfl) ?_
          refine c_val (p := [1, 1, 1, 1, 1, 1, 1, 0]) 18 (undef) (by kernel_rfl) (fun _ => by kernel_rfl) ?_
          refine c_val (p := [1, 1, 1, 1, 1, 1, 1, 0]) 20 (undef) (by kernel_rfl) (fun _ => by kernel_rfl) ?_
          refine c_skip (p := [1, 1, 1, 1, 1, 1, 1, 0]) 19 (by kernel_rfl) ?_
          refine c_val (p := [1, 1, 1, 1, 1, 1, 1, 0]) 21 (undef) (by kernel_rfl) (fun _ => by kernel_rfl) ?_
          refine c_val (p := [1, 1, 1, 1, 1, 1, 1, 0]) 22 (.bool false) (by kernel_rfl) (fun _ => by kernel_rfl) ?_
          refine c_val (p := [1, 1, 1, 1, 1, 1, 1, 0]) 23 (.bool false) (by kernel_rfl) (fun _ => by kernel_rfl) ?_
          refine c_val (p := [1, 1, 1, 1, 1, 1, 1, 0]) 24 (undef) (by kernel_rfl) (fun _ => by kernel_rfl) ?_
          refine c_val (p := [1, 1, 1, 1, 1, 1, 1, 0]) 25 (undef) (by kernel_rfl) (fun _ => by kernel_rfl) ?_
          refine c_skip (p := [1, 1, 1, 1, 1, 1, 1, 0]) 26 (by kernel_rfl) ?_
          refine c_val (p := [1, 1, 1, 1, 1, 1, 1, 0]) 27 (undef) (by kernel_rfl) (fun _ => by kernel_rfl) ?_
          refine c_val (p := [1, 1, 1, 1, 1, 1, 1, 0]) 28 (.bool false) (by kernel_rfl) (fun _ => by kernel_rfl) ?_
          refine c_val (p := [1, 1, 1, 1, 1, 1, 1, 0]) 29 (.bool false) (by kernel_rfl) (fun _ => by kernel_rfl) ?_
          refine c_nil ?_
          refine q_then ?_
          refine w_into (dowellaw03_ClassBack.j2F false) (by kernel_rfl) (fun u_ => ?_)
          exact dowellaw03_ClassBack.j2.ok K a0 a1 a2 w r  HR  false u_ w1816 k1818  H
      · rw [if_neg h1625] at H
        cases H
    · rw [if_neg h1624] at H
      cases H
end Go.Proofs.Ytampekcanmakkaa.G
