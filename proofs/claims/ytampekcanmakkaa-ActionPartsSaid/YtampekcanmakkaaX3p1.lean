/- What the functions compute, and that the calls come to it: printed by a program. -/
import Derived.Test.YtampekcanmakkaaBase14
import Derived.Test.YtampekcanmakkaaProg
set_option linter.unusedVariables false
namespace Go.Proofs.Ytampekcanmakkaa.G
open Go Go.RowKit Go.Proofs
structure S30 where
  f0 : Int
  f1 : Int
def z30 : S30 := ⟨0, 0⟩
def K30 (e : TypeId) : Kn S30 := ⟨2, e, fun x => [.int .i64 x.f0, .int .i64 x.f1], fun _ => rfl, fun x u hu => by simp at hu; rcases hu with rfl | rfl <;> rfl⟩
structure S32 where
  f0 : Int
  f1 : Int
  f2 : ByteArray
  f3 : ByteArray
  f4 : S30
def z32 : S32 := ⟨0, 0, (⟨#[]⟩ : ByteArray), (⟨#[]⟩ : ByteArray), z30⟩
def K32 (e : TypeId) : Kn S32 := ⟨6, e, fun x => [.int .i64 x.f0, .int .i64 x.f1, .string x.f2, .string x.f3, .int .i64 x.f4.f0, .int .i64 x.f4.f1], fun _ => rfl, fun x u hu => by simp at hu; rcases hu with rfl | rfl | rfl | rfl | rfl | rfl <;> rfl⟩

/-! ### dowel/dowelbook.actsMark -/
def dowelbook_actsMark_51.f (K : Nat) (a0 : Int) : Option (S32) := some (⟨W ((-1) - a0), 0, (⟨#[]⟩ : ByteArray), (⟨#[]⟩ : ByteArray), z30⟩ : S32)
def dowelbook_actsMark_51.R (r : S32) (w : World) : Ending → World → Prop := fun e w' => e = .returned (.agg #[.int .i64 r.f0, .int .i64 r.f1, .string r.f2, .string r.f3, .int .i64 r.f4.f0, .int .i64 r.f4.f1]) ∧ Kp No w w'
set_option maxRecDepth 20000 in
set_option maxHeartbeats 4000000 in
theorem dowelbook_actsMark_51.ok (K : Nat) (a0 : Int) (w : World)  (r : S32) (H : dowelbook_actsMark_51.f K a0 = some r) : Calls Try.prog 51 #[.int .i64 a0] w (dowelbook_actsMark_51.R r w) := by
  refine calls_cd (t := #[.int .i64 a0, undef, undef, undef, undef, undef]) Try.func51 (by kernel_rfl) (by kernel_rfl) ?_
  unfold dowelbook_actsMark_51.f at H
  have HR : ∀ a w', bodyPost Try.prog Try.f51 (dowelbook_actsMark_51.R r w) .ret a w' → bodyPost Try.prog Try.f51 (dowelbook_actsMark_51.R r w) .ret a w' := fun _ _ h => h
  refine w_seq (p := []) (p0 := [0]) (p1 := [1]) (by kernel_rfl) ?_
  refine w_region (p := [0]) (id := 0) (by kernel_rfl) ?_
  refine r_do 0 (by kernel_rfl) (og_alloc (T := 33) (cs := #[.int .i64 0, .int .i64 0, .string (⟨#[]⟩ : ByteArray), .string (⟨#[]⟩ : ByteArray), .int .i64 0, .int .i64 0]) (by kernel_rfl) (by kernel_rfl) ?_) 
  intro b4 w1 e5 hb3 k2
  have g6 : w.heap.size ≤ b4 := by rw [e5]; exact Kp.size (Kp.refl No w)
  clear e5
  have k7 := Kp.trans (Kp.refl No w) k2 (fun _ h => h.elim)
  refine r_fin 1 (by kernel_rfl) ?_
  refine q_then ?_
  refine w_seq (p := [1]) (p0 := [1, 0]) (p1 := [1, 1]) (by kernel_rfl) ?_
  refine w_region (p := [1, 0]) (id := 1) (by kernel_rfl) ?_
  refine r_vals 0 3 [.int .i64 a0, .int .i64 (W ((-1) - a0)), .agg #[.int .i64 (W ((-1) - a0)), .int .i64 0, .string (⟨#[]⟩ : ByteArray), .string (⟨#[]⟩ : ByteArray), .int .i64 0, .int .i64 0]] (by kernel_rfl) (by kernel_rfl) ?_
  refine r_do 3 (by kernel_rfl) (og_store (T := 33) (x := (Operand.tmp 2)) (y := (Operand.tmp 5)) (b := b4) (off := 0) (.agg #[.int .i64 (W ((-1) - a0)), .int .i64 0, .string (⟨#[]⟩ : ByteArray), .string (⟨#[]⟩ : ByteArray), .int .i64 0, .int .i64 0]) (by kernel_rfl) (by kernel_rfl) (by kernel_rfl) hb3 (cs' := #[.int .i64 (W ((-1) - a0)), .int .i64 0, .string (⟨#[]⟩ : ByteArray), .string (⟨#[]⟩ : ByteArray), .int .i64 0, .int .i64 0]) (by kernel_rfl) ?_) 
  intro w9 hb8 k10 _
  have k11 := Kp.trans k7 k10 (fun x hx => .inr (by rw [show x = _ from hx]; exact g6))
  refine r_fin 4 (by kernel_rfl) ?_
  refine q_then ?_
  refine w_ret (p := [1, 1]) (by kernel_rfl) ?_
  obtain rfl := Option.some.inj H
  refine HR _ _ (body_ret (vs := [.agg #[.int .i64 (W ((-1) - a0)), .int .i64 0, .string (⟨#[]⟩ : ByteArray), .string (⟨#[]⟩ : ByteArray), .int .i64 0, .int .i64 0]]) (rv_cell (off := 0) (v := .agg #[.int .i64 (W ((-1) - a0)), .int .i64 0, .string (⟨#[]⟩ : ByteArray), .string (⟨#[]⟩ : ByteArray), .int .i64 0, .int .i64 0]) (by kernel_rfl) hb8 (by kernel_rfl) rfl) rfl ?_)
  exact ⟨rfl, k11⟩
/-! ### dowel/dowelbook.actsMore -/
def dowelbook_actsMore_52.f (K : Nat) (a0 : Int) : Option (S32) := some (⟨W ((-100000) - a0), 0, (⟨#[]⟩ : ByteArray), (⟨#[]⟩ : ByteArray), z30⟩ : S32)
def dowelbook_actsMore_52.R (r : S32) (w : World) : Ending → World → Prop := fun e w' => e = .returned (.agg #[.int .i64 r.f0, .int .i64 r.f1, .string r.f2, .string r.f3, .int .i64 r.f4.f0, .int .i64 r.f4.f1]) ∧ Kp No w w'
set_option maxRecDepth 20000 in
set_option maxHeartbeats 4000000 in
theorem dowelbook_actsMore_52.ok (K : Nat) (a0 : Int) (w : World)  (r : S32) (H : dowelbook_actsMore_52.f K a0 = some r) : Calls Try.prog 52 #[.int .i64 a0] w (dowelbook_actsMore_52.R r w) := by
  refine calls_cd (t := #[.int .i64 a0, undef, undef, undef, undef, undef]) Try.func52 (by kernel_rfl) (by kernel_rfl) ?_
  unfold dowelbook_actsMore_52.f at H
  have HR : ∀ a w', bodyPost Try.prog Try.f52 (dowelbook_actsMore_52.R r w) .ret a w' → bodyPost Try.prog Try.f52 (dowelbook_actsMore_52.R r w) .ret a w' := fun _ _ h => h
  refine w_seq (p := []) (p0 := [0]) (p1 := [1]) (by kernel_rfl) ?_
  refine w_region (p := [0]) (id := 0) (by kernel_rfl) ?_
  refine r_do 0 (by kernel_rfl) (og_alloc (T := 33) (cs := #[.int .i64 0, .int .i64 0, .string (⟨#[]⟩ : ByteArray), .string (⟨#[]⟩ : ByteArray), .int .i64 0, .int .i64 0]) (by kernel_rfl) (by kernel_rfl) ?_) 
  intro b15 w12 e16 hb14 k13
  have g17 : w.heap.size ≤ b15 := by rw [e16]; exact Kp.size (Kp.refl No w)
  clear e16
  have k18 := Kp.trans (Kp.refl No w) k13 (fun _ h => h.elim)
  refine r_fin 1 (by kernel_rfl) ?_
  refine q_then ?_
  refine w_seq (p := [1]) (p0 := [1, 0]) (p1 := [1, 1]) (by kernel_rfl) ?_
  refine w_region (p := [1, 0]) (id := 1) (by kernel_rfl) ?_
  refine r_vals 0 3 [.int .i64 a0, .int .i64 (W ((-100000) - a0)), .agg #[.int .i64 (W ((-100000) - a0)), .int .i64 0, .string (⟨#[]⟩ : ByteArray), .string (⟨#[]⟩ : ByteArray), .int .i64 0, .int .i64 0]] (by kernel_rfl) (by kernel_rfl) ?_
  refine r_do 3 (by kernel_rfl) (og_store (T := 33) (x := (Operand.tmp 2)) (y := (Operand.tmp 5)) (b := b15) (off := 0) (.agg #[.int .i64 (W ((-100000) - a0)), .int .i64 0, .string (⟨#[]⟩ : ByteArray), .string (⟨#[]⟩ : ByteArray), .int .i64 0, .int .i64 0]) (by kernel_rfl) (by kernel_rfl) (by kernel_rfl) hb14 (cs' := #[.int .i64 (W ((-100000) - a0)), .int .i64 0, .string (⟨#[]⟩ : ByteArray), .string (⟨#[]⟩ : ByteArray), .int .i64 0, .int .i64 0]) (by kernel_rfl) ?_) 
  intro w20 hb19 k21 _
  have k22 := Kp.trans k18 k21 (fun x hx => .inr (by rw [show x = _ from hx]; exact g17))
  refine r_fin 4 (by kernel_rfl) ?_
  refine q_then ?_
  refine w_ret (p := [1, 1]) (by kernel_rfl) ?_
  obtain rfl := Option.some.inj H
  refine HR _ _ (body_ret (vs := [.agg #[.int .i64 (W ((-100000) - a0)), .int .i64 0, .string (⟨#[]⟩ : ByteArray), .string (⟨#[]⟩ : ByteArray), .int .i64 0, .int .i64 0]]) (rv_cell (off := 0) (v := .agg #[.int .i64 (W ((-100000) - a0)), .int .i64 0, .string (⟨#[]⟩ : ByteArray), .string (⟨#[]⟩ : ByteArray), .int .i64 0, .int .i64 0]) (by kernel_rfl) hb19 (by kernel_rfl) rfl) rfl ?_)
  exact ⟨rfl, k22⟩
/-! ### dowel/dowelbook.LendActs -/
def dowelbook_LendActs_12.f (K : Nat) (a0 : List S32) : Option (CutL S32) := if 0 ≤ (W ((a0.length : Int) + 2)) then (if (64 : Int) * (W ((a0.length : Int) + 2)) ≤ 281474976710656 then (if (W ((a0.length : Int) + 2)) ≤ 9223372036854775807 then (if a0.length ≤ (W ((a0.length : Int) + 2)).toNat then ((dowelbook_actsMark_51.f K 77).bind fun t38 => (if 0 ≤ (a0.length : Int) then (if (a0.length : Int) < ((W ((a0.length : Int) + 2)).toNat : Int) then ((dowelbook_actsMore_52.f K 77).bind fun t50 => (if 0 ≤ (W ((a0.length : Int) + 1)) then (if (W ((a0.length : Int) + 1)) < ((W ((a0.length : Int) + 2)).toNat : Int) then (if (a0.length : Int) ≤ ((W ((a0.length : Int) + 2)).toNat : Int) then (some ⟨stored (stored (a0 ++ (List.replicate (W ((a0.length : Int) + 2)).toNat z32).drop a0.length) (a0.length : Int) t38) (W ((a0.length : Int) + 1)) t50, ((a0.length : Int)).toNat⟩) else none) else none) else none)) else none) else none)) else none) else none) else none) else none
def dowelbook_LendActs_12.R (r : CutL S32) (w : World) : Ending → World → Prop := fun e w' => ∃ (A0 : Option Addr) (n0 c0 : Nat), e = .returned (.slice A0 r.n c0) ∧ Kp No w w' ∧ Ow w (K32 33) w' A0 n0 c0 r.all ∧ r.n ≤ n0
set_option maxRecDepth 20000 in
set_option maxHeartbeats 4000000 in
theorem dowelbook_LendActs_12.ok (K : Nat) (a0A : Option Addr) (a0c : Nat) (a0 : List S32) (a0n : Nat) (w : World) (a0r : Rd No w a0A ((K32 33).cells a0)) (a0l : a0n ≤ a0c) (a0e : a0.length = a0n) (r : CutL S32) (H : dowelbook_LendActs_12.f K a0 = some r) : Calls Try.prog 12 #[.slice a0A a0n a0c] w (dowelbook_LendActs_12.R r w) := by
  subst a0e
  refine calls_cd (t := #[.slice a0A a0.length a0c, undef, undef, undef, undef, undef, undef, undef, undef, undef, undef, undef, undef, undef, undef, undef, undef, undef, undef, undef, undef, undef, undef, undef, undef, undef]) Try.func12 (by kernel_rfl) (by kernel_rfl) ?_
  unfold dowelbook_LendActs_12.f at H
  have HR : ∀ a w', bodyPost Try.prog Try.f12 (dowelbook_LendActs_12.R r w) .ret a w' → bodyPost Try.prog Try.f12 (dowelbook_LendActs_12.R r w) .ret a w' := fun _ _ h => h
  refine w_seq (p := []) (p0 := [0]) (p1 := [1]) (by kernel_rfl) ?_
  refine w_region (p := [0]) (id := 0) (by kernel_rfl) ?_
  refine r_vals 0 1 [.slice none 0 0] (by kernel_rfl) (by kernel_rfl) ?_
  refine r_fin 1 (by kernel_rfl) ?_
  refine q_then ?_
  refine w_seq (p := [1]) (p0 := [1, 0]) (p1 := [1, 1]) (by kernel_rfl) ?_
  refine w_region (p := [1, 0]) (id := 1) (by kernel_rfl) ?_
  refine r_vals 0 3 [.slice a0A a0.length a0c, .int .i64 (a0.length : Int), .int .i64 (W ((a0.length : Int) + 2))] (by kernel_rfl) (by kernel_rfl) ?_
  refine p_split (0 ≤ (W ((a0.length : Int) + 2))) (fun h23 => ?_) (fun h23 => ?_)
  · rw [if_pos h23] at H
    refine p_split ((64 : Int) * (W ((a0.length : Int) + 2)) ≤ 281474976710656) (fun h24 => ?_) (fun h24 => ?_)
    · rw [if_pos h24] at H
      refine p_split ((W ((a0.length : Int) + 2)) ≤ 9223372036854775807) (fun h25 => ?_) (fun h25 => ?_)
      · rw [if_pos h25] at H
        refine r_do 3 (by kernel_rfl) (ow_make (K := (K32 33)) (w0 := w) (T := 22) (x := (Operand.tmp 6)) (y := (Operand.tmp 6)) (kl := .i64) (kc := .i64) (l := (W ((a0.length : Int) + 2))) (c := (W ((a0.length : Int) + 2))) z32 64 (by kernel_rfl) (by kernel_rfl) (by kernel_rfl) (by kernel_rfl) (by kernel_rfl) (by kernel_rfl) h23 (Int.le_refl _) h24 h25 (Kp.refl No w) ?_) 
        intro b29 w26 e30 ho28 k27
        clear e30
        have k32 := Kp.trans (Kp.refl No w) k27 (fun _ h => h.elim)
        refine r_vals 4 5 [.slice (some ⟨b29, 0, none⟩) ((W ((a0.length : Int) + 2)).toNat) ((W ((a0.length : Int) + 2)).toNat)] (by kernel_rfl) (by kernel_rfl) ?_
        refine r_fin 5 (by kernel_rfl) ?_
        refine q_then ?_
        refine w_seq (p := [1, 1]) (p0 := [1, 1, 0]) (p1 := [1, 1, 1]) (by kernel_rfl) ?_
        refine w_region (p := [1, 1, 0]) (id := 2) (by kernel_rfl) ?_
        refine r_vals 0 2 [.slice (some ⟨b29, 0, none⟩) ((W ((a0.length : Int) + 2)).toNat) ((W ((a0.length : Int) + 2)).toNat), .slice a0A a0.length a0c] (by kernel_rfl) (by kernel_rfl) ?_
        refine p_split (a0.length ≤ (W ((a0.length : Int) + 2)).toNat) (fun h33 => ?_) (fun h33 => ?_)
        · rw [if_pos h33] at H
          refine r_do 2 (by kernel_rfl) (ow_copy (K := (K32 33)) (w0 := w) (T := 22) (n := ((W ((a0.length : Int) + 2)).toNat)) (c := ((W ((a0.length : Int) + 2)).toNat)) (m := a0.length) (d := a0c) (x := (Operand.tmp 8)) (y := (Operand.tmp 9)) (A := (some ⟨b29, 0, none⟩)) (D := a0A) (xs := (List.replicate (W ((a0.length : Int) + 2)).toNat z32)) (ys := a0) (by kernel_rfl) (by kernel_rfl) (by kernel_rfl) (by kernel_rfl) ho28 (by kernel_rfl) rfl (Rd.kp a0r k32 (fun _ _ h => h)) h33 ?_) 
          intro w34 ho36 k35
          have k37 := Kp.own ho28 k32 k35
          refine r_fin 3 (by kernel_rfl) ?_
          refine q_then ?_
          refine w_seq (p := [1, 1, 1]) (p0 := [1, 1, 1, 0]) (p1 := [1, 1, 1, 1]) (by kernel_rfl) ?_
          refine w_region (p := [1, 1, 1, 0]) (id := 3) (by kernel_rfl) ?_
          refine r_vals 0 3 [.slice (some ⟨b29, 0, none⟩) ((W ((a0.length : Int) + 2)).toNat) ((W ((a0.length : Int) + 2)).toNat), .slice a0A a0.length a0c, .int .i64 (a0.length : Int)] (by kernel_rfl) (by kernel_rfl) ?_
          obtain ⟨t38, ht39, H⟩ := Option.bind_eq_some_iff.1 H
          refine r_do 3 (by kernel_rfl) (og_call (g := 51) (av := #[.int .i64 77]) (by kernel_rfl) ?_) 
          refine (dowelbook_actsMark_51.ok K 77 w34 t38 ht39).mono ?_
          rintro e w40 ⟨rfl, k41⟩
          refine ⟨_, rfl, ?_⟩
          have k42 := Kp.trans k37 k41 (fun _ h => h.elim)
          have ho43 := Ow.kpNo ho36 k41
          refine p_split (0 ≤ (a0.length : Int)) (fun h44 => ?_) (fun h44 => ?_)
          · rw [if_pos h44] at H
            refine p_split ((a0.length : Int) < ((W ((a0.length : Int) + 2)).toNat : Int)) (fun h45 => ?_) (fun h45 => ?_)
            · rw [if_pos h45] at H
              refine r_do 4 (by kernel_rfl) (ow_index (K := (K32 33)) (T := 22) (e := 33) (sz := 6) (x := (Operand.tmp 11)) (y := (Operand.tmp 13)) (k := .i64) (n := ((W ((a0.length : Int) + 2)).toNat)) (c := ((W ((a0.length : Int) + 2)).toNat)) (A := (some ⟨b29, 0, none⟩)) (xs := (a0 ++ (List.replicate (W ((a0.length : Int) + 2)).toNat z32).drop a0.length)) (iv := (a0.length : Int)) (by kernel_rfl) (by kernel_rfl) (by kernel_rfl) (by kernel_rfl) h44 h45 (Ow.rdNo ho43) (Ow.len ho43) (by kernel_rfl) ?_) 
              refine r_do 5 (by kernel_rfl) (ow_storeE (K := (K32 33)) (T := 33) (x := (Operand.tmp 15)) (y := (Operand.tmp 14)) (off := 0) (n := ((W ((a0.length : Int) + 2)).toNat)) (iv := (a0.length : Int)) (A := (some ⟨b29, 0, none⟩)) (c := ((W ((a0.length : Int) + 2)).toNat)) (xs := (a0 ++ (List.replicate (W ((a0.length : Int) + 2)).toNat z32).drop a0.length)) z32 t38 (.agg #[.int .i64 t38.f0, .int .i64 t38.f1, .string t38.f2, .string t38.f3, .int .i64 t38.f4.f0, .int .i64 t38.f4.f1]) (by kernel_rfl) (by kernel_rfl) (by kernel_rfl) ho43 h44 h45 (by kernel_rfl) ?_) 
              intro w46 ho48 k47
              have k49 := Kp.own ho43 k42 k47
              refine r_fin 6 (by kernel_rfl) ?_
              refine q_then ?_
              refine w_seq (p := [1, 1, 1, 1]) (p0 := [1, 1, 1, 1, 0]) (p1 := [1, 1, 1, 1, 1]) (by kernel_rfl) ?_
              refine w_region (p := [1, 1, 1, 1, 0]) (id := 4) (by kernel_rfl) ?_
              refine r_vals 0 4 [.slice (some ⟨b29, 0, none⟩) ((W ((a0.length : Int) + 2)).toNat) ((W ((a0.length : Int) + 2)).toNat), .slice a0A a0.length a0c, .int .i64 (a0.length : Int), .int .i64 (W ((a0.length : Int) + 1))] (by kernel_rfl) (by kernel_rfl) ?_
              obtain ⟨t50, ht51, H⟩ := Option.bind_eq_some_iff.1 H
              refine r_do 4 (by kernel_rfl) (og_call (g := 52) (av := #[.int .i64 77]) (by kernel_rfl) ?_) 
              refine (dowelbook_actsMore_52.ok K 77 w46 t50 ht51).mono ?_
              rintro e w52 ⟨rfl, k53⟩
              refine ⟨_, rfl, ?_⟩
              have k54 := Kp.trans k49 k53 (fun _ h => h.elim)
              have ho55 := Ow.kpNo ho48 k53
              refine p_split (0 ≤ (W ((a0.length : Int) + 1))) (fun h56 => ?_) (fun h56 => ?_)
              · rw [if_pos h56] at H
                refine p_split ((W ((a0.length : Int) + 1)) < ((W ((a0.length : Int) + 2)).toNat : Int)) (fun h57 => ?_) (fun h57 => ?_)
                · rw [if_pos h57] at H
                  refine r_do 5 (by kernel_rfl) (ow_index (K := (K32 33)) (T := 22) (e := 33) (sz := 6) (x := (Operand.tmp 16)) (y := (Operand.tmp 19)) (k := .i64) (n := ((W ((a0.length : Int) + 2)).toNat)) (c := ((W ((a0.length : Int) + 2)).toNat)) (A := (some ⟨b29, 0, none⟩)) (xs := (stored (a0 ++ (List.replicate (W ((a0.length : Int) + 2)).toNat z32).drop a0.length) (a0.length : Int) t38)) (iv := (W ((a0.length : Int) + 1))) (by kernel_rfl) (by kernel_rfl) (by kernel_rfl) (by kernel_rfl) h56 h57 (Ow.rdNo ho55) (Ow.len ho55) (by kernel_rfl) ?_) 
                  refine r_do 6 (by kernel_rfl) (ow_storeE (K := (K32 33)) (T := 33) (x := (Operand.tmp 21)) (y := (Operand.tmp 20)) (off := 0) (n := ((W ((a0.length : Int) + 2)).toNat)) (iv := (W ((a0.length : Int) + 1))) (A := (some ⟨b29, 0, none⟩)) (c := ((W ((a0.length : Int) + 2)).toNat)) (xs := (stored (a0 ++ (List.replicate (W ((a0.length : Int) + 2)).toNat z32).drop a0.length) (a0.length : Int) t38)) z32 t50 (.agg #[.int .i64 t50.f0, .int .i64 t50.f1, .string t50.f2, .string t50.f3, .int .i64 t50.f4.f0, .int .i64 t50.f4.f1]) (by kernel_rfl) (by kernel_rfl) (by kernel_rfl) ho55 h56 h57 (by kernel_rfl) ?_) 
                  intro w58 ho60 k59
                  have k61 := Kp.own ho55 k54 k59
                  refine r_fin 7 (by kernel_rfl) ?_
                  refine q_then ?_
                  refine w_seq (p := [1, 1, 1, 1, 1]) (p0 := [1, 1, 1, 1, 1, 0]) (p1 := [1, 1, 1, 1, 1, 1]) (by kernel_rfl) ?_
                  refine w_region (p := [1, 1, 1, 1, 1, 0]) (id := 5) (by kernel_rfl) ?_
                  refine r_vals 0 3 [.slice (some ⟨b29, 0, none⟩) ((W ((a0.length : Int) + 2)).toNat) ((W ((a0.length : Int) + 2)).toNat), .slice a0A a0.length a0c, .int .i64 (a0.length : Int)] (by kernel_rfl) (by kernel_rfl) ?_
                  refine p_split ((a0.length : Int) ≤ ((W ((a0.length : Int) + 2)).toNat : Int)) (fun h62 => ?_) (fun h62 => ?_)
                  · rw [if_pos h62] at H
                    refine r_do 3 (by kernel_rfl) (og_ocut (T := 22) (e := 33) (sz := 6) (A := (some ⟨b29, 0, none⟩)) (n := ((W ((a0.length : Int) + 2)).toNat)) (c := ((W ((a0.length : Int) + 2)).toNat)) (x := (Operand.tmp 22)) (hi := (some (Operand.tmp 24))) (h := (a0.length : Int)) (kh := .i64) (by kernel_rfl) (by kernel_rfl) (by kernel_rfl) (by kernel_rfl) h44 (Int.le_trans h62 (Int.ofNat_le.2 (Ow.cap ho60))) ?_) 
                    refine r_vals 4 5 [.slice (some ⟨b29, 0, none⟩) (((a0.length : Int)).toNat) ((W ((a0.length : Int) + 2)).toNat)] (by kernel_rfl) (by kernel_rfl) ?_
                    refine r_fin 5 (by kernel_rfl) ?_
                    refine q_then ?_
                    refine w_ret (p := [1, 1, 1, 1, 1, 1]) (by kernel_rfl) ?_
                    obtain rfl := Option.some.inj H
                    refine HR _ _ (body_ret (vs := [.slice (some ⟨b29, 0, none⟩) (((a0.length : Int)).toNat) ((W ((a0.length : Int) + 2)).toNat)]) (rv_tmp (by kernel_rfl) rfl) rfl ?_)
                    exact ⟨(some ⟨b29, 0, none⟩), (W ((a0.length : Int) + 2)).toNat, (W ((a0.length : Int) + 2)).toNat, rfl, k61, ho60, (show ((a0.length : Int)).toNat ≤ (W ((a0.length : Int) + 2)).toNat by omega)⟩
                  · rw [if_neg h62] at H
                    cases H
                · rw [if_neg h57] at H
                  cases H
              · rw [if_neg h56] at H
                cases H
            · rw [if_neg h45] at H
              cases H
          · rw [if_neg h44] at H
            cases H
        · rw [if_neg h33] at H
          cases H
      · rw [if_neg h25] at H
        cases H
    · rw [if_neg h24] at H
      cases H
  · rw [if_neg h23] at H
    cases H
/-! ### dowel/action.parts -/
def action_parts_53.F1 (a1A : Option Addr) (a1 : List Int) (a1c : Nat) (b81 : Nat) (a0 : List S32) (a2 : Int) (x103 : Int) (x104 : Int) (u_ : Nat → Value) : Array Value := #[u_ 0, .slice a1A a1.length a1c, u_ 2, u_ 3, u_ 4, u_ 5, u_ 6, .slice (some ⟨b81, 0, none⟩) ((((rd z32 a0 a2)).f1).toNat) ((((rd z32 a0 a2)).f1).toNat), .int .i64 x103, .int .i64 x104, u_ 10, u_ 11, u_ 12, u_ 13, u_ 14, u_ 15, u_ 16, u_ 17, u_ 18, u_ 19, u_ 20, u_ 21, u_ 22, u_ 23, u_ 24, u_ 25, u_ 26, u_ 27, u_ 28, u_ 29, u_ 30, u_ 31, u_ 32, u_ 33, u_ 34, u_ 35, u_ 36, u_ 37, u_ 38, u_ 39, u_ 40, u_ 41, u_ 42, u_ 43, u_ 44, u_ 45, u_ 46, u_ 47]
def action_parts_53.F1_0 (b81 : Nat) (a0 : List S32) (a2 : Int) (u_ : Nat → Value) : Array Value := #[u_ 0, u_ 1, u_ 2, u_ 3, u_ 4, u_ 5, u_ 6, .slice (some ⟨b81, 0, none⟩) ((((rd z32 a0 a2)).f1).toNat) ((((rd z32 a0 a2)).f1).toNat), u_ 8, u_ 9, u_ 10, u_ 11, u_ 12, u_ 13, u_ 14, u_ 15, u_ 16, u_ 17, u_ 18, u_ 19, u_ 20, u_ 21, u_ 22, u_ 23, u_ 24, u_ 25, u_ 26, u_ 27, u_ 28, u_ 29, u_ 30, u_ 31, u_ 32, u_ 33, u_ 34, u_ 35, u_ 36, u_ 37, u_ 38, u_ 39, u_ 40, u_ 41, u_ 42, u_ 43, u_ 44, u_ 45, u_ 46, u_ 47]
def action_parts_53.b1 (a0 : List S32) (a2 : Int) (a1 : List Int) (next1 : List Int → Int → Int → Option (List Int)) (brk1_0 : List Int → Option (List Int)) (x102 : List Int) (x103 : Int) (x104 : Int) : Option (List Int) := if x104 ≥ 0 then (if 0 ≤ x104 then (if x104 < ((((rd z32 a0 a2)).f1).toNat : Int) then (if 0 ≤ (W (x103 - 1)) then (if (W (x103 - 1)) < (a1.length : Int) then (next1 (stored x102 x104 (W (x103 - 1))) (rd 0 a1 (W (x103 - 1))) (W (x104 - 1))) else none) else none) else none) else none) else (brk1_0 x102)
def action_parts_53.l1 (a0 : List S32) (a2 : Int) (a1 : List Int) (brk1_0 : List Int → Option (List Int)) : Nat → List Int → Int → Int → Option (List Int)
  | 0, _, _, _ => none
  | n_ + 1, x102, x103, x104 => action_parts_53.b1 a0 a2 a1 (action_parts_53.l1 a0 a2 a1 brk1_0 n_) brk1_0 x102 x103 x104
def action_parts_53.j0F (a0A : Option Addr) (a0 : List S32) (a0c : Nat) (a1A : Option Addr) (a1 : List Int) (a1c : Nat) (a2 : Int) (x70 : Bool) (u_ : Nat → Value) : Array Value := #[.slice a0A a0.length a0c, .slice a1A a1.length a1c, .int .i64 a2, u_ 3, u_ 4, u_ 5, u_ 6, u_ 7, u_ 8, u_ 9, u_ 10, u_ 11, u_ 12, u_ 13, u_ 14, u_ 15, u_ 16, u_ 17, u_ 18, u_ 19, u_ 20, u_ 21, .bool x70, u_ 23, u_ 24, u_ 25, u_ 26, u_ 27, u_ 28, u_ 29, u_ 30, u_ 31, u_ 32, u_ 33, u_ 34, u_ 35, u_ 36, u_ 37, u_ 38, u_ 39, u_ 40, u_ 41, u_ 42, u_ 43, u_ 44, u_ 45, u_ 46, u_ 47]
def action_parts_53.j0 (a2 : Int) (a0 : List S32) (a1 : List Int) (K : Nat) (x70 : Bool) : Option (List Int) := if x70 = true then (some ([] : List Int)) else (if 0 ≤ a2 then (if a2 < (a0.length : Int) then (if 0 ≤ (((rd z32 a0 a2)).f1) then (if (8 : Int) * (((rd z32 a0 a2)).f1) ≤ 281474976710656 then (if (((rd z32 a0 a2)).f1) ≤ 9223372036854775807 then (action_parts_53.l1 a0 a2 a1 (fun x120 => some x120) K (List.replicate (((rd z32 a0 a2)).f1).toNat 0) a2 (W (((((rd z32 a0 a2)).f1).toNat : Int) - 1))) else none) else none) else none) else none) else none)
def action_parts_53.f (K : Nat) (a0 : List S32) (a1 : List Int) (a2 : Int) : Option (List Int) := if 0 ≤ a2 then (if a2 < (a1.length : Int) then (if (rd 0 a1 a2) < 0 then (action_parts_53.j0 a2 a0 a1 K true) else (if a2 < (a0.length : Int) then (action_parts_53.j0 a2 a0 a1 K ((((rd z32 a0 a2)).f1) == 0)) else none)) else none) else none
def action_parts_53.R (r : List Int) (w : World) : Ending → World → Prop := fun e w' => ∃ (A0 : Option Addr) (n0 c0 : Nat), e = .returned (.slice A0 n0 c0) ∧ Kp No w w' ∧ Ow w (kInt .i64 3) w' A0 n0 c0 r
set_option maxRecDepth 20000 in
set_option maxHeartbeats 4000000 in
theorem action_parts_53.b1.ok (K : Nat) (a0A : Option Addr) (a0c : Nat) (a0 : List S32) (a1A : Option Addr) (a1c : Nat) (a1 : List Int) (a2 : Int) (w : World) (a0r : Rd No w a0A ((K32 33).cells a0)) (a0l : a0.length ≤ a0c) (a1r : Rd No w a1A ((kInt .i64 3).cells a1)) (a1l : a1.length ≤ a1c) (r : List Int) (b81 : Nat) {Q : Exit → Act → World → Prop} (HR : ∀ a w', bodyPost Try.prog Try.f53 (action_parts_53.R r w) .ret a w' → Q .ret a w') {next1 : List Int → Int → Int → Option (List Int)} {brk1_0 : List Int → Option (List Int)} (HN1 : ∀ (x102q : List Int) (x103q : Int) (x104q : Int) (u99q : Nat → Value) (w100q : World) (k101q : Kp No w w100q) (ho106q : Ow w (kInt .i64 3) w100q (some ⟨b81, 0, none⟩) ((((rd z32 a0 a2)).f1).toNat) ((((rd z32 a0 a2)).f1).toNat) x102q), next1 x102q x103q x104q = some r → Q .normal ⟨action_parts_53.F1 a1A a1 a1c b81 a0 a2 x103q x104q u99q, []⟩ w100q) (HX1_0 : ∀ (x120q : List Int) (u118q : Nat → Value) (w116q : World) (k117q : Kp No w w116q) (ho122q : Ow w (kInt .i64 3) w116q (some ⟨b81, 0, none⟩) ((((rd z32 a0 a2)).f1).toNat) ((((rd z32 a0 a2)).f1).toNat) x120q), brk1_0 x120q = some r → Q (.exit 0) ⟨action_parts_53.F1_0 b81 a0 a2 u118q, []⟩ w116q) (x102 : List Int) (x103 : Int) (x104 : Int) (u99 : Nat → Value) (w100 : World) (k101 : Kp No w w100) (ho106 : Ow w (kInt .i64 3) w100 (some ⟨b81, 0, none⟩) ((((rd z32 a0 a2)).f1).toNat) ((((rd z32 a0 a2)).f1).toNat) x102) (H : action_parts_53.b1 a0 a2 a1 next1 brk1_0 x102 x103 x104 = some r) : (cd Try.f53 [1, 1, 1, 1, 0, 1, 0, 0]).wp Try.prog Q ⟨action_parts_53.F1 a1A a1 a1c b81 a0 a2 x103 x104 u99, []⟩ w100 := by
  unfold action_parts_53.b1 at H
  refine w_seq (p := [1, 1, 1, 1, 0, 1, 0, 0]) (p0 := [1, 1, 1, 1, 0, 1, 0, 0, 0]) (p1 := [1, 1, 1, 1, 0, 1, 0, 0, 1]) (by kernel_rfl) ?_
  refine w_seq (p := [1, 1, 1, 1, 0, 1, 0, 0, 0]) (p0 := [1, 1, 1, 1, 0, 1, 0, 0, 0, 0]) (p1 := [1, 1, 1, 1, 0, 1, 0, 0, 0, 1]) (by kernel_rfl) ?_
  refine w_region (p := [1, 1, 1, 1, 0, 1, 0, 0, 0, 0]) (id := 6) (by kernel_rfl) ?_
  refine r_vals 0 2 [.int .i64 x104, .bool (decide (x104 ≥ 0))] (by kernel_rfl) (by kernel_rfl) ?_
  refine r_fin 2 (by kernel_rfl) ?_
  refine q_then ?_
  refine w_cond (p := [1, 1, 1, 1, 0, 1, 0, 0, 0, 1]) (p0 := [1, 1, 1, 1, 0, 1, 0, 0, 0, 1, 0]) (p1 := [1, 1, 1, 1, 0, 1, 0, 0, 0, 1, 1]) (c := (Operand.tmp 34)) (b := decide (x104 ≥ 0)) (by kernel_rfl) (by kernel_rfl) ?_ ?_
  · intro h_
    have h107 : x104 ≥ 0 := by simpa using h_
    clear h_
    rw [if_pos h107] at H
    refine w_skip (p := [1, 1, 1, 1, 0, 1, 0, 0, 0, 1, 0]) (by kernel_rfl) ?_
    refine q_then ?_
    refine w_seq (p := [1, 1, 1, 1, 0, 1, 0, 0, 1]) (p0 := [1, 1, 1, 1, 0, 1, 0, 0, 1, 0]) (p1 := [1, 1, 1, 1, 0, 1, 0, 0, 1, 1]) (by kernel_rfl) ?_
    refine w_block (p := [1, 1, 1, 1, 0, 1, 0, 0, 1, 0]) (p0 := [1, 1, 1, 1, 0, 1, 0, 0, 1, 0, 0]) (id := 1) (by kernel_rfl) ?_
    refine w_seq (p := [1, 1, 1, 1, 0, 1, 0, 0, 1, 0, 0]) (p0 := [1, 1, 1, 1, 0, 1, 0, 0, 1, 0, 0, 0]) (p1 := [1, 1, 1, 1, 0, 1, 0, 0, 1, 0, 0, 1]) (by kernel_rfl) ?_
    refine w_region (p := [1, 1, 1, 1, 0, 1, 0, 0, 1, 0, 0, 0]) (id := 8) (by kernel_rfl) ?_
    refine r_vals 0 4 [.slice (some ⟨b81, 0, none⟩) ((((rd z32 a0 a2)).f1).toNat) ((((rd z32 a0 a2)).f1).toNat), .int .i64 x104, .int .i64 x103, .int .i64 (W (x103 - 1))] (by kernel_rfl) (by kernel_rfl) ?_
    refine p_split (0 ≤ x104) (fun h108 => ?_) (fun h108 => ?_)
    · rw [if_pos h108] at H
      refine p_split (x104 < ((((rd z32 a0 a2)).f1).toNat : Int)) (fun h109 => ?_) (fun h109 => ?_)
      · rw [if_pos h109] at H
        refine r_do 4 (by kernel_rfl) (ow_index (K := (kInt .i64 3)) (T := 24) (e := 3) (sz := 1) (x := (Operand.tmp 37)) (y := (Operand.tmp 38)) (k := .i64) (n := ((((rd z32 a0 a2)).f1).toNat)) (c := ((((rd z32 a0 a2)).f1).toNat)) (A := (some ⟨b81, 0, none⟩)) (xs := x102) (iv := x104) (by kernel_rfl) (by kernel_rfl) (by kernel_rfl) (by kernel_rfl) h108 h109 (Ow.rdNo ho106) (Ow.len ho106) (by kernel_rfl) ?_) 
        refine r_do 5 (by kernel_rfl) (ow_storeE (K := (kInt .i64 3)) (T := 3) (x := (Operand.tmp 41)) (y := (Operand.tmp 40)) (off := 0) (n := ((((rd z32 a0 a2)).f1).toNat)) (iv := x104) (A := (some ⟨b81, 0, none⟩)) (c := ((((rd z32 a0 a2)).f1).toNat)) (xs := x102) 0 (W (x103 - 1)) (.int .i64 (W (x103 - 1))) (by kernel_rfl) (by kernel_rfl) (by kernel_rfl) ho106 h108 h109 (by kernel_rfl) ?_) 
        intro w110 ho112 k111
        have k113 := Kp.own ho106 k101 k111
        refine r_fin 6 (by kernel_rfl) ?_
        refine q_then ?_
        refine w_region (p := [1, 1, 1, 1, 0, 1, 0, 0, 1, 0, 0, 1]) (id := 9) (by kernel_rfl) ?_
        refine r_vals 0 3 [.slice a1A a1.length a1c, .int .i64 x103, .int .i64 (W (x103 - 1))] (by kernel_rfl) (by kernel_rfl) ?_
        refine p_split (0 ≤ (W (x103 - 1))) (fun h114 => ?_) (fun h114 => ?_)
        · rw [if_pos h114] at H
          refine p_split ((W (x103 - 1)) < (a1.length : Int)) (fun h115 => ?_) (fun h115 => ?_)
          · rw [if_pos h115] at H
            refine r_do 3 (by kernel_rfl) (ow_index (K := (kInt .i64 3)) (T := 24) (e := 3) (sz := 1) (x := (Operand.tmp 42)) (y := (Operand.tmp 44)) (k := .i64) (n := a1.length) (c := a1c) (A := a1A) (xs := a1) (iv := (W (x103 - 1))) (by kernel_rfl) (by kernel_rfl) (by kernel_rfl) (by kernel_rfl) h114 h115 (Rd.kp a1r k113 (fun _ _ h => h)) rfl (by kernel_rfl) ?_) 
            refine r_do 4 (by kernel_rfl) (ow_loadE (K := (kInt .i64 3)) (T := 3) (x := (Operand.tmp 45)) (off := 0) (A := a1A) (n := a1.length) (xs := a1) (iv := (W (x103 - 1))) 0 (.int .i64 (rd 0 a1 (W (x103 - 1)))) (by kernel_rfl) (by kernel_rfl) (Rd.kp a1r k113 (fun _ _ h => h)) rfl h114 h115 (by kernel_rfl) ?_) 
            refine r_vals 5 6 [.int .i64 (rd 0 a1 (W (x103 - 1)))] (by kernel_rfl) (by kernel_rfl) ?_
            refine r_fin 6 (by kernel_rfl) ?_
            refine q_in ?_
            refine q_then ?_
            refine w_region (p := [1, 1, 1, 1, 0, 1, 0, 0, 1, 1]) (id := 7) (by kernel_rfl) ?_
            refine r_vals 0 3 [.int .i64 x104, .int .i64 (W (x104 - 1)), .int .i64 (W (x104 - 1))] (by kernel_rfl) (by kernel_rfl) ?_
            refine r_fin 3 (by kernel_rfl) ?_
            refine q_into (action_parts_53.F1 a1A a1 a1c b81 a0 a2 (rd 0 a1 (W (x103 - 1))) (W (x104 - 1))) (by kernel_rfl) (fun u_ => ?_)
            exact HN1 (stored x102 x104 (W (x103 - 1))) (rd 0 a1 (W (x103 - 1))) (W (x104 - 1)) u_ w110 k113 ho112 H
          · rw [if_neg h115] at H
            cases H
        · rw [if_neg h114] at H
          cases H
      · rw [if_neg h109] at H
        cases H
    · rw [if_neg h108] at H
      cases H
  · intro h_
    have h107 : ¬ (x104 ≥ 0) := by simpa using h_
    clear h_
    rw [if_neg h107] at H
    refine w_exit (p := [1, 1, 1, 1, 0, 1, 0, 0, 0, 1, 1]) (id := 0) (by kernel_rfl) ?_
    refine q_then_x ?_
    refine q_into (action_parts_53.F1_0 b81 a0 a2) (by kernel_rfl) (fun u_ => ?_)
    exact HX1_0 x102 u_ w100 k101 ho106 H
set_option maxRecDepth 20000 in
set_option maxHeartbeats 4000000 in
theorem action_parts_53.l1.ok (K : Nat) (a0A : Option Addr) (a0c : Nat) (a0 : List S32) (a1A : Option Addr) (a1c : Nat) (a1 : List Int) (a2 : Int) (w : World) (a0r : Rd No w a0A ((K32 33).cells a0)) (a0l : a0.length ≤ a0c) (a1r : Rd No w a1A ((kInt .i64 3).cells a1)) (a1l : a1.length ≤ a1c) (r : List Int) (b81 : Nat) {Q : Exit → Act → World → Prop} (HR : ∀ a w', bodyPost Try.prog Try.f53 (action_parts_53.R r w) .ret a w' → Q .ret a w') {brk1_0 : List Int → Option (List Int)} (HX1_0 : ∀ (x120q : List Int) (u118q : Nat → Value) (w116q : World) (k117q : Kp No w w116q) (ho122q : Ow w (kInt .i64 3) w116q (some ⟨b81, 0, none⟩) ((((rd z32 a0 a2)).f1).toNat) ((((rd z32 a0 a2)).f1).toNat) x120q), brk1_0 x120q = some r → Q (.exit 0) ⟨action_parts_53.F1_0 b81 a0 a2 u118q, []⟩ w116q) : ∀ (n_ : Nat) (x102 : List Int) (x103 : Int) (x104 : Int) (u99 : Nat → Value) (w100 : World) (k101 : Kp No w w100) (ho106 : Ow w (kInt .i64 3) w100 (some ⟨b81, 0, none⟩) ((((rd z32 a0 a2)).f1).toNat) ((((rd z32 a0 a2)).f1).toNat) x102) (H : action_parts_53.l1 a0 a2 a1 brk1_0 n_ x102 x103 x104 = some r), Code.rounds Try.prog (cd Try.f53 [1, 1, 1, 1, 0, 1, 0, 0]) Q n_ ⟨action_parts_53.F1 a1A a1 a1c b81 a0 a2 x103 x104 u99, []⟩ w100
  | 0, _, _, _, _, _, _, _, H => by cases H
  | n_ + 1, x102, x103, x104, u99, w100, k101, ho106, H =>
    action_parts_53.b1.ok K a0A a0c a0 a1A a1c a1 a2 w a0r a0l a1r a1l r b81 (Q := Exit.then (Code.rounds Try.prog (cd Try.f53 [1, 1, 1, 1, 0, 1, 0, 0]) Q n_) Q) (fun a w' h_ => q_then_r (HR a w' h_)) (fun x0_ x1_ x2_ x3_ x4_ x5_ x6_ h_ => action_parts_53.l1.ok K a0A a0c a0 a1A a1c a1 a2 w a0r a0l a1r a1l r b81 HR HX1_0 n_ x0_ x1_ x2_ x3_ x4_ x5_ x6_ h_) (fun x0_ x1_ x2_ x3_ x4_ h_ => q_then_x (HX1_0 x0_ x1_ x2_ x3_ x4_ h_)) x102 x103 x104 u99 w100 k101 ho106 H
set_option maxRecDepth 20000 in
set_option maxHeartbeats 4000000 in
theorem action_parts_53.j0.ok (K : Nat) (a0A : Option Addr) (a0c : Nat) (a0 : List S32) (a1A : Option Addr) (a1c : Nat) (a1 : List Int) (a2 : Int) (w : World) (a0r : Rd No w a0A ((K32 33).cells a0)) (a0l : a0.length ≤ a0c) (a1r : Rd No w a1A ((kInt .i64 3).cells a1)) (a1l : a1.length ≤ a1c) (r : List Int) {Q : Exit → Act → World → Prop}  (HR : ∀ a w', bodyPost Try.prog Try.f53 (action_parts_53.R r w) .ret a w' → Q .ret a w')  (x70 : Bool) (u69 : Nat → Value) (w67 : World) (k68 : Kp No w w67)  (H : action_parts_53.j0 a2 a0 a1 K x70 = some r) : (cd Try.f53 [1, 0, 1]).wp Try.prog (Exit.then (fun a w => (cd Try.f53 [1, 1]).wp Try.prog Q a w) Q) ⟨action_parts_53.j0F a0A a0 a0c a1A a1 a1c a2 x70 u69, []⟩ w67 := by
  unfold action_parts_53.j0 at H
  refine w_cond (p := [1, 0, 1]) (p0 := [1, 0, 1, 0]) (p1 := [1, 0, 1, 1]) (c := (Operand.tmp 22)) (b := x70) (by kernel_rfl) (by kernel_rfl) ?_ ?_
  · intro h_
    have h71 : x70 = true := h_
    clear h_
    rw [if_pos h71] at H
    refine w_seq (p := [1, 0, 1, 0]) (p0 := [1, 0, 1, 0, 0]) (p1 := [1, 0, 1, 0, 1]) (by kernel_rfl) ?_
    refine w_region (p := [1, 0, 1, 0, 0]) (id := 2) (by kernel_rfl) ?_
    refine r_vals 0 1 [.slice none 0 0] (by kernel_rfl) (by kernel_rfl) ?_
    refine r_fin 1 (by kernel_rfl) ?_
    refine q_then ?_
    refine w_ret (p := [1, 0, 1, 0, 1]) (by kernel_rfl) ?_
    refine q_then_r ?_
    obtain rfl := Option.some.inj H
    refine HR _ _ (body_ret (vs := [.slice none 0 0]) (rv_tmp (by kernel_rfl) rfl) rfl ?_)
    exact ⟨none, 0, 0, rfl, k68, (Ow.nil w (kInt .i64 3) w67)⟩
  · intro h_
    have h71 : ¬ (x70 = true) := by rw [h_]; decide
    clear h_
    rw [if_neg h71] at H
    refine w_skip (p := [1, 0, 1, 1]) (by kernel_rfl) ?_
    refine q_then ?_
    refine w_seq (p := [1, 1]) (p0 := [1, 1, 0]) (p1 := [1, 1, 1]) (by kernel_rfl) ?_
    refine w_region (p := [1, 1, 0]) (id := 3) (by kernel_rfl) ?_
    refine r_vals 0 2 [.slice a0A a0.length a0c, .int .i64 a2] (by kernel_rfl) (by kernel_rfl) ?_
    refine p_split (0 ≤ a2) (fun h73 => ?_) (fun h73 => ?_)
    · rw [if_pos h73] at H
      refine p_split (a2 < (a0.length : Int)) (fun h74 => ?_) (fun h74 => ?_)
      · rw [if_pos h74] at H
        refine r_do 2 (by kernel_rfl) (ow_index (K := (K32 33)) (T := 22) (e := 33) (sz := 6) (x := (Operand.tmp 23)) (y := (Operand.tmp 24)) (k := .i64) (n := a0.length) (c := a0c) (A := a0A) (xs := a0) (iv := a2) (by kernel_rfl) (by kernel_rfl) (by kernel_rfl) (by kernel_rfl) h73 h74 (Rd.kp a0r k68 (fun _ _ h => h)) rfl (by kernel_rfl) ?_) 
        refine r_vals 3 4 [.pointer (some ((eaOf a0A (a2.toNat * 6)).add 1))] (by kernel_rfl) (by kernel_rfl) ?_
        refine r_do 4 (by kernel_rfl) (ow_loadE (K := (K32 33)) (T := 3) (x := (Operand.tmp 26)) (off := 1) (A := a0A) (n := a0.length) (xs := a0) (iv := a2) z32 (.int .i64 (((rd z32 a0 a2)).f1)) (by kernel_rfl) (by kernel_rfl) (Rd.kp a0r k68 (fun _ _ h => h)) rfl h73 h74 (by kernel_rfl) ?_) 
        refine p_split (0 ≤ (((rd z32 a0 a2)).f1)) (fun h75 => ?_) (fun h75 => ?_)
        · rw [if_pos h75] at H
          refine p_split ((8 : Int) * (((rd z32 a0 a2)).f1) ≤ 281474976710656) (fun h76 => ?_) (fun h76 => ?_)
          · rw [if_pos h76] at H
            refine p_split ((((rd z32 a0 a2)).f1) ≤ 9223372036854775807) (fun h77 => ?_) (fun h77 => ?_)
            · rw [if_pos h77] at H
              refine r_do 5 (by kernel_rfl) (ow_make (K := (kInt .i64 3)) (w0 := w) (T := 24) (x := (Operand.tmp 27)) (y := (Operand.tmp 27)) (kl := .i64) (kc := .i64) (l := (((rd z32 a0 a2)).f1)) (c := (((rd z32 a0 a2)).f1)) 0 8 (by kernel_rfl) (by kernel_rfl) (by kernel_rfl) (by kernel_rfl) (by kernel_rfl) (by kernel_rfl) h75 (Int.le_refl _) h76 h77 k68 ?_) 
              intro b81 w78 e82 ho80 k79
              clear e82
              have k84 := Kp.trans k68 k79 (fun _ h => h.elim)
              refine r_vals 6 7 [.slice (some ⟨b81, 0, none⟩) ((((rd z32 a0 a2)).f1).toNat) ((((rd z32 a0 a2)).f1).toNat)] (by kernel_rfl) (by kernel_rfl) ?_
              refine r_fin 7 (by kernel_rfl) ?_
              refine q_then ?_
              refine w_seq (p := [1, 1, 1]) (p0 := [1, 1, 1, 0]) (p1 := [1, 1, 1, 1]) (by kernel_rfl) ?_
              refine w_region (p := [1, 1, 1, 0]) (id := 4) (by kernel_rfl) ?_
              refine r_vals 0 2 [.int .i64 a2, .int .i64 a2] (by kernel_rfl) (by kernel_rfl) ?_
              refine r_fin 2 (by kernel_rfl) ?_
              refine q_then ?_
              refine w_seq (p := [1, 1, 1, 1]) (p0 := [1, 1, 1, 1, 0]) (p1 := [1, 1, 1, 1, 1]) (by kernel_rfl) ?_
              refine w_seq (p := [1, 1, 1, 1, 0]) (p0 := [1, 1, 1, 1, 0, 0]) (p1 := [1, 1, 1, 1, 0, 1]) (by kernel_rfl) ?_
              refine w_region (p := [1, 1, 1, 1, 0, 0]) (id := 5) (by kernel_rfl) ?_
              refine r_vals 0 4 [.slice (some ⟨b81, 0, none⟩) ((((rd z32 a0 a2)).f1).toNat) ((((rd z32 a0 a2)).f1).toNat), .int .i64 ((((rd z32 a0 a2)).f1).toNat : Int), .int .i64 (W (((((rd z32 a0 a2)).f1).toNat : Int) - 1)), .int .i64 (W (((((rd z32 a0 a2)).f1).toNat : Int) - 1))] (by kernel_rfl) (by kernel_rfl) ?_
              refine r_fin 4 (by kernel_rfl) ?_
              refine q_then ?_
              refine w_block (p := [1, 1, 1, 1, 0, 1]) (p0 := [1, 1, 1, 1, 0, 1, 0]) (id := 0) (by kernel_rfl) ?_
              refine w_into (action_parts_53.F1 a1A a1 a1c b81 a0 a2 a2 (W (((((rd z32 a0 a2)).f1).toNat : Int) - 1))) (by kernel_rfl) (fun u_ => ?_)
              refine w_loop (p := [1, 1, 1, 1, 0, 1, 0]) (p0 := [1, 1, 1, 1, 0, 1, 0, 0]) K (by kernel_rfl) ?_
              refine action_parts_53.l1.ok K a0A a0c a0 a1A a1c a1 a2 w a0r a0l a1r a1l r b81 (fun a w' h_ => q_in_r (q_then_r (HR a w' h_))) ?_ K (List.replicate (((rd z32 a0 a2)).f1).toNat 0) a2 (W (((((rd z32 a0 a2)).f1).toNat : Int) - 1)) u_ w78 k84 ho80 H
              intro x120 u118 w116 k117 ho122 H
              try dsimp only at H
              refine q_in_hit ?_
              refine q_then ?_
              refine w_seq (p := [1, 1, 1, 1, 1]) (p0 := [1, 1, 1, 1, 1, 0]) (p1 := [1, 1, 1, 1, 1, 1]) (by kernel_rfl) ?_
              refine w_region (p := [1, 1, 1, 1, 1, 0]) (id := 10) (by kernel_rfl) ?_
              refine r_vals 0 2 [.slice (some ⟨b81, 0, none⟩) ((((rd z32 a0 a2)).f1).toNat) ((((rd z32 a0 a2)).f1).toNat), .slice (some ⟨b81, 0, none⟩) ((((rd z32 a0 a2)).f1).toNat) ((((rd z32 a0 a2)).f1).toNat)] (by kernel_rfl) (by kernel_rfl) ?_
              refine r_fin 2 (by kernel_rfl) ?_
              refine q_then ?_
              refine w_ret (p := [1, 1, 1, 1, 1, 1]) (by kernel_rfl) ?_
              obtain rfl := Option.some.inj H
              refine HR _ _ (body_ret (vs := [.slice (some ⟨b81, 0, none⟩) ((((rd z32 a0 a2)).f1).toNat) ((((rd z32 a0 a2)).f1).toNat)]) (rv_tmp (by kernel_rfl) rfl) rfl ?_)
              exact ⟨(some ⟨b81, 0, none⟩), (((rd z32 a0 a2)).f1).toNat, (((rd z32 a0 a2)).f1).toNat, rfl, k117, ho122⟩
            · rw [if_neg h77] at H
              cases H
          · rw [if_neg h76] at H
            cases H
        · rw [if_neg h75] at H
          cases H
      · rw [if_neg h74] at H
        cases H
    · rw [if_neg h73] at H
      cases H
set_option maxRecDepth 20000 in
set_option maxHeartbeats 4000000 in
theorem action_parts_53.ok (K : Nat) (a0A : Option Addr) (a0c : Nat) (a0 : List S32) (a1A : Option Addr) (a1c : Nat) (a1 : List Int) (a2 : Int) (a0n : Nat) (a1n : Nat) (w : World) (a0r : Rd No w a0A ((K32 33).cells a0)) (a0l : a0n ≤ a0c) (a1r : Rd No w a1A ((kInt .i64 3).cells a1)) (a1l : a1n ≤ a1c) (a0e : a0.length = a0n) (a1e : a1.length = a1n) (r : List Int) (H : action_parts_53.f K a0 a1 a2 = some r) : Calls Try.prog 53 #[.slice a0A a0n a0c, .slice a1A a1n a1c, .int .i64 a2] w (action_parts_53.R r w) := by
  subst a0e
  subst a1e
  refine calls_cd (t := #[.slice a0A a0.length a0c, .slice a1A a1.length a1c, .int .i64 a2, undef, undef, undef, undef, undef, undef, undef, undef, undef, undef, undef, undef, undef, undef, undef, undef, undef, undef, undef, undef, undef, undef, undef, undef, undef, undef, undef, undef, undef, undef, undef, undef, undef, undef, undef, undef, undef, undef, undef, undef, undef, undef, undef, undef, undef]) Try.func53 (by kernel_rfl) (by kernel_rfl) ?_
  unfold action_parts_53.f at H
  have HR : ∀ a w', bodyPost Try.prog Try.f53 (action_parts_53.R r w) .ret a w' → bodyPost Try.prog Try.f53 (action_parts_53.R r w) .ret a w' := fun _ _ h => h
  refine w_seq (p := []) (p0 := [0]) (p1 := [1]) (by kernel_rfl) ?_
  refine w_region (p := [0]) (id := 0) (by kernel_rfl) ?_
  refine r_vals 0 1 [.slice none 0 0] (by kernel_rfl) (by kernel_rfl) ?_
  refine r_fin 1 (by kernel_rfl) ?_
  refine q_then ?_
  refine w_seq (p := [1]) (p0 := [1, 0]) (p1 := [1, 1]) (by kernel_rfl) ?_
  refine w_seq (p := [1, 0]) (p0 := [1, 0, 0]) (p1 := [1, 0, 1]) (by kernel_rfl) ?_
  refine w_region (p := [1, 0, 0]) (id := 1) (by kernel_rfl) ?_
  refine r_vals 0 2 [.slice a1A a1.length a1c, .int .i64 a2] (by kernel_rfl) (by kernel_rfl) ?_
  refine p_split (0 ≤ a2) (fun h63 => ?_) (fun h63 => ?_)
  · rw [if_pos h63] at H
    refine p_split (a2 < (a1.length : Int)) (fun h64 => ?_) (fun h64 => ?_)
    · rw [if_pos h64] at H
      refine r_do 2 (by kernel_rfl) (ow_index (K := (kInt .i64 3)) (T := 24) (e := 3) (sz := 1) (x := (Operand.tmp 10)) (y := (Operand.tmp 11)) (k := .i64) (n := a1.length) (c := a1c) (A := a1A) (xs := a1) (iv := a2) (by kernel_rfl) (by kernel_rfl) (by kernel_rfl) (by kernel_rfl) h63 h64 (Rd.kp a1r (Kp.refl No w) (fun _ _ h => h)) rfl (by kernel_rfl) ?_) 
      refine r_do 3 (by kernel_rfl) (ow_loadE (K := (kInt .i64 3)) (T := 3) (x := (Operand.tmp 12)) (off := 0) (A := a1A) (n := a1.length) (xs := a1) (iv := a2) 0 (.int .i64 (rd 0 a1 a2)) (by kernel_rfl) (by kernel_rfl) (Rd.kp a1r (Kp.refl No w) (fun _ _ h => h)) rfl h63 h64 (by kernel_rfl) ?_) 
      refine r_vals 4 6 [.bool (decide ((rd 0 a1 a2) < 0)), .bool (decide ((rd 0 a1 a2) < 0))] (by kernel_rfl) (by kernel_rfl) ?_
      refine b_split (decide ((rd 0 a1 a2) < 0)) (fun h_ => ?_) (fun h_ => ?_)
      · have h65 : (rd 0 a1 a2) < 0 := by simpa using h_
        rw [if_pos h65] at H
        rw [h_]
        clear h_
        refine r_vals 6 13 [undef, undef, undef, undef, undef, undef, .bool true] (by kernel_rfl) (by kernel_rfl) ?_
        refine r_fin 13 (by kernel_rfl) ?_
        refine q_then ?_
        refine w_into (action_parts_53.j0F a0A a0 a0c a1A a1 a1c a2 true) (by kernel_rfl) (fun u_ => ?_)
        exact action_parts_53.j0.ok K a0A a0c a0 a1A a1c a1 a2 w a0r a0l a1r a1l r  HR  true u_ w (Kp.refl No w)  H
      · have h65 : ¬ ((rd 0 a1 a2) < 0) := by simpa using h_
        rw [if_neg h65] at H
        rw [h_]
        clear h_
        refine r_vals 6 8 [.slice a0A a0.length a0c, .int .i64 a2] (by kernel_rfl) (by kernel_rfl) ?_
        refine p_split (a2 < (a0.length : Int)) (fun h66 => ?_) (fun h66 => ?_)
        · rw [if_pos h66] at H
          refine r_do 8 (by kernel_rfl) (ow_index (K := (K32 33)) (T := 22) (e := 33) (sz := 6) (x := (Operand.tmp 16)) (y := (Operand.tmp 17)) (k := .i64) (n := a0.length) (c := a0c) (A := a0A) (xs := a0) (iv := a2) (by kernel_rfl) (by kernel_rfl) (by kernel_rfl) (by kernel_rfl) h63 h66 (Rd.kp a0r (Kp.refl No w) (fun _ _ h => h)) rfl (by kernel_rfl) ?_) 
          refine r_vals 9 10 [.pointer (some ((eaOf a0A (a2.toNat * 6)).add 1))] (by kernel_rfl) (by kernel_rfl) ?_
          refine r_do 10 (by kernel_rfl) (ow_loadE (K := (K32 33)) (T := 3) (x := (Operand.tmp 19)) (off := 1) (A := a0A) (n := a0.length) (xs := a0) (iv := a2) z32 (.int .i64 (((rd z32 a0 a2)).f1)) (by kernel_rfl) (by kernel_rfl) (Rd.kp a0r (Kp.refl No w) (fun _ _ h => h)) rfl h63 h66 (by kernel_rfl) ?_) 
          refine r_vals 11 13 [.bool ((((rd z32 a0 a2)).f1) == 0), .bool ((((rd z32 a0 a2)).f1) == 0)] (by kernel_rfl) (by kernel_rfl) ?_
          refine r_fin 13 (by kernel_rfl) ?_
          refine q_then ?_
          refine w_into (action_parts_53.j0F a0A a0 a0c a1A a1 a1c a2 ((((rd z32 a0 a2)).f1) == 0)) (by kernel_rfl) (fun u_ => ?_)
          exact action_parts_53.j0.ok K a0A a0c a0 a1A a1c a1 a2 w a0r a0l a1r a1l r  HR  ((((rd z32 a0 a2)).f1) == 0) u_ w (Kp.refl No w)  H
        · rw [if_neg h66] at H
          cases H
    · rw [if_neg h64] at H
      cases H
  · rw [if_neg h63] at H
    cases H
/-! ### dowel/action.begins -/
def action_begins_54.F3 (b129 : Nat) (a0 : List S32) (x265 : Int) (b273 : Nat) (x343 : Int) (x344 : Int) (a0A : Option Addr) (a0c : Nat) (u_ : Nat → Value) : Array Value := #[u_ 0, u_ 1, u_ 2, .slice (some ⟨b129, 0, none⟩) (((a0.length : Int)).toNat) (((a0.length : Int)).toNat), .int .i64 x265, .pointer (some ⟨b273, 0, none⟩), .int .i64 x343, .int .i64 x344, u_ 8, u_ 9, u_ 10, .slice a0A a0.length a0c, .int .i64 (a0.length : Int), .int .i64 x265, u_ 14, u_ 15, u_ 16, u_ 17, u_ 18, u_ 19, u_ 20, u_ 21, u_ 22, u_ 23, u_ 24, u_ 25, u_ 26, u_ 27, u_ 28, u_ 29, u_ 30, u_ 31, u_ 32, u_ 33, u_ 34, u_ 35, u_ 36, u_ 37, u_ 38, u_ 39, u_ 40, u_ 41, u_ 42, u_ 43, u_ 44, u_ 45, u_ 46, u_ 47, u_ 48, u_ 49, u_ 50, u_ 51, u_ 52, u_ 53, u_ 54, u_ 55, u_ 56, u_ 57]
def action_begins_54.F3_2 (b129 : Nat) (a0 : List S32) (x265 : Int) (x384 : Int) (a0A : Option Addr) (a0c : Nat) (u_ : Nat → Value) : Array Value := #[u_ 0, u_ 1, u_ 2, .slice (some ⟨b129, 0, none⟩) (((a0.length : Int)).toNat) (((a0.length : Int)).toNat), .int .i64 x265, u_ 5, .int .i64 x384, u_ 7, u_ 8, u_ 9, u_ 10, .slice a0A a0.length a0c, .int .i64 (a0.length : Int), .int .i64 x265, u_ 14, u_ 15, u_ 16, u_ 17, u_ 18, u_ 19, u_ 20, u_ 21, u_ 22, u_ 23, u_ 24, u_ 25, u_ 26, u_ 27, u_ 28, u_ 29, u_ 30, u_ 31, u_ 32, u_ 33, u_ 34, u_ 35, u_ 36, u_ 37, u_ 38, u_ 39, u_ 40, u_ 41, u_ 42, u_ 43, u_ 44, u_ 45, u_ 46, u_ 47, u_ 48, u_ 49, u_ 50, u_ 51, u_ 52, u_ 53, u_ 54, u_ 55, u_ 56, u_ 57]
def action_begins_54.j4F (b129 : Nat) (a0 : List S32) (x265 : Int) (b273 : Nat) (x343 : Int) (x344 : Int) (a0A : Option Addr) (a0c : Nat) (x355 : Bool) (u_ : Nat → Value) : Array Value := #[u_ 0, u_ 1, u_ 2, .slice (some ⟨b129, 0, none⟩) (((a0.length : Int)).toNat) (((a0.length : Int)).toNat), .int .i64 x265, .pointer (some ⟨b273, 0, none⟩), .int .i64 x343, .int .i64 x344, u_ 8, u_ 9, u_ 10, .slice a0A a0.length a0c, .int .i64 (a0.length : Int), .int .i64 x265, u_ 14, u_ 15, u_ 16, u_ 17, u_ 18, u_ 19, u_ 20, u_ 21, u_ 22, u_ 23, u_ 24, u_ 25, u_ 26, u_ 27, u_ 28, u_ 29, u_ 30, u_ 31, u_ 32, u_ 33, u_ 34, .bool x355, u_ 36, u_ 37, u_ 38, u_ 39, u_ 40, u_ 41, u_ 42, u_ 43, u_ 44, u_ 45, u_ 46, u_ 47, u_ 48, u_ 49, u_ 50, u_ 51, u_ 52, u_ 53, u_ 54, u_ 55, u_ 56, u_ 57]
def action_begins_54.j5F (b129 : Nat) (a0 : List S32) (x265 : Int) (b273 : Nat) (x264 : List Int) (x343 : Int) (x344 : Int) (a0A : Option Addr) (a0c : Nat) (x367 : Bool) (u_ : Nat → Value) : Array Value := #[u_ 0, u_ 1, u_ 2, .slice (some ⟨b129, 0, none⟩) (((a0.length : Int)).toNat) (((a0.length : Int)).toNat), .int .i64 x265, .pointer (some ⟨b273, 0, none⟩), .int .i64 (rd 0 x264 (W (x343 - 1))), .int .i64 x344, u_ 8, u_ 9, u_ 10, .slice a0A a0.length a0c, .int .i64 (a0.length : Int), .int .i64 x265, u_ 14, u_ 15, u_ 16, u_ 17, u_ 18, u_ 19, u_ 20, u_ 21, u_ 22, u_ 23, u_ 24, u_ 25, u_ 26, u_ 27, u_ 28, u_ 29, u_ 30, u_ 31, u_ 32, u_ 33, u_ 34, u_ 35, u_ 36, u_ 37, u_ 38, u_ 39, u_ 40, u_ 41, u_ 42, u_ 43, u_ 44, u_ 45, u_ 46, u_ 47, u_ 48, u_ 49, u_ 50, .bool x367, u_ 52, u_ 53, u_ 54, u_ 55, u_ 56, u_ 57]
def action_begins_54.j6F (b129 : Nat) (a0 : List S32) (x265 : Int) (b273 : Nat) (x376 : Int) (x344 : Int) (a0A : Option Addr) (a0c : Nat) (u_ : Nat → Value) : Array Value := #[u_ 0, u_ 1, u_ 2, .slice (some ⟨b129, 0, none⟩) (((a0.length : Int)).toNat) (((a0.length : Int)).toNat), .int .i64 x265, .pointer (some ⟨b273, 0, none⟩), .int .i64 x376, .int .i64 x344, u_ 8, u_ 9, u_ 10, .slice a0A a0.length a0c, .int .i64 (a0.length : Int), .int .i64 x265, u_ 14, u_ 15, u_ 16, u_ 17, u_ 18, u_ 19, u_ 20, u_ 21, u_ 22, u_ 23, u_ 24, u_ 25, u_ 26, u_ 27, u_ 28, u_ 29, u_ 30, u_ 31, u_ 32, u_ 33, u_ 34, u_ 35, u_ 36, u_ 37, u_ 38, u_ 39, u_ 40, u_ 41, u_ 42, u_ 43, u_ 44, u_ 45, u_ 46, u_ 47, u_ 48, u_ 49, u_ 50, u_ 51, u_ 52, u_ 53, u_ 54, u_ 55, u_ 56, u_ 57]
def action_begins_54.j6 (next3 : Int → Int → Option (List Int)) (x344 : Int) (x376 : Int) : Option (List Int) := next3 x376 (W (x344 + 1))
def action_begins_54.j5 (next3 : Int → Int → Option (List Int)) (x344 : Int) (x264 : List Int) (x343 : Int) (x367 : Bool) : Option (List Int) := if x367 = true then (action_begins_54.j6 next3 x344 (-1)) else (action_begins_54.j6 next3 x344 (rd 0 x264 (W (x343 - 1))))
def action_begins_54.j4 (x343 : Int) (a0 : List S32) (x264 : List Int) (next3 : Int → Int → Option (List Int)) (x344 : Int) (x265 : Int) (brk3_2 : Int → Option (List Int)) (x355 : Bool) : Option (List Int) := if x355 = true then (if 0 ≤ (W (x343 - 1)) then (if (W (x343 - 1)) < (((a0.length : Int)).toNat : Int) then (if (rd 0 x264 (W (x343 - 1))) = 0 then (action_begins_54.j5 next3 x344 x264 x343 (decide (x344 < (W ((((rd z32 a0 x265)).f1) - 1))))) else (action_begins_54.j5 next3 x344 x264 x343 false)) else none) else none) else (brk3_2 x343)
def action_begins_54.b3 (a0 : List S32) (x265 : Int) (x264 : List Int) (next3 : Int → Int → Option (List Int)) (brk3_2 : Int → Option (List Int)) (x343 : Int) (x344 : Int) : Option (List Int) := if x344 < (((rd z32 a0 x265)).f1) then (action_begins_54.j4 x343 a0 x264 next3 x344 x265 brk3_2 (decide (x343 > 0))) else (action_begins_54.j4 x343 a0 x264 next3 x344 x265 brk3_2 false)
def action_begins_54.l3 (a0 : List S32) (x265 : Int) (x264 : List Int) (brk3_2 : Int → Option (List Int)) : Nat → Int → Int → Option (List Int)
  | 0, _, _ => none
  | n_ + 1, x343, x344 => action_begins_54.b3 a0 x265 x264 (action_begins_54.l3 a0 x265 x264 brk3_2 n_) brk3_2 x343 x344
def action_begins_54.F0 (b129 : Nat) (a0 : List S32) (a0A : Option Addr) (a0c : Nat) (x265 : Int) (u_ : Nat → Value) : Array Value := #[u_ 0, u_ 1, u_ 2, .slice (some ⟨b129, 0, none⟩) (((a0.length : Int)).toNat) (((a0.length : Int)).toNat), u_ 4, u_ 5, u_ 6, u_ 7, u_ 8, u_ 9, u_ 10, .slice a0A a0.length a0c, .int .i64 (a0.length : Int), .int .i64 x265, u_ 14, u_ 15, u_ 16, u_ 17, u_ 18, u_ 19, u_ 20, u_ 21, u_ 22, u_ 23, u_ 24, u_ 25, u_ 26, u_ 27, u_ 28, u_ 29, u_ 30, u_ 31, u_ 32, u_ 33, u_ 34, u_ 35, u_ 36, u_ 37, u_ 38, u_ 39, u_ 40, u_ 41, u_ 42, u_ 43, u_ 44, u_ 45, u_ 46, u_ 47, u_ 48, u_ 49, u_ 50, u_ 51, u_ 52, u_ 53, u_ 54, u_ 55, u_ 56, u_ 57]
def action_begins_54.F0_0 (b129 : Nat) (a0 : List S32) (u_ : Nat → Value) : Array Value := #[u_ 0, u_ 1, u_ 2, .slice (some ⟨b129, 0, none⟩) (((a0.length : Int)).toNat) (((a0.length : Int)).toNat), u_ 4, u_ 5, u_ 6, u_ 7, u_ 8, u_ 9, u_ 10, u_ 11, u_ 12, u_ 13, u_ 14, u_ 15, u_ 16, u_ 17, u_ 18, u_ 19, u_ 20, u_ 21, u_ 22, u_ 23, u_ 24, u_ 25, u_ 26, u_ 27, u_ 28, u_ 29, u_ 30, u_ 31, u_ 32, u_ 33, u_ 34, u_ 35, u_ 36, u_ 37, u_ 38, u_ 39, u_ 40, u_ 41, u_ 42, u_ 43, u_ 44, u_ 45, u_ 46, u_ 47, u_ 48, u_ 49, u_ 50, u_ 51, u_ 52, u_ 53, u_ 54, u_ 55, u_ 56, u_ 57]
def action_begins_54.j1F (b129 : Nat) (a0 : List S32) (x265 : Int) (b273 : Nat) (a0A : Option Addr) (a0c : Nat) (x289 : Bool) (u_ : Nat → Value) : Array Value := #[u_ 0, u_ 1, u_ 2, .slice (some ⟨b129, 0, none⟩) (((a0.length : Int)).toNat) (((a0.length : Int)).toNat), .int .i64 x265, .pointer (some ⟨b273, 0, none⟩), .int .i64 x265, u_ 7, u_ 8, u_ 9, u_ 10, .slice a0A a0.length a0c, .int .i64 (a0.length : Int), .int .i64 x265, u_ 14, u_ 15, u_ 16, u_ 17, u_ 18, u_ 19, u_ 20, u_ 21, u_ 22, u_ 23, u_ 24, u_ 25, u_ 26, .bool x289, u_ 28, u_ 29, u_ 30, u_ 31, u_ 32, u_ 33, u_ 34, u_ 35, u_ 36, u_ 37, u_ 38, u_ 39, u_ 40, u_ 41, u_ 42, u_ 43, u_ 44, u_ 45, u_ 46, u_ 47, u_ 48, u_ 49, u_ 50, u_ 51, u_ 52, u_ 53, u_ 54, u_ 55, u_ 56, u_ 57]
def action_begins_54.j2F (b129 : Nat) (a0 : List S32) (x265 : Int) (b273 : Nat) (x298 : Int) (a0A : Option Addr) (a0c : Nat) (u_ : Nat → Value) : Array Value := #[u_ 0, u_ 1, u_ 2, .slice (some ⟨b129, 0, none⟩) (((a0.length : Int)).toNat) (((a0.length : Int)).toNat), .int .i64 x265, .pointer (some ⟨b273, 0, none⟩), .int .i64 x298, u_ 7, u_ 8, u_ 9, u_ 10, .slice a0A a0.length a0c, .int .i64 (a0.length : Int), .int .i64 x265, u_ 14, u_ 15, u_ 16, u_ 17, u_ 18, u_ 19, u_ 20, u_ 21, u_ 22, u_ 23, u_ 24, u_ 25, u_ 26, u_ 27, u_ 28, u_ 29, u_ 30, u_ 31, u_ 32, u_ 33, u_ 34, u_ 35, u_ 36, u_ 37, u_ 38, u_ 39, u_ 40, u_ 41, u_ 42, u_ 43, u_ 44, u_ 45, u_ 46, u_ 47, u_ 48, u_ 49, u_ 50, u_ 51, u_ 52, u_ 53, u_ 54, u_ 55, u_ 56, u_ 57]
def action_begins_54.j2 (a0 : List S32) (x265 : Int) (x264 : List Int) (next0 : List Int → Int → Option (List Int)) (K : Nat) (x298 : Int) : Option (List Int) := action_begins_54.l3 a0 x265 x264 (fun x384 => if 0 ≤ x265 then (if x265 < (((a0.length : Int)).toNat : Int) then (next0 (stored x264 x265 x384) (W (x265 + 1))) else none) else none) K x298 0
def action_begins_54.j1 (a0 : List S32) (x265 : Int) (x264 : List Int) (next0 : List Int → Int → Option (List Int)) (K : Nat) (x289 : Bool) : Option (List Int) := if x289 = true then (action_begins_54.j2 a0 x265 x264 next0 K (-1)) else (action_begins_54.j2 a0 x265 x264 next0 K x265)
def action_begins_54.b0 (a0 : List S32) (K : Nat) (next0 : List Int → Int → Option (List Int)) (brk0_0 : List Int → Option (List Int)) (x264 : List Int) (x265 : Int) : Option (List Int) := if x265 < (a0.length : Int) then (if 0 ≤ x265 then (if (((rd z32 a0 x265)).f1) < 0 then (action_begins_54.j1 a0 x265 x264 next0 K true) else (action_begins_54.j1 a0 x265 x264 next0 K (decide ((((rd z32 a0 x265)).f1) > x265)))) else none) else (brk0_0 x264)
def action_begins_54.l0 (a0 : List S32) (K : Nat) (brk0_0 : List Int → Option (List Int)) : Nat → List Int → Int → Option (List Int)
  | 0, _, _ => none
  | n_ + 1, x264, x265 => action_begins_54.b0 a0 K (action_begins_54.l0 a0 K brk0_0 n_) brk0_0 x264 x265
def action_begins_54.f (K : Nat) (a0 : List S32) : Option (List Int) := if 0 ≤ (a0.length : Int) then (if (8 : Int) * (a0.length : Int) ≤ 281474976710656 then (if (a0.length : Int) ≤ 9223372036854775807 then (action_begins_54.l0 a0 K (fun x397 => some x397) K (List.replicate ((a0.length : Int)).toNat 0) 0) else none) else none) else none
def action_begins_54.R (r : List Int) (w : World) : Ending → World → Prop := fun e w' => ∃ (A0 : Option Addr) (n0 c0 : Nat), e = .returned (.slice A0 n0 c0) ∧ Kp No w w' ∧ Ow w (kInt .i64 3) w' A0 n0 c0 r
set_option maxRecDepth 20000 in
set_option maxHeartbeats 4000000 in
theorem action_begins_54.j6.ok (K : Nat) (a0A : Option Addr) (a0c : Nat) (a0 : List S32) (w : World) (a0r : Rd No w a0A ((K32 33).cells a0)) (a0l : a0.length ≤ a0c) (r : List Int) {Q : Exit → Act → World → Prop} (b129 : Nat) (x265 : Int) (b273 : Nat) (x344 : Int) (x264 : List Int) (next3 : Int → Int → Option (List Int)) (brk3_2 : Int → Option (List Int)) (HR : ∀ a w', bodyPost Try.prog Try.f54 (action_begins_54.R r w) .ret a w' → Q .ret a w') (HN3 : ∀ (x343q : Int) (x344q : Int) (u340q : Nat → Value) (w341q : World) (k342q : Kp No w w341q) (hb345q : Blk w341q b273 #[.int .i64 (((rd z32 a0 x265)).f0), .int .i64 (((rd z32 a0 x265)).f1), .string (((rd z32 a0 x265)).f2), .string (((rd z32 a0 x265)).f3), .int .i64 (((rd z32 a0 x265)).f4.f0), .int .i64 (((rd z32 a0 x265)).f4.f1)] 33) (ghb345q : w.heap.size ≤ b273) (ho348q : Ow w (kInt .i64 3) w341q (some ⟨b129, 0, none⟩) (((a0.length : Int)).toNat) (((a0.length : Int)).toNat) x264) (n349q : Dj (One b273) (Ra (some ⟨b129, 0, none⟩))), next3 x343q x344q = some r → Q .normal ⟨action_begins_54.F3 b129 a0 x265 b273 x343q x344q a0A a0c u340q, []⟩ w341q) (HX3_2 : ∀ (x384q : Int) (u382q : Nat → Value) (w380q : World) (k381q : Kp No w w380q) (ho386q : Ow w (kInt .i64 3) w380q (some ⟨b129, 0, none⟩) (((a0.length : Int)).toNat) (((a0.length : Int)).toNat) x264), brk3_2 x384q = some r → Q (.exit 2) ⟨action_begins_54.F3_2 b129 a0 x265 x384q a0A a0c u382q, []⟩ w380q) (x376 : Int) (u374 : Nat → Value) (w372 : World) (k373 : Kp No w w372) (hb377 : Blk w372 b273 #[.int .i64 (((rd z32 a0 x265)).f0), .int .i64 (((rd z32 a0 x265)).f1), .string (((rd z32 a0 x265)).f2), .string (((rd z32 a0 x265)).f3), .int .i64 (((rd z32 a0 x265)).f4.f0), .int .i64 (((rd z32 a0 x265)).f4.f1)] 33) (ghb377 : w.heap.size ≤ b273) (ho378 : Ow w (kInt .i64 3) w372 (some ⟨b129, 0, none⟩) (((a0.length : Int)).toNat) (((a0.length : Int)).toNat) x264) (n379 : Dj (One b273) (Ra (some ⟨b129, 0, none⟩))) (H : action_begins_54.j6 next3 x344 x376 = some r) : (Exit.then (fun a w => (cd Try.f54 [1, 1, 0, 1, 0, 0, 1, 1, 0, 0, 1, 1, 1, 0, 1, 0, 0, 1, 1]).wp Try.prog Q a w) Q) .normal ⟨action_begins_54.j6F b129 a0 x265 b273 x376 x344 a0A a0c u374, []⟩ w372 := by
  unfold action_begins_54.j6 at H
  refine q_then ?_
  refine w_region (p := [1, 1, 0, 1, 0, 0, 1, 1, 0, 0, 1, 1, 1, 0, 1, 0, 0, 1, 1]) (id := 10) (by kernel_rfl) ?_
  refine r_vals 0 3 [.int .i64 x344, .int .i64 (W (x344 + 1)), .int .i64 (W (x344 + 1))] (by kernel_rfl) (by kernel_rfl) ?_
  refine r_fin 3 (by kernel_rfl) ?_
  refine q_into (action_begins_54.F3 b129 a0 x265 b273 x376 (W (x344 + 1)) a0A a0c) (by kernel_rfl) (fun u_ => ?_)
  exact HN3 x376 (W (x344 + 1)) u_ w372 k373 hb377 ghb377 ho378 n379 H
set_option maxRecDepth 20000 in
set_option maxHeartbeats 4000000 in
theorem action_begins_54.j5.ok (K : Nat) (a0A : Option Addr) (a0c : Nat) (a0 : List S32) (w : World) (a0r : Rd No w a0A ((K32 33).cells a0)) (a0l : a0.length ≤ a0c) (r : List Int) {Q : Exit → Act → World → Prop} (b129 : Nat) (x265 : Int) (b273 : Nat) (x264 : List Int) (x343 : Int) (x344 : Int) (next3 : Int → Int → Option (List Int)) (brk3_2 : Int → Option (List Int)) (HR : ∀ a w', bodyPost Try.prog Try.f54 (action_begins_54.R r w) .ret a w' → Q .ret a w') (HN3 : ∀ (x343q : Int) (x344q : Int) (u340q : Nat → Value) (w341q : World) (k342q : Kp No w w341q) (hb345q : Blk w341q b273 #[.int .i64 (((rd z32 a0 x265)).f0), .int .i64 (((rd z32 a0 x265)).f1), .string (((rd z32 a0 x265)).f2), .string (((rd z32 a0 x265)).f3), .int .i64 (((rd z32 a0 x265)).f4.f0), .int .i64 (((rd z32 a0 x265)).f4.f1)] 33) (ghb345q : w.heap.size ≤ b273) (ho348q : Ow w (kInt .i64 3) w341q (some ⟨b129, 0, none⟩) (((a0.length : Int)).toNat) (((a0.length : Int)).toNat) x264) (n349q : Dj (One b273) (Ra (some ⟨b129, 0, none⟩))), next3 x343q x344q = some r → Q .normal ⟨action_begins_54.F3 b129 a0 x265 b273 x343q x344q a0A a0c u340q, []⟩ w341q) (HX3_2 : ∀ (x384q : Int) (u382q : Nat → Value) (w380q : World) (k381q : Kp No w w380q) (ho386q : Ow w (kInt .i64 3) w380q (some ⟨b129, 0, none⟩) (((a0.length : Int)).toNat) (((a0.length : Int)).toNat) x264), brk3_2 x384q = some r → Q (.exit 2) ⟨action_begins_54.F3_2 b129 a0 x265 x384q a0A a0c u382q, []⟩ w380q) (x367 : Bool) (u365 : Nat → Value) (w363 : World) (k364 : Kp No w w363) (hb368 : Blk w363 b273 #[.int .i64 (((rd z32 a0 x265)).f0), .int .i64 (((rd z32 a0 x265)).f1), .string (((rd z32 a0 x265)).f2), .string (((rd z32 a0 x265)).f3), .int .i64 (((rd z32 a0 x265)).f4.f0), .int .i64 (((rd z32 a0 x265)).f4.f1)] 33) (ghb368 : w.heap.size ≤ b273) (ho369 : Ow w (kInt .i64 3) w363 (some ⟨b129, 0, none⟩) (((a0.length : Int)).toNat) (((a0.length : Int)).toNat) x264) (n370 : Dj (One b273) (Ra (some ⟨b129, 0, none⟩))) (H : action_begins_54.j5 next3 x344 x264 x343 x367 = some r) : (cd Try.f54 [1, 1, 0, 1, 0, 0, 1, 1, 0, 0, 1, 1, 1, 0, 1, 0, 0, 1, 0, 0, 1, 1]).wp Try.prog (Exit.inBlock 3 (Exit.then (fun a w => (cd Try.f54 [1, 1, 0, 1, 0, 0, 1, 1, 0, 0, 1, 1, 1, 0, 1, 0, 0, 1, 1]).wp Try.prog Q a w) Q)) ⟨action_begins_54.j5F b129 a0 x265 b273 x264 x343 x344 a0A a0c x367 u365, []⟩ w363 := by
  unfold action_begins_54.j5 at H
  refine w_cond (p := [1, 1, 0, 1, 0, 0, 1, 1, 0, 0, 1, 1, 1, 0, 1, 0, 0, 1, 0, 0, 1, 1]) (p0 := [1, 1, 0, 1, 0, 0, 1, 1, 0, 0, 1, 1, 1, 0, 1, 0, 0, 1, 0, 0, 1, 1, 0]) (p1 := [1, 1, 0, 1, 0, 0, 1, 1, 0, 0, 1, 1, 1, 0, 1, 0, 0, 1, 0, 0, 1, 1, 1]) (c := (Operand.tmp 51)) (b := x367) (by kernel_rfl) (by kernel_rfl) ?_ ?_
  · intro h_
    have h371 : x367 = true := h_
    clear h_
    rw [if_pos h371] at H
    refine w_region (p := [1, 1, 0, 1, 0, 0, 1, 1, 0, 0, 1, 1, 1, 0, 1, 0, 0, 1, 0, 0, 1, 1, 0]) (id := 13) (by kernel_rfl) ?_
    refine r_vals 0 1 [.int .i64 (-1)] (by kernel_rfl) (by kernel_rfl) ?_
    refine r_fin 1 (by kernel_rfl) ?_
    refine q_in ?_
    refine q_into (action_begins_54.j6F b129 a0 x265 b273 (-1) x344 a0A a0c) (by kernel_rfl) (fun u_ => ?_)
    exact action_begins_54.j6.ok K a0A a0c a0 w a0r a0l r b129 x265 b273 x344 x264 next3 brk3_2 HR HN3 HX3_2 (-1) u_ w363 k364 hb368 ghb368 ho369 n370 H
  · intro h_
    have h371 : ¬ (x367 = true) := by rw [h_]; decide
    clear h_
    rw [if_neg h371] at H
    refine w_skip (p := [1, 1, 0, 1, 0, 0, 1, 1, 0, 0, 1, 1, 1, 0, 1, 0, 0, 1, 0, 0, 1, 1, 1]) (by kernel_rfl) ?_
    refine q_in ?_
    refine q_into (action_begins_54.j6F b129 a0 x265 b273 (rd 0 x264 (W (x343 - 1))) x344 a0A a0c) (by kernel_rfl) (fun u_ => ?_)
    exact action_begins_54.j6.ok K a0A a0c a0 w a0r a0l r b129 x265 b273 x344 x264 next3 brk3_2 HR HN3 HX3_2 (rd 0 x264 (W (x343 - 1))) u_ w363 k364 hb368 ghb368 ho369 n370 H
set_option maxRecDepth 20000 in
set_option maxHeartbeats 4000000 in
theorem action_begins_54.j4.ok (K : Nat) (a0A : Option Addr) (a0c : Nat) (a0 : List S32) (w : World) (a0r : Rd No w a0A ((K32 33).cells a0)) (a0l : a0.length ≤ a0c) (r : List Int) {Q : Exit → Act → World → Prop} (b129 : Nat) (x265 : Int) (b273 : Nat) (x343 : Int) (x344 : Int) (x264 : List Int) (next3 : Int → Int → Option (List Int)) (brk3_2 : Int → Option (List Int)) (HR : ∀ a w', bodyPost Try.prog Try.f54 (action_begins_54.R r w) .ret a w' → Q .ret a w') (HN3 : ∀ (x343q : Int) (x344q : Int) (u340q : Nat → Value) (w341q : World) (k342q : Kp No w w341q) (hb345q : Blk w341q b273 #[.int .i64 (((rd z32 a0 x265)).f0), .int .i64 (((rd z32 a0 x265)).f1), .string (((rd z32 a0 x265)).f2), .string (((rd z32 a0 x265)).f3), .int .i64 (((rd z32 a0 x265)).f4.f0), .int .i64 (((rd z32 a0 x265)).f4.f1)] 33) (ghb345q : w.heap.size ≤ b273) (ho348q : Ow w (kInt .i64 3) w341q (some ⟨b129, 0, none⟩) (((a0.length : Int)).toNat) (((a0.length : Int)).toNat) x264) (n349q : Dj (One b273) (Ra (some ⟨b129, 0, none⟩))), next3 x343q x344q = some r → Q .normal ⟨action_begins_54.F3 b129 a0 x265 b273 x343q x344q a0A a0c u340q, []⟩ w341q) (HX3_2 : ∀ (x384q : Int) (u382q : Nat → Value) (w380q : World) (k381q : Kp No w w380q) (ho386q : Ow w (kInt .i64 3) w380q (some ⟨b129, 0, none⟩) (((a0.length : Int)).toNat) (((a0.length : Int)).toNat) x264), brk3_2 x384q = some r → Q (.exit 2) ⟨action_begins_54.F3_2 b129 a0 x265 x384q a0A a0c u382q, []⟩ w380q) (x355 : Bool) (u353 : Nat → Value) (w351 : World) (k352 : Kp No w w351) (hb356 : Blk w351 b273 #[.int .i64 (((rd z32 a0 x265)).f0), .int .i64 (((rd z32 a0 x265)).f1), .string (((rd z32 a0 x265)).f2), .string (((rd z32 a0 x265)).f3), .int .i64 (((rd z32 a0 x265)).f4.f0), .int .i64 (((rd z32 a0 x265)).f4.f1)] 33) (ghb356 : w.heap.size ≤ b273) (ho357 : Ow w (kInt .i64 3) w351 (some ⟨b129, 0, none⟩) (((a0.length : Int)).toNat) (((a0.length : Int)).toNat) x264) (n358 : Dj (One b273) (Ra (some ⟨b129, 0, none⟩))) (H : action_begins_54.j4 x343 a0 x264 next3 x344 x265 brk3_2 x355 = some r) : (cd Try.f54 [1, 1, 0, 1, 0, 0, 1, 1, 0, 0, 1, 1, 1, 0, 1, 0, 0, 0, 1]).wp Try.prog (Exit.then (fun a w => (cd Try.f54 [1, 1, 0, 1, 0, 0, 1, 1, 0, 0, 1, 1, 1, 0, 1, 0, 0, 1]).wp Try.prog Q a w) Q) ⟨action_begins_54.j4F b129 a0 x265 b273 x343 x344 a0A a0c x355 u353, []⟩ w351 := by
  unfold action_begins_54.j4 at H
  refine w_cond (p := [1, 1, 0, 1, 0, 0, 1, 1, 0, 0, 1, 1, 1, 0, 1, 0, 0, 0, 1]) (p0 := [1, 1, 0, 1, 0, 0, 1, 1, 0, 0, 1, 1, 1, 0, 1, 0, 0, 0, 1, 0]) (p1 := [1, 1, 0, 1, 0, 0, 1, 1, 0, 0, 1, 1, 1, 0, 1, 0, 0, 0, 1, 1]) (c := (Operand.tmp 35)) (b := x355) (by kernel_rfl) (by kernel_rfl) ?_ ?_
  · intro h_
    have h359 : x355 = true := h_
    clear h_
    rw [if_pos h359] at H
    refine w_skip (p := [1, 1, 0, 1, 0, 0, 1, 1, 0, 0, 1, 1, 1, 0, 1, 0, 0, 0, 1, 0]) (by kernel_rfl) ?_
    refine q_then ?_
    refine w_seq (p := [1, 1, 0, 1, 0, 0, 1, 1, 0, 0, 1, 1, 1, 0, 1, 0, 0, 1]) (p0 := [1, 1, 0, 1, 0, 0, 1, 1, 0, 0, 1, 1, 1, 0, 1, 0, 0, 1, 0]) (p1 := [1, 1, 0, 1, 0, 0, 1, 1, 0, 0, 1, 1, 1, 0, 1, 0, 0, 1, 1]) (by kernel_rfl) ?_
    refine w_block (p := [1, 1, 0, 1, 0, 0, 1, 1, 0, 0, 1, 1, 1, 0, 1, 0, 0, 1, 0]) (p0 := [1, 1, 0, 1, 0, 0, 1, 1, 0, 0, 1, 1, 1, 0, 1, 0, 0, 1, 0, 0]) (id := 3) (by kernel_rfl) ?_
    refine w_seq (p := [1, 1, 0, 1, 0, 0, 1, 1, 0, 0, 1, 1, 1, 0, 1, 0, 0, 1, 0, 0]) (p0 := [1, 1, 0, 1, 0, 0, 1, 1, 0, 0, 1, 1, 1, 0, 1, 0, 0, 1, 0, 0, 0]) (p1 := [1, 1, 0, 1, 0, 0, 1, 1, 0, 0, 1, 1, 1, 0, 1, 0, 0, 1, 0, 0, 1]) (by kernel_rfl) ?_
    refine w_region (p := [1, 1, 0, 1, 0, 0, 1, 1, 0, 0, 1, 1, 1, 0, 1, 0, 0, 1, 0, 0, 0]) (id := 11) (by kernel_rfl) ?_
    refine r_vals 0 3 [.slice (some ⟨b129, 0, none⟩) (((a0.length : Int)).toNat) (((a0.length : Int)).toNat), .int .i64 x343, .int .i64 (W (x343 - 1))] (by kernel_rfl) (by kernel_rfl) ?_
    refine p_split (0 ≤ (W (x343 - 1))) (fun h360 => ?_) (fun h360 => ?_)
    · rw [if_pos h360] at H
      refine p_split ((W (x343 - 1)) < (((a0.length : Int)).toNat : Int)) (fun h361 => ?_) (fun h361 => ?_)
      · rw [if_pos h361] at H
        refine r_do 3 (by kernel_rfl) (ow_index (K := (kInt .i64 3)) (T := 24) (e := 3) (sz := 1) (x := (Operand.tmp 38)) (y := (Operand.tmp 40)) (k := .i64) (n := (((a0.length : Int)).toNat)) (c := (((a0.length : Int)).toNat)) (A := (some ⟨b129, 0, none⟩)) (xs := x264) (iv := (W (x343 - 1))) (by kernel_rfl) (by kernel_rfl) (by kernel_rfl) (by kernel_rfl) h360 h361 (Ow.rdNo ho357) (Ow.len ho357) (by kernel_rfl) ?_) 
        refine r_do 4 (by kernel_rfl) (ow_loadE (K := (kInt .i64 3)) (T := 3) (x := (Operand.tmp 41)) (off := 0) (A := (some ⟨b129, 0, none⟩)) (n := (((a0.length : Int)).toNat)) (xs := x264) (iv := (W (x343 - 1))) 0 (.int .i64 (rd 0 x264 (W (x343 - 1)))) (by kernel_rfl) (by kernel_rfl) (Ow.rdNo ho357) (Ow.len ho357) h360 h361 (by kernel_rfl) ?_) 
        refine r_vals 5 6 [.int .i64 (rd 0 x264 (W (x343 - 1)))] (by kernel_rfl) (by kernel_rfl) ?_
        refine r_fin 6 (by kernel_rfl) ?_
        refine q_then ?_
        refine w_seq (p := [1, 1, 0, 1, 0, 0, 1, 1, 0, 0, 1, 1, 1, 0, 1, 0, 0, 1, 0, 0, 1]) (p0 := [1, 1, 0, 1, 0, 0, 1, 1, 0, 0, 1, 1, 1, 0, 1, 0, 0, 1, 0, 0, 1, 0]) (p1 := [1, 1, 0, 1, 0, 0, 1, 1, 0, 0, 1, 1, 1, 0, 1, 0, 0, 1, 0, 0, 1, 1]) (by kernel_rfl) ?_
        refine w_region (p := [1, 1, 0, 1, 0, 0, 1, 1, 0, 0, 1, 1, 1, 0, 1, 0, 0, 1, 0, 0, 1, 0]) (id := 12) (by kernel_rfl) ?_
        refine r_vals 0 3 [.int .i64 (rd 0 x264 (W (x343 - 1))), .bool ((rd 0 x264 (W (x343 - 1))) == 0), .bool ((rd 0 x264 (W (x343 - 1))) == 0)] (by kernel_rfl) (by kernel_rfl) ?_
        refine b_split ((rd 0 x264 (W (x343 - 1))) == 0) (fun h_ => ?_) (fun h_ => ?_)
        · have h362 : (rd 0 x264 (W (x343 - 1))) = 0 := by simpa using h_
          rw [if_pos h362] at H
          rw [h_]
          clear h_
          refine r_vals 3 5 [.int .i64 x344, .pointer (some ⟨b273, 1, none⟩)] (by kernel_rfl) (by kernel_rfl) ?_
          refine r_do 5 (by kernel_rfl) (og_load (T := 3) (x := (Operand.tmp 47)) (b := b273) (off := 1) (.int .i64 (((rd z32 a0 x265)).f1)) (by kernel_rfl) (by kernel_rfl) hb356 (by kernel_rfl) ?_) 
          refine r_vals 6 9 [.int .i64 (W ((((rd z32 a0 x265)).f1) - 1)), .bool (decide (x344 < (W ((((rd z32 a0 x265)).f1) - 1)))), .bool (decide (x344 < (W ((((rd z32 a0 x265)).f1) - 1))))] (by kernel_rfl) (by kernel_rfl) ?_
          refine r_fin 9 (by kernel_rfl) ?_
          refine q_then ?_
          refine w_into (action_begins_54.j5F b129 a0 x265 b273 x264 x343 x344 a0A a0c (decide (x344 < (W ((((rd z32 a0 x265)).f1) - 1))))) (by kernel_rfl) (fun u_ => ?_)
          exact action_begins_54.j5.ok K a0A a0c a0 w a0r a0l r b129 x265 b273 x264 x343 x344 next3 brk3_2 HR HN3 HX3_2 (decide (x344 < (W ((((rd z32 a0 x265)).f1) - 1)))) u_ w351 k352 hb356 ghb356 ho357 n358 H
        · have h362 : ¬ ((rd 0 x264 (W (x343 - 1))) = 0) := by simpa using h_
          rw [if_neg h362] at H
          rw [h_]
          clear h_
          refine r_vals 3 9 [undef, undef, undef, undef, undef, .bool false] (by kernel_rfl) (by kernel_rfl) ?_
          refine r_fin 9 (by kernel_rfl) ?_
          refine q_then ?_
          refine w_into (action_begins_54.j5F b129 a0 x265 b273 x264 x343 x344 a0A a0c false) (by kernel_rfl) (fun u_ => ?_)
          exact action_begins_54.j5.ok K a0A a0c a0 w a0r a0l r b129 x265 b273 x264 x343 x344 next3 brk3_2 HR HN3 HX3_2 false u_ w351 k352 hb356 ghb356 ho357 n358 H
      · rw [if_neg h361] at H
        cases H
    · rw [if_neg h360] at H
      cases H
  · intro h_
    have h359 : ¬ (x355 = true) := by rw [h_]; decide
    clear h_
    rw [if_neg h359] at H
    refine w_exit (p := [1, 1, 0, 1, 0, 0, 1, 1, 0, 0, 1, 1, 1, 0, 1, 0, 0, 0, 1, 1]) (id := 2) (by kernel_rfl) ?_
    refine q_then_x ?_
    refine q_into (action_begins_54.F3_2 b129 a0 x265 x343 a0A a0c) (by kernel_rfl) (fun u_ => ?_)
    exact HX3_2 x343 u_ w351 k352 ho357 H
set_option maxRecDepth 20000 in
set_option maxHeartbeats 4000000 in
theorem action_begins_54.b3.ok (K : Nat) (a0A : Option Addr) (a0c : Nat) (a0 : List S32) (w : World) (a0r : Rd No w a0A ((K32 33).cells a0)) (a0l : a0.length ≤ a0c) (r : List Int) (b129 : Nat) (x265 : Int) (b273 : Nat) (x264 : List Int) {Q : Exit → Act → World → Prop} (HR : ∀ a w', bodyPost Try.prog Try.f54 (action_begins_54.R r w) .ret a w' → Q .ret a w') {next3 : Int → Int → Option (List Int)} {brk3_2 : Int → Option (List Int)} (HN3 : ∀ (x343q : Int) (x344q : Int) (u340q : Nat → Value) (w341q : World) (k342q : Kp No w w341q) (hb345q : Blk w341q b273 #[.int .i64 (((rd z32 a0 x265)).f0), .int .i64 (((rd z32 a0 x265)).f1), .string (((rd z32 a0 x265)).f2), .string (((rd z32 a0 x265)).f3), .int .i64 (((rd z32 a0 x265)).f4.f0), .int .i64 (((rd z32 a0 x265)).f4.f1)] 33) (ghb345q : w.heap.size ≤ b273) (ho348q : Ow w (kInt .i64 3) w341q (some ⟨b129, 0, none⟩) (((a0.length : Int)).toNat) (((a0.length : Int)).toNat) x264) (n349q : Dj (One b273) (Ra (some ⟨b129, 0, none⟩))), next3 x343q x344q = some r → Q .normal ⟨action_begins_54.F3 b129 a0 x265 b273 x343q x344q a0A a0c u340q, []⟩ w341q) (HX3_2 : ∀ (x384q : Int) (u382q : Nat → Value) (w380q : World) (k381q : Kp No w w380q) (ho386q : Ow w (kInt .i64 3) w380q (some ⟨b129, 0, none⟩) (((a0.length : Int)).toNat) (((a0.length : Int)).toNat) x264), brk3_2 x384q = some r → Q (.exit 2) ⟨action_begins_54.F3_2 b129 a0 x265 x384q a0A a0c u382q, []⟩ w380q) (x343 : Int) (x344 : Int) (u340 : Nat → Value) (w341 : World) (k342 : Kp No w w341) (hb345 : Blk w341 b273 #[.int .i64 (((rd z32 a0 x265)).f0), .int .i64 (((rd z32 a0 x265)).f1), .string (((rd z32 a0 x265)).f2), .string (((rd z32 a0 x265)).f3), .int .i64 (((rd z32 a0 x265)).f4.f0), .int .i64 (((rd z32 a0 x265)).f4.f1)] 33) (ghb345 : w.heap.size ≤ b273) (ho348 : Ow w (kInt .i64 3) w341 (some ⟨b129, 0, none⟩) (((a0.length : Int)).toNat) (((a0.length : Int)).toNat) x264) (n349 : Dj (One b273) (Ra (some ⟨b129, 0, none⟩))) (H : action_begins_54.b3 a0 x265 x264 next3 brk3_2 x343 x344 = some r) : (cd Try.f54 [1, 1, 0, 1, 0, 0, 1, 1, 0, 0, 1, 1, 1, 0, 1, 0, 0]).wp Try.prog Q ⟨action_begins_54.F3 b129 a0 x265 b273 x343 x344 a0A a0c u340, []⟩ w341 := by
  unfold action_begins_54.b3 at H
  refine w_seq (p := [1, 1, 0, 1, 0, 0, 1, 1, 0, 0, 1, 1, 1, 0, 1, 0, 0]) (p0 := [1, 1, 0, 1, 0, 0, 1, 1, 0, 0, 1, 1, 1, 0, 1, 0, 0, 0]) (p1 := [1, 1, 0, 1, 0, 0, 1, 1, 0, 0, 1, 1, 1, 0, 1, 0, 0, 1]) (by kernel_rfl) ?_
  refine w_seq (p := [1, 1, 0, 1, 0, 0, 1, 1, 0, 0, 1, 1, 1, 0, 1, 0, 0, 0]) (p0 := [1, 1, 0, 1, 0, 0, 1, 1, 0, 0, 1, 1, 1, 0, 1, 0, 0, 0, 0]) (p1 := [1, 1, 0, 1, 0, 0, 1, 1, 0, 0, 1, 1, 1, 0, 1, 0, 0, 0, 1]) (by kernel_rfl) ?_
  refine w_region (p := [1, 1, 0, 1, 0, 0, 1, 1, 0, 0, 1, 1, 1, 0, 1, 0, 0, 0, 0]) (id := 9) (by kernel_rfl) ?_
  refine r_vals 0 2 [.int .i64 x344, .pointer (some ⟨b273, 1, none⟩)] (by kernel_rfl) (by kernel_rfl) ?_
  refine r_do 2 (by kernel_rfl) (og_load (T := 3) (x := (Operand.tmp 29)) (b := b273) (off := 1) (.int .i64 (((rd z32 a0 x265)).f1)) (by kernel_rfl) (by kernel_rfl) hb345 (by kernel_rfl) ?_) 
  refine r_vals 3 5 [.bool (decide (x344 < (((rd z32 a0 x265)).f1))), .bool (decide (x344 < (((rd z32 a0 x265)).f1)))] (by kernel_rfl) (by kernel_rfl) ?_
  refine b_split (decide (x344 < (((rd z32 a0 x265)).f1))) (fun h_ => ?_) (fun h_ => ?_)
  · have h350 : x344 < (((rd z32 a0 x265)).f1) := by simpa using h_
    rw [if_pos h350] at H
    rw [h_]
    clear h_
    refine r_vals 5 8 [.int .i64 x343, .bool (decide (x343 > 0)), .bool (decide (x343 > 0))] (by kernel_rfl) (by kernel_rfl) ?_
    refine r_fin 8 (by kernel_rfl) ?_
    refine q_then ?_
    refine w_into (action_begins_54.j4F b129 a0 x265 b273 x343 x344 a0A a0c (decide (x343 > 0))) (by kernel_rfl) (fun u_ => ?_)
    exact action_begins_54.j4.ok K a0A a0c a0 w a0r a0l r b129 x265 b273 x343 x344 x264 next3 brk3_2 HR HN3 HX3_2 (decide (x343 > 0)) u_ w341 k342 hb345 ghb345 ho348 n349 H
  · have h350 : ¬ (x344 < (((rd z32 a0 x265)).f1)) := by simpa using h_
    rw [if_neg h350] at H
    rw [h_]
    clear h_
    refine r_vals 5 8 [undef, undef, .bool false] (by kernel_rfl) (by kernel_rfl) ?_
    refine r_fin 8 (by kernel_rfl) ?_
    refine q_then ?_
    refine w_into (action_begins_54.j4F b129 a0 x265 b273 x343 x344 a0A a0c false) (by kernel_rfl) (fun u_ => ?_)
    exact action_begins_54.j4.ok K a0A a0c a0 w a0r a0l r b129 x265 b273 x343 x344 x264 next3 brk3_2 HR HN3 HX3_2 false u_ w341 k342 hb345 ghb345 ho348 n349 H
set_option maxRecDepth 20000 in
set_option maxHeartbeats 4000000 in
theorem action_begins_54.l3.ok (K : Nat) (a0A : Option Addr) (a0c : Nat) (a0 : List S32) (w : World) (a0r : Rd No w a0A ((K32 33).cells a0)) (a0l : a0.length ≤ a0c) (r : List Int) (b129 : Nat) (x265 : Int) (b273 : Nat) (x264 : List Int) {Q : Exit → Act → World → Prop} (HR : ∀ a w', bodyPost Try.prog Try.f54 (action_begins_54.R r w) .ret a w' → Q .ret a w') {brk3_2 : Int → Option (List Int)} (HX3_2 : ∀ (x384q : Int) (u382q : Nat → Value) (w380q : World) (k381q : Kp No w w380q) (ho386q : Ow w (kInt .i64 3) w380q (some ⟨b129, 0, none⟩) (((a0.length : Int)).toNat) (((a0.length : Int)).toNat) x264), brk3_2 x384q = some r → Q (.exit 2) ⟨action_begins_54.F3_2 b129 a0 x265 x384q a0A a0c u382q, []⟩ w380q) : ∀ (n_ : Nat) (x343 : Int) (x344 : Int) (u340 : Nat → Value) (w341 : World) (k342 : Kp No w w341) (hb345 : Blk w341 b273 #[.int .i64 (((rd z32 a0 x265)).f0), .int .i64 (((rd z32 a0 x265)).f1), .string (((rd z32 a0 x265)).f2), .string (((rd z32 a0 x265)).f3), .int .i64 (((rd z32 a0 x265)).f4.f0), .int .i64 (((rd z32 a0 x265)).f4.f1)] 33) (ghb345 : w.heap.size ≤ b273) (ho348 : Ow w (kInt .i64 3) w341 (some ⟨b129, 0, none⟩) (((a0.length : Int)).toNat) (((a0.length : Int)).toNat) x264) (n349 : Dj (One b273) (Ra (some ⟨b129, 0, none⟩))) (H : action_begins_54.l3 a0 x265 x264 brk3_2 n_ x343 x344 = some r), Code.rounds Try.prog (cd Try.f54 [1, 1, 0, 1, 0, 0, 1, 1, 0, 0, 1, 1, 1, 0, 1, 0, 0]) Q n_ ⟨action_begins_54.F3 b129 a0 x265 b273 x343 x344 a0A a0c u340, []⟩ w341
  | 0, _, _, _, _, _, _, _, _, _, H => by cases H
  | n_ + 1, x343, x344, u340, w341, k342, hb345, ghb345, ho348, n349, H =>
    action_begins_54.b3.ok K a0A a0c a0 w a0r a0l r b129 x265 b273 x264 (Q := Exit.then (Code.rounds Try.prog (cd Try.f54 [1, 1, 0, 1, 0, 0, 1, 1, 0, 0, 1, 1, 1, 0, 1, 0, 0]) Q n_) Q) (fun a w' h_ => q_then_r (HR a w' h_)) (fun x0_ x1_ x2_ x3_ x4_ x5_ x6_ x7_ x8_ h_ => action_begins_54.l3.ok K a0A a0c a0 w a0r a0l r b129 x265 b273 x264 HR HX3_2 n_ x0_ x1_ x2_ x3_ x4_ x5_ x6_ x7_ x8_ h_) (fun x0_ x1_ x2_ x3_ x4_ h_ => q_then_x (HX3_2 x0_ x1_ x2_ x3_ x4_ h_)) x343 x344 u340 w341 k342 hb345 ghb345 ho348 n349 H
set_option maxRecDepth 20000 in
set_option maxHeartbeats 4000000 in
theorem action_begins_54.j2.ok (K : Nat) (a0A : Option Addr) (a0c : Nat) (a0 : List S32) (w : World) (a0r : Rd No w a0A ((K32 33).cells a0)) (a0l : a0.length ≤ a0c) (r : List Int) {Q : Exit → Act → World → Prop} (b129 : Nat) (x265 : Int) (b273 : Nat) (next0 : List Int → Int → Option (List Int)) (brk0_0 : List Int → Option (List Int)) (x264 : List Int) (HR : ∀ a w', bodyPost Try.prog Try.f54 (action_begins_54.R r w) .ret a w' → Q .ret a w') (HN0 : ∀ (x264q : List Int) (x265q : Int) (u261q : Nat → Value) (w262q : World) (k263q : Kp No w w262q) (ho267q : Ow w (kInt .i64 3) w262q (some ⟨b129, 0, none⟩) (((a0.length : Int)).toNat) (((a0.length : Int)).toNat) x264q), next0 x264q x265q = some r → Q .normal ⟨action_begins_54.F0 b129 a0 a0A a0c x265q u261q, []⟩ w262q) (HX0_0 : ∀ (x397q : List Int) (u395q : Nat → Value) (w393q : World) (k394q : Kp No w w393q) (ho399q : Ow w (kInt .i64 3) w393q (some ⟨b129, 0, none⟩) (((a0.length : Int)).toNat) (((a0.length : Int)).toNat) x397q), brk0_0 x397q = some r → Q (.exit 0) ⟨action_begins_54.F0_0 b129 a0 u395q, []⟩ w393q) (x298 : Int) (u296 : Nat → Value) (w294 : World) (k295 : Kp No w w294) (hb299 : Blk w294 b273 #[.int .i64 (((rd z32 a0 x265)).f0), .int .i64 (((rd z32 a0 x265)).f1), .string (((rd z32 a0 x265)).f2), .string (((rd z32 a0 x265)).f3), .int .i64 (((rd z32 a0 x265)).f4.f0), .int .i64 (((rd z32 a0 x265)).f4.f1)] 33) (ghb299 : w.heap.size ≤ b273) (ho300 : Ow w (kInt .i64 3) w294 (some ⟨b129, 0, none⟩) (((a0.length : Int)).toNat) (((a0.length : Int)).toNat) x264) (n301 : Dj (One b273) (Ra (some ⟨b129, 0, none⟩))) (H : action_begins_54.j2 a0 x265 x264 next0 K x298 = some r) : (cd Try.f54 [1, 1, 0, 1, 0, 0, 1, 1, 0, 0, 1, 1, 1]).wp Try.prog (Exit.inBlock 1 (Exit.then (fun a w => (cd Try.f54 [1, 1, 0, 1, 0, 0, 1, 1, 1]).wp Try.prog Q a w) Q)) ⟨action_begins_54.j2F b129 a0 x265 b273 x298 a0A a0c u296, []⟩ w294 := by
  unfold action_begins_54.j2 at H
  refine w_seq (p := [1, 1, 0, 1, 0, 0, 1, 1, 0, 0, 1, 1, 1]) (p0 := [1, 1, 0, 1, 0, 0, 1, 1, 0, 0, 1, 1, 1, 0]) (p1 := [1, 1, 0, 1, 0, 0, 1, 1, 0, 0, 1, 1, 1, 1]) (by kernel_rfl) ?_
  refine w_seq (p := [1, 1, 0, 1, 0, 0, 1, 1, 0, 0, 1, 1, 1, 0]) (p0 := [1, 1, 0, 1, 0, 0, 1, 1, 0, 0, 1, 1, 1, 0, 0]) (p1 := [1, 1, 0, 1, 0, 0, 1, 1, 0, 0, 1, 1, 1, 0, 1]) (by kernel_rfl) ?_
  refine w_region (p := [1, 1, 0, 1, 0, 0, 1, 1, 0, 0, 1, 1, 1, 0, 0]) (id := 8) (by kernel_rfl) ?_
  refine r_vals 0 1 [.int .i64 0] (by kernel_rfl) (by kernel_rfl) ?_
  refine r_fin 1 (by kernel_rfl) ?_
  refine q_then ?_
  refine w_block (p := [1, 1, 0, 1, 0, 0, 1, 1, 0, 0, 1, 1, 1, 0, 1]) (p0 := [1, 1, 0, 1, 0, 0, 1, 1, 0, 0, 1, 1, 1, 0, 1, 0]) (id := 2) (by kernel_rfl) ?_
  refine w_into (action_begins_54.F3 b129 a0 x265 b273 x298 0 a0A a0c) (by kernel_rfl) (fun u_ => ?_)
  refine w_loop (p := [1, 1, 0, 1, 0, 0, 1, 1, 0, 0, 1, 1, 1, 0, 1, 0]) (p0 := [1, 1, 0, 1, 0, 0, 1, 1, 0, 0, 1, 1, 1, 0, 1, 0, 0]) K (by kernel_rfl) ?_
  refine action_begins_54.l3.ok K a0A a0c a0 w a0r a0l r b129 x265 b273 x264 (fun a w' h_ => q_in_r (q_then_r (q_in_r (q_then_r (HR a w' h_))))) ?_ K x298 0 u_ w294 k295 hb299 ghb299 ho300 n301 H
  intro x384 u382 w380 k381 ho386 H
  try dsimp only at H
  refine q_in_hit ?_
  refine q_then ?_
  refine w_region (p := [1, 1, 0, 1, 0, 0, 1, 1, 0, 0, 1, 1, 1, 1]) (id := 14) (by kernel_rfl) ?_
  refine r_vals 0 3 [.slice (some ⟨b129, 0, none⟩) (((a0.length : Int)).toNat) (((a0.length : Int)).toNat), .int .i64 x265, .int .i64 x384] (by kernel_rfl) (by kernel_rfl) ?_
  refine p_split (0 ≤ x265) (fun h387 => ?_) (fun h387 => ?_)
  · rw [if_pos h387] at H
    refine p_split (x265 < (((a0.length : Int)).toNat : Int)) (fun h388 => ?_) (fun h388 => ?_)
    · rw [if_pos h388] at H
      refine r_do 3 (by kernel_rfl) (ow_index (K := (kInt .i64 3)) (T := 24) (e := 3) (sz := 1) (x := (Operand.tmp 52)) (y := (Operand.tmp 53)) (k := .i64) (n := (((a0.length : Int)).toNat)) (c := (((a0.length : Int)).toNat)) (A := (some ⟨b129, 0, none⟩)) (xs := x264) (iv := x265) (by kernel_rfl) (by kernel_rfl) (by kernel_rfl) (by kernel_rfl) h387 h388 (Ow.rdNo ho386) (Ow.len ho386) (by kernel_rfl) ?_) 
      refine r_do 4 (by kernel_rfl) (ow_storeE (K := (kInt .i64 3)) (T := 3) (x := (Operand.tmp 55)) (y := (Operand.tmp 54)) (off := 0) (n := (((a0.length : Int)).toNat)) (iv := x265) (A := (some ⟨b129, 0, none⟩)) (c := (((a0.length : Int)).toNat)) (xs := x264) 0 x384 (.int .i64 x384) (by kernel_rfl) (by kernel_rfl) (by kernel_rfl) ho386 h387 h388 (by kernel_rfl) ?_) 
      intro w389 ho391 k390
      have k392 := Kp.own ho386 k381 k390
      refine r_fin 5 (by kernel_rfl) ?_
      refine q_in ?_
      refine q_then ?_
      refine w_region (p := [1, 1, 0, 1, 0, 0, 1, 1, 1]) (id := 15) (by kernel_rfl) ?_
      refine r_vals 0 2 [.int .i64 (W (x265 + 1)), .int .i64 (W (x265 + 1))] (by kernel_rfl) (by kernel_rfl) ?_
      refine r_fin 2 (by kernel_rfl) ?_
      refine q_into (action_begins_54.F0 b129 a0 a0A a0c (W (x265 + 1))) (by kernel_rfl) (fun u_ => ?_)
      exact HN0 (stored x264 x265 x384) (W (x265 + 1)) u_ w389 k392 ho391 H
    · rw [if_neg h388] at H
      cases H
  · rw [if_neg h387] at H
    cases H
set_option maxRecDepth 20000 in
set_option maxHeartbeats 4000000 in
theorem action_begins_54.j1.ok (K : Nat) (a0A : Option Addr) (a0c : Nat) (a0 : List S32) (w : World) (a0r : Rd No w a0A ((K32 33).cells a0)) (a0l : a0.length ≤ a0c) (r : List Int) {Q : Exit → Act → World → Prop} (b129 : Nat) (x265 : Int) (b273 : Nat) (next0 : List Int → Int → Option (List Int)) (brk0_0 : List Int → Option (List Int)) (x264 : List Int) (HR : ∀ a w', bodyPost Try.prog Try.f54 (action_begins_54.R r w) .ret a w' → Q .ret a w') (HN0 : ∀ (x264q : List Int) (x265q : Int) (u261q : Nat → Value) (w262q : World) (k263q : Kp No w w262q) (ho267q : Ow w (kInt .i64 3) w262q (some ⟨b129, 0, none⟩) (((a0.length : Int)).toNat) (((a0.length : Int)).toNat) x264q), next0 x264q x265q = some r → Q .normal ⟨action_begins_54.F0 b129 a0 a0A a0c x265q u261q, []⟩ w262q) (HX0_0 : ∀ (x397q : List Int) (u395q : Nat → Value) (w393q : World) (k394q : Kp No w w393q) (ho399q : Ow w (kInt .i64 3) w393q (some ⟨b129, 0, none⟩) (((a0.length : Int)).toNat) (((a0.length : Int)).toNat) x397q), brk0_0 x397q = some r → Q (.exit 0) ⟨action_begins_54.F0_0 b129 a0 u395q, []⟩ w393q) (x289 : Bool) (u287 : Nat → Value) (w285 : World) (k286 : Kp No w w285) (hb290 : Blk w285 b273 #[.int .i64 (((rd z32 a0 x265)).f0), .int .i64 (((rd z32 a0 x265)).f1), .string (((rd z32 a0 x265)).f2), .string (((rd z32 a0 x265)).f3), .int .i64 (((rd z32 a0 x265)).f4.f0), .int .i64 (((rd z32 a0 x265)).f4.f1)] 33) (ghb290 : w.heap.size ≤ b273) (ho291 : Ow w (kInt .i64 3) w285 (some ⟨b129, 0, none⟩) (((a0.length : Int)).toNat) (((a0.length : Int)).toNat) x264) (n292 : Dj (One b273) (Ra (some ⟨b129, 0, none⟩))) (H : action_begins_54.j1 a0 x265 x264 next0 K x289 = some r) : (cd Try.f54 [1, 1, 0, 1, 0, 0, 1, 1, 0, 0, 1, 1, 0, 1]).wp Try.prog (Exit.then (fun a w => (cd Try.f54 [1, 1, 0, 1, 0, 0, 1, 1, 0, 0, 1, 1, 1]).wp Try.prog (Exit.inBlock 1 (Exit.then (fun a w => (cd Try.f54 [1, 1, 0, 1, 0, 0, 1, 1, 1]).wp Try.prog Q a w) Q)) a w) (Exit.inBlock 1 (Exit.then (fun a w => (cd Try.f54 [1, 1, 0, 1, 0, 0, 1, 1, 1]).wp Try.prog Q a w) Q))) ⟨action_begins_54.j1F b129 a0 x265 b273 a0A a0c x289 u287, []⟩ w285 := by
  unfold action_begins_54.j1 at H
  refine w_cond (p := [1, 1, 0, 1, 0, 0, 1, 1, 0, 0, 1, 1, 0, 1]) (p0 := [1, 1, 0, 1, 0, 0, 1, 1, 0, 0, 1, 1, 0, 1, 0]) (p1 := [1, 1, 0, 1, 0, 0, 1, 1, 0, 0, 1, 1, 0, 1, 1]) (c := (Operand.tmp 27)) (b := x289) (by kernel_rfl) (by kernel_rfl) ?_ ?_
  · intro h_
    have h293 : x289 = true := h_
    clear h_
    rw [if_pos h293] at H
    refine w_region (p := [1, 1, 0, 1, 0, 0, 1, 1, 0, 0, 1, 1, 0, 1, 0]) (id := 7) (by kernel_rfl) ?_
    refine r_vals 0 1 [.int .i64 (-1)] (by kernel_rfl) (by kernel_rfl) ?_
    refine r_fin 1 (by kernel_rfl) ?_
    refine q_then ?_
    refine w_into (action_begins_54.j2F b129 a0 x265 b273 (-1) a0A a0c) (by kernel_rfl) (fun u_ => ?_)
    exact action_begins_54.j2.ok K a0A a0c a0 w a0r a0l r b129 x265 b273 next0 brk0_0 x264 HR HN0 HX0_0 (-1) u_ w285 k286 hb290 ghb290 ho291 n292 H
  · intro h_
    have h293 : ¬ (x289 = true) := by rw [h_]; decide
    clear h_
    rw [if_neg h293] at H
    refine w_skip (p := [1, 1, 0, 1, 0, 0, 1, 1, 0, 0, 1, 1, 0, 1, 1]) (by kernel_rfl) ?_
    refine q_then ?_
    refine w_into (action_begins_54.j2F b129 a0 x265 b273 x265 a0A a0c) (by kernel_rfl) (fun u_ => ?_)
    exact action_begins_54.j2.ok K a0A a0c a0 w a0r a0l r b129 x265 b273 next0 brk0_0 x264 HR HN0 HX0_0 x265 u_ w285 k286 hb290 ghb290 ho291 n292 H
set_option maxRecDepth 20000 in
set_option maxHeartbeats 4000000 in
theorem action_begins_54.b0.ok (K : Nat) (a0A : Option Addr) (a0c : Nat) (a0 : List S32) (w : World) (a0r : Rd No w a0A ((K32 33).cells a0)) (a0l : a0.length ≤ a0c) (r : List Int) (b129 : Nat) {Q : Exit → Act → World → Prop} (HR : ∀ a w', bodyPost Try.prog Try.f54 (action_begins_54.R r w) .ret a w' → Q .ret a w') {next0 : List Int → Int → Option (List Int)} {brk0_0 : List Int → Option (List Int)} (HN0 : ∀ (x264q : List Int) (x265q : Int) (u261q : Nat → Value) (w262q : World) (k263q : Kp No w w262q) (ho267q : Ow w (kInt .i64 3) w262q (some ⟨b129, 0, none⟩) (((a0.length : Int)).toNat) (((a0.length : Int)).toNat) x264q), next0 x264q x265q = some r → Q .normal ⟨action_begins_54.F0 b129 a0 a0A a0c x265q u261q, []⟩ w262q) (HX0_0 : ∀ (x397q : List Int) (u395q : Nat → Value) (w393q : World) (k394q : Kp No w w393q) (ho399q : Ow w (kInt .i64 3) w393q (some ⟨b129, 0, none⟩) (((a0.length : Int)).toNat) (((a0.length : Int)).toNat) x397q), brk0_0 x397q = some r → Q (.exit 0) ⟨action_begins_54.F0_0 b129 a0 u395q, []⟩ w393q) (x264 : List Int) (x265 : Int) (u261 : Nat → Value) (w262 : World) (k263 : Kp No w w262) (ho267 : Ow w (kInt .i64 3) w262 (some ⟨b129, 0, none⟩) (((a0.length : Int)).toNat) (((a0.length : Int)).toNat) x264) (H : action_begins_54.b0 a0 K next0 brk0_0 x264 x265 = some r) : (cd Try.f54 [1, 1, 0, 1, 0, 0]).wp Try.prog Q ⟨action_begins_54.F0 b129 a0 a0A a0c x265 u261, []⟩ w262 := by
  unfold action_begins_54.b0 at H
  refine w_seq (p := [1, 1, 0, 1, 0, 0]) (p0 := [1, 1, 0, 1, 0, 0, 0]) (p1 := [1, 1, 0, 1, 0, 0, 1]) (by kernel_rfl) ?_
  refine w_region (p := [1, 1, 0, 1, 0, 0, 0]) (id := 3) (by kernel_rfl) ?_
  refine r_vals 0 1 [.bool (decide (x265 < (a0.length : Int)))] (by kernel_rfl) (by kernel_rfl) ?_
  refine r_fin 1 (by kernel_rfl) ?_
  refine q_then ?_
  refine w_seq (p := [1, 1, 0, 1, 0, 0, 1]) (p0 := [1, 1, 0, 1, 0, 0, 1, 0]) (p1 := [1, 1, 0, 1, 0, 0, 1, 1]) (by kernel_rfl) ?_
  refine w_cond (p := [1, 1, 0, 1, 0, 0, 1, 0]) (p0 := [1, 1, 0, 1, 0, 0, 1, 0, 0]) (p1 := [1, 1, 0, 1, 0, 0, 1, 0, 1]) (c := (Operand.tmp 14)) (b := decide (x265 < (a0.length : Int))) (by kernel_rfl) (by kernel_rfl) ?_ ?_
  · intro h_
    have h268 : x265 < (a0.length : Int) := by simpa using h_
    clear h_
    rw [if_pos h268] at H
    refine w_skip (p := [1, 1, 0, 1, 0, 0, 1, 0, 0]) (by kernel_rfl) ?_
    refine q_then ?_
    refine w_seq (p := [1, 1, 0, 1, 0, 0, 1, 1]) (p0 := [1, 1, 0, 1, 0, 0, 1, 1, 0]) (p1 := [1, 1, 0, 1, 0, 0, 1, 1, 1]) (by kernel_rfl) ?_
    refine w_block (p := [1, 1, 0, 1, 0, 0, 1, 1, 0]) (p0 := [1, 1, 0, 1, 0, 0, 1, 1, 0, 0]) (id := 1) (by kernel_rfl) ?_
    refine w_seq (p := [1, 1, 0, 1, 0, 0, 1, 1, 0, 0]) (p0 := [1, 1, 0, 1, 0, 0, 1, 1, 0, 0, 0]) (p1 := [1, 1, 0, 1, 0, 0, 1, 1, 0, 0, 1]) (by kernel_rfl) ?_
    refine w_region (p := [1, 1, 0, 1, 0, 0, 1, 1, 0, 0, 0]) (id := 4) (by kernel_rfl) ?_
    refine r_vals 0 1 [.int .i64 x265] (by kernel_rfl) (by kernel_rfl) ?_
    refine p_split (0 ≤ x265) (fun h269 => ?_) (fun h269 => ?_)
    · rw [if_pos h269] at H
      refine r_do 1 (by kernel_rfl) (ow_index (K := (K32 33)) (T := 22) (e := 33) (sz := 6) (x := (Operand.tmp 11)) (y := (Operand.tmp 13)) (k := .i64) (n := a0.length) (c := a0c) (A := a0A) (xs := a0) (iv := x265) (by kernel_rfl) (by kernel_rfl) (by kernel_rfl) (by kernel_rfl) h269 h268 (Rd.kp a0r k263 (fun _ _ h => h)) rfl (by kernel_rfl) ?_) 
      refine r_do 2 (by kernel_rfl) (ow_loadE (K := (K32 33)) (T := 33) (x := (Operand.tmp 16)) (off := 0) (A := a0A) (n := a0.length) (xs := a0) (iv := x265) z32 (.agg #[.int .i64 (((rd z32 a0 x265)).f0), .int .i64 (((rd z32 a0 x265)).f1), .string (((rd z32 a0 x265)).f2), .string (((rd z32 a0 x265)).f3), .int .i64 (((rd z32 a0 x265)).f4.f0), .int .i64 (((rd z32 a0 x265)).f4.f1)]) (by kernel_rfl) (by kernel_rfl) (Rd.kp a0r k263 (fun _ _ h => h)) rfl h269 h268 (by kernel_rfl) ?_) 
      refine r_do 3 (by kernel_rfl) (og_alloc (T := 33) (cs := #[.int .i64 0, .int .i64 0, .string (⟨#[]⟩ : ByteArray), .string (⟨#[]⟩ : ByteArray), .int .i64 0, .int .i64 0]) (by kernel_rfl) (by kernel_rfl) ?_) 
      intro b273 w270 e274 hb272 k271
      have n275 := Ow.dj_block ho267 e274
      have g276 : w.heap.size ≤ b273 := by rw [e274]; exact Kp.size k263
      clear e274
      have k277 := Kp.trans k263 k271 (fun _ h => h.elim)
      have ho278 := Ow.kpNo ho267 k271
      refine r_vals 4 5 [.int .i64 x265] (by kernel_rfl) (by kernel_rfl) ?_
      refine r_do 5 (by kernel_rfl) (og_store (T := 33) (x := (Operand.tmp 5)) (y := (Operand.tmp 17)) (b := b273) (off := 0) (.agg #[.int .i64 (((rd z32 a0 x265)).f0), .int .i64 (((rd z32 a0 x265)).f1), .string (((rd z32 a0 x265)).f2), .string (((rd z32 a0 x265)).f3), .int .i64 (((rd z32 a0 x265)).f4.f0), .int .i64 (((rd z32 a0 x265)).f4.f1)]) (by kernel_rfl) (by kernel_rfl) (by kernel_rfl) hb272 (cs' := #[.int .i64 (((rd z32 a0 x265)).f0), .int .i64 (((rd z32 a0 x265)).f1), .string (((rd z32 a0 x265)).f2), .string (((rd z32 a0 x265)).f3), .int .i64 (((rd z32 a0 x265)).f4.f0), .int .i64 (((rd z32 a0 x265)).f4.f1)]) (by kernel_rfl) ?_) 
      intro w280 hb279 k281 _
      have k282 := Kp.trans k277 k281 (fun x hx => .inr (by rw [show x = _ from hx]; exact g276))
      have ho283 := Ow.kp ho278 k281 n275
      refine r_fin 6 (by kernel_rfl) ?_
      refine q_then ?_
      refine w_seq (p := [1, 1, 0, 1, 0, 0, 1, 1, 0, 0, 1]) (p0 := [1, 1, 0, 1, 0, 0, 1, 1, 0, 0, 1, 0]) (p1 := [1, 1, 0, 1, 0, 0, 1, 1, 0, 0, 1, 1]) (by kernel_rfl) ?_
      refine w_region (p := [1, 1, 0, 1, 0, 0, 1, 1, 0, 0, 1, 0]) (id := 5) (by kernel_rfl) ?_
      refine r_vals 0 2 [.int .i64 x265, .int .i64 x265] (by kernel_rfl) (by kernel_rfl) ?_
      refine r_fin 2 (by kernel_rfl) ?_
      refine q_then ?_
      refine w_seq (p := [1, 1, 0, 1, 0, 0, 1, 1, 0, 0, 1, 1]) (p0 := [1, 1, 0, 1, 0, 0, 1, 1, 0, 0, 1, 1, 0]) (p1 := [1, 1, 0, 1, 0, 0, 1, 1, 0, 0, 1, 1, 1]) (by kernel_rfl) ?_
      refine w_seq (p := [1, 1, 0, 1, 0, 0, 1, 1, 0, 0, 1, 1, 0]) (p0 := [1, 1, 0, 1, 0, 0, 1, 1, 0, 0, 1, 1, 0, 0]) (p1 := [1, 1, 0, 1, 0, 0, 1, 1, 0, 0, 1, 1, 0, 1]) (by kernel_rfl) ?_
      refine w_region (p := [1, 1, 0, 1, 0, 0, 1, 1, 0, 0, 1, 1, 0, 0]) (id := 6) (by kernel_rfl) ?_
      refine r_vals 0 1 [.pointer (some ⟨b273, 1, none⟩)] (by kernel_rfl) (by kernel_rfl) ?_
      refine r_do 1 (by kernel_rfl) (og_load (T := 3) (x := (Operand.tmp 19)) (b := b273) (off := 1) (.int .i64 (((rd z32 a0 x265)).f1)) (by kernel_rfl) (by kernel_rfl) hb279 (by kernel_rfl) ?_) 
      refine r_vals 2 4 [.bool (decide ((((rd z32 a0 x265)).f1) < 0)), .bool (decide ((((rd z32 a0 x265)).f1) < 0))] (by kernel_rfl) (by kernel_rfl) ?_
      refine b_split (decide ((((rd z32 a0 x265)).f1) < 0)) (fun h_ => ?_) (fun h_ => ?_)
      · have h284 : (((rd z32 a0 x265)).f1) < 0 := by simpa using h_
        rw [if_pos h284] at H
        rw [h_]
        clear h_
        refine r_vals 4 9 [undef, undef, undef, undef, .bool true] (by kernel_rfl) (by kernel_rfl) ?_
        refine r_fin 9 (by kernel_rfl) ?_
        refine q_then ?_
        refine w_into (action_begins_54.j1F b129 a0 x265 b273 a0A a0c true) (by kernel_rfl) (fun u_ => ?_)
        exact action_begins_54.j1.ok K a0A a0c a0 w a0r a0l r b129 x265 b273 next0 brk0_0 x264 HR HN0 HX0_0 true u_ w280 k282 hb279 g276 ho283 (Dj.symm n275) H
      · have h284 : ¬ ((((rd z32 a0 x265)).f1) < 0) := by simpa using h_
        rw [if_neg h284] at H
        rw [h_]
        clear h_
        refine r_vals 4 5 [.pointer (some ⟨b273, 1, none⟩)] (by kernel_rfl) (by kernel_rfl) ?_
        refine r_do 5 (by kernel_rfl) (og_load (T := 3) (x := (Operand.tmp 23)) (b := b273) (off := 1) (.int .i64 (((rd z32 a0 x265)).f1)) (by kernel_rfl) (by kernel_rfl) hb279 (by kernel_rfl) ?_) 
        refine r_vals 6 9 [.int .i64 x265, .bool (decide ((((rd z32 a0 x265)).f1) > x265)), .bool (decide ((((rd z32 a0 x265)).f1) > x265))] (by kernel_rfl) (by kernel_rfl) ?_
        refine r_fin 9 (by kernel_rfl) ?_
        refine q_then ?_
        refine w_into (action_begins_54.j1F b129 a0 x265 b273 a0A a0c (decide ((((rd z32 a0 x265)).f1) > x265))) (by kernel_rfl) (fun u_ => ?_)
        exact action_begins_54.j1.ok K a0A a0c a0 w a0r a0l r b129 x265 b273 next0 brk0_0 x264 HR HN0 HX0_0 (decide ((((rd z32 a0 x265)).f1) > x265)) u_ w280 k282 hb279 g276 ho283 (Dj.symm n275) H
    · rw [if_neg h269] at H
      cases H
  · intro h_
    have h268 : ¬ (x265 < (a0.length : Int)) := by simpa using h_
    clear h_
    rw [if_neg h268] at H
    refine w_exit (p := [1, 1, 0, 1, 0, 0, 1, 0, 1]) (id := 0) (by kernel_rfl) ?_
    refine q_then_x ?_
    refine q_into (action_begins_54.F0_0 b129 a0) (by kernel_rfl) (fun u_ => ?_)
    exact HX0_0 x264 u_ w262 k263 ho267 H
set_option maxRecDepth 20000 in
set_option maxHeartbeats 4000000 in
theorem action_begins_54.l0.ok (K : Nat) (a0A : Option Addr) (a0c : Nat) (a0 : List S32) (w : World) (a0r : Rd No w a0A ((K32 33).cells a0)) (a0l : a0.length ≤ a0c) (r : List Int) (b129 : Nat) {Q : Exit → Act → World → Prop} (HR : ∀ a w', bodyPost Try.prog Try.f54 (action_begins_54.R r w) .ret a w' → Q .ret a w') {brk0_0 : List Int → Option (List Int)} (HX0_0 : ∀ (x397q : List Int) (u395q : Nat → Value) (w393q : World) (k394q : Kp No w w393q) (ho399q : Ow w (kInt .i64 3) w393q (some ⟨b129, 0, none⟩) (((a0.length : Int)).toNat) (((a0.length : Int)).toNat) x397q), brk0_0 x397q = some r → Q (.exit 0) ⟨action_begins_54.F0_0 b129 a0 u395q, []⟩ w393q) : ∀ (n_ : Nat) (x264 : List Int) (x265 : Int) (u261 : Nat → Value) (w262 : World) (k263 : Kp No w w262) (ho267 : Ow w (kInt .i64 3) w262 (some ⟨b129, 0, none⟩) (((a0.length : Int)).toNat) (((a0.length : Int)).toNat) x264) (H : action_begins_54.l0 a0 K brk0_0 n_ x264 x265 = some r), Code.rounds Try.prog (cd Try.f54 [1, 1, 0, 1, 0, 0]) Q n_ ⟨action_begins_54.F0 b129 a0 a0A a0c x265 u261, []⟩ w262
  | 0, _, _, _, _, _, _, H => by cases H
  | n_ + 1, x264, x265, u261, w262, k263, ho267, H =>
    action_begins_54.b0.ok K a0A a0c a0 w a0r a0l r b129 (Q := Exit.then (Code.rounds Try.prog (cd Try.f54 [1, 1, 0, 1, 0, 0]) Q n_) Q) (fun a w' h_ => q_then_r (HR a w' h_)) (fun x0_ x1_ x2_ x3_ x4_ x5_ h_ => action_begins_54.l0.ok K a0A a0c a0 w a0r a0l r b129 HR HX0_0 n_ x0_ x1_ x2_ x3_ x4_ x5_ h_) (fun x0_ x1_ x2_ x3_ x4_ h_ => q_then_x (HX0_0 x0_ x1_ x2_ x3_ x4_ h_)) x264 x265 u261 w262 k263 ho267 H
set_option maxRecDepth 20000 in
set_option maxHeartbeats 4000000 in
theorem action_begins_54.ok (K : Nat) (a0A : Option Addr) (a0c : Nat) (a0 : List S32) (a0n : Nat) (w : World) (a0r : Rd No w a0A ((K32 33).cells a0)) (a0l : a0n ≤ a0c) (a0e : a0.length = a0n) (r : List Int) (H : action_begins_54.f K a0 = some r) : Calls Try.prog 54 #[.slice a0A a0n a0c] w (action_begins_54.R r w) := by
  subst a0e
  refine calls_cd (t := #[.slice a0A a0.length a0c, undef, undef, undef, undef, undef, undef, undef, undef, undef, undef, undef, undef, undef, undef, undef, undef, undef, undef, undef, undef, undef, undef, undef, undef, undef, undef, undef, undef, undef, undef, undef, undef, undef, undef, undef, undef, undef, undef, undef, undef, undef, undef, undef, undef, undef, undef, undef, undef, undef, undef, undef, undef, undef, undef, undef, undef, undef]) Try.func54 (by kernel_rfl) (by kernel_rfl) ?_
  unfold action_begins_54.f at H
  have HR : ∀ a w', bodyPost Try.prog Try.f54 (action_begins_54.R r w) .ret a w' → bodyPost Try.prog Try.f54 (action_begins_54.R r w) .ret a w' := fun _ _ h => h
  refine w_seq (p := []) (p0 := [0]) (p1 := [1]) (by kernel_rfl) ?_
  refine w_region (p := [0]) (id := 0) (by kernel_rfl) ?_
  refine r_vals 0 1 [.slice none 0 0] (by kernel_rfl) (by kernel_rfl) ?_
  refine r_fin 1 (by kernel_rfl) ?_
  refine q_then ?_
  refine w_seq (p := [1]) (p0 := [1, 0]) (p1 := [1, 1]) (by kernel_rfl) ?_
  refine w_region (p := [1, 0]) (id := 1) (by kernel_rfl) ?_
  refine r_vals 0 2 [.slice a0A a0.length a0c, .int .i64 (a0.length : Int)] (by kernel_rfl) (by kernel_rfl) ?_
  refine p_split (0 ≤ (a0.length : Int)) (fun h123 => ?_) (fun h123 => ?_)
  · rw [if_pos h123] at H
    refine p_split ((8 : Int) * (a0.length : Int) ≤ 281474976710656) (fun h124 => ?_) (fun h124 => ?_)
    · rw [if_pos h124] at H
      refine p_split ((a0.length : Int) ≤ 9223372036854775807) (fun h125 => ?_) (fun h125 => ?_)
      · rw [if_pos h125] at H
        refine r_do 2 (by kernel_rfl) (ow_make (K := (kInt .i64 3)) (w0 := w) (T := 24) (x := (Operand.tmp 9)) (y := (Operand.tmp 9)) (kl := .i64) (kc := .i64) (l := (a0.length : Int)) (c := (a0.length : Int)) 0 8 (by kernel_rfl) (by kernel_rfl) (by kernel_rfl) (by kernel_rfl) (by kernel_rfl) (by kernel_rfl) h123 (Int.le_refl _) h124 h125 (Kp.refl No w) ?_) 
        intro b129 w126 e130 ho128 k127
        clear e130
        have k132 := Kp.trans (Kp.refl No w) k127 (fun _ h => h.elim)
        refine r_vals 3 4 [.slice (some ⟨b129, 0, none⟩) (((a0.length : Int)).toNat) (((a0.length : Int)).toNat)] (by kernel_rfl) (by kernel_rfl) ?_
        refine r_fin 4 (by kernel_rfl) ?_
        refine q_then ?_
        refine w_seq (p := [1, 1]) (p0 := [1, 1, 0]) (p1 := [1, 1, 1]) (by kernel_rfl) ?_
        refine w_seq (p := [1, 1, 0]) (p0 := [1, 1, 0, 0]) (p1 := [1, 1, 0, 1]) (by kernel_rfl) ?_
        refine w_region (p := [1, 1, 0, 0]) (id := 2) (by kernel_rfl) ?_
        refine r_vals 0 3 [.slice a0A a0.length a0c, .int .i64 (a0.length : Int), .int .i64 0] (by kernel_rfl) (by kernel_rfl) ?_
        refine r_fin 3 (by kernel_rfl) ?_
        refine q_then ?_
        refine w_block (p := [1, 1, 0, 1]) (p0 := [1, 1, 0, 1, 0]) (id := 0) (by kernel_rfl) ?_
        refine w_into (action_begins_54.F0 b129 a0 a0A a0c 0) (by kernel_rfl) (fun u_ => ?_)
        refine w_loop (p := [1, 1, 0, 1, 0]) (p0 := [1, 1, 0, 1, 0, 0]) K (by kernel_rfl) ?_
        refine action_begins_54.l0.ok K a0A a0c a0 w a0r a0l r b129 (fun a w' h_ => q_in_r (q_then_r (HR a w' h_))) ?_ K (List.replicate ((a0.length : Int)).toNat 0) 0 u_ w126 k132 ho128 H
        intro x397 u395 w393 k394 ho399 H
        try dsimp only at H
        refine q_in_hit ?_
        refine q_then ?_
        refine w_seq (p := [1, 1, 1]) (p0 := [1, 1, 1, 0]) (p1 := [1, 1, 1, 1]) (by kernel_rfl) ?_
        refine w_region (p := [1, 1, 1, 0]) (id := 16) (by kernel_rfl) ?_
        refine r_vals 0 2 [.slice (some ⟨b129, 0, none⟩) (((a0.length : Int)).toNat) (((a0.length : Int)).toNat), .slice (some ⟨b129, 0, none⟩) (((a0.length : Int)).toNat) (((a0.length : Int)).toNat)] (by kernel_rfl) (by kernel_rfl) ?_
        refine r_fin 2 (by kernel_rfl) ?_
        refine q_then ?_
        refine w_ret (p := [1, 1, 1, 1]) (by kernel_rfl) ?_
        obtain rfl := Option.some.inj H
        refine HR _ _ (body_ret (vs := [.slice (some ⟨b129, 0, none⟩) (((a0.length : Int)).toNat) (((a0.length : Int)).toNat)]) (rv_tmp (by kernel_rfl) rfl) rfl ?_)
        exact ⟨(some ⟨b129, 0, none⟩), ((a0.length : Int)).toNat, ((a0.length : Int)).toNat, rfl, k394, ho399⟩
      · rw [if_neg h125] at H
        cases H
    · rw [if_neg h124] at H
      cases H
  · rw [if_neg h123] at H
    cases H
/-! ### dowel/action.Parts -/
def action_Parts_13.j0F (a0A : Option Addr) (a0 : List S32) (a0c : Nat) (a1 : Int) (x404 : Bool) (u_ : Nat → Value) : Array Value := #[.slice a0A a0.length a0c, .int .i64 a1, u_ 2, u_ 3, u_ 4, u_ 5, u_ 6, u_ 7, u_ 8, u_ 9, u_ 10, u_ 11, .bool x404, u_ 13, u_ 14, u_ 15, u_ 16, u_ 17, u_ 18, u_ 19, u_ 20]
def action_Parts_13.j0 (a1 : Int) (a0 : List S32) (K : Nat) (x404 : Bool) : Option (List Int) := if x404 = true then (some ([] : List Int)) else (if 0 ≤ (W (a1 + 1)) then (if (W (a1 + 1)) ≤ (a0.length : Int) then ((action_begins_54.f K ((a0.take (W (a1 + 1)).toNat).drop ((0 : Int)).toNat)).bind fun t413 => ((action_parts_53.f K a0 t413 a1).bind fun t424 => (some t424))) else none) else none)
def action_Parts_13.f (K : Nat) (a0 : List S32) (a1 : Int) : Option (List Int) := if a1 < 0 then (action_Parts_13.j0 a1 a0 K true) else (action_Parts_13.j0 a1 a0 K (decide (a1 ≥ (a0.length : Int))))
def action_Parts_13.R (r : List Int) (w : World) : Ending → World → Prop := fun e w' => ∃ (A0 : Option Addr) (n0 c0 : Nat), e = .returned (.slice A0 n0 c0) ∧ Kp No w w' ∧ Ow w (kInt .i64 3) w' A0 n0 c0 r
set_option maxRecDepth 20000 in
set_option maxHeartbeats 4000000 in
theorem action_Parts_13.j0.ok (K : Nat) (a0A : Option Addr) (a0c : Nat) (a0 : List S32) (a1 : Int) (w : World) (a0r : Rd No w a0A ((K32 33).cells a0)) (a0l : a0.length ≤ a0c) (r : List Int) {Q : Exit → Act → World → Prop}  (HR : ∀ a w', bodyPost Try.prog Try.f13 (action_Parts_13.R r w) .ret a w' → Q .ret a w')  (x404 : Bool) (u403 : Nat → Value) (w401 : World) (k402 : Kp No w w401)  (H : action_Parts_13.j0 a1 a0 K x404 = some r) : (cd Try.f13 [1, 0, 1]).wp Try.prog (Exit.then (fun a w => (cd Try.f13 [1, 1]).wp Try.prog Q a w) Q) ⟨action_Parts_13.j0F a0A a0 a0c a1 x404 u403, []⟩ w401 := by
  unfold action_Parts_13.j0 at H
  refine w_cond (p := [1, 0, 1]) (p0 := [1, 0, 1, 0]) (p1 := [1, 0, 1, 1]) (c := (Operand.tmp 12)) (b := x404) (by kernel_rfl) (by kernel_rfl) ?_ ?_
  · intro h_
    have h405 : x404 = true := h_
    clear h_
    rw [if_pos h405] at H
    refine w_seq (p := [1, 0, 1, 0]) (p0 := [1, 0, 1, 0, 0]) (p1 := [1, 0, 1, 0, 1]) (by kernel_rfl) ?_
    refine w_region (p := [1, 0, 1, 0, 0]) (id := 2) (by kernel_rfl) ?_
    refine r_vals 0 1 [.slice none 0 0] (by kernel_rfl) (by kernel_rfl) ?_
    refine r_fin 1 (by kernel_rfl) ?_
    refine q_then ?_
    refine w_ret (p := [1, 0, 1, 0, 1]) (by kernel_rfl) ?_
    refine q_then_r ?_
    obtain rfl := Option.some.inj H
    refine HR _ _ (body_ret (vs := [.slice none 0 0]) (rv_tmp (by kernel_rfl) rfl) rfl ?_)
    exact ⟨none, 0, 0, rfl, k402, (Ow.nil w (kInt .i64 3) w401)⟩
  · intro h_
    have h405 : ¬ (x404 = true) := by rw [h_]; decide
    clear h_
    rw [if_neg h405] at H
    refine w_skip (p := [1, 0, 1, 1]) (by kernel_rfl) ?_
    refine q_then ?_
    refine w_seq (p := [1, 1]) (p0 := [1, 1, 0]) (p1 := [1, 1, 1]) (by kernel_rfl) ?_
    refine w_region (p := [1, 1, 0]) (id := 3) (by kernel_rfl) ?_
    refine r_vals 0 4 [.slice a0A a0.length a0c, .slice a0A a0.length a0c, .int .i64 a1, .int .i64 (W (a1 + 1))] (by kernel_rfl) (by kernel_rfl) ?_
    refine p_split (0 ≤ (W (a1 + 1))) (fun h407 => ?_) (fun h407 => ?_)
    · rw [if_pos h407] at H
      refine p_split ((W (a1 + 1)) ≤ (a0.length : Int)) (fun h408 => ?_) (fun h408 => ?_)
      · rw [if_pos h408] at H
        refine r_do 4 (by kernel_rfl) (og_rcut (K := (K32 33)) (w0 := w) (T := 22) (x := (Operand.tmp 14)) (lo := none) (hi := (some (Operand.tmp 16))) (xs := a0) (A := a0A) (c := a0c) (l := 0) (h := (W (a1 + 1))) (kl := .i64) (kh := .i64) (by kernel_rfl) (by kernel_rfl) (by kernel_rfl) (by kernel_rfl) (by kernel_rfl) (by omega) h407 h408 a0l a0r ?_) 
        intro A409 c410 hr411 hl412
        obtain ⟨t413, ht414, H⟩ := Option.bind_eq_some_iff.1 H
        refine r_do 5 (by kernel_rfl) (og_call (g := 54) (av := #[.slice A409 (((a0.take (W (a1 + 1)).toNat).drop ((0 : Int)).toNat).length) c410]) (by kernel_rfl) ?_) 
        refine (action_begins_54.ok K A409 c410 ((a0.take (W (a1 + 1)).toNat).drop ((0 : Int)).toNat) (((a0.take (W (a1 + 1)).toNat).drop ((0 : Int)).toNat).length) w401 (Rd.kp hr411 k402 (fun _ _ h => h)) hl412 rfl t413 ht414).mono ?_
        rintro e w415 ⟨A418, n421, c419, rfl, k416, ho422⟩
        obtain rfl := ho422.len
        refine ⟨_, rfl, ?_⟩
        have ho420 := Ow.base ho422 k402
        have k423 := Kp.trans k402 k416 (fun _ h => h.elim)
        refine r_vals 6 7 [.int .i64 a1] (by kernel_rfl) (by kernel_rfl) ?_
        obtain ⟨t424, ht425, H⟩ := Option.bind_eq_some_iff.1 H
        refine r_do 7 (by kernel_rfl) (og_call (g := 53) (av := #[.slice a0A a0.length a0c, .slice A418 t413.length c419, .int .i64 a1]) (by kernel_rfl) ?_) 
        refine (action_parts_53.ok K a0A a0c a0 A418 c419 t413 a1 a0.length t413.length w415 (Rd.kp a0r k423 (fun _ _ h => h)) a0l (Ow.rdNo ho420) (Ow.cap ho420) rfl (Ow.len ho420) t424 ht425).mono ?_
        rintro e w426 ⟨A429, n432, c430, rfl, k427, ho433⟩
        obtain rfl := ho433.len
        refine ⟨_, rfl, ?_⟩
        have n434 := Ow.dj_call ho420 ho433
        have ho431 := Ow.base ho433 k423
        have k435 := Kp.trans k423 k427 (fun _ h => h.elim)
        have ho436 := Ow.kpNo ho420 k427
        refine r_vals 8 9 [.slice A429 t424.length c430] (by kernel_rfl) (by kernel_rfl) ?_
        refine r_fin 9 (by kernel_rfl) ?_
        refine q_then ?_
        refine w_ret (p := [1, 1, 1]) (by kernel_rfl) ?_
        obtain rfl := Option.some.inj H
        refine HR _ _ (body_ret (vs := [.slice A429 t424.length c430]) (rv_tmp (by kernel_rfl) rfl) rfl ?_)
        exact ⟨A429, t424.length, c430, rfl, k435, ho431⟩
      · rw [if_neg h408] at H
        cases H
    · rw [if_neg h407] at H
      cases H
set_option maxRecDepth 20000 in
set_option maxHeartbeats 4000000 in
theorem action_Parts_13.ok (K : Nat) (a0A : Option Addr) (a0c : Nat) (a0 : List S32) (a1 : Int) (a0n : Nat) (w : World) (a0r : Rd No w a0A ((K32 33).cells a0)) (a0l : a0n ≤ a0c) (a0e : a0.length = a0n) (r : List Int) (H : action_Parts_13.f K a0 a1 = some r) : Calls Try.prog 13 #[.slice a0A a0n a0c, .int .i64 a1] w (action_Parts_13.R r w) := by
  subst a0e
  refine calls_cd (t := #[.slice a0A a0.length a0c, .int .i64 a1, undef, undef, undef, undef, undef, undef, undef, undef, undef, undef, undef, undef, undef, undef, undef, undef, undef, undef, undef]) Try.func13 (by kernel_rfl) (by kernel_rfl) ?_
  unfold action_Parts_13.f at H
  have HR : ∀ a w', bodyPost Try.prog Try.f13 (action_Parts_13.R r w) .ret a w' → bodyPost Try.prog Try.f13 (action_Parts_13.R r w) .ret a w' := fun _ _ h => h
  refine w_seq (p := []) (p0 := [0]) (p1 := [1]) (by kernel_rfl) ?_
  refine w_region (p := [0]) (id := 0) (by kernel_rfl) ?_
  refine r_vals 0 1 [.slice none 0 0] (by kernel_rfl) (by kernel_rfl) ?_
  refine r_fin 1 (by kernel_rfl) ?_
  refine q_then ?_
  refine w_seq (p := [1]) (p0 := [1, 0]) (p1 := [1, 1]) (by kernel_rfl) ?_
  refine w_seq (p := [1, 0]) (p0 := [1, 0, 0]) (p1 := [1, 0, 1]) (by kernel_rfl) ?_
  refine w_region (p := [1, 0, 0]) (id := 1) (by kernel_rfl) ?_
  refine r_vals 0 3 [.int .i64 a1, .bool (decide (a1 < 0)), .bool (decide (a1 < 0))] (by kernel_rfl) (by kernel_rfl) ?_
  refine b_split (decide (a1 < 0)) (fun h_ => ?_) (fun h_ => ?_)
  · have h400 : a1 < 0 := by simpa using h_
    rw [if_pos h400] at H
    rw [h_]
    clear h_
    refine r_vals 3 8 [undef, undef, undef, undef, .bool true] (by kernel_rfl) (by kernel_rfl) ?_
    refine r_fin 8 (by kernel_rfl) ?_
    refine q_then ?_
    refine w_into (action_Parts_13.j0F a0A a0 a0c a1 true) (by kernel_rfl) (fun u_ => ?_)
    exact action_Parts_13.j0.ok K a0A a0c a0 a1 w a0r a0l r  HR  true u_ w (Kp.refl No w)  H
  · have h400 : ¬ (a1 < 0) := by simpa using h_
    rw [if_neg h400] at H
    rw [h_]
    clear h_
    refine r_vals 3 8 [.int .i64 a1, .slice a0A a0.length a0c, .int .i64 (a0.length : Int), .bool (decide (a1 ≥ (a0.length : Int))), .bool (decide (a1 ≥ (a0.length : Int)))] (by kernel_rfl) (by kernel_rfl) ?_
    refine r_fin 8 (by kernel_rfl) ?_
    refine q_then ?_
    refine w_into (action_Parts_13.j0F a0A a0 a0c a1 (decide (a1 ≥ (a0.length : Int)))) (by kernel_rfl) (fun u_ => ?_)
    exact action_Parts_13.j0.ok K a0A a0c a0 a1 w a0r a0l r  HR  (decide (a1 ≥ (a0.length : Int))) u_ w (Kp.refl No w)  H
/-! ### dowel/dowelref24.parts -/
def dowelref24_parts_55.F1 (a1A : Option Addr) (a1 : List Int) (a1c : Nat) (b455 : Nat) (a0 : List S32) (a2 : Int) (x477 : Int) (x478 : Int) (u_ : Nat → Value) : Array Value := #[u_ 0, .slice a1A a1.length a1c, u_ 2, u_ 3, u_ 4, u_ 5, u_ 6, .slice (some ⟨b455, 0, none⟩) ((((rd z32 a0 a2)).f1).toNat) ((((rd z32 a0 a2)).f1).toNat), .int .i64 x477, .int .i64 x478, u_ 10, u_ 11, u_ 12, u_ 13, u_ 14, u_ 15, u_ 16, u_ 17, u_ 18, u_ 19, u_ 20, u_ 21, u_ 22, u_ 23, u_ 24, u_ 25, u_ 26, u_ 27, u_ 28, u_ 29, u_ 30, u_ 31, u_ 32, u_ 33, u_ 34, u_ 35, u_ 36, u_ 37, u_ 38, u_ 39, u_ 40, u_ 41, u_ 42, u_ 43, u_ 44, u_ 45, u_ 46, u_ 47, u_ 48, u_ 49, u_ 50, u_ 51, u_ 52]
def dowelref24_parts_55.F1_0 (b455 : Nat) (a0 : List S32) (a2 : Int) (u_ : Nat → Value) : Array Value := #[u_ 0, u_ 1, u_ 2, u_ 3, u_ 4, u_ 5, u_ 6, .slice (some ⟨b455, 0, none⟩) ((((rd z32 a0 a2)).f1).toNat) ((((rd z32 a0 a2)).f1).toNat), u_ 8, u_ 9, u_ 10, u_ 11, u_ 12, u_ 13, u_ 14, u_ 15, u_ 16, u_ 17, u_ 18, u_ 19, u_ 20, u_ 21, u_ 22, u_ 23, u_ 24, u_ 25, u_ 26, u_ 27, u_ 28, u_ 29, u_ 30, u_ 31, u_ 32, u_ 33, u_ 34, u_ 35, u_ 36, u_ 37, u_ 38, u_ 39, u_ 40, u_ 41, u_ 42, u_ 43, u_ 44, u_ 45, u_ 46, u_ 47, u_ 48, u_ 49, u_ 50, u_ 51, u_ 52]
def dowelref24_parts_55.b1 (a0 : List S32) (a2 : Int) (a1 : List Int) (next1 : List Int → Int → Int → Option (List Int)) (brk1_0 : List Int → Option (List Int)) (x476 : List Int) (x477 : Int) (x478 : Int) : Option (List Int) := if x478 ≥ 0 then (if 0 ≤ x478 then (if x478 < ((((rd z32 a0 a2)).f1).toNat : Int) then (if 0 ≤ (W (x477 - 1)) then (if (W (x477 - 1)) < (a1.length : Int) then (next1 (stored x476 x478 (W (x477 - 1))) (rd 0 a1 (W (x477 - 1))) (W (x478 - 1))) else none) else none) else none) else none) else (brk1_0 x476)
def dowelref24_parts_55.l1 (a0 : List S32) (a2 : Int) (a1 : List Int) (brk1_0 : List Int → Option (List Int)) : Nat → List Int → Int → Int → Option (List Int)
  | 0, _, _, _ => none
  | n_ + 1, x476, x477, x478 => dowelref24_parts_55.b1 a0 a2 a1 (dowelref24_parts_55.l1 a0 a2 a1 brk1_0 n_) brk1_0 x476 x477 x478
def dowelref24_parts_55.j0F (a0A : Option Addr) (a0 : List S32) (a0c : Nat) (a1A : Option Addr) (a1 : List Int) (a1c : Nat) (a2 : Int) (x444 : Bool) (u_ : Nat → Value) : Array Value := #[.slice a0A a0.length a0c, .slice a1A a1.length a1c, .int .i64 a2, u_ 3, u_ 4, u_ 5, u_ 6, u_ 7, u_ 8, u_ 9, u_ 10, u_ 11, u_ 12, u_ 13, u_ 14, u_ 15, u_ 16, u_ 17, u_ 18, u_ 19, u_ 20, u_ 21, u_ 22, u_ 23, .bool x444, u_ 25, u_ 26, u_ 27, u_ 28, u_ 29, u_ 30, u_ 31, u_ 32, u_ 33, u_ 34, u_ 35, u_ 36, u_ 37, u_ 38, u_ 39, u_ 40, u_ 41, u_ 42, u_ 43, u_ 44, u_ 45, u_ 46, u_ 47, u_ 48, u_ 49, u_ 50, u_ 51, u_ 52]
def dowelref24_parts_55.j0 (a2 : Int) (a0 : List S32) (a1 : List Int) (K : Nat) (x444 : Bool) : Option (List Int) := if x444 = true then (some ([] : List Int)) else (if 0 ≤ a2 then (if a2 < (a0.length : Int) then (if 0 ≤ (((rd z32 a0 a2)).f1) then (if (8 : Int) * (((rd z32 a0 a2)).f1) ≤ 281474976710656 then (if (((rd z32 a0 a2)).f1) ≤ 9223372036854775807 then (dowelref24_parts_55.l1 a0 a2 a1 (fun x494 => some x494) K (List.replicate (((rd z32 a0 a2)).f1).toNat 0) a2 (W ((((rd z32 a0 a2)).f1) - 1))) else none) else none) else none) else none) else none)
def dowelref24_parts_55.f (K : Nat) (a0 : List S32) (a1 : List Int) (a2 : Int) : Option (List Int) := if a2 < 0 then (dowelref24_parts_55.j0 a2 a0 a1 K true) else (if a2 ≥ (a0.length : Int) then (dowelref24_parts_55.j0 a2 a0 a1 K true) else (if 0 ≤ a2 then (if a2 < (a1.length : Int) then (dowelref24_parts_55.j0 a2 a0 a1 K (decide ((rd 0 a1 a2) < 0))) else none) else none))
def dowelref24_parts_55.R (r : List Int) (w : World) : Ending → World → Prop := fun e w' => ∃ (A0 : Option Addr) (n0 c0 : Nat), e = .returned (.slice A0 n0 c0) ∧ Kp No w w' ∧ Ow w (kInt .i64 3) w' A0 n0 c0 r
set_option maxRecDepth 20000 in
set_option maxHeartbeats 4000000 in
theorem dowelref24_parts_55.b1.ok (K : Nat) (a0A : Option Addr) (a0c : Nat) (a0 : List S32) (a1A : Option Addr) (a1c : Nat) (a1 : List Int) (a2 : Int) (w : World) (a0r : Rd No w a0A ((K32 33).cells a0)) (a0l : a0.length ≤ a0c) (a1r : Rd No w a1A ((kInt .i64 3).cells a1)) (a1l : a1.length ≤ a1c) (r : List Int) (b455 : Nat) {Q : Exit → Act → World → Prop} (HR : ∀ a w', bodyPost Try.prog Try.f55 (dowelref24_parts_55.R r w) .ret a w' → Q .ret a w') {next1 : List Int → Int → Int → Option (List Int)} {brk1_0 : List Int → Option (List Int)} (HN1 : ∀ (x476q : List Int) (x477q : Int) (x478q : Int) (u473q : Nat → Value) (w474q : World) (k475q : Kp No w w474q) (ho480q : Ow w (kInt .i64 3) w474q (some ⟨b455, 0, none⟩) ((((rd z32 a0 a2)).f1).toNat) ((((rd z32 a0 a2)).f1).toNat) x476q), next1 x476q x477q x478q = some r → Q .normal ⟨dowelref24_parts_55.F1 a1A a1 a1c b455 a0 a2 x477q x478q u473q, []⟩ w474q) (HX1_0 : ∀ (x494q : List Int) (u492q : Nat → Value) (w490q : World) (k491q : Kp No w w490q) (ho496q : Ow w (kInt .i64 3) w490q (some ⟨b455, 0, none⟩) ((((rd z32 a0 a2)).f1).toNat) ((((rd z32 a0 a2)).f1).toNat) x494q), brk1_0 x494q = some r → Q (.exit 0) ⟨dowelref24_parts_55.F1_0 b455 a0 a2 u492q, []⟩ w490q) (x476 : List Int) (x477 : Int) (x478 : Int) (u473 : Nat → Value) (w474 : World) (k475 : Kp No w w474) (ho480 : Ow w (kInt .i64 3) w474 (some ⟨b455, 0, none⟩) ((((rd z32 a0 a2)).f1).toNat) ((((rd z32 a0 a2)).f1).toNat) x476) (H : dowelref24_parts_55.b1 a0 a2 a1 next1 brk1_0 x476 x477 x478 = some r) : (cd Try.f55 [1, 1, 1, 1, 0, 1, 0, 0]).wp Try.prog Q ⟨dowelref24_parts_55.F1 a1A a1 a1c b455 a0 a2 x477 x478 u473, []⟩ w474 := by
  unfold dowelref24_parts_55.b1 at H
  refine w_seq (p := [1, 1, 1, 1, 0, 1, 0, 0]) (p0 := [1, 1, 1, 1, 0, 1, 0, 0, 0]) (p1 := [1, 1, 1, 1, 0, 1, 0, 0, 1]) (by kernel_rfl) ?_
  refine w_seq (p := [1, 1, 1, 1, 0, 1, 0, 0, 0]) (p0 := [1, 1, 1, 1, 0, 1, 0, 0, 0, 0]) (p1 := [1, 1, 1, 1, 0, 1, 0, 0, 0, 1]) (by kernel_rfl) ?_
  refine w_region (p := [1, 1, 1, 1, 0, 1, 0, 0, 0, 0]) (id := 6) (by kernel_rfl) ?_
  refine r_vals 0 2 [.int .i64 x478, .bool (decide (x478 ≥ 0))] (by kernel_rfl) (by kernel_rfl) ?_
  refine r_fin 2 (by kernel_rfl) ?_
  refine q_then ?_
  refine w_cond (p := [1, 1, 1, 1, 0, 1, 0, 0, 0, 1]) (p0 := [1, 1, 1, 1, 0, 1, 0, 0, 0, 1, 0]) (p1 := [1, 1, 1, 1, 0, 1, 0, 0, 0, 1, 1]) (c := (Operand.tmp 39)) (b := decide (x478 ≥ 0)) (by kernel_rfl) (by kernel_rfl) ?_ ?_
  · intro h_
    have h481 : x478 ≥ 0 := by simpa using h_
    clear h_
    rw [if_pos h481] at H
    refine w_skip (p := [1, 1, 1, 1, 0, 1, 0, 0, 0, 1, 0]) (by kernel_rfl) ?_
    refine q_then ?_
    refine w_seq (p := [1, 1, 1, 1, 0, 1, 0, 0, 1]) (p0 := [1, 1, 1, 1, 0, 1, 0, 0, 1, 0]) (p1 := [1, 1, 1, 1, 0, 1, 0, 0, 1, 1]) (by kernel_rfl) ?_
    refine w_block (p := [1, 1, 1, 1, 0, 1, 0, 0, 1, 0]) (p0 := [1, 1, 1, 1, 0, 1, 0, 0, 1, 0, 0]) (id := 1) (by kernel_rfl) ?_
    refine w_seq (p := [1, 1, 1, 1, 0, 1, 0, 0, 1, 0, 0]) (p0 := [1, 1, 1, 1, 0, 1, 0, 0, 1, 0, 0, 0]) (p1 := [1, 1, 1, 1, 0, 1, 0, 0, 1, 0, 0, 1]) (by kernel_rfl) ?_
    refine w_region (p := [1, 1, 1, 1, 0, 1, 0, 0, 1, 0, 0, 0]) (id := 8) (by kernel_rfl) ?_
    refine r_vals 0 4 [.slice (some ⟨b455, 0, none⟩) ((((rd z32 a0 a2)).f1).toNat) ((((rd z32 a0 a2)).f1).toNat), .int .i64 x478, .int .i64 x477, .int .i64 (W (x477 - 1))] (by kernel_rfl) (by kernel_rfl) ?_
    refine p_split (0 ≤ x478) (fun h482 => ?_) (fun h482 => ?_)
    · rw [if_pos h482] at H
      refine p_split (x478 < ((((rd z32 a0 a2)).f1).toNat : Int)) (fun h483 => ?_) (fun h483 => ?_)
      · rw [if_pos h483] at H
        refine r_do 4 (by kernel_rfl) (ow_index (K := (kInt .i64 3)) (T := 24) (e := 3) (sz := 1) (x := (Operand.tmp 42)) (y := (Operand.tmp 43)) (k := .i64) (n := ((((rd z32 a0 a2)).f1).toNat)) (c := ((((rd z32 a0 a2)).f1).toNat)) (A := (some ⟨b455, 0, none⟩)) (xs := x476) (iv := x478) (by kernel_rfl) (by kernel_rfl) (by kernel_rfl) (by kernel_rfl) h482 h483 (Ow.rdNo ho480) (Ow.len ho480) (by kernel_rfl) ?_) 
        refine r_do 5 (by kernel_rfl) (ow_storeE (K := (kInt .i64 3)) (T := 3) (x := (Operand.tmp 46)) (y := (Operand.tmp 45)) (off := 0) (n := ((((rd z32 a0 a2)).f1).toNat)) (iv := x478) (A := (some ⟨b455, 0, none⟩)) (c := ((((rd z32 a0 a2)).f1).toNat)) (xs := x476) 0 (W (x477 - 1)) (.int .i64 (W (x477 - 1))) (by kernel_rfl) (by kernel_rfl) (by kernel_rfl) ho480 h482 h483 (by kernel_rfl) ?_) 
        intro w484 ho486 k485
        have k487 := Kp.own ho480 k475 k485
        refine r_fin 6 (by kernel_rfl) ?_
        refine q_then ?_
        refine w_region (p := [1, 1, 1, 1, 0, 1, 0, 0, 1, 0, 0, 1]) (id := 9) (by kernel_rfl) ?_
        refine r_vals 0 3 [.slice a1A a1.length a1c, .int .i64 x477, .int .i64 (W (x477 - 1))] (by kernel_rfl) (by kernel_rfl) ?_
        refine p_split (0 ≤ (W (x477 - 1))) (fun h488 => ?_) (fun h488 => ?_)
        · rw [if_pos h488] at H
          refine p_split ((W (x477 - 1)) < (a1.length : Int)) (fun h489 => ?_) (fun h489 => ?_)
          · rw [if_pos h489] at H
            refine r_do 3 (by kernel_rfl) (ow_index (K := (kInt .i64 3)) (T := 24) (e := 3) (sz := 1) (x := (Operand.tmp 47)) (y := (Operand.tmp 49)) (k := .i64) (n := a1.length) (c := a1c) (A := a1A) (xs := a1) (iv := (W (x477 - 1))) (by kernel_rfl) (by kernel_rfl) (by kernel_rfl) (by kernel_rfl) h488 h489 (Rd.kp a1r k487 (fun _ _ h => h)) rfl (by kernel_rfl) ?_) 
            refine r_do 4 (by kernel_rfl) (ow_loadE (K := (kInt .i64 3)) (T := 3) (x := (Operand.tmp 50)) (off := 0) (A := a1A) (n := a1.length) (xs := a1) (iv := (W (x477 - 1))) 0 (.int .i64 (rd 0 a1 (W (x477 - 1)))) (by kernel_rfl) (by kernel_rfl) (Rd.kp a1r k487 (fun _ _ h => h)) rfl h488 h489 (by kernel_rfl) ?_) 
            refine r_vals 5 6 [.int .i64 (rd 0 a1 (W (x477 - 1)))] (by kernel_rfl) (by kernel_rfl) ?_
            refine r_fin 6 (by kernel_rfl) ?_
            refine q_in ?_
            refine q_then ?_
            refine w_region (p := [1, 1, 1, 1, 0, 1, 0, 0, 1, 1]) (id := 7) (by kernel_rfl) ?_
            refine r_vals 0 3 [.int .i64 x478, .int .i64 (W (x478 - 1)), .int .i64 (W (x478 - 1))] (by kernel_rfl) (by kernel_rfl) ?_
            refine r_fin 3 (by kernel_rfl) ?_
            refine q_into (dowelref24_parts_55.F1 a1A a1 a1c b455 a0 a2 (rd 0 a1 (W (x477 - 1))) (W (x478 - 1))) (by kernel_rfl) (fun u_ => ?_)
            exact HN1 (stored x476 x478 (W (x477 - 1))) (rd 0 a1 (W (x477 - 1))) (W (x478 - 1)) u_ w484 k487 ho486 H
          · rw [if_neg h489] at H
            cases H
        · rw [if_neg h488] at H
          cases H
      · rw [if_neg h483] at H
        cases H
    · rw [if_neg h482] at H
      cases H
  · intro h_
    have h481 : ¬ (x478 ≥ 0) := by simpa using h_
    clear h_
    rw [if_neg h481] at H
    refine w_exit (p := [1, 1, 1, 1, 0, 1, 0, 0, 0, 1, 1]) (id := 0) (by kernel_rfl) ?_
    refine q_then_x ?_
    refine q_into (dowelref24_parts_55.F1_0 b455 a0 a2) (by kernel_rfl) (fun u_ => ?_)
    exact HX1_0 x476 u_ w474 k475 ho480 H
set_option maxRecDepth 20000 in
set_option maxHeartbeats 4000000 in
theorem dowelref24_parts_55.l1.ok (K : Nat) (a0A : Option Addr) (a0c : Nat) (a0 : List S32) (a1A : Option Addr) (a1c : Nat) (a1 : List Int) (a2 : Int) (w : World) (a0r : Rd No w a0A ((K32 33).cells a0)) (a0l : a0.length ≤ a0c) (a1r : Rd No w a1A ((kInt .i64 3).cells a1)) (a1l : a1.length ≤ a1c) (r : List Int) (b455 : Nat) {Q : Exit → Act → World → Prop} (HR : ∀ a w', bodyPost Try.prog Try.f55 (dowelref24_parts_55.R r w) .ret a w' → Q .ret a w') {brk1_0 : List Int → Option (List Int)} (HX1_0 : ∀ (x494q : List Int) (u492q : Nat → Value) (w490q : World) (k491q : Kp No w w490q) (ho496q : Ow w (kInt .i64 3) w490q (some ⟨b455, 0, none⟩) ((((rd z32 a0 a2)).f1).toNat) ((((rd z32 a0 a2)).f1).toNat) x494q), brk1_0 x494q = some r → Q (.exit 0) ⟨dowelref24_parts_55.F1_0 b455 a0 a2 u492q, []⟩ w490q) : ∀ (n_ : Nat) (x476 : List Int) (x477 : Int) (x478 : Int) (u473 : Nat → Value) (w474 : World) (k475 : Kp No w w474) (ho480 : Ow w (kInt .i64 3) w474 (some ⟨b455, 0, none⟩) ((((rd z32 a0 a2)).f1).toNat) ((((rd z32 a0 a2)).f1).toNat) x476) (H : dowelref24_parts_55.l1 a0 a2 a1 brk1_0 n_ x476 x477 x478 = some r), Code.rounds Try.prog (cd Try.f55 [1, 1, 1, 1, 0, 1, 0, 0]) Q n_ ⟨dowelref24_parts_55.F1 a1A a1 a1c b455 a0 a2 x477 x478 u473, []⟩ w474
  | 0, _, _, _, _, _, _, _, H => by cases H
  | n_ + 1, x476, x477, x478, u473, w474, k475, ho480, H =>
    dowelref24_parts_55.b1.ok K a0A a0c a0 a1A a1c a1 a2 w a0r a0l a1r a1l r b455 (Q := Exit.then (Code.rounds Try.prog (cd Try.f55 [1, 1, 1, 1, 0, 1, 0, 0]) Q n_) Q) (fun a w' h_ => q_then_r (HR a w' h_)) (fun x0_ x1_ x2_ x3_ x4_ x5_ x6_ h_ => dowelref24_parts_55.l1.ok K a0A a0c a0 a1A a1c a1 a2 w a0r a0l a1r a1l r b455 HR HX1_0 n_ x0_ x1_ x2_ x3_ x4_ x5_ x6_ h_) (fun x0_ x1_ x2_ x3_ x4_ h_ => q_then_x (HX1_0 x0_ x1_ x2_ x3_ x4_ h_)) x476 x477 x478 u473 w474 k475 ho480 H
set_option maxRecDepth 20000 in
set_option maxHeartbeats 4000000 in
theorem dowelref24_parts_55.j0.ok (K : Nat) (a0A : Option Addr) (a0c : Nat) (a0 : List S32) (a1A : Option Addr) (a1c : Nat) (a1 : List Int) (a2 : Int) (w : World) (a0r : Rd No w a0A ((K32 33).cells a0)) (a0l : a0.length ≤ a0c) (a1r : Rd No w a1A ((kInt .i64 3).cells a1)) (a1l : a1.length ≤ a1c) (r : List Int) {Q : Exit → Act → World → Prop}  (HR : ∀ a w', bodyPost Try.prog Try.f55 (dowelref24_parts_55.R r w) .ret a w' → Q .ret a w')  (x444 : Bool) (u443 : Nat → Value) (w441 : World) (k442 : Kp No w w441)  (H : dowelref24_parts_55.j0 a2 a0 a1 K x444 = some r) : (cd Try.f55 [1, 0, 1]).wp Try.prog (Exit.then (fun a w => (cd Try.f55 [1, 1]).wp Try.prog Q a w) Q) ⟨dowelref24_parts_55.j0F a0A a0 a0c a1A a1 a1c a2 x444 u443, []⟩ w441 := by
  unfold dowelref24_parts_55.j0 at H
  refine w_cond (p := [1, 0, 1]) (p0 := [1, 0, 1, 0]) (p1 := [1, 0, 1, 1]) (c := (Operand.tmp 24)) (b := x444) (by kernel_rfl) (by kernel_rfl) ?_ ?_
  · intro h_
    have h445 : x444 = true := h_
    clear h_
    rw [if_pos h445] at H
    refine w_seq (p := [1, 0, 1, 0]) (p0 := [1, 0, 1, 0, 0]) (p1 := [1, 0, 1, 0, 1]) (by kernel_rfl) ?_
    refine w_region (p := [1, 0, 1, 0, 0]) (id := 2) (by kernel_rfl) ?_
    refine r_vals 0 1 [.slice none 0 0] (by kernel_rfl) (by kernel_rfl) ?_
    refine r_fin 1 (by kernel_rfl) ?_
    refine q_then ?_
    refine w_ret (p := [1, 0, 1, 0, 1]) (by kernel_rfl) ?_
    refine q_then_r ?_
    obtain rfl := Option.some.inj H
    refine HR _ _ (body_ret (vs := [.slice none 0 0]) (rv_tmp (by kernel_rfl) rfl) rfl ?_)
    exact ⟨none, 0, 0, rfl, k442, (Ow.nil w (kInt .i64 3) w441)⟩
  · intro h_
    have h445 : ¬ (x444 = true) := by rw [h_]; decide
    clear h_
    rw [if_neg h445] at H
    refine w_skip (p := [1, 0, 1, 1]) (by kernel_rfl) ?_
    refine q_then ?_
    refine w_seq (p := [1, 1]) (p0 := [1, 1, 0]) (p1 := [1, 1, 1]) (by kernel_rfl) ?_
    refine w_region (p := [1, 1, 0]) (id := 3) (by kernel_rfl) ?_
    refine r_vals 0 2 [.slice a0A a0.length a0c, .int .i64 a2] (by kernel_rfl) (by kernel_rfl) ?_
    refine p_split (0 ≤ a2) (fun h447 => ?_) (fun h447 => ?_)
    · rw [if_pos h447] at H
      refine p_split (a2 < (a0.length : Int)) (fun h448 => ?_) (fun h448 => ?_)
      · rw [if_pos h448] at H
        refine r_do 2 (by kernel_rfl) (ow_index (K := (K32 33)) (T := 22) (e := 33) (sz := 6) (x := (Operand.tmp 25)) (y := (Operand.tmp 26)) (k := .i64) (n := a0.length) (c := a0c) (A := a0A) (xs := a0) (iv := a2) (by kernel_rfl) (by kernel_rfl) (by kernel_rfl) (by kernel_rfl) h447 h448 (Rd.kp a0r k442 (fun _ _ h => h)) rfl (by kernel_rfl) ?_) 
        refine r_vals 3 4 [.pointer (some ((eaOf a0A (a2.toNat * 6)).add 1))] (by kernel_rfl) (by kernel_rfl) ?_
        refine r_do 4 (by kernel_rfl) (ow_loadE (K := (K32 33)) (T := 3) (x := (Operand.tmp 28)) (off := 1) (A := a0A) (n := a0.length) (xs := a0) (iv := a2) z32 (.int .i64 (((rd z32 a0 a2)).f1)) (by kernel_rfl) (by kernel_rfl) (Rd.kp a0r k442 (fun _ _ h => h)) rfl h447 h448 (by kernel_rfl) ?_) 
        refine p_split (0 ≤ (((rd z32 a0 a2)).f1)) (fun h449 => ?_) (fun h449 => ?_)
        · rw [if_pos h449] at H
          refine p_split ((8 : Int) * (((rd z32 a0 a2)).f1) ≤ 281474976710656) (fun h450 => ?_) (fun h450 => ?_)
          · rw [if_pos h450] at H
            refine p_split ((((rd z32 a0 a2)).f1) ≤ 9223372036854775807) (fun h451 => ?_) (fun h451 => ?_)
            · rw [if_pos h451] at H
              refine r_do 5 (by kernel_rfl) (ow_make (K := (kInt .i64 3)) (w0 := w) (T := 24) (x := (Operand.tmp 29)) (y := (Operand.tmp 29)) (kl := .i64) (kc := .i64) (l := (((rd z32 a0 a2)).f1)) (c := (((rd z32 a0 a2)).f1)) 0 8 (by kernel_rfl) (by kernel_rfl) (by kernel_rfl) (by kernel_rfl) (by kernel_rfl) (by kernel_rfl) h449 (Int.le_refl _) h450 h451 k442 ?_) 
              intro b455 w452 e456 ho454 k453
              clear e456
              have k458 := Kp.trans k442 k453 (fun _ h => h.elim)
              refine r_vals 6 7 [.slice (some ⟨b455, 0, none⟩) ((((rd z32 a0 a2)).f1).toNat) ((((rd z32 a0 a2)).f1).toNat)] (by kernel_rfl) (by kernel_rfl) ?_
              refine r_fin 7 (by kernel_rfl) ?_
              refine q_then ?_
              refine w_seq (p := [1, 1, 1]) (p0 := [1, 1, 1, 0]) (p1 := [1, 1, 1, 1]) (by kernel_rfl) ?_
              refine w_region (p := [1, 1, 1, 0]) (id := 4) (by kernel_rfl) ?_
              refine r_vals 0 2 [.int .i64 a2, .int .i64 a2] (by kernel_rfl) (by kernel_rfl) ?_
              refine r_fin 2 (by kernel_rfl) ?_
              refine q_then ?_
              refine w_seq (p := [1, 1, 1, 1]) (p0 := [1, 1, 1, 1, 0]) (p1 := [1, 1, 1, 1, 1]) (by kernel_rfl) ?_
              refine w_seq (p := [1, 1, 1, 1, 0]) (p0 := [1, 1, 1, 1, 0, 0]) (p1 := [1, 1, 1, 1, 0, 1]) (by kernel_rfl) ?_
              refine w_region (p := [1, 1, 1, 1, 0, 0]) (id := 5) (by kernel_rfl) ?_
              refine r_vals 0 2 [.slice a0A a0.length a0c, .int .i64 a2] (by kernel_rfl) (by kernel_rfl) ?_
              refine r_do 2 (by kernel_rfl) (ow_index (K := (K32 33)) (T := 22) (e := 33) (sz := 6) (x := (Operand.tmp 32)) (y := (Operand.tmp 33)) (k := .i64) (n := a0.length) (c := a0c) (A := a0A) (xs := a0) (iv := a2) (by kernel_rfl) (by kernel_rfl) (by kernel_rfl) (by kernel_rfl) h447 h448 (Rd.kp a0r k458 (fun _ _ h => h)) rfl (by kernel_rfl) ?_) 
              refine r_vals 3 4 [.pointer (some ((eaOf a0A (a2.toNat * 6)).add 1))] (by kernel_rfl) (by kernel_rfl) ?_
              refine r_do 4 (by kernel_rfl) (ow_loadE (K := (K32 33)) (T := 3) (x := (Operand.tmp 35)) (off := 1) (A := a0A) (n := a0.length) (xs := a0) (iv := a2) z32 (.int .i64 (((rd z32 a0 a2)).f1)) (by kernel_rfl) (by kernel_rfl) (Rd.kp a0r k458 (fun _ _ h => h)) rfl h447 h448 (by kernel_rfl) ?_) 
              refine r_vals 5 7 [.int .i64 (W ((((rd z32 a0 a2)).f1) - 1)), .int .i64 (W ((((rd z32 a0 a2)).f1) - 1))] (by kernel_rfl) (by kernel_rfl) ?_
              refine r_fin 7 (by kernel_rfl) ?_
              refine q_then ?_
              refine w_block (p := [1, 1, 1, 1, 0, 1]) (p0 := [1, 1, 1, 1, 0, 1, 0]) (id := 0) (by kernel_rfl) ?_
              refine w_into (dowelref24_parts_55.F1 a1A a1 a1c b455 a0 a2 a2 (W ((((rd z32 a0 a2)).f1) - 1))) (by kernel_rfl) (fun u_ => ?_)
              refine w_loop (p := [1, 1, 1, 1, 0, 1, 0]) (p0 := [1, 1, 1, 1, 0, 1, 0, 0]) K (by kernel_rfl) ?_
              refine dowelref24_parts_55.l1.ok K a0A a0c a0 a1A a1c a1 a2 w a0r a0l a1r a1l r b455 (fun a w' h_ => q_in_r (q_then_r (HR a w' h_))) ?_ K (List.replicate (((rd z32 a0 a2)).f1).toNat 0) a2 (W ((((rd z32 a0 a2)).f1) - 1)) u_ w452 k458 ho454 H
              intro x494 u492 w490 k491 ho496 H
              try dsimp only at H
              refine q_in_hit ?_
              refine q_then ?_
              refine w_seq (p := [1, 1, 1, 1, 1]) (p0 := [1, 1, 1, 1, 1, 0]) (p1 := [1, 1, 1, 1, 1, 1]) (by kernel_rfl) ?_
              refine w_region (p := [1, 1, 1, 1, 1, 0]) (id := 10) (by kernel_rfl) ?_
              refine r_vals 0 2 [.slice (some ⟨b455, 0, none⟩) ((((rd z32 a0 a2)).f1).toNat) ((((rd z32 a0 a2)).f1).toNat), .slice (some ⟨b455, 0, none⟩) ((((rd z32 a0 a2)).f1).toNat) ((((rd z32 a0 a2)).f1).toNat)] (by kernel_rfl) (by kernel_rfl) ?_
              refine r_fin 2 (by kernel_rfl) ?_
              refine q_then ?_
              refine w_ret (p := [1, 1, 1, 1, 1, 1]) (by kernel_rfl) ?_
              obtain rfl := Option.some.inj H
              refine HR _ _ (body_ret (vs := [.slice (some ⟨b455, 0, none⟩) ((((rd z32 a0 a2)).f1).toNat) ((((rd z32 a0 a2)).f1).toNat)]) (rv_tmp (by kernel_rfl) rfl) rfl ?_)
              exact ⟨(some ⟨b455, 0, none⟩), (((rd z32 a0 a2)).f1).toNat, (((rd z32 a0 a2)).f1).toNat, rfl, k491, ho496⟩
            · rw [if_neg h451] at H
              cases H
          · rw [if_neg h450] at H
            cases H
        · rw [if_neg h449] at H
          cases H
      · rw [if_neg h448] at H
        cases H
    · rw [if_neg h447] at H
      cases H
set_option maxRecDepth 20000 in
set_option maxHeartbeats 4000000 in
theorem dowelref24_parts_55.ok (K : Nat) (a0A : Option Addr) (a0c : Nat) (a0 : List S32) (a1A : Option Addr) (a1c : Nat) (a1 : List Int) (a2 : Int) (a0n : Nat) (a1n : Nat) (w : World) (a0r : Rd No w a0A ((K32 33).cells a0)) (a0l : a0n ≤ a0c) (a1r : Rd No w a1A ((kInt .i64 3).cells a1)) (a1l : a1n ≤ a1c) (a0e : a0.length = a0n) (a1e : a1.length = a1n) (r : List Int) (H : dowelref24_parts_55.f K a0 a1 a2 = some r) : Calls Try.prog 55 #[.slice a0A a0n a0c, .slice a1A a1n a1c, .int .i64 a2] w (dowelref24_parts_55.R r w) := by
  subst a0e
  subst a1e
  refine calls_cd (t := #[.slice a0A a0.length a0c, .slice a1A a1.length a1c, .int .i64 a2, undef, undef, undef, undef, undef, undef, undef, undef, undef, undef, undef, undef, undef, undef, undef, undef, undef, undef, undef, undef, undef, undef, undef, undef, undef, undef, undef, undef, undef, undef, undef, undef, undef, undef, undef, undef, undef, undef, undef, undef, undef, undef, undef, undef, undef, undef, undef, undef, undef, undef]) Try.func55 (by kernel_rfl) (by kernel_rfl) ?_
  unfold dowelref24_parts_55.f at H
  have HR : ∀ a w', bodyPost Try.prog Try.f55 (dowelref24_parts_55.R r w) .ret a w' → bodyPost Try.prog Try.f55 (dowelref24_parts_55.R r w) .ret a w' := fun _ _ h => h
  refine w_seq (p := []) (p0 := [0]) (p1 := [1]) (by kernel_rfl) ?_
  refine w_region (p := [0]) (id := 0) (by kernel_rfl) ?_
  refine r_vals 0 1 [.slice none 0 0] (by kernel_rfl) (by kernel_rfl) ?_
  refine r_fin 1 (by kernel_rfl) ?_
  refine q_then ?_
  refine w_seq (p := [1]) (p0 := [1, 0]) (p1 := [1, 1]) (by kernel_rfl) ?_
  refine w_seq (p := [1, 0]) (p0 := [1, 0, 0]) (p1 := [1, 0, 1]) (by kernel_rfl) ?_
  refine w_region (p := [1, 0, 0]) (id := 1) (by kernel_rfl) ?_
  refine r_vals 0 3 [.int .i64 a2, .bool (decide (a2 < 0)), .bool (decide (a2 < 0))] (by kernel_rfl) (by kernel_rfl) ?_
  refine b_split (decide (a2 < 0)) (fun h_ => ?_) (fun h_ => ?_)
  · have h437 : a2 < 0 := by simpa using h_
    rw [if_pos h437] at H
    rw [h_]
    clear h_
    refine r_vals 3 15 [undef, undef, undef, undef, .bool true, .bool true, undef, undef, undef, undef, undef, .bool true] (by kernel_rfl) (by kernel_rfl) ?_
    refine r_fin 15 (by kernel_rfl) ?_
    refine q_then ?_
    refine w_into (dowelref24_parts_55.j0F a0A a0 a0c a1A a1 a1c a2 true) (by kernel_rfl) (fun u_ => ?_)
    exact dowelref24_parts_55.j0.ok K a0A a0c a0 a1A a1c a1 a2 w a0r a0l a1r a1l r  HR  true u_ w (Kp.refl No w)  H
  · have h437 : ¬ (a2 < 0) := by simpa using h_
    rw [if_neg h437] at H
    rw [h_]
    clear h_
    refine r_vals 3 9 [.int .i64 a2, .slice a0A a0.length a0c, .int .i64 (a0.length : Int), .bool (decide (a2 ≥ (a0.length : Int))), .bool (decide (a2 ≥ (a0.length : Int))), .bool (decide (a2 ≥ (a0.length : Int)))] (by kernel_rfl) (by kernel_rfl) ?_
    refine b_split (decide (a2 ≥ (a0.length : Int))) (fun h_ => ?_) (fun h_ => ?_)
    · have h438 : a2 ≥ (a0.length : Int) := by simpa using h_
      rw [if_pos h438] at H
      rw [h_]
      clear h_
      refine r_vals 9 15 [undef, undef, undef, undef, undef, .bool true] (by kernel_rfl) (by kernel_rfl) ?_
      refine r_fin 15 (by kernel_rfl) ?_
      refine q_then ?_
      refine w_into (dowelref24_parts_55.j0F a0A a0 a0c a1A a1 a1c a2 true) (by kernel_rfl) (fun u_ => ?_)
      exact dowelref24_parts_55.j0.ok K a0A a0c a0 a1A a1c a1 a2 w a0r a0l a1r a1l r  HR  true u_ w (Kp.refl No w)  H
    · have h438 : ¬ (a2 ≥ (a0.length : Int)) := by simpa using h_
      rw [if_neg h438] at H
      rw [h_]
      clear h_
      refine r_vals 9 11 [.slice a1A a1.length a1c, .int .i64 a2] (by kernel_rfl) (by kernel_rfl) ?_
      refine p_split (0 ≤ a2) (fun h439 => ?_) (fun h439 => ?_)
      · rw [if_pos h439] at H
        refine p_split (a2 < (a1.length : Int)) (fun h440 => ?_) (fun h440 => ?_)
        · rw [if_pos h440] at H
          refine r_do 11 (by kernel_rfl) (ow_index (K := (kInt .i64 3)) (T := 24) (e := 3) (sz := 1) (x := (Operand.tmp 19)) (y := (Operand.tmp 20)) (k := .i64) (n := a1.length) (c := a1c) (A := a1A) (xs := a1) (iv := a2) (by kernel_rfl) (by kernel_rfl) (by kernel_rfl) (by kernel_rfl) h439 h440 (Rd.kp a1r (Kp.refl No w) (fun _ _ h => h)) rfl (by kernel_rfl) ?_) 
          refine r_do 12 (by kernel_rfl) (ow_loadE (K := (kInt .i64 3)) (T := 3) (x := (Operand.tmp 21)) (off := 0) (A := a1A) (n := a1.length) (xs := a1) (iv := a2) 0 (.int .i64 (rd 0 a1 a2)) (by kernel_rfl) (by kernel_rfl) (Rd.kp a1r (Kp.refl No w) (fun _ _ h => h)) rfl h439 h440 (by kernel_rfl) ?_) 
          refine r_vals 13 15 [.bool (decide ((rd 0 a1 a2) < 0)), .bool (decide ((rd 0 a1 a2) < 0))] (by kernel_rfl) (by kernel_rfl) ?_
          refine r_fin 15 (by kernel_rfl) ?_
          refine q_then ?_
          refine w_into (dowelref24_parts_55.j0F a0A a0 a0c a1A a1 a1c a2 (decide ((rd 0 a1 a2) < 0))) (by kernel_rfl) (fun u_ => ?_)
          exact dowelref24_parts_55.j0.ok K a0A a0c a0 a1A a1c a1 a2 w a0r a0l a1r a1l r  HR  (decide ((rd 0 a1 a2) < 0)) u_ w (Kp.refl No w)  H
        · rw [if_neg h440] at H
          cases H
      · rw [if_neg h439] at H
        cases H
/-! ### dowel/dowelref24.Begins -/
def dowelref24_Begins_56.F1 (a0A : Option Addr) (a0 : List S32) (a0c : Nat) (b503 : Nat) (x554 : Int) (x588 : Int) (x589 : Int) (u_ : Nat → Value) : Array Value := #[.slice a0A a0.length a0c, u_ 1, u_ 2, .slice (some ⟨b503, 0, none⟩) (((a0.length : Int)).toNat) (((a0.length : Int)).toNat), .int .i64 x554, .int .i64 x588, .int .i64 x589, u_ 7, u_ 8, u_ 9, u_ 10, u_ 11, u_ 12, u_ 13, u_ 14, u_ 15, u_ 16, u_ 17, u_ 18, u_ 19, u_ 20, u_ 21, u_ 22, u_ 23, u_ 24, u_ 25, u_ 26, u_ 27, u_ 28, u_ 29, u_ 30, u_ 31, u_ 32, u_ 33, u_ 34, u_ 35, u_ 36, u_ 37, u_ 38, u_ 39, u_ 40, u_ 41, u_ 42, u_ 43, u_ 44, u_ 45, u_ 46, u_ 47, u_ 48, u_ 49, u_ 50, u_ 51, u_ 52, u_ 53, u_ 54, u_ 55, u_ 56, u_ 57, u_ 58, u_ 59, u_ 60, u_ 61, u_ 62, u_ 63]
def dowelref24_Begins_56.F1_2 (a0A : Option Addr) (a0 : List S32) (a0c : Nat) (b503 : Nat) (x554 : Int) (x611 : Int) (x612 : Int) (u_ : Nat → Value) : Array Value := #[.slice a0A a0.length a0c, u_ 1, u_ 2, .slice (some ⟨b503, 0, none⟩) (((a0.length : Int)).toNat) (((a0.length : Int)).toNat), .int .i64 x554, .int .i64 x611, .int .i64 x612, u_ 7, u_ 8, u_ 9, u_ 10, u_ 11, u_ 12, u_ 13, u_ 14, u_ 15, u_ 16, u_ 17, u_ 18, u_ 19, u_ 20, u_ 21, u_ 22, u_ 23, u_ 24, u_ 25, u_ 26, u_ 27, u_ 28, u_ 29, u_ 30, u_ 31, u_ 32, u_ 33, u_ 34, u_ 35, u_ 36, u_ 37, u_ 38, u_ 39, u_ 40, u_ 41, u_ 42, u_ 43, u_ 44, u_ 45, u_ 46, u_ 47, u_ 48, u_ 49, u_ 50, u_ 51, u_ 52, u_ 53, u_ 54, u_ 55, u_ 56, u_ 57, u_ 58, u_ 59, u_ 60, u_ 61, u_ 62, u_ 63]
def dowelref24_Begins_56.j2F (a0A : Option Addr) (a0 : List S32) (a0c : Nat) (b503 : Nat) (x554 : Int) (x588 : Int) (x589 : Int) (x602 : Bool) (u_ : Nat → Value) : Array Value := #[.slice a0A a0.length a0c, u_ 1, u_ 2, .slice (some ⟨b503, 0, none⟩) (((a0.length : Int)).toNat) (((a0.length : Int)).toNat), .int .i64 x554, .int .i64 x588, .int .i64 x589, u_ 7, u_ 8, u_ 9, u_ 10, u_ 11, u_ 12, u_ 13, u_ 14, u_ 15, u_ 16, u_ 17, u_ 18, u_ 19, u_ 20, u_ 21, u_ 22, u_ 23, u_ 24, u_ 25, u_ 26, u_ 27, u_ 28, u_ 29, u_ 30, u_ 31, u_ 32, u_ 33, u_ 34, u_ 35, u_ 36, u_ 37, u_ 38, u_ 39, u_ 40, u_ 41, u_ 42, u_ 43, .bool x602, u_ 45, u_ 46, u_ 47, u_ 48, u_ 49, u_ 50, u_ 51, u_ 52, u_ 53, u_ 54, u_ 55, u_ 56, u_ 57, u_ 58, u_ 59, u_ 60, u_ 61, u_ 62, u_ 63]
def dowelref24_Begins_56.j2 (x588 : Int) (a0 : List S32) (next1 : Int → Int → Option (List Int)) (x553 : List Int) (x554 : Int) (x589 : Int) (brk1_2 : Int → Int → Option (List Int)) (x602 : Bool) : Option (List Int) := if x602 = true then (if 0 ≤ (W (x588 - 1)) then (if (W (x588 - 1)) < (((a0.length : Int)).toNat : Int) then (next1 (rd 0 (stored x553 x554 (-1)) (W (x588 - 1))) (W (x589 + 1))) else none) else none) else (brk1_2 x588 x589)
def dowelref24_Begins_56.b1 (x554 : Int) (a0 : List S32) (x553 : List Int) (next1 : Int → Int → Option (List Int)) (brk1_2 : Int → Int → Option (List Int)) (x588 : Int) (x589 : Int) : Option (List Int) := if 0 ≤ x554 then (if x554 < (a0.length : Int) then (if x589 < (((rd z32 a0 x554)).f1) then (if x588 > 0 then (if 0 ≤ (W (x588 - 1)) then (if (W (x588 - 1)) < (((a0.length : Int)).toNat : Int) then (dowelref24_Begins_56.j2 x588 a0 next1 x553 x554 x589 brk1_2 (decide ((rd 0 (stored x553 x554 (-1)) (W (x588 - 1))) ≥ 0))) else none) else none) else (dowelref24_Begins_56.j2 x588 a0 next1 x553 x554 x589 brk1_2 false)) else (dowelref24_Begins_56.j2 x588 a0 next1 x553 x554 x589 brk1_2 false)) else none) else none
def dowelref24_Begins_56.l1 (x554 : Int) (a0 : List S32) (x553 : List Int) (brk1_2 : Int → Int → Option (List Int)) : Nat → Int → Int → Option (List Int)
  | 0, _, _ => none
  | n_ + 1, x588, x589 => dowelref24_Begins_56.b1 x554 a0 x553 (dowelref24_Begins_56.l1 x554 a0 x553 brk1_2 n_) brk1_2 x588 x589
def dowelref24_Begins_56.F0 (a0A : Option Addr) (a0 : List S32) (a0c : Nat) (b503 : Nat) (x554 : Int) (u_ : Nat → Value) : Array Value := #[.slice a0A a0.length a0c, u_ 1, u_ 2, .slice (some ⟨b503, 0, none⟩) (((a0.length : Int)).toNat) (((a0.length : Int)).toNat), .int .i64 x554, u_ 5, u_ 6, u_ 7, u_ 8, u_ 9, u_ 10, u_ 11, u_ 12, u_ 13, u_ 14, u_ 15, u_ 16, u_ 17, u_ 18, u_ 19, u_ 20, u_ 21, u_ 22, u_ 23, u_ 24, u_ 25, u_ 26, u_ 27, u_ 28, u_ 29, u_ 30, u_ 31, u_ 32, u_ 33, u_ 34, u_ 35, u_ 36, u_ 37, u_ 38, u_ 39, u_ 40, u_ 41, u_ 42, u_ 43, u_ 44, u_ 45, u_ 46, u_ 47, u_ 48, u_ 49, u_ 50, u_ 51, u_ 52, u_ 53, u_ 54, u_ 55, u_ 56, u_ 57, u_ 58, u_ 59, u_ 60, u_ 61, u_ 62, u_ 63]
def dowelref24_Begins_56.F0_0 (b503 : Nat) (a0 : List S32) (u_ : Nat → Value) : Array Value := #[u_ 0, u_ 1, u_ 2, .slice (some ⟨b503, 0, none⟩) (((a0.length : Int)).toNat) (((a0.length : Int)).toNat), u_ 4, u_ 5, u_ 6, u_ 7, u_ 8, u_ 9, u_ 10, u_ 11, u_ 12, u_ 13, u_ 14, u_ 15, u_ 16, u_ 17, u_ 18, u_ 19, u_ 20, u_ 21, u_ 22, u_ 23, u_ 24, u_ 25, u_ 26, u_ 27, u_ 28, u_ 29, u_ 30, u_ 31, u_ 32, u_ 33, u_ 34, u_ 35, u_ 36, u_ 37, u_ 38, u_ 39, u_ 40, u_ 41, u_ 42, u_ 43, u_ 44, u_ 45, u_ 46, u_ 47, u_ 48, u_ 49, u_ 50, u_ 51, u_ 52, u_ 53, u_ 54, u_ 55, u_ 56, u_ 57, u_ 58, u_ 59, u_ 60, u_ 61, u_ 62, u_ 63]
def dowelref24_Begins_56.j3F (a0A : Option Addr) (a0 : List S32) (a0c : Nat) (b503 : Nat) (x554 : Int) (u_ : Nat → Value) : Array Value := #[.slice a0A a0.length a0c, u_ 1, u_ 2, .slice (some ⟨b503, 0, none⟩) (((a0.length : Int)).toNat) (((a0.length : Int)).toNat), .int .i64 x554, u_ 5, u_ 6, u_ 7, u_ 8, u_ 9, u_ 10, u_ 11, u_ 12, u_ 13, u_ 14, u_ 15, u_ 16, u_ 17, u_ 18, u_ 19, u_ 20, u_ 21, u_ 22, u_ 23, u_ 24, u_ 25, u_ 26, u_ 27, u_ 28, u_ 29, u_ 30, u_ 31, u_ 32, u_ 33, u_ 34, u_ 35, u_ 36, u_ 37, u_ 38, u_ 39, u_ 40, u_ 41, u_ 42, u_ 43, u_ 44, u_ 45, u_ 46, u_ 47, u_ 48, u_ 49, u_ 50, u_ 51, u_ 52, u_ 53, u_ 54, u_ 55, u_ 56, u_ 57, u_ 58, u_ 59, u_ 60, u_ 61, u_ 62, u_ 63]
def dowelref24_Begins_56.j3 (next0 : List Int → Int → Option (List Int)) (x554 : Int) (x627 : List Int) : Option (List Int) := next0 x627 (W (x554 + 1))
def dowelref24_Begins_56.b0 (a0 : List S32) (K : Nat) (next0 : List Int → Int → Option (List Int)) (brk0_0 : List Int → Option (List Int)) (x553 : List Int) (x554 : Int) : Option (List Int) := if x554 < (a0.length : Int) then (if 0 ≤ x554 then (if x554 < (((a0.length : Int)).toNat : Int) then (if (((rd z32 a0 x554)).f1) < 0 then (dowelref24_Begins_56.j3 next0 x554 (stored x553 x554 (-1))) else (dowelref24_Begins_56.l1 x554 a0 x553 (fun x611 x612 => if 0 ≤ x554 then (if x554 < (a0.length : Int) then (if x612 = (((rd z32 a0 x554)).f1) then (if x554 < (((a0.length : Int)).toNat : Int) then (dowelref24_Begins_56.j3 next0 x554 (stored (stored x553 x554 (-1)) x554 x611)) else none) else (dowelref24_Begins_56.j3 next0 x554 (stored x553 x554 (-1)))) else none) else none) K x554 0)) else none) else none) else (brk0_0 x553)
def dowelref24_Begins_56.l0 (a0 : List S32) (K : Nat) (brk0_0 : List Int → Option (List Int)) : Nat → List Int → Int → Option (List Int)
  | 0, _, _ => none
  | n_ + 1, x553, x554 => dowelref24_Begins_56.b0 a0 K (dowelref24_Begins_56.l0 a0 K brk0_0 n_) brk0_0 x553 x554
def dowelref24_Begins_56.f (K : Nat) (a0 : List S32) : Option (List Int) := if 0 ≤ (a0.length : Int) then (if (8 : Int) * (a0.length : Int) ≤ 281474976710656 then (if (a0.length : Int) ≤ 9223372036854775807 then (dowelref24_Begins_56.l0 a0 K (fun x633 => some x633) K (List.replicate ((a0.length : Int)).toNat 0) 0) else none) else none) else none
def dowelref24_Begins_56.R (r : List Int) (w : World) : Ending → World → Prop := fun e w' => ∃ (A0 : Option Addr) (n0 c0 : Nat), e = .returned (.slice A0 n0 c0) ∧ Kp No w w' ∧ Ow w (kInt .i64 3) w' A0 n0 c0 r
set_option maxRecDepth 20000 in
set_option maxHeartbeats 4000000 in
theorem dowelref24_Begins_56.j2.ok (K : Nat) (a0A : Option Addr) (a0c : Nat) (a0 : List S32) (w : World) (a0r : Rd No w a0A ((K32 33).cells a0)) (a0l : a0.length ≤ a0c) (r : List Int) {Q : Exit → Act → World → Prop} (b503 : Nat) (x554 : Int) (x588 : Int) (x589 : Int) (x553 : List Int) (next1 : Int → Int → Option (List Int)) (brk1_2 : Int → Int → Option (List Int)) (HR : ∀ a w', bodyPost Try.prog Try.f56 (dowelref24_Begins_56.R r w) .ret a w' → Q .ret a w') (HN1 : ∀ (x588q : Int) (x589q : Int) (u585q : Nat → Value) (w586q : World) (k587q : Kp No w w586q) (ho591q : Ow w (kInt .i64 3) w586q (some ⟨b503, 0, none⟩) (((a0.length : Int)).toNat) (((a0.length : Int)).toNat) (stored x553 x554 (-1))), next1 x588q x589q = some r → Q .normal ⟨dowelref24_Begins_56.F1 a0A a0 a0c b503 x554 x588q x589q u585q, []⟩ w586q) (HX1_2 : ∀ (x611q : Int) (x612q : Int) (u609q : Nat → Value) (w607q : World) (k608q : Kp No w w607q) (ho614q : Ow w (kInt .i64 3) w607q (some ⟨b503, 0, none⟩) (((a0.length : Int)).toNat) (((a0.length : Int)).toNat) (stored x553 x554 (-1))), brk1_2 x611q x612q = some r → Q (.exit 2) ⟨dowelref24_Begins_56.F1_2 a0A a0 a0c b503 x554 x611q x612q u609q, []⟩ w607q) (x602 : Bool) (u600 : Nat → Value) (w598 : World) (k599 : Kp No w w598) (ho603 : Ow w (kInt .i64 3) w598 (some ⟨b503, 0, none⟩) (((a0.length : Int)).toNat) (((a0.length : Int)).toNat) (stored x553 x554 (-1))) (H : dowelref24_Begins_56.j2 x588 a0 next1 x553 x554 x589 brk1_2 x602 = some r) : (cd Try.f56 [1, 1, 0, 1, 0, 0, 1, 0, 0, 1, 1, 1, 1, 0, 0, 0, 0, 1]).wp Try.prog (Exit.then (fun a w => (cd Try.f56 [1, 1, 0, 1, 0, 0, 1, 0, 0, 1, 1, 1, 1, 0, 0, 0, 1]).wp Try.prog Q a w) Q) ⟨dowelref24_Begins_56.j2F a0A a0 a0c b503 x554 x588 x589 x602 u600, []⟩ w598 := by
  unfold dowelref24_Begins_56.j2 at H
  refine w_cond (p := [1, 1, 0, 1, 0, 0, 1, 0, 0, 1, 1, 1, 1, 0, 0, 0, 0, 1]) (p0 := [1, 1, 0, 1, 0, 0, 1, 0, 0, 1, 1, 1, 1, 0, 0, 0, 0, 1, 0]) (p1 := [1, 1, 0, 1, 0, 0, 1, 0, 0, 1, 1, 1, 1, 0, 0, 0, 0, 1, 1]) (c := (Operand.tmp 44)) (b := x602) (by kernel_rfl) (by kernel_rfl) ?_ ?_
  · intro h_
    have h604 : x602 = true := h_
    clear h_
    rw [if_pos h604] at H
    refine w_skip (p := [1, 1, 0, 1, 0, 0, 1, 0, 0, 1, 1, 1, 1, 0, 0, 0, 0, 1, 0]) (by kernel_rfl) ?_
    refine q_then ?_
    refine w_block (p := [1, 1, 0, 1, 0, 0, 1, 0, 0, 1, 1, 1, 1, 0, 0, 0, 1]) (p0 := [1, 1, 0, 1, 0, 0, 1, 0, 0, 1, 1, 1, 1, 0, 0, 0, 1, 0]) (id := 3) (by kernel_rfl) ?_
    refine w_seq (p := [1, 1, 0, 1, 0, 0, 1, 0, 0, 1, 1, 1, 1, 0, 0, 0, 1, 0]) (p0 := [1, 1, 0, 1, 0, 0, 1, 0, 0, 1, 1, 1, 1, 0, 0, 0, 1, 0, 0]) (p1 := [1, 1, 0, 1, 0, 0, 1, 0, 0, 1, 1, 1, 1, 0, 0, 0, 1, 0, 1]) (by kernel_rfl) ?_
    refine w_region (p := [1, 1, 0, 1, 0, 0, 1, 0, 0, 1, 1, 1, 1, 0, 0, 0, 1, 0, 0]) (id := 10) (by kernel_rfl) ?_
    refine r_vals 0 3 [.slice (some ⟨b503, 0, none⟩) (((a0.length : Int)).toNat) (((a0.length : Int)).toNat), .int .i64 x588, .int .i64 (W (x588 - 1))] (by kernel_rfl) (by kernel_rfl) ?_
    refine p_split (0 ≤ (W (x588 - 1))) (fun h605 => ?_) (fun h605 => ?_)
    · rw [if_pos h605] at H
      refine p_split ((W (x588 - 1)) < (((a0.length : Int)).toNat : Int)) (fun h606 => ?_) (fun h606 => ?_)
      · rw [if_pos h606] at H
        refine r_do 3 (by kernel_rfl) (ow_index (K := (kInt .i64 3)) (T := 24) (e := 3) (sz := 1) (x := (Operand.tmp 45)) (y := (Operand.tmp 47)) (k := .i64) (n := (((a0.length : Int)).toNat)) (c := (((a0.length : Int)).toNat)) (A := (some ⟨b503, 0, none⟩)) (xs := (stored x553 x554 (-1))) (iv := (W (x588 - 1))) (by kernel_rfl) (by kernel_rfl) (by kernel_rfl) (by kernel_rfl) h605 h606 (Ow.rdNo ho603) (Ow.len ho603) (by kernel_rfl) ?_) 
        refine r_do 4 (by kernel_rfl) (ow_loadE (K := (kInt .i64 3)) (T := 3) (x := (Operand.tmp 48)) (off := 0) (A := (some ⟨b503, 0, none⟩)) (n := (((a0.length : Int)).toNat)) (xs := (stored x553 x554 (-1))) (iv := (W (x588 - 1))) 0 (.int .i64 (rd 0 (stored x553 x554 (-1)) (W (x588 - 1)))) (by kernel_rfl) (by kernel_rfl) (Ow.rdNo ho603) (Ow.len ho603) h605 h606 (by kernel_rfl) ?_) 
        refine r_vals 5 6 [.int .i64 (rd 0 (stored x553 x554 (-1)) (W (x588 - 1)))] (by kernel_rfl) (by kernel_rfl) ?_
        refine r_fin 6 (by kernel_rfl) ?_
        refine q_then ?_
        refine w_region (p := [1, 1, 0, 1, 0, 0, 1, 0, 0, 1, 1, 1, 1, 0, 0, 0, 1, 0, 1]) (id := 11) (by kernel_rfl) ?_
        refine r_vals 0 3 [.int .i64 x589, .int .i64 (W (x589 + 1)), .int .i64 (W (x589 + 1))] (by kernel_rfl) (by kernel_rfl) ?_
        refine r_fin 3 (by kernel_rfl) ?_
        refine q_in ?_
        refine q_into (dowelref24_Begins_56.F1 a0A a0 a0c b503 x554 (rd 0 (stored x553 x554 (-1)) (W (x588 - 1))) (W (x589 + 1))) (by kernel_rfl) (fun u_ => ?_)
        exact HN1 (rd 0 (stored x553 x554 (-1)) (W (x588 - 1))) (W (x589 + 1)) u_ w598 k599 ho603 H
      · rw [if_neg h606] at H
        cases H
    · rw [if_neg h605] at H
      cases H
  · intro h_
    have h604 : ¬ (x602 = true) := by rw [h_]; decide
    clear h_
    rw [if_neg h604] at H
    refine w_exit (p := [1, 1, 0, 1, 0, 0, 1, 0, 0, 1, 1, 1, 1, 0, 0, 0, 0, 1, 1]) (id := 2) (by kernel_rfl) ?_
    refine q_then_x ?_
    refine q_into (dowelref24_Begins_56.F1_2 a0A a0 a0c b503 x554 x588 x589) (by kernel_rfl) (fun u_ => ?_)
    exact HX1_2 x588 x589 u_ w598 k599 ho603 H
set_option maxRecDepth 20000 in
set_option maxHeartbeats 4000000 in
theorem dowelref24_Begins_56.b1.ok (K : Nat) (a0A : Option Addr) (a0c : Nat) (a0 : List S32) (w : World) (a0r : Rd No w a0A ((K32 33).cells a0)) (a0l : a0.length ≤ a0c) (r : List Int) (b503 : Nat) (x554 : Int) (x553 : List Int) {Q : Exit → Act → World → Prop} (HR : ∀ a w', bodyPost Try.prog Try.f56 (dowelref24_Begins_56.R r w) .ret a w' → Q .ret a w') {next1 : Int → Int → Option (List Int)} {brk1_2 : Int → Int → Option (List Int)} (HN1 : ∀ (x588q : Int) (x589q : Int) (u585q : Nat → Value) (w586q : World) (k587q : Kp No w w586q) (ho591q : Ow w (kInt .i64 3) w586q (some ⟨b503, 0, none⟩) (((a0.length : Int)).toNat) (((a0.length : Int)).toNat) (stored x553 x554 (-1))), next1 x588q x589q = some r → Q .normal ⟨dowelref24_Begins_56.F1 a0A a0 a0c b503 x554 x588q x589q u585q, []⟩ w586q) (HX1_2 : ∀ (x611q : Int) (x612q : Int) (u609q : Nat → Value) (w607q : World) (k608q : Kp No w w607q) (ho614q : Ow w (kInt .i64 3) w607q (some ⟨b503, 0, none⟩) (((a0.length : Int)).toNat) (((a0.length : Int)).toNat) (stored x553 x554 (-1))), brk1_2 x611q x612q = some r → Q (.exit 2) ⟨dowelref24_Begins_56.F1_2 a0A a0 a0c b503 x554 x611q x612q u609q, []⟩ w607q) (x588 : Int) (x589 : Int) (u585 : Nat → Value) (w586 : World) (k587 : Kp No w w586) (ho591 : Ow w (kInt .i64 3) w586 (some ⟨b503, 0, none⟩) (((a0.length : Int)).toNat) (((a0.length : Int)).toNat) (stored x553 x554 (-1))) (H : dowelref24_Begins_56.b1 x554 a0 x553 next1 brk1_2 x588 x589 = some r) : (cd Try.f56 [1, 1, 0, 1, 0, 0, 1, 0, 0, 1, 1, 1, 1, 0, 0, 0]).wp Try.prog Q ⟨dowelref24_Begins_56.F1 a0A a0 a0c b503 x554 x588 x589 u585, []⟩ w586 := by
  unfold dowelref24_Begins_56.b1 at H
  refine w_seq (p := [1, 1, 0, 1, 0, 0, 1, 0, 0, 1, 1, 1, 1, 0, 0, 0]) (p0 := [1, 1, 0, 1, 0, 0, 1, 0, 0, 1, 1, 1, 1, 0, 0, 0, 0]) (p1 := [1, 1, 0, 1, 0, 0, 1, 0, 0, 1, 1, 1, 1, 0, 0, 0, 1]) (by kernel_rfl) ?_
  refine w_seq (p := [1, 1, 0, 1, 0, 0, 1, 0, 0, 1, 1, 1, 1, 0, 0, 0, 0]) (p0 := [1, 1, 0, 1, 0, 0, 1, 0, 0, 1, 1, 1, 1, 0, 0, 0, 0, 0]) (p1 := [1, 1, 0, 1, 0, 0, 1, 0, 0, 1, 1, 1, 1, 0, 0, 0, 0, 1]) (by kernel_rfl) ?_
  refine w_region (p := [1, 1, 0, 1, 0, 0, 1, 0, 0, 1, 1, 1, 1, 0, 0, 0, 0, 0]) (id := 9) (by kernel_rfl) ?_
  refine r_vals 0 3 [.int .i64 x589, .slice a0A a0.length a0c, .int .i64 x554] (by kernel_rfl) (by kernel_rfl) ?_
  refine p_split (0 ≤ x554) (fun h592 => ?_) (fun h592 => ?_)
  · rw [if_pos h592] at H
    refine p_split (x554 < (a0.length : Int)) (fun h593 => ?_) (fun h593 => ?_)
    · rw [if_pos h593] at H
      refine r_do 3 (by kernel_rfl) (ow_index (K := (K32 33)) (T := 22) (e := 33) (sz := 6) (x := (Operand.tmp 27)) (y := (Operand.tmp 28)) (k := .i64) (n := a0.length) (c := a0c) (A := a0A) (xs := a0) (iv := x554) (by kernel_rfl) (by kernel_rfl) (by kernel_rfl) (by kernel_rfl) h592 h593 (Rd.kp a0r k587 (fun _ _ h => h)) rfl (by kernel_rfl) ?_) 
      refine r_vals 4 5 [.pointer (some ((eaOf a0A (x554.toNat * 6)).add 1))] (by kernel_rfl) (by kernel_rfl) ?_
      refine r_do 5 (by kernel_rfl) (ow_loadE (K := (K32 33)) (T := 3) (x := (Operand.tmp 30)) (off := 1) (A := a0A) (n := a0.length) (xs := a0) (iv := x554) z32 (.int .i64 (((rd z32 a0 x554)).f1)) (by kernel_rfl) (by kernel_rfl) (Rd.kp a0r k587 (fun _ _ h => h)) rfl h592 h593 (by kernel_rfl) ?_) 
      refine r_vals 6 8 [.bool (decide (x589 < (((rd z32 a0 x554)).f1))), .bool (decide (x589 < (((rd z32 a0 x554)).f1)))] (by kernel_rfl) (by kernel_rfl) ?_
      refine b_split (decide (x589 < (((rd z32 a0 x554)).f1))) (fun h_ => ?_) (fun h_ => ?_)
      · have h594 : x589 < (((rd z32 a0 x554)).f1) := by simpa using h_
        rw [if_pos h594] at H
        rw [h_]
        clear h_
        refine r_vals 8 12 [.int .i64 x588, .bool (decide (x588 > 0)), .bool (decide (x588 > 0)), .bool (decide (x588 > 0))] (by kernel_rfl) (by kernel_rfl) ?_
        refine b_split (decide (x588 > 0)) (fun h_ => ?_) (fun h_ => ?_)
        · have h595 : x588 > 0 := by simpa using h_
          rw [if_pos h595] at H
          rw [h_]
          clear h_
          refine r_vals 12 15 [.slice (some ⟨b503, 0, none⟩) (((a0.length : Int)).toNat) (((a0.length : Int)).toNat), .int .i64 x588, .int .i64 (W (x588 - 1))] (by kernel_rfl) (by kernel_rfl) ?_
          refine p_split (0 ≤ (W (x588 - 1))) (fun h596 => ?_) (fun h596 => ?_)
          · rw [if_pos h596] at H
            refine p_split ((W (x588 - 1)) < (((a0.length : Int)).toNat : Int)) (fun h597 => ?_) (fun h597 => ?_)
            · rw [if_pos h597] at H
              refine r_do 15 (by kernel_rfl) (ow_index (K := (kInt .i64 3)) (T := 24) (e := 3) (sz := 1) (x := (Operand.tmp 38)) (y := (Operand.tmp 40)) (k := .i64) (n := (((a0.length : Int)).toNat)) (c := (((a0.length : Int)).toNat)) (A := (some ⟨b503, 0, none⟩)) (xs := (stored x553 x554 (-1))) (iv := (W (x588 - 1))) (by kernel_rfl) (by kernel_rfl) (by kernel_rfl) (by kernel_rfl) h596 h597 (Ow.rdNo ho591) (Ow.len ho591) (by kernel_rfl) ?_) 
              refine r_do 16 (by kernel_rfl) (ow_loadE (K := (kInt .i64 3)) (T := 3) (x := (Operand.tmp 41)) (off := 0) (A := (some ⟨b503, 0, none⟩)) (n := (((a0.length : Int)).toNat)) (xs := (stored x553 x554 (-1))) (iv := (W (x588 - 1))) 0 (.int .i64 (rd 0 (stored x553 x554 (-1)) (W (x588 - 1)))) (by kernel_rfl) (by kernel_rfl) (Ow.rdNo ho591) (Ow.len ho591) h596 h597 (by kernel_rfl) ?_) 
              refine r_vals 17 19 [.bool (decide ((rd 0 (stored x553 x554 (-1)) (W (x588 - 1))) ≥ 0)), .bool (decide ((rd 0 (stored x553 x554 (-1)) (W (x588 - 1))) ≥ 0))] (by kernel_rfl) (by kernel_rfl) ?_
              refine r_fin 19 (by kernel_rfl) ?_
              refine q_then ?_
              refine w_into (dowelref24_Begins_56.j2F a0A a0 a0c b503 x554 x588 x589 (decide ((rd 0 (stored x553 x554 (-1)) (W (x588 - 1))) ≥ 0))) (by kernel_rfl) (fun u_ => ?_)
              exact dowelref24_Begins_56.j2.ok K a0A a0c a0 w a0r a0l r b503 x554 x588 x589 x553 next1 brk1_2 HR HN1 HX1_2 (decide ((rd 0 (stored x553 x554 (-1)) (W (x588 - 1))) ≥ 0)) u_ w586 k587 ho591 H
            · rw [if_neg h597] at H
              cases H
          · rw [if_neg h596] at H
            cases H
        · have h595 : ¬ (x588 > 0) := by simpa using h_
          rw [if_neg h595] at H
          rw [h_]
          clear h_
          refine r_vals 12 19 [undef, undef, undef, undef, undef, undef, .bool false] (by kernel_rfl) (by kernel_rfl) ?_
          refine r_fin 19 (by kernel_rfl) ?_
          refine q_then ?_
          refine w_into (dowelref24_Begins_56.j2F a0A a0 a0c b503 x554 x588 x589 false) (by kernel_rfl) (fun u_ => ?_)
          exact dowelref24_Begins_56.j2.ok K a0A a0c a0 w a0r a0l r b503 x554 x588 x589 x553 next1 brk1_2 HR HN1 HX1_2 false u_ w586 k587 ho591 H
      · have h594 : ¬ (x589 < (((rd z32 a0 x554)).f1)) := by simpa using h_
        rw [if_neg h594] at H
        rw [h_]
        clear h_
        refine r_vals 8 19 [undef, undef, .bool false, .bool false, undef, undef, undef, undef, undef, undef, .bool false] (by kernel_rfl) (by kernel_rfl) ?_
        refine r_fin 19 (by kernel_rfl) ?_
        refine q_then ?_
        refine w_into (dowelref24_Begins_56.j2F a0A a0 a0c b503 x554 x588 x589 false) (by kernel_rfl) (fun u_ => ?_)
        exact dowelref24_Begins_56.j2.ok K a0A a0c a0 w a0r a0l r b503 x554 x588 x589 x553 next1 brk1_2 HR HN1 HX1_2 false u_ w586 k587 ho591 H
    · rw [if_neg h593] at H
      cases H
  · rw [if_neg h592] at H
    cases H
set_option maxRecDepth 20000 in
set_option maxHeartbeats 4000000 in
theorem dowelref24_Begins_56.l1.ok (K : Nat) (a0A : Option Addr) (a0c : Nat) (a0 : List S32) (w : World) (a0r : Rd No w a0A ((K32 33).cells a0)) (a0l : a0.length ≤ a0c) (r : List Int) (b503 : Nat) (x554 : Int) (x553 : List Int) {Q : Exit → Act → World → Prop} (HR : ∀ a w', bodyPost Try.prog Try.f56 (dowelref24_Begins_56.R r w) .ret a w' → Q .ret a w') {brk1_2 : Int → Int → Option (List Int)} (HX1_2 : ∀ (x611q : Int) (x612q : Int) (u609q : Nat → Value) (w607q : World) (k608q : Kp No w w607q) (ho614q : Ow w (kInt .i64 3) w607q (some ⟨b503, 0, none⟩) (((a0.length : Int)).toNat) (((a0.length : Int)).toNat) (stored x553 x554 (-1))), brk1_2 x611q x612q = some r → Q (.exit 2) ⟨dowelref24_Begins_56.F1_2 a0A a0 a0c b503 x554 x611q x612q u609q, []⟩ w607q) : ∀ (n_ : Nat) (x588 : Int) (x589 : Int) (u585 : Nat → Value) (w586 : World) (k587 : Kp No w w586) (ho591 : Ow w (kInt .i64 3) w586 (some ⟨b503, 0, none⟩) (((a0.length : Int)).toNat) (((a0.length : Int)).toNat) (stored x553 x554 (-1))) (H : dowelref24_Begins_56.l1 x554 a0 x553 brk1_2 n_ x588 x589 = some r), Code.rounds Try.prog (cd Try.f56 [1, 1, 0, 1, 0, 0, 1, 0, 0, 1, 1, 1, 1, 0, 0, 0]) Q n_ ⟨dowelref24_Begins_56.F1 a0A a0 a0c b503 x554 x588 x589 u585, []⟩ w586
  | 0, _, _, _, _, _, _, H => by cases H
  | n_ + 1, x588, x589, u585, w586, k587, ho591, H =>
    dowelref24_Begins_56.b1.ok K a0A a0c a0 w a0r a0l r b503 x554 x553 (Q := Exit.then (Code.rounds Try.prog (cd Try.f56 [1, 1, 0, 1, 0, 0, 1, 0, 0, 1, 1, 1, 1, 0, 0, 0]) Q n_) Q) (fun a w' h_ => q_then_r (HR a w' h_)) (fun x0_ x1_ x2_ x3_ x4_ x5_ h_ => dowelref24_Begins_56.l1.ok K a0A a0c a0 w a0r a0l r b503 x554 x553 HR HX1_2 n_ x0_ x1_ x2_ x3_ x4_ x5_ h_) (fun x0_ x1_ x2_ x3_ x4_ x5_ h_ => q_then_x (HX1_2 x0_ x1_ x2_ x3_ x4_ x5_ h_)) x588 x589 u585 w586 k587 ho591 H
set_option maxRecDepth 20000 in
set_option maxHeartbeats 4000000 in
theorem dowelref24_Begins_56.j3.ok (K : Nat) (a0A : Option Addr) (a0c : Nat) (a0 : List S32) (w : World) (a0r : Rd No w a0A ((K32 33).cells a0)) (a0l : a0.length ≤ a0c) (r : List Int) {Q : Exit → Act → World → Prop} (b503 : Nat) (x554 : Int) (next0 : List Int → Int → Option (List Int)) (brk0_0 : List Int → Option (List Int)) (HR : ∀ a w', bodyPost Try.prog Try.f56 (dowelref24_Begins_56.R r w) .ret a w' → Q .ret a w') (HN0 : ∀ (x553q : List Int) (x554q : Int) (u550q : Nat → Value) (w551q : World) (k552q : Kp No w w551q) (ho556q : Ow w (kInt .i64 3) w551q (some ⟨b503, 0, none⟩) (((a0.length : Int)).toNat) (((a0.length : Int)).toNat) x553q), next0 x553q x554q = some r → Q .normal ⟨dowelref24_Begins_56.F0 a0A a0 a0c b503 x554q u550q, []⟩ w551q) (HX0_0 : ∀ (x633q : List Int) (u631q : Nat → Value) (w629q : World) (k630q : Kp No w w629q) (ho635q : Ow w (kInt .i64 3) w629q (some ⟨b503, 0, none⟩) (((a0.length : Int)).toNat) (((a0.length : Int)).toNat) x633q), brk0_0 x633q = some r → Q (.exit 0) ⟨dowelref24_Begins_56.F0_0 b503 a0 u631q, []⟩ w629q) (x627 : List Int) (u625 : Nat → Value) (w623 : World) (k624 : Kp No w w623) (ho628 : Ow w (kInt .i64 3) w623 (some ⟨b503, 0, none⟩) (((a0.length : Int)).toNat) (((a0.length : Int)).toNat) x627) (H : dowelref24_Begins_56.j3 next0 x554 x627 = some r) : (Exit.then (fun a w => (cd Try.f56 [1, 1, 0, 1, 0, 0, 1, 1]).wp Try.prog Q a w) Q) .normal ⟨dowelref24_Begins_56.j3F a0A a0 a0c b503 x554 u625, []⟩ w623 := by
  unfold dowelref24_Begins_56.j3 at H
  refine q_then ?_
  refine w_region (p := [1, 1, 0, 1, 0, 0, 1, 1]) (id := 4) (by kernel_rfl) ?_
  refine r_vals 0 3 [.int .i64 x554, .int .i64 (W (x554 + 1)), .int .i64 (W (x554 + 1))] (by kernel_rfl) (by kernel_rfl) ?_
  refine r_fin 3 (by kernel_rfl) ?_
  refine q_into (dowelref24_Begins_56.F0 a0A a0 a0c b503 (W (x554 + 1))) (by kernel_rfl) (fun u_ => ?_)
  exact HN0 x627 (W (x554 + 1)) u_ w623 k624 ho628 H
set_option maxRecDepth 20000 in
set_option maxHeartbeats 4000000 in
theorem dowelref24_Begins_56.b0.ok (K : Nat) (a0A : Option Addr) (a0c : Nat) (a0 : List S32) (w : World) (a0r : Rd No w a0A ((K32 33).cells a0)) (a0l : a0.length ≤ a0c) (r : List Int) (b503 : Nat) {Q : Exit → Act → World → Prop} (HR : ∀ a w', bodyPost Try.prog Try.f56 (dowelref24_Begins_56.R r w) .ret a w' → Q .ret a w') {next0 : List Int → Int → Option (List Int)} {brk0_0 : List Int → Option (List Int)} (HN0 : ∀ (x553q : List Int) (x554q : Int) (u550q : Nat → Value) (w551q : World) (k552q : Kp No w w551q) (ho556q : Ow w (kInt .i64 3) w551q (some ⟨b503, 0, none⟩) (((a0.length : Int)).toNat) (((a0.length : Int)).toNat) x553q), next0 x553q x554q = some r → Q .normal ⟨dowelref24_Begins_56.F0 a0A a0 a0c b503 x554q u550q, []⟩ w551q) (HX0_0 : ∀ (x633q : List Int) (u631q : Nat → Value) (w629q : World) (k630q : Kp No w w629q) (ho635q : Ow w (kInt .i64 3) w629q (some ⟨b503, 0, none⟩) (((a0.length : Int)).toNat) (((a0.length : Int)).toNat) x633q), brk0_0 x633q = some r → Q (.exit 0) ⟨dowelref24_Begins_56.F0_0 b503 a0 u631q, []⟩ w629q) (x553 : List Int) (x554 : Int) (u550 : Nat → Value) (w551 : World) (k552 : Kp No w w551) (ho556 : Ow w (kInt .i64 3) w551 (some ⟨b503, 0, none⟩) (((a0.length : Int)).toNat) (((a0.length : Int)).toNat) x553) (H : dowelref24_Begins_56.b0 a0 K next0 brk0_0 x553 x554 = some r) : (cd Try.f56 [1, 1, 0, 1, 0, 0]).wp Try.prog Q ⟨dowelref24_Begins_56.F0 a0A a0 a0c b503 x554 u550, []⟩ w551 := by
  unfold dowelref24_Begins_56.b0 at H
  refine w_seq (p := [1, 1, 0, 1, 0, 0]) (p0 := [1, 1, 0, 1, 0, 0, 0]) (p1 := [1, 1, 0, 1, 0, 0, 1]) (by kernel_rfl) ?_
  refine w_seq (p := [1, 1, 0, 1, 0, 0, 0]) (p0 := [1, 1, 0, 1, 0, 0, 0, 0]) (p1 := [1, 1, 0, 1, 0, 0, 0, 1]) (by kernel_rfl) ?_
  refine w_region (p := [1, 1, 0, 1, 0, 0, 0, 0]) (id := 3) (by kernel_rfl) ?_
  refine r_vals 0 4 [.int .i64 x554, .slice a0A a0.length a0c, .int .i64 (a0.length : Int), .bool (decide (x554 < (a0.length : Int)))] (by kernel_rfl) (by kernel_rfl) ?_
  refine r_fin 4 (by kernel_rfl) ?_
  refine q_then ?_
  refine w_cond (p := [1, 1, 0, 1, 0, 0, 0, 1]) (p0 := [1, 1, 0, 1, 0, 0, 0, 1, 0]) (p1 := [1, 1, 0, 1, 0, 0, 0, 1, 1]) (c := (Operand.tmp 13)) (b := decide (x554 < (a0.length : Int))) (by kernel_rfl) (by kernel_rfl) ?_ ?_
  · intro h_
    have h557 : x554 < (a0.length : Int) := by simpa using h_
    clear h_
    rw [if_pos h557] at H
    refine w_skip (p := [1, 1, 0, 1, 0, 0, 0, 1, 0]) (by kernel_rfl) ?_
    refine q_then ?_
    refine w_seq (p := [1, 1, 0, 1, 0, 0, 1]) (p0 := [1, 1, 0, 1, 0, 0, 1, 0]) (p1 := [1, 1, 0, 1, 0, 0, 1, 1]) (by kernel_rfl) ?_
    refine w_block (p := [1, 1, 0, 1, 0, 0, 1, 0]) (p0 := [1, 1, 0, 1, 0, 0, 1, 0, 0]) (id := 1) (by kernel_rfl) ?_
    refine w_seq (p := [1, 1, 0, 1, 0, 0, 1, 0, 0]) (p0 := [1, 1, 0, 1, 0, 0, 1, 0, 0, 0]) (p1 := [1, 1, 0, 1, 0, 0, 1, 0, 0, 1]) (by kernel_rfl) ?_
    refine w_region (p := [1, 1, 0, 1, 0, 0, 1, 0, 0, 0]) (id := 5) (by kernel_rfl) ?_
    refine r_vals 0 2 [.slice (some ⟨b503, 0, none⟩) (((a0.length : Int)).toNat) (((a0.length : Int)).toNat), .int .i64 x554] (by kernel_rfl) (by kernel_rfl) ?_
    refine p_split (0 ≤ x554) (fun h558 => ?_) (fun h558 => ?_)
    · rw [if_pos h558] at H
      refine p_split (x554 < (((a0.length : Int)).toNat : Int)) (fun h559 => ?_) (fun h559 => ?_)
      · rw [if_pos h559] at H
        refine r_do 2 (by kernel_rfl) (ow_index (K := (kInt .i64 3)) (T := 24) (e := 3) (sz := 1) (x := (Operand.tmp 16)) (y := (Operand.tmp 17)) (k := .i64) (n := (((a0.length : Int)).toNat)) (c := (((a0.length : Int)).toNat)) (A := (some ⟨b503, 0, none⟩)) (xs := x553) (iv := x554) (by kernel_rfl) (by kernel_rfl) (by kernel_rfl) (by kernel_rfl) h558 h559 (Ow.rdNo ho556) (Ow.len ho556) (by kernel_rfl) ?_) 
        refine r_do 3 (by kernel_rfl) (ow_storeE (K := (kInt .i64 3)) (T := 3) (x := (Operand.tmp 18)) (y := (Operand.const (Value.int IntKind.i64 (-1)))) (off := 0) (n := (((a0.length : Int)).toNat)) (iv := x554) (A := (some ⟨b503, 0, none⟩)) (c := (((a0.length : Int)).toNat)) (xs := x553) 0 (-1) (.int .i64 (-1)) (by kernel_rfl) (by kernel_rfl) (by kernel_rfl) ho556 h558 h559 (by kernel_rfl) ?_) 
        intro w560 ho562 k561
        have k563 := Kp.own ho556 k552 k561
        refine r_fin 4 (by kernel_rfl) ?_
        refine q_then ?_
        refine w_seq (p := [1, 1, 0, 1, 0, 0, 1, 0, 0, 1]) (p0 := [1, 1, 0, 1, 0, 0, 1, 0, 0, 1, 0]) (p1 := [1, 1, 0, 1, 0, 0, 1, 0, 0, 1, 1]) (by kernel_rfl) ?_
        refine w_seq (p := [1, 1, 0, 1, 0, 0, 1, 0, 0, 1, 0]) (p0 := [1, 1, 0, 1, 0, 0, 1, 0, 0, 1, 0, 0]) (p1 := [1, 1, 0, 1, 0, 0, 1, 0, 0, 1, 0, 1]) (by kernel_rfl) ?_
        refine w_region (p := [1, 1, 0, 1, 0, 0, 1, 0, 0, 1, 0, 0]) (id := 6) (by kernel_rfl) ?_
        refine r_vals 0 2 [.slice a0A a0.length a0c, .int .i64 x554] (by kernel_rfl) (by kernel_rfl) ?_
        refine r_do 2 (by kernel_rfl) (ow_index (K := (K32 33)) (T := 22) (e := 33) (sz := 6) (x := (Operand.tmp 19)) (y := (Operand.tmp 20)) (k := .i64) (n := a0.length) (c := a0c) (A := a0A) (xs := a0) (iv := x554) (by kernel_rfl) (by kernel_rfl) (by kernel_rfl) (by kernel_rfl) h558 h557 (Rd.kp a0r k563 (fun _ _ h => h)) rfl (by kernel_rfl) ?_) 
        refine r_vals 3 4 [.pointer (some ((eaOf a0A (x554.toNat * 6)).add 1))] (by kernel_rfl) (by kernel_rfl) ?_
        refine r_do 4 (by kernel_rfl) (ow_loadE (K := (K32 33)) (T := 3) (x := (Operand.tmp 22)) (off := 1) (A := a0A) (n := a0.length) (xs := a0) (iv := x554) z32 (.int .i64 (((rd z32 a0 x554)).f1)) (by kernel_rfl) (by kernel_rfl) (Rd.kp a0r k563 (fun _ _ h => h)) rfl h558 h557 (by kernel_rfl) ?_) 
        refine r_vals 5 6 [.bool (decide ((((rd z32 a0 x554)).f1) < 0))] (by kernel_rfl) (by kernel_rfl) ?_
        refine r_fin 6 (by kernel_rfl) ?_
        refine q_then ?_
        refine w_cond (p := [1, 1, 0, 1, 0, 0, 1, 0, 0, 1, 0, 1]) (p0 := [1, 1, 0, 1, 0, 0, 1, 0, 0, 1, 0, 1, 0]) (p1 := [1, 1, 0, 1, 0, 0, 1, 0, 0, 1, 0, 1, 1]) (c := (Operand.tmp 24)) (b := decide ((((rd z32 a0 x554)).f1) < 0)) (by kernel_rfl) (by kernel_rfl) ?_ ?_
        · intro h_
          have h564 : (((rd z32 a0 x554)).f1) < 0 := by simpa using h_
          clear h_
          rw [if_pos h564] at H
          refine w_exit (p := [1, 1, 0, 1, 0, 0, 1, 0, 0, 1, 0, 1, 0]) (id := 1) (by kernel_rfl) ?_
          refine q_then_x ?_
          refine q_in_hit ?_
          refine q_into (dowelref24_Begins_56.j3F a0A a0 a0c b503 x554) (by kernel_rfl) (fun u_ => ?_)
          exact dowelref24_Begins_56.j3.ok K a0A a0c a0 w a0r a0l r b503 x554 next0 brk0_0 HR HN0 HX0_0 (stored x553 x554 (-1)) u_ w560 k563 ho562 H
        · intro h_
          have h564 : ¬ ((((rd z32 a0 x554)).f1) < 0) := by simpa using h_
          clear h_
          rw [if_neg h564] at H
          refine w_skip (p := [1, 1, 0, 1, 0, 0, 1, 0, 0, 1, 0, 1, 1]) (by kernel_rfl) ?_
          refine q_then ?_
          refine w_seq (p := [1, 1, 0, 1, 0, 0, 1, 0, 0, 1, 1]) (p0 := [1, 1, 0, 1, 0, 0, 1, 0, 0, 1, 1, 0]) (p1 := [1, 1, 0, 1, 0, 0, 1, 0, 0, 1, 1, 1]) (by kernel_rfl) ?_
          refine w_region (p := [1, 1, 0, 1, 0, 0, 1, 0, 0, 1, 1, 0]) (id := 7) (by kernel_rfl) ?_
          refine r_vals 0 2 [.int .i64 x554, .int .i64 x554] (by kernel_rfl) (by kernel_rfl) ?_
          refine r_fin 2 (by kernel_rfl) ?_
          refine q_then ?_
          refine w_seq (p := [1, 1, 0, 1, 0, 0, 1, 0, 0, 1, 1, 1]) (p0 := [1, 1, 0, 1, 0, 0, 1, 0, 0, 1, 1, 1, 0]) (p1 := [1, 1, 0, 1, 0, 0, 1, 0, 0, 1, 1, 1, 1]) (by kernel_rfl) ?_
          refine w_region (p := [1, 1, 0, 1, 0, 0, 1, 0, 0, 1, 1, 1, 0]) (id := 8) (by kernel_rfl) ?_
          refine r_vals 0 1 [.int .i64 0] (by kernel_rfl) (by kernel_rfl) ?_
          refine r_fin 1 (by kernel_rfl) ?_
          refine q_then ?_
          refine w_seq (p := [1, 1, 0, 1, 0, 0, 1, 0, 0, 1, 1, 1, 1]) (p0 := [1, 1, 0, 1, 0, 0, 1, 0, 0, 1, 1, 1, 1, 0]) (p1 := [1, 1, 0, 1, 0, 0, 1, 0, 0, 1, 1, 1, 1, 1]) (by kernel_rfl) ?_
          refine w_block (p := [1, 1, 0, 1, 0, 0, 1, 0, 0, 1, 1, 1, 1, 0]) (p0 := [1, 1, 0, 1, 0, 0, 1, 0, 0, 1, 1, 1, 1, 0, 0]) (id := 2) (by kernel_rfl) ?_
          refine w_into (dowelref24_Begins_56.F1 a0A a0 a0c b503 x554 x554 0) (by kernel_rfl) (fun u_ => ?_)
          refine w_loop (p := [1, 1, 0, 1, 0, 0, 1, 0, 0, 1, 1, 1, 1, 0, 0]) (p0 := [1, 1, 0, 1, 0, 0, 1, 0, 0, 1, 1, 1, 1, 0, 0, 0]) K (by kernel_rfl) ?_
          refine dowelref24_Begins_56.l1.ok K a0A a0c a0 w a0r a0l r b503 x554 x553 (fun a w' h_ => q_in_r (q_then_r (q_in_r (q_then_r (HR a w' h_))))) ?_ K x554 0 u_ w560 k563 ho562 H
          intro x611 x612 u609 w607 k608 ho614 H
          try dsimp only at H
          refine q_in_hit ?_
          refine q_then ?_
          refine w_seq (p := [1, 1, 0, 1, 0, 0, 1, 0, 0, 1, 1, 1, 1, 1]) (p0 := [1, 1, 0, 1, 0, 0, 1, 0, 0, 1, 1, 1, 1, 1, 0]) (p1 := [1, 1, 0, 1, 0, 0, 1, 0, 0, 1, 1, 1, 1, 1, 1]) (by kernel_rfl) ?_
          refine w_region (p := [1, 1, 0, 1, 0, 0, 1, 0, 0, 1, 1, 1, 1, 1, 0]) (id := 12) (by kernel_rfl) ?_
          refine r_vals 0 3 [.int .i64 x612, .slice a0A a0.length a0c, .int .i64 x554] (by kernel_rfl) (by kernel_rfl) ?_
          refine p_split (0 ≤ x554) (fun h615 => ?_) (fun h615 => ?_)
          · rw [if_pos h615] at H
            refine p_split (x554 < (a0.length : Int)) (fun h616 => ?_) (fun h616 => ?_)
            · rw [if_pos h616] at H
              refine r_do 3 (by kernel_rfl) (ow_index (K := (K32 33)) (T := 22) (e := 33) (sz := 6) (x := (Operand.tmp 53)) (y := (Operand.tmp 54)) (k := .i64) (n := a0.length) (c := a0c) (A := a0A) (xs := a0) (iv := x554) (by kernel_rfl) (by kernel_rfl) (by kernel_rfl) (by kernel_rfl) h615 h616 (Rd.kp a0r k608 (fun _ _ h => h)) rfl (by kernel_rfl) ?_) 
              refine r_vals 4 5 [.pointer (some ((eaOf a0A (x554.toNat * 6)).add 1))] (by kernel_rfl) (by kernel_rfl) ?_
              refine r_do 5 (by kernel_rfl) (ow_loadE (K := (K32 33)) (T := 3) (x := (Operand.tmp 56)) (off := 1) (A := a0A) (n := a0.length) (xs := a0) (iv := x554) z32 (.int .i64 (((rd z32 a0 x554)).f1)) (by kernel_rfl) (by kernel_rfl) (Rd.kp a0r k608 (fun _ _ h => h)) rfl h615 h616 (by kernel_rfl) ?_) 
              refine r_vals 6 7 [.bool (x612 == (((rd z32 a0 x554)).f1))] (by kernel_rfl) (by kernel_rfl) ?_
              refine r_fin 7 (by kernel_rfl) ?_
              refine q_then ?_
              refine w_cond (p := [1, 1, 0, 1, 0, 0, 1, 0, 0, 1, 1, 1, 1, 1, 1]) (p0 := [1, 1, 0, 1, 0, 0, 1, 0, 0, 1, 1, 1, 1, 1, 1, 0]) (p1 := [1, 1, 0, 1, 0, 0, 1, 0, 0, 1, 1, 1, 1, 1, 1, 1]) (c := (Operand.tmp 58)) (b := x612 == (((rd z32 a0 x554)).f1)) (by kernel_rfl) (by kernel_rfl) ?_ ?_
              · intro h_
                have h617 : x612 = (((rd z32 a0 x554)).f1) := by simpa using h_
                clear h_
                rw [if_pos h617] at H
                refine w_region (p := [1, 1, 0, 1, 0, 0, 1, 0, 0, 1, 1, 1, 1, 1, 1, 0]) (id := 13) (by kernel_rfl) ?_
                refine r_vals 0 3 [.slice (some ⟨b503, 0, none⟩) (((a0.length : Int)).toNat) (((a0.length : Int)).toNat), .int .i64 x554, .int .i64 x611] (by kernel_rfl) (by kernel_rfl) ?_
                refine p_split (x554 < (((a0.length : Int)).toNat : Int)) (fun h618 => ?_) (fun h618 => ?_)
                · rw [if_pos h618] at H
                  refine r_do 3 (by kernel_rfl) (ow_index (K := (kInt .i64 3)) (T := 24) (e := 3) (sz := 1) (x := (Operand.tmp 59)) (y := (Operand.tmp 60)) (k := .i64) (n := (((a0.length : Int)).toNat)) (c := (((a0.length : Int)).toNat)) (A := (some ⟨b503, 0, none⟩)) (xs := (stored x553 x554 (-1))) (iv := x554) (by kernel_rfl) (by kernel_rfl) (by kernel_rfl) (by kernel_rfl) h615 h618 (Ow.rdNo ho614) (Ow.len ho614) (by kernel_rfl) ?_) 
                  refine r_do 4 (by kernel_rfl) (ow_storeE (K := (kInt .i64 3)) (T := 3) (x := (Operand.tmp 62)) (y := (Operand.tmp 61)) (off := 0) (n := (((a0.length : Int)).toNat)) (iv := x554) (A := (some ⟨b503, 0, none⟩)) (c := (((a0.length : Int)).toNat)) (xs := (stored x553 x554 (-1))) 0 x611 (.int .i64 x611) (by kernel_rfl) (by kernel_rfl) (by kernel_rfl) ho614 h615 h618 (by kernel_rfl) ?_) 
                  intro w619 ho621 k620
                  have k622 := Kp.own ho614 k608 k620
                  refine r_fin 5 (by kernel_rfl) ?_
                  refine q_in ?_
                  refine q_into (dowelref24_Begins_56.j3F a0A a0 a0c b503 x554) (by kernel_rfl) (fun u_ => ?_)
                  exact dowelref24_Begins_56.j3.ok K a0A a0c a0 w a0r a0l r b503 x554 next0 brk0_0 HR HN0 HX0_0 (stored (stored x553 x554 (-1)) x554 x611) u_ w619 k622 ho621 H
                · rw [if_neg h618] at H
                  cases H
              · intro h_
                have h617 : ¬ (x612 = (((rd z32 a0 x554)).f1)) := by simpa using h_
                clear h_
                rw [if_neg h617] at H
                refine w_skip (p := [1, 1, 0, 1, 0, 0, 1, 0, 0, 1, 1, 1, 1, 1, 1, 1]) (by kernel_rfl) ?_
                refine q_in ?_
                refine q_into (dowelref24_Begins_56.j3F a0A a0 a0c b503 x554) (by kernel_rfl) (fun u_ => ?_)
                exact dowelref24_Begins_56.j3.ok K a0A a0c a0 w a0r a0l r b503 x554 next0 brk0_0 HR HN0 HX0_0 (stored x553 x554 (-1)) u_ w607 k608 ho614 H
            · rw [if_neg h616] at H
              cases H
          · rw [if_neg h615] at H
            cases H
      · rw [if_neg h559] at H
        cases H
    · rw [if_neg h558] at H
      cases H
  · intro h_
    have h557 : ¬ (x554 < (a0.length : Int)) := by simpa using h_
    clear h_
    rw [if_neg h557] at H
    refine w_exit (p := [1, 1, 0, 1, 0, 0, 0, 1, 1]) (id := 0) (by kernel_rfl) ?_
    refine q_then_x ?_
    refine q_into (dowelref24_Begins_56.F0_0 b503 a0) (by kernel_rfl) (fun u_ => ?_)
    exact HX0_0 x553 u_ w551 k552 ho556 H
set_option maxRecDepth 20000 in
set_option maxHeartbeats 4000000 in
theorem dowelref24_Begins_56.l0.ok (K : Nat) (a0A : Option Addr) (a0c : Nat) (a0 : List S32) (w : World) (a0r : Rd No w a0A ((K32 33).cells a0)) (a0l : a0.length ≤ a0c) (r : List Int) (b503 : Nat) {Q : Exit → Act → World → Prop} (HR : ∀ a w', bodyPost Try.prog Try.f56 (dowelref24_Begins_56.R r w) .ret a w' → Q .ret a w') {brk0_0 : List Int → Option (List Int)} (HX0_0 : ∀ (x633q : List Int) (u631q : Nat → Value) (w629q : World) (k630q : Kp No w w629q) (ho635q : Ow w (kInt .i64 3) w629q (some ⟨b503, 0, none⟩) (((a0.length : Int)).toNat) (((a0.length : Int)).toNat) x633q), brk0_0 x633q = some r → Q (.exit 0) ⟨dowelref24_Begins_56.F0_0 b503 a0 u631q, []⟩ w629q) : ∀ (n_ : Nat) (x553 : List Int) (x554 : Int) (u550 : Nat → Value) (w551 : World) (k552 : Kp No w w551) (ho556 : Ow w (kInt .i64 3) w551 (some ⟨b503, 0, none⟩) (((a0.length : Int)).toNat) (((a0.length : Int)).toNat) x553) (H : dowelref24_Begins_56.l0 a0 K brk0_0 n_ x553 x554 = some r), Code.rounds Try.prog (cd Try.f56 [1, 1, 0, 1, 0, 0]) Q n_ ⟨dowelref24_Begins_56.F0 a0A a0 a0c b503 x554 u550, []⟩ w551
  | 0, _, _, _, _, _, _, H => by cases H
  | n_ + 1, x553, x554, u550, w551, k552, ho556, H =>
    dowelref24_Begins_56.b0.ok K a0A a0c a0 w a0r a0l r b503 (Q := Exit.then (Code.rounds Try.prog (cd Try.f56 [1, 1, 0, 1, 0, 0]) Q n_) Q) (fun a w' h_ => q_then_r (HR a w' h_)) (fun x0_ x1_ x2_ x3_ x4_ x5_ h_ => dowelref24_Begins_56.l0.ok K a0A a0c a0 w a0r a0l r b503 HR HX0_0 n_ x0_ x1_ x2_ x3_ x4_ x5_ h_) (fun x0_ x1_ x2_ x3_ x4_ h_ => q_then_x (HX0_0 x0_ x1_ x2_ x3_ x4_ h_)) x553 x554 u550 w551 k552 ho556 H
set_option maxRecDepth 20000 in
set_option maxHeartbeats 4000000 in
theorem dowelref24_Begins_56.ok (K : Nat) (a0A : Option Addr) (a0c : Nat) (a0 : List S32) (a0n : Nat) (w : World) (a0r : Rd No w a0A ((K32 33).cells a0)) (a0l : a0n ≤ a0c) (a0e : a0.length = a0n) (r : List Int) (H : dowelref24_Begins_56.f K a0 = some r) : Calls Try.prog 56 #[.slice a0A a0n a0c] w (dowelref24_Begins_56.R r w) := by
  subst a0e
  refine calls_cd (t := #[.slice a0A a0.length a0c, undef, undef, undef, undef, undef, undef, undef, undef, undef, undef, undef, undef, undef, undef, undef, undef, undef, undef, undef, undef, undef, undef, undef, undef, undef, undef, undef, undef, undef, undef, undef, undef, undef, undef, undef, undef, undef, undef, undef, undef, undef, undef, undef, undef, undef, undef, undef, undef, undef, undef, undef, undef, undef, undef, undef, undef, undef, undef, undef, undef, undef, undef, undef]) Try.func56 (by kernel_rfl) (by kernel_rfl) ?_
  unfold dowelref24_Begins_56.f at H
  have HR : ∀ a w', bodyPost Try.prog Try.f56 (dowelref24_Begins_56.R r w) .ret a w' → bodyPost Try.prog Try.f56 (dowelref24_Begins_56.R r w) .ret a w' := fun _ _ h => h
  refine w_seq (p := []) (p0 := [0]) (p1 := [1]) (by kernel_rfl) ?_
  refine w_region (p := [0]) (id := 0) (by kernel_rfl) ?_
  refine r_vals 0 1 [.slice none 0 0] (by kernel_rfl) (by kernel_rfl) ?_
  refine r_fin 1 (by kernel_rfl) ?_
  refine q_then ?_
  refine w_seq (p := [1]) (p0 := [1, 0]) (p1 := [1, 1]) (by kernel_rfl) ?_
  refine w_region (p := [1, 0]) (id := 1) (by kernel_rfl) ?_
  refine r_vals 0 2 [.slice a0A a0.length a0c, .int .i64 (a0.length : Int)] (by kernel_rfl) (by kernel_rfl) ?_
  refine p_split (0 ≤ (a0.length : Int)) (fun h497 => ?_) (fun h497 => ?_)
  · rw [if_pos h497] at H
    refine p_split ((8 : Int) * (a0.length : Int) ≤ 281474976710656) (fun h498 => ?_) (fun h498 => ?_)
    · rw [if_pos h498] at H
      refine p_split ((a0.length : Int) ≤ 9223372036854775807) (fun h499 => ?_) (fun h499 => ?_)
      · rw [if_pos h499] at H
        refine r_do 2 (by kernel_rfl) (ow_make (K := (kInt .i64 3)) (w0 := w) (T := 24) (x := (Operand.tmp 8)) (y := (Operand.tmp 8)) (kl := .i64) (kc := .i64) (l := (a0.length : Int)) (c := (a0.length : Int)) 0 8 (by kernel_rfl) (by kernel_rfl) (by kernel_rfl) (by kernel_rfl) (by kernel_rfl) (by kernel_rfl) h497 (Int.le_refl _) h498 h499 (Kp.refl No w) ?_) 
        intro b503 w500 e504 ho502 k501
        clear e504
        have k506 := Kp.trans (Kp.refl No w) k501 (fun _ h => h.elim)
        refine r_vals 3 4 [.slice (some ⟨b503, 0, none⟩) (((a0.length : Int)).toNat) (((a0.length : Int)).toNat)] (by kernel_rfl) (by kernel_rfl) ?_
        refine r_fin 4 (by kernel_rfl) ?_
        refine q_then ?_
        refine w_seq (p := [1, 1]) (p0 := [1, 1, 0]) (p1 := [1, 1, 1]) (by kernel_rfl) ?_
        refine w_seq (p := [1, 1, 0]) (p0 := [1, 1, 0, 0]) (p1 := [1, 1, 0, 1]) (by kernel_rfl) ?_
        refine w_region (p := [1, 1, 0, 0]) (id := 2) (by kernel_rfl) ?_
        refine r_vals 0 1 [.int .i64 0] (by kernel_rfl) (by kernel_rfl) ?_
        refine r_fin 1 (by kernel_rfl) ?_
        refine q_then ?_
        refine w_block (p := [1, 1, 0, 1]) (p0 := [1, 1, 0, 1, 0]) (id := 0) (by kernel_rfl) ?_
        refine w_into (dowelref24_Begins_56.F0 a0A a0 a0c b503 0) (by kernel_rfl) (fun u_ => ?_)
        refine w_loop (p := [1, 1, 0, 1, 0]) (p0 := [1, 1, 0, 1, 0, 0]) K (by kernel_rfl) ?_
        refine dowelref24_Begins_56.l0.ok K a0A a0c a0 w a0r a0l r b503 (fun a w' h_ => q_in_r (q_then_r (HR a w' h_))) ?_ K (List.replicate ((a0.length : Int)).toNat 0) 0 u_ w500 k506 ho502 H
        intro x633 u631 w629 k630 ho635 H
        try dsimp only at H
        refine q_in_hit ?_
        refine q_then ?_
        refine w_seq (p := [1, 1, 1]) (p0 := [1, 1, 1, 0]) (p1 := [1, 1, 1, 1]) (by kernel_rfl) ?_
        refine w_region (p := [1, 1, 1, 0]) (id := 14) (by kernel_rfl) ?_
        refine r_vals 0 2 [.slice (some ⟨b503, 0, none⟩) (((a0.length : Int)).toNat) (((a0.length : Int)).toNat), .slice (some ⟨b503, 0, none⟩) (((a0.length : Int)).toNat) (((a0.length : Int)).toNat)] (by kernel_rfl) (by kernel_rfl) ?_
        refine r_fin 2 (by kernel_rfl) ?_
        refine q_then ?_
        refine w_ret (p := [1, 1, 1, 1]) (by kernel_rfl) ?_
        obtain rfl := Option.some.inj H
        refine HR _ _ (body_ret (vs := [.slice (some ⟨b503, 0, none⟩) (((a0.length : Int)).toNat) (((a0.length : Int)).toNat)]) (rv_tmp (by kernel_rfl) rfl) rfl ?_)
        exact ⟨(some ⟨b503, 0, none⟩), ((a0.length : Int)).toNat, ((a0.length : Int)).toNat, rfl, k630, ho635⟩
      · rw [if_neg h499] at H
        cases H
    · rw [if_neg h498] at H
      cases H
  · rw [if_neg h497] at H
    cases H
/-! ### dowel/dowelref24.Parts -/
def dowelref24_Parts_14.f (K : Nat) (a0 : List S32) (a1 : Int) : Option (List Int) := (dowelref24_Begins_56.f K a0).bind fun t636 => ((dowelref24_parts_55.f K a0 t636 a1).bind fun t647 => (some t647))
def dowelref24_Parts_14.R (r : List Int) (w : World) : Ending → World → Prop := fun e w' => ∃ (A0 : Option Addr) (n0 c0 : Nat), e = .returned (.slice A0 n0 c0) ∧ Kp No w w' ∧ Ow w (kInt .i64 3) w' A0 n0 c0 r
set_option maxRecDepth 20000 in
set_option maxHeartbeats 4000000 in
theorem dowelref24_Parts_14.ok (K : Nat) (a0A : Option Addr) (a0c : Nat) (a0 : List S32) (a1 : Int) (a0n : Nat) (w : World) (a0r : Rd No w a0A ((K32 33).cells a0)) (a0l : a0n ≤ a0c) (a0e : a0.length = a0n) (r : List Int) (H : dowelref24_Parts_14.f K a0 a1 = some r) : Calls Try.prog 14 #[.slice a0A a0n a0c, .int .i64 a1] w (dowelref24_Parts_14.R r w) := by
  subst a0e
  refine calls_cd (t := #[.slice a0A a0.length a0c, .int .i64 a1, undef, undef, undef, undef, undef, undef, undef, undef]) Try.func14 (by kernel_rfl) (by kernel_rfl) ?_
  unfold dowelref24_Parts_14.f at H
  have HR : ∀ a w', bodyPost Try.prog Try.f14 (dowelref24_Parts_14.R r w) .ret a w' → bodyPost Try.prog Try.f14 (dowelref24_Parts_14.R r w) .ret a w' := fun _ _ h => h
  refine w_seq (p := []) (p0 := [0]) (p1 := [1]) (by kernel_rfl) ?_
  refine w_region (p := [0]) (id := 0) (by kernel_rfl) ?_
  refine r_vals 0 1 [.slice none 0 0] (by kernel_rfl) (by kernel_rfl) ?_
  refine r_fin 1 (by kernel_rfl) ?_
  refine q_then ?_
  refine w_seq (p := [1]) (p0 := [1, 0]) (p1 := [1, 1]) (by kernel_rfl) ?_
  refine w_region (p := [1, 0]) (id := 1) (by kernel_rfl) ?_
  refine r_vals 0 2 [.slice a0A a0.length a0c, .slice a0A a0.length a0c] (by kernel_rfl) (by kernel_rfl) ?_
  obtain ⟨t636, ht637, H⟩ := Option.bind_eq_some_iff.1 H
  refine r_do 2 (by kernel_rfl) (og_call (g := 56) (av := #[.slice a0A a0.length a0c]) (by kernel_rfl) ?_) 
  refine (dowelref24_Begins_56.ok K a0A a0c a0 a0.length w (Rd.kp a0r (Kp.refl No w) (fun _ _ h => h)) a0l rfl t636 ht637).mono ?_
  rintro e w638 ⟨A641, n644, c642, rfl, k639, ho645⟩
  obtain rfl := ho645.len
  refine ⟨_, rfl, ?_⟩
  have ho643 := Ow.base ho645 (Kp.refl No w)
  have k646 := Kp.trans (Kp.refl No w) k639 (fun _ h => h.elim)
  refine r_vals 3 4 [.int .i64 a1] (by kernel_rfl) (by kernel_rfl) ?_
  obtain ⟨t647, ht648, H⟩ := Option.bind_eq_some_iff.1 H
  refine r_do 4 (by kernel_rfl) (og_call (g := 55) (av := #[.slice a0A a0.length a0c, .slice A641 t636.length c642, .int .i64 a1]) (by kernel_rfl) ?_) 
  refine (dowelref24_parts_55.ok K a0A a0c a0 A641 c642 t636 a1 a0.length t636.length w638 (Rd.kp a0r k646 (fun _ _ h => h)) a0l (Ow.rdNo ho643) (Ow.cap ho643) rfl (Ow.len ho643) t647 ht648).mono ?_
  rintro e w649 ⟨A652, n655, c653, rfl, k650, ho656⟩
  obtain rfl := ho656.len
  refine ⟨_, rfl, ?_⟩
  have n657 := Ow.dj_call ho643 ho656
  have ho654 := Ow.base ho656 k646
  have k658 := Kp.trans k646 k650 (fun _ h => h.elim)
  have ho659 := Ow.kpNo ho643 k650
  refine r_vals 5 6 [.slice A652 t647.length c653] (by kernel_rfl) (by kernel_rfl) ?_
  refine r_fin 6 (by kernel_rfl) ?_
  refine q_then ?_
  refine w_ret (p := [1, 1]) (by kernel_rfl) ?_
  obtain rfl := Option.some.inj H
  refine HR _ _ (body_ret (vs := [.slice A652 t647.length c653]) (rv_tmp (by kernel_rfl) rfl) rfl ?_)
  exact ⟨A652, t647.length, c653, rfl, k658, ho654⟩
/-! ### dowel/dowelbook.Ints -/
def dowelbook_Ints_15.F0 (a0A : Option Addr) (a0 : List Int) (a0c : Nat) (a1A : Option Addr) (a1 : List Int) (a1c : Nat) (x673 : Int) (u_ : Nat → Value) : Array Value := #[.slice a0A a0.length a0c, .slice a1A a1.length a1c, u_ 2, u_ 3, u_ 4, .int .i64 x673, u_ 6, u_ 7, u_ 8, u_ 9, u_ 10, u_ 11, u_ 12, u_ 13, u_ 14, u_ 15, u_ 16, u_ 17, u_ 18, u_ 19, u_ 20, u_ 21, u_ 22, u_ 23, u_ 24, u_ 25]
def dowelbook_Ints_15.F0_0  (u_ : Nat → Value) : Array Value := #[u_ 0, u_ 1, u_ 2, u_ 3, u_ 4, u_ 5, u_ 6, u_ 7, u_ 8, u_ 9, u_ 10, u_ 11, u_ 12, u_ 13, u_ 14, u_ 15, u_ 16, u_ 17, u_ 18, u_ 19, u_ 20, u_ 21, u_ 22, u_ 23, u_ 24, u_ 25]
def dowelbook_Ints_15.b0 (a0 : List Int) (a1 : List Int) (next0 : Int → Option (Bool)) (brk0_0 : Option (Bool)) (x673 : Int) : Option (Bool) := if x673 < (a0.length : Int) then (if 0 ≤ x673 then (if x673 < (a1.length : Int) then (if ¬ ((rd 0 a0 x673) = (rd 0 a1 x673)) then (some false) else (next0 (W (x673 + 1)))) else none) else none) else brk0_0
def dowelbook_Ints_15.l0 (a0 : List Int) (a1 : List Int) (brk0_0 : Option (Bool)) : Nat → Int → Option (Bool)
  | 0, _ => none
  | n_ + 1, x673 => dowelbook_Ints_15.b0 a0 a1 (dowelbook_Ints_15.l0 a0 a1 brk0_0 n_) brk0_0 x673
def dowelbook_Ints_15.f (K : Nat) (a0 : List Int) (a1 : List Int) : Option (Bool) := if ¬ ((a0.length : Int) = (a1.length : Int)) then (some false) else (dowelbook_Ints_15.l0 a0 a1 (some true) K 0)
def dowelbook_Ints_15.R (r : Bool) (w : World) : Ending → World → Prop := fun e w' => e = .returned (.bool r) ∧ Kp No w w'
set_option maxRecDepth 20000 in
set_option maxHeartbeats 4000000 in
theorem dowelbook_Ints_15.b0.ok (K : Nat) (a0A : Option Addr) (a0c : Nat) (a0 : List Int) (a1A : Option Addr) (a1c : Nat) (a1 : List Int) (w : World) (a0r : Rd No w a0A ((kInt .i64 3).cells a0)) (a0l : a0.length ≤ a0c) (a1r : Rd No w a1A ((kInt .i64 3).cells a1)) (a1l : a1.length ≤ a1c) (r : Bool)  {Q : Exit → Act → World → Prop} (HR : ∀ a w', bodyPost Try.prog Try.f15 (dowelbook_Ints_15.R r w) .ret a w' → Q .ret a w') {next0 : Int → Option (Bool)} {brk0_0 : Option (Bool)} (HN0 : ∀ (x673q : Int) (u670q : Nat → Value) (w671q : World) (k672q : Kp No w w671q) , next0 x673q = some r → Q .normal ⟨dowelbook_Ints_15.F0 a0A a0 a0c a1A a1 a1c x673q u670q, []⟩ w671q) (HX0_0 : ∀ (u683q : Nat → Value) (w681q : World) (k682q : Kp No w w681q) , brk0_0  = some r → Q (.exit 0) ⟨dowelbook_Ints_15.F0_0 u683q, []⟩ w681q) (x673 : Int) (u670 : Nat → Value) (w671 : World) (k672 : Kp No w w671)  (H : dowelbook_Ints_15.b0 a0 a1 next0 brk0_0 x673 = some r) : (cd Try.f15 [1, 1, 0, 1, 0, 0]).wp Try.prog Q ⟨dowelbook_Ints_15.F0 a0A a0 a0c a1A a1 a1c x673 u670, []⟩ w671 := by
  unfold dowelbook_Ints_15.b0 at H
  refine w_seq (p := [1, 1, 0, 1, 0, 0]) (p0 := [1, 1, 0, 1, 0, 0, 0]) (p1 := [1, 1, 0, 1, 0, 0, 1]) (by kernel_rfl) ?_
  refine w_seq (p := [1, 1, 0, 1, 0, 0, 0]) (p0 := [1, 1, 0, 1, 0, 0, 0, 0]) (p1 := [1, 1, 0, 1, 0, 0, 0, 1]) (by kernel_rfl) ?_
  refine w_region (p := [1, 1, 0, 1, 0, 0, 0, 0]) (id := 4) (by kernel_rfl) ?_
  refine r_vals 0 4 [.int .i64 x673, .slice a0A a0.length a0c, .int .i64 (a0.length : Int), .bool (decide (x673 < (a0.length : Int)))] (by kernel_rfl) (by kernel_rfl) ?_
  refine r_fin 4 (by kernel_rfl) ?_
  refine q_then ?_
  refine w_cond (p := [1, 1, 0, 1, 0, 0, 0, 1]) (p0 := [1, 1, 0, 1, 0, 0, 0, 1, 0]) (p1 := [1, 1, 0, 1, 0, 0, 0, 1, 1]) (c := (Operand.tmp 14)) (b := decide (x673 < (a0.length : Int))) (by kernel_rfl) (by kernel_rfl) ?_ ?_
  · intro h_
    have h674 : x673 < (a0.length : Int) := by simpa using h_
    clear h_
    rw [if_pos h674] at H
    refine w_skip (p := [1, 1, 0, 1, 0, 0, 0, 1, 0]) (by kernel_rfl) ?_
    refine q_then ?_
    refine w_seq (p := [1, 1, 0, 1, 0, 0, 1]) (p0 := [1, 1, 0, 1, 0, 0, 1, 0]) (p1 := [1, 1, 0, 1, 0, 0, 1, 1]) (by kernel_rfl) ?_
    refine w_block (p := [1, 1, 0, 1, 0, 0, 1, 0]) (p0 := [1, 1, 0, 1, 0, 0, 1, 0, 0]) (id := 1) (by kernel_rfl) ?_
    refine w_seq (p := [1, 1, 0, 1, 0, 0, 1, 0, 0]) (p0 := [1, 1, 0, 1, 0, 0, 1, 0, 0, 0]) (p1 := [1, 1, 0, 1, 0, 0, 1, 0, 0, 1]) (by kernel_rfl) ?_
    refine p_split (0 ≤ x673) (fun h675 => ?_) (fun h675 => ?_)
    · rw [if_pos h675] at H
      refine p_split (x673 < (a1.length : Int)) (fun h676 => ?_) (fun h676 => ?_)
      · rw [if_pos h676] at H
        refine w_drawk (p := [1, 1, 0, 1, 0, 0, 1, 0, 0, 0]) (id := 6) (by kernel_rfl) (by kernel_rfl) [0, 0, 3, 7, 0, 0, 48, 112, 255] 9 (by kernel_rfl) (J := (fun _ w_ => Kp No w671 w_)) (fun w_ h1 h2 h3 h4 => Kp.same h1 h2 h3 h4) ?_
        refine k_pure 2 [.slice a0A a0.length a0c, .int .i64 x673] (by kernel_rfl) (fun _ => by kernel_rfl) (fun _ _ _ _ _ h => h) ?_
        refine k_op (.pointer (some (eaOf a0A (x673.toNat * 1)))) (by kernel_rfl) (fun b_ w_ hJ hb_ hd_ he_ => ow_index (K := (kInt .i64 3)) (T := 24) (e := 3) (sz := 1) (x := (Operand.tmp 17)) (y := (Operand.tmp 18)) (k := .i64) (n := a0.length) (c := a0c) (A := a0A) (xs := a0) (iv := x673) (by kernel_rfl) (by kernel_rfl) (by kernel_rfl) (by kernel_rfl) h675 h674 (Rd.kp a0r (Kp.trans k672 hJ (fun _ h => h.elim)) (fun _ _ h => h)) rfl (by kernel_rfl) ⟨rfl, hJ⟩) ?_
        refine k_op (.int .i64 (rd 0 a0 x673)) (by kernel_rfl) (fun b_ w_ hJ hb_ hd_ he_ => ow_loadE (K := (kInt .i64 3)) (T := 3) (x := (Operand.tmp 19)) (off := 0) (A := a0A) (n := a0.length) (xs := a0) (iv := x673) 0 (.int .i64 (rd 0 a0 x673)) (by kernel_rfl) (by kernel_rfl) (Rd.kp a0r (Kp.trans k672 hJ (fun _ h => h.elim)) (fun _ _ h => h)) rfl h675 h674 (by kernel_rfl) ⟨rfl, hJ⟩) ?_
        refine k_pure 6 [.slice a1A a1.length a1c, .int .i64 x673] (by kernel_rfl) (fun _ => by kernel_rfl) (fun _ _ _ _ _ h => h) ?_
        refine k_op (.pointer (some (eaOf a1A (x673.toNat * 1)))) (by kernel_rfl) (fun b_ w_ hJ hb_ hd_ he_ => ow_index (K := (kInt .i64 3)) (T := 24) (e := 3) (sz := 1) (x := (Operand.tmp 21)) (y := (Operand.tmp 22)) (k := .i64) (n := a1.length) (c := a1c) (A := a1A) (xs := a1) (iv := x673) (by kernel_rfl) (by kernel_rfl) (by kernel_rfl) (by kernel_rfl) h675 h676 (Rd.kp a1r (Kp.trans k672 hJ (fun _ h => h.elim)) (fun _ _ h => h)) rfl (by kernel_rfl) ⟨rfl, hJ⟩) ?_
        refine k_op (.int .i64 (rd 0 a1 x673)) (by kernel_rfl) (fun b_ w_ hJ hb_ hd_ he_ => ow_loadE (K := (kInt .i64 3)) (T := 3) (x := (Operand.tmp 23)) (off := 0) (A := a1A) (n := a1.length) (xs := a1) (iv := x673) 0 (.int .i64 (rd 0 a1 x673)) (by kernel_rfl) (by kernel_rfl) (Rd.kp a1r (Kp.trans k672 hJ (fun _ h => h.elim)) (fun _ _ h => h)) rfl h675 h676 (by kernel_rfl) ⟨rfl, hJ⟩) ?_
        refine k_pure 9 [.bool ((rd 0 a0 x673) != (rd 0 a1 x673))] (by kernel_rfl) (fun _ => by kernel_rfl) (fun _ _ _ _ _ h => h) ?_
        refine k_nil ?_
        rintro b_ w677 hall_ k_
        have k678 := k_
        have k679 := Kp.trans k672 k678 (fun _ h => h.elim)
        refine r_fin 9 (by kernel_rfl) ?_
        refine q_then ?_
        refine w_cond (p := [1, 1, 0, 1, 0, 0, 1, 0, 0, 1]) (p0 := [1, 1, 0, 1, 0, 0, 1, 0, 0, 1, 0]) (p1 := [1, 1, 0, 1, 0, 0, 1, 0, 0, 1, 1]) (c := (Operand.tmp 25)) (b := (rd 0 a0 x673) != (rd 0 a1 x673)) (by kernel_rfl) (by kernel_rfl) ?_ ?_
        · intro h_
          have h680 : ¬ ((rd 0 a0 x673) = (rd 0 a1 x673)) := by simpa using h_
          clear h_
          rw [if_pos h680] at H
          refine w_seq (p := [1, 1, 0, 1, 0, 0, 1, 0, 0, 1, 0]) (p0 := [1, 1, 0, 1, 0, 0, 1, 0, 0, 1, 0, 0]) (p1 := [1, 1, 0, 1, 0, 0, 1, 0, 0, 1, 0, 1]) (by kernel_rfl) ?_
          refine w_region (p := [1, 1, 0, 1, 0, 0, 1, 0, 0, 1, 0, 0]) (id := 7) (by kernel_rfl) ?_
          refine r_vals 0 1 [.bool false] (by kernel_rfl) (by kernel_rfl) ?_
          refine r_fin 1 (by kernel_rfl) ?_
          refine q_then ?_
          refine w_ret (p := [1, 1, 0, 1, 0, 0, 1, 0, 0, 1, 0, 1]) (by kernel_rfl) ?_
          refine q_in_r ?_
          refine q_then_r ?_
          obtain rfl := Option.some.inj H
          refine HR _ _ (body_ret (vs := [.bool false]) (rv_tmp (by kernel_rfl) rfl) rfl ?_)
          exact ⟨rfl, k679⟩
        · intro h_
          have h680 : ¬ (¬ ((rd 0 a0 x673) = (rd 0 a1 x673))) := by simpa using h_
          clear h_
          rw [if_neg h680] at H
          refine w_skip (p := [1, 1, 0, 1, 0, 0, 1, 0, 0, 1, 1]) (by kernel_rfl) ?_
          refine q_in ?_
          refine q_then ?_
          refine w_region (p := [1, 1, 0, 1, 0, 0, 1, 1]) (id := 5) (by kernel_rfl) ?_
          refine r_vals 0 3 [.int .i64 x673, .int .i64 (W (x673 + 1)), .int .i64 (W (x673 + 1))] (by kernel_rfl) (by kernel_rfl) ?_
          refine r_fin 3 (by kernel_rfl) ?_
          refine q_into (dowelbook_Ints_15.F0 a0A a0 a0c a1A a1 a1c (W (x673 + 1))) (by kernel_rfl) (fun u_ => ?_)
          exact HN0 (W (x673 + 1)) u_ w677 k679 H
      · rw [if_neg h676] at H
        cases H
    · rw [if_neg h675] at H
      cases H
  · intro h_
    have h674 : ¬ (x673 < (a0.length : Int)) := by simpa using h_
    clear h_
    rw [if_neg h674] at H
    refine w_exit (p := [1, 1, 0, 1, 0, 0, 0, 1, 1]) (id := 0) (by kernel_rfl) ?_
    refine q_then_x ?_
    refine q_into (dowelbook_Ints_15.F0_0) (by kernel_rfl) (fun u_ => ?_)
    exact HX0_0 u_ w671 k672 H
set_option maxRecDepth 20000 in
set_option maxHeartbeats 4000000 in
theorem dowelbook_Ints_15.l0.ok (K : Nat) (a0A : Option Addr) (a0c : Nat) (a0 : List Int) (a1A : Option Addr) (a1c : Nat) (a1 : List Int) (w : World) (a0r : Rd No w a0A ((kInt .i64 3).cells a0)) (a0l : a0.length ≤ a0c) (a1r : Rd No w a1A ((kInt .i64 3).cells a1)) (a1l : a1.length ≤ a1c) (r : Bool)  {Q : Exit → Act → World → Prop} (HR : ∀ a w', bodyPost Try.prog Try.f15 (dowelbook_Ints_15.R r w) .ret a w' → Q .ret a w') {brk0_0 : Option (Bool)} (HX0_0 : ∀ (u683q : Nat → Value) (w681q : World) (k682q : Kp No w w681q) , brk0_0  = some r → Q (.exit 0) ⟨dowelbook_Ints_15.F0_0 u683q, []⟩ w681q) : ∀ (n_ : Nat) (x673 : Int) (u670 : Nat → Value) (w671 : World) (k672 : Kp No w w671)  (H : dowelbook_Ints_15.l0 a0 a1 brk0_0 n_ x673 = some r), Code.rounds Try.prog (cd Try.f15 [1, 1, 0, 1, 0, 0]) Q n_ ⟨dowelbook_Ints_15.F0 a0A a0 a0c a1A a1 a1c x673 u670, []⟩ w671
  | 0, _, _, _, _, H => by cases H
  | n_ + 1, x673, u670, w671, k672, H =>
    dowelbook_Ints_15.b0.ok K a0A a0c a0 a1A a1c a1 w a0r a0l a1r a1l r  (Q := Exit.then (Code.rounds Try.prog (cd Try.f15 [1, 1, 0, 1, 0, 0]) Q n_) Q) (fun a w' h_ => q_then_r (HR a w' h_)) (fun x0_ x1_ x2_ x3_ h_ => dowelbook_Ints_15.l0.ok K a0A a0c a0 a1A a1c a1 w a0r a0l a1r a1l r  HR HX0_0 n_ x0_ x1_ x2_ x3_ h_) (fun x0_ x1_ x2_ h_ => q_then_x (HX0_0 x0_ x1_ x2_ h_)) x673 u670 w671 k672 H
set_option maxRecDepth 20000 in
set_option maxHeartbeats 4000000 in
theorem dowelbook_Ints_15.ok (K : Nat) (a0A : Option Addr) (a0c : Nat) (a0 : List Int) (a1A : Option Addr) (a1c : Nat) (a1 : List Int) (a0n : Nat) (a1n : Nat) (w : World) (a0r : Rd No w a0A ((kInt .i64 3).cells a0)) (a0l : a0n ≤ a0c) (a1r : Rd No w a1A ((kInt .i64 3).cells a1)) (a1l : a1n ≤ a1c) (a0e : a0.length = a0n) (a1e : a1.length = a1n) (r : Bool) (H : dowelbook_Ints_15.f K a0 a1 = some r) : Calls Try.prog 15 #[.slice a0A a0n a0c, .slice a1A a1n a1c] w (dowelbook_Ints_15.R r w) := by
  subst a0e
  subst a1e
  refine calls_cd (t := #[.slice a0A a0.length a0c, .slice a1A a1.length a1c, undef, undef, undef, undef, undef, undef, undef, undef, undef, undef, undef, undef, undef, undef, undef, undef, undef, undef, undef, undef, undef, undef, undef, undef]) Try.func15 (by kernel_rfl) (by kernel_rfl) ?_
  unfold dowelbook_Ints_15.f at H
  have HR : ∀ a w', bodyPost Try.prog Try.f15 (dowelbook_Ints_15.R r w) .ret a w' → bodyPost Try.prog Try.f15 (dowelbook_Ints_15.R r w) .ret a w' := fun _ _ h => h
  refine w_seq (p := []) (p0 := [0]) (p1 := [1]) (by kernel_rfl) ?_
  refine w_region (p := [0]) (id := 0) (by kernel_rfl) ?_
  refine r_vals 0 1 [.bool false] (by kernel_rfl) (by kernel_rfl) ?_
  refine r_fin 1 (by kernel_rfl) ?_
  refine q_then ?_
  refine w_seq (p := [1]) (p0 := [1, 0]) (p1 := [1, 1]) (by kernel_rfl) ?_
  refine w_seq (p := [1, 0]) (p0 := [1, 0, 0]) (p1 := [1, 0, 1]) (by kernel_rfl) ?_
  refine w_region (p := [1, 0, 0]) (id := 1) (by kernel_rfl) ?_
  refine r_vals 0 5 [.slice a0A a0.length a0c, .int .i64 (a0.length : Int), .slice a1A a1.length a1c, .int .i64 (a1.length : Int), .bool ((a0.length : Int) != (a1.length : Int))] (by kernel_rfl) (by kernel_rfl) ?_
  refine r_fin 5 (by kernel_rfl) ?_
  refine q_then ?_
  refine w_cond (p := [1, 0, 1]) (p0 := [1, 0, 1, 0]) (p1 := [1, 0, 1, 1]) (c := (Operand.tmp 10)) (b := (a0.length : Int) != (a1.length : Int)) (by kernel_rfl) (by kernel_rfl) ?_ ?_
  · intro h_
    have h660 : ¬ ((a0.length : Int) = (a1.length : Int)) := by simpa using h_
    clear h_
    rw [if_pos h660] at H
    refine w_seq (p := [1, 0, 1, 0]) (p0 := [1, 0, 1, 0, 0]) (p1 := [1, 0, 1, 0, 1]) (by kernel_rfl) ?_
    refine w_region (p := [1, 0, 1, 0, 0]) (id := 2) (by kernel_rfl) ?_
    refine r_vals 0 1 [.bool false] (by kernel_rfl) (by kernel_rfl) ?_
    refine r_fin 1 (by kernel_rfl) ?_
    refine q_then ?_
    refine w_ret (p := [1, 0, 1, 0, 1]) (by kernel_rfl) ?_
    refine q_then_r ?_
    obtain rfl := Option.some.inj H
    refine HR _ _ (body_ret (vs := [.bool false]) (rv_tmp (by kernel_rfl) rfl) rfl ?_)
    exact ⟨rfl, (Kp.refl No w)⟩
  · intro h_
    have h660 : ¬ (¬ ((a0.length : Int) = (a1.length : Int))) := by simpa using h_
    clear h_
    rw [if_neg h660] at H
    refine w_skip (p := [1, 0, 1, 1]) (by kernel_rfl) ?_
    refine q_then ?_
    refine w_seq (p := [1, 1]) (p0 := [1, 1, 0]) (p1 := [1, 1, 1]) (by kernel_rfl) ?_
    refine w_seq (p := [1, 1, 0]) (p0 := [1, 1, 0, 0]) (p1 := [1, 1, 0, 1]) (by kernel_rfl) ?_
    refine w_region (p := [1, 1, 0, 0]) (id := 3) (by kernel_rfl) ?_
    refine r_vals 0 1 [.int .i64 0] (by kernel_rfl) (by kernel_rfl) ?_
    refine r_fin 1 (by kernel_rfl) ?_
    refine q_then ?_
    refine w_block (p := [1, 1, 0, 1]) (p0 := [1, 1, 0, 1, 0]) (id := 0) (by kernel_rfl) ?_
    refine w_into (dowelbook_Ints_15.F0 a0A a0 a0c a1A a1 a1c 0) (by kernel_rfl) (fun u_ => ?_)
    refine w_loop (p := [1, 1, 0, 1, 0]) (p0 := [1, 1, 0, 1, 0, 0]) K (by kernel_rfl) ?_
    refine dowelbook_Ints_15.l0.ok K a0A a0c a0 a1A a1c a1 w a0r a0l a1r a1l r  (fun a w' h_ => q_in_r (q_then_r (HR a w' h_))) ?_ K 0 u_ w (Kp.refl No w) H
    intro u683 w681 k682 H
    try dsimp only at H
    refine q_in_hit ?_
    refine q_then ?_
    refine w_seq (p := [1, 1, 1]) (p0 := [1, 1, 1, 0]) (p1 := [1, 1, 1, 1]) (by kernel_rfl) ?_
    refine w_region (p := [1, 1, 1, 0]) (id := 8) (by kernel_rfl) ?_
    refine r_vals 0 1 [.bool true] (by kernel_rfl) (by kernel_rfl) ?_
    refine r_fin 1 (by kernel_rfl) ?_
    refine q_then ?_
    refine w_ret (p := [1, 1, 1, 1]) (by kernel_rfl) ?_
    obtain rfl := Option.some.inj H
    refine HR _ _ (body_ret (vs := [.bool true]) (rv_tmp (by kernel_rfl) rfl) rfl ?_)
    exact ⟨rfl, k682⟩
/-! ### dowel/dowelbook.Acts -/
def dowelbook_Acts_57.F0 (a0A : Option Addr) (a0 : List S32) (a0c : Nat) (a1A : Option Addr) (a1 : List S32) (a1c : Nat) (x697 : Int) (u_ : Nat → Value) : Array Value := #[.slice a0A a0.length a0c, .slice a1A a1.length a1c, u_ 2, u_ 3, u_ 4, .int .i64 x697, u_ 6, u_ 7, u_ 8, u_ 9, u_ 10, u_ 11, u_ 12, u_ 13, u_ 14, u_ 15, u_ 16, u_ 17, u_ 18, u_ 19, u_ 20, u_ 21, u_ 22, u_ 23, u_ 24, u_ 25]
def dowelbook_Acts_57.F0_0  (u_ : Nat → Value) : Array Value := #[u_ 0, u_ 1, u_ 2, u_ 3, u_ 4, u_ 5, u_ 6, u_ 7, u_ 8, u_ 9, u_ 10, u_ 11, u_ 12, u_ 13, u_ 14, u_ 15, u_ 16, u_ 17, u_ 18, u_ 19, u_ 20, u_ 21, u_ 22, u_ 23, u_ 24, u_ 25]
def dowelbook_Acts_57.b0 (a0 : List S32) (a1 : List S32) (next0 : Int → Option (Bool)) (brk0_0 : Option (Bool)) (x697 : Int) : Option (Bool) := if x697 < (a0.length : Int) then (if 0 ≤ x697 then (if x697 < (a1.length : Int) then (if ¬ ((((((rd z32 a0 x697)).f0) == (((rd z32 a1 x697)).f0)) && (((((rd z32 a0 x697)).f1) == (((rd z32 a1 x697)).f1)) && (((((rd z32 a0 x697)).f2).toList == (((rd z32 a1 x697)).f2).toList) && (((((rd z32 a0 x697)).f3).toList == (((rd z32 a1 x697)).f3).toList) && ((((((rd z32 a0 x697)).f4.f0) == (((rd z32 a1 x697)).f4.f0)) && (((((rd z32 a0 x697)).f4.f1) == (((rd z32 a1 x697)).f4.f1)) && true)) && true))))) = true) then (some false) else (next0 (W (x697 + 1)))) else none) else none) else brk0_0
def dowelbook_Acts_57.l0 (a0 : List S32) (a1 : List S32) (brk0_0 : Option (Bool)) : Nat → Int → Option (Bool)
  | 0, _ => none
  | n_ + 1, x697 => dowelbook_Acts_57.b0 a0 a1 (dowelbook_Acts_57.l0 a0 a1 brk0_0 n_) brk0_0 x697
def dowelbook_Acts_57.f (K : Nat) (a0 : List S32) (a1 : List S32) : Option (Bool) := if ¬ ((a0.length : Int) = (a1.length : Int)) then (some false) else (dowelbook_Acts_57.l0 a0 a1 (some true) K 0)
def dowelbook_Acts_57.R (r : Bool) (w : World) : Ending → World → Prop := fun e w' => e = .returned (.bool r) ∧ Kp No w w'
set_option maxRecDepth 20000 in
set_option maxHeartbeats 4000000 in
theorem dowelbook_Acts_57.b0.ok (K : Nat) (a0A : Option Addr) (a0c : Nat) (a0 : List S32) (a1A : Option Addr) (a1c : Nat) (a1 : List S32) (w : World) (a0r : Rd No w a0A ((K32 33).cells a0)) (a0l : a0.length ≤ a0c) (a1r : Rd No w a1A ((K32 33).cells a1)) (a1l : a1.length ≤ a1c) (r : Bool)  {Q : Exit → Act → World → Prop} (HR : ∀ a w', bodyPost Try.prog Try.f57 (dowelbook_Acts_57.R r w) .ret a w' → Q .ret a w') {next0 : Int → Option (Bool)} {brk0_0 : Option (Bool)} (HN0 : ∀ (x697q : Int) (u694q : Nat → Value) (w695q : World) (k696q : Kp No w w695q) , next0 x697q = some r → Q .normal ⟨dowelbook_Acts_57.F0 a0A a0 a0c a1A a1 a1c x697q u694q, []⟩ w695q) (HX0_0 : ∀ (u707q : Nat → Value) (w705q : World) (k706q : Kp No w w705q) , brk0_0  = some r → Q (.exit 0) ⟨dowelbook_Acts_57.F0_0 u707q, []⟩ w705q) (x697 : Int) (u694 : Nat → Value) (w695 : World) (k696 : Kp No w w695)  (H : dowelbook_Acts_57.b0 a0 a1 next0 brk0_0 x697 = some r) : (cd Try.f57 [1, 1, 0, 1, 0, 0]).wp Try.prog Q ⟨dowelbook_Acts_57.F0 a0A a0 a0c a1A a1 a1c x697 u694, []⟩ w695 := by
  unfold dowelbook_Acts_57.b0 at H
  refine w_seq (p := [1, 1, 0, 1, 0, 0]) (p0 := [1, 1, 0, 1, 0, 0, 0]) (p1 := [1, 1, 0, 1, 0, 0, 1]) (by kernel_rfl) ?_
  refine w_seq (p := [1, 1, 0, 1, 0, 0, 0]) (p0 := [1, 1, 0, 1, 0, 0, 0, 0]) (p1 := [1, 1, 0, 1, 0, 0, 0, 1]) (by kernel_rfl) ?_
  refine w_region (p := [1, 1, 0, 1, 0, 0, 0, 0]) (id := 4) (by kernel_rfl) ?_
  refine r_vals 0 4 [.int .i64 x697, .slice a0A a0.length a0c, .int .i64 (a0.length : Int), .bool (decide (x697 < (a0.length : Int)))] (by kernel_rfl) (by kernel_rfl) ?_
  refine r_fin 4 (by kernel_rfl) ?_
  refine q_then ?_
  refine w_cond (p := [1, 1, 0, 1, 0, 0, 0, 1]) (p0 := [1, 1, 0, 1, 0, 0, 0, 1, 0]) (p1 := [1, 1, 0, 1, 0, 0, 0, 1, 1]) (c := (Operand.tmp 14)) (b := decide (x697 < (a0.length : Int))) (by kernel_rfl) (by kernel_rfl) ?_ ?_
  · intro h_
    have h698 : x697 < (a0.length : Int) := by simpa using h_
    clear h_
    rw [if_pos h698] at H
    refine w_skip (p := [1, 1, 0, 1, 0, 0, 0, 1, 0]) (by kernel_rfl) ?_
    refine q_then ?_
    refine w_seq (p := [1, 1, 0, 1, 0, 0, 1]) (p0 := [1, 1, 0, 1, 0, 0, 1, 0]) (p1 := [1, 1, 0, 1, 0, 0, 1, 1]) (by kernel_rfl) ?_
    refine w_block (p := [1, 1, 0, 1, 0, 0, 1, 0]) (p0 := [1, 1, 0, 1, 0, 0, 1, 0, 0]) (id := 1) (by kernel_rfl) ?_
    refine w_seq (p := [1, 1, 0, 1, 0, 0, 1, 0, 0]) (p0 := [1, 1, 0, 1, 0, 0, 1, 0, 0, 0]) (p1 := [1, 1, 0, 1, 0, 0, 1, 0, 0, 1]) (by kernel_rfl) ?_
    refine p_split (0 ≤ x697) (fun h699 => ?_) (fun h699 => ?_)
    · rw [if_pos h699] at H
      refine p_split (x697 < (a1.length : Int)) (fun h700 => ?_) (fun h700 => ?_)
      · rw [if_pos h700] at H
        refine w_drawk (p := [1, 1, 0, 1, 0, 0, 1, 0, 0, 0]) (id := 6) (by kernel_rfl) (by kernel_rfl) [0, 0, 3, 7, 0, 0, 48, 112, 255] 9 (by kernel_rfl) (J := (fun _ w_ => Kp No w695 w_)) (fun w_ h1 h2 h3 h4 => Kp.same h1 h2 h3 h4) ?_
        refine k_pure 2 [.slice a0A a0.length a0c, .int .i64 x697] (by kernel_rfl) (fun _ => by kernel_rfl) (fun _ _ _ _ _ h => h) ?_
        refine k_op (.pointer (some (eaOf a0A (x697.toNat * 6)))) (by kernel_rfl) (fun b_ w_ hJ hb_ hd_ he_ => ow_index (K := (K32 33)) (T := 22) (e := 33) (sz := 6) (x := (Operand.tmp 17)) (y := (Operand.tmp 18)) (k := .i64) (n := a0.length) (c := a0c) (A := a0A) (xs := a0) (iv := x697) (by kernel_rfl) (by kernel_rfl) (by kernel_rfl) (by kernel_rfl) h699 h698 (Rd.kp a0r (Kp.trans k696 hJ (fun _ h => h.elim)) (fun _ _ h => h)) rfl (by kernel_rfl) ⟨rfl, hJ⟩) ?_
        refine k_op (.agg #[.int .i64 (((rd z32 a0 x697)).f0), .int .i64 (((rd z32 a0 x697)).f1), .string (((rd z32 a0 x697)).f2), .string (((rd z32 a0 x697)).f3), .int .i64 (((rd z32 a0 x697)).f4.f0), .int .i64 (((rd z32 a0 x697)).f4.f1)]) (by kernel_rfl) (fun b_ w_ hJ hb_ hd_ he_ => ow_loadE (K := (K32 33)) (T := 33) (x := (Operand.tmp 19)) (off := 0) (A := a0A) (n := a0.length) (xs := a0) (iv := x697) z32 (.agg #[.int .i64 (((rd z32 a0 x697)).f0), .int .i64 (((rd z32 a0 x697)).f1), .string (((rd z32 a0 x697)).f2), .string (((rd z32 a0 x697)).f3), .int .i64 (((rd z32 a0 x697)).f4.f0), .int .i64 (((rd z32 a0 x697)).f4.f1)]) (by kernel_rfl) (by kernel_rfl) (Rd.kp a0r (Kp.trans k696 hJ (fun _ h => h.elim)) (fun _ _ h => h)) rfl h699 h698 (by kernel_rfl) ⟨rfl, hJ⟩) ?_
        refine k_pure 6 [.slice a1A a1.length a1c, .int .i64 x697] (by kernel_rfl) (fun _ => by kernel_rfl) (fun _ _ _ _ _ h => h) ?_
        refine k_op (.pointer (some (eaOf a1A (x697.toNat * 6)))) (by kernel_rfl) (fun b_ w_ hJ hb_ hd_ he_ => ow_index (K := (K32 33)) (T := 22) (e := 33) (sz := 6) (x := (Operand.tmp 21)) (y := (Operand.tmp 22)) (k := .i64) (n := a1.length) (c := a1c) (A := a1A) (xs := a1) (iv := x697) (by kernel_rfl) (by kernel_rfl) (by kernel_rfl) (by kernel_rfl) h699 h700 (Rd.kp a1r (Kp.trans k696 hJ (fun _ h => h.elim)) (fun _ _ h => h)) rfl (by kernel_rfl) ⟨rfl, hJ⟩) ?_
        refine k_op (.agg #[.int .i64 (((rd z32 a1 x697)).f0), .int .i64 (((rd z32 a1 x697)).f1), .string (((rd z32 a1 x697)).f2), .string (((rd z32 a1 x697)).f3), .int .i64 (((rd z32 a1 x697)).f4.f0), .int .i64 (((rd z32 a1 x697)).f4.f1)]) (by kernel_rfl) (fun b_ w_ hJ hb_ hd_ he_ => ow_loadE (K := (K32 33)) (T := 33) (x := (Operand.tmp 23)) (off := 0) (A := a1A) (n := a1.length) (xs := a1) (iv := x697) z32 (.agg #[.int .i64 (((rd z32 a1 x697)).f0), .int .i64 (((rd z32 a1 x697)).f1), .string (((rd z32 a1 x697)).f2), .string (((rd z32 a1 x697)).f3), .int .i64 (((rd z32 a1 x697)).f4.f0), .int .i64 (((rd z32 a1 x697)).f4.f1)]) (by kernel_rfl) (by kernel_rfl) (Rd.kp a1r (Kp.trans k696 hJ (fun _ h => h.elim)) (fun _ _ h => h)) rfl h699 h700 (by kernel_rfl) ⟨rfl, hJ⟩) ?_
        refine k_op (.bool (!(((((rd z32 a0 x697)).f0) == (((rd z32 a1 x697)).f0)) && (((((rd z32 a0 x697)).f1) == (((rd z32 a1 x697)).f1)) && (((((rd z32 a0 x697)).f2).toList == (((rd z32 a1 x697)).f2).toList) && (((((rd z32 a0 x697)).f3).toList == (((rd z32 a1 x697)).f3).toList) && ((((((rd z32 a0 x697)).f4.f0) == (((rd z32 a1 x697)).f4.f0)) && (((((rd z32 a0 x697)).f4.f1) == (((rd z32 a1 x697)).f4.f1)) && true)) && true))))))) (by kernel_rfl) (fun b_ w_ hJ hb_ hd_ he_ => og_neagg (T := 33) (U := 33) (x := (Operand.tmp 20)) (y := (Operand.tmp 24)) (xs := #[.int .i64 (((rd z32 a0 x697)).f0), .int .i64 (((rd z32 a0 x697)).f1), .string (((rd z32 a0 x697)).f2), .string (((rd z32 a0 x697)).f3), .int .i64 (((rd z32 a0 x697)).f4.f0), .int .i64 (((rd z32 a0 x697)).f4.f1)]) (ys := #[.int .i64 (((rd z32 a1 x697)).f0), .int .i64 (((rd z32 a1 x697)).f1), .string (((rd z32 a1 x697)).f2), .string (((rd z32 a1 x697)).f3), .int .i64 (((rd z32 a1 x697)).f4.f0), .int .i64 (((rd z32 a1 x697)).f4.f1)]) ((((((rd z32 a0 x697)).f0) == (((rd z32 a1 x697)).f0)) && (((((rd z32 a0 x697)).f1) == (((rd z32 a1 x697)).f1)) && (((((rd z32 a0 x697)).f2).toList == (((rd z32 a1 x697)).f2).toList) && (((((rd z32 a0 x697)).f3).toList == (((rd z32 a1 x697)).f3).toList) && ((((((rd z32 a0 x697)).f4.f0) == (((rd z32 a1 x697)).f4.f0)) && (((((rd z32 a0 x697)).f4.f1) == (((rd z32 a1 x697)).f4.f1)) && true)) && true)))))) (by kernel_rfl) (by kernel_rfl) (by kernel_rfl) (by kernel_rfl) (by kernel_rfl) ⟨rfl, hJ⟩) ?_
        refine k_nil ?_
        rintro b_ w701 hall_ k_
        have k702 := k_
        have k703 := Kp.trans k696 k702 (fun _ h => h.elim)
        refine r_fin 9 (by kernel_rfl) ?_
        refine q_then ?_
        refine w_cond (p := [1, 1, 0, 1, 0, 0, 1, 0, 0, 1]) (p0 := [1, 1, 0, 1, 0, 0, 1, 0, 0, 1, 0]) (p1 := [1, 1, 0, 1, 0, 0, 1, 0, 0, 1, 1]) (c := (Operand.tmp 25)) (b := !(((((rd z32 a0 x697)).f0) == (((rd z32 a1 x697)).f0)) && (((((rd z32 a0 x697)).f1) == (((rd z32 a1 x697)).f1)) && (((((rd z32 a0 x697)).f2).toList == (((rd z32 a1 x697)).f2).toList) && (((((rd z32 a0 x697)).f3).toList == (((rd z32 a1 x697)).f3).toList) && ((((((rd z32 a0 x697)).f4.f0) == (((rd z32 a1 x697)).f4.f0)) && (((((rd z32 a0 x697)).f4.f1) == (((rd z32 a1 x697)).f4.f1)) && true)) && true)))))) (by kernel_rfl) (by kernel_rfl) ?_ ?_
        · intro h_
          have h704 : ¬ ((((((rd z32 a0 x697)).f0) == (((rd z32 a1 x697)).f0)) && (((((rd z32 a0 x697)).f1) == (((rd z32 a1 x697)).f1)) && (((((rd z32 a0 x697)).f2).toList == (((rd z32 a1 x697)).f2).toList) && (((((rd z32 a0 x697)).f3).toList == (((rd z32 a1 x697)).f3).toList) && ((((((rd z32 a0 x697)).f4.f0) == (((rd z32 a1 x697)).f4.f0)) && (((((rd z32 a0 x697)).f4.f1) == (((rd z32 a1 x697)).f4.f1)) && true)) && true))))) = true) := bnot_t h_
          clear h_
          rw [if_pos h704] at H
          refine w_seq (p := [1, 1, 0, 1, 0, 0, 1, 0, 0, 1, 0]) (p0 := [1, 1, 0, 1, 0, 0, 1, 0, 0, 1, 0, 0]) (p1 := [1, 1, 0, 1, 0, 0, 1, 0, 0, 1, 0, 1]) (by kernel_rfl) ?_
          refine w_region (p := [1, 1, 0, 1, 0, 0, 1, 0, 0, 1, 0, 0]) (id := 7) (by kernel_rfl) ?_
          refine r_vals 0 1 [.bool false] (by kernel_rfl) (by kernel_rfl) ?_
          refine r_fin 1 (by kernel_rfl) ?_
          refine q_then ?_
          refine w_ret (p := [1, 1, 0, 1, 0, 0, 1, 0, 0, 1, 0, 1]) (by kernel_rfl) ?_
          refine q_in_r ?_
          refine q_then_r ?_
          obtain rfl := Option.some.inj H
          refine HR _ _ (body_ret (vs := [.bool false]) (rv_tmp (by kernel_rfl) rfl) rfl ?_)
          exact ⟨rfl, k703⟩
        · intro h_
          have h704 : ¬ (¬ ((((((rd z32 a0 x697)).f0) == (((rd z32 a1 x697)).f0)) && (((((rd z32 a0 x697)).f1) == (((rd z32 a1 x697)).f1)) && (((((rd z32 a0 x697)).f2).toList == (((rd z32 a1 x697)).f2).toList) && (((((rd z32 a0 x697)).f3).toList == (((rd z32 a1 x697)).f3).toList) && ((((((rd z32 a0 x697)).f4.f0) == (((rd z32 a1 x697)).f4.f0)) && (((((rd z32 a0 x697)).f4.f1) == (((rd z32 a1 x697)).f4.f1)) && true)) && true))))) = true)) := bnot_f h_
          clear h_
          rw [if_neg h704] at H
          refine w_skip (p := [1, 1, 0, 1, 0, 0, 1, 0, 0, 1, 1]) (by kernel_rfl) ?_
          refine q_in ?_
          refine q_then ?_
          refine w_region (p := [1, 1, 0, 1, 0, 0, 1, 1]) (id := 5) (by kernel_rfl) ?_
          refine r_vals 0 3 [.int .i64 x697, .int .i64 (W (x697 + 1)), .int .i64 (W (x697 + 1))] (by kernel_rfl) (by kernel_rfl) ?_
          refine r_fin 3 (by kernel_rfl) ?_
          refine q_into (dowelbook_Acts_57.F0 a0A a0 a0c a1A a1 a1c (W (x697 + 1))) (by kernel_rfl) (fun u_ => ?_)
          exact HN0 (W (x697 + 1)) u_ w701 k703 H
      · rw [if_neg h700] at H
        cases H
    · rw [if_neg h699] at H
      cases H
  · intro h_
    have h698 : ¬ (x697 < (a0.length : Int)) := by simpa using h_
    clear h_
    rw [if_neg h698] at H
    refine w_exit (p := [1, 1, 0, 1, 0, 0, 0, 1, 1]) (id := 0) (by kernel_rfl) ?_
    refine q_then_x ?_
    refine q_into (dowelbook_Acts_57.F0_0) (by kernel_rfl) (fun u_ => ?_)
    exact HX0_0 u_ w695 k696 H
set_option maxRecDepth 20000 in
set_option maxHeartbeats 4000000 in
theorem dowelbook_Acts_57.l0.ok (K : Nat) (a0A : Option Addr) (a0c : Nat) (a0 : List S32) (a1A : Option Addr) (a1c : Nat) (a1 : List S32) (w : World) (a0r : Rd No w a0A ((K32 33).cells a0)) (a0l : a0.length ≤ a0c) (a1r : Rd No w a1A ((K32 33).cells a1)) (a1l : a1.length ≤ a1c) (r : Bool)  {Q : Exit → Act → World → Prop} (HR : ∀ a w', bodyPost Try.prog Try.f57 (dowelbook_Acts_57.R r w) .ret a w' → Q .ret a w') {brk0_0 : Option (Bool)} (HX0_0 : ∀ (u707q : Nat → Value) (w705q : World) (k706q : Kp No w w705q) , brk0_0  = some r → Q (.exit 0) ⟨dowelbook_Acts_57.F0_0 u707q, []⟩ w705q) : ∀ (n_ : Nat) (x697 : Int) (u694 : Nat → Value) (w695 : World) (k696 : Kp No w w695)  (H : dowelbook_Acts_57.l0 a0 a1 brk0_0 n_ x697 = some r), Code.rounds Try.prog (cd Try.f57 [1, 1, 0, 1, 0, 0]) Q n_ ⟨dowelbook_Acts_57.F0 a0A a0 a0c a1A a1 a1c x697 u694, []⟩ w695
  | 0, _, _, _, _, H => by cases H
  | n_ + 1, x697, u694, w695, k696, H =>
    dowelbook_Acts_57.b0.ok K a0A a0c a0 a1A a1c a1 w a0r a0l a1r a1l r  (Q := Exit.then (Code.rounds Try.prog (cd Try.f57 [1, 1, 0, 1, 0, 0]) Q n_) Q) (fun a w' h_ => q_then_r (HR a w' h_)) (fun x0_ x1_ x2_ x3_ h_ => dowelbook_Acts_57.l0.ok K a0A a0c a0 a1A a1c a1 w a0r a0l a1r a1l r  HR HX0_0 n_ x0_ x1_ x2_ x3_ h_) (fun x0_ x1_ x2_ h_ => q_then_x (HX0_0 x0_ x1_ x2_ h_)) x697 u694 w695 k696 H
set_option maxRecDepth 20000 in
set_option maxHeartbeats 4000000 in
theorem dowelbook_Acts_57.ok (K : Nat) (a0A : Option Addr) (a0c : Nat) (a0 : List S32) (a1A : Option Addr) (a1c : Nat) (a1 : List S32) (a0n : Nat) (a1n : Nat) (w : World) (a0r : Rd No w a0A ((K32 33).cells a0)) (a0l : a0n ≤ a0c) (a1r : Rd No w a1A ((K32 33).cells a1)) (a1l : a1n ≤ a1c) (a0e : a0.length = a0n) (a1e : a1.length = a1n) (r : Bool) (H : dowelbook_Acts_57.f K a0 a1 = some r) : Calls Try.prog 57 #[.slice a0A a0n a0c, .slice a1A a1n a1c] w (dowelbook_Acts_57.R r w) := by
  subst a0e
  subst a1e
  refine calls_cd (t := #[.slice a0A a0.length a0c, .slice a1A a1.length a1c, undef, undef, undef, undef, undef, undef, undef, undef, undef, undef, undef, undef, undef, undef, undef, undef, undef, undef, undef, undef, undef, undef, undef, undef]) Try.func57 (by kernel_rfl) (by kernel_rfl) ?_
  unfold dowelbook_Acts_57.f at H
  have HR : ∀ a w', bodyPost Try.prog Try.f57 (dowelbook_Acts_57.R r w) .ret a w' → bodyPost Try.prog Try.f57 (dowelbook_Acts_57.R r w) .ret a w' := fun _ _ h => h
  refine w_seq (p := []) (p0 := [0]) (p1 := [1]) (by kernel_rfl) ?_
  refine w_region (p := [0]) (id := 0) (by kernel_rfl) ?_
  refine r_vals 0 1 [.bool false] (by kernel_rfl) (by kernel_rfl) ?_
  refine r_fin 1 (by kernel_rfl) ?_
  refine q_then ?_
  refine w_seq (p := [1]) (p0 := [1, 0]) (p1 := [1, 1]) (by kernel_rfl) ?_
  refine w_seq (p := [1, 0]) (p0 := [1, 0, 0]) (p1 := [1, 0, 1]) (by kernel_rfl) ?_
  refine w_region (p := [1, 0, 0]) (id := 1) (by kernel_rfl) ?_
  refine r_vals 0 5 [.slice a0A a0.length a0c, .int .i64 (a0.length : Int), .slice a1A a1.length a1c, .int .i64 (a1.length : Int), .bool ((a0.length : Int) != (a1.length : Int))] (by kernel_rfl) (by kernel_rfl) ?_
  refine r_fin 5 (by kernel_rfl) ?_
  refine q_then ?_
  refine w_cond (p := [1, 0, 1]) (p0 := [1, 0, 1, 0]) (p1 := [1, 0, 1, 1]) (c := (Operand.tmp 10)) (b := (a0.length : Int) != (a1.length : Int)) (by kernel_rfl) (by kernel_rfl) ?_ ?_
  · intro h_
    have h684 : ¬ ((a0.length : Int) = (a1.length : Int)) := by simpa using h_
    clear h_
    rw [if_pos h684] at H
    refine w_seq (p := [1, 0, 1, 0]) (p0 := [1, 0, 1, 0, 0]) (p1 := [1, 0, 1, 0, 1]) (by kernel_rfl) ?_
    refine w_region (p := [1, 0, 1, 0, 0]) (id := 2) (by kernel_rfl) ?_
    refine r_vals 0 1 [.bool false] (by kernel_rfl) (by kernel_rfl) ?_
    refine r_fin 1 (by kernel_rfl) ?_
    refine q_then ?_
    refine w_ret (p := [1, 0, 1, 0, 1]) (by kernel_rfl) ?_
    refine q_then_r ?_
    obtain rfl := Option.some.inj H
    refine HR _ _ (body_ret (vs := [.bool false]) (rv_tmp (by kernel_rfl) rfl) rfl ?_)
    exact ⟨rfl, (Kp.refl No w)⟩
  · intro h_
    have h684 : ¬ (¬ ((a0.length : Int) = (a1.length : Int))) := by simpa using h_
    clear h_
    rw [if_neg h684] at H
    refine w_skip (p := [1, 0, 1, 1]) (by kernel_rfl) ?_
    refine q_then ?_
    refine w_seq (p := [1, 1]) (p0 := [1, 1, 0]) (p1 := [1, 1, 1]) (by kernel_rfl) ?_
    refine w_seq (p := [1, 1, 0]) (p0 := [1, 1, 0, 0]) (p1 := [1, 1, 0, 1]) (by kernel_rfl) ?_
    refine w_region (p := [1, 1, 0, 0]) (id := 3) (by kernel_rfl) ?_
    refine r_vals 0 1 [.int .i64 0] (by kernel_rfl) (by kernel_rfl) ?_
    refine r_fin 1 (by kernel_rfl) ?_
    refine q_then ?_
    refine w_block (p := [1, 1, 0, 1]) (p0 := [1, 1, 0, 1, 0]) (id := 0) (by kernel_rfl) ?_
    refine w_into (dowelbook_Acts_57.F0 a0A a0 a0c a1A a1 a1c 0) (by kernel_rfl) (fun u_ => ?_)
    refine w_loop (p := [1, 1, 0, 1, 0]) (p0 := [1, 1, 0, 1, 0, 0]) K (by kernel_rfl) ?_
    refine dowelbook_Acts_57.l0.ok K a0A a0c a0 a1A a1c a1 w a0r a0l a1r a1l r  (fun a w' h_ => q_in_r (q_then_r (HR a w' h_))) ?_ K 0 u_ w (Kp.refl No w) H
    intro u707 w705 k706 H
    try dsimp only at H
    refine q_in_hit ?_
    refine q_then ?_
    refine w_seq (p := [1, 1, 1]) (p0 := [1, 1, 1, 0]) (p1 := [1, 1, 1, 1]) (by kernel_rfl) ?_
    refine w_region (p := [1, 1, 1, 0]) (id := 8) (by kernel_rfl) ?_
    refine r_vals 0 1 [.bool true] (by kernel_rfl) (by kernel_rfl) ?_
    refine r_fin 1 (by kernel_rfl) ?_
    refine q_then ?_
    refine w_ret (p := [1, 1, 1, 1]) (by kernel_rfl) ?_
    obtain rfl := Option.some.inj H
    refine HR _ _ (body_ret (vs := [.bool true]) (rv_tmp (by kernel_rfl) rfl) rfl ?_)
    exact ⟨rfl, k706⟩
/-! ### dowel/dowelbook.KeptActs -/
def dowelbook_KeptActs_16.j0F (x737 : Bool) (u_ : Nat → Value) : Array Value := #[u_ 0, u_ 1, u_ 2, u_ 3, .bool x737, u_ 5, u_ 6, u_ 7, u_ 8, u_ 9, u_ 10, u_ 11, u_ 12, u_ 13, u_ 14, u_ 15, u_ 16, u_ 17, u_ 18, u_ 19, u_ 20, u_ 21, u_ 22, u_ 23, u_ 24, u_ 25, u_ 26, u_ 27, u_ 28, u_ 29, u_ 30, u_ 31, u_ 32]
def dowelbook_KeptActs_16.j0 (x737 : Bool) : Option (Bool) := some x737
def dowelbook_KeptActs_16.f (K : Nat) (a0 : List S32) (a0m : Nat) (a1 : List S32) : Option (Bool) := if 0 ≤ (W ((a1.length : Int) + 2)) then (if (W ((a1.length : Int) + 2)) ≤ (a0.length : Int) then ((dowelbook_Acts_57.f K (a0.take a0m) a1).bind fun t711 => (if t711 = true then (if 0 ≤ (a1.length : Int) then (if (a1.length : Int) < ((W ((a1.length : Int) + 2)).toNat : Int) then ((dowelbook_actsMark_51.f K 77).bind fun t717 => (if (((((rd z32 (a0.take (W ((a1.length : Int) + 2)).toNat) (a1.length : Int))).f0) == t717.f0) && (((((rd z32 (a0.take (W ((a1.length : Int) + 2)).toNat) (a1.length : Int))).f1) == t717.f1) && (((((rd z32 (a0.take (W ((a1.length : Int) + 2)).toNat) (a1.length : Int))).f2).toList == t717.f2.toList) && (((((rd z32 (a0.take (W ((a1.length : Int) + 2)).toNat) (a1.length : Int))).f3).toList == t717.f3.toList) && ((((((rd z32 (a0.take (W ((a1.length : Int) + 2)).toNat) (a1.length : Int))).f4.f0) == t717.f4.f0) && (((((rd z32 (a0.take (W ((a1.length : Int) + 2)).toNat) (a1.length : Int))).f4.f1) == t717.f4.f1) && true)) && true))))) = true then (if 0 ≤ (W ((a1.length : Int) + 1)) then (if (W ((a1.length : Int) + 1)) < ((W ((a1.length : Int) + 2)).toNat : Int) then ((dowelbook_actsMore_52.f K 77).bind fun t723 => (dowelbook_KeptActs_16.j0 (((((rd z32 (a0.take (W ((a1.length : Int) + 2)).toNat) (W ((a1.length : Int) + 1)))).f0) == t723.f0) && (((((rd z32 (a0.take (W ((a1.length : Int) + 2)).toNat) (W ((a1.length : Int) + 1)))).f1) == t723.f1) && (((((rd z32 (a0.take (W ((a1.length : Int) + 2)).toNat) (W ((a1.length : Int) + 1)))).f2).toList == t723.f2.toList) && (((((rd z32 (a0.take (W ((a1.length : Int) + 2)).toNat) (W ((a1.length : Int) + 1)))).f3).toList == t723.f3.toList) && ((((((rd z32 (a0.take (W ((a1.length : Int) + 2)).toNat) (W ((a1.length : Int) + 1)))).f4.f0) == t723.f4.f0) && (((((rd z32 (a0.take (W ((a1.length : Int) + 2)).toNat) (W ((a1.length : Int) + 1)))).f4.f1) == t723.f4.f1) && true)) && true))))))) else none) else none) else (dowelbook_KeptActs_16.j0 false))) else none) else none) else (dowelbook_KeptActs_16.j0 false))) else none) else none
def dowelbook_KeptActs_16.R (r : Bool) (w : World) : Ending → World → Prop := fun e w' => e = .returned (.bool r) ∧ Kp No w w'
set_option maxRecDepth 20000 in
set_option maxHeartbeats 4000000 in
theorem dowelbook_KeptActs_16.j0.ok (K : Nat) (a0A : Option Addr) (a0c : Nat) (a0 : List S32) (a0m : Nat) (a1A : Option Addr) (a1c : Nat) (a1 : List S32) (w : World) (a0r : Rd No w a0A ((K32 33).cells a0)) (a0l : a0.length ≤ a0c) (a0m' : a0m ≤ a0.length) (a1r : Rd No w a1A ((K32 33).cells a1)) (a1l : a1.length ≤ a1c) (r : Bool) {Q : Exit → Act → World → Prop}  (HR : ∀ a w', bodyPost Try.prog Try.f16 (dowelbook_KeptActs_16.R r w) .ret a w' → Q .ret a w')  (x737 : Bool) (u736 : Nat → Value) (w734 : World) (k735 : Kp No w w734)  (H : dowelbook_KeptActs_16.j0 x737 = some r) : (cd Try.f16 [1, 1, 1]).wp Try.prog Q ⟨dowelbook_KeptActs_16.j0F x737 u736, []⟩ w734 := by
  unfold dowelbook_KeptActs_16.j0 at H
  refine w_ret (p := [1, 1, 1]) (by kernel_rfl) ?_
  obtain rfl := Option.some.inj H
  refine HR _ _ (body_ret (vs := [.bool x737]) (rv_tmp (by kernel_rfl) rfl) rfl ?_)
  exact ⟨rfl, k735⟩
set_option maxRecDepth 20000 in
set_option maxHeartbeats 4000000 in
theorem dowelbook_KeptActs_16.ok (K : Nat) (a0A : Option Addr) (a0c : Nat) (a0 : List S32) (a0m : Nat) (a1A : Option Addr) (a1c : Nat) (a1 : List S32) (a1n : Nat) (w : World) (a0r : Rd No w a0A ((K32 33).cells a0)) (a0l : a0.length ≤ a0c) (a0m' : a0m ≤ a0.length) (a1r : Rd No w a1A ((K32 33).cells a1)) (a1l : a1n ≤ a1c) (a1e : a1.length = a1n) (r : Bool) (H : dowelbook_KeptActs_16.f K a0 a0m a1 = some r) : Calls Try.prog 16 #[.slice a0A a0m a0c, .slice a1A a1n a1c] w (dowelbook_KeptActs_16.R r w) := by
  subst a1e
  refine calls_cd (t := #[.slice a0A a0m a0c, .slice a1A a1.length a1c, undef, undef, undef, undef, undef, undef, undef, undef, undef, undef, undef, undef, undef, undef, undef, undef, undef, undef, undef, undef, undef, undef, undef, undef, undef, undef, undef, undef, undef, undef, undef]) Try.func16 (by kernel_rfl) (by kernel_rfl) ?_
  unfold dowelbook_KeptActs_16.f at H
  have HR : ∀ a w', bodyPost Try.prog Try.f16 (dowelbook_KeptActs_16.R r w) .ret a w' → bodyPost Try.prog Try.f16 (dowelbook_KeptActs_16.R r w) .ret a w' := fun _ _ h => h
  refine w_seq (p := []) (p0 := [0]) (p1 := [1]) (by kernel_rfl) ?_
  refine w_region (p := [0]) (id := 0) (by kernel_rfl) ?_
  refine r_vals 0 1 [.bool false] (by kernel_rfl) (by kernel_rfl) ?_
  refine r_fin 1 (by kernel_rfl) ?_
  refine q_then ?_
  refine w_seq (p := [1]) (p0 := [1, 0]) (p1 := [1, 1]) (by kernel_rfl) ?_
  refine w_region (p := [1, 0]) (id := 1) (by kernel_rfl) ?_
  refine r_vals 0 4 [.slice a0A a0m a0c, .slice a1A a1.length a1c, .int .i64 (a1.length : Int), .int .i64 (W ((a1.length : Int) + 2))] (by kernel_rfl) (by kernel_rfl) ?_
  refine p_split (0 ≤ (W ((a1.length : Int) + 2))) (fun h708 => ?_) (fun h708 => ?_)
  · rw [if_pos h708] at H
    refine p_split ((W ((a1.length : Int) + 2)) ≤ (a0.length : Int)) (fun h709 => ?_) (fun h709 => ?_)
    · rw [if_pos h709] at H
      have hm710 : (W ((a1.length : Int) + 2)).toNat ≤ a0.length := by omega
      refine r_do 4 (by kernel_rfl) (og_ocut (T := 22) (e := 33) (sz := 6) (A := a0A) (n := a0m) (c := a0c) (x := (Operand.tmp 6)) (hi := (some (Operand.tmp 9))) (h := (W ((a1.length : Int) + 2))) (kh := .i64) (by kernel_rfl) (by kernel_rfl) (by kernel_rfl) (by kernel_rfl) h708 (Int.le_trans h709 (Int.ofNat_le.2 a0l)) ?_) 
      refine r_vals 5 6 [.slice a0A ((W ((a1.length : Int) + 2)).toNat) a0c] (by kernel_rfl) (by kernel_rfl) ?_
      refine r_fin 6 (by kernel_rfl) ?_
      refine q_then ?_
      refine w_seq (p := [1, 1]) (p0 := [1, 1, 0]) (p1 := [1, 1, 1]) (by kernel_rfl) ?_
      obtain ⟨t711, ht712, H⟩ := Option.bind_eq_some_iff.1 H
      refine b_split (t711) (fun h714 => ?_) (fun h714 => ?_)
      · have h713 : t711 = true := h714
        rw [if_pos h713] at H
        refine p_split (0 ≤ (a1.length : Int)) (fun h715 => ?_) (fun h715 => ?_)
        · rw [if_pos h715] at H
          refine p_split ((a1.length : Int) < ((W ((a1.length : Int) + 2)).toNat : Int)) (fun h716 => ?_) (fun h716 => ?_)
          · rw [if_pos h716] at H
            obtain ⟨t717, ht718, H⟩ := Option.bind_eq_some_iff.1 H
            refine b_split ((((((rd z32 (a0.take (W ((a1.length : Int) + 2)).toNat) (a1.length : Int))).f0) == t717.f0) && (((((rd z32 (a0.take (W ((a1.length : Int) + 2)).toNat) (a1.length : Int))).f1) == t717.f1) && (((((rd z32 (a0.take (W ((a1.length : Int) + 2)).toNat) (a1.length : Int))).f2).toList == t717.f2.toList) && (((((rd z32 (a0.take (W ((a1.length : Int) + 2)).toNat) (a1.length : Int))).f3).toList == t717.f3.toList) && ((((((rd z32 (a0.take (W ((a1.length : Int) + 2)).toNat) (a1.length : Int))).f4.f0) == t717.f4.f0) && (((((rd z32 (a0.take (W ((a1.length : Int) + 2)).toNat) (a1.length : Int))).f4.f1) == t717.f4.f1) && true)) && true)))))) (fun h720 => ?_) (fun h720 => ?_)
            · have h719 : (((((rd z32 (a0.take (W ((a1.length : Int) + 2)).toNat) (a1.length : Int))).f0) == t717.f0) && (((((rd z32 (a0.take (W ((a1.length : Int) + 2)).toNat) (a1.length : Int))).f1) == t717.f1) && (((((rd z32 (a0.take (W ((a1.length : Int) + 2)).toNat) (a1.length : Int))).f2).toList == t717.f2.toList) && (((((rd z32 (a0.take (W ((a1.length : Int) + 2)).toNat) (a1.length : Int))).f3).toList == t717.f3.toList) && ((((((rd z32 (a0.take (W ((a1.length : Int) + 2)).toNat) (a1.length : Int))).f4.f0) == t717.f4.f0) && (((((rd z32 (a0.take (W ((a1.length : Int) + 2)).toNat) (a1.length : Int))).f4.f1) == t717.f4.f1) && true)) && true))))) = true := h720
              rw [if_pos h719] at H
              refine p_split (0 ≤ (W ((a1.length : Int) + 1))) (fun h721 => ?_) (fun h721 => ?_)
              · rw [if_pos h721] at H
                refine p_split ((W ((a1.length : Int) + 1)) < ((W ((a1.length : Int) + 2)).toNat : Int)) (fun h722 => ?_) (fun h722 => ?_)
                · rw [if_pos h722] at H
                  obtain ⟨t723, ht724, H⟩ := Option.bind_eq_some_iff.1 H
                  refine w_drawk (p := [1, 1, 0]) (id := 2) (by kernel_rfl) (by kernel_rfl) [0, 0, 3, 7, 15, 15, 47, 127, 255, 15, 1023, 2047, 4095, 8191, 8191, 24575, 57343, 131071, 262143, 8191, 1048575, 2097151, 4194303] 23 (by kernel_rfl) (J := (fun _ w_ => Kp No w w_)) (fun w_ h1 h2 h3 h4 => Kp.same h1 h2 h3 h4) ?_
                  refine k_pure 2 [.slice a0A a0m a0c, .slice a1A a1.length a1c] (by kernel_rfl) (fun _ => by kernel_rfl) (fun _ _ _ _ _ h => h) ?_
                  refine k_op (.bool t711) (by kernel_rfl) (fun b_ w_ hJ hb_ hd_ he_ => og_call (g := 57) (av := #[.slice a0A a0m a0c, .slice a1A a1.length a1c]) (by kernel_rfl) ((dowelbook_Acts_57.ok K a0A a0c (a0.take a0m) a1A a1c a1 a0m a1.length w_ (Rd.takeN (Rd.kp a0r (Kp.trans (Kp.refl No w) hJ (fun _ h => h.elim)) (fun _ _ h => h)) a0m) (Int.ofNat_le.1 (by have := a0l; have := a0m'; omega)) (Rd.kp a1r (Kp.trans (Kp.refl No w) hJ (fun _ h => h.elim)) (fun _ _ h => h)) a1l (take_len a0m') rfl t711 ht712).mono (by rintro e w3_ ⟨rfl, k3_⟩; exact ⟨_, rfl, rfl, Kp.trans hJ k3_ (fun _ h => h.elim)⟩))) ?_
                  refine k_op (.bool true) (by kernel_rfl) (fun b_ w_ hJ hb_ hd_ he_ => og_run (v := .bool t711) (by kernel_rfl) ⟨by rw [h714], hJ⟩) ?_
                  refine k_pure 7 [.slice a0A ((W ((a1.length : Int) + 2)).toNat) a0c, .slice a1A a1.length a1c, .int .i64 (a1.length : Int)] (by kernel_rfl) (fun _ => by kernel_rfl) (fun _ _ _ _ _ h => h) ?_
                  refine k_op (.pointer (some (eaOf a0A ((a1.length : Int).toNat * 6)))) (by kernel_rfl) (fun b_ w_ hJ hb_ hd_ he_ => ow_index (K := (K32 33)) (T := 22) (e := 33) (sz := 6) (x := (Operand.tmp 15)) (y := (Operand.tmp 17)) (k := .i64) (n := ((W ((a1.length : Int) + 2)).toNat)) (c := a0c) (A := a0A) (xs := (a0.take (W ((a1.length : Int) + 2)).toNat)) (iv := (a1.length : Int)) (by kernel_rfl) (by kernel_rfl) (by kernel_rfl) (by kernel_rfl) h715 h716 (Rd.takeN (Rd.kp a0r (Kp.trans (Kp.refl No w) hJ (fun _ h => h.elim)) (fun _ _ h => h)) (W ((a1.length : Int) + 2)).toNat) (take_len hm710) (by kernel_rfl) ⟨rfl, hJ⟩) ?_
                  refine k_op (.agg #[.int .i64 (((rd z32 (a0.take (W ((a1.length : Int) + 2)).toNat) (a1.length : Int))).f0), .int .i64 (((rd z32 (a0.take (W ((a1.length : Int) + 2)).toNat) (a1.length : Int))).f1), .string (((rd z32 (a0.take (W ((a1.length : Int) + 2)).toNat) (a1.length : Int))).f2), .string (((rd z32 (a0.take (W ((a1.length : Int) + 2)).toNat) (a1.length : Int))).f3), .int .i64 (((rd z32 (a0.take (W ((a1.length : Int) + 2)).toNat) (a1.length : Int))).f4.f0), .int .i64 (((rd z32 (a0.take (W ((a1.length : Int) + 2)).toNat) (a1.length : Int))).f4.f1)]) (by kernel_rfl) (fun b_ w_ hJ hb_ hd_ he_ => ow_loadE (K := (K32 33)) (T := 33) (x := (Operand.tmp 18)) (off := 0) (A := a0A) (n := ((W ((a1.length : Int) + 2)).toNat)) (xs := (a0.take (W ((a1.length : Int) + 2)).toNat)) (iv := (a1.length : Int)) z32 (.agg #[.int .i64 (((rd z32 (a0.take (W ((a1.length : Int) + 2)).toNat) (a1.length : Int))).f0), .int .i64 (((rd z32 (a0.take (W ((a1.length : Int) + 2)).toNat) (a1.length : Int))).f1), .string (((rd z32 (a0.take (W ((a1.length : Int) + 2)).toNat) (a1.length : Int))).f2), .string (((rd z32 (a0.take (W ((a1.length : Int) + 2)).toNat) (a1.length : Int))).f3), .int .i64 (((rd z32 (a0.take (W ((a1.length : Int) + 2)).toNat) (a1.length : Int))).f4.f0), .int .i64 (((rd z32 (a0.take (W ((a1.length : Int) + 2)).toNat) (a1.length : Int))).f4.f1)]) (by kernel_rfl) (by kernel_rfl) (Rd.takeN (Rd.kp a0r (Kp.trans (Kp.refl No w) hJ (fun _ h => h.elim)) (fun _ _ h => h)) (W ((a1.length : Int) + 2)).toNat) (take_len hm710) h715 h716 (by kernel_rfl) ⟨rfl, hJ⟩) ?_
                  refine k_op (.agg #[.int .i64 t717.f0, .int .i64 t717.f1, .string t717.f2, .string t717.f3, .int .i64 t717.f4.f0, .int .i64 t717.f4.f1]) (by kernel_rfl) (fun b_ w_ hJ hb_ hd_ he_ => og_call (g := 51) (av := #[.int .i64 77]) (by kernel_rfl) ((dowelbook_actsMark_51.ok K 77 w_ t717 ht718).mono (by rintro e w3_ ⟨rfl, k3_⟩; exact ⟨_, rfl, rfl, Kp.trans hJ k3_ (fun _ h => h.elim)⟩))) ?_
                  refine k_op (.bool (((((rd z32 (a0.take (W ((a1.length : Int) + 2)).toNat) (a1.length : Int))).f0) == t717.f0) && (((((rd z32 (a0.take (W ((a1.length : Int) + 2)).toNat) (a1.length : Int))).f1) == t717.f1) && (((((rd z32 (a0.take (W ((a1.length : Int) + 2)).toNat) (a1.length : Int))).f2).toList == t717.f2.toList) && (((((rd z32 (a0.take (W ((a1.length : Int) + 2)).toNat) (a1.length : Int))).f3).toList == t717.f3.toList) && ((((((rd z32 (a0.take (W ((a1.length : Int) + 2)).toNat) (a1.length : Int))).f4.f0) == t717.f4.f0) && (((((rd z32 (a0.take (W ((a1.length : Int) + 2)).toNat) (a1.length : Int))).f4.f1) == t717.f4.f1) && true)) && true)))))) (by kernel_rfl) (fun b_ w_ hJ hb_ hd_ he_ => og_eqagg (T := 33) (U := 33) (x := (Operand.tmp 19)) (y := (Operand.tmp 20)) (xs := #[.int .i64 (((rd z32 (a0.take (W ((a1.length : Int) + 2)).toNat) (a1.length : Int))).f0), .int .i64 (((rd z32 (a0.take (W ((a1.length : Int) + 2)).toNat) (a1.length : Int))).f1), .string (((rd z32 (a0.take (W ((a1.length : Int) + 2)).toNat) (a1.length : Int))).f2), .string (((rd z32 (a0.take (W ((a1.length : Int) + 2)).toNat) (a1.length : Int))).f3), .int .i64 (((rd z32 (a0.take (W ((a1.length : Int) + 2)).toNat) (a1.length : Int))).f4.f0), .int .i64 (((rd z32 (a0.take (W ((a1.length : Int) + 2)).toNat) (a1.length : Int))).f4.f1)]) (ys := #[.int .i64 t717.f0, .int .i64 t717.f1, .string t717.f2, .string t717.f3, .int .i64 t717.f4.f0, .int .i64 t717.f4.f1]) ((((((rd z32 (a0.take (W ((a1.length : Int) + 2)).toNat) (a1.length : Int))).f0) == t717.f0) && (((((rd z32 (a0.take (W ((a1.length : Int) + 2)).toNat) (a1.length : Int))).f1) == t717.f1) && (((((rd z32 (a0.take (W ((a1.length : Int) + 2)).toNat) (a1.length : Int))).f2).toList == t717.f2.toList) && (((((rd z32 (a0.take (W ((a1.length : Int) + 2)).toNat) (a1.length : Int))).f3).toList == t717.f3.toList) && ((((((rd z32 (a0.take (W ((a1.length : Int) + 2)).toNat) (a1.length : Int))).f4.f0) == t717.f4.f0) && (((((rd z32 (a0.take (W ((a1.length : Int) + 2)).toNat) (a1.length : Int))).f4.f1) == t717.f4.f1) && true)) && true)))))) (by kernel_rfl) (by kernel_rfl) (by kernel_rfl) (by kernel_rfl) (by kernel_rfl) ⟨rfl, hJ⟩) ?_
                  refine k_pure 12 [.bool (((((rd z32 (a0.take (W ((a1.length : Int) + 2)).toNat) (a1.length : Int))).f0) == t717.f0) && (((((rd z32 (a0.take (W ((a1.length : Int) + 2)).toNat) (a1.length : Int))).f1) == t717.f1) && (((((rd z32 (a0.take (W ((a1.length : Int) + 2)).toNat) (a1.length : Int))).f2).toList == t717.f2.toList) && (((((rd z32 (a0.take (W ((a1.length : Int) + 2)).toNat) (a1.length : Int))).f3).toList == t717.f3.toList) && ((((((rd z32 (a0.take (W ((a1.length : Int) + 2)).toNat) (a1.length : Int))).f4.f0) == t717.f4.f0) && (((((rd z32 (a0.take (W ((a1.length : Int) + 2)).toNat) (a1.length : Int))).f4.f1) == t717.f4.f1) && true)) && true)))))] (by kernel_rfl) (fun _ => by kernel_rfl) (fun _ _ _ _ _ h => h) ?_
                  refine k_op (.bool true) (by kernel_rfl) (fun b_ w_ hJ hb_ hd_ he_ => og_run (v := .bool (((((rd z32 (a0.take (W ((a1.length : Int) + 2)).toNat) (a1.length : Int))).f0) == t717.f0) && (((((rd z32 (a0.take (W ((a1.length : Int) + 2)).toNat) (a1.length : Int))).f1) == t717.f1) && (((((rd z32 (a0.take (W ((a1.length : Int) + 2)).toNat) (a1.length : Int))).f2).toList == t717.f2.toList) && (((((rd z32 (a0.take (W ((a1.length : Int) + 2)).toNat) (a1.length : Int))).f3).toList == t717.f3.toList) && ((((((rd z32 (a0.take (W ((a1.length : Int) + 2)).toNat) (a1.length : Int))).f4.f0) == t717.f4.f0) && (((((rd z32 (a0.take (W ((a1.length : Int) + 2)).toNat) (a1.length : Int))).f4.f1) == t717.f4.f1) && true)) && true)))))) (by kernel_rfl) ⟨by rw [h720], hJ⟩) ?_
                  refine k_pure 17 [.slice a0A ((W ((a1.length : Int) + 2)).toNat) a0c, .slice a1A a1.length a1c, .int .i64 (a1.length : Int), .int .i64 (W ((a1.length : Int) + 1))] (by kernel_rfl) (fun _ => by kernel_rfl) (fun _ _ _ _ _ h => h) ?_
                  refine k_op (.pointer (some (eaOf a0A ((W ((a1.length : Int) + 1)).toNat * 6)))) (by kernel_rfl) (fun b_ w_ hJ hb_ hd_ he_ => ow_index (K := (K32 33)) (T := 22) (e := 33) (sz := 6) (x := (Operand.tmp 24)) (y := (Operand.tmp 27)) (k := .i64) (n := ((W ((a1.length : Int) + 2)).toNat)) (c := a0c) (A := a0A) (xs := (a0.take (W ((a1.length : Int) + 2)).toNat)) (iv := (W ((a1.length : Int) + 1))) (by kernel_rfl) (by kernel_rfl) (by kernel_rfl) (by kernel_rfl) h721 h722 (Rd.takeN (Rd.kp a0r (Kp.trans (Kp.refl No w) hJ (fun _ h => h.elim)) (fun _ _ h => h)) (W ((a1.length : Int) + 2)).toNat) (take_len hm710) (by kernel_rfl) ⟨rfl, hJ⟩) ?_
                  refine k_op (.agg #[.int .i64 (((rd z32 (a0.take (W ((a1.length : Int) + 2)).toNat) (W ((a1.length : Int) + 1)))).f0), .int .i64 (((rd z32 (a0.take (W ((a1.length : Int) + 2)).toNat) (W ((a1.length : Int) + 1)))).f1), .string (((rd z32 (a0.take (W ((a1.length : Int) + 2)).toNat) (W ((a1.length : Int) + 1)))).f2), .string (((rd z32 (a0.take (W ((a1.length : Int) + 2)).toNat) (W ((a1.length : Int) + 1)))).f3), .int .i64 (((rd z32 (a0.take (W ((a1.length : Int) + 2)).toNat) (W ((a1.length : Int) + 1)))).f4.f0), .int .i64 (((rd z32 (a0.take (W ((a1.length : Int) + 2)).toNat) (W ((a1.length : Int) + 1)))).f4.f1)]) (by kernel_rfl) (fun b_ w_ hJ hb_ hd_ he_ => ow_loadE (K := (K32 33)) (T := 33) (x := (Operand.tmp 28)) (off := 0) (A := a0A) (n := ((W ((a1.length : Int) + 2)).toNat)) (xs := (a0.take (W ((a1.length : Int) + 2)).toNat)) (iv := (W ((a1.length : Int) + 1))) z32 (.agg #[.int .i64 (((rd z32 (a0.take (W ((a1.length : Int) + 2)).toNat) (W ((a1.length : Int) + 1)))).f0), .int .i64 (((rd z32 (a0.take (W ((a1.length : Int) + 2)).toNat) (W ((a1.length : Int) + 1)))).f1), .string (((rd z32 (a0.take (W ((a1.length : Int) + 2)).toNat) (W ((a1.length : Int) + 1)))).f2), .string (((rd z32 (a0.take (W ((a1.length : Int) + 2)).toNat) (W ((a1.length : Int) + 1)))).f3), .int .i64 (((rd z32 (a0.take (W ((a1.length : Int) + 2)).toNat) (W ((a1.length : Int) + 1)))).f4.f0), .int .i64 (((rd z32 (a0.take (W ((a1.length : Int) + 2)).toNat) (W ((a1.length : Int) + 1)))).f4.f1)]) (by kernel_rfl) (by kernel_rfl) (Rd.takeN (Rd.kp a0r (Kp.trans (Kp.refl No w) hJ (fun _ h => h.elim)) (fun _ _ h => h)) (W ((a1.length : Int) + 2)).toNat) (take_len hm710) h721 h722 (by kernel_rfl) ⟨rfl, hJ⟩) ?_
                  refine k_op (.agg #[.int .i64 t723.f0, .int .i64 t723.f1, .string t723.f2, .string t723.f3, .int .i64 t723.f4.f0, .int .i64 t723.f4.f1]) (by kernel_rfl) (fun b_ w_ hJ hb_ hd_ he_ => og_call (g := 52) (av := #[.int .i64 77]) (by kernel_rfl) ((dowelbook_actsMore_52.ok K 77 w_ t723 ht724).mono (by rintro e w3_ ⟨rfl, k3_⟩; exact ⟨_, rfl, rfl, Kp.trans hJ k3_ (fun _ h => h.elim)⟩))) ?_
                  refine k_op (.bool (((((rd z32 (a0.take (W ((a1.length : Int) + 2)).toNat) (W ((a1.length : Int) + 1)))).f0) == t723.f0) && (((((rd z32 (a0.take (W ((a1.length : Int) + 2)).toNat) (W ((a1.length : Int) + 1)))).f1) == t723.f1) && (((((rd z32 (a0.take (W ((a1.length : Int) + 2)).toNat) (W ((a1.length : Int) + 1)))).f2).toList == t723.f2.toList) && (((((rd z32 (a0.take (W ((a1.length : Int) + 2)).toNat) (W ((a1.length : Int) + 1)))).f3).toList == t723.f3.toList) && ((((((rd z32 (a0.take (W ((a1.length : Int) + 2)).toNat) (W ((a1.length : Int) + 1)))).f4.f0) == t723.f4.f0) && (((((rd z32 (a0.take (W ((a1.length : Int) + 2)).toNat) (W ((a1.length : Int) + 1)))).f4.f1) == t723.f4.f1) && true)) && true)))))) (by kernel_rfl) (fun b_ w_ hJ hb_ hd_ he_ => og_eqagg (T := 33) (U := 33) (x := (Operand.tmp 29)) (y := (Operand.tmp 30)) (xs := #[.int .i64 (((rd z32 (a0.take (W ((a1.length : Int) + 2)).toNat) (W ((a1.length : Int) + 1)))).f0), .int .i64 (((rd z32 (a0.take (W ((a1.length : Int) + 2)).toNat) (W ((a1.length : Int) + 1)))).f1), .string (((rd z32 (a0.take (W ((a1.length : Int) + 2)).toNat) (W ((a1.length : Int) + 1)))).f2), .string (((rd z32 (a0.take (W ((a1.length : Int) + 2)).toNat) (W ((a1.length : Int) + 1)))).f3), .int .i64 (((rd z32 (a0.take (W ((a1.length : Int) + 2)).toNat) (W ((a1.length : Int) + 1)))).f4.f0), .int .i64 (((rd z32 (a0.take (W ((a1.length : Int) + 2)).toNat) (W ((a1.length : Int) + 1)))).f4.f1)]) (ys := #[.int .i64 t723.f0, .int .i64 t723.f1, .string t723.f2, .string t723.f3, .int .i64 t723.f4.f0, .int .i64 t723.f4.f1]) ((((((rd z32 (a0.take (W ((a1.length : Int) + 2)).toNat) (W ((a1.length : Int) + 1)))).f0) == t723.f0) && (((((rd z32 (a0.take (W ((a1.length : Int) + 2)).toNat) (W ((a1.length : Int) + 1)))).f1) == t723.f1) && (((((rd z32 (a0.take (W ((a1.length : Int) + 2)).toNat) (W ((a1.length : Int) + 1)))).f2).toList == t723.f2.toList) && (((((rd z32 (a0.take (W ((a1.length : Int) + 2)).toNat) (W ((a1.length : Int) + 1)))).f3).toList == t723.f3.toList) && ((((((rd z32 (a0.take (W ((a1.length : Int) + 2)).toNat) (W ((a1.length : Int) + 1)))).f4.f0) == t723.f4.f0) && (((((rd z32 (a0.take (W ((a1.length : Int) + 2)).toNat) (W ((a1.length : Int) + 1)))).f4.f1) == t723.f4.f1) && true)) && true)))))) (by kernel_rfl) (by kernel_rfl) (by kernel_rfl) (by kernel_rfl) (by kernel_rfl) ⟨rfl, hJ⟩) ?_
                  refine k_pure 23 [.bool (((((rd z32 (a0.take (W ((a1.length : Int) + 2)).toNat) (W ((a1.length : Int) + 1)))).f0) == t723.f0) && (((((rd z32 (a0.take (W ((a1.length : Int) + 2)).toNat) (W ((a1.length : Int) + 1)))).f1) == t723.f1) && (((((rd z32 (a0.take (W ((a1.length : Int) + 2)).toNat) (W ((a1.length : Int) + 1)))).f2).toList == t723.f2.toList) && (((((rd z32 (a0.take (W ((a1.length : Int) + 2)).toNat) (W ((a1.length : Int) + 1)))).f3).toList == t723.f3.toList) && ((((((rd z32 (a0.take (W ((a1.length : Int) + 2)).toNat) (W ((a1.length : Int) + 1)))).f4.f0) == t723.f4.f0) && (((((rd z32 (a0.take (W ((a1.length : Int) + 2)).toNat) (W ((a1.length : Int) + 1)))).f4.f1) == t723.f4.f1) && true)) && true))))), .bool (((((rd z32 (a0.take (W ((a1.length : Int) + 2)).toNat) (W ((a1.length : Int) + 1)))).f0) == t723.f0) && (((((rd z32 (a0.take (W ((a1.length : Int) + 2)).toNat) (W ((a1.length : Int) + 1)))).f1) == t723.f1) && (((((rd z32 (a0.take (W ((a1.length : Int) + 2)).toNat) (W ((a1.length : Int) + 1)))).f2).toList == t723.f2.toList) && (((((rd z32 (a0.take (W ((a1.length : Int) + 2)).toNat) (W ((a1.length : Int) + 1)))).f3).toList == t723.f3.toList) && ((((((rd z32 (a0.take (W ((a1.length : Int) + 2)).toNat) (W ((a1.length : Int) + 1)))).f4.f0) == t723.f4.f0) && (((((rd z32 (a0.take (W ((a1.length : Int) + 2)).toNat) (W ((a1.length : Int) + 1)))).f4.f1) == t723.f4.f1) && true)) && true)))))] (by kernel_rfl) (fun _ => by kernel_rfl) (fun _ _ _ _ _ h => h) ?_
                  refine k_nil ?_
                  rintro b_ w725 hall_ k_
                  have k726 := k_
                  have k727 := Kp.trans (Kp.refl No w) k726 (fun _ h => h.elim)
                  refine r_fin 23 (by kernel_rfl) ?_
                  refine q_then ?_
                  refine w_into (dowelbook_KeptActs_16.j0F (((((rd z32 (a0.take (W ((a1.length : Int) + 2)).toNat) (W ((a1.length : Int) + 1)))).f0) == t723.f0) && (((((rd z32 (a0.take (W ((a1.length : Int) + 2)).toNat) (W ((a1.length : Int) + 1)))).f1) == t723.f1) && (((((rd z32 (a0.take (W ((a1.length : Int) + 2)).toNat) (W ((a1.length : Int) + 1)))).f2).toList == t723.f2.toList) && (((((rd z32 (a0.take (W ((a1.length : Int) + 2)).toNat) (W ((a1.length : Int) + 1)))).f3).toList == t723.f3.toList) && ((((((rd z32 (a0.take (W ((a1.length : Int) + 2)).toNat) (W ((a1.length : Int) + 1)))).f4.f0) == t723.f4.f0) && (((((rd z32 (a0.take (W ((a1.length : Int) + 2)).toNat) (W ((a1.length : Int) + 1)))).f4.f1) == t723.f4.f1) && true)) && true)))))) (by kernel_rfl) (fun u_ => ?_)
                  exact dowelbook_KeptActs_16.j0.ok K a0A a0c a0 a0m a1A a1c a1 w a0r a0l a0m' a1r a1l r  HR  (((((rd z32 (a0.take (W ((a1.length : Int) + 2)).toNat) (W ((a1.length : Int) + 1)))).f0) == t723.f0) && (((((rd z32 (a0.take (W ((a1.length : Int) + 2)).toNat) (W ((a1.length : Int) + 1)))).f1) == t723.f1) && (((((rd z32 (a0.take (W ((a1.length : Int) + 2)).toNat) (W ((a1.length : Int) + 1)))).f2).toList == t723.f2.toList) && (((((rd z32 (a0.take (W ((a1.length : Int) + 2)).toNat) (W ((a1.length : Int) + 1)))).f3).toList == t723.f3.toList) && ((((((rd z32 (a0.take (W ((a1.length : Int) + 2)).toNat) (W ((a1.length : Int) + 1)))).f4.f0) == t723.f4.f0) && (((((rd z32 (a0.take (W ((a1.length : Int) + 2)).toNat) (W ((a1.length : Int) + 1)))).f4.f1) == t723.f4.f1) && true)) && true))))) u_ w725 k727  H
                · rw [if_neg h722] at H
                  cases H
              · rw [if_neg h721] at H
                cases H
            · have h719 : ¬ ((((((rd z32 (a0.take (W ((a1.length : Int) + 2)).toNat) (a1.length : Int))).f0) == t717.f0) && (((((rd z32 (a0.take (W ((a1.length : Int) + 2)).toNat) (a1.length : Int))).f1) == t717.f1) && (((((rd z32 (a0.take (W ((a1.length : Int) + 2)).toNat) (a1.length : Int))).f2).toList == t717.f2.toList) && (((((rd z32 (a0.take (W ((a1.length : Int) + 2)).toNat) (a1.length : Int))).f3).toList == t717.f3.toList) && ((((((rd z32 (a0.take (W ((a1.length : Int) + 2)).toNat) (a1.length : Int))).f4.f0) == t717.f4.f0) && (((((rd z32 (a0.take (W ((a1.length : Int) + 2)).toNat) (a1.length : Int))).f4.f1) == t717.f4.f1) && true)) && true))))) = true) := by rw [h720]; decide
              rw [if_neg h719] at H
              refine w_drawk (p := [1, 1, 0]) (id := 2) (by kernel_rfl) (by kernel_rfl) [0, 0, 3, 7, 15, 15, 47, 127, 255, 15, 1023, 2047, 4095, 8191, 8191, 24575, 57343, 131071, 262143, 8191, 1048575, 2097151, 4194303] 23 (by kernel_rfl) (J := (fun _ w_ => Kp No w w_)) (fun w_ h1 h2 h3 h4 => Kp.same h1 h2 h3 h4) ?_
              refine k_pure 2 [.slice a0A a0m a0c, .slice a1A a1.length a1c] (by kernel_rfl) (fun _ => by kernel_rfl) (fun _ _ _ _ _ h => h) ?_
              refine k_op (.bool t711) (by kernel_rfl) (fun b_ w_ hJ hb_ hd_ he_ => og_call (g := 57) (av := #[.slice a0A a0m a0c, .slice a1A a1.length a1c]) (by kernel_rfl) ((dowelbook_Acts_57.ok K a0A a0c (a0.take a0m) a1A a1c a1 a0m a1.length w_ (Rd.takeN (Rd.kp a0r (Kp.trans (Kp.refl No w) hJ (fun _ h => h.elim)) (fun _ _ h => h)) a0m) (Int.ofNat_le.1 (by have := a0l; have := a0m'; omega)) (Rd.kp a1r (Kp.trans (Kp.refl No w) hJ (fun _ h => h.elim)) (fun _ _ h => h)) a1l (take_len a0m') rfl t711 ht712).mono (by rintro e w3_ ⟨rfl, k3_⟩; exact ⟨_, rfl, rfl, Kp.trans hJ k3_ (fun _ h => h.elim)⟩))) ?_
              refine k_op (.bool true) (by kernel_rfl) (fun b_ w_ hJ hb_ hd_ he_ => og_run (v := .bool t711) (by kernel_rfl) ⟨by rw [h714], hJ⟩) ?_
              refine k_pure 7 [.slice a0A ((W ((a1.length : Int) + 2)).toNat) a0c, .slice a1A a1.length a1c, .int .i64 (a1.length : Int)] (by kernel_rfl) (fun _ => by kernel_rfl) (fun _ _ _ _ _ h => h) ?_
              refine k_op (.pointer (some (eaOf a0A ((a1.length : Int).toNat * 6)))) (by kernel_rfl) (fun b_ w_ hJ hb_ hd_ he_ => ow_index (K := (K32 33)) (T := 22) (e := 33) (sz := 6) (x := (Operand.tmp 15)) (y := (Operand.tmp 17)) (k := .i64) (n := ((W ((a1.length : Int) + 2)).toNat)) (c := a0c) (A := a0A) (xs := (a0.take (W ((a1.length : Int) + 2)).toNat)) (iv := (a1.length : Int)) (by kernel_rfl) (by kernel_rfl) (by kernel_rfl) (by kernel_rfl) h715 h716 (Rd.takeN (Rd.kp a0r (Kp.trans (Kp.refl No w) hJ (fun _ h => h.elim)) (fun _ _ h => h)) (W ((a1.length : Int) + 2)).toNat) (take_len hm710) (by kernel_rfl) ⟨rfl, hJ⟩) ?_
              refine k_op (.agg #[.int .i64 (((rd z32 (a0.take (W ((a1.length : Int) + 2)).toNat) (a1.length : Int))).f0), .int .i64 (((rd z32 (a0.take (W ((a1.length : Int) + 2)).toNat) (a1.length : Int))).f1), .string (((rd z32 (a0.take (W ((a1.length : Int) + 2)).toNat) (a1.length : Int))).f2), .string (((rd z32 (a0.take (W ((a1.length : Int) + 2)).toNat) (a1.length : Int))).f3), .int .i64 (((rd z32 (a0.take (W ((a1.length : Int) + 2)).toNat) (a1.length : Int))).f4.f0), .int .i64 (((rd z32 (a0.take (W ((a1.length : Int) + 2)).toNat) (a1.length : Int))).f4.f1)]) (by kernel_rfl) (fun b_ w_ hJ hb_ hd_ he_ => ow_loadE (K := (K32 33)) (T := 33) (x := (Operand.tmp 18)) (off := 0) (A := a0A) (n := ((W ((a1.length : Int) + 2)).toNat)) (xs := (a0.take (W ((a1.length : Int) + 2)).toNat)) (iv := (a1.length : Int)) z32 (.agg #[.int .i64 (((rd z32 (a0.take (W ((a1.length : Int) + 2)).toNat) (a1.length : Int))).f0), .int .i64 (((rd z32 (a0.take (W ((a1.length : Int) + 2)).toNat) (a1.length : Int))).f1), .string (((rd z32 (a0.take (W ((a1.length : Int) + 2)).toNat) (a1.length : Int))).f2), .string (((rd z32 (a0.take (W ((a1.length : Int) + 2)).toNat) (a1.length : Int))).f3), .int .i64 (((rd z32 (a0.take (W ((a1.length : Int) + 2)).toNat) (a1.length : Int))).f4.f0), .int .i64 (((rd z32 (a0.take (W ((a1.length : Int) + 2)).toNat) (a1.length : Int))).f4.f1)]) (by kernel_rfl) (by kernel_rfl) (Rd.takeN (Rd.kp a0r (Kp.trans (Kp.refl No w) hJ (fun _ h => h.elim)) (fun _ _ h => h)) (W ((a1.length : Int) + 2)).toNat) (take_len hm710) h715 h716 (by kernel_rfl) ⟨rfl, hJ⟩) ?_
              refine k_op (.agg #[.int .i64 t717.f0, .int .i64 t717.f1, .string t717.f2, .string t717.f3, .int .i64 t717.f4.f0, .int .i64 t717.f4.f1]) (by kernel_rfl) (fun b_ w_ hJ hb_ hd_ he_ => og_call (g := 51) (av := #[.int .i64 77]) (by kernel_rfl) ((dowelbook_actsMark_51.ok K 77 w_ t717 ht718).mono (by rintro e w3_ ⟨rfl, k3_⟩; exact ⟨_, rfl, rfl, Kp.trans hJ k3_ (fun _ h => h.elim)⟩))) ?_
              refine k_op (.bool (((((rd z32 (a0.take (W ((a1.length : Int) + 2)).toNat) (a1.length : Int))).f0) == t717.f0) && (((((rd z32 (a0.take (W ((a1.length : Int) + 2)).toNat) (a1.length : Int))).f1) == t717.f1) && (((((rd z32 (a0.take (W ((a1.length : Int) + 2)).toNat) (a1.length : Int))).f2).toList == t717.f2.toList) && (((((rd z32 (a0.take (W ((a1.length : Int) + 2)).toNat) (a1.length : Int))).f3).toList == t717.f3.toList) && ((((((rd z32 (a0.take (W ((a1.length : Int) + 2)).toNat) (a1.length : Int))).f4.f0) == t717.f4.f0) && (((((rd z32 (a0.take (W ((a1.length : Int) + 2)).toNat) (a1.length : Int))).f4.f1) == t717.f4.f1) && true)) && true)))))) (by kernel_rfl) (fun b_ w_ hJ hb_ hd_ he_ => og_eqagg (T := 33) (U := 33) (x := (Operand.tmp 19)) (y := (Operand.tmp 20)) (xs := #[.int .i64 (((rd z32 (a0.take (W ((a1.length : Int) + 2)).toNat) (a1.length : Int))).f0), .int .i64 (((rd z32 (a0.take (W ((a1.length : Int) + 2)).toNat) (a1.length : Int))).f1), .string (((rd z32 (a0.take (W ((a1.length : Int) + 2)).toNat) (a1.length : Int))).f2), .string (((rd z32 (a0.take (W ((a1.length : Int) + 2)).toNat) (a1.length : Int))).f3), .int .i64 (((rd z32 (a0.take (W ((a1.length : Int) + 2)).toNat) (a1.length : Int))).f4.f0), .int .i64 (((rd z32 (a0.take (W ((a1.length : Int) + 2)).toNat) (a1.length : Int))).f4.f1)]) (ys := #[.int .i64 t717.f0, .int .i64 t717.f1, .string t717.f2, .string t717.f3, .int .i64 t717.f4.f0, .int .i64 t717.f4.f1]) ((((((rd z32 (a0.take (W ((a1.length : Int) + 2)).toNat) (a1.length : Int))).f0) == t717.f0) && (((((rd z32 (a0.take (W ((a1.length : Int) + 2)).toNat) (a1.length : Int))).f1) == t717.f1) && (((((rd z32 (a0.take (W ((a1.length : Int) + 2)).toNat) (a1.length : Int))).f2).toList == t717.f2.toList) && (((((rd z32 (a0.take (W ((a1.length : Int) + 2)).toNat) (a1.length : Int))).f3).toList == t717.f3.toList) && ((((((rd z32 (a0.take (W ((a1.length : Int) + 2)).toNat) (a1.length : Int))).f4.f0) == t717.f4.f0) && (((((rd z32 (a0.take (W ((a1.length : Int) + 2)).toNat) (a1.length : Int))).f4.f1) == t717.f4.f1) && true)) && true)))))) (by kernel_rfl) (by kernel_rfl) (by kernel_rfl) (by kernel_rfl) (by kernel_rfl) ⟨rfl, hJ⟩) ?_
              refine k_pure 12 [.bool (((((rd z32 (a0.take (W ((a1.length : Int) + 2)).toNat) (a1.length : Int))).f0) == t717.f0) && (((((rd z32 (a0.take (W ((a1.length : Int) + 2)).toNat) (a1.length : Int))).f1) == t717.f1) && (((((rd z32 (a0.take (W ((a1.length : Int) + 2)).toNat) (a1.length : Int))).f2).toList == t717.f2.toList) && (((((rd z32 (a0.take (W ((a1.length : Int) + 2)).toNat) (a1.length : Int))).f3).toList == t717.f3.toList) && ((((((rd z32 (a0.take (W ((a1.length : Int) + 2)).toNat) (a1.length : Int))).f4.f0) == t717.f4.f0) && (((((rd z32 (a0.take (W ((a1.length : Int) + 2)).toNat) (a1.length : Int))).f4.f1) == t717.f4.f1) && true)) && true)))))] (by kernel_rfl) (fun _ => by kernel_rfl) (fun _ _ _ _ _ h => h) ?_
              refine k_op (.bool false) (by kernel_rfl) (fun b_ w_ hJ hb_ hd_ he_ => og_run (v := .bool (((((rd z32 (a0.take (W ((a1.length : Int) + 2)).toNat) (a1.length : Int))).f0) == t717.f0) && (((((rd z32 (a0.take (W ((a1.length : Int) + 2)).toNat) (a1.length : Int))).f1) == t717.f1) && (((((rd z32 (a0.take (W ((a1.length : Int) + 2)).toNat) (a1.length : Int))).f2).toList == t717.f2.toList) && (((((rd z32 (a0.take (W ((a1.length : Int) + 2)).toNat) (a1.length : Int))).f3).toList == t717.f3.toList) && ((((((rd z32 (a0.take (W ((a1.length : Int) + 2)).toNat) (a1.length : Int))).f4.f0) == t717.f4.f0) && (((((rd z32 (a0.take (W ((a1.length : Int) + 2)).toNat) (a1.length : Int))).f4.f1) == t717.f4.f1) && true)) && true)))))) (by kernel_rfl) ⟨by rw [h720], hJ⟩) ?_
              refine k_pure 23 [undef, undef, undef, undef, undef, undef, undef, undef, .bool false, .bool false] (by kernel_rfl) (fun _ => by kernel_rfl) (fun _ _ _ _ _ h => h) ?_
              refine k_nil ?_
              rintro b_ w728 hall_ k_
              have k729 := k_
              have k730 := Kp.trans (Kp.refl No w) k729 (fun _ h => h.elim)
              refine r_fin 23 (by kernel_rfl) ?_
              refine q_then ?_
              refine w_into (dowelbook_KeptActs_16.j0F false) (by kernel_rfl) (fun u_ => ?_)
              exact dowelbook_KeptActs_16.j0.ok K a0A a0c a0 a0m a1A a1c a1 w a0r a0l a0m' a1r a1l r  HR  false u_ w728 k730  H
          · rw [if_neg h716] at H
            cases H
        · rw [if_neg h715] at H
          cases H
      · have h713 : ¬ (t711 = true) := by rw [h714]; decide
        rw [if_neg h713] at H
        refine w_drawk (p := [1, 1, 0]) (id := 2) (by kernel_rfl) (by kernel_rfl) [0, 0, 3, 7, 15, 15, 47, 127, 255, 15, 1023, 2047, 4095, 8191, 8191, 24575, 57343, 131071, 262143, 8191, 1048575, 2097151, 4194303] 23 (by kernel_rfl) (J := (fun _ w_ => Kp No w w_)) (fun w_ h1 h2 h3 h4 => Kp.same h1 h2 h3 h4) ?_
        refine k_pure 2 [.slice a0A a0m a0c, .slice a1A a1.length a1c] (by kernel_rfl) (fun _ => by kernel_rfl) (fun _ _ _ _ _ h => h) ?_
        refine k_op (.bool t711) (by kernel_rfl) (fun b_ w_ hJ hb_ hd_ he_ => og_call (g := 57) (av := #[.slice a0A a0m a0c, .slice a1A a1.length a1c]) (by kernel_rfl) ((dowelbook_Acts_57.ok K a0A a0c (a0.take a0m) a1A a1c a1 a0m a1.length w_ (Rd.takeN (Rd.kp a0r (Kp.trans (Kp.refl No w) hJ (fun _ h => h.elim)) (fun _ _ h => h)) a0m) (Int.ofNat_le.1 (by have := a0l; have := a0m'; omega)) (Rd.kp a1r (Kp.trans (Kp.refl No w) hJ (fun _ h => h.elim)) (fun _ _ h => h)) a1l (take_len a0m') rfl t711 ht712).mono (by rintro e w3_ ⟨rfl, k3_⟩; exact ⟨_, rfl, rfl, Kp.trans hJ k3_ (fun _ h => h.elim)⟩))) ?_
        refine k_op (.bool false) (by kernel_rfl) (fun b_ w_ hJ hb_ hd_ he_ => og_run (v := .bool t711) (by kernel_rfl) ⟨by rw [h714], hJ⟩) ?_
        refine k_pure 23 [undef, undef, undef, undef, undef, undef, undef, .bool false, .bool false, undef, undef, undef, undef, undef, undef, undef, undef, .bool false, .bool false] (by kernel_rfl) (fun _ => by kernel_rfl) (fun _ _ _ _ _ h => h) ?_
        refine k_nil ?_
        rintro b_ w731 hall_ k_
        have k732 := k_
        have k733 := Kp.trans (Kp.refl No w) k732 (fun _ h => h.elim)
        refine r_fin 23 (by kernel_rfl) ?_
        refine q_then ?_
        refine w_into (dowelbook_KeptActs_16.j0F false) (by kernel_rfl) (fun u_ => ?_)
        exact dowelbook_KeptActs_16.j0.ok K a0A a0c a0 a0m a1A a1c a1 w a0r a0l a0m' a1r a1l r  HR  false u_ w731 k733  H
    · rw [if_neg h709] at H
      cases H
  · rw [if_neg h708] at H
    cases H
/-! ### dowel/dowelbook.FreeInts, of 3 -/
def dowelbook_FreeInts_17_3.F0 (a0A : Option Addr) (a0c : Nat) (x945 : Int) (u_ : Nat → Value) : Array Value := #[.slice a0A 3 a0c, u_ 1, u_ 2, .int .i64 0, .int .i64 x945, u_ 5, u_ 6, u_ 7, u_ 8, u_ 9, u_ 10, u_ 11, u_ 12, u_ 13, u_ 14, u_ 15, u_ 16, u_ 17, u_ 18, u_ 19, u_ 20, u_ 21, u_ 22, u_ 23, u_ 24, u_ 25, u_ 26, u_ 27, u_ 28, u_ 29, u_ 30, u_ 31, u_ 32, u_ 33, u_ 34, u_ 35, u_ 36, u_ 37, u_ 38, u_ 39, u_ 40, u_ 41, u_ 42, u_ 43, u_ 44, u_ 45, u_ 46, u_ 47, u_ 48, u_ 49, u_ 50, u_ 51, u_ 52, u_ 53, u_ 54, u_ 55, u_ 56, u_ 57, u_ 58, u_ 59, u_ 60, u_ 61, u_ 62, u_ 63, u_ 64, u_ 65, u_ 66, u_ 67, u_ 68, u_ 69, u_ 70, u_ 71, u_ 72, u_ 73, u_ 74, u_ 75, u_ 76, u_ 77, u_ 78, u_ 79, u_ 80, u_ 81, u_ 82, u_ 83, u_ 84, u_ 85, u_ 86, u_ 87, u_ 88, u_ 89, u_ 90, u_ 91, u_ 92, u_ 93, u_ 94, u_ 95, u_ 96, u_ 97, u_ 98, u_ 99, u_ 100, u_ 101, u_ 102, u_ 103, u_ 104, u_ 105, u_ 106, u_ 107, u_ 108, u_ 109, u_ 110, u_ 111, u_ 112]
def dowelbook_FreeInts_17_3.F0_2 (a0A : Option Addr) (a0c : Nat) (u_ : Nat → Value) : Array Value := #[.slice a0A 3 a0c, u_ 1, u_ 2, .int .i64 0, u_ 4, u_ 5, u_ 6, u_ 7, u_ 8, u_ 9, u_ 10, u_ 11, u_ 12, u_ 13, u_ 14, u_ 15, u_ 16, u_ 17, u_ 18, u_ 19, u_ 20, u_ 21, u_ 22, u_ 23, u_ 24, u_ 25, u_ 26, u_ 27, u_ 28, u_ 29, u_ 30, u_ 31, u_ 32, u_ 33, u_ 34, u_ 35, u_ 36, u_ 37, u_ 38, u_ 39, u_ 40, u_ 41, u_ 42, u_ 43, u_ 44, u_ 45, u_ 46, u_ 47, u_ 48, u_ 49, u_ 50, u_ 51, u_ 52, u_ 53, u_ 54, u_ 55, u_ 56, u_ 57, u_ 58, u_ 59, u_ 60, u_ 61, u_ 62, u_ 63, u_ 64, u_ 65, u_ 66, u_ 67, u_ 68, u_ 69, u_ 70, u_ 71, u_ 72, u_ 73, u_ 74, u_ 75, u_ 76, u_ 77, u_ 78, u_ 79, u_ 80, u_ 81, u_ 82, u_ 83, u_ 84, u_ 85, u_ 86, u_ 87, u_ 88, u_ 89, u_ 90, u_ 91, u_ 92, u_ 93, u_ 94, u_ 95, u_ 96, u_ 97, u_ 98, u_ 99, u_ 100, u_ 101, u_ 102, u_ 103, u_ 104, u_ 105, u_ 106, u_ 107, u_ 108, u_ 109, u_ 110, u_ 111, u_ 112]
def dowelbook_FreeInts_17_3.b0 (a0_0 : List Int) (next0 : List Int → Int → Option (Bool)) (brk0_2 : List Int → Option (Bool)) (x944 : List Int) (x945 : Int) : Option (Bool) := if x945 < (a0_0.length : Int) then (if 0 ≤ x945 then (next0 (stored x944 x945 (W ((-1) - 0))) (W (x945 + 1))) else none) else (brk0_2 x944)
def dowelbook_FreeInts_17_3.l0 (a0_0 : List Int) (brk0_2 : List Int → Option (Bool)) : Nat → List Int → Int → Option (Bool)
  | 0, _, _ => none
  | n_ + 1, x944, x945 => dowelbook_FreeInts_17_3.b0 a0_0 (dowelbook_FreeInts_17_3.l0 a0_0 brk0_2 n_) brk0_2 x944 x945
def dowelbook_FreeInts_17_3.F1 (a0A : Option Addr) (a0c : Nat) (x1038 : Int) (u_ : Nat → Value) : Array Value := #[.slice a0A 3 a0c, u_ 1, u_ 2, .int .i64 1, .int .i64 x1038, u_ 5, u_ 6, u_ 7, u_ 8, u_ 9, u_ 10, u_ 11, u_ 12, u_ 13, u_ 14, u_ 15, u_ 16, u_ 17, u_ 18, u_ 19, u_ 20, u_ 21, u_ 22, u_ 23, u_ 24, u_ 25, u_ 26, u_ 27, u_ 28, u_ 29, u_ 30, u_ 31, u_ 32, u_ 33, u_ 34, u_ 35, u_ 36, u_ 37, u_ 38, u_ 39, u_ 40, u_ 41, u_ 42, u_ 43, u_ 44, u_ 45, u_ 46, u_ 47, u_ 48, u_ 49, u_ 50, u_ 51, u_ 52, u_ 53, u_ 54, u_ 55, u_ 56, u_ 57, u_ 58, u_ 59, u_ 60, u_ 61, u_ 62, u_ 63, u_ 64, u_ 65, u_ 66, u_ 67, u_ 68, u_ 69, u_ 70, u_ 71, u_ 72, u_ 73, u_ 74, u_ 75, u_ 76, u_ 77, u_ 78, u_ 79, u_ 80, u_ 81, u_ 82, u_ 83, u_ 84, u_ 85, u_ 86, u_ 87, u_ 88, u_ 89, u_ 90, u_ 91, u_ 92, u_ 93, u_ 94, u_ 95, u_ 96, u_ 97, u_ 98, u_ 99, u_ 100, u_ 101, u_ 102, u_ 103, u_ 104, u_ 105, u_ 106, u_ 107, u_ 108, u_ 109, u_ 110, u_ 111, u_ 112]
def dowelbook_FreeInts_17_3.F1_2 (a0A : Option Addr) (a0c : Nat) (u_ : Nat → Value) : Array Value := #[.slice a0A 3 a0c, u_ 1, u_ 2, .int .i64 1, u_ 4, u_ 5, u_ 6, u_ 7, u_ 8, u_ 9, u_ 10, u_ 11, u_ 12, u_ 13, u_ 14, u_ 15, u_ 16, u_ 17, u_ 18, u_ 19, u_ 20, u_ 21, u_ 22, u_ 23, u_ 24, u_ 25, u_ 26, u_ 27, u_ 28, u_ 29, u_ 30, u_ 31, u_ 32, u_ 33, u_ 34, u_ 35, u_ 36, u_ 37, u_ 38, u_ 39, u_ 40, u_ 41, u_ 42, u_ 43, u_ 44, u_ 45, u_ 46, u_ 47, u_ 48, u_ 49, u_ 50, u_ 51, u_ 52, u_ 53, u_ 54, u_ 55, u_ 56, u_ 57, u_ 58, u_ 59, u_ 60, u_ 61, u_ 62, u_ 63, u_ 64, u_ 65, u_ 66, u_ 67, u_ 68, u_ 69, u_ 70, u_ 71, u_ 72, u_ 73, u_ 74, u_ 75, u_ 76, u_ 77, u_ 78, u_ 79, u_ 80, u_ 81, u_ 82, u_ 83, u_ 84, u_ 85, u_ 86, u_ 87, u_ 88, u_ 89, u_ 90, u_ 91, u_ 92, u_ 93, u_ 94, u_ 95, u_ 96, u_ 97, u_ 98, u_ 99, u_ 100, u_ 101, u_ 102, u_ 103, u_ 104, u_ 105, u_ 106, u_ 107, u_ 108, u_ 109, u_ 110, u_ 111, u_ 112]
def dowelbook_FreeInts_17_3.b1 (a0_1 : List Int) (next1 : List Int → Int → Option (Bool)) (brk1_2 : List Int → Option (Bool)) (x1037 : List Int) (x1038 : Int) : Option (Bool) := if x1038 < (a0_1.length : Int) then (if 0 ≤ x1038 then (next1 (stored x1037 x1038 (W ((-1) - 1))) (W (x1038 + 1))) else none) else (brk1_2 x1037)
def dowelbook_FreeInts_17_3.l1 (a0_1 : List Int) (brk1_2 : List Int → Option (Bool)) : Nat → List Int → Int → Option (Bool)
  | 0, _, _ => none
  | n_ + 1, x1037, x1038 => dowelbook_FreeInts_17_3.b1 a0_1 (dowelbook_FreeInts_17_3.l1 a0_1 brk1_2 n_) brk1_2 x1037 x1038
def dowelbook_FreeInts_17_3.F2 (a0A : Option Addr) (a0c : Nat) (x1131 : Int) (u_ : Nat → Value) : Array Value := #[.slice a0A 3 a0c, u_ 1, u_ 2, .int .i64 2, .int .i64 x1131, u_ 5, u_ 6, u_ 7, u_ 8, u_ 9, u_ 10, u_ 11, u_ 12, u_ 13, u_ 14, u_ 15, u_ 16, u_ 17, u_ 18, u_ 19, u_ 20, u_ 21, u_ 22, u_ 23, u_ 24, u_ 25, u_ 26, u_ 27, u_ 28, u_ 29, u_ 30, u_ 31, u_ 32, u_ 33, u_ 34, u_ 35, u_ 36, u_ 37, u_ 38, u_ 39, u_ 40, u_ 41, u_ 42, u_ 43, u_ 44, u_ 45, u_ 46, u_ 47, u_ 48, u_ 49, u_ 50, u_ 51, u_ 52, u_ 53, u_ 54, u_ 55, u_ 56, u_ 57, u_ 58, u_ 59, u_ 60, u_ 61, u_ 62, u_ 63, u_ 64, u_ 65, u_ 66, u_ 67, u_ 68, u_ 69, u_ 70, u_ 71, u_ 72, u_ 73, u_ 74, u_ 75, u_ 76, u_ 77, u_ 78, u_ 79, u_ 80, u_ 81, u_ 82, u_ 83, u_ 84, u_ 85, u_ 86, u_ 87, u_ 88, u_ 89, u_ 90, u_ 91, u_ 92, u_ 93, u_ 94, u_ 95, u_ 96, u_ 97, u_ 98, u_ 99, u_ 100, u_ 101, u_ 102, u_ 103, u_ 104, u_ 105, u_ 106, u_ 107, u_ 108, u_ 109, u_ 110, u_ 111, u_ 112]
def dowelbook_FreeInts_17_3.F2_2 (a0A : Option Addr) (a0c : Nat) (u_ : Nat → Value) : Array Value := #[.slice a0A 3 a0c, u_ 1, u_ 2, .int .i64 2, u_ 4, u_ 5, u_ 6, u_ 7, u_ 8, u_ 9, u_ 10, u_ 11, u_ 12, u_ 13, u_ 14, u_ 15, u_ 16, u_ 17, u_ 18, u_ 19, u_ 20, u_ 21, u_ 22, u_ 23, u_ 24, u_ 25, u_ 26, u_ 27, u_ 28, u_ 29, u_ 30, u_ 31, u_ 32, u_ 33, u_ 34, u_ 35, u_ 36, u_ 37, u_ 38, u_ 39, u_ 40, u_ 41, u_ 42, u_ 43, u_ 44, u_ 45, u_ 46, u_ 47, u_ 48, u_ 49, u_ 50, u_ 51, u_ 52, u_ 53, u_ 54, u_ 55, u_ 56, u_ 57, u_ 58, u_ 59, u_ 60, u_ 61, u_ 62, u_ 63, u_ 64, u_ 65, u_ 66, u_ 67, u_ 68, u_ 69, u_ 70, u_ 71, u_ 72, u_ 73, u_ 74, u_ 75, u_ 76, u_ 77, u_ 78, u_ 79, u_ 80, u_ 81, u_ 82, u_ 83, u_ 84, u_ 85, u_ 86, u_ 87, u_ 88, u_ 89, u_ 90, u_ 91, u_ 92, u_ 93, u_ 94, u_ 95, u_ 96, u_ 97, u_ 98, u_ 99, u_ 100, u_ 101, u_ 102, u_ 103, u_ 104, u_ 105, u_ 106, u_ 107, u_ 108, u_ 109, u_ 110, u_ 111, u_ 112]
def dowelbook_FreeInts_17_3.b2 (a0_2 : List Int) (next2 : List Int → Int → Option (Bool)) (brk2_2 : List Int → Option (Bool)) (x1130 : List Int) (x1131 : Int) : Option (Bool) := if x1131 < (a0_2.length : Int) then (if 0 ≤ x1131 then (next2 (stored x1130 x1131 (W ((-1) - 2))) (W (x1131 + 1))) else none) else (brk2_2 x1130)
def dowelbook_FreeInts_17_3.l2 (a0_2 : List Int) (brk2_2 : List Int → Option (Bool)) : Nat → List Int → Int → Option (Bool)
  | 0, _, _ => none
  | n_ + 1, x1130, x1131 => dowelbook_FreeInts_17_3.b2 a0_2 (dowelbook_FreeInts_17_3.l2 a0_2 brk2_2 n_) brk2_2 x1130 x1131
def dowelbook_FreeInts_17_3.F3 (a0A : Option Addr) (a0c : Nat) (A1567 : Option Addr) (x1566 : Nat) (c1568 : Nat) (x1569 : Int) (u_ : Nat → Value) : Array Value := #[.slice a0A 3 a0c, u_ 1, u_ 2, u_ 3, u_ 4, .slice none 0 0, .int .i64 0, .slice A1567 x1566 c1568, .int .i64 x1569, u_ 9, u_ 10, u_ 11, u_ 12, u_ 13, u_ 14, u_ 15, u_ 16, u_ 17, u_ 18, u_ 19, u_ 20, u_ 21, u_ 22, u_ 23, u_ 24, u_ 25, u_ 26, u_ 27, u_ 28, u_ 29, u_ 30, u_ 31, u_ 32, u_ 33, u_ 34, u_ 35, u_ 36, u_ 37, u_ 38, u_ 39, u_ 40, u_ 41, u_ 42, u_ 43, u_ 44, u_ 45, u_ 46, u_ 47, u_ 48, u_ 49, u_ 50, u_ 51, u_ 52, u_ 53, u_ 54, u_ 55, u_ 56, u_ 57, u_ 58, u_ 59, u_ 60, u_ 61, u_ 62, u_ 63, u_ 64, u_ 65, u_ 66, u_ 67, u_ 68, u_ 69, u_ 70, u_ 71, u_ 72, u_ 73, u_ 74, u_ 75, u_ 76, u_ 77, u_ 78, u_ 79, u_ 80, u_ 81, u_ 82, u_ 83, u_ 84, u_ 85, u_ 86, u_ 87, u_ 88, u_ 89, u_ 90, u_ 91, u_ 92, u_ 93, u_ 94, u_ 95, u_ 96, u_ 97, u_ 98, u_ 99, u_ 100, u_ 101, u_ 102, u_ 103, u_ 104, u_ 105, u_ 106, u_ 107, u_ 108, u_ 109, u_ 110, u_ 111, u_ 112]
def dowelbook_FreeInts_17_3.F3_6 (a0A : Option Addr) (a0c : Nat) (A1659 : Option Addr) (x1658 : Nat) (c1660 : Nat) (u_ : Nat → Value) : Array Value := #[.slice a0A 3 a0c, u_ 1, u_ 2, u_ 3, u_ 4, .slice none 0 0, .int .i64 0, .slice A1659 x1658 c1660, u_ 8, u_ 9, u_ 10, u_ 11, u_ 12, u_ 13, u_ 14, u_ 15, u_ 16, u_ 17, u_ 18, u_ 19, u_ 20, u_ 21, u_ 22, u_ 23, u_ 24, u_ 25, u_ 26, u_ 27, u_ 28, u_ 29, u_ 30, u_ 31, u_ 32, u_ 33, u_ 34, u_ 35, u_ 36, u_ 37, u_ 38, u_ 39, u_ 40, u_ 41, u_ 42, u_ 43, u_ 44, u_ 45, u_ 46, u_ 47, u_ 48, u_ 49, u_ 50, u_ 51, u_ 52, u_ 53, u_ 54, u_ 55, u_ 56, u_ 57, u_ 58, u_ 59, u_ 60, u_ 61, u_ 62, u_ 63, u_ 64, u_ 65, u_ 66, u_ 67, u_ 68, u_ 69, u_ 70, u_ 71, u_ 72, u_ 73, u_ 74, u_ 75, u_ 76, u_ 77, u_ 78, u_ 79, u_ 80, u_ 81, u_ 82, u_ 83, u_ 84, u_ 85, u_ 86, u_ 87, u_ 88, u_ 89, u_ 90, u_ 91, u_ 92, u_ 93, u_ 94, u_ 95, u_ 96, u_ 97, u_ 98, u_ 99, u_ 100, u_ 101, u_ 102, u_ 103, u_ 104, u_ 105, u_ 106, u_ 107, u_ 108, u_ 109, u_ 110, u_ 111, u_ 112]
def dowelbook_FreeInts_17_3.b3  (next3 : List Int → Nat → Int → Option (Bool)) (brk3_6 : List Int → Nat → Option (Bool)) (x1565 : List Int) (x1566 : Nat) (x1569 : Int) : Option (Bool) := if x1569 < 20 then (if (x1566 + 1) * 9 ≤ 140737488355328 then (next3 (x1565 ++ ([W ((-100000) - 0)] : List Int)) ((x1565 ++ ([W ((-100000) - 0)] : List Int)).length) (W (x1569 + 1))) else none) else (brk3_6 x1565 x1566)
def dowelbook_FreeInts_17_3.l3  (brk3_6 : List Int → Nat → Option (Bool)) : Nat → List Int → Nat → Int → Option (Bool)
  | 0, _, _, _ => none
  | n_ + 1, x1565, x1566, x1569 => dowelbook_FreeInts_17_3.b3  (dowelbook_FreeInts_17_3.l3  brk3_6 n_) brk3_6 x1565 x1566 x1569
def dowelbook_FreeInts_17_3.F4 (a0A : Option Addr) (a0c : Nat) (A1723 : Option Addr) (c1724 : Nat) (A2209 : Option Addr) (x2208 : Nat) (c2210 : Nat) (x2211 : Int) (u_ : Nat → Value) : Array Value := #[.slice a0A 3 a0c, u_ 1, u_ 2, u_ 3, u_ 4, .slice A1723 1 c1724, .int .i64 1, .slice A2209 x2208 c2210, .int .i64 x2211, u_ 9, u_ 10, u_ 11, u_ 12, u_ 13, u_ 14, u_ 15, u_ 16, u_ 17, u_ 18, u_ 19, u_ 20, u_ 21, u_ 22, u_ 23, u_ 24, u_ 25, u_ 26, u_ 27, u_ 28, u_ 29, u_ 30, u_ 31, u_ 32, u_ 33, u_ 34, u_ 35, u_ 36, u_ 37, u_ 38, u_ 39, u_ 40, u_ 41, u_ 42, u_ 43, u_ 44, u_ 45, u_ 46, u_ 47, u_ 48, u_ 49, u_ 50, u_ 51, u_ 52, u_ 53, u_ 54, u_ 55, u_ 56, u_ 57, u_ 58, u_ 59, u_ 60, u_ 61, u_ 62, u_ 63, u_ 64, u_ 65, u_ 66, u_ 67, u_ 68, u_ 69, u_ 70, u_ 71, u_ 72, u_ 73, u_ 74, u_ 75, u_ 76, u_ 77, u_ 78, u_ 79, u_ 80, u_ 81, u_ 82, u_ 83, u_ 84, u_ 85, u_ 86, u_ 87, u_ 88, u_ 89, u_ 90, u_ 91, u_ 92, u_ 93, u_ 94, u_ 95, u_ 96, u_ 97, u_ 98, u_ 99, u_ 100, u_ 101, u_ 102, u_ 103, u_ 104, u_ 105, u_ 106, u_ 107, u_ 108, u_ 109, u_ 110, u_ 111, u_ 112]
def dowelbook_FreeInts_17_3.F4_6 (a0A : Option Addr) (a0c : Nat) (A1723 : Option Addr) (c1724 : Nat) (A2317 : Option Addr) (x2316 : Nat) (c2318 : Nat) (u_ : Nat → Value) : Array Value := #[.slice a0A 3 a0c, u_ 1, u_ 2, u_ 3, u_ 4, .slice A1723 1 c1724, .int .i64 1, .slice A2317 x2316 c2318, u_ 8, u_ 9, u_ 10, u_ 11, u_ 12, u_ 13, u_ 14, u_ 15, u_ 16, u_ 17, u_ 18, u_ 19, u_ 20, u_ 21, u_ 22, u_ 23, u_ 24, u_ 25, u_ 26, u_ 27, u_ 28, u_ 29, u_ 30, u_ 31, u_ 32, u_ 33, u_ 34, u_ 35, u_ 36, u_ 37, u_ 38, u_ 39, u_ 40, u_ 41, u_ 42, u_ 43, u_ 44, u_ 45, u_ 46, u_ 47, u_ 48, u_ 49, u_ 50, u_ 51, u_ 52, u_ 53, u_ 54, u_ 55, u_ 56, u_ 57, u_ 58, u_ 59, u_ 60, u_ 61, u_ 62, u_ 63, u_ 64, u_ 65, u_ 66, u_ 67, u_ 68, u_ 69, u_ 70, u_ 71, u_ 72, u_ 73, u_ 74, u_ 75, u_ 76, u_ 77, u_ 78, u_ 79, u_ 80, u_ 81, u_ 82, u_ 83, u_ 84, u_ 85, u_ 86, u_ 87, u_ 88, u_ 89, u_ 90, u_ 91, u_ 92, u_ 93, u_ 94, u_ 95, u_ 96, u_ 97, u_ 98, u_ 99, u_ 100, u_ 101, u_ 102, u_ 103, u_ 104, u_ 105, u_ 106, u_ 107, u_ 108, u_ 109, u_ 110, u_ 111, u_ 112]
def dowelbook_FreeInts_17_3.b4  (next4 : List Int → Nat → Int → Option (Bool)) (brk4_6 : List Int → Nat → Option (Bool)) (x2207 : List Int) (x2208 : Nat) (x2211 : Int) : Option (Bool) := if x2211 < 20 then (if (x2208 + 1) * 9 ≤ 140737488355328 then (next4 (x2207 ++ ([W ((-100000) - 1)] : List Int)) ((x2207 ++ ([W ((-100000) - 1)] : List Int)).length) (W (x2211 + 1))) else none) else (brk4_6 x2207 x2208)
def dowelbook_FreeInts_17_3.l4  (brk4_6 : List Int → Nat → Option (Bool)) : Nat → List Int → Nat → Int → Option (Bool)
  | 0, _, _, _ => none
  | n_ + 1, x2207, x2208, x2211 => dowelbook_FreeInts_17_3.b4  (dowelbook_FreeInts_17_3.l4  brk4_6 n_) brk4_6 x2207 x2208 x2211
def dowelbook_FreeInts_17_3.F5 (a0A : Option Addr) (a0c : Nat) (A2394 : Option Addr) (c2395 : Nat) (A2930 : Option Addr) (x2929 : Nat) (c2931 : Nat) (x2932 : Int) (u_ : Nat → Value) : Array Value := #[.slice a0A 3 a0c, u_ 1, u_ 2, u_ 3, u_ 4, .slice A2394 2 c2395, .int .i64 2, .slice A2930 x2929 c2931, .int .i64 x2932, u_ 9, u_ 10, u_ 11, u_ 12, u_ 13, u_ 14, u_ 15, u_ 16, u_ 17, u_ 18, u_ 19, u_ 20, u_ 21, u_ 22, u_ 23, u_ 24, u_ 25, u_ 26, u_ 27, u_ 28, u_ 29, u_ 30, u_ 31, u_ 32, u_ 33, u_ 34, u_ 35, u_ 36, u_ 37, u_ 38, u_ 39, u_ 40, u_ 41, u_ 42, u_ 43, u_ 44, u_ 45, u_ 46, u_ 47, u_ 48, u_ 49, u_ 50, u_ 51, u_ 52, u_ 53, u_ 54, u_ 55, u_ 56, u_ 57, u_ 58, u_ 59, u_ 60, u_ 61, u_ 62, u_ 63, u_ 64, u_ 65, u_ 66, u_ 67, u_ 68, u_ 69, u_ 70, u_ 71, u_ 72, u_ 73, u_ 74, u_ 75, u_ 76, u_ 77, u_ 78, u_ 79, u_ 80, u_ 81, u_ 82, u_ 83, u_ 84, u_ 85, u_ 86, u_ 87, u_ 88, u_ 89, u_ 90, u_ 91, u_ 92, u_ 93, u_ 94, u_ 95, u_ 96, u_ 97, u_ 98, u_ 99, u_ 100, u_ 101, u_ 102, u_ 103, u_ 104, u_ 105, u_ 106, u_ 107, u_ 108, u_ 109, u_ 110, u_ 111, u_ 112]
def dowelbook_FreeInts_17_3.F5_6 (a0A : Option Addr) (a0c : Nat) (A2394 : Option Addr) (c2395 : Nat) (A3052 : Option Addr) (x3051 : Nat) (c3053 : Nat) (u_ : Nat → Value) : Array Value := #[.slice a0A 3 a0c, u_ 1, u_ 2, u_ 3, u_ 4, .slice A2394 2 c2395, .int .i64 2, .slice A3052 x3051 c3053, u_ 8, u_ 9, u_ 10, u_ 11, u_ 12, u_ 13, u_ 14, u_ 15, u_ 16, u_ 17, u_ 18, u_ 19, u_ 20, u_ 21, u_ 22, u_ 23, u_ 24, u_ 25, u_ 26, u_ 27, u_ 28, u_ 29, u_ 30, u_ 31, u_ 32, u_ 33, u_ 34, u_ 35, u_ 36, u_ 37, u_ 38, u_ 39, u_ 40, u_ 41, u_ 42, u_ 43, u_ 44, u_ 45, u_ 46, u_ 47, u_ 48, u_ 49, u_ 50, u_ 51, u_ 52, u_ 53, u_ 54, u_ 55, u_ 56, u_ 57, u_ 58, u_ 59, u_ 60, u_ 61, u_ 62, u_ 63, u_ 64, u_ 65, u_ 66, u_ 67, u_ 68, u_ 69, u_ 70, u_ 71, u_ 72, u_ 73, u_ 74, u_ 75, u_ 76, u_ 77, u_ 78, u_ 79, u_ 80, u_ 81, u_ 82, u_ 83, u_ 84, u_ 85, u_ 86, u_ 87, u_ 88, u_ 89, u_ 90, u_ 91, u_ 92, u_ 93, u_ 94, u_ 95, u_ 96, u_ 97, u_ 98, u_ 99, u_ 100, u_ 101, u_ 102, u_ 103, u_ 104, u_ 105, u_ 106, u_ 107, u_ 108, u_ 109, u_ 110, u_ 111, u_ 112]
def dowelbook_FreeInts_17_3.b5  (next5 : List Int → Nat → Int → Option (Bool)) (brk5_6 : List Int → Nat → Option (Bool)) (x2928 : List Int) (x2929 : Nat) (x2932 : Int) : Option (Bool) := if x2932 < 20 then (if (x2929 + 1) * 9 ≤ 140737488355328 then (next5 (x2928 ++ ([W ((-100000) - 2)] : List Int)) ((x2928 ++ ([W ((-100000) - 2)] : List Int)).length) (W (x2932 + 1))) else none) else (brk5_6 x2928 x2929)
def dowelbook_FreeInts_17_3.l5  (brk5_6 : List Int → Nat → Option (Bool)) : Nat → List Int → Nat → Int → Option (Bool)
  | 0, _, _, _ => none
  | n_ + 1, x2928, x2929, x2932 => dowelbook_FreeInts_17_3.b5  (dowelbook_FreeInts_17_3.l5  brk5_6 n_) brk5_6 x2928 x2929 x2932
def dowelbook_FreeInts_17_3.F6 (a0A : Option Addr) (a0c : Nat) (A3141 : Option Addr) (c3142 : Nat) (x3271 : Int) (u_ : Nat → Value) : Array Value := #[.slice a0A 3 a0c, u_ 1, u_ 2, u_ 3, u_ 4, .slice A3141 3 c3142, u_ 6, u_ 7, u_ 8, .int .i64 0, .int .i64 x3271, u_ 11, u_ 12, u_ 13, u_ 14, u_ 15, u_ 16, u_ 17, u_ 18, u_ 19, u_ 20, u_ 21, u_ 22, u_ 23, u_ 24, u_ 25, u_ 26, u_ 27, u_ 28, u_ 29, u_ 30, u_ 31, u_ 32, u_ 33, u_ 34, u_ 35, u_ 36, u_ 37, u_ 38, u_ 39, u_ 40, u_ 41, u_ 42, u_ 43, u_ 44, u_ 45, u_ 46, u_ 47, u_ 48, u_ 49, u_ 50, u_ 51, u_ 52, u_ 53, u_ 54, u_ 55, u_ 56, u_ 57, u_ 58, u_ 59, u_ 60, u_ 61, u_ 62, u_ 63, u_ 64, u_ 65, u_ 66, u_ 67, u_ 68, u_ 69, u_ 70, u_ 71, u_ 72, u_ 73, u_ 74, u_ 75, u_ 76, u_ 77, u_ 78, u_ 79, u_ 80, u_ 81, u_ 82, u_ 83, u_ 84, u_ 85, u_ 86, u_ 87, u_ 88, u_ 89, u_ 90, u_ 91, u_ 92, u_ 93, u_ 94, u_ 95, u_ 96, u_ 97, u_ 98, u_ 99, u_ 100, u_ 101, u_ 102, u_ 103, u_ 104, u_ 105, u_ 106, u_ 107, u_ 108, u_ 109, u_ 110, u_ 111, u_ 112]
def dowelbook_FreeInts_17_3.F6_10 (a0A : Option Addr) (a0c : Nat) (A3141 : Option Addr) (c3142 : Nat) (u_ : Nat → Value) : Array Value := #[.slice a0A 3 a0c, u_ 1, u_ 2, u_ 3, u_ 4, .slice A3141 3 c3142, u_ 6, u_ 7, u_ 8, .int .i64 0, u_ 10, u_ 11, u_ 12, u_ 13, u_ 14, u_ 15, u_ 16, u_ 17, u_ 18, u_ 19, u_ 20, u_ 21, u_ 22, u_ 23, u_ 24, u_ 25, u_ 26, u_ 27, u_ 28, u_ 29, u_ 30, u_ 31, u_ 32, u_ 33, u_ 34, u_ 35, u_ 36, u_ 37, u_ 38, u_ 39, u_ 40, u_ 41, u_ 42, u_ 43, u_ 44, u_ 45, u_ 46, u_ 47, u_ 48, u_ 49, u_ 50, u_ 51, u_ 52, u_ 53, u_ 54, u_ 55, u_ 56, u_ 57, u_ 58, u_ 59, u_ 60, u_ 61, u_ 62, u_ 63, u_ 64, u_ 65, u_ 66, u_ 67, u_ 68, u_ 69, u_ 70, u_ 71, u_ 72, u_ 73, u_ 74, u_ 75, u_ 76, u_ 77, u_ 78, u_ 79, u_ 80, u_ 81, u_ 82, u_ 83, u_ 84, u_ 85, u_ 86, u_ 87, u_ 88, u_ 89, u_ 90, u_ 91, u_ 92, u_ 93, u_ 94, u_ 95, u_ 96, u_ 97, u_ 98, u_ 99, u_ 100, u_ 101, u_ 102, u_ 103, u_ 104, u_ 105, u_ 106, u_ 107, u_ 108, u_ 109, u_ 110, u_ 111, u_ 112]
def dowelbook_FreeInts_17_3.j7F (a0A : Option Addr) (a0c : Nat) (A3141 : Option Addr) (c3142 : Nat) (x3271 : Int) (x3342 : Int) (u_ : Nat → Value) : Array Value := #[.slice a0A 3 a0c, u_ 1, u_ 2, u_ 3, u_ 4, .slice A3141 3 c3142, u_ 6, u_ 7, u_ 8, .int .i64 0, .int .i64 x3271, .int .i64 x3342, u_ 12, u_ 13, u_ 14, u_ 15, u_ 16, u_ 17, u_ 18, u_ 19, u_ 20, u_ 21, u_ 22, u_ 23, u_ 24, u_ 25, u_ 26, u_ 27, u_ 28, u_ 29, u_ 30, u_ 31, u_ 32, u_ 33, u_ 34, u_ 35, u_ 36, u_ 37, u_ 38, u_ 39, u_ 40, u_ 41, u_ 42, u_ 43, u_ 44, u_ 45, u_ 46, u_ 47, u_ 48, u_ 49, u_ 50, u_ 51, u_ 52, u_ 53, u_ 54, u_ 55, u_ 56, u_ 57, u_ 58, u_ 59, u_ 60, u_ 61, u_ 62, u_ 63, u_ 64, u_ 65, u_ 66, u_ 67, u_ 68, u_ 69, u_ 70, u_ 71, u_ 72, u_ 73, u_ 74, u_ 75, u_ 76, u_ 77, u_ 78, u_ 79, u_ 80, u_ 81, u_ 82, u_ 83, u_ 84, u_ 85, u_ 86, u_ 87, u_ 88, u_ 89, u_ 90, u_ 91, u_ 92, u_ 93, u_ 94, u_ 95, u_ 96, u_ 97, u_ 98, u_ 99, u_ 100, u_ 101, u_ 102, u_ 103, u_ 104, u_ 105, u_ 106, u_ 107, u_ 108, u_ 109, u_ 110, u_ 111, u_ 112]
def dowelbook_FreeInts_17_3.j7 (x3271 : Int) (x1658 : Nat) (x1657 : List Int) (next6 : Int → Option (Bool)) (x3342 : Int) : Option (Bool) := if 0 ≤ x3271 then (if x3271 < (x1658 : Int) then (if ¬ ((rd 0 x1657 x3271) = x3342) then (some false) else (next6 (W (x3271 + 1)))) else none) else none
def dowelbook_FreeInts_17_3.b6 (x1658 : Nat) (a0_0 : List Int) (x1657 : List Int) (next6 : Int → Option (Bool)) (brk6_10 : Option (Bool)) (x3271 : Int) : Option (Bool) := if x3271 < (x1658 : Int) then (if x3271 ≥ (a0_0.length : Int) then (dowelbook_FreeInts_17_3.j7 x3271 x1658 x1657 next6 (W ((-100000) - 0))) else (dowelbook_FreeInts_17_3.j7 x3271 x1658 x1657 next6 (W ((-1) - 0)))) else brk6_10
def dowelbook_FreeInts_17_3.l6 (x1658 : Nat) (a0_0 : List Int) (x1657 : List Int) (brk6_10 : Option (Bool)) : Nat → Int → Option (Bool)
  | 0, _ => none
  | n_ + 1, x3271 => dowelbook_FreeInts_17_3.b6 x1658 a0_0 x1657 (dowelbook_FreeInts_17_3.l6 x1658 a0_0 x1657 brk6_10 n_) brk6_10 x3271
def dowelbook_FreeInts_17_3.F8 (a0A : Option Addr) (a0c : Nat) (A3141 : Option Addr) (c3142 : Nat) (x3512 : Int) (u_ : Nat → Value) : Array Value := #[.slice a0A 3 a0c, u_ 1, u_ 2, u_ 3, u_ 4, .slice A3141 3 c3142, u_ 6, u_ 7, u_ 8, .int .i64 0, u_ 10, u_ 11, .int .i64 x3512, u_ 13, u_ 14, u_ 15, u_ 16, u_ 17, u_ 18, u_ 19, u_ 20, u_ 21, u_ 22, u_ 23, u_ 24, u_ 25, u_ 26, u_ 27, u_ 28, u_ 29, u_ 30, u_ 31, u_ 32, u_ 33, u_ 34, u_ 35, u_ 36, u_ 37, u_ 38, u_ 39, u_ 40, u_ 41, u_ 42, u_ 43, u_ 44, u_ 45, u_ 46, u_ 47, u_ 48, u_ 49, u_ 50, u_ 51, u_ 52, u_ 53, u_ 54, u_ 55, u_ 56, u_ 57, u_ 58, u_ 59, u_ 60, u_ 61, u_ 62, u_ 63, u_ 64, u_ 65, u_ 66, u_ 67, u_ 68, u_ 69, u_ 70, u_ 71, u_ 72, u_ 73, u_ 74, u_ 75, u_ 76, u_ 77, u_ 78, u_ 79, u_ 80, u_ 81, u_ 82, u_ 83, u_ 84, u_ 85, u_ 86, u_ 87, u_ 88, u_ 89, u_ 90, u_ 91, u_ 92, u_ 93, u_ 94, u_ 95, u_ 96, u_ 97, u_ 98, u_ 99, u_ 100, u_ 101, u_ 102, u_ 103, u_ 104, u_ 105, u_ 106, u_ 107, u_ 108, u_ 109, u_ 110, u_ 111, u_ 112]
def dowelbook_FreeInts_17_3.F8_12 (a0A : Option Addr) (a0c : Nat) (A3141 : Option Addr) (c3142 : Nat) (u_ : Nat → Value) : Array Value := #[.slice a0A 3 a0c, u_ 1, u_ 2, u_ 3, u_ 4, .slice A3141 3 c3142, u_ 6, u_ 7, u_ 8, .int .i64 0, u_ 10, u_ 11, u_ 12, u_ 13, u_ 14, u_ 15, u_ 16, u_ 17, u_ 18, u_ 19, u_ 20, u_ 21, u_ 22, u_ 23, u_ 24, u_ 25, u_ 26, u_ 27, u_ 28, u_ 29, u_ 30, u_ 31, u_ 32, u_ 33, u_ 34, u_ 35, u_ 36, u_ 37, u_ 38, u_ 39, u_ 40, u_ 41, u_ 42, u_ 43, u_ 44, u_ 45, u_ 46, u_ 47, u_ 48, u_ 49, u_ 50, u_ 51, u_ 52, u_ 53, u_ 54, u_ 55, u_ 56, u_ 57, u_ 58, u_ 59, u_ 60, u_ 61, u_ 62, u_ 63, u_ 64, u_ 65, u_ 66, u_ 67, u_ 68, u_ 69, u_ 70, u_ 71, u_ 72, u_ 73, u_ 74, u_ 75, u_ 76, u_ 77, u_ 78, u_ 79, u_ 80, u_ 81, u_ 82, u_ 83, u_ 84, u_ 85, u_ 86, u_ 87, u_ 88, u_ 89, u_ 90, u_ 91, u_ 92, u_ 93, u_ 94, u_ 95, u_ 96, u_ 97, u_ 98, u_ 99, u_ 100, u_ 101, u_ 102, u_ 103, u_ 104, u_ 105, u_ 106, u_ 107, u_ 108, u_ 109, u_ 110, u_ 111, u_ 112]
def dowelbook_FreeInts_17_3.b8 (a0_0 : List Int) (x980 : List Int) (next8 : Int → Option (Bool)) (brk8_12 : Option (Bool)) (x3512 : Int) : Option (Bool) := if x3512 < (a0_0.length : Int) then (if 0 ≤ x3512 then (if ¬ ((rd 0 x980 x3512) = (W ((-1) - 0))) then (some false) else (next8 (W (x3512 + 1)))) else none) else brk8_12
def dowelbook_FreeInts_17_3.l8 (a0_0 : List Int) (x980 : List Int) (brk8_12 : Option (Bool)) : Nat → Int → Option (Bool)
  | 0, _ => none
  | n_ + 1, x3512 => dowelbook_FreeInts_17_3.b8 a0_0 x980 (dowelbook_FreeInts_17_3.l8 a0_0 x980 brk8_12 n_) brk8_12 x3512
def dowelbook_FreeInts_17_3.F9 (a0A : Option Addr) (a0c : Nat) (A3141 : Option Addr) (c3142 : Nat) (x3753 : Int) (u_ : Nat → Value) : Array Value := #[.slice a0A 3 a0c, u_ 1, u_ 2, u_ 3, u_ 4, .slice A3141 3 c3142, u_ 6, u_ 7, u_ 8, .int .i64 1, .int .i64 x3753, u_ 11, u_ 12, u_ 13, u_ 14, u_ 15, u_ 16, u_ 17, u_ 18, u_ 19, u_ 20, u_ 21, u_ 22, u_ 23, u_ 24, u_ 25, u_ 26, u_ 27, u_ 28, u_ 29, u_ 30, u_ 31, u_ 32, u_ 33, u_ 34, u_ 35, u_ 36, u_ 37, u_ 38, u_ 39, u_ 40, u_ 41, u_ 42, u_ 43, u_ 44, u_ 45, u_ 46, u_ 47, u_ 48, u_ 49, u_ 50, u_ 51, u_ 52, u_ 53, u_ 54, u_ 55, u_ 56, u_ 57, u_ 58, u_ 59, u_ 60, u_ 61, u_ 62, u_ 63, u_ 64, u_ 65, u_ 66, u_ 67, u_ 68, u_ 69, u_ 70, u_ 71, u_ 72, u_ 73, u_ 74, u_ 75, u_ 76, u_ 77, u_ 78, u_ 79, u_ 80, u_ 81, u_ 82, u_ 83, u_ 84, u_ 85, u_ 86, u_ 87, u_ 88, u_ 89, u_ 90, u_ 91, u_ 92, u_ 93, u_ 94, u_ 95, u_ 96, u_ 97, u_ 98, u_ 99, u_ 100, u_ 101, u_ 102, u_ 103, u_ 104, u_ 105, u_ 106, u_ 107, u_ 108, u_ 109, u_ 110, u_ 111, u_ 112]
def dowelbook_FreeInts_17_3.F9_10 (a0A : Option Addr) (a0c : Nat) (A3141 : Option Addr) (c3142 : Nat) (u_ : Nat → Value) : Array Value := #[.slice a0A 3 a0c, u_ 1, u_ 2, u_ 3, u_ 4, .slice A3141 3 c3142, u_ 6, u_ 7, u_ 8, .int .i64 1, u_ 10, u_ 11, u_ 12, u_ 13, u_ 14, u_ 15, u_ 16, u_ 17, u_ 18, u_ 19, u_ 20, u_ 21, u_ 22, u_ 23, u_ 24, u_ 25, u_ 26, u_ 27, u_ 28, u_ 29, u_ 30, u_ 31, u_ 32, u_ 33, u_ 34, u_ 35, u_ 36, u_ 37, u_ 38, u_ 39, u_ 40, u_ 41, u_ 42, u_ 43, u_ 44, u_ 45, u_ 46, u_ 47, u_ 48, u_ 49, u_ 50, u_ 51, u_ 52, u_ 53, u_ 54, u_ 55, u_ 56, u_ 57, u_ 58, u_ 59, u_ 60, u_ 61, u_ 62, u_ 63, u_ 64, u_ 65, u_ 66, u_ 67, u_ 68, u_ 69, u_ 70, u_ 71, u_ 72, u_ 73, u_ 74, u_ 75, u_ 76, u_ 77, u_ 78, u_ 79, u_ 80, u_ 81, u_ 82, u_ 83, u_ 84, u_ 85, u_ 86, u_ 87, u_ 88, u_ 89, u_ 90, u_ 91, u_ 92, u_ 93, u_ 94, u_ 95, u_ 96, u_ 97, u_ 98, u_ 99, u_ 100, u_ 101, u_ 102, u_ 103, u_ 104, u_ 105, u_ 106, u_ 107, u_ 108, u_ 109, u_ 110, u_ 111, u_ 112]
def dowelbook_FreeInts_17_3.j10F (a0A : Option Addr) (a0c : Nat) (A3141 : Option Addr) (c3142 : Nat) (x3753 : Int) (x3824 : Int) (u_ : Nat → Value) : Array Value := #[.slice a0A 3 a0c, u_ 1, u_ 2, u_ 3, u_ 4, .slice A3141 3 c3142, u_ 6, u_ 7, u_ 8, .int .i64 1, .int .i64 x3753, .int .i64 x3824, u_ 12, u_ 13, u_ 14, u_ 15, u_ 16, u_ 17, u_ 18, u_ 19, u_ 20, u_ 21, u_ 22, u_ 23, u_ 24, u_ 25, u_ 26, u_ 27, u_ 28, u_ 29, u_ 30, u_ 31, u_ 32, u_ 33, u_ 34, u_ 35, u_ 36, u_ 37, u_ 38, u_ 39, u_ 40, u_ 41, u_ 42, u_ 43, u_ 44, u_ 45, u_ 46, u_ 47, u_ 48, u_ 49, u_ 50, u_ 51, u_ 52, u_ 53, u_ 54, u_ 55, u_ 56, u_ 57, u_ 58, u_ 59, u_ 60, u_ 61, u_ 62, u_ 63, u_ 64, u_ 65, u_ 66, u_ 67, u_ 68, u_ 69, u_ 70, u_ 71, u_ 72, u_ 73, u_ 74, u_ 75, u_ 76, u_ 77, u_ 78, u_ 79, u_ 80, u_ 81, u_ 82, u_ 83, u_ 84, u_ 85, u_ 86, u_ 87, u_ 88, u_ 89, u_ 90, u_ 91, u_ 92, u_ 93, u_ 94, u_ 95, u_ 96, u_ 97, u_ 98, u_ 99, u_ 100, u_ 101, u_ 102, u_ 103, u_ 104, u_ 105, u_ 106, u_ 107, u_ 108, u_ 109, u_ 110, u_ 111, u_ 112]
def dowelbook_FreeInts_17_3.j10 (x3753 : Int) (x2316 : Nat) (x2315 : List Int) (next9 : Int → Option (Bool)) (x3824 : Int) : Option (Bool) := if 0 ≤ x3753 then (if x3753 < (x2316 : Int) then (if ¬ ((rd 0 x2315 x3753) = x3824) then (some false) else (next9 (W (x3753 + 1)))) else none) else none
def dowelbook_FreeInts_17_3.b9 (x2316 : Nat) (a0_1 : List Int) (x2315 : List Int) (next9 : Int → Option (Bool)) (brk9_10 : Option (Bool)) (x3753 : Int) : Option (Bool) := if x3753 < (x2316 : Int) then (if x3753 ≥ (a0_1.length : Int) then (dowelbook_FreeInts_17_3.j10 x3753 x2316 x2315 next9 (W ((-100000) - 1))) else (dowelbook_FreeInts_17_3.j10 x3753 x2316 x2315 next9 (W ((-1) - 1)))) else brk9_10
def dowelbook_FreeInts_17_3.l9 (x2316 : Nat) (a0_1 : List Int) (x2315 : List Int) (brk9_10 : Option (Bool)) : Nat → Int → Option (Bool)
  | 0, _ => none
  | n_ + 1, x3753 => dowelbook_FreeInts_17_3.b9 x2316 a0_1 x2315 (dowelbook_FreeInts_17_3.l9 x2316 a0_1 x2315 brk9_10 n_) brk9_10 x3753
end Go.Proofs.Ytampekcanmakkaa.G
