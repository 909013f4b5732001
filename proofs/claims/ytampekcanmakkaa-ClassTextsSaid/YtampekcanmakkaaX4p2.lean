/- What the functions compute, and that the calls come to it: printed by a program. -/
import Derived.Test.YtampekcanmakkaaX4p1
import Derived.Test.YtampekcanmakkaaProg
set_option linter.unusedVariables false
namespace Go.Proofs.Ytampekcanmakkaa.G
open Go Go.RowKit Go.Proofs
set_option maxRecDepth 20000 in
set_option maxHeartbeats 4000000 in
theorem class_Text.ok (K : Nat) (a0 : Tapi_Class) (w : World)  (r : ByteArray) (H : class_Text.f K a0 = some r) : Calls Try.prog 21 #[.agg #[.int .u64 a0.f0, .int .u64 a0.f1, .int .u64 a0.f2, .int .u64 a0.f3]] w (class_Text.R r w) := by
  refine calls_cd (t := #[.agg #[.int .u64 a0.f0, .int .u64 a0.f1, .int .u64 a0.f2, .int .u64 a0.f3], undef, undef, undef, undef, undef, undef, undef, undef, undef, undef, undef, undef, undef, undef, undef, undef, undef, undef, undef, undef, undef, undef, undef, undef, undef, undef, undef, undef, undef, undef, undef, undef, undef, undef, undef, undef, undef, undef, undef, undef, undef, undef, undef, undef, undef, undef, undef, undef, undef, undef]) Try.func21 (by kernel_rfl) (by kernel_rfl) ?_
  unfold class_Text.f at H
  have HR : ∀ a w', bodyPost Try.prog Try.f21 (class_Text.R r w) .ret a w' → bodyPost Try.prog Try.f21 (class_Text.R r w) .ret a w' := fun _ _ h => h
  refine w_seq (p := []) (p0 := [0]) (p1 := [1]) (by kernel_rfl) ?_
  refine w_region (p := [0]) (id := 0) (by kernel_rfl) ?_
  refine r_do 0 (by kernel_rfl) (og_box (T := 37) (x := (Operand.tmp 0)) (cs := #[.int .u64 a0.f0, .int .u64 a0.f1, .int .u64 a0.f2, .int .u64 a0.f3]) (by kernel_rfl) (by kernel_rfl) ?_) 
  intro b513 w510 e514 hb512 k511
  have g515 : w.heap.size ≤ b513 := by rw [e514]; exact Kp.size (Kp.refl No w)
  clear e514
  have k516 := Kp.trans (Kp.refl No w) k511 (fun _ h => h.elim)
  refine r_vals 1 2 [.string (⟨#[]⟩ : ByteArray)] (by kernel_rfl) (by kernel_rfl) ?_
  refine r_fin 2 (by kernel_rfl) ?_
  refine q_then ?_
  refine w_seq (p := [1]) (p0 := [1, 0]) (p1 := [1, 1]) (by kernel_rfl) ?_
  refine w_region (p := [1, 0]) (id := 1) (by kernel_rfl) ?_
  refine r_do 0 (by kernel_rfl) (ow_lit (K := (kInt .u8 5)) (w0 := w) (T := 110) (n := 1) (e := 5) (ps := #[(0, (Operand.const (Value.int IntKind.u8 91)))]) (cs := #[.int .u8 91]) (parts := [(0, .int .u8 91)]) ([91] : List Int) (by kernel_rfl) (by kernel_rfl) (by kernel_rfl) (by kernel_rfl) rfl rfl (by kernel_rfl) k516 ?_) 
  intro b520 w517 e521 ho519 k518
  have n523 := blk_dj_row hb512 e521
  clear e521
  have k524 := Kp.trans k516 k518 (fun _ h => h.elim)
  have hb525 := Blk.kp hb512 k518 id
  refine r_vals 1 2 [.slice (some ⟨b520, 0, none⟩) 1 1] (by kernel_rfl) (by kernel_rfl) ?_
  refine r_fin 2 (by kernel_rfl) ?_
  refine q_then ?_
  refine w_seq (p := [1, 1]) (p0 := [1, 1, 0]) (p1 := [1, 1, 1]) (by kernel_rfl) ?_
  refine w_seq (p := [1, 1, 0]) (p0 := [1, 1, 0, 0]) (p1 := [1, 1, 0, 1]) (by kernel_rfl) ?_
  refine w_region (p := [1, 1, 0, 0]) (id := 2) (by kernel_rfl) ?_
  refine r_do 0 (by kernel_rfl) (og_load (T := 37) (x := (Operand.tmp 1)) (b := b513) (off := 0) (.agg #[.int .u64 a0.f0, .int .u64 a0.f1, .int .u64 a0.f2, .int .u64 a0.f3]) (by kernel_rfl) (by kernel_rfl) hb525 (by kernel_rfl) ?_) 
  obtain ⟨t526, ht527, H⟩ := Option.bind_eq_some_iff.1 H
  refine r_do 1 (by kernel_rfl) (og_call (g := 34) (av := #[.agg #[.int .u64 a0.f0, .int .u64 a0.f1, .int .u64 a0.f2, .int .u64 a0.f3]]) (by kernel_rfl) ?_) 
  refine (class_Count.ok K a0 w517 t526 ht527).mono ?_
  rintro e w528 ⟨rfl, k529⟩
  refine ⟨_, rfl, ?_⟩
  have k530 := Kp.trans k524 k529 (fun _ h => h.elim)
  have hb531 := Blk.kp hb525 k529 id
  have ho532 := Ow.kpNo ho519 k529
  refine r_vals 2 3 [.bool (decide (t526 > 128))] (by kernel_rfl) (by kernel_rfl) ?_
  refine r_fin 3 (by kernel_rfl) ?_
  refine q_then ?_
  refine w_cond (p := [1, 1, 0, 1]) (p0 := [1, 1, 0, 1, 0]) (p1 := [1, 1, 0, 1, 1]) (c := (Operand.tmp 9)) (b := decide (t526 > 128)) (by kernel_rfl) (by kernel_rfl) ?_ ?_
  · intro h_
    have h533 : t526 > 128 := by simpa using h_
    clear h_
    rw [if_pos h533] at H
    refine w_seq (p := [1, 1, 0, 1, 0]) (p0 := [1, 1, 0, 1, 0, 0]) (p1 := [1, 1, 0, 1, 0, 1]) (by kernel_rfl) ?_
    refine w_region (p := [1, 1, 0, 1, 0, 0]) (id := 3) (by kernel_rfl) ?_
    refine r_vals 0 1 [.slice (some ⟨b520, 0, none⟩) 1 1] (by kernel_rfl) (by kernel_rfl) ?_
    refine r_do 1 (by kernel_rfl) (ow_lit (K := (kInt .u8 5)) (w0 := w) (T := 110) (n := 1) (e := 5) (ps := #[(0, (Operand.const (Value.int IntKind.u8 94)))]) (cs := #[.int .u8 94]) (parts := [(0, .int .u8 94)]) ([94] : List Int) (by kernel_rfl) (by kernel_rfl) (by kernel_rfl) (by kernel_rfl) rfl rfl (by kernel_rfl) k530 ?_) 
    intro b537 w534 e538 ho536 k535
    have n540 := blk_dj_row hb531 e538
    have n541 := Ow.dj_row ho532 e538
    clear e538
    have k542 := Kp.trans k530 k535 (fun _ h => h.elim)
    have hb543 := Blk.kp hb531 k535 id
    have ho544 := Ow.kpNo ho532 k535
    refine r_do 2 (by kernel_rfl) (ow_append2 (K := (kInt .u8 5)) (w0 := w) (T := 110) (n := 1) (c := 1) (m := 1) (d := 1) (s := (Operand.tmp 10)) (x := (Operand.tmp 11)) (A := (some ⟨b520, 0, none⟩)) (D := (some ⟨b537, 0, none⟩)) (xs := ([91] : List Int)) (ys := ([94] : List Int)) (.int .u8 0) 1 (by kernel_rfl) (by kernel_rfl) (by kernel_rfl) (by kernel_rfl) (by kernel_rfl) ho544 (by kernel_rfl) (Ow.len ho536) (Ow.rdNo ho536) (by decide) k542 ?_) 
    intro A549 c550 w545 ho547 k546 hn548 ha552
    have n553 := blk_dj_app hb543 n523 hn548
    have n554 := Ow.dj_app ho536 (Dj.symm n541) hn548
    clear hn548 ha552
    have k555 := Kp.own ho544 k542 k546
    have hb556 := Blk.kpOne hb543 k546 n523
    have ho557 := Ow.kp ho536 k546 (Dj.symm n541)
    refine r_vals 3 4 [.slice A549 ((([91] : List Int) ++ ([94] : List Int)).length) c550] (by kernel_rfl) (by kernel_rfl) ?_
    refine r_fin 4 (by kernel_rfl) ?_
    refine q_then ?_
    refine w_region (p := [1, 1, 0, 1, 0, 1]) (id := 4) (by kernel_rfl) ?_
    refine r_do 0 (by kernel_rfl) (og_load (T := 37) (x := (Operand.tmp 1)) (b := b513) (off := 0) (.agg #[.int .u64 a0.f0, .int .u64 a0.f1, .int .u64 a0.f2, .int .u64 a0.f3]) (by kernel_rfl) (by kernel_rfl) hb556 (by kernel_rfl) ?_) 
    obtain ⟨t558, ht559, H⟩ := Option.bind_eq_some_iff.1 H
    refine r_do 1 (by kernel_rfl) (og_call (g := 60) (av := #[.agg #[.int .u64 a0.f0, .int .u64 a0.f1, .int .u64 a0.f2, .int .u64 a0.f3]]) (by kernel_rfl) ?_) 
    refine (class_Not.ok K a0 w545 t558 ht559).mono ?_
    rintro e w560 ⟨rfl, k561⟩
    refine ⟨_, rfl, ?_⟩
    have k562 := Kp.trans k555 k561 (fun _ h => h.elim)
    have hb563 := Blk.kp hb556 k561 id
    have ho564 := Ow.kpNo ho557 k561
    have ho565 := Ow.kpNo ho547 k561
    refine r_do 2 (by kernel_rfl) (og_store (T := 37) (x := (Operand.tmp 1)) (y := (Operand.tmp 14)) (b := b513) (off := 0) (.agg #[.int .u64 t558.f0, .int .u64 t558.f1, .int .u64 t558.f2, .int .u64 t558.f3]) (by kernel_rfl) (by kernel_rfl) (by kernel_rfl) hb563 (cs' := #[.int .u64 t558.f0, .int .u64 t558.f1, .int .u64 t558.f2, .int .u64 t558.f3]) (by kernel_rfl) ?_) 
    intro w567 hb566 k568 _
    have k569 := Kp.trans k562 k568 (fun x hx => .inr (by rw [show x = _ from hx]; exact g515))
    have ho570 := Ow.kp ho564 k568 (Dj.symm n540)
    have ho571 := Ow.kp ho565 k568 (Dj.symm n553)
    refine r_fin 3 (by kernel_rfl) ?_
    refine q_then ?_
    refine w_into (class_Text.j0F b513 A549 ((([91] : List Int) ++ ([94] : List Int)).length) c550) (by kernel_rfl) (fun u_ => ?_)
    exact class_Text.j0.ok K a0 w r b513 HR  (([91] : List Int) ++ ([94] : List Int)) ((([91] : List Int) ++ ([94] : List Int)).length) t558.f0 t558.f1 t558.f2 t558.f3 A549 c550 u_ w567 k569 hb566 g515 ho571 n553 H
  · intro h_
    have h533 : ¬ (t526 > 128) := by simpa using h_
    clear h_
    rw [if_neg h533] at H
    refine w_skip (p := [1, 1, 0, 1, 1]) (by kernel_rfl) ?_
    refine q_then ?_
    refine w_into (class_Text.j0F b513 (some ⟨b520, 0, none⟩) 1 1) (by kernel_rfl) (fun u_ => ?_)
    exact class_Text.j0.ok K a0 w r b513 HR  ([91] : List Int) 1 a0.f0 a0.f1 a0.f2 a0.f3 (some ⟨b520, 0, none⟩) 1 u_ w528 k530 hb531 g515 ho532 n523 H
/-! ### dowel/dowelref03.Bytes -/
def dowelref03_Bytes.F0 (b909 : Nat) (A971 : Option Addr) (x970 : List Int) (c972 : Nat) (x973 : Int) (u_ : Nat → Value) : Array Value := #[u_ 0, u_ 1, u_ 2, .pointer (some ⟨b909, 0, none⟩), .slice A971 x970.length c972, .int .i64 x973, u_ 6, u_ 7, u_ 8, u_ 9, u_ 10, u_ 11, u_ 12, u_ 13, u_ 14, u_ 15, u_ 16, u_ 17, u_ 18, u_ 19, u_ 20]
def dowelref03_Bytes.F0_0 (A1023 : Option Addr) (x1022 : List Int) (c1024 : Nat) (u_ : Nat → Value) : Array Value := #[u_ 0, u_ 1, u_ 2, u_ 3, .slice A1023 x1022.length c1024, u_ 5, u_ 6, u_ 7, u_ 8, u_ 9, u_ 10, u_ 11, u_ 12, u_ 13, u_ 14, u_ 15, u_ 16, u_ 17, u_ 18, u_ 19, u_ 20]
def dowelref03_Bytes.j1F (b909 : Nat) (A1013 : Option Addr) (x1012 : List Int) (c1014 : Nat) (x973 : Int) (u_ : Nat → Value) : Array Value := #[u_ 0, u_ 1, u_ 2, .pointer (some ⟨b909, 0, none⟩), .slice A1013 x1012.length c1014, .int .i64 x973, u_ 6, u_ 7, u_ 8, u_ 9, u_ 10, u_ 11, u_ 12, u_ 13, u_ 14, u_ 15, u_ 16, u_ 17, u_ 18, u_ 19, u_ 20]
def dowelref03_Bytes.j1 (next0 : List Int → Int → Option (List Int)) (x973 : Int) (x1012 : List Int) : Option (List Int) := next0 x1012 (W (x973 + 1))
def dowelref03_Bytes.b0 (t900 : List Bool) (next0 : List Int → Int → Option (List Int)) (brk0_0 : List Int → Option (List Int)) (x970 : List Int) (x973 : Int) : Option (List Int) := if x973 < 256 then (if 0 ≤ x973 then (if t900.length = 256 then (if (rd false t900 x973) = true then (if (x970.length + 1) * 2 ≤ 140737488355328 then (dowelref03_Bytes.j1 next0 x973 (x970 ++ ([W8 (x973)] : List Int))) else none) else (dowelref03_Bytes.j1 next0 x973 x970)) else none) else none) else (brk0_0 x970)
def dowelref03_Bytes.l0 (t900 : List Bool) (brk0_0 : List Int → Option (List Int)) : Nat → List Int → Int → Option (List Int)
  | 0, _, _ => none
  | n_ + 1, x970, x973 => dowelref03_Bytes.b0 t900 (dowelref03_Bytes.l0 t900 brk0_0 n_) brk0_0 x970 x973
def dowelref03_Bytes.f (K : Nat) (a0 : Tapi_Class) : Option (List Int) := (dowelref03_Open.f K a0).bind fun t900 => (if (List.replicate 256 false).length = 256 then (if t900.length = 256 then (dowelref03_Bytes.l0 t900 (fun x1022 => some x1022) K ([] : List Int) 0) else none) else none)
def dowelref03_Bytes.R (r : List Int) (w : World) : Ending → World → Prop := fun e w' => ∃ (A0 : Option Addr) (n0 c0 : Nat), e = .returned (.slice A0 n0 c0) ∧ Kp No w w' ∧ Ow w (kInt .u8 5) w' A0 n0 c0 r
set_option maxRecDepth 20000 in
set_option maxHeartbeats 4000000 in
theorem dowelref03_Bytes.j1.ok (K : Nat) (a0 : Tapi_Class) (w : World) (r : List Int) {Q : Exit → Act → World → Prop} (b909 : Nat) (x973 : Int) (t900 : List Bool) (next0 : List Int → Int → Option (List Int)) (brk0_0 : List Int → Option (List Int)) (HR : ∀ a w', bodyPost Try.prog Try.f62 (dowelref03_Bytes.R r w) .ret a w' → Q .ret a w') (HN0 : ∀ (x970q : List Int) (x973q : Int) (A971q : Option Addr) (c972q : Nat) (u967q : Nat → Value) (w968q : World) (k969q : Kp No w w968q) (hb974q : Blk w968q b909 ((kBool 4).cells t900).toArray 108) (ghb974q : w.heap.size ≤ b909) (ho977q : Ow w (kInt .u8 5) w968q A971q x970q.length c972q x970q) (n978q : Dj (One b909) (Ra A971q)), next0 x970q x973q = some r → Q .normal ⟨dowelref03_Bytes.F0 b909 A971q x970q c972q x973q u967q, []⟩ w968q) (HX0_0 : ∀ (x1022q : List Int) (A1023q : Option Addr) (c1024q : Nat) (u1020q : Nat → Value) (w1018q : World) (k1019q : Kp No w w1018q) (ho1026q : Ow w (kInt .u8 5) w1018q A1023q x1022q.length c1024q x1022q), brk0_0 x1022q = some r → Q (.exit 0) ⟨dowelref03_Bytes.F0_0 A1023q x1022q c1024q u1020q, []⟩ w1018q) (x1012 : List Int) (A1013 : Option Addr) (c1014 : Nat) (u1010 : Nat → Value) (w1008 : World) (k1009 : Kp No w w1008) (hb1015 : Blk w1008 b909 ((kBool 4).cells t900).toArray 108) (ghb1015 : w.heap.size ≤ b909) (ho1016 : Ow w (kInt .u8 5) w1008 A1013 x1012.length c1014 x1012) (n1017 : Dj (One b909) (Ra A1013)) (H : dowelref03_Bytes.j1 next0 x973 x1012 = some r) : (Exit.then (fun a w => (cd Try.f62 [1, 1, 1, 0, 1, 0, 0, 1, 1]).wp Try.prog Q a w) Q) .normal ⟨dowelref03_Bytes.j1F b909 A1013 x1012 c1014 x973 u1010, []⟩ w1008 := by
  unfold dowelref03_Bytes.j1 at H
  refine q_then ?_
  refine w_region (p := [1, 1, 1, 0, 1, 0, 0, 1, 1]) (id := 5) (by kernel_rfl) ?_
  refine r_vals 0 3 [.int .i64 x973, .int .i64 (W (x973 + 1)), .int .i64 (W (x973 + 1))] (by kernel_rfl) (by kernel_rfl) ?_
  refine r_fin 3 (by kernel_rfl) ?_
  refine q_into (dowelref03_Bytes.F0 b909 A1013 x1012 c1014 (W (x973 + 1))) (by kernel_rfl) (fun u_ => ?_)
  exact HN0 x1012 (W (x973 + 1)) A1013 c1014 u_ w1008 k1009 hb1015 ghb1015 ho1016 n1017 H
set_option maxRecDepth 20000 in
set_option maxHeartbeats 4000000 in
theorem dowelref03_Bytes.b0.ok (K : Nat) (a0 : Tapi_Class) (w : World) (r : List Int) (b909 : Nat) (t900 : List Bool) {Q : Exit → Act → World → Prop} (HR : ∀ a w', bodyPost Try.prog Try.f62 (dowelref03_Bytes.R r w) .ret a w' → Q .ret a w') {next0 : List Int → Int → Option (List Int)} {brk0_0 : List Int → Option (List Int)} (HN0 : ∀ (x970q : List Int) (x973q : Int) (A971q : Option Addr) (c972q : Nat) (u967q : Nat → Value) (w968q : World) (k969q : Kp No w w968q) (hb974q : Blk w968q b909 ((kBool 4).cells t900).toArray 108) (ghb974q : w.heap.size ≤ b909) (ho977q : Ow w (kInt .u8 5) w968q A971q x970q.length c972q x970q) (n978q : Dj (One b909) (Ra A971q)), next0 x970q x973q = some r → Q .normal ⟨dowelref03_Bytes.F0 b909 A971q x970q c972q x973q u967q, []⟩ w968q) (HX0_0 : ∀ (x1022q : List Int) (A1023q : Option Addr) (c1024q : Nat) (u1020q : Nat → Value) (w1018q : World) (k1019q : Kp No w w1018q) (ho1026q : Ow w (kInt .u8 5) w1018q A1023q x1022q.length c1024q x1022q), brk0_0 x1022q = some r → Q (.exit 0) ⟨dowelref03_Bytes.F0_0 A1023q x1022q c1024q u1020q, []⟩ w1018q) (x970 : List Int) (x973 : Int) (A971 : Option Addr) (c972 : Nat) (u967 : Nat → Value) (w968 : World) (k969 : Kp No w w968) (hb974 : Blk w968 b909 ((kBool 4).cells t900).toArray 108) (ghb974 : w.heap.size ≤ b909) (ho977 : Ow w (kInt .u8 5) w968 A971 x970.length c972 x970) (n978 : Dj (One b909) (Ra A971)) (H : dowelref03_Bytes.b0 t900 next0 brk0_0 x970 x973 = some r) : (cd Try.f62 [1, 1, 1, 0, 1, 0, 0]).wp Try.prog Q ⟨dowelref03_Bytes.F0 b909 A971 x970 c972 x973 u967, []⟩ w968 := by
  unfold dowelref03_Bytes.b0 at H
  refine w_seq (p := [1, 1, 1, 0, 1, 0, 0]) (p0 := [1, 1, 1, 0, 1, 0, 0, 0]) (p1 := [1, 1, 1, 0, 1, 0, 0, 1]) (by kernel_rfl) ?_
  refine w_seq (p := [1, 1, 1, 0, 1, 0, 0, 0]) (p0 := [1, 1, 1, 0, 1, 0, 0, 0, 0]) (p1 := [1, 1, 1, 0, 1, 0, 0, 0, 1]) (by kernel_rfl) ?_
  refine w_region (p := [1, 1, 1, 0, 1, 0, 0, 0, 0]) (id := 4) (by kernel_rfl) ?_
  refine r_vals 0 2 [.int .i64 x973, .bool (decide (x973 < 256))] (by kernel_rfl) (by kernel_rfl) ?_
  refine r_fin 2 (by kernel_rfl) ?_
  refine q_then ?_
  refine w_cond (p := [1, 1, 1, 0, 1, 0, 0, 0, 1]) (p0 := [1, 1, 1, 0, 1, 0, 0, 0, 1, 0]) (p1 := [1, 1, 1, 0, 1, 0, 0, 0, 1, 1]) (c := (Operand.tmp 9)) (b := decide (x973 < 256)) (by kernel_rfl) (by kernel_rfl) ?_ ?_
  · intro h_
    have h979 : x973 < 256 := by simpa using h_
    clear h_
    rw [if_pos h979] at H
    refine w_skip (p := [1, 1, 1, 0, 1, 0, 0, 0, 1, 0]) (by kernel_rfl) ?_
    refine q_then ?_
    refine w_seq (p := [1, 1, 1, 0, 1, 0, 0, 1]) (p0 := [1, 1, 1, 0, 1, 0, 0, 1, 0]) (p1 := [1, 1, 1, 0, 1, 0, 0, 1, 1]) (by kernel_rfl) ?_
    refine w_block (p := [1, 1, 1, 0, 1, 0, 0, 1, 0]) (p0 := [1, 1, 1, 0, 1, 0, 0, 1, 0, 0]) (id := 1) (by kernel_rfl) ?_
    refine w_seq (p := [1, 1, 1, 0, 1, 0, 0, 1, 0, 0]) (p0 := [1, 1, 1, 0, 1, 0, 0, 1, 0, 0, 0]) (p1 := [1, 1, 1, 0, 1, 0, 0, 1, 0, 0, 1]) (by kernel_rfl) ?_
    refine w_region (p := [1, 1, 1, 0, 1, 0, 0, 1, 0, 0, 0]) (id := 6) (by kernel_rfl) ?_
    refine r_vals 0 1 [.int .i64 x973] (by kernel_rfl) (by kernel_rfl) ?_
    refine p_split (0 ≤ x973) (fun h980 => ?_) (fun h980 => ?_)
    · rw [if_pos h980] at H
      refine r_do 1 (by kernel_rfl) (og_indexA (T := 108) (n := 256) (e := 4) (sz := 1) (b := b909) (off := 0) (iv := x973) (x := (Operand.tmp 3)) (y := (Operand.tmp 12)) (k := .i64) (by kernel_rfl) (by kernel_rfl) (by kernel_rfl) (by kernel_rfl) h980 h979 ?_) 
      refine p_split (t900.length = 256) (fun h981 => ?_) (fun h981 => ?_)
      · rw [if_pos h981] at H
        refine r_do 2 (by kernel_rfl) (ar_loadA (K := (kBool 4)) (T := 4) (x := (Operand.tmp 13)) (b := b909) (off := 0) (xs := t900) (iv := x973) false (.bool (rd false t900 x973)) (by kernel_rfl) (by kernel_rfl) hb974 h980 (by rw [h981]; exact h979) (by kernel_rfl) ?_) 
        refine r_fin 3 (by kernel_rfl) ?_
        refine q_then ?_
        refine w_cond (p := [1, 1, 1, 0, 1, 0, 0, 1, 0, 0, 1]) (p0 := [1, 1, 1, 0, 1, 0, 0, 1, 0, 0, 1, 0]) (p1 := [1, 1, 1, 0, 1, 0, 0, 1, 0, 0, 1, 1]) (c := (Operand.tmp 14)) (b := (rd false t900 x973)) (by kernel_rfl) (by kernel_rfl) ?_ ?_
        · intro h_
          have h982 : (rd false t900 x973) = true := h_
          clear h_
          rw [if_pos h982] at H
          refine w_region (p := [1, 1, 1, 0, 1, 0, 0, 1, 0, 0, 1, 0]) (id := 7) (by kernel_rfl) ?_
          refine r_vals 0 3 [.slice A971 x970.length c972, .int .i64 x973, .int .u8 (W8 (x973))] (by kernel_rfl) (by kernel_rfl) ?_
          refine r_do 3 (by kernel_rfl) (ow_lit (K := (kInt .u8 5)) (w0 := w) (T := 110) (n := 1) (e := 5) (ps := #[(0, (Operand.tmp 17))]) (cs := #[.int .u8 (W8 (x973))]) (parts := [(0, .int .u8 (W8 (x973)))]) ([W8 (x973)] : List Int) (by kernel_rfl) (by kernel_rfl) (by kernel_rfl) (by kernel_rfl) rfl rfl (by kernel_rfl) k969 ?_) 
          intro b986 w983 e987 ho985 k984
          have n989 := blk_dj_row hb974 e987
          have n990 := Ow.dj_row ho977 e987
          clear e987
          have k991 := Kp.trans k969 k984 (fun _ h => h.elim)
          have hb992 := Blk.kp hb974 k984 id
          have ho993 := Ow.kpNo ho977 k984
          refine p_split ((x970.length + 1) * 2 ≤ 140737488355328) (fun h994 => ?_) (fun h994 => ?_)
          · rw [if_pos h994] at H
            refine r_do 4 (by kernel_rfl) (ow_append2 (K := (kInt .u8 5)) (w0 := w) (T := 110) (n := x970.length) (c := c972) (m := 1) (d := 1) (s := (Operand.tmp 15)) (x := (Operand.tmp 18)) (A := A971) (D := (some ⟨b986, 0, none⟩)) (xs := x970) (ys := ([W8 (x973)] : List Int)) (.int .u8 0) 1 (by kernel_rfl) (by kernel_rfl) (by kernel_rfl) (by kernel_rfl) (by kernel_rfl) ho993 (by kernel_rfl) (Ow.len ho985) (Ow.rdNo ho985) h994 k991 ?_) 
            intro A999 c1000 w995 ho997 k996 hn998 ha1002
            have n1003 := blk_dj_app hb992 n978 hn998
            have n1004 := Ow.dj_app ho985 (Dj.symm n990) hn998
            clear hn998 ha1002
            have k1005 := Kp.own ho993 k991 k996
            have hb1006 := Blk.kpOne hb992 k996 n978
            have ho1007 := Ow.kp ho985 k996 (Dj.symm n990)
            refine r_vals 5 6 [.slice A999 ((x970 ++ ([W8 (x973)] : List Int)).length) c1000] (by kernel_rfl) (by kernel_rfl) ?_
            refine r_fin 6 (by kernel_rfl) ?_
            refine q_in ?_
            refine q_into (dowelref03_Bytes.j1F b909 A999 (x970 ++ ([W8 (x973)] : List Int)) c1000 x973) (by kernel_rfl) (fun u_ => ?_)
            exact dowelref03_Bytes.j1.ok K a0 w r b909 x973 t900 next0 brk0_0 HR HN0 HX0_0 (x970 ++ ([W8 (x973)] : List Int)) A999 c1000 u_ w995 k1005 hb1006 ghb974 ho997 n1003 H
          · rw [if_neg h994] at H
            cases H
        · intro h_
          have h982 : ¬ ((rd false t900 x973) = true) := by rw [h_]; decide
          clear h_
          rw [if_neg h982] at H
          refine w_skip (p := [1, 1, 1, 0, 1, 0, 0, 1, 0, 0, 1, 1]) (by kernel_rfl) ?_
          refine q_in ?_
          refine q_into (dowelref03_Bytes.j1F b909 A971 x970 c972 x973) (by kernel_rfl) (fun u_ => ?_)
          exact dowelref03_Bytes.j1.ok K a0 w r b909 x973 t900 next0 brk0_0 HR HN0 HX0_0 x970 A971 c972 u_ w968 k969 hb974 ghb974 ho977 n978 H
      · rw [if_neg h981] at H
        cases H
    · rw [if_neg h980] at H
      cases H
  · intro h_
    have h979 : ¬ (x973 < 256) := by simpa using h_
    clear h_
    rw [if_neg h979] at H
    refine w_exit (p := [1, 1, 1, 0, 1, 0, 0, 0, 1, 1]) (id := 0) (by kernel_rfl) ?_
    refine q_then_x ?_
    refine q_into (dowelref03_Bytes.F0_0 A971 x970 c972) (by kernel_rfl) (fun u_ => ?_)
    exact HX0_0 x970 A971 c972 u_ w968 k969 ho977 H
set_option maxRecDepth 20000 in
set_option maxHeartbeats 4000000 in
theorem dowelref03_Bytes.l0.ok (K : Nat) (a0 : Tapi_Class) (w : World) (r : List Int) (b909 : Nat) (t900 : List Bool) {Q : Exit → Act → World → Prop} (HR : ∀ a w', bodyPost Try.prog Try.f62 (dowelref03_Bytes.R r w) .ret a w' → Q .ret a w') {brk0_0 : List Int → Option (List Int)} (HX0_0 : ∀ (x1022q : List Int) (A1023q : Option Addr) (c1024q : Nat) (u1020q : Nat → Value) (w1018q : World) (k1019q : Kp No w w1018q) (ho1026q : Ow w (kInt .u8 5) w1018q A1023q x1022q.length c1024q x1022q), brk0_0 x1022q = some r → Q (.exit 0) ⟨dowelref03_Bytes.F0_0 A1023q x1022q c1024q u1020q, []⟩ w1018q) : ∀ (n_ : Nat) (x970 : List Int) (x973 : Int) (A971 : Option Addr) (c972 : Nat) (u967 : Nat → Value) (w968 : World) (k969 : Kp No w w968) (hb974 : Blk w968 b909 ((kBool 4).cells t900).toArray 108) (ghb974 : w.heap.size ≤ b909) (ho977 : Ow w (kInt .u8 5) w968 A971 x970.length c972 x970) (n978 : Dj (One b909) (Ra A971)) (H : dowelref03_Bytes.l0 t900 brk0_0 n_ x970 x973 = some r), Code.rounds Try.prog (cd Try.f62 [1, 1, 1, 0, 1, 0, 0]) Q n_ ⟨dowelref03_Bytes.F0 b909 A971 x970 c972 x973 u967, []⟩ w968
  | 0, _, _, _, _, _, _, _, _, _, _, _, H => by cases H
  | n_ + 1, x970, x973, A971, c972, u967, w968, k969, hb974, ghb974, ho977, n978, H =>
    dowelref03_Bytes.b0.ok K a0 w r b909 t900 (Q := Exit.then (Code.rounds Try.prog (cd Try.f62 [1, 1, 1, 0, 1, 0, 0]) Q n_) Q) (fun a w' h_ => q_then_r (HR a w' h_)) (fun x0_ x1_ x2_ x3_ x4_ x5_ x6_ x7_ x8_ x9_ x10_ h_ => dowelref03_Bytes.l0.ok K a0 w r b909 t900 HR HX0_0 n_ x0_ x1_ x2_ x3_ x4_ x5_ x6_ x7_ x8_ x9_ x10_ h_) (fun x0_ x1_ x2_ x3_ x4_ x5_ x6_ h_ => q_then_x (HX0_0 x0_ x1_ x2_ x3_ x4_ x5_ x6_ h_)) x970 x973 A971 c972 u967 w968 k969 hb974 ghb974 ho977 n978 H
set_option maxRecDepth 20000 in
set_option maxHeartbeats 4000000 in
theorem dowelref03_Bytes.ok (K : Nat) (a0 : Tapi_Class) (w : World)  (r : List Int) (H : dowelref03_Bytes.f K a0 = some r) : Calls Try.prog 62 #[.agg #[.int .u64 a0.f0, .int .u64 a0.f1, .int .u64 a0.f2, .int .u64 a0.f3]] w (dowelref03_Bytes.R r w) := by
  refine calls_cd (t := #[.agg #[.int .u64 a0.f0, .int .u64 a0.f1, .int .u64 a0.f2, .int .u64 a0.f3], undef, undef, undef, undef, undef, undef, undef, undef, undef, undef, undef, undef, undef, undef, undef, undef, undef, undef, undef, undef]) Try.func62 (by kernel_rfl) (by kernel_rfl) ?_
  unfold dowelref03_Bytes.f at H
  have HR : ∀ a w', bodyPost Try.prog Try.f62 (dowelref03_Bytes.R r w) .ret a w' → bodyPost Try.prog Try.f62 (dowelref03_Bytes.R r w) .ret a w' := fun _ _ h => h
  refine w_seq (p := []) (p0 := [0]) (p1 := [1]) (by kernel_rfl) ?_
  refine w_region (p := [0]) (id := 0) (by kernel_rfl) ?_
  refine r_do 0 (by kernel_rfl) (og_box (T := 37) (x := (Operand.tmp 0)) (cs := #[.int .u64 a0.f0, .int .u64 a0.f1, .int .u64 a0.f2, .int .u64 a0.f3]) (by kernel_rfl) (by kernel_rfl) ?_) 
  intro b896 w893 e897 hb895 k894
  have g898 : w.heap.size ≤ b896 := by rw [e897]; exact Kp.size (Kp.refl No w)
  clear e897
  have k899 := Kp.trans (Kp.refl No w) k894 (fun _ h => h.elim)
  refine r_vals 1 2 [.slice none 0 0] (by kernel_rfl) (by kernel_rfl) ?_
  refine r_fin 2 (by kernel_rfl) ?_
  refine q_then ?_
  refine w_seq (p := [1]) (p0 := [1, 0]) (p1 := [1, 1]) (by kernel_rfl) ?_
  refine w_region (p := [1, 0]) (id := 1) (by kernel_rfl) ?_
  refine r_do 0 (by kernel_rfl) (og_load (T := 37) (x := (Operand.tmp 1)) (b := b896) (off := 0) (.agg #[.int .u64 a0.f0, .int .u64 a0.f1, .int .u64 a0.f2, .int .u64 a0.f3]) (by kernel_rfl) (by kernel_rfl) hb895 (by kernel_rfl) ?_) 
  obtain ⟨t900, ht901, H⟩ := Option.bind_eq_some_iff.1 H
  refine r_do 1 (by kernel_rfl) (og_call (g := 59) (av := #[.agg #[.int .u64 a0.f0, .int .u64 a0.f1, .int .u64 a0.f2, .int .u64 a0.f3]]) (by kernel_rfl) ?_) 
  refine (dowelref03_Open.ok K a0 w893 t900 ht901).mono ?_
  rintro e w902 ⟨rfl, k903⟩
  refine ⟨_, rfl, ?_⟩
  have k904 := Kp.trans k899 k903 (fun _ h => h.elim)
  have hb905 := Blk.kp hb895 k903 id
  refine r_do 2 (by kernel_rfl) (og_alloc (T := 108) (cs := ((kBool 4).cells (List.replicate 256 false)).toArray) (by kernel_rfl) (by kernel_rfl) ?_) 
  intro b909 w906 e910 hb908 k907
  have n911 : b896 ≠ b909 := by rw [e910]; exact Nat.ne_of_lt hb905.lt
  have g912 : w.heap.size ≤ b909 := by rw [e910]; exact Kp.size k904
  clear e910
  have k913 := Kp.trans k904 k907 (fun _ h => h.elim)
  have hb914 := Blk.kp hb905 k907 id
  refine p_split ((List.replicate 256 false).length = 256) (fun h915 => ?_) (fun h915 => ?_)
  · rw [if_pos h915] at H
    refine p_split (t900.length = 256) (fun h916 => ?_) (fun h916 => ?_)
    · rw [if_pos h916] at H
      refine r_do 3 (by kernel_rfl) (bg_store (K := (kBool 4)) (T := 108) (n := 256) (e := 4) (x := (Operand.tmp 3)) (y := (Operand.tmp 7)) (b := b909) (xs := (List.replicate 256 false)) (ys := t900) (by kernel_rfl) (by kernel_rfl) (by kernel_rfl) (by kernel_rfl) hb908 h915 h916 ?_) 
      intro w918 hb917 k919
      have k920 := Kp.trans k913 k919 (fun x hx => .inr (by rw [show x = _ from hx]; exact g912))
      have hb921 := Blk.kp hb914 k919 (show ¬ (b896 = b909) from n911)
      refine r_fin 4 (by kernel_rfl) ?_
      refine q_then ?_
      refine w_seq (p := [1, 1]) (p0 := [1, 1, 0]) (p1 := [1, 1, 1]) (by kernel_rfl) ?_
      refine w_region (p := [1, 1, 0]) (id := 2) (by kernel_rfl) ?_
      refine r_vals 0 1 [.slice none 0 0] (by kernel_rfl) (by kernel_rfl) ?_
      refine r_fin 1 (by kernel_rfl) ?_
      refine q_then ?_
      refine w_seq (p := [1, 1, 1]) (p0 := [1, 1, 1, 0]) (p1 := [1, 1, 1, 1]) (by kernel_rfl) ?_
      refine w_seq (p := [1, 1, 1, 0]) (p0 := [1, 1, 1, 0, 0]) (p1 := [1, 1, 1, 0, 1]) (by kernel_rfl) ?_
      refine w_region (p := [1, 1, 1, 0, 0]) (id := 3) (by kernel_rfl) ?_
      refine r_vals 0 1 [.int .i64 0] (by kernel_rfl) (by kernel_rfl) ?_
      refine r_fin 1 (by kernel_rfl) ?_
      refine q_then ?_
      refine w_block (p := [1, 1, 1, 0, 1]) (p0 := [1, 1, 1, 0, 1, 0]) (id := 0) (by kernel_rfl) ?_
      refine w_into (dowelref03_Bytes.F0 b909 none ([] : List Int) 0 0) (by kernel_rfl) (fun u_ => ?_)
      refine w_loop (p := [1, 1, 1, 0, 1, 0]) (p0 := [1, 1, 1, 0, 1, 0, 0]) K (by kernel_rfl) ?_
      refine dowelref03_Bytes.l0.ok K a0 w r b909 t900 (fun a w' h_ => q_in_r (q_then_r (HR a w' h_))) ?_ K ([] : List Int) 0 none 0 u_ w918 k920 hb917 g912 (Ow.nil w (kInt .u8 5) w918) dj_nil H
      intro x1022 A1023 c1024 u1020 w1018 k1019 ho1026 H
      try dsimp only at H
      refine q_in_hit ?_
      refine q_then ?_
      refine w_seq (p := [1, 1, 1, 1]) (p0 := [1, 1, 1, 1, 0]) (p1 := [1, 1, 1, 1, 1]) (by kernel_rfl) ?_
      refine w_region (p := [1, 1, 1, 1, 0]) (id := 8) (by kernel_rfl) ?_
      refine r_vals 0 2 [.slice A1023 x1022.length c1024, .slice A1023 x1022.length c1024] (by kernel_rfl) (by kernel_rfl) ?_
      refine r_fin 2 (by kernel_rfl) ?_
      refine q_then ?_
      refine w_ret (p := [1, 1, 1, 1, 1]) (by kernel_rfl) ?_
      obtain rfl := Option.some.inj H
      refine HR _ _ (body_ret (vs := [.slice A1023 x1022.length c1024]) (rv_tmp (by kernel_rfl) rfl) rfl ?_)
      exact ⟨A1023, x1022.length, c1024, rfl, k1019, ho1026⟩
    · rw [if_neg h916] at H
      cases H
  · rw [if_neg h915] at H
    cases H
/-! ### dowel/dowelref03.Close -/
def dowelref03_Close.F0 (b1030 : Nat) (b1037 : Nat) (b1046 : Nat) (x1091 : Int) (u_ : Nat → Value) : Array Value := #[u_ 0, .pointer (some ⟨b1030, 0, none⟩), .pointer (some ⟨b1037, 0, none⟩), .pointer (some ⟨b1046, 0, none⟩), .int .i64 x1091, u_ 5, u_ 6, u_ 7, u_ 8, u_ 9, u_ 10, u_ 11, u_ 12, u_ 13, u_ 14, u_ 15, u_ 16, u_ 17, u_ 18, u_ 19, u_ 20, u_ 21, u_ 22, u_ 23]
def dowelref03_Close.F0_0 (b1037 : Nat) (b1046 : Nat) (u_ : Nat → Value) : Array Value := #[u_ 0, u_ 1, .pointer (some ⟨b1037, 0, none⟩), .pointer (some ⟨b1046, 0, none⟩), u_ 4, u_ 5, u_ 6, u_ 7, u_ 8, u_ 9, u_ 10, u_ 11, u_ 12, u_ 13, u_ 14, u_ 15, u_ 16, u_ 17, u_ 18, u_ 19, u_ 20, u_ 21, u_ 22, u_ 23]
def dowelref03_Close.j1F (b1030 : Nat) (b1037 : Nat) (b1046 : Nat) (x1091 : Int) (u_ : Nat → Value) : Array Value := #[u_ 0, .pointer (some ⟨b1030, 0, none⟩), .pointer (some ⟨b1037, 0, none⟩), .pointer (some ⟨b1046, 0, none⟩), .int .i64 x1091, u_ 5, u_ 6, u_ 7, u_ 8, u_ 9, u_ 10, u_ 11, u_ 12, u_ 13, u_ 14, u_ 15, u_ 16, u_ 17, u_ 18, u_ 19, u_ 20, u_ 21, u_ 22, u_ 23]
def dowelref03_Close.j1 (next0 : Int → Int → Int → Int → Int → Option (Tapi_Class)) (x1091 : Int) (y1123 : Int) (y1124 : Int) (y1125 : Int) (y1126 : Int) : Option (Tapi_Class) := next0 (W (x1091 + 1)) y1123 y1124 y1125 y1126
def dowelref03_Close.b0 (a0 : List Bool) (next0 : Int → Int → Int → Int → Int → Option (Tapi_Class)) (brk0_0 : Int → Int → Int → Int → Option (Tapi_Class)) (x1091 : Int) (x1094 : Int) (x1095 : Int) (x1096 : Int) (x1097 : Int) : Option (Tapi_Class) := if x1091 < 256 then (if 0 ≤ x1091 then (if a0.length = 256 then (if (rd false a0 x1091) = true then (if 0 ≤ (W (Int.tdiv x1091 64)) then (if (W (Int.tdiv x1091 64)) < 4 then (if 0 ≤ (Int.tmod x1091 64) then (dowelref03_Close.j1 next0 x1091 (rd 0 (stored [x1094, x1095, x1096, x1097] (W (Int.tdiv x1091 64)) (bits .or .u64 (rd 0 [x1094, x1095, x1096, x1097] (W (Int.tdiv x1091 64))) (shv .shl .u64 1 (Int.tmod x1091 64)))) 0) (rd 0 (stored [x1094, x1095, x1096, x1097] (W (Int.tdiv x1091 64)) (bits .or .u64 (rd 0 [x1094, x1095, x1096, x1097] (W (Int.tdiv x1091 64))) (shv .shl .u64 1 (Int.tmod x1091 64)))) 1) (rd 0 (stored [x1094, x1095, x1096, x1097] (W (Int.tdiv x1091 64)) (bits .or .u64 (rd 0 [x1094, x1095, x1096, x1097] (W (Int.tdiv x1091 64))) (shv .shl .u64 1 (Int.tmod x1091 64)))) 2) (rd 0 (stored [x1094, x1095, x1096, x1097] (W (Int.tdiv x1091 64)) (bits .or .u64 (rd 0 [x1094, x1095, x1096, x1097] (W (Int.tdiv x1091 64))) (shv .shl .u64 1 (Int.tmod x1091 64)))) 3)) else none) else none) else none) else (dowelref03_Close.j1 next0 x1091 x1094 x1095 x1096 x1097)) else none) else none) else (brk0_0 x1094 x1095 x1096 x1097)
def dowelref03_Close.l0 (a0 : List Bool) (brk0_0 : Int → Int → Int → Int → Option (Tapi_Class)) : Nat → Int → Int → Int → Int → Int → Option (Tapi_Class)
  | 0, _, _, _, _, _ => none
  | n_ + 1, x1091, x1094, x1095, x1096, x1097 => dowelref03_Close.b0 a0 (dowelref03_Close.l0 a0 brk0_0 n_) brk0_0 x1091 x1094 x1095 x1096 x1097
def dowelref03_Close.f (K : Nat) (a0 : List Bool) : Option (Tapi_Class) := dowelref03_Close.l0 a0 (fun y1132 y1133 y1134 y1135 => some (⟨y1132, y1133, y1134, y1135⟩ : Tapi_Class)) K 0 0 0 0 0
def dowelref03_Close.R (r : Tapi_Class) (w : World) : Ending → World → Prop := fun e w' => e = .returned (.agg #[.int .u64 r.f0, .int .u64 r.f1, .int .u64 r.f2, .int .u64 r.f3]) ∧ Kp No w w'
set_option maxRecDepth 20000 in
set_option maxHeartbeats 4000000 in
theorem dowelref03_Close.j1.ok (K : Nat) (a0 : List Bool) (w : World) (r : Tapi_Class) {Q : Exit → Act → World → Prop} (b1030 : Nat) (b1037 : Nat) (b1046 : Nat) (x1091 : Int) (next0 : Int → Int → Int → Int → Int → Option (Tapi_Class)) (brk0_0 : Int → Int → Int → Int → Option (Tapi_Class)) (HR : ∀ a w', bodyPost Try.prog Try.f103 (dowelref03_Close.R r w) .ret a w' → Q .ret a w') (HN0 : ∀ (x1091q : Int) (x1094q : Int) (x1095q : Int) (x1096q : Int) (x1097q : Int) (u1088q : Nat → Value) (w1089q : World) (k1090q : Kp No w w1089q) (hb1092q : Blk w1089q b1030 ((kBool 4).cells a0).toArray 108) (hb1093q : Blk w1089q b1037 #[.int .u64 0, .int .u64 0, .int .u64 0, .int .u64 0] 37) (hb1098q : Blk w1089q b1046 #[.int .u64 x1094q, .int .u64 x1095q, .int .u64 x1096q, .int .u64 x1097q] 37) (ghb1092q : w.heap.size ≤ b1030) (ghb1093q : w.heap.size ≤ b1037) (ghb1098q : w.heap.size ≤ b1046) (nhb1092hb1093q : b1030 ≠ b1037) (nhb1092hb1098q : b1030 ≠ b1046) (nhb1093hb1098q : b1037 ≠ b1046), next0 x1091q x1094q x1095q x1096q x1097q = some r → Q .normal ⟨dowelref03_Close.F0 b1030 b1037 b1046 x1091q u1088q, []⟩ w1089q) (HX0_0 : ∀ (y1132q : Int) (y1133q : Int) (y1134q : Int) (y1135q : Int) (u1130q : Nat → Value) (w1128q : World) (k1129q : Kp No w w1128q) (hb1131q : Blk w1128q b1037 #[.int .u64 0, .int .u64 0, .int .u64 0, .int .u64 0] 37) (hb1136q : Blk w1128q b1046 #[.int .u64 y1132q, .int .u64 y1133q, .int .u64 y1134q, .int .u64 y1135q] 37) (ghb1131q : w.heap.size ≤ b1037) (ghb1136q : w.heap.size ≤ b1046) (nhb1131hb1136q : b1037 ≠ b1046), brk0_0 y1132q y1133q y1134q y1135q = some r → Q (.exit 0) ⟨dowelref03_Close.F0_0 b1037 b1046 u1130q, []⟩ w1128q) (y1123 : Int) (y1124 : Int) (y1125 : Int) (y1126 : Int) (u1120 : Nat → Value) (w1118 : World) (k1119 : Kp No w w1118) (hb1121 : Blk w1118 b1030 ((kBool 4).cells a0).toArray 108) (hb1122 : Blk w1118 b1037 #[.int .u64 0, .int .u64 0, .int .u64 0, .int .u64 0] 37) (hb1127 : Blk w1118 b1046 #[.int .u64 y1123, .int .u64 y1124, .int .u64 y1125, .int .u64 y1126] 37) (ghb1121 : w.heap.size ≤ b1030) (ghb1122 : w.heap.size ≤ b1037) (ghb1127 : w.heap.size ≤ b1046) (nhb1121hb1122 : b1030 ≠ b1037) (nhb1121hb1127 : b1030 ≠ b1046) (nhb1122hb1127 : b1037 ≠ b1046) (H : dowelref03_Close.j1 next0 x1091 y1123 y1124 y1125 y1126 = some r) : (Exit.then (fun a w => (cd Try.f103 [1, 1, 0, 1, 0, 0, 1, 1]).wp Try.prog Q a w) Q) .normal ⟨dowelref03_Close.j1F b1030 b1037 b1046 x1091 u1120, []⟩ w1118 := by
  unfold dowelref03_Close.j1 at H
  refine q_then ?_
  refine w_region (p := [1, 1, 0, 1, 0, 0, 1, 1]) (id := 4) (by kernel_rfl) ?_
  refine r_vals 0 3 [.int .i64 x1091, .int .i64 (W (x1091 + 1)), .int .i64 (W (x1091 + 1))] (by kernel_rfl) (by kernel_rfl) ?_
  refine r_fin 3 (by kernel_rfl) ?_
  refine q_into (dowelref03_Close.F0 b1030 b1037 b1046 (W (x1091 + 1))) (by kernel_rfl) (fun u_ => ?_)
  exact HN0 (W (x1091 + 1)) y1123 y1124 y1125 y1126 u_ w1118 k1119 hb1121 hb1122 hb1127 ghb1121 ghb1122 ghb1127 nhb1121hb1122 nhb1121hb1127 nhb1122hb1127 H
set_option maxRecDepth 20000 in
set_option maxHeartbeats 4000000 in
theorem dowelref03_Close.b0.ok (K : Nat) (a0 : List Bool) (w : World) (r : Tapi_Class) (b1030 : Nat) (b1037 : Nat) (b1046 : Nat) {Q : Exit → Act → World → Prop} (HR : ∀ a w', bodyPost Try.prog Try.f103 (dowelref03_Close.R r w) .ret a w' → Q .ret a w') {next0 : Int → Int → Int → Int → Int → Option (Tapi_Class)} {brk0_0 : Int → Int → Int → Int → Option (Tapi_Class)} (HN0 : ∀ (x1091q : Int) (x1094q : Int) (x1095q : Int) (x1096q : Int) (x1097q : Int) (u1088q : Nat → Value) (w1089q : World) (k1090q : Kp No w w1089q) (hb1092q : Blk w1089q b1030 ((kBool 4).cells a0).toArray 108) (hb1093q : Blk w1089q b1037 #[.int .u64 0, .int .u64 0, .int .u64 0, .int .u64 0] 37) (hb1098q : Blk w1089q b1046 #[.int .u64 x1094q, .int .u64 x1095q, .int .u64 x1096q, .int .u64 x1097q] 37) (ghb1092q : w.heap.size ≤ b1030) (ghb1093q : w.heap.size ≤ b1037) (ghb1098q : w.heap.size ≤ b1046) (nhb1092hb1093q : b1030 ≠ b1037) (nhb1092hb1098q : b1030 ≠ b1046) (nhb1093hb1098q : b1037 ≠ b1046), next0 x1091q x1094q x1095q x1096q x1097q = some r → Q .normal ⟨dowelref03_Close.F0 b1030 b1037 b1046 x1091q u1088q, []⟩ w1089q) (HX0_0 : ∀ (y1132q : Int) (y1133q : Int) (y1134q : Int) (y1135q : Int) (u1130q : Nat → Value) (w1128q : World) (k1129q : Kp No w w1128q) (hb1131q : Blk w1128q b1037 #[.int .u64 0, .int .u64 0, .int .u64 0, .int .u64 0] 37) (hb1136q : Blk w1128q b1046 #[.int .u64 y1132q, .int .u64 y1133q, .int .u64 y1134q, .int .u64 y1135q] 37) (ghb1131q : w.heap.size ≤ b1037) (ghb1136q : w.heap.size ≤ b1046) (nhb1131hb1136q : b1037 ≠ b1046), brk0_0 y1132q y1133q y1134q y1135q = some r → Q (.exit 0) ⟨dowelref03_Close.F0_0 b1037 b1046 u1130q, []⟩ w1128q) (x1091 : Int) (x1094 : Int) (x1095 : Int) (x1096 : Int) (x1097 : Int) (u1088 : Nat → Value) (w1089 : World) (k1090 : Kp No w w1089) (hb1092 : Blk w1089 b1030 ((kBool 4).cells a0).toArray 108) (hb1093 : Blk w1089 b1037 #[.int .u64 0, .int .u64 0, .int .u64 0, .int .u64 0] 37) (hb1098 : Blk w1089 b1046 #[.int .u64 x1094, .int .u64 x1095, .int .u64 x1096, .int .u64 x1097] 37) (ghb1092 : w.heap.size ≤ b1030) (ghb1093 : w.heap.size ≤ b1037) (ghb1098 : w.heap.size ≤ b1046) (nhb1092hb1093 : b1030 ≠ b1037) (nhb1092hb1098 : b1030 ≠ b1046) (nhb1093hb1098 : b1037 ≠ b1046) (H : dowelref03_Close.b0 a0 next0 brk0_0 x1091 x1094 x1095 x1096 x1097 = some r) : (cd Try.f103 [1, 1, 0, 1, 0, 0]).wp Try.prog Q ⟨dowelref03_Close.F0 b1030 b1037 b1046 x1091 u1088, []⟩ w1089 := by
  unfold dowelref03_Close.b0 at H
  refine w_seq (p := [1, 1, 0, 1, 0, 0]) (p0 := [1, 1, 0, 1, 0, 0, 0]) (p1 := [1, 1, 0, 1, 0, 0, 1]) (by kernel_rfl) ?_
  refine w_seq (p := [1, 1, 0, 1, 0, 0, 0]) (p0 := [1, 1, 0, 1, 0, 0, 0, 0]) (p1 := [1, 1, 0, 1, 0, 0, 0, 1]) (by kernel_rfl) ?_
  refine w_region (p := [1, 1, 0, 1, 0, 0, 0, 0]) (id := 3) (by kernel_rfl) ?_
  refine r_vals 0 2 [.int .i64 x1091, .bool (decide (x1091 < 256))] (by kernel_rfl) (by kernel_rfl) ?_
  refine r_fin 2 (by kernel_rfl) ?_
  refine q_then ?_
  refine w_cond (p := [1, 1, 0, 1, 0, 0, 0, 1]) (p0 := [1, 1, 0, 1, 0, 0, 0, 1, 0]) (p1 := [1, 1, 0, 1, 0, 0, 0, 1, 1]) (c := (Operand.tmp 6)) (b := decide (x1091 < 256)) (by kernel_rfl) (by kernel_rfl) ?_ ?_
  · intro h_
    have h1099 : x1091 < 256 := by simpa using h_
    clear h_
    rw [if_pos h1099] at H
    refine w_skip (p := [1, 1, 0, 1, 0, 0, 0, 1, 0]) (by kernel_rfl) ?_
    refine q_then ?_
    refine w_seq (p := [1, 1, 0, 1, 0, 0, 1]) (p0 := [1, 1, 0, 1, 0, 0, 1, 0]) (p1 := [1, 1, 0, 1, 0, 0, 1, 1]) (by kernel_rfl) ?_
    refine w_block (p := [1, 1, 0, 1, 0, 0, 1, 0]) (p0 := [1, 1, 0, 1, 0, 0, 1, 0, 0]) (id := 1) (by kernel_rfl) ?_
    refine w_seq (p := [1, 1, 0, 1, 0, 0, 1, 0, 0]) (p0 := [1, 1, 0, 1, 0, 0, 1, 0, 0, 0]) (p1 := [1, 1, 0, 1, 0, 0, 1, 0, 0, 1]) (by kernel_rfl) ?_
    refine w_region (p := [1, 1, 0, 1, 0, 0, 1, 0, 0, 0]) (id := 5) (by kernel_rfl) ?_
    refine r_vals 0 1 [.int .i64 x1091] (by kernel_rfl) (by kernel_rfl) ?_
    refine p_split (0 ≤ x1091) (fun h1100 => ?_) (fun h1100 => ?_)
    · rw [if_pos h1100] at H
      refine r_do 1 (by kernel_rfl) (og_indexA (T := 108) (n := 256) (e := 4) (sz := 1) (b := b1030) (off := 0) (iv := x1091) (x := (Operand.tmp 1)) (y := (Operand.tmp 9)) (k := .i64) (by kernel_rfl) (by kernel_rfl) (by kernel_rfl) (by kernel_rfl) h1100 h1099 ?_) 
      refine p_split (a0.length = 256) (fun h1101 => ?_) (fun h1101 => ?_)
      · rw [if_pos h1101] at H
        refine r_do 2 (by kernel_rfl) (ar_loadA (K := (kBool 4)) (T := 4) (x := (Operand.tmp 10)) (b := b1030) (off := 0) (xs := a0) (iv := x1091) false (.bool (rd false a0 x1091)) (by kernel_rfl) (by kernel_rfl) hb1092 h1100 (by rw [h1101]; exact h1099) (by kernel_rfl) ?_) 
        refine r_fin 3 (by kernel_rfl) ?_
        refine q_then ?_
        refine w_cond (p := [1, 1, 0, 1, 0, 0, 1, 0, 0, 1]) (p0 := [1, 1, 0, 1, 0, 0, 1, 0, 0, 1, 0]) (p1 := [1, 1, 0, 1, 0, 0, 1, 0, 0, 1, 1]) (c := (Operand.tmp 11)) (b := (rd false a0 x1091)) (by kernel_rfl) (by kernel_rfl) ?_ ?_
        · intro h_
          have h1102 : (rd false a0 x1091) = true := h_
          clear h_
          rw [if_pos h1102] at H
          refine p_split (0 ≤ (W (Int.tdiv x1091 64))) (fun h1103 => ?_) (fun h1103 => ?_)
          · rw [if_pos h1103] at H
            refine p_split ((W (Int.tdiv x1091 64)) < 4) (fun h1104 => ?_) (fun h1104 => ?_)
            · rw [if_pos h1104] at H
              refine p_split (0 ≤ (Int.tmod x1091 64)) (fun h1105 => ?_) (fun h1105 => ?_)
              · rw [if_pos h1105] at H
                refine w_drawk (p := [1, 1, 0, 1, 0, 0, 1, 0, 0, 1, 0]) (id := 6) (by kernel_rfl) (by kernel_rfl) [0, 1, 0, 4, 12, 28, 0, 64, 192, 508, 1023, 2047] 11 (by kernel_rfl) (J := (fun _ w_ => Kp No w1089 w_)) (fun w_ h1 h2 h3 h4 => Kp.same h1 h2 h3 h4) ?_
                refine k_pure 4 [.int .i64 x1091, .int .i64 (W (Int.tdiv x1091 64)), .int .i64 x1091, .int .i64 (W (Int.tdiv x1091 64))] (by kernel_rfl) (fun _ => by kernel_rfl) (fun _ _ _ _ _ h => h) ?_
                refine k_op (.pointer (some ⟨b1046, 0 + (W (Int.tdiv x1091 64)).toNat * 1, none⟩)) (by kernel_rfl) (fun b_ w_ hJ hb_ hd_ he_ => og_indexA (T := 37) (n := 4) (e := 35) (sz := 1) (b := b1046) (off := 0) (x := (Operand.tmp 3)) (y := (Operand.tmp 15)) (k := .i64) (iv := (W (Int.tdiv x1091 64))) (by kernel_rfl) (by kernel_rfl) (by kernel_rfl) (by kernel_rfl) h1103 h1104 ⟨rfl, hJ⟩) ?_
                refine k_op (.int .u64 (rd 0 [x1094, x1095, x1096, x1097] (W (Int.tdiv x1091 64)))) (by kernel_rfl) (fun b_ w_ hJ hb_ hd_ he_ => og_loadA (K := (kInt .u64 35)) (T := 35) (x := (Operand.tmp 16)) (b := b1046) (base := 0) (off := 0) (xs := [x1094, x1095, x1096, x1097]) (iv := (W (Int.tdiv x1091 64))) 0 (.int .u64 (rd 0 [x1094, x1095, x1096, x1097] (W (Int.tdiv x1091 64)))) (by kernel_rfl) (by kernel_rfl) (Blk.kp hb1098 hJ id) (by kernel_rfl) h1103 h1104 (by kernel_rfl) ⟨rfl, hJ⟩) ?_
                refine k_pure 8 [.int .i64 x1091, .int .i64 (Int.tmod x1091 64)] (by kernel_rfl) (fun _ => by kernel_rfl) (fun _ _ _ _ _ h => h) ?_
                refine k_op (.int .u64 (shv .shl .u64 1 (Int.tmod x1091 64))) (by kernel_rfl) (fun b_ w_ hJ hb_ hd_ he_ => og_shift (op := .shl) (T := 35) (U := 3) (x := (Operand.const (Value.int IntKind.u64 1))) (y := (Operand.tmp 19)) (k := .u64) (k' := .i64) (a := 1) (b := (Int.tmod x1091 64)) (by simp) (by kernel_rfl) (by kernel_rfl) (by kernel_rfl) h1105 ⟨rfl, hJ⟩) ?_
                refine k_pure 10 [.int .u64 (bits .or .u64 (rd 0 [x1094, x1095, x1096, x1097] (W (Int.tdiv x1091 64))) (shv .shl .u64 1 (Int.tmod x1091 64)))] (by kernel_rfl) (fun _ => by kernel_rfl) (fun _ _ _ _ _ h => h) ?_
                refine k_op (.pointer (some ⟨b1046, 0 + (W (Int.tdiv x1091 64)).toNat * 1, none⟩)) (by kernel_rfl) (fun b_ w_ hJ hb_ hd_ he_ => og_indexA (T := 37) (n := 4) (e := 35) (sz := 1) (b := b1046) (off := 0) (x := (Operand.tmp 3)) (y := (Operand.tmp 13)) (k := .i64) (iv := (W (Int.tdiv x1091 64))) (by kernel_rfl) (by kernel_rfl) (by kernel_rfl) (by kernel_rfl) h1103 h1104 ⟨rfl, hJ⟩) ?_
                refine k_nil ?_
                rintro b_ w1106 hall_ k_
                have k1107 := k_
                have k1108 := Kp.trans k1090 k1107 (fun _ h => h.elim)
                have hb1109 := Blk.kp hb1092 k1107 id
                have hb1110 := Blk.kp hb1093 k1107 id
                have hb1111 := Blk.kp hb1098 k1107 id
                refine r_do 11 (by kernel_rfl) (ar_storeS (K := (kInt .u64 35)) (T := 35) (b := b1046) (off := 0) (n := 4) (x := (Operand.tmp 22)) (y := (Operand.tmp 21)) (xs := [x1094, x1095, x1096, x1097]) (iv := (W (Int.tdiv x1091 64))) (cs' := #[.int .u64 (rd 0 (stored [x1094, x1095, x1096, x1097] (W (Int.tdiv x1091 64)) (bits .or .u64 (rd 0 [x1094, x1095, x1096, x1097] (W (Int.tdiv x1091 64))) (shv .shl .u64 1 (Int.tmod x1091 64)))) 0), .int .u64 (rd 0 (stored [x1094, x1095, x1096, x1097] (W (Int.tdiv x1091 64)) (bits .or .u64 (rd 0 [x1094, x1095, x1096, x1097] (W (Int.tdiv x1091 64))) (shv .shl .u64 1 (Int.tmod x1091 64)))) 1), .int .u64 (rd 0 (stored [x1094, x1095, x1096, x1097] (W (Int.tdiv x1091 64)) (bits .or .u64 (rd 0 [x1094, x1095, x1096, x1097] (W (Int.tdiv x1091 64))) (shv .shl .u64 1 (Int.tmod x1091 64)))) 2), .int .u64 (rd 0 (stored [x1094, x1095, x1096, x1097] (W (Int.tdiv x1091 64)) (bits .or .u64 (rd 0 [x1094, x1095, x1096, x1097] (W (Int.tdiv x1091 64))) (shv .shl .u64 1 (Int.tmod x1091 64)))) 3)]) 0 (bits .or .u64 (rd 0 [x1094, x1095, x1096, x1097] (W (Int.tdiv x1091 64))) (shv .shl .u64 1 (Int.tmod x1091 64))) (.int .u64 (bits .or .u64 (rd 0 [x1094, x1095, x1096, x1097] (W (Int.tdiv x1091 64))) (shv .shl .u64 1 (Int.tmod x1091 64)))) (by kernel_rfl) (by kernel_rfl) (by kernel_rfl) hb1111 (by kernel_rfl) (by kernel_rfl) h1103 h1104 (by kernel_rfl) (by kernel_rfl) ?_) 
                intro w1113 hb1112 k1114
                have k1115 := Kp.trans k1108 k1114 (fun x hx => .inr (by rw [show x = _ from hx]; exact ghb1098))
                have hb1116 := Blk.kp hb1109 k1114 (show ¬ (b1030 = b1046) from nhb1092hb1098)
                have hb1117 := Blk.kp hb1110 k1114 (show ¬ (b1037 = b1046) from nhb1093hb1098)
                refine r_fin 12 (by kernel_rfl) ?_
                refine q_in ?_
                refine q_into (dowelref03_Close.j1F b1030 b1037 b1046 x1091) (by kernel_rfl) (fun u_ => ?_)
                exact dowelref03_Close.j1.ok K a0 w r b1030 b1037 b1046 x1091 next0 brk0_0 HR HN0 HX0_0 (rd 0 (stored [x1094, x1095, x1096, x1097] (W (Int.tdiv x1091 64)) (bits .or .u64 (rd 0 [x1094, x1095, x1096, x1097] (W (Int.tdiv x1091 64))) (shv .shl .u64 1 (Int.tmod x1091 64)))) 0) (rd 0 (stored [x1094, x1095, x1096, x1097] (W (Int.tdiv x1091 64)) (bits .or .u64 (rd 0 [x1094, x1095, x1096, x1097] (W (Int.tdiv x1091 64))) (shv .shl .u64 1 (Int.tmod x1091 64)))) 1) (rd 0 (stored [x1094, x1095, x1096, x1097] (W (Int.tdiv x1091 64)) (bits .or .u64 (rd 0 [x1094, x1095, x1096, x1097] (W (Int.tdiv x1091 64))) (shv .shl .u64 1 (Int.tmod x1091 64)))) 2) (rd 0 (stored [x1094, x1095, x1096, x1097] (W (Int.tdiv x1091 64)) (bits .or .u64 (rd 0 [x1094, x1095, x1096, x1097] (W (Int.tdiv x1091 64))) (shv .shl .u64 1 (Int.tmod x1091 64)))) 3) u_ w1113 k1115 hb1116 hb1117 hb1112 ghb1092 ghb1093 ghb1098 nhb1092hb1093 nhb1092hb1098 nhb1093hb1098 H
              · rw [if_neg h1105] at H
                cases H
            · rw [if_neg h1104] at H
              cases H
          · rw [if_neg h1103] at H
            cases H
        · intro h_
          have h1102 : ¬ ((rd false a0 x1091) = true) := by rw [h_]; decide
          clear h_
          rw [if_neg h1102] at H
          refine w_skip (p := [1, 1, 0, 1, 0, 0, 1, 0, 0, 1, 1]) (by kernel_rfl) ?_
          refine q_in ?_
          refine q_into (dowelref03_Close.j1F b1030 b1037 b1046 x1091) (by kernel_rfl) (fun u_ => ?_)
          exact dowelref03_Close.j1.ok K a0 w r b1030 b1037 b1046 x1091 next0 brk0_0 HR HN0 HX0_0 x1094 x1095 x1096 x1097 u_ w1089 k1090 hb1092 hb1093 hb1098 ghb1092 ghb1093 ghb1098 nhb1092hb1093 nhb1092hb1098 nhb1093hb1098 H
      · rw [if_neg h1101] at H
        cases H
    · rw [if_neg h1100] at H
      cases H
  · intro h_
    have h1099 : ¬ (x1091 < 256) := by simpa using h_
    clear h_
    rw [if_neg h1099] at H
    refine w_exit (p := [1, 1, 0, 1, 0, 0, 0, 1, 1]) (id := 0) (by kernel_rfl) ?_
    refine q_then_x ?_
    refine q_into (dowelref03_Close.F0_0 b1037 b1046) (by kernel_rfl) (fun u_ => ?_)
    exact HX0_0 x1094 x1095 x1096 x1097 u_ w1089 k1090 hb1093 hb1098 ghb1093 ghb1098 nhb1093hb1098 H
set_option maxRecDepth 20000 in
set_option maxHeartbeats 4000000 in
theorem dowelref03_Close.l0.ok (K : Nat) (a0 : List Bool) (w : World) (r : Tapi_Class) (b1030 : Nat) (b1037 : Nat) (b1046 : Nat) {Q : Exit → Act → World → Prop} (HR : ∀ a w', bodyPost Try.prog Try.f103 (dowelref03_Close.R r w) .ret a w' → Q .ret a w') {brk0_0 : Int → Int → Int → Int → Option (Tapi_Class)} (HX0_0 : ∀ (y1132q : Int) (y1133q : Int) (y1134q : Int) (y1135q : Int) (u1130q : Nat → Value) (w1128q : World) (k1129q : Kp No w w1128q) (hb1131q : Blk w1128q b1037 #[.int .u64 0, .int .u64 0, .int .u64 0, .int .u64 0] 37) (hb1136q : Blk w1128q b1046 #[.int .u64 y1132q, .int .u64 y1133q, .int .u64 y1134q, .int .u64 y1135q] 37) (ghb1131q : w.heap.size ≤ b1037) (ghb1136q : w.heap.size ≤ b1046) (nhb1131hb1136q : b1037 ≠ b1046), brk0_0 y1132q y1133q y1134q y1135q = some r → Q (.exit 0) ⟨dowelref03_Close.F0_0 b1037 b1046 u1130q, []⟩ w1128q) : ∀ (n_ : Nat) (x1091 : Int) (x1094 : Int) (x1095 : Int) (x1096 : Int) (x1097 : Int) (u1088 : Nat → Value) (w1089 : World) (k1090 : Kp No w w1089) (hb1092 : Blk w1089 b1030 ((kBool 4).cells a0).toArray 108) (hb1093 : Blk w1089 b1037 #[.int .u64 0, .int .u64 0, .int .u64 0, .int .u64 0] 37) (hb1098 : Blk w1089 b1046 #[.int .u64 x1094, .int .u64 x1095, .int .u64 x1096, .int .u64 x1097] 37) (ghb1092 : w.heap.size ≤ b1030) (ghb1093 : w.heap.size ≤ b1037) (ghb1098 : w.heap.size ≤ b1046) (nhb1092hb1093 : b1030 ≠ b1037) (nhb1092hb1098 : b1030 ≠ b1046) (nhb1093hb1098 : b1037 ≠ b1046) (H : dowelref03_Close.l0 a0 brk0_0 n_ x1091 x1094 x1095 x1096 x1097 = some r), Code.rounds Try.prog (cd Try.f103 [1, 1, 0, 1, 0, 0]) Q n_ ⟨dowelref03_Close.F0 b1030 b1037 b1046 x1091 u1088, []⟩ w1089
  | 0, _, _, _, _, _, _, _, _, _, _, _, _, _, _, _, _, _, H => by cases H
  | n_ + 1, x1091, x1094, x1095, x1096, x1097, u1088, w1089, k1090, hb1092, hb1093, hb1098, ghb1092, ghb1093, ghb1098, nhb1092hb1093, nhb1092hb1098, nhb1093hb1098, H =>
    dowelref03_Close.b0.ok K a0 w r b1030 b1037 b1046 (Q := Exit.then (Code.rounds Try.prog (cd Try.f103 [1, 1, 0, 1, 0, 0]) Q n_) Q) (fun a w' h_ => q_then_r (HR a w' h_)) (fun x0_ x1_ x2_ x3_ x4_ x5_ x6_ x7_ x8_ x9_ x10_ x11_ x12_ x13_ x14_ x15_ x16_ h_ => dowelref03_Close.l0.ok K a0 w r b1030 b1037 b1046 HR HX0_0 n_ x0_ x1_ x2_ x3_ x4_ x5_ x6_ x7_ x8_ x9_ x10_ x11_ x12_ x13_ x14_ x15_ x16_ h_) (fun x0_ x1_ x2_ x3_ x4_ x5_ x6_ x7_ x8_ x9_ x10_ x11_ h_ => q_then_x (HX0_0 x0_ x1_ x2_ x3_ x4_ x5_ x6_ x7_ x8_ x9_ x10_ x11_ h_)) x1091 x1094 x1095 x1096 x1097 u1088 w1089 k1090 hb1092 hb1093 hb1098 ghb1092 ghb1093 ghb1098 nhb1092hb1093 nhb1092hb1098 nhb1093hb1098 H
set_option maxRecDepth 20000 in
set_option maxHeartbeats 4000000 in
theorem dowelref03_Close.ok (K : Nat) (a0 : List Bool) (w : World)  (r : Tapi_Class) (H : dowelref03_Close.f K a0 = some r) : Calls Try.prog 103 #[.agg ((kBool 4).cells a0).toArray] w (dowelref03_Close.R r w) := by
  refine calls_cd (t := #[.agg ((kBool 4).cells a0).toArray, undef, undef, undef, undef, undef, undef, undef, undef, undef, undef, undef, undef, undef, undef, undef, undef, undef, undef, undef, undef, undef, undef, undef]) Try.func103 (by kernel_rfl) (by kernel_rfl) ?_
  unfold dowelref03_Close.f at H
  have HR : ∀ a w', bodyPost Try.prog Try.f103 (dowelref03_Close.R r w) .ret a w' → bodyPost Try.prog Try.f103 (dowelref03_Close.R r w) .ret a w' := fun _ _ h => h
  refine w_seq (p := []) (p0 := [0]) (p1 := [1]) (by kernel_rfl) ?_
  refine w_region (p := [0]) (id := 0) (by kernel_rfl) ?_
  refine r_do 0 (by kernel_rfl) (og_box (T := 108) (x := (Operand.tmp 0)) (cs := ((kBool 4).cells a0).toArray) (by kernel_rfl) (by kernel_rfl) ?_) 
  intro b1030 w1027 e1031 hb1029 k1028
  have g1032 : w.heap.size ≤ b1030 := by rw [e1031]; exact Kp.size (Kp.refl No w)
  clear e1031
  have k1033 := Kp.trans (Kp.refl No w) k1028 (fun _ h => h.elim)
  refine r_do 1 (by kernel_rfl) (og_alloc (T := 37) (cs := #[.int .u64 0, .int .u64 0, .int .u64 0, .int .u64 0]) (by kernel_rfl) (by kernel_rfl) ?_) 
  intro b1037 w1034 e1038 hb1036 k1035
  have n1039 : b1030 ≠ b1037 := by rw [e1038]; exact Nat.ne_of_lt hb1029.lt
  have g1040 : w.heap.size ≤ b1037 := by rw [e1038]; exact Kp.size k1033
  clear e1038
  have k1041 := Kp.trans k1033 k1035 (fun _ h => h.elim)
  have hb1042 := Blk.kp hb1029 k1035 id
  refine r_fin 2 (by kernel_rfl) ?_
  refine q_then ?_
  refine w_seq (p := [1]) (p0 := [1, 0]) (p1 := [1, 1]) (by kernel_rfl) ?_
  refine w_region (p := [1, 0]) (id := 1) (by kernel_rfl) ?_
  refine r_do 0 (by kernel_rfl) (og_alloc (T := 37) (cs := #[.int .u64 0, .int .u64 0, .int .u64 0, .int .u64 0]) (by kernel_rfl) (by kernel_rfl) ?_) 
  intro b1046 w1043 e1047 hb1045 k1044
  have n1048 : b1030 ≠ b1046 := by rw [e1047]; exact Nat.ne_of_lt hb1042.lt
  have n1049 : b1037 ≠ b1046 := by rw [e1047]; exact Nat.ne_of_lt hb1036.lt
  have g1050 : w.heap.size ≤ b1046 := by rw [e1047]; exact Kp.size k1041
  clear e1047
  have k1051 := Kp.trans k1041 k1044 (fun _ h => h.elim)
  have hb1052 := Blk.kp hb1042 k1044 id
  have hb1053 := Blk.kp hb1036 k1044 id
  refine r_fin 1 (by kernel_rfl) ?_
  refine q_then ?_
  refine w_seq (p := [1, 1]) (p0 := [1, 1, 0]) (p1 := [1, 1, 1]) (by kernel_rfl) ?_
  refine w_seq (p := [1, 1, 0]) (p0 := [1, 1, 0, 0]) (p1 := [1, 1, 0, 1]) (by kernel_rfl) ?_
  refine w_region (p := [1, 1, 0, 0]) (id := 2) (by kernel_rfl) ?_
  refine r_vals 0 1 [.int .i64 0] (by kernel_rfl) (by kernel_rfl) ?_
  refine r_fin 1 (by kernel_rfl) ?_
  refine q_then ?_
  refine w_block (p := [1, 1, 0, 1]) (p0 := [1, 1, 0, 1, 0]) (id := 0) (by kernel_rfl) ?_
  refine w_into (dowelref03_Close.F0 b1030 b1037 b1046 0) (by kernel_rfl) (fun u_ => ?_)
  refine w_loop (p := [1, 1, 0, 1, 0]) (p0 := [1, 1, 0, 1, 0, 0]) K (by kernel_rfl) ?_
  refine dowelref03_Close.l0.ok K a0 w r b1030 b1037 b1046 (fun a w' h_ => q_in_r (q_then_r (HR a w' h_))) ?_ K 0 0 0 0 0 u_ w1043 k1051 hb1052 hb1053 hb1045 g1032 g1040 g1050 n1039 n1048 n1049 H
  intro y1132 y1133 y1134 y1135 u1130 w1128 k1129 hb1131 hb1136 ghb1131 ghb1136 nhb1131hb1136 H
  try dsimp only at H
  refine q_in_hit ?_
  refine q_then ?_
  refine w_seq (p := [1, 1, 1]) (p0 := [1, 1, 1, 0]) (p1 := [1, 1, 1, 1]) (by kernel_rfl) ?_
  refine w_region (p := [1, 1, 1, 0]) (id := 7) (by kernel_rfl) ?_
  refine r_do 0 (by kernel_rfl) (og_load (T := 37) (x := (Operand.tmp 3)) (b := b1046) (off := 0) (.agg #[.int .u64 y1132, .int .u64 y1133, .int .u64 y1134, .int .u64 y1135]) (by kernel_rfl) (by kernel_rfl) hb1136 (by kernel_rfl) ?_) 
  refine r_do 1 (by kernel_rfl) (og_store (T := 37) (x := (Operand.tmp 2)) (y := (Operand.tmp 23)) (b := b1037) (off := 0) (.agg #[.int .u64 y1132, .int .u64 y1133, .int .u64 y1134, .int .u64 y1135]) (by kernel_rfl) (by kernel_rfl) (by kernel_rfl) hb1131 (cs' := #[.int .u64 y1132, .int .u64 y1133, .int .u64 y1134, .int .u64 y1135]) (by kernel_rfl) ?_) 
  intro w1138 hb1137 k1139 _
  have k1140 := Kp.trans k1129 k1139 (fun x hx => .inr (by rw [show x = _ from hx]; exact ghb1131))
  have hb1141 := Blk.kp hb1136 k1139 (show ¬ (b1046 = b1037) from (Ne.symm nhb1131hb1136))
  refine r_fin 2 (by kernel_rfl) ?_
  refine q_then ?_
  refine w_ret (p := [1, 1, 1, 1]) (by kernel_rfl) ?_
  obtain rfl := Option.some.inj H
  refine HR _ _ (body_ret (vs := [.agg #[.int .u64 y1132, .int .u64 y1133, .int .u64 y1134, .int .u64 y1135]]) (rv_cell (off := 0) (v := .agg #[.int .u64 y1132, .int .u64 y1133, .int .u64 y1134, .int .u64 y1135]) (by kernel_rfl) hb1137 (by kernel_rfl) rfl) rfl ?_)
  exact ⟨rfl, k1140⟩
/-! ### dowel/dowelref03.Not -/
def dowelref03_Not.F0 (b1152 : Nat) (b1168 : Nat) (x1199 : Int) (u_ : Nat → Value) : Array Value := #[u_ 0, u_ 1, .pointer (some ⟨b1152, 0, none⟩), .pointer (some ⟨b1168, 0, none⟩), .int .i64 x1199, u_ 5, u_ 6, u_ 7, u_ 8, u_ 9, u_ 10, u_ 11, u_ 12, u_ 13, u_ 14, u_ 15, u_ 16, u_ 17, u_ 18]
def dowelref03_Not.F0_0 (b1152 : Nat) (b1168 : Nat) (u_ : Nat → Value) : Array Value := #[u_ 0, u_ 1, .pointer (some ⟨b1152, 0, none⟩), .pointer (some ⟨b1168, 0, none⟩), u_ 4, u_ 5, u_ 6, u_ 7, u_ 8, u_ 9, u_ 10, u_ 11, u_ 12, u_ 13, u_ 14, u_ 15, u_ 16, u_ 17, u_ 18]
def dowelref03_Not.b0  (next0 : Int → List Bool → Option (Tapi_Class)) (brk0_0 : List Bool → Option (Tapi_Class)) (x1199 : Int) (x1201 : List Bool) : Option (Tapi_Class) := if x1199 < 256 then (if 0 ≤ x1199 then (if x1201.length = 256 then (next0 (W (x1199 + 1)) (stored x1201 x1199 (!(rd false x1201 x1199)))) else none) else none) else (brk0_0 x1201)
def dowelref03_Not.l0  (brk0_0 : List Bool → Option (Tapi_Class)) : Nat → Int → List Bool → Option (Tapi_Class)
  | 0, _, _ => none
  | n_ + 1, x1199, x1201 => dowelref03_Not.b0  (dowelref03_Not.l0  brk0_0 n_) brk0_0 x1199 x1201
def dowelref03_Not.f (K : Nat) (a0 : Tapi_Class) : Option (Tapi_Class) := (dowelref03_Open.f K a0).bind fun t1158 => (if (List.replicate 256 false).length = 256 then (if t1158.length = 256 then (dowelref03_Not.l0 (fun y1215 => if y1215.length = 256 then ((dowelref03_Close.f K y1215).bind fun t1218 => (some t1218)) else none) K 0 t1158) else none) else none)
def dowelref03_Not.R (r : Tapi_Class) (w : World) : Ending → World → Prop := fun e w' => e = .returned (.agg #[.int .u64 r.f0, .int .u64 r.f1, .int .u64 r.f2, .int .u64 r.f3]) ∧ Kp No w w'
set_option maxRecDepth 20000 in
set_option maxHeartbeats 4000000 in
theorem dowelref03_Not.b0.ok (K : Nat) (a0 : Tapi_Class) (w : World) (r : Tapi_Class) (b1152 : Nat) (b1168 : Nat) {Q : Exit → Act → World → Prop} (HR : ∀ a w', bodyPost Try.prog Try.f63 (dowelref03_Not.R r w) .ret a w' → Q .ret a w') {next0 : Int → List Bool → Option (Tapi_Class)} {brk0_0 : List Bool → Option (Tapi_Class)} (HN0 : ∀ (x1199q : Int) (x1201q : List Bool) (u1196q : Nat → Value) (w1197q : World) (k1198q : Kp No w w1197q) (hb1200q : Blk w1197q b1152 #[.int .u64 0, .int .u64 0, .int .u64 0, .int .u64 0] 37) (hb1202q : Blk w1197q b1168 ((kBool 4).cells x1201q).toArray 108) (ghb1200q : w.heap.size ≤ b1152) (ghb1202q : w.heap.size ≤ b1168) (nhb1200hb1202q : b1152 ≠ b1168), next0 x1199q x1201q = some r → Q .normal ⟨dowelref03_Not.F0 b1152 b1168 x1199q u1196q, []⟩ w1197q) (HX0_0 : ∀ (y1215q : List Bool) (u1213q : Nat → Value) (w1211q : World) (k1212q : Kp No w w1211q) (hb1214q : Blk w1211q b1152 #[.int .u64 0, .int .u64 0, .int .u64 0, .int .u64 0] 37) (hb1216q : Blk w1211q b1168 ((kBool 4).cells y1215q).toArray 108) (ghb1214q : w.heap.size ≤ b1152) (ghb1216q : w.heap.size ≤ b1168) (nhb1214hb1216q : b1152 ≠ b1168), brk0_0 y1215q = some r → Q (.exit 0) ⟨dowelref03_Not.F0_0 b1152 b1168 u1213q, []⟩ w1211q) (x1199 : Int) (x1201 : List Bool) (u1196 : Nat → Value) (w1197 : World) (k1198 : Kp No w w1197) (hb1200 : Blk w1197 b1152 #[.int .u64 0, .int .u64 0, .int .u64 0, .int .u64 0] 37) (hb1202 : Blk w1197 b1168 ((kBool 4).cells x1201).toArray 108) (ghb1200 : w.heap.size ≤ b1152) (ghb1202 : w.heap.size ≤ b1168) (nhb1200hb1202 : b1152 ≠ b1168) (H : dowelref03_Not.b0  next0 brk0_0 x1199 x1201 = some r) : (cd Try.f63 [1, 1, 0, 1, 0, 0]).wp Try.prog Q ⟨dowelref03_Not.F0 b1152 b1168 x1199 u1196, []⟩ w1197 := by
  unfold dowelref03_Not.b0 at H
  refine w_seq (p := [1, 1, 0, 1, 0, 0]) (p0 := [1, 1, 0, 1, 0, 0, 0]) (p1 := [1, 1, 0, 1, 0, 0, 1]) (by kernel_rfl) ?_
  refine w_seq (p := [1, 1, 0, 1, 0, 0, 0]) (p0 := [1, 1, 0, 1, 0, 0, 0, 0]) (p1 := [1, 1, 0, 1, 0, 0, 0, 1]) (by kernel_rfl) ?_
  refine w_region (p := [1, 1, 0, 1, 0, 0, 0, 0]) (id := 3) (by kernel_rfl) ?_
  refine r_vals 0 2 [.int .i64 x1199, .bool (decide (x1199 < 256))] (by kernel_rfl) (by kernel_rfl) ?_
  refine r_fin 2 (by kernel_rfl) ?_
  refine q_then ?_
  refine w_cond (p := [1, 1, 0, 1, 0, 0, 0, 1]) (p0 := [1, 1, 0, 1, 0, 0, 0, 1, 0]) (p1 := [1, 1, 0, 1, 0, 0, 0, 1, 1]) (c := (Operand.tmp 8)) (b := decide (x1199 < 256)) (by kernel_rfl) (by kernel_rfl) ?_ ?_
  · intro h_
    have h1203 : x1199 < 256 := by simpa using h_
    clear h_
    rw [if_pos h1203] at H
    refine w_skip (p := [1, 1, 0, 1, 0, 0, 0, 1, 0]) (by kernel_rfl) ?_
    refine q_then ?_
    refine w_seq (p := [1, 1, 0, 1, 0, 0, 1]) (p0 := [1, 1, 0, 1, 0, 0, 1, 0]) (p1 := [1, 1, 0, 1, 0, 0, 1, 1]) (by kernel_rfl) ?_
    refine w_block (p := [1, 1, 0, 1, 0, 0, 1, 0]) (p0 := [1, 1, 0, 1, 0, 0, 1, 0, 0]) (id := 1) (by kernel_rfl) ?_
    refine w_region (p := [1, 1, 0, 1, 0, 0, 1, 0, 0]) (id := 5) (by kernel_rfl) ?_
    refine r_vals 0 2 [.int .i64 x1199, .int .i64 x1199] (by kernel_rfl) (by kernel_rfl) ?_
    refine p_split (0 ≤ x1199) (fun h1204 => ?_) (fun h1204 => ?_)
    · rw [if_pos h1204] at H
      refine r_do 2 (by kernel_rfl) (og_indexA (T := 108) (n := 256) (e := 4) (sz := 1) (b := b1168) (off := 0) (iv := x1199) (x := (Operand.tmp 3)) (y := (Operand.tmp 12)) (k := .i64) (by kernel_rfl) (by kernel_rfl) (by kernel_rfl) (by kernel_rfl) h1204 h1203 ?_) 
      refine p_split (x1201.length = 256) (fun h1205 => ?_) (fun h1205 => ?_)
      · rw [if_pos h1205] at H
        refine r_do 3 (by kernel_rfl) (ar_loadA (K := (kBool 4)) (T := 4) (x := (Operand.tmp 13)) (b := b1168) (off := 0) (xs := x1201) (iv := x1199) false (.bool (rd false x1201 x1199)) (by kernel_rfl) (by kernel_rfl) hb1202 h1204 (by rw [h1205]; exact h1203) (by kernel_rfl) ?_) 
        refine r_vals 4 5 [.bool (!(rd false x1201 x1199))] (by kernel_rfl) (by kernel_rfl) ?_
        refine r_do 5 (by kernel_rfl) (og_indexA (T := 108) (n := 256) (e := 4) (sz := 1) (b := b1168) (off := 0) (iv := x1199) (x := (Operand.tmp 3)) (y := (Operand.tmp 11)) (k := .i64) (by kernel_rfl) (by kernel_rfl) (by kernel_rfl) (by kernel_rfl) h1204 h1203 ?_) 
        refine r_do 6 (by kernel_rfl) (ar_storeA (K := (kBool 4)) (T := 4) (x := (Operand.tmp 16)) (y := (Operand.tmp 15)) (b := b1168) (off := 0) (xs := x1201) (iv := x1199) false (!(rd false x1201 x1199)) (.bool (!(rd false x1201 x1199))) (by kernel_rfl) (by kernel_rfl) (by kernel_rfl) hb1202 h1204 (by rw [h1205]; exact h1203) (by kernel_rfl) ?_) 
        intro w1207 hb1206 k1208
        have k1209 := Kp.trans k1198 k1208 (fun x hx => .inr (by rw [show x = _ from hx]; exact ghb1202))
        have hb1210 := Blk.kp hb1200 k1208 (show ¬ (b1152 = b1168) from nhb1200hb1202)
        refine r_fin 7 (by kernel_rfl) ?_
        refine q_in ?_
        refine q_then ?_
        refine w_region (p := [1, 1, 0, 1, 0, 0, 1, 1]) (id := 4) (by kernel_rfl) ?_
        refine r_vals 0 3 [.int .i64 x1199, .int .i64 (W (x1199 + 1)), .int .i64 (W (x1199 + 1))] (by kernel_rfl) (by kernel_rfl) ?_
        refine r_fin 3 (by kernel_rfl) ?_
        refine q_into (dowelref03_Not.F0 b1152 b1168 (W (x1199 + 1))) (by kernel_rfl) (fun u_ => ?_)
        exact HN0 (W (x1199 + 1)) (stored x1201 x1199 (!(rd false x1201 x1199))) u_ w1207 k1209 hb1210 hb1206 ghb1200 ghb1202 nhb1200hb1202 H
      · rw [if_neg h1205] at H
        cases H
    · rw [if_neg h1204] at H
      cases H
  · intro h_
    have h1203 : ¬ (x1199 < 256) := by simpa using h_
    clear h_
    rw [if_neg h1203] at H
    refine w_exit (p := [1, 1, 0, 1, 0, 0, 0, 1, 1]) (id := 0) (by kernel_rfl) ?_
    refine q_then_x ?_
    refine q_into (dowelref03_Not.F0_0 b1152 b1168) (by kernel_rfl) (fun u_ => ?_)
    exact HX0_0 x1201 u_ w1197 k1198 hb1200 hb1202 ghb1200 ghb1202 nhb1200hb1202 H
set_option maxRecDepth 20000 in
set_option maxHeartbeats 4000000 in
theorem dowelref03_Not.l0.ok (K : Nat) (a0 : Tapi_Class) (w : World) (r : Tapi_Class) (b1152 : Nat) (b1168 : Nat) {Q : Exit → Act → World → Prop} (HR : ∀ a w', bodyPost Try.prog Try.f63 (dowelref03_Not.R r w) .ret a w' → Q .ret a w') {brk0_0 : List Bool → Option (Tapi_Class)} (HX0_0 : ∀ (y1215q : List Bool) (u1213q : Nat → Value) (w1211q : World) (k1212q : Kp No w w1211q) (hb1214q : Blk w1211q b1152 #[.int .u64 0, .int .u64 0, .int .u64 0, .int .u64 0] 37) (hb1216q : Blk w1211q b1168 ((kBool 4).cells y1215q).toArray 108) (ghb1214q : w.heap.size ≤ b1152) (ghb1216q : w.heap.size ≤ b1168) (nhb1214hb1216q : b1152 ≠ b1168), brk0_0 y1215q = some r → Q (.exit 0) ⟨dowelref03_Not.F0_0 b1152 b1168 u1213q, []⟩ w1211q) : ∀ (n_ : Nat) (x1199 : Int) (x1201 : List Bool) (u1196 : Nat → Value) (w1197 : World) (k1198 : Kp No w w1197) (hb1200 : Blk w1197 b1152 #[.int .u64 0, .int .u64 0, .int .u64 0, .int .u64 0] 37) (hb1202 : Blk w1197 b1168 ((kBool 4).cells x1201).toArray 108) (ghb1200 : w.heap.size ≤ b1152) (ghb1202 : w.heap.size ≤ b1168) (nhb1200hb1202 : b1152 ≠ b1168) (H : dowelref03_Not.l0  brk0_0 n_ x1199 x1201 = some r), Code.rounds Try.prog (cd Try.f63 [1, 1, 0, 1, 0, 0]) Q n_ ⟨dowelref03_Not.F0 b1152 b1168 x1199 u1196, []⟩ w1197
  | 0, _, _, _, _, _, _, _, _, _, _, H => by cases H
  | n_ + 1, x1199, x1201, u1196, w1197, k1198, hb1200, hb1202, ghb1200, ghb1202, nhb1200hb1202, H =>
    dowelref03_Not.b0.ok K a0 w r b1152 b1168 (Q := Exit.then (Code.rounds Try.prog (cd Try.f63 [1, 1, 0, 1, 0, 0]) Q n_) Q) (fun a w' h_ => q_then_r (HR a w' h_)) (fun x0_ x1_ x2_ x3_ x4_ x5_ x6_ x7_ x8_ x9_ h_ => dowelref03_Not.l0.ok K a0 w r b1152 b1168 HR HX0_0 n_ x0_ x1_ x2_ x3_ x4_ x5_ x6_ x7_ x8_ x9_ h_) (fun x0_ x1_ x2_ x3_ x4_ x5_ x6_ x7_ x8_ h_ => q_then_x (HX0_0 x0_ x1_ x2_ x3_ x4_ x5_ x6_ x7_ x8_ h_)) x1199 x1201 u1196 w1197 k1198 hb1200 hb1202 ghb1200 ghb1202 nhb1200hb1202 H
set_option maxRecDepth 20000 in
set_option maxHeartbeats 4000000 in
theorem dowelref03_Not.ok (K : Nat) (a0 : Tapi_Class) (w : World)  (r : Tapi_Class) (H : dowelref03_Not.f K a0 = some r) : Calls Try.prog 63 #[.agg #[.int .u64 a0.f0, .int .u64 a0.f1, .int .u64 a0.f2, .int .u64 a0.f3]] w (dowelref03_Not.R r w) := by
  refine calls_cd (t := #[.agg #[.int .u64 a0.f0, .int .u64 a0.f1, .int .u64 a0.f2, .int .u64 a0.f3], undef, undef, undef, undef, undef, undef, undef, undef, undef, undef, undef, undef, undef, undef, undef, undef, undef, undef]) Try.func63 (by kernel_rfl) (by kernel_rfl) ?_
  unfold dowelref03_Not.f at H
  have HR : ∀ a w', bodyPost Try.prog Try.f63 (dowelref03_Not.R r w) .ret a w' → bodyPost Try.prog Try.f63 (dowelref03_Not.R r w) .ret a w' := fun _ _ h => h
  refine w_seq (p := []) (p0 := [0]) (p1 := [1]) (by kernel_rfl) ?_
  refine w_region (p := [0]) (id := 0) (by kernel_rfl) ?_
  refine r_do 0 (by kernel_rfl) (og_box (T := 37) (x := (Operand.tmp 0)) (cs := #[.int .u64 a0.f0, .int .u64 a0.f1, .int .u64 a0.f2, .int .u64 a0.f3]) (by kernel_rfl) (by kernel_rfl) ?_) 
  intro b1145 w1142 e1146 hb1144 k1143
  have g1147 : w.heap.size ≤ b1145 := by rw [e1146]; exact Kp.size (Kp.refl No w)
  clear e1146
  have k1148 := Kp.trans (Kp.refl No w) k1143 (fun _ h => h.elim)
  refine r_do 1 (by kernel_rfl) (og_alloc (T := 37) (cs := #[.int .u64 0, .int .u64 0, .int .u64 0, .int .u64 0]) (by kernel_rfl) (by kernel_rfl) ?_) 
  intro b1152 w1149 e1153 hb1151 k1150
  have n1154 : b1145 ≠ b1152 := by rw [e1153]; exact Nat.ne_of_lt hb1144.lt
  have g1155 : w.heap.size ≤ b1152 := by rw [e1153]; exact Kp.size k1148
  clear e1153
  have k1156 := Kp.trans k1148 k1150 (fun _ h => h.elim)
  have hb1157 := Blk.kp hb1144 k1150 id
  refine r_fin 2 (by kernel_rfl) ?_
  refine q_then ?_
  refine w_seq (p := [1]) (p0 := [1, 0]) (p1 := [1, 1]) (by kernel_rfl) ?_
  refine w_region (p := [1, 0]) (id := 1) (by kernel_rfl) ?_
  refine r_do 0 (by kernel_rfl) (og_load (T := 37) (x := (Operand.tmp 1)) (b := b1145) (off := 0) (.agg #[.int .u64 a0.f0, .int .u64 a0.f1, .int .u64 a0.f2, .int .u64 a0.f3]) (by kernel_rfl) (by kernel_rfl) hb1157 (by kernel_rfl) ?_) 
  obtain ⟨t1158, ht1159, H⟩ := Option.bind_eq_some_iff.1 H
  refine r_do 1 (by kernel_rfl) (og_call (g := 59) (av := #[.agg #[.int .u64 a0.f0, .int .u64 a0.f1, .int .u64 a0.f2, .int .u64 a0.f3]]) (by kernel_rfl) ?_) 
  refine (dowelref03_Open.ok K a0 w1149 t1158 ht1159).mono ?_
  rintro e w1160 ⟨rfl, k1161⟩
  refine ⟨_, rfl, ?_⟩
  have k1162 := Kp.trans k1156 k1161 (fun _ h => h.elim)
  have hb1163 := Blk.kp hb1157 k1161 id
  have hb1164 := Blk.kp hb1151 k1161 id
  refine r_do 2 (by kernel_rfl) (og_alloc (T := 108) (cs := ((kBool 4).cells (List.replicate 256 false)).toArray) (by kernel_rfl) (by kernel_rfl) ?_) 
  intro b1168 w1165 e1169 hb1167 k1166
  have n1170 : b1145 ≠ b1168 := by rw [e1169]; exact Nat.ne_of_lt hb1163.lt
  have n1171 : b1152 ≠ b1168 := by rw [e1169]; exact Nat.ne_of_lt hb1164.lt
  have g1172 : w.heap.size ≤ b1168 := by rw [e1169]; exact Kp.size k1162
  clear e1169
  have k1173 := Kp.trans k1162 k1166 (fun _ h => h.elim)
  have hb1174 := Blk.kp hb1163 k1166 id
  have hb1175 := Blk.kp hb1164 k1166 id
  refine p_split ((List.replicate 256 false).length = 256) (fun h1176 => ?_) (fun h1176 => ?_)
  · rw [if_pos h1176] at H
    refine p_split (t1158.length = 256) (fun h1177 => ?_) (fun h1177 => ?_)
    · rw [if_pos h1177] at H
      refine r_do 3 (by kernel_rfl) (bg_store (K := (kBool 4)) (T := 108) (n := 256) (e := 4) (x := (Operand.tmp 3)) (y := (Operand.tmp 6)) (b := b1168) (xs := (List.replicate 256 false)) (ys := t1158) (by kernel_rfl) (by kernel_rfl) (by kernel_rfl) (by kernel_rfl) hb1167 h1176 h1177 ?_) 
      intro w1179 hb1178 k1180
      have k1181 := Kp.trans k1173 k1180 (fun x hx => .inr (by rw [show x = _ from hx]; exact g1172))
      have hb1182 := Blk.kp hb1174 k1180 (show ¬ (b1145 = b1168) from n1170)
      have hb1183 := Blk.kp hb1175 k1180 (show ¬ (b1152 = b1168) from n1171)
      refine r_fin 4 (by kernel_rfl) ?_
      refine q_then ?_
      refine w_seq (p := [1, 1]) (p0 := [1, 1, 0]) (p1 := [1, 1, 1]) (by kernel_rfl) ?_
      refine w_seq (p := [1, 1, 0]) (p0 := [1, 1, 0, 0]) (p1 := [1, 1, 0, 1]) (by kernel_rfl) ?_
      refine w_region (p := [1, 1, 0, 0]) (id := 2) (by kernel_rfl) ?_
      refine r_vals 0 1 [.int .i64 0] (by kernel_rfl) (by kernel_rfl) ?_
      refine r_fin 1 (by kernel_rfl) ?_
      refine q_then ?_
      refine w_block (p := [1, 1, 0, 1]) (p0 := [1, 1, 0, 1, 0]) (id := 0) (by kernel_rfl) ?_
      refine w_into (dowelref03_Not.F0 b1152 b1168 0) (by kernel_rfl) (fun u_ => ?_)
      refine w_loop (p := [1, 1, 0, 1, 0]) (p0 := [1, 1, 0, 1, 0, 0]) K (by kernel_rfl) ?_
      refine dowelref03_Not.l0.ok K a0 w r b1152 b1168 (fun a w' h_ => q_in_r (q_then_r (HR a w' h_))) ?_ K 0 t1158 u_ w1179 k1181 hb1183 hb1178 g1155 g1172 n1171 H
      intro y1215 u1213 w1211 k1212 hb1214 hb1216 ghb1214 ghb1216 nhb1214hb1216 H
      try dsimp only at H
      refine q_in_hit ?_
      refine q_then ?_
      refine w_seq (p := [1, 1, 1]) (p0 := [1, 1, 1, 0]) (p1 := [1, 1, 1, 1]) (by kernel_rfl) ?_
      refine w_region (p := [1, 1, 1, 0]) (id := 6) (by kernel_rfl) ?_
      refine p_split (y1215.length = 256) (fun h1217 => ?_) (fun h1217 => ?_)
      · rw [if_pos h1217] at H
        refine r_do 0 (by kernel_rfl) (bg_load (K := (kBool 4)) (T := 108) (n := 256) (e := 4) (x := (Operand.tmp 3)) (b := b1168) (xs := y1215) (by kernel_rfl) (by kernel_rfl) (by kernel_rfl) hb1216 h1217 ?_) 
        obtain ⟨t1218, ht1219, H⟩ := Option.bind_eq_some_iff.1 H
        refine r_do 1 (by kernel_rfl) (og_call (g := 103) (av := #[.agg ((kBool 4).cells y1215).toArray]) (by kernel_rfl) ?_) 
        refine (dowelref03_Close.ok K y1215 w1211 t1218 ht1219).mono ?_
        rintro e w1220 ⟨rfl, k1221⟩
        refine ⟨_, rfl, ?_⟩
        have k1222 := Kp.trans k1212 k1221 (fun _ h => h.elim)
        have hb1223 := Blk.kp hb1214 k1221 id
        have hb1224 := Blk.kp hb1216 k1221 id
        refine r_do 2 (by kernel_rfl) (og_store (T := 37) (x := (Operand.tmp 2)) (y := (Operand.tmp 18)) (b := b1152) (off := 0) (.agg #[.int .u64 t1218.f0, .int .u64 t1218.f1, .int .u64 t1218.f2, .int .u64 t1218.f3]) (by kernel_rfl) (by kernel_rfl) (by kernel_rfl) hb1223 (cs' := #[.int .u64 t1218.f0, .int .u64 t1218.f1, .int .u64 t1218.f2, .int .u64 t1218.f3]) (by kernel_rfl) ?_) 
        intro w1226 hb1225 k1227 _
        have k1228 := Kp.trans k1222 k1227 (fun x hx => .inr (by rw [show x = _ from hx]; exact ghb1214))
        have hb1229 := Blk.kp hb1224 k1227 (show ¬ (b1168 = b1152) from (Ne.symm nhb1214hb1216))
        refine r_fin 3 (by kernel_rfl) ?_
        refine q_then ?_
        refine w_ret (p := [1, 1, 1, 1]) (by kernel_rfl) ?_
        obtain rfl := Option.some.inj H
        refine HR _ _ (body_ret (vs := [.agg #[.int .u64 t1218.f0, .int .u64 t1218.f1, .int .u64 t1218.f2, .int .u64 t1218.f3]]) (rv_cell (off := 0) (v := .agg #[.int .u64 t1218.f0, .int .u64 t1218.f1, .int .u64 t1218.f2, .int .u64 t1218.f3]) (by kernel_rfl) hb1225 (by kernel_rfl) rfl) rfl ?_)
        exact ⟨rfl, k1228⟩
      · rw [if_neg h1217] at H
        cases H
    · rw [if_neg h1177] at H
      cases H
  · rw [if_neg h1176] at H
    cases H
/-! ### dowel/dowelref03.Hex -/
def dowelref03_Hex.f (K : Nat) (a0 : Int) : Option (ByteArray) := if 0 ≤ (W8 (Int.tdiv a0 16)) then (if (W8 (Int.tdiv a0 16)) ≤ (W8 ((W8 (Int.tdiv a0 16)) + 1)) then (if (W8 ((W8 (Int.tdiv a0 16)) + 1)) ≤ ((⟨#[48, 49, 50, 51, 52, 53, 54, 55, 56, 57, 97, 98, 99, 100, 101, 102]⟩ : ByteArray).size : Int) then (if 0 ≤ (Int.tmod a0 16) then (if (Int.tmod a0 16) ≤ (W8 ((Int.tmod a0 16) + 1)) then (if (W8 ((Int.tmod a0 16) + 1)) ≤ ((⟨#[48, 49, 50, 51, 52, 53, 54, 55, 56, 57, 97, 98, 99, 100, 101, 102]⟩ : ByteArray).size : Int) then (if ((⟨#[48, 49, 50, 51, 52, 53, 54, 55, 56, 57, 97, 98, 99, 100, 101, 102]⟩ : ByteArray).extract (W8 (Int.tdiv a0 16) : Int).toNat (W8 ((W8 (Int.tdiv a0 16)) + 1) : Int).toNat).size + ((⟨#[48, 49, 50, 51, 52, 53, 54, 55, 56, 57, 97, 98, 99, 100, 101, 102]⟩ : ByteArray).extract (Int.tmod a0 16 : Int).toNat (W8 ((Int.tmod a0 16) + 1) : Int).toNat).size ≤ 9223372036854775807 then (some (((⟨#[48, 49, 50, 51, 52, 53, 54, 55, 56, 57, 97, 98, 99, 100, 101, 102]⟩ : ByteArray).extract (W8 (Int.tdiv a0 16) : Int).toNat (W8 ((W8 (Int.tdiv a0 16)) + 1) : Int).toNat) ++ ((⟨#[48, 49, 50, 51, 52, 53, 54, 55, 56, 57, 97, 98, 99, 100, 101, 102]⟩ : ByteArray).extract (Int.tmod a0 16 : Int).toNat (W8 ((Int.tmod a0 16) + 1) : Int).toNat))) else none) else none) else none) else none) else none) else none) else none
def dowelref03_Hex.R (r : ByteArray) (w : World) : Ending → World → Prop := fun e w' => e = .returned (.string r) ∧ Kp No w w'
set_option maxRecDepth 20000 in
set_option maxHeartbeats 4000000 in
theorem dowelref03_Hex.ok (K : Nat) (a0 : Int) (w : World)  (r : ByteArray) (H : dowelref03_Hex.f K a0 = some r) : Calls Try.prog 104 #[.int .u8 a0] w (dowelref03_Hex.R r w) := by
  refine calls_cd (t := #[.int .u8 a0, undef, undef, undef, undef, undef, undef, undef, undef, undef, undef, undef, undef, undef, undef, undef]) Try.func104 (by kernel_rfl) (by kernel_rfl) ?_
  unfold dowelref03_Hex.f at H
  have HR : ∀ a w', bodyPost Try.prog Try.f104 (dowelref03_Hex.R r w) .ret a w' → bodyPost Try.prog Try.f104 (dowelref03_Hex.R r w) .ret a w' := fun _ _ h => h
  refine w_seq (p := []) (p0 := [0]) (p1 := [1]) (by kernel_rfl) ?_
  refine w_region (p := [0]) (id := 0) (by kernel_rfl) ?_
  refine r_vals 0 1 [.string (⟨#[]⟩ : ByteArray)] (by kernel_rfl) (by kernel_rfl) ?_
  refine r_fin 1 (by kernel_rfl) ?_
  refine q_then ?_
  refine w_seq (p := [1]) (p0 := [1, 0]) (p1 := [1, 1]) (by kernel_rfl) ?_
  refine p_split (0 ≤ (W8 (Int.tdiv a0 16))) (fun h1230 => ?_) (fun h1230 => ?_)
  · rw [if_pos h1230] at H
    refine p_split ((W8 (Int.tdiv a0 16)) ≤ (W8 ((W8 (Int.tdiv a0 16)) + 1))) (fun h1231 => ?_) (fun h1231 => ?_)
    · rw [if_pos h1231] at H
      refine p_split ((W8 ((W8 (Int.tdiv a0 16)) + 1)) ≤ ((⟨#[48, 49, 50, 51, 52, 53, 54, 55, 56, 57, 97, 98, 99, 100, 101, 102]⟩ : ByteArray).size : Int)) (fun h1232 => ?_) (fun h1232 => ?_)
      · rw [if_pos h1232] at H
        refine p_split (0 ≤ (Int.tmod a0 16)) (fun h1233 => ?_) (fun h1233 => ?_)
        · rw [if_pos h1233] at H
          refine p_split ((Int.tmod a0 16) ≤ (W8 ((Int.tmod a0 16) + 1))) (fun h1234 => ?_) (fun h1234 => ?_)
          · rw [if_pos h1234] at H
            refine p_split ((W8 ((Int.tmod a0 16) + 1)) ≤ ((⟨#[48, 49, 50, 51, 52, 53, 54, 55, 56, 57, 97, 98, 99, 100, 101, 102]⟩ : ByteArray).size : Int)) (fun h1235 => ?_) (fun h1235 => ?_)
            · rw [if_pos h1235] at H
              refine p_split (((⟨#[48, 49, 50, 51, 52, 53, 54, 55, 56, 57, 97, 98, 99, 100, 101, 102]⟩ : ByteArray).extract (W8 (Int.tdiv a0 16) : Int).toNat (W8 ((W8 (Int.tdiv a0 16)) + 1) : Int).toNat).size + ((⟨#[48, 49, 50, 51, 52, 53, 54, 55, 56, 57, 97, 98, 99, 100, 101, 102]⟩ : ByteArray).extract (Int.tmod a0 16 : Int).toNat (W8 ((Int.tmod a0 16) + 1) : Int).toNat).size ≤ 9223372036854775807) (fun h1236 => ?_) (fun h1236 => ?_)
              · rw [if_pos h1236] at H
                refine w_drawk (p := [1, 0]) (id := 1) (by kernel_rfl) (by kernel_rfl) [0, 1, 0, 4, 12, 31, 0, 64, 0, 256, 768, 1984, 4095, 8191] 14 (by kernel_rfl) (J := (fun _ w_ => Kp No w w_)) (fun w_ h1 h2 h3 h4 => Kp.same h1 h2 h3 h4) ?_
                refine k_pure 5 [.int .u8 a0, .int .u8 (W8 (Int.tdiv a0 16)), .int .u8 a0, .int .u8 (W8 (Int.tdiv a0 16)), .int .u8 (W8 ((W8 (Int.tdiv a0 16)) + 1))] (by kernel_rfl) (fun _ => by kernel_rfl) (fun _ _ _ _ _ h => h) ?_
                refine k_op (.string ((⟨#[48, 49, 50, 51, 52, 53, 54, 55, 56, 57, 97, 98, 99, 100, 101, 102]⟩ : ByteArray).extract (W8 (Int.tdiv a0 16) : Int).toNat (W8 ((W8 (Int.tdiv a0 16)) + 1) : Int).toNat)) (by kernel_rfl) (fun b_ w_ hJ hb_ hd_ he_ => og_scut (T := 9) (x := (Operand.const (Value.string { data := #[48, 49, 50, 51, 52, 53, 54, 55, 56, 57, 97, 98, 99, 100, 101, 102] }))) (lo := (some (Operand.tmp 4))) (hi := (some (Operand.tmp 7))) (l := W8 (Int.tdiv a0 16)) (h := W8 ((W8 (Int.tdiv a0 16)) + 1)) (s := (⟨#[48, 49, 50, 51, 52, 53, 54, 55, 56, 57, 97, 98, 99, 100, 101, 102]⟩ : ByteArray)) (kl := .u8) (kh := .u8) (by kernel_rfl) (by kernel_rfl) (by kernel_rfl) (by kernel_rfl) (by kernel_rfl) h1230 h1231 h1232 ⟨rfl, hJ⟩) ?_
                refine k_pure 11 [.int .u8 a0, .int .u8 (Int.tmod a0 16), .int .u8 a0, .int .u8 (Int.tmod a0 16), .int .u8 (W8 ((Int.tmod a0 16) + 1))] (by kernel_rfl) (fun _ => by kernel_rfl) (fun _ _ _ _ _ h => h) ?_
                refine k_op (.string ((⟨#[48, 49, 50, 51, 52, 53, 54, 55, 56, 57, 97, 98, 99, 100, 101, 102]⟩ : ByteArray).extract (Int.tmod a0 16 : Int).toNat (W8 ((Int.tmod a0 16) + 1) : Int).toNat)) (by kernel_rfl) (fun b_ w_ hJ hb_ hd_ he_ => og_scut (T := 9) (x := (Operand.const (Value.string { data := #[48, 49, 50, 51, 52, 53, 54, 55, 56, 57, 97, 98, 99, 100, 101, 102] }))) (lo := (some (Operand.tmp 10))) (hi := (some (Operand.tmp 13))) (l := Int.tmod a0 16) (h := W8 ((Int.tmod a0 16) + 1)) (s := (⟨#[48, 49, 50, 51, 52, 53, 54, 55, 56, 57, 97, 98, 99, 100, 101, 102]⟩ : ByteArray)) (kl := .u8) (kh := .u8) (by kernel_rfl) (by kernel_rfl) (by kernel_rfl) (by kernel_rfl) (by kernel_rfl) h1233 h1234 h1235 ⟨rfl, hJ⟩) ?_
                refine k_op (.string (((⟨#[48, 49, 50, 51, 52, 53, 54, 55, 56, 57, 97, 98, 99, 100, 101, 102]⟩ : ByteArray).extract (W8 (Int.tdiv a0 16) : Int).toNat (W8 ((W8 (Int.tdiv a0 16)) + 1) : Int).toNat) ++ ((⟨#[48, 49, 50, 51, 52, 53, 54, 55, 56, 57, 97, 98, 99, 100, 101, 102]⟩ : ByteArray).extract (Int.tmod a0 16 : Int).toNat (W8 ((Int.tmod a0 16) + 1) : Int).toNat))) (by kernel_rfl) (fun b_ w_ hJ hb_ hd_ he_ => og_cat (T := 9) (U := 9) (x := (Operand.tmp 8)) (y := (Operand.tmp 14)) (by kernel_rfl) (by kernel_rfl) (by kernel_rfl) h1236 ⟨rfl, hJ⟩) ?_
                refine k_pure 14 [.string (((⟨#[48, 49, 50, 51, 52, 53, 54, 55, 56, 57, 97, 98, 99, 100, 101, 102]⟩ : ByteArray).extract (W8 (Int.tdiv a0 16) : Int).toNat (W8 ((W8 (Int.tdiv a0 16)) + 1) : Int).toNat) ++ ((⟨#[48, 49, 50, 51, 52, 53, 54, 55, 56, 57, 97, 98, 99, 100, 101, 102]⟩ : ByteArray).extract (Int.tmod a0 16 : Int).toNat (W8 ((Int.tmod a0 16) + 1) : Int).toNat))] (by kernel_rfl) (fun _ => by kernel_rfl) (fun _ _ _ _ _ h => h) ?_
                refine k_nil ?_
                rintro b_ w1237 hall_ k_
                have k1238 := k_
                have k1239 := Kp.trans (Kp.refl No w) k1238 (fun _ h => h.elim)
                refine r_fin 14 (by kernel_rfl) ?_
                refine q_then ?_
                refine w_ret (p := [1, 1]) (by kernel_rfl) ?_
                obtain rfl := Option.some.inj H
                refine HR _ _ (body_ret (vs := [.string (((⟨#[48, 49, 50, 51, 52, 53, 54, 55, 56, 57, 97, 98, 99, 100, 101, 102]⟩ : ByteArray).extract (W8 (Int.tdiv a0 16) : Int).toNat (W8 ((W8 (Int.tdiv a0 16)) + 1) : Int).toNat) ++ ((⟨#[48, 49, 50, 51, 52, 53, 54, 55, 56, 57, 97, 98, 99, 100, 101, 102]⟩ : ByteArray).extract (Int.tmod a0 16 : Int).toNat (W8 ((Int.tmod a0 16) + 1) : Int).toNat))]) (rv_tmp (by kernel_rfl) rfl) rfl ?_)
                exact ⟨rfl, k1239⟩
              · rw [if_neg h1236] at H
                cases H
            · rw [if_neg h1235] at H
              cases H
          · rw [if_neg h1234] at H
            cases H
        · rw [if_neg h1233] at H
          cases H
      · rw [if_neg h1232] at H
        cases H
    · rw [if_neg h1231] at H
      cases H
  · rw [if_neg h1230] at H
    cases H
/-! ### dowel/dowelref03.spelled -/
def dowelref03_spelled.j0F (a0 : Int) (x1249 : Bool) (u_ : Nat → Value) : Array Value := #[.int .u8 a0, u_ 1, u_ 2, u_ 3, u_ 4, u_ 5, u_ 6, u_ 7, u_ 8, u_ 9, .bool x1249, u_ 11, u_ 12, u_ 13, u_ 14, u_ 15, u_ 16, u_ 17, u_ 18, u_ 19, u_ 20, u_ 21, u_ 22, u_ 23, u_ 24, u_ 25, u_ 26, u_ 27, u_ 28, u_ 29, u_ 30]
def dowelref03_spelled.j1F (a0 : Int) (x1263 : Bool) (u_ : Nat → Value) : Array Value := #[.int .u8 a0, u_ 1, u_ 2, u_ 3, u_ 4, u_ 5, u_ 6, u_ 7, u_ 8, u_ 9, u_ 10, u_ 11, u_ 12, u_ 13, u_ 14, u_ 15, u_ 16, u_ 17, u_ 18, u_ 19, u_ 20, u_ 21, u_ 22, u_ 23, .bool x1263, u_ 25, u_ 26, u_ 27, u_ 28, u_ 29, u_ 30]
def dowelref03_spelled.j1 (a0 : Int) (K : Nat) (x1263 : Bool) : Option (ByteArray) := if x1263 = true then (some (strI ([a0] : List Int))) else ((dowelref03_Hex.f K a0).bind fun t1272 => (if (⟨#[92, 120]⟩ : ByteArray).size + t1272.size ≤ 9223372036854775807 then (some ((⟨#[92, 120]⟩ : ByteArray) ++ t1272)) else none))
def dowelref03_spelled.j0 (a0 : Int) (K : Nat) (x1249 : Bool) : Option (ByteArray) := if x1249 = true then (if (⟨#[92]⟩ : ByteArray).size + (strI ([a0] : List Int)).size ≤ 9223372036854775807 then (some ((⟨#[92]⟩ : ByteArray) ++ (strI ([a0] : List Int)))) else none) else (if a0 ≥ 32 then (dowelref03_spelled.j1 a0 K (decide (a0 ≤ 126))) else (dowelref03_spelled.j1 a0 K false))
def dowelref03_spelled.f (K : Nat) (a0 : Int) : Option (ByteArray) := if a0 = 9 then (some (⟨#[92, 116]⟩ : ByteArray)) else (if a0 = 10 then (some (⟨#[92, 110]⟩ : ByteArray)) else (if a0 = 13 then (some (⟨#[92, 114]⟩ : ByteArray)) else (if a0 = 92 then (dowelref03_spelled.j0 a0 K (a0 == 92)) else (if a0 = 93 then (dowelref03_spelled.j0 a0 K (a0 == 93)) else (if a0 = 45 then (dowelref03_spelled.j0 a0 K (a0 == 45)) else (dowelref03_spelled.j0 a0 K (a0 == 94)))))))
def dowelref03_spelled.R (r : ByteArray) (w : World) : Ending → World → Prop := fun e w' => e = .returned (.string r) ∧ Kp No w w'
set_option maxRecDepth 20000 in
set_option maxHeartbeats 4000000 in
theorem dowelref03_spelled.j1.ok (K : Nat) (a0 : Int) (w : World) (r : ByteArray) {Q : Exit → Act → World → Prop}  (HR : ∀ a w', bodyPost Try.prog Try.f64 (dowelref03_spelled.R r w) .ret a w' → Q .ret a w')  (x1263 : Bool) (u1262 : Nat → Value) (w1260 : World) (k1261 : Kp No w w1260)  (H : dowelref03_spelled.j1 a0 K x1263 = some r) : (cd Try.f64 [1, 1, 0, 1]).wp Try.prog (Exit.then (fun a w => (cd Try.f64 [1, 1, 1]).wp Try.prog Q a w) Q) ⟨dowelref03_spelled.j1F a0 x1263 u1262, []⟩ w1260 := by
  unfold dowelref03_spelled.j1 at H
  refine w_cond (p := [1, 1, 0, 1]) (p0 := [1, 1, 0, 1, 0]) (p1 := [1, 1, 0, 1, 1]) (c := (Operand.tmp 24)) (b := x1263) (by kernel_rfl) (by kernel_rfl) ?_ ?_
  · intro h_
    have h1264 : x1263 = true := h_
    clear h_
    rw [if_pos h1264] at H
    refine w_seq (p := [1, 1, 0, 1, 0]) (p0 := [1, 1, 0, 1, 0, 0]) (p1 := [1, 1, 0, 1, 0, 1]) (by kernel_rfl) ?_
    refine w_region (p := [1, 1, 0, 1, 0, 0]) (id := 14) (by kernel_rfl) ?_
    refine r_vals 0 1 [.int .u8 a0] (by kernel_rfl) (by kernel_rfl) ?_
    refine r_do 1 (by kernel_rfl) (ow_lit (K := (kInt .u8 5)) (w0 := w) (T := 110) (n := 1) (e := 5) (ps := #[(0, (Operand.tmp 25))]) (cs := #[.int .u8 a0]) (parts := [(0, .int .u8 a0)]) ([a0] : List Int) (by kernel_rfl) (by kernel_rfl) (by kernel_rfl) (by kernel_rfl) rfl rfl (by kernel_rfl) k1261 ?_) 
    intro b1268 w1265 e1269 ho1267 k1266
    clear e1269
    have k1271 := Kp.trans k1261 k1266 (fun _ h => h.elim)
    refine r_do 2 (by kernel_rfl) (og_bytesStr (src := 110) (dst := 9) (e := 5) (n := 1) (c := 1) (x := (Operand.tmp 26)) (A := (some ⟨b1268, 0, none⟩)) (xs := ([a0] : List Int)) (by kernel_rfl) (by kernel_rfl) (by kernel_rfl) (Ow.rdNo ho1267) (Ow.len ho1267) ?_) 
    refine r_vals 3 4 [.string (strI ([a0] : List Int))] (by kernel_rfl) (by kernel_rfl) ?_
    refine r_fin 4 (by kernel_rfl) ?_
    refine q_then ?_
    refine w_ret (p := [1, 1, 0, 1, 0, 1]) (by kernel_rfl) ?_
    refine q_then_r ?_
    obtain rfl := Option.some.inj H
    refine HR _ _ (body_ret (vs := [.string (strI ([a0] : List Int))]) (rv_tmp (by kernel_rfl) rfl) rfl ?_)
    exact ⟨rfl, k1271⟩
  · intro h_
    have h1264 : ¬ (x1263 = true) := by rw [h_]; decide
    clear h_
    rw [if_neg h1264] at H
    refine w_skip (p := [1, 1, 0, 1, 1]) (by kernel_rfl) ?_
    refine q_then ?_
    refine w_seq (p := [1, 1, 1]) (p0 := [1, 1, 1, 0]) (p1 := [1, 1, 1, 1]) (by kernel_rfl) ?_
    refine w_region (p := [1, 1, 1, 0]) (id := 15) (by kernel_rfl) ?_
    refine r_vals 0 1 [.int .u8 a0] (by kernel_rfl) (by kernel_rfl) ?_
    obtain ⟨t1272, ht1273, H⟩ := Option.bind_eq_some_iff.1 H
    refine r_do 1 (by kernel_rfl) (og_call (g := 104) (av := #[.int .u8 a0]) (by kernel_rfl) ?_) 
    refine (dowelref03_Hex.ok K a0 w1260 t1272 ht1273).mono ?_
    rintro e w1274 ⟨rfl, k1275⟩
    refine ⟨_, rfl, ?_⟩
    have k1276 := Kp.trans k1261 k1275 (fun _ h => h.elim)
    refine p_split ((⟨#[92, 120]⟩ : ByteArray).size + t1272.size ≤ 9223372036854775807) (fun h1277 => ?_) (fun h1277 => ?_)
    · rw [if_pos h1277] at H
      refine r_do 2 (by kernel_rfl) (og_cat (T := 9) (U := 9) (x := (Operand.const (Value.string { data := #[92, 120] }))) (y := (Operand.tmp 29)) (by kernel_rfl) (by kernel_rfl) (by kernel_rfl) h1277 ?_) 
      refine r_vals 3 4 [.string ((⟨#[92, 120]⟩ : ByteArray) ++ t1272)] (by kernel_rfl) (by kernel_rfl) ?_
      refine r_fin 4 (by kernel_rfl) ?_
      refine q_then ?_
      refine w_ret (p := [1, 1, 1, 1]) (by kernel_rfl) ?_
      obtain rfl := Option.some.inj H
      refine HR _ _ (body_ret (vs := [.string ((⟨#[92, 120]⟩ : ByteArray) ++ t1272)]) (rv_tmp (by kernel_rfl) rfl) rfl ?_)
      exact ⟨rfl, k1276⟩
    · rw [if_neg h1277] at H
      cases H
set_option maxRecDepth 20000 in
set_option maxHeartbeats 4000000 in
theorem dowelref03_spelled.j0.ok (K : Nat) (a0 : Int) (w : World) (r : ByteArray) {Q : Exit → Act → World → Prop}  (HR : ∀ a w', bodyPost Try.prog Try.f64 (dowelref03_spelled.R r w) .ret a w' → Q .ret a w')  (x1249 : Bool) (u1248 : Nat → Value) (w1246 : World) (k1247 : Kp No w w1246)  (H : dowelref03_spelled.j0 a0 K x1249 = some r) : (cd Try.f64 [1, 0, 1, 0, 1, 1, 1, 1, 1, 1, 1]).wp Try.prog (Exit.inBlock 0 (Exit.then (fun a w => (cd Try.f64 [1, 1]).wp Try.prog Q a w) Q)) ⟨dowelref03_spelled.j0F a0 x1249 u1248, []⟩ w1246 := by
  unfold dowelref03_spelled.j0 at H
  refine w_cond (p := [1, 0, 1, 0, 1, 1, 1, 1, 1, 1, 1]) (p0 := [1, 0, 1, 0, 1, 1, 1, 1, 1, 1, 1, 0]) (p1 := [1, 0, 1, 0, 1, 1, 1, 1, 1, 1, 1, 1]) (c := (Operand.tmp 10)) (b := x1249) (by kernel_rfl) (by kernel_rfl) ?_ ?_
  · intro h_
    have h1250 : x1249 = true := h_
    clear h_
    rw [if_pos h1250] at H
    refine w_seq (p := [1, 0, 1, 0, 1, 1, 1, 1, 1, 1, 1, 0]) (p0 := [1, 0, 1, 0, 1, 1, 1, 1, 1, 1, 1, 0, 0]) (p1 := [1, 0, 1, 0, 1, 1, 1, 1, 1, 1, 1, 0, 1]) (by kernel_rfl) ?_
    refine w_region (p := [1, 0, 1, 0, 1, 1, 1, 1, 1, 1, 1, 0, 0]) (id := 12) (by kernel_rfl) ?_
    refine r_vals 0 1 [.int .u8 a0] (by kernel_rfl) (by kernel_rfl) ?_
    refine r_do 1 (by kernel_rfl) (ow_lit (K := (kInt .u8 5)) (w0 := w) (T := 110) (n := 1) (e := 5) (ps := #[(0, (Operand.tmp 15))]) (cs := #[.int .u8 a0]) (parts := [(0, .int .u8 a0)]) ([a0] : List Int) (by kernel_rfl) (by kernel_rfl) (by kernel_rfl) (by kernel_rfl) rfl rfl (by kernel_rfl) k1247 ?_) 
    intro b1254 w1251 e1255 ho1253 k1252
    clear e1255
    have k1257 := Kp.trans k1247 k1252 (fun _ h => h.elim)
    refine r_do 2 (by kernel_rfl) (og_bytesStr (src := 110) (dst := 9) (e := 5) (n := 1) (c := 1) (x := (Operand.tmp 16)) (A := (some ⟨b1254, 0, none⟩)) (xs := ([a0] : List Int)) (by kernel_rfl) (by kernel_rfl) (by kernel_rfl) (Ow.rdNo ho1253) (Ow.len ho1253) ?_) 
    refine p_split ((⟨#[92]⟩ : ByteArray).size + (strI ([a0] : List Int)).size ≤ 9223372036854775807) (fun h1258 => ?_) (fun h1258 => ?_)
    · rw [if_pos h1258] at H
      refine r_do 3 (by kernel_rfl) (og_cat (T := 9) (U := 9) (x := (Operand.const (Value.string { data := #[92] }))) (y := (Operand.tmp 17)) (by kernel_rfl) (by kernel_rfl) (by kernel_rfl) h1258 ?_) 
      refine r_vals 4 5 [.string ((⟨#[92]⟩ : ByteArray) ++ (strI ([a0] : List Int)))] (by kernel_rfl) (by kernel_rfl) ?_
      refine r_fin 5 (by kernel_rfl) ?_
      refine q_then ?_
      refine w_ret (p := [1, 0, 1, 0, 1, 1, 1, 1, 1, 1, 1, 0, 1]) (by kernel_rfl) ?_
      refine q_in_r ?_
      refine q_then_r ?_
      obtain rfl := Option.some.inj H
      refine HR _ _ (body_ret (vs := [.string ((⟨#[92]⟩ : ByteArray) ++ (strI ([a0] : List Int)))]) (rv_tmp (by kernel_rfl) rfl) rfl ?_)
      exact ⟨rfl, k1257⟩
    · rw [if_neg h1258] at H
      cases H
  · intro h_
    have h1250 : ¬ (x1249 = true) := by rw [h_]; decide
    clear h_
    rw [if_neg h1250] at H
    refine w_skip (p := [1, 0, 1, 0, 1, 1, 1, 1, 1, 1, 1, 1]) (by kernel_rfl) ?_
    refine q_in ?_
    refine q_then ?_
    refine w_seq (p := [1, 1]) (p0 := [1, 1, 0]) (p1 := [1, 1, 1]) (by kernel_rfl) ?_
    refine w_seq (p := [1, 1, 0]) (p0 := [1, 1, 0, 0]) (p1 := [1, 1, 0, 1]) (by kernel_rfl) ?_
    refine w_region (p := [1, 1, 0, 0]) (id := 13) (by kernel_rfl) ?_
    refine r_vals 0 3 [.int .u8 a0, .bool (decide (a0 ≥ 32)), .bool (decide (a0 ≥ 32))] (by kernel_rfl) (by kernel_rfl) ?_
    refine b_split (decide (a0 ≥ 32)) (fun h_ => ?_) (fun h_ => ?_)
    · have h1259 : a0 ≥ 32 := by simpa using h_
      rw [if_pos h1259] at H
      rw [h_]
      clear h_
      refine r_vals 3 6 [.int .u8 a0, .bool (decide (a0 ≤ 126)), .bool (decide (a0 ≤ 126))] (by kernel_rfl) (by kernel_rfl) ?_
      refine r_fin 6 (by kernel_rfl) ?_
      refine q_then ?_
      refine w_into (dowelref03_spelled.j1F a0 (decide (a0 ≤ 126))) (by kernel_rfl) (fun u_ => ?_)
      exact dowelref03_spelled.j1.ok K a0 w r  HR  (decide (a0 ≤ 126)) u_ w1246 k1247  H
    · have h1259 : ¬ (a0 ≥ 32) := by simpa using h_
      rw [if_neg h1259] at H
      rw [h_]
      clear h_
      refine r_vals 3 6 [undef, undef, .bool false] (by kernel_rfl) (by kernel_rfl) ?_
      refine r_fin 6 (by kernel_rfl) ?_
      refine q_then ?_
      refine w_into (dowelref03_spelled.j1F a0 false) (by kernel_rfl) (fun u_ => ?_)
      exact dowelref03_spelled.j1.ok K a0 w r  HR  false u_ w1246 k1247  H
set_option maxRecDepth 20000 in
set_option maxHeartbeats 4000000 in
theorem dowelref03_spelled.ok (K : Nat) (a0 : Int) (w : World)  (r : ByteArray) (H : dowelref03_spelled.f K a0 = some r) : Calls Try.prog 64 #[.int .u8 a0] w (dowelref03_spelled.R r w) := by
  refine calls_cd (t := #[.int .u8 a0, undef, undef, undef, undef, undef, undef, undef, undef, undef, undef, undef, undef, undef, undef, undef, undef, undef, undef, undef, undef, undef, undef, undef, undef, undef, undef, undef, undef, undef, undef]) Try.func64 (by kernel_rfl) (by kernel_rfl) ?_
  unfold dowelref03_spelled.f at H
  have HR : ∀ a w', bodyPost Try.prog Try.f64 (dowelref03_spelled.R r w) .ret a w' → bodyPost Try.prog Try.f64 (dowelref03_spelled.R r w) .ret a w' := fun _ _ h => h
  refine w_seq (p := []) (p0 := [0]) (p1 := [1]) (by kernel_rfl) ?_
  refine w_region (p := [0]) (id := 0) (by kernel_rfl) ?_
  refine r_vals 0 1 [.string (⟨#[]⟩ : ByteArray)] (by kernel_rfl) (by kernel_rfl) ?_
  refine r_fin 1 (by kernel_rfl) ?_
  refine q_then ?_
  refine w_seq (p := [1]) (p0 := [1, 0]) (p1 := [1, 1]) (by kernel_rfl) ?_
  refine w_seq (p := [1, 0]) (p0 := [1, 0, 0]) (p1 := [1, 0, 1]) (by kernel_rfl) ?_
  refine w_region (p := [1, 0, 0]) (id := 1) (by kernel_rfl) ?_
  refine r_vals 0 1 [.int .u8 a0] (by kernel_rfl) (by kernel_rfl) ?_
  refine r_fin 1 (by kernel_rfl) ?_
  refine q_then ?_
  refine w_block (p := [1, 0, 1]) (p0 := [1, 0, 1, 0]) (id := 0) (by kernel_rfl) ?_
  refine w_seq (p := [1, 0, 1, 0]) (p0 := [1, 0, 1, 0, 0]) (p1 := [1, 0, 1, 0, 1]) (by kernel_rfl) ?_
  refine w_region (p := [1, 0, 1, 0, 0]) (id := 2) (by kernel_rfl) ?_
  refine r_vals 0 2 [.bool (a0 == 9), .bool (a0 == 9)] (by kernel_rfl) (by kernel_rfl) ?_
  refine r_fin 2 (by kernel_rfl) ?_
  refine q_then ?_
  refine w_cond (p := [1, 0, 1, 0, 1]) (p0 := [1, 0, 1, 0, 1, 0]) (p1 := [1, 0, 1, 0, 1, 1]) (c := (Operand.tmp 4)) (b := a0 == 9) (by kernel_rfl) (by kernel_rfl) ?_ ?_
  · intro h_
    have h1240 : a0 = 9 := by simpa using h_
    clear h_
    rw [if_pos h1240] at H
    refine w_seq (p := [1, 0, 1, 0, 1, 0]) (p0 := [1, 0, 1, 0, 1, 0, 0]) (p1 := [1, 0, 1, 0, 1, 0, 1]) (by kernel_rfl) ?_
    refine w_region (p := [1, 0, 1, 0, 1, 0, 0]) (id := 3) (by kernel_rfl) ?_
    refine r_vals 0 1 [.string (⟨#[92, 116]⟩ : ByteArray)] (by kernel_rfl) (by kernel_rfl) ?_
    refine r_fin 1 (by kernel_rfl) ?_
    refine q_then ?_
    refine w_ret (p := [1, 0, 1, 0, 1, 0, 1]) (by kernel_rfl) ?_
    refine q_in_r ?_
    refine q_then_r ?_
    obtain rfl := Option.some.inj H
    refine HR _ _ (body_ret (vs := [.string (⟨#[92, 116]⟩ : ByteArray)]) (rv_tmp (by kernel_rfl) rfl) rfl ?_)
    exact ⟨rfl, (Kp.refl No w)⟩
  · intro h_
    have h1240 : ¬ (a0 = 9) := by simpa using h_
    clear h_
    rw [if_neg h1240] at H
    refine w_seq (p := [1, 0, 1, 0, 1, 1]) (p0 := [1, 0, 1, 0, 1, 1, 0]) (p1 := [1, 0, 1, 0, 1, 1, 1]) (by kernel_rfl) ?_
    refine w_region (p := [1, 0, 1, 0, 1, 1, 0]) (id := 4) (by kernel_rfl) ?_
    refine r_vals 0 2 [.bool (a0 == 10), .bool (a0 == 10)] (by kernel_rfl) (by kernel_rfl) ?_
    refine r_fin 2 (by kernel_rfl) ?_
    refine q_then ?_
    refine w_cond (p := [1, 0, 1, 0, 1, 1, 1]) (p0 := [1, 0, 1, 0, 1, 1, 1, 0]) (p1 := [1, 0, 1, 0, 1, 1, 1, 1]) (c := (Operand.tmp 6)) (b := a0 == 10) (by kernel_rfl) (by kernel_rfl) ?_ ?_
    · intro h_
      have h1241 : a0 = 10 := by simpa using h_
      clear h_
      rw [if_pos h1241] at H
      refine w_seq (p := [1, 0, 1, 0, 1, 1, 1, 0]) (p0 := [1, 0, 1, 0, 1, 1, 1, 0, 0]) (p1 := [1, 0, 1, 0, 1, 1, 1, 0, 1]) (by kernel_rfl) ?_
      refine w_region (p := [1, 0, 1, 0, 1, 1, 1, 0, 0]) (id := 5) (by kernel_rfl) ?_
      refine r_vals 0 1 [.string (⟨#[92, 110]⟩ : ByteArray)] (by kernel_rfl) (by kernel_rfl) ?_
      refine r_fin 1 (by kernel_rfl) ?_
      refine q_then ?_
      refine w_ret (p := [1, 0, 1, 0, 1, 1, 1, 0, 1]) (by kernel_rfl) ?_
      refine q_in_r ?_
      refine q_then_r ?_
      obtain rfl := Option.some.inj H
      refine HR _ _ (body_ret (vs := [.string (⟨#[92, 110]⟩ : ByteArray)]) (rv_tmp (by kernel_rfl) rfl) rfl ?_)
      exact ⟨rfl, (Kp.refl No w)⟩
    · intro h_
      have h1241 : ¬ (a0 = 10) := by simpa using h_
      clear h_
      rw [if_neg h1241] at H
      refine w_seq (p := [1, 0, 1, 0, 1, 1, 1, 1]) (p0 := [1, 0, 1, 0, 1, 1, 1, 1, 0]) (p1 := [1, 0, 1, 0, 1, 1, 1, 1, 1]) (by kernel_rfl) ?_
      refine w_region (p := [1, 0, 1, 0, 1, 1, 1, 1, 0]) (id := 6) (by kernel_rfl) ?_
      refine r_vals 0 2 [.bool (a0 == 13), .bool (a0 == 13)] (by kernel_rfl) (by kernel_rfl) ?_
      refine r_fin 2 (by kernel_rfl) ?_
      refine q_then ?_
      refine w_cond (p := [1, 0, 1, 0, 1, 1, 1, 1, 1]) (p0 := [1, 0, 1, 0, 1, 1, 1, 1, 1, 0]) (p1 := [1, 0, 1, 0, 1, 1, 1, 1, 1, 1]) (c := (Operand.tmp 8)) (b := a0 == 13) (by kernel_rfl) (by kernel_rfl) ?_ ?_
      · intro h_
        have h1242 : a0 = 13 := by simpa using h_
        clear h_
        rw [if_pos h1242] at H
        refine w_seq (p := [1, 0, 1, 0, 1, 1, 1, 1, 1, 0]) (p0 := [1, 0, 1, 0, 1, 1, 1, 1, 1, 0, 0]) (p1 := [1, 0, 1, 0, 1, 1, 1, 1, 1, 0, 1]) (by kernel_rfl) ?_
        refine w_region (p := [1, 0, 1, 0, 1, 1, 1, 1, 1, 0, 0]) (id := 7) (by kernel_rfl) ?_
        refine r_vals 0 1 [.string (⟨#[92, 114]⟩ : ByteArray)] (by kernel_rfl) (by kernel_rfl) ?_
        refine r_fin 1 (by kernel_rfl) ?_
        refine q_then ?_
        refine w_ret (p := [1, 0, 1, 0, 1, 1, 1, 1, 1, 0, 1]) (by kernel_rfl) ?_
        refine q_in_r ?_
        refine q_then_r ?_
        obtain rfl := Option.some.inj H
        refine HR _ _ (body_ret (vs := [.string (⟨#[92, 114]⟩ : ByteArray)]) (rv_tmp (by kernel_rfl) rfl) rfl ?_)
        exact ⟨rfl, (Kp.refl No w)⟩
      · intro h_
        have h1242 : ¬ (a0 = 13) := by simpa using h_
        clear h_
        rw [if_neg h1242] at H
        refine w_seq (p := [1, 0, 1, 0, 1, 1, 1, 1, 1, 1]) (p0 := [1, 0, 1, 0, 1, 1, 1, 1, 1, 1, 0]) (p1 := [1, 0, 1, 0, 1, 1, 1, 1, 1, 1, 1]) (by kernel_rfl) ?_
        refine w_seq (p := [1, 0, 1, 0, 1, 1, 1, 1, 1, 1, 0]) (p0 := [1, 0, 1, 0, 1, 1, 1, 1, 1, 1, 0, 0]) (p1 := [1, 0, 1, 0, 1, 1, 1, 1, 1, 1, 0, 1]) (by kernel_rfl) ?_
        refine w_region (p := [1, 0, 1, 0, 1, 1, 1, 1, 1, 1, 0, 0]) (id := 8) (by kernel_rfl) ?_
        refine r_vals 0 2 [.bool (a0 == 92), .bool (a0 == 92)] (by kernel_rfl) (by kernel_rfl) ?_
        refine r_fin 2 (by kernel_rfl) ?_
        refine q_then ?_
        refine w_cond (p := [1, 0, 1, 0, 1, 1, 1, 1, 1, 1, 0, 1]) (p0 := [1, 0, 1, 0, 1, 1, 1, 1, 1, 1, 0, 1, 0]) (p1 := [1, 0, 1, 0, 1, 1, 1, 1, 1, 1, 0, 1, 1]) (c := (Operand.tmp 10)) (b := a0 == 92) (by kernel_rfl) (by kernel_rfl) ?_ ?_
        · intro h_
          have h1243 : a0 = 92 := by simpa using h_
          clear h_
          rw [if_pos h1243] at H
          refine w_skip (p := [1, 0, 1, 0, 1, 1, 1, 1, 1, 1, 0, 1, 0]) (by kernel_rfl) ?_
          refine q_then ?_
          refine w_into (dowelref03_spelled.j0F a0 (a0 == 92)) (by kernel_rfl) (fun u_ => ?_)
          exact dowelref03_spelled.j0.ok K a0 w r  HR  (a0 == 92) u_ w (Kp.refl No w)  H
        · intro h_
          have h1243 : ¬ (a0 = 92) := by simpa using h_
          clear h_
          rw [if_neg h1243] at H
          refine w_seq (p := [1, 0, 1, 0, 1, 1, 1, 1, 1, 1, 0, 1, 1]) (p0 := [1, 0, 1, 0, 1, 1, 1, 1, 1, 1, 0, 1, 1, 0]) (p1 := [1, 0, 1, 0, 1, 1, 1, 1, 1, 1, 0, 1, 1, 1]) (by kernel_rfl) ?_
          refine w_region (p := [1, 0, 1, 0, 1, 1, 1, 1, 1, 1, 0, 1, 1, 0]) (id := 9) (by kernel_rfl) ?_
          refine r_vals 0 2 [.bool (a0 == 93), .bool (a0 == 93)] (by kernel_rfl) (by kernel_rfl) ?_
          refine r_fin 2 (by kernel_rfl) ?_
          refine q_then ?_
          refine w_cond (p := [1, 0, 1, 0, 1, 1, 1, 1, 1, 1, 0, 1, 1, 1]) (p0 := [1, 0, 1, 0, 1, 1, 1, 1, 1, 1, 0, 1, 1, 1, 0]) (p1 := [1, 0, 1, 0, 1, 1, 1, 1, 1, 1, 0, 1, 1, 1, 1]) (c := (Operand.tmp 10)) (b := a0 == 93) (by kernel_rfl) (by kernel_rfl) ?_ ?_
          · intro h_
            have h1244 : a0 = 93 := by simpa using h_
            clear h_
            rw [if_pos h1244] at H
            refine w_skip (p := [1, 0, 1, 0, 1, 1, 1, 1, 1, 1, 0, 1, 1, 1, 0]) (by kernel_rfl) ?_
            refine q_then ?_
            refine w_into (dowelref03_spelled.j0F a0 (a0 == 93)) (by kernel_rfl) (fun u_ => ?_)
            exact dowelref03_spelled.j0.ok K a0 w r  HR  (a0 == 93) u_ w (Kp.refl No w)  H
          · intro h_
            have h1244 : ¬ (a0 = 93) := by simpa using h_
            clear h_
            rw [if_neg h1244] at H
            refine w_seq (p := [1, 0, 1, 0, 1, 1, 1, 1, 1, 1, 0, 1, 1, 1, 1]) (p0 := [1, 0, 1, 0, 1, 1, 1, 1, 1, 1, 0, 1, 1, 1, 1, 0]) (p1 := [1, 0, 1, 0, 1, 1, 1, 1, 1, 1, 0, 1, 1, 1, 1, 1]) (by kernel_rfl) ?_
            refine w_region (p := [1, 0, 1, 0, 1, 1, 1, 1, 1, 1, 0, 1, 1, 1, 1, 0]) (id := 10) (by kernel_rfl) ?_
            refine r_vals 0 2 [.bool (a0 == 45), .bool (a0 == 45)] (by kernel_rfl) (by kernel_rfl) ?_
            refine r_fin 2 (by kernel_rfl) ?_
            refine q_then ?_
            refine w_cond (p := [1, 0, 1, 0, 1, 1, 1, 1, 1, 1, 0, 1, 1, 1, 1, 1]) (p0 := [1, 0, 1, 0, 1, 1, 1, 1, 1, 1, 0, 1, 1, 1, 1, 1, 0]) (p1 := [1, 0, 1, 0, 1, 1, 1, 1, 1, 1, 0, 1, 1, 1, 1, 1, 1]) (c := (Operand.tmp 10)) (b := a0 == 45) (by kernel_rfl) (by kernel_rfl) ?_ ?_
            · intro h_
              have h1245 : a0 = 45 := by simpa using h_
              clear h_
              rw [if_pos h1245] at H
              refine w_skip (p := [1, 0, 1, 0, 1, 1, 1, 1, 1, 1, 0, 1, 1, 1, 1, 1, 0]) (by kernel_rfl) ?_
              refine q_then ?_
              refine w_into (dowelref03_spelled.j0F a0 (a0 == 45)) (by kernel_rfl) (fun u_ => ?_)
              exact dowelref03_spelled.j0.ok K a0 w r  HR  (a0 == 45) u_ w (Kp.refl No w)  H
            · intro h_
              have h1245 : ¬ (a0 = 45) := by simpa using h_
              clear h_
              rw [if_neg h1245] at H
              refine w_region (p := [1, 0, 1, 0, 1, 1, 1, 1, 1, 1, 0, 1, 1, 1, 1, 1, 1]) (id := 11) (by kernel_rfl) ?_
              refine r_vals 0 2 [.bool (a0 == 94), .bool (a0 == 94)] (by kernel_rfl) (by kernel_rfl) ?_
              refine r_fin 2 (by kernel_rfl) ?_
              refine q_then ?_
              refine w_into (dowelref03_spelled.j0F a0 (a0 == 94)) (by kernel_rfl) (fun u_ => ?_)
              exact dowelref03_spelled.j0.ok K a0 w r  HR  (a0 == 94) u_ w (Kp.refl No w)  H
/-! ### dowel/dowelref03.Text -/
def dowelref03_Text.F1 (x1380 : ByteArray) (A1325 : Option Addr) (t1320 : List Tapi_Range) (c1326 : Nat) (x1381 : Int) (u_ : Nat → Value) : Array Value := #[u_ 0, u_ 1, u_ 2, .string x1380, .slice A1325 t1320.length c1326, .int .i64 x1381, u_ 6, u_ 7, u_ 8, u_ 9, u_ 10, u_ 11, u_ 12, u_ 13, u_ 14, u_ 15, u_ 16, u_ 17, u_ 18, u_ 19, u_ 20, u_ 21, u_ 22, u_ 23, u_ 24, u_ 25, u_ 26, u_ 27, u_ 28, u_ 29, u_ 30, u_ 31, u_ 32, u_ 33, u_ 34, u_ 35, u_ 36, u_ 37, u_ 38, u_ 39, u_ 40, u_ 41, u_ 42, u_ 43, u_ 44, u_ 45, u_ 46, u_ 47, u_ 48, u_ 49, u_ 50, u_ 51, u_ 52, u_ 53, u_ 54, u_ 55, u_ 56, u_ 57, u_ 58, u_ 59, u_ 60, u_ 61, u_ 62]
def dowelref03_Text.F1_0 (x1428 : ByteArray) (u_ : Nat → Value) : Array Value := #[u_ 0, u_ 1, u_ 2, .string x1428, u_ 4, u_ 5, u_ 6, u_ 7, u_ 8, u_ 9, u_ 10, u_ 11, u_ 12, u_ 13, u_ 14, u_ 15, u_ 16, u_ 17, u_ 18, u_ 19, u_ 20, u_ 21, u_ 22, u_ 23, u_ 24, u_ 25, u_ 26, u_ 27, u_ 28, u_ 29, u_ 30, u_ 31, u_ 32, u_ 33, u_ 34, u_ 35, u_ 36, u_ 37, u_ 38, u_ 39, u_ 40, u_ 41, u_ 42, u_ 43, u_ 44, u_ 45, u_ 46, u_ 47, u_ 48, u_ 49, u_ 50, u_ 51, u_ 52, u_ 53, u_ 54, u_ 55, u_ 56, u_ 57, u_ 58, u_ 59, u_ 60, u_ 61, u_ 62]
def dowelref03_Text.j2F (x1402 : ByteArray) (A1325 : Option Addr) (t1320 : List Tapi_Range) (c1326 : Nat) (x1381 : Int) (u_ : Nat → Value) : Array Value := #[u_ 0, u_ 1, u_ 2, .string x1402, .slice A1325 t1320.length c1326, .int .i64 x1381, u_ 6, u_ 7, u_ 8, u_ 9, u_ 10, u_ 11, u_ 12, u_ 13, u_ 14, u_ 15, u_ 16, u_ 17, u_ 18, u_ 19, u_ 20, u_ 21, u_ 22, u_ 23, u_ 24, u_ 25, u_ 26, u_ 27, u_ 28, u_ 29, u_ 30, u_ 31, u_ 32, u_ 33, u_ 34, u_ 35, u_ 36, u_ 37, u_ 38, u_ 39, u_ 40, u_ 41, u_ 42, u_ 43, u_ 44, u_ 45, u_ 46, u_ 47, u_ 48, u_ 49, u_ 50, u_ 51, u_ 52, u_ 53, u_ 54, u_ 55, u_ 56, u_ 57, u_ 58, u_ 59, u_ 60, u_ 61, u_ 62]
def dowelref03_Text.j3F (x1422 : ByteArray) (A1325 : Option Addr) (t1320 : List Tapi_Range) (c1326 : Nat) (x1381 : Int) (u_ : Nat → Value) : Array Value := #[u_ 0, u_ 1, u_ 2, .string x1422, .slice A1325 t1320.length c1326, .int .i64 x1381, u_ 6, u_ 7, u_ 8, u_ 9, u_ 10, u_ 11, u_ 12, u_ 13, u_ 14, u_ 15, u_ 16, u_ 17, u_ 18, u_ 19, u_ 20, u_ 21, u_ 22, u_ 23, u_ 24, u_ 25, u_ 26, u_ 27, u_ 28, u_ 29, u_ 30, u_ 31, u_ 32, u_ 33, u_ 34, u_ 35, u_ 36, u_ 37, u_ 38, u_ 39, u_ 40, u_ 41, u_ 42, u_ 43, u_ 44, u_ 45, u_ 46, u_ 47, u_ 48, u_ 49, u_ 50, u_ 51, u_ 52, u_ 53, u_ 54, u_ 55, u_ 56, u_ 57, u_ 58, u_ 59, u_ 60, u_ 61, u_ 62]
def dowelref03_Text.j3 (next1 : ByteArray → Int → Option (ByteArray)) (x1381 : Int) (x1422 : ByteArray) : Option (ByteArray) := next1 x1422 (W (x1381 + 1))
def dowelref03_Text.j2 (x1381 : Int) (t1320 : List Tapi_Range) (K : Nat) (next1 : ByteArray → Int → Option (ByteArray)) (x1402 : ByteArray) : Option (ByteArray) := if 0 ≤ x1381 then (if x1381 < (t1320.length : Int) then (if (((rd zapi_Range t1320 x1381)).f1) > (((rd zapi_Range t1320 x1381)).f0) then ((dowelref03_spelled.f K (((rd zapi_Range t1320 x1381)).f1)).bind fun t1412 => (if x1402.size + t1412.size ≤ 9223372036854775807 then (dowelref03_Text.j3 next1 x1381 (x1402 ++ t1412)) else none)) else (dowelref03_Text.j3 next1 x1381 x1402)) else none) else none
def dowelref03_Text.b1 (t1320 : List Tapi_Range) (K : Nat) (next1 : ByteArray → Int → Option (ByteArray)) (brk1_0 : ByteArray → Option (ByteArray)) (x1380 : ByteArray) (x1381 : Int) : Option (ByteArray) := if x1381 < (t1320.length : Int) then (if 0 ≤ x1381 then ((dowelref03_spelled.f K (((rd zapi_Range t1320 x1381)).f0)).bind fun t1386 => (if x1380.size + t1386.size ≤ 9223372036854775807 then (if (W8 ((((rd zapi_Range t1320 x1381)).f1) - (((rd zapi_Range t1320 x1381)).f0))) > 1 then (if (x1380 ++ t1386).size + (⟨#[45]⟩ : ByteArray).size ≤ 9223372036854775807 then (dowelref03_Text.j2 x1381 t1320 K next1 ((x1380 ++ t1386) ++ (⟨#[45]⟩ : ByteArray))) else none) else (dowelref03_Text.j2 x1381 t1320 K next1 (x1380 ++ t1386))) else none)) else none) else (brk1_0 x1380)
def dowelref03_Text.l1 (t1320 : List Tapi_Range) (K : Nat) (brk1_0 : ByteArray → Option (ByteArray)) : Nat → ByteArray → Int → Option (ByteArray)
  | 0, _, _ => none
  | n_ + 1, x1380, x1381 => dowelref03_Text.b1 t1320 K (dowelref03_Text.l1 t1320 K brk1_0 n_) brk1_0 x1380 x1381
def dowelref03_Text.j0F (b1281 : Nat) (x1314 : ByteArray) (u_ : Nat → Value) : Array Value := #[u_ 0, .pointer (some ⟨b1281, 0, none⟩), u_ 2, .string x1314, u_ 4, u_ 5, u_ 6, u_ 7, u_ 8, u_ 9, u_ 10, u_ 11, u_ 12, u_ 13, u_ 14, u_ 15, u_ 16, u_ 17, u_ 18, u_ 19, u_ 20, u_ 21, u_ 22, u_ 23, u_ 24, u_ 25, u_ 26, u_ 27, u_ 28, u_ 29, u_ 30, u_ 31, u_ 32, u_ 33, u_ 34, u_ 35, u_ 36, u_ 37, u_ 38, u_ 39, u_ 40, u_ 41, u_ 42, u_ 43, u_ 44, u_ 45, u_ 46, u_ 47, u_ 48, u_ 49, u_ 50, u_ 51, u_ 52, u_ 53, u_ 54, u_ 55, u_ 56, u_ 57, u_ 58, u_ 59, u_ 60, u_ 61, u_ 62]
def dowelref03_Text.j0 (K : Nat) (y1315 : Int) (y1316 : Int) (y1317 : Int) (y1318 : Int) (x1314 : ByteArray) : Option (ByteArray) := (dowelref03_Ranges.f K (⟨y1315, y1316, y1317, y1318⟩ : Tapi_Class)).bind fun t1320 => (dowelref03_Text.l1 t1320 K (fun x1428 => if x1428.size + (⟨#[93]⟩ : ByteArray).size ≤ 9223372036854775807 then (some (x1428 ++ (⟨#[93]⟩ : ByteArray))) else none) K x1314 0)
def dowelref03_Text.f (K : Nat) (a0 : Tapi_Class) : Option (ByteArray) := (dowelref03_Bytes.f K a0).bind fun t1285 => (if (t1285.length : Int) > 128 then ((dowelref03_Not.f K a0).bind fun t1299 => (dowelref03_Text.j0 K t1299.f0 t1299.f1 t1299.f2 t1299.f3 (⟨#[91, 94]⟩ : ByteArray))) else (dowelref03_Text.j0 K a0.f0 a0.f1 a0.f2 a0.f3 (⟨#[91]⟩ : ByteArray)))
def dowelref03_Text.R (r : ByteArray) (w : World) : Ending → World → Prop := fun e w' => e = .returned (.string r) ∧ Kp No w w'
set_option maxRecDepth 20000 in
set_option maxHeartbeats 4000000 in
theorem dowelref03_Text.j3.ok (K : Nat) (a0 : Tapi_Class) (w : World) (r : ByteArray) {Q : Exit → Act → World → Prop} (A1325 : Option Addr) (t1320 : List Tapi_Range) (c1326 : Nat) (x1381 : Int) (next1 : ByteArray → Int → Option (ByteArray)) (brk1_0 : ByteArray → Option (ByteArray)) (HR : ∀ a w', bodyPost Try.prog Try.f22 (dowelref03_Text.R r w) .ret a w' → Q .ret a w') (HN1 : ∀ (x1380q : ByteArray) (x1381q : Int) (u1377q : Nat → Value) (w1378q : World) (k1379q : Kp No w w1378q) (ho1383q : Ow w (Kapi_Range 44) w1378q A1325 t1320.length c1326 t1320), next1 x1380q x1381q = some r → Q .normal ⟨dowelref03_Text.F1 x1380q A1325 t1320 c1326 x1381q u1377q, []⟩ w1378q) (HX1_0 : ∀ (x1428q : ByteArray) (u1427q : Nat → Value) (w1425q : World) (k1426q : Kp No w w1425q) , brk1_0 x1428q = some r → Q (.exit 0) ⟨dowelref03_Text.F1_0 x1428q u1427q, []⟩ w1425q) (x1422 : ByteArray) (u1421 : Nat → Value) (w1419 : World) (k1420 : Kp No w w1419) (ho1424 : Ow w (Kapi_Range 44) w1419 A1325 t1320.length c1326 t1320) (H : dowelref03_Text.j3 next1 x1381 x1422 = some r) : (Exit.then (fun a w => (cd Try.f22 [1, 1, 1, 1, 0, 1, 0, 0, 1, 1]).wp Try.prog Q a w) Q) .normal ⟨dowelref03_Text.j3F x1422 A1325 t1320 c1326 x1381 u1421, []⟩ w1419 := by
  unfold dowelref03_Text.j3 at H
  refine q_then ?_
  refine w_region (p := [1, 1, 1, 1, 0, 1, 0, 0, 1, 1]) (id := 8) (by kernel_rfl) ?_
  refine r_vals 0 3 [.int .i64 x1381, .int .i64 (W (x1381 + 1)), .int .i64 (W (x1381 + 1))] (by kernel_rfl) (by kernel_rfl) ?_
  refine r_fin 3 (by kernel_rfl) ?_
  refine q_into (dowelref03_Text.F1 x1422 A1325 t1320 c1326 (W (x1381 + 1))) (by kernel_rfl) (fun u_ => ?_)
  exact HN1 x1422 (W (x1381 + 1)) u_ w1419 k1420 ho1424 H
set_option maxRecDepth 20000 in
set_option maxHeartbeats 4000000 in
theorem dowelref03_Text.j2.ok (K : Nat) (a0 : Tapi_Class) (w : World) (r : ByteArray) {Q : Exit → Act → World → Prop} (A1325 : Option Addr) (t1320 : List Tapi_Range) (c1326 : Nat) (x1381 : Int) (next1 : ByteArray → Int → Option (ByteArray)) (brk1_0 : ByteArray → Option (ByteArray)) (HR : ∀ a w', bodyPost Try.prog Try.f22 (dowelref03_Text.R r w) .ret a w' → Q .ret a w') (HN1 : ∀ (x1380q : ByteArray) (x1381q : Int) (u1377q : Nat → Value) (w1378q : World) (k1379q : Kp No w w1378q) (ho1383q : Ow w (Kapi_Range 44) w1378q A1325 t1320.length c1326 t1320), next1 x1380q x1381q = some r → Q .normal ⟨dowelref03_Text.F1 x1380q A1325 t1320 c1326 x1381q u1377q, []⟩ w1378q) (HX1_0 : ∀ (x1428q : ByteArray) (u1427q : Nat → Value) (w1425q : World) (k1426q : Kp No w w1425q) , brk1_0 x1428q = some r → Q (.exit 0) ⟨dowelref03_Text.F1_0 x1428q u1427q, []⟩ w1425q) (x1402 : ByteArray) (u1401 : Nat → Value) (w1399 : World) (k1400 : Kp No w w1399) (ho1404 : Ow w (Kapi_Range 44) w1399 A1325 t1320.length c1326 t1320) (H : dowelref03_Text.j2 x1381 t1320 K next1 x1402 = some r) : (cd Try.f22 [1, 1, 1, 1, 0, 1, 0, 0, 1, 0, 0, 1, 1]).wp Try.prog (Exit.inBlock 1 (Exit.then (fun a w => (cd Try.f22 [1, 1, 1, 1, 0, 1, 0, 0, 1, 1]).wp Try.prog Q a w) Q)) ⟨dowelref03_Text.j2F x1402 A1325 t1320 c1326 x1381 u1401, []⟩ w1399 := by
  unfold dowelref03_Text.j2 at H
  refine w_seq (p := [1, 1, 1, 1, 0, 1, 0, 0, 1, 0, 0, 1, 1]) (p0 := [1, 1, 1, 1, 0, 1, 0, 0, 1, 0, 0, 1, 1, 0]) (p1 := [1, 1, 1, 1, 0, 1, 0, 0, 1, 0, 0, 1, 1, 1]) (by kernel_rfl) ?_
  refine p_split (0 ≤ x1381) (fun h1405 => ?_) (fun h1405 => ?_)
  · rw [if_pos h1405] at H
    refine p_split (x1381 < (t1320.length : Int)) (fun h1406 => ?_) (fun h1406 => ?_)
    · rw [if_pos h1406] at H
      refine w_drawk (p := [1, 1, 1, 1, 0, 1, 0, 0, 1, 0, 0, 1, 1, 0]) (id := 12) (by kernel_rfl) (by kernel_rfl) [0, 0, 3, 7, 15, 0, 0, 96, 224, 480, 1023] 11 (by kernel_rfl) (J := (fun _ w_ => Kp No w1399 w_)) (fun w_ h1 h2 h3 h4 => Kp.same h1 h2 h3 h4) ?_
      refine k_pure 2 [.slice A1325 t1320.length c1326, .int .i64 x1381] (by kernel_rfl) (fun _ => by kernel_rfl) (fun _ _ _ _ _ h => h) ?_
      refine k_op (.pointer (some (eaOf A1325 (x1381.toNat * 2)))) (by kernel_rfl) (fun b_ w_ hJ hb_ hd_ he_ => ow_index (K := (Kapi_Range 44)) (T := 38) (e := 44) (sz := 2) (x := (Operand.tmp 42)) (y := (Operand.tmp 43)) (k := .i64) (n := t1320.length) (c := c1326) (A := A1325) (xs := t1320) (iv := x1381) (by kernel_rfl) (by kernel_rfl) (by kernel_rfl) (by kernel_rfl) h1405 h1406 (Ow.rdNo (Ow.kpNo ho1404 hJ)) (Ow.len ho1404) (by kernel_rfl) ⟨rfl, hJ⟩) ?_
      refine k_pure 4 [.pointer (some ((eaOf A1325 (x1381.toNat * 2)).add 1))] (by kernel_rfl) (fun _ => by kernel_rfl) (fun _ _ _ _ _ h => h) ?_
      refine k_op (.int .u8 (((rd zapi_Range t1320 x1381)).f1)) (by kernel_rfl) (fun b_ w_ hJ hb_ hd_ he_ => ow_loadE (K := (Kapi_Range 44)) (T := 5) (x := (Operand.tmp 45)) (off := 1) (A := A1325) (n := t1320.length) (xs := t1320) (iv := x1381) zapi_Range (.int .u8 (((rd zapi_Range t1320 x1381)).f1)) (by kernel_rfl) (by kernel_rfl) (Ow.rdNo (Ow.kpNo ho1404 hJ)) (Ow.len ho1404) h1405 h1406 (by kernel_rfl) ⟨rfl, hJ⟩) ?_
      refine k_pure 7 [.slice A1325 t1320.length c1326, .int .i64 x1381] (by kernel_rfl) (fun _ => by kernel_rfl) (fun _ _ _ _ _ h => h) ?_
      refine k_op (.pointer (some (eaOf A1325 (x1381.toNat * 2)))) (by kernel_rfl) (fun b_ w_ hJ hb_ hd_ he_ => ow_index (K := (Kapi_Range 44)) (T := 38) (e := 44) (sz := 2) (x := (Operand.tmp 47)) (y := (Operand.tmp 48)) (k := .i64) (n := t1320.length) (c := c1326) (A := A1325) (xs := t1320) (iv := x1381) (by kernel_rfl) (by kernel_rfl) (by kernel_rfl) (by kernel_rfl) h1405 h1406 (Ow.rdNo (Ow.kpNo ho1404 hJ)) (Ow.len ho1404) (by kernel_rfl) ⟨rfl, hJ⟩) ?_
      refine k_pure 9 [.pointer (some ((eaOf A1325 (x1381.toNat * 2)).add 0))] (by kernel_rfl) (fun _ => by kernel_rfl) (fun _ _ _ _ _ h => h) ?_
      refine k_op (.int .u8 (((rd zapi_Range t1320 x1381)).f0)) (by kernel_rfl) (fun b_ w_ hJ hb_ hd_ he_ => ow_loadE (K := (Kapi_Range 44)) (T := 5) (x := (Operand.tmp 50)) (off := 0) (A := A1325) (n := t1320.length) (xs := t1320) (iv := x1381) zapi_Range (.int .u8 (((rd zapi_Range t1320 x1381)).f0)) (by kernel_rfl) (by kernel_rfl) (Ow.rdNo (Ow.kpNo ho1404 hJ)) (Ow.len ho1404) h1405 h1406 (by kernel_rfl) ⟨rfl, hJ⟩) ?_
      refine k_pure 11 [.bool (decide ((((rd zapi_Range t1320 x1381)).f1) > (((rd zapi_Range t1320 x1381)).f0)))] (by kernel_rfl) (fun _ => by kernel_rfl) (fun _ _ _ _ _ h => h) ?_
      refine k_nil ?_
      rintro b_ w1407 hall_ k_
      have k1408 := k_
      have k1409 := Kp.trans k1400 k1408 (fun _ h => h.elim)
      have ho1410 := Ow.kpNo ho1404 k1408
      refine r_fin 11 (by kernel_rfl) ?_
      refine q_then ?_
      refine w_cond (p := [1, 1, 1, 1, 0, 1, 0, 0, 1, 0, 0, 1, 1, 1]) (p0 := [1, 1, 1, 1, 0, 1, 0, 0, 1, 0, 0, 1, 1, 1, 0]) (p1 := [1, 1, 1, 1, 0, 1, 0, 0, 1, 0, 0, 1, 1, 1, 1]) (c := (Operand.tmp 52)) (b := decide ((((rd zapi_Range t1320 x1381)).f1) > (((rd zapi_Range t1320 x1381)).f0))) (by kernel_rfl) (by kernel_rfl) ?_ ?_
      · intro h_
        have h1411 : (((rd zapi_Range t1320 x1381)).f1) > (((rd zapi_Range t1320 x1381)).f0) := by simpa using h_
        clear h_
        rw [if_pos h1411] at H
        refine w_region (p := [1, 1, 1, 1, 0, 1, 0, 0, 1, 0, 0, 1, 1, 1, 0]) (id := 13) (by kernel_rfl) ?_
        refine r_vals 0 3 [.string x1402, .slice A1325 t1320.length c1326, .int .i64 x1381] (by kernel_rfl) (by kernel_rfl) ?_
        refine r_do 3 (by kernel_rfl) (ow_index (K := (Kapi_Range 44)) (T := 38) (e := 44) (sz := 2) (x := (Operand.tmp 54)) (y := (Operand.tmp 55)) (k := .i64) (n := t1320.length) (c := c1326) (A := A1325) (xs := t1320) (iv := x1381) (by kernel_rfl) (by kernel_rfl) (by kernel_rfl) (by kernel_rfl) h1405 h1406 (Ow.rdNo ho1410) (Ow.len ho1410) (by kernel_rfl) ?_) 
        refine r_vals 4 5 [.pointer (some ((eaOf A1325 (x1381.toNat * 2)).add 1))] (by kernel_rfl) (by kernel_rfl) ?_
        refine r_do 5 (by kernel_rfl) (ow_loadE (K := (Kapi_Range 44)) (T := 5) (x := (Operand.tmp 57)) (off := 1) (A := A1325) (n := t1320.length) (xs := t1320) (iv := x1381) zapi_Range (.int .u8 (((rd zapi_Range t1320 x1381)).f1)) (by kernel_rfl) (by kernel_rfl) (Ow.rdNo ho1410) (Ow.len ho1410) h1405 h1406 (by kernel_rfl) ?_) 
        obtain ⟨t1412, ht1413, H⟩ := Option.bind_eq_some_iff.1 H
        refine r_do 6 (by kernel_rfl) (og_call (g := 64) (av := #[.int .u8 (((rd zapi_Range t1320 x1381)).f1)]) (by kernel_rfl) ?_) 
        refine (dowelref03_spelled.ok K (((rd zapi_Range t1320 x1381)).f1) w1407 t1412 ht1413).mono ?_
        rintro e w1414 ⟨rfl, k1415⟩
        refine ⟨_, rfl, ?_⟩
        have k1416 := Kp.trans k1409 k1415 (fun _ h => h.elim)
        have ho1417 := Ow.kpNo ho1410 k1415
        refine p_split (x1402.size + t1412.size ≤ 9223372036854775807) (fun h1418 => ?_) (fun h1418 => ?_)
        · rw [if_pos h1418] at H
          refine r_do 7 (by kernel_rfl) (og_cat (T := 9) (U := 9) (x := (Operand.tmp 53)) (y := (Operand.tmp 59)) (by kernel_rfl) (by kernel_rfl) (by kernel_rfl) h1418 ?_) 
          refine r_vals 8 9 [.string (x1402 ++ t1412)] (by kernel_rfl) (by kernel_rfl) ?_
          refine r_fin 9 (by kernel_rfl) ?_
          refine q_in ?_
          refine q_into (dowelref03_Text.j3F (x1402 ++ t1412) A1325 t1320 c1326 x1381) (by kernel_rfl) (fun u_ => ?_)
          exact dowelref03_Text.j3.ok K a0 w r A1325 t1320 c1326 x1381 next1 brk1_0 HR HN1 HX1_0 (x1402 ++ t1412) u_ w1414 k1416 ho1417 H
        · rw [if_neg h1418] at H
          cases H
      · intro h_
        have h1411 : ¬ ((((rd zapi_Range t1320 x1381)).f1) > (((rd zapi_Range t1320 x1381)).f0)) := by simpa using h_
        clear h_
        rw [if_neg h1411] at H
        refine w_skip (p := [1, 1, 1, 1, 0, 1, 0, 0, 1, 0, 0, 1, 1, 1, 1]) (by kernel_rfl) ?_
        refine q_in ?_
        refine q_into (dowelref03_Text.j3F x1402 A1325 t1320 c1326 x1381) (by kernel_rfl) (fun u_ => ?_)
        exact dowelref03_Text.j3.ok K a0 w r A1325 t1320 c1326 x1381 next1 brk1_0 HR HN1 HX1_0 x1402 u_ w1407 k1409 ho1410 H
    · rw [if_neg h1406] at H
      cases H
  · rw [if_neg h1405] at H
    cases H
set_option maxRecDepth 20000 in
set_option maxHeartbeats 4000000 in
theorem dowelref03_Text.b1.ok (K : Nat) (a0 : Tapi_Class) (w : World) (r : ByteArray) (A1325 : Option Addr) (t1320 : List Tapi_Range) (c1326 : Nat) {Q : Exit → Act → World → Prop} (HR : ∀ a w', bodyPost Try.prog Try.f22 (dowelref03_Text.R r w) .ret a w' → Q .ret a w') {next1 : ByteArray → Int → Option (ByteArray)} {brk1_0 : ByteArray → Option (ByteArray)} (HN1 : ∀ (x1380q : ByteArray) (x1381q : Int) (u1377q : Nat → Value) (w1378q : World) (k1379q : Kp No w w1378q) (ho1383q : Ow w (Kapi_Range 44) w1378q A1325 t1320.length c1326 t1320), next1 x1380q x1381q = some r → Q .normal ⟨dowelref03_Text.F1 x1380q A1325 t1320 c1326 x1381q u1377q, []⟩ w1378q) (HX1_0 : ∀ (x1428q : ByteArray) (u1427q : Nat → Value) (w1425q : World) (k1426q : Kp No w w1425q) , brk1_0 x1428q = some r → Q (.exit 0) ⟨dowelref03_Text.F1_0 x1428q u1427q, []⟩ w1425q) (x1380 : ByteArray) (x1381 : Int) (u1377 : Nat → Value) (w1378 : World) (k1379 : Kp No w w1378) (ho1383 : Ow w (Kapi_Range 44) w1378 A1325 t1320.length c1326 t1320) (H : dowelref03_Text.b1 t1320 K next1 brk1_0 x1380 x1381 = some r) : (cd Try.f22 [1, 1, 1, 1, 0, 1, 0, 0]).wp Try.prog Q ⟨dowelref03_Text.F1 x1380 A1325 t1320 c1326 x1381 u1377, []⟩ w1378 := by
  unfold dowelref03_Text.b1 at H
  refine w_seq (p := [1, 1, 1, 1, 0, 1, 0, 0]) (p0 := [1, 1, 1, 1, 0, 1, 0, 0, 0]) (p1 := [1, 1, 1, 1, 0, 1, 0, 0, 1]) (by kernel_rfl) ?_
  refine w_seq (p := [1, 1, 1, 1, 0, 1, 0, 0, 0]) (p0 := [1, 1, 1, 1, 0, 1, 0, 0, 0, 0]) (p1 := [1, 1, 1, 1, 0, 1, 0, 0, 0, 1]) (by kernel_rfl) ?_
  refine w_region (p := [1, 1, 1, 1, 0, 1, 0, 0, 0, 0]) (id := 7) (by kernel_rfl) ?_
  refine r_vals 0 4 [.int .i64 x1381, .slice A1325 t1320.length c1326, .int .i64 (t1320.length : Int), .bool (decide (x1381 < (t1320.length : Int)))] (by kernel_rfl) (by kernel_rfl) ?_
  refine r_fin 4 (by kernel_rfl) ?_
  refine q_then ?_
  refine w_cond (p := [1, 1, 1, 1, 0, 1, 0, 0, 0, 1]) (p0 := [1, 1, 1, 1, 0, 1, 0, 0, 0, 1, 0]) (p1 := [1, 1, 1, 1, 0, 1, 0, 0, 0, 1, 1]) (c := (Operand.tmp 17)) (b := decide (x1381 < (t1320.length : Int))) (by kernel_rfl) (by kernel_rfl) ?_ ?_
  · intro h_
    have h1384 : x1381 < (t1320.length : Int) := by simpa using h_
    clear h_
    rw [if_pos h1384] at H
    refine w_skip (p := [1, 1, 1, 1, 0, 1, 0, 0, 0, 1, 0]) (by kernel_rfl) ?_
    refine q_then ?_
    refine w_seq (p := [1, 1, 1, 1, 0, 1, 0, 0, 1]) (p0 := [1, 1, 1, 1, 0, 1, 0, 0, 1, 0]) (p1 := [1, 1, 1, 1, 0, 1, 0, 0, 1, 1]) (by kernel_rfl) ?_
    refine w_block (p := [1, 1, 1, 1, 0, 1, 0, 0, 1, 0]) (p0 := [1, 1, 1, 1, 0, 1, 0, 0, 1, 0, 0]) (id := 1) (by kernel_rfl) ?_
    refine w_seq (p := [1, 1, 1, 1, 0, 1, 0, 0, 1, 0, 0]) (p0 := [1, 1, 1, 1, 0, 1, 0, 0, 1, 0, 0, 0]) (p1 := [1, 1, 1, 1, 0, 1, 0, 0, 1, 0, 0, 1]) (by kernel_rfl) ?_
    refine w_region (p := [1, 1, 1, 1, 0, 1, 0, 0, 1, 0, 0, 0]) (id := 9) (by kernel_rfl) ?_
    refine r_vals 0 3 [.string x1380, .slice A1325 t1320.length c1326, .int .i64 x1381] (by kernel_rfl) (by kernel_rfl) ?_
    refine p_split (0 ≤ x1381) (fun h1385 => ?_) (fun h1385 => ?_)
    · rw [if_pos h1385] at H
      refine r_do 3 (by kernel_rfl) (ow_index (K := (Kapi_Range 44)) (T := 38) (e := 44) (sz := 2) (x := (Operand.tmp 21)) (y := (Operand.tmp 22)) (k := .i64) (n := t1320.length) (c := c1326) (A := A1325) (xs := t1320) (iv := x1381) (by kernel_rfl) (by kernel_rfl) (by kernel_rfl) (by kernel_rfl) h1385 h1384 (Ow.rdNo ho1383) (Ow.len ho1383) (by kernel_rfl) ?_) 
      refine r_vals 4 5 [.pointer (some ((eaOf A1325 (x1381.toNat * 2)).add 0))] (by kernel_rfl) (by kernel_rfl) ?_
      refine r_do 5 (by kernel_rfl) (ow_loadE (K := (Kapi_Range 44)) (T := 5) (x := (Operand.tmp 24)) (off := 0) (A := A1325) (n := t1320.length) (xs := t1320) (iv := x1381) zapi_Range (.int .u8 (((rd zapi_Range t1320 x1381)).f0)) (by kernel_rfl) (by kernel_rfl) (Ow.rdNo ho1383) (Ow.len ho1383) h1385 h1384 (by kernel_rfl) ?_) 
      obtain ⟨t1386, ht1387, H⟩ := Option.bind_eq_some_iff.1 H
      refine r_do 6 (by kernel_rfl) (og_call (g := 64) (av := #[.int .u8 (((rd zapi_Range t1320 x1381)).f0)]) (by kernel_rfl) ?_) 
      refine (dowelref03_spelled.ok K (((rd zapi_Range t1320 x1381)).f0) w1378 t1386 ht1387).mono ?_
      rintro e w1388 ⟨rfl, k1389⟩
      refine ⟨_, rfl, ?_⟩
      have k1390 := Kp.trans k1379 k1389 (fun _ h => h.elim)
      have ho1391 := Ow.kpNo ho1383 k1389
      refine p_split (x1380.size + t1386.size ≤ 9223372036854775807) (fun h1392 => ?_) (fun h1392 => ?_)
      · rw [if_pos h1392] at H
        refine r_do 7 (by kernel_rfl) (og_cat (T := 9) (U := 9) (x := (Operand.tmp 20)) (y := (Operand.tmp 26)) (by kernel_rfl) (by kernel_rfl) (by kernel_rfl) h1392 ?_) 
        refine r_vals 8 9 [.string (x1380 ++ t1386)] (by kernel_rfl) (by kernel_rfl) ?_
        refine r_fin 9 (by kernel_rfl) ?_
        refine q_then ?_
        refine w_seq (p := [1, 1, 1, 1, 0, 1, 0, 0, 1, 0, 0, 1]) (p0 := [1, 1, 1, 1, 0, 1, 0, 0, 1, 0, 0, 1, 0]) (p1 := [1, 1, 1, 1, 0, 1, 0, 0, 1, 0, 0, 1, 1]) (by kernel_rfl) ?_
        refine w_seq (p := [1, 1, 1, 1, 0, 1, 0, 0, 1, 0, 0, 1, 0]) (p0 := [1, 1, 1, 1, 0, 1, 0, 0, 1, 0, 0, 1, 0, 0]) (p1 := [1, 1, 1, 1, 0, 1, 0, 0, 1, 0, 0, 1, 0, 1]) (by kernel_rfl) ?_
        refine w_drawk (p := [1, 1, 1, 1, 0, 1, 0, 0, 1, 0, 0, 1, 0, 0]) (id := 10) (by kernel_rfl) (by kernel_rfl) [0, 0, 3, 7, 15, 0, 0, 96, 224, 480, 1023, 2047] 12 (by kernel_rfl) (J := (fun _ w_ => Kp No w1388 w_)) (fun w_ h1 h2 h3 h4 => Kp.same h1 h2 h3 h4) ?_
        refine k_pure 2 [.slice A1325 t1320.length c1326, .int .i64 x1381] (by kernel_rfl) (fun _ => by kernel_rfl) (fun _ _ _ _ _ h => h) ?_
        refine k_op (.pointer (some (eaOf A1325 (x1381.toNat * 2)))) (by kernel_rfl) (fun b_ w_ hJ hb_ hd_ he_ => ow_index (K := (Kapi_Range 44)) (T := 38) (e := 44) (sz := 2) (x := (Operand.tmp 28)) (y := (Operand.tmp 29)) (k := .i64) (n := t1320.length) (c := c1326) (A := A1325) (xs := t1320) (iv := x1381) (by kernel_rfl) (by kernel_rfl) (by kernel_rfl) (by kernel_rfl) h1385 h1384 (Ow.rdNo (Ow.kpNo ho1391 hJ)) (Ow.len ho1391) (by kernel_rfl) ⟨rfl, hJ⟩) ?_
        refine k_pure 4 [.pointer (some ((eaOf A1325 (x1381.toNat * 2)).add 1))] (by kernel_rfl) (fun _ => by kernel_rfl) (fun _ _ _ _ _ h => h) ?_
        refine k_op (.int .u8 (((rd zapi_Range t1320 x1381)).f1)) (by kernel_rfl) (fun b_ w_ hJ hb_ hd_ he_ => ow_loadE (K := (Kapi_Range 44)) (T := 5) (x := (Operand.tmp 31)) (off := 1) (A := A1325) (n := t1320.length) (xs := t1320) (iv := x1381) zapi_Range (.int .u8 (((rd zapi_Range t1320 x1381)).f1)) (by kernel_rfl) (by kernel_rfl) (Ow.rdNo (Ow.kpNo ho1391 hJ)) (Ow.len ho1391) h1385 h1384 (by kernel_rfl) ⟨rfl, hJ⟩) ?_
        refine k_pure 7 [.slice A1325 t1320.length c1326, .int .i64 x1381] (by kernel_rfl) (fun _ => by kernel_rfl) (fun _ _ _ _ _ h => h) ?_
        refine k_op (.pointer (some (eaOf A1325 (x1381.toNat * 2)))) (by kernel_rfl) (fun b_ w_ hJ hb_ hd_ he_ => ow_index (K := (Kapi_Range 44)) (T := 38) (e := 44) (sz := 2) (x := (Operand.tmp 33)) (y := (Operand.tmp 34)) (k := .i64) (n := t1320.length) (c := c1326) (A := A1325) (xs := t1320) (iv := x1381) (by kernel_rfl) (by kernel_rfl) (by kernel_rfl) (by kernel_rfl) h1385 h1384 (Ow.rdNo (Ow.kpNo ho1391 hJ)) (Ow.len ho1391) (by kernel_rfl) ⟨rfl, hJ⟩) ?_
        refine k_pure 9 [.pointer (some ((eaOf A1325 (x1381.toNat * 2)).add 0))] (by kernel_rfl) (fun _ => by kernel_rfl) (fun _ _ _ _ _ h => h) ?_
        refine k_op (.int .u8 (((rd zapi_Range t1320 x1381)).f0)) (by kernel_rfl) (fun b_ w_ hJ hb_ hd_ he_ => ow_loadE (K := (Kapi_Range 44)) (T := 5) (x := (Operand.tmp 36)) (off := 0) (A := A1325) (n := t1320.length) (xs := t1320) (iv := x1381) zapi_Range (.int .u8 (((rd zapi_Range t1320 x1381)).f0)) (by kernel_rfl) (by kernel_rfl) (Ow.rdNo (Ow.kpNo ho1391 hJ)) (Ow.len ho1391) h1385 h1384 (by kernel_rfl) ⟨rfl, hJ⟩) ?_
        refine k_pure 12 [.int .u8 (W8 ((((rd zapi_Range t1320 x1381)).f1) - (((rd zapi_Range t1320 x1381)).f0))), .bool (decide ((W8 ((((rd zapi_Range t1320 x1381)).f1) - (((rd zapi_Range t1320 x1381)).f0))) > 1))] (by kernel_rfl) (fun _ => by kernel_rfl) (fun _ _ _ _ _ h => h) ?_
        refine k_nil ?_
        rintro b_ w1393 hall_ k_
        have k1394 := k_
        have k1395 := Kp.trans k1390 k1394 (fun _ h => h.elim)
        have ho1396 := Ow.kpNo ho1391 k1394
        refine r_fin 12 (by kernel_rfl) ?_
        refine q_then ?_
        refine w_cond (p := [1, 1, 1, 1, 0, 1, 0, 0, 1, 0, 0, 1, 0, 1]) (p0 := [1, 1, 1, 1, 0, 1, 0, 0, 1, 0, 0, 1, 0, 1, 0]) (p1 := [1, 1, 1, 1, 0, 1, 0, 0, 1, 0, 0, 1, 0, 1, 1]) (c := (Operand.tmp 39)) (b := decide ((W8 ((((rd zapi_Range t1320 x1381)).f1) - (((rd zapi_Range t1320 x1381)).f0))) > 1)) (by kernel_rfl) (by kernel_rfl) ?_ ?_
        · intro h_
          have h1397 : (W8 ((((rd zapi_Range t1320 x1381)).f1) - (((rd zapi_Range t1320 x1381)).f0))) > 1 := by simpa using h_
          clear h_
          rw [if_pos h1397] at H
          refine w_region (p := [1, 1, 1, 1, 0, 1, 0, 0, 1, 0, 0, 1, 0, 1, 0]) (id := 11) (by kernel_rfl) ?_
          refine r_vals 0 1 [.string (x1380 ++ t1386)] (by kernel_rfl) (by kernel_rfl) ?_
          refine p_split ((x1380 ++ t1386).size + (⟨#[45]⟩ : ByteArray).size ≤ 9223372036854775807) (fun h1398 => ?_) (fun h1398 => ?_)
          · rw [if_pos h1398] at H
            refine r_do 1 (by kernel_rfl) (og_cat (T := 9) (U := 9) (x := (Operand.tmp 40)) (y := (Operand.const (Value.string { data := #[45] }))) (by kernel_rfl) (by kernel_rfl) (by kernel_rfl) h1398 ?_) 
            refine r_vals 2 3 [.string ((x1380 ++ t1386) ++ (⟨#[45]⟩ : ByteArray))] (by kernel_rfl) (by kernel_rfl) ?_
            refine r_fin 3 (by kernel_rfl) ?_
            refine q_then ?_
            refine w_into (dowelref03_Text.j2F ((x1380 ++ t1386) ++ (⟨#[45]⟩ : ByteArray)) A1325 t1320 c1326 x1381) (by kernel_rfl) (fun u_ => ?_)
            exact dowelref03_Text.j2.ok K a0 w r A1325 t1320 c1326 x1381 next1 brk1_0 HR HN1 HX1_0 ((x1380 ++ t1386) ++ (⟨#[45]⟩ : ByteArray)) u_ w1393 k1395 ho1396 H
          · rw [if_neg h1398] at H
            cases H
        · intro h_
          have h1397 : ¬ ((W8 ((((rd zapi_Range t1320 x1381)).f1) - (((rd zapi_Range t1320 x1381)).f0))) > 1) := by simpa using h_
          clear h_
          rw [if_neg h1397] at H
          refine w_skip (p := [1, 1, 1, 1, 0, 1, 0, 0, 1, 0, 0, 1, 0, 1, 1]) (by kernel_rfl) ?_
          refine q_then ?_
          refine w_into (dowelref03_Text.j2F (x1380 ++ t1386) A1325 t1320 c1326 x1381) (by kernel_rfl) (fun u_ => ?_)
          exact dowelref03_Text.j2.ok K a0 w r A1325 t1320 c1326 x1381 next1 brk1_0 HR HN1 HX1_0 (x1380 ++ t1386) u_ w1393 k1395 ho1396 H
      · rw [if_neg h1392] at H
        cases H
    · rw [if_neg h1385] at H
      cases H
  · intro h_
    have h1384 : ¬ (x1381 < (t1320.length : Int)) := by simpa using h_
    clear h_
    rw [if_neg h1384] at H
    refine w_exit (p := [1, 1, 1, 1, 0, 1, 0, 0, 0, 1, 1]) (id := 0) (by kernel_rfl) ?_
    refine q_then_x ?_
    refine q_into (dowelref03_Text.F1_0 x1380) (by kernel_rfl) (fun u_ => ?_)
    exact HX1_0 x1380 u_ w1378 k1379 H
set_option maxRecDepth 20000 in
set_option maxHeartbeats 4000000 in
theorem dowelref03_Text.l1.ok (K : Nat) (a0 : Tapi_Class) (w : World) (r : ByteArray) (A1325 : Option Addr) (t1320 : List Tapi_Range) (c1326 : Nat) {Q : Exit → Act → World → Prop} (HR : ∀ a w', bodyPost Try.prog Try.f22 (dowelref03_Text.R r w) .ret a w' → Q .ret a w') {brk1_0 : ByteArray → Option (ByteArray)} (HX1_0 : ∀ (x1428q : ByteArray) (u1427q : Nat → Value) (w1425q : World) (k1426q : Kp No w w1425q) , brk1_0 x1428q = some r → Q (.exit 0) ⟨dowelref03_Text.F1_0 x1428q u1427q, []⟩ w1425q) : ∀ (n_ : Nat) (x1380 : ByteArray) (x1381 : Int) (u1377 : Nat → Value) (w1378 : World) (k1379 : Kp No w w1378) (ho1383 : Ow w (Kapi_Range 44) w1378 A1325 t1320.length c1326 t1320) (H : dowelref03_Text.l1 t1320 K brk1_0 n_ x1380 x1381 = some r), Code.rounds Try.prog (cd Try.f22 [1, 1, 1, 1, 0, 1, 0, 0]) Q n_ ⟨dowelref03_Text.F1 x1380 A1325 t1320 c1326 x1381 u1377, []⟩ w1378
  | 0, _, _, _, _, _, _, H => by cases H
  | n_ + 1, x1380, x1381, u1377, w1378, k1379, ho1383, H =>
    dowelref03_Text.b1.ok K a0 w r A1325 t1320 c1326 (Q := Exit.then (Code.rounds Try.prog (cd Try.f22 [1, 1, 1, 1, 0, 1, 0, 0]) Q n_) Q) (fun a w' h_ => q_then_r (HR a w' h_)) (fun x0_ x1_ x2_ x3_ x4_ x5_ h_ => dowelref03_Text.l1.ok K a0 w r A1325 t1320 c1326 HR HX1_0 n_ x0_ x1_ x2_ x3_ x4_ x5_ h_) (fun x0_ x1_ x2_ x3_ h_ => q_then_x (HX1_0 x0_ x1_ x2_ x3_ h_)) x1380 x1381 u1377 w1378 k1379 ho1383 H
set_option maxRecDepth 20000 in
set_option maxHeartbeats 4000000 in
theorem dowelref03_Text.j0.ok (K : Nat) (a0 : Tapi_Class) (w : World) (r : ByteArray) {Q : Exit → Act → World → Prop} (b1281 : Nat) (HR : ∀ a w', bodyPost Try.prog Try.f22 (dowelref03_Text.R r w) .ret a w' → Q .ret a w')  (x1314 : ByteArray) (y1315 : Int) (y1316 : Int) (y1317 : Int) (y1318 : Int) (u1313 : Nat → Value) (w1311 : World) (k1312 : Kp No w w1311) (hb1319 : Blk w1311 b1281 #[.int .u64 y1315, .int .u64 y1316, .int .u64 y1317, .int .u64 y1318] 37) (ghb1319 : w.heap.size ≤ b1281) (H : dowelref03_Text.j0 K y1315 y1316 y1317 y1318 x1314 = some r) : (cd Try.f22 [1, 1, 1]).wp Try.prog Q ⟨dowelref03_Text.j0F b1281 x1314 u1313, []⟩ w1311 := by
  unfold dowelref03_Text.j0 at H
  refine w_seq (p := [1, 1, 1]) (p0 := [1, 1, 1, 0]) (p1 := [1, 1, 1, 1]) (by kernel_rfl) ?_
  refine w_region (p := [1, 1, 1, 0]) (id := 5) (by kernel_rfl) ?_
  refine r_do 0 (by kernel_rfl) (og_load (T := 37) (x := (Operand.tmp 1)) (b := b1281) (off := 0) (.agg #[.int .u64 y1315, .int .u64 y1316, .int .u64 y1317, .int .u64 y1318]) (by kernel_rfl) (by kernel_rfl) hb1319 (by kernel_rfl) ?_) 
  obtain ⟨t1320, ht1321, H⟩ := Option.bind_eq_some_iff.1 H
  refine r_do 1 (by kernel_rfl) (og_call (g := 19) (av := #[.agg #[.int .u64 y1315, .int .u64 y1316, .int .u64 y1317, .int .u64 y1318]]) (by kernel_rfl) ?_) 
  refine (dowelref03_Ranges.ok K (⟨y1315, y1316, y1317, y1318⟩ : Tapi_Class) w1311 t1320 ht1321).mono ?_
  rintro e w1322 ⟨A1325, n1328, c1326, rfl, k1323, ho1329⟩
  obtain rfl := ho1329.len
  refine ⟨_, rfl, ?_⟩
  have n1330 := blk_dj_call hb1319 ho1329
  have ho1327 := Ow.base ho1329 k1312
  have k1331 := Kp.trans k1312 k1323 (fun _ h => h.elim)
  have hb1332 := Blk.kp hb1319 k1323 id
  refine r_vals 2 3 [.slice A1325 t1320.length c1326] (by kernel_rfl) (by kernel_rfl) ?_
  refine r_fin 3 (by kernel_rfl) ?_
  refine q_then ?_
  refine w_seq (p := [1, 1, 1, 1]) (p0 := [1, 1, 1, 1, 0]) (p1 := [1, 1, 1, 1, 1]) (by kernel_rfl) ?_
  refine w_seq (p := [1, 1, 1, 1, 0]) (p0 := [1, 1, 1, 1, 0, 0]) (p1 := [1, 1, 1, 1, 0, 1]) (by kernel_rfl) ?_
  refine w_region (p := [1, 1, 1, 1, 0, 0]) (id := 6) (by kernel_rfl) ?_
  refine r_vals 0 1 [.int .i64 0] (by kernel_rfl) (by kernel_rfl) ?_
  refine r_fin 1 (by kernel_rfl) ?_
  refine q_then ?_
  refine w_block (p := [1, 1, 1, 1, 0, 1]) (p0 := [1, 1, 1, 1, 0, 1, 0]) (id := 0) (by kernel_rfl) ?_
  refine w_into (dowelref03_Text.F1 x1314 A1325 t1320 c1326 0) (by kernel_rfl) (fun u_ => ?_)
  refine w_loop (p := [1, 1, 1, 1, 0, 1, 0]) (p0 := [1, 1, 1, 1, 0, 1, 0, 0]) K (by kernel_rfl) ?_
  refine dowelref03_Text.l1.ok K a0 w r A1325 t1320 c1326 (fun a w' h_ => q_in_r (q_then_r (HR a w' h_))) ?_ K x1314 0 u_ w1322 k1331 ho1327 H
  intro x1428 u1427 w1425 k1426 H
  try dsimp only at H
  refine q_in_hit ?_
  refine q_then ?_
  refine w_seq (p := [1, 1, 1, 1, 1]) (p0 := [1, 1, 1, 1, 1, 0]) (p1 := [1, 1, 1, 1, 1, 1]) (by kernel_rfl) ?_
  refine w_region (p := [1, 1, 1, 1, 1, 0]) (id := 14) (by kernel_rfl) ?_
  refine r_vals 0 1 [.string x1428] (by kernel_rfl) (by kernel_rfl) ?_
  refine p_split (x1428.size + (⟨#[93]⟩ : ByteArray).size ≤ 9223372036854775807) (fun h1429 => ?_) (fun h1429 => ?_)
  · rw [if_pos h1429] at H
    refine r_do 1 (by kernel_rfl) (og_cat (T := 9) (U := 9) (x := (Operand.tmp 61)) (y := (Operand.const (Value.string { data := #[93] }))) (by kernel_rfl) (by kernel_rfl) (by kernel_rfl) h1429 ?_) 
    refine r_vals 2 3 [.string (x1428 ++ (⟨#[93]⟩ : ByteArray))] (by kernel_rfl) (by kernel_rfl) ?_
    refine r_fin 3 (by kernel_rfl) ?_
    refine q_then ?_
    refine w_ret (p := [1, 1, 1, 1, 1, 1]) (by kernel_rfl) ?_
    obtain rfl := Option.some.inj H
    refine HR _ _ (body_ret (vs := [.string (x1428 ++ (⟨#[93]⟩ : ByteArray))]) (rv_tmp (by kernel_rfl) rfl) rfl ?_)
    exact ⟨rfl, k1426⟩
  · rw [if_neg h1429] at H
    cases H
set_option maxRecDepth 20000 in
set_option maxHeartbeats 4000000 in
theorem dowelref03_Text.ok (K : Nat) (a0 : Tapi_Class) (w : World)  (r : ByteArray) (H : dowelref03_Text.f K a0 = some r) : Calls Try.prog 22 #[.agg #[.int .u64 a0.f0, .int .u64 a0.f1, .int .u64 a0.f2, .int .u64 a0.f3]] w (dowelref03_Text.R r w) := by
  refine calls_cd (t := #[.agg #[.int .u64 a0.f0, .int .u64 a0.f1, .int .u64 a0.f2, .int .u64 a0.f3], undef, undef, undef, undef, undef, undef, undef, undef, undef, undef, undef, undef, undef, undef, undef, undef, undef, undef, undef, undef, undef, undef, undef, undef, undef, undef, undef, undef, undef, undef, undef, undef, undef, undef, undef, undef, undef, undef, undef, undef, undef, undef, undef, undef, undef, undef, undef, undef, undef, undef, undef, undef, undef, undef, undef, undef, undef, undef, undef, undef, undef, undef]) Try.func22 (by kernel_rfl) (by kernel_rfl) ?_
  unfold dowelref03_Text.f at H
  have HR : ∀ a w', bodyPost Try.prog Try.f22 (dowelref03_Text.R r w) .ret a w' → bodyPost Try.prog Try.f22 (dowelref03_Text.R r w) .ret a w' := fun _ _ h => h
  refine w_seq (p := []) (p0 := [0]) (p1 := [1]) (by kernel_rfl) ?_
  refine w_region (p := [0]) (id := 0) (by kernel_rfl) ?_
  refine r_do 0 (by kernel_rfl) (og_box (T := 37) (x := (Operand.tmp 0)) (cs := #[.int .u64 a0.f0, .int .u64 a0.f1, .int .u64 a0.f2, .int .u64 a0.f3]) (by kernel_rfl) (by kernel_rfl) ?_) 
  intro b1281 w1278 e1282 hb1280 k1279
  have g1283 : w.heap.size ≤ b1281 := by rw [e1282]; exact Kp.size (Kp.refl No w)
  clear e1282
  have k1284 := Kp.trans (Kp.refl No w) k1279 (fun _ h => h.elim)
  refine r_vals 1 2 [.string (⟨#[]⟩ : ByteArray)] (by kernel_rfl) (by kernel_rfl) ?_
  refine r_fin 2 (by kernel_rfl) ?_
  refine q_then ?_
  refine w_seq (p := [1]) (p0 := [1, 0]) (p1 := [1, 1]) (by kernel_rfl) ?_
  refine w_region (p := [1, 0]) (id := 1) (by kernel_rfl) ?_
  refine r_vals 0 1 [.string (⟨#[91]⟩ : ByteArray)] (by kernel_rfl) (by kernel_rfl) ?_
  refine r_fin 1 (by kernel_rfl) ?_
  refine q_then ?_
  refine w_seq (p := [1, 1]) (p0 := [1, 1, 0]) (p1 := [1, 1, 1]) (by kernel_rfl) ?_
  refine w_seq (p := [1, 1, 0]) (p0 := [1, 1, 0, 0]) (p1 := [1, 1, 0, 1]) (by kernel_rfl) ?_
  refine w_region (p := [1, 1, 0, 0]) (id := 2) (by kernel_rfl) ?_
  refine r_do 0 (by kernel_rfl) (og_load (T := 37) (x := (Operand.tmp 1)) (b := b1281) (off := 0) (.agg #[.int .u64 a0.f0, .int .u64 a0.f1, .int .u64 a0.f2, .int .u64 a0.f3]) (by kernel_rfl) (by kernel_rfl) hb1280 (by kernel_rfl) ?_) 
  obtain ⟨t1285, ht1286, H⟩ := Option.bind_eq_some_iff.1 H
  refine r_do 1 (by kernel_rfl) (og_call (g := 62) (av := #[.agg #[.int .u64 a0.f0, .int .u64 a0.f1, .int .u64 a0.f2, .int .u64 a0.f3]]) (by kernel_rfl) ?_) 
  refine (dowelref03_Bytes.ok K a0 w1278 t1285 ht1286).mono ?_
  rintro e w1287 ⟨A1290, n1293, c1291, rfl, k1288, ho1294⟩
  obtain rfl := ho1294.len
  refine ⟨_, rfl, ?_⟩
  have n1295 := blk_dj_call hb1280 ho1294
  have ho1292 := Ow.base ho1294 k1284
  have k1296 := Kp.trans k1284 k1288 (fun _ h => h.elim)
  have hb1297 := Blk.kp hb1280 k1288 id
  refine r_vals 2 4 [.int .i64 (t1285.length : Int), .bool (decide ((t1285.length : Int) > 128))] (by kernel_rfl) (by kernel_rfl) ?_
  refine r_fin 4 (by kernel_rfl) ?_
  refine q_then ?_
  refine w_cond (p := [1, 1, 0, 1]) (p0 := [1, 1, 0, 1, 0]) (p1 := [1, 1, 0, 1, 1]) (c := (Operand.tmp 9)) (b := decide ((t1285.length : Int) > 128)) (by kernel_rfl) (by kernel_rfl) ?_ ?_
  · intro h_
    have h1298 : (t1285.length : Int) > 128 := by simpa using h_
    clear h_
    rw [if_pos h1298] at H
    refine w_seq (p := [1, 1, 0, 1, 0]) (p0 := [1, 1, 0, 1, 0, 0]) (p1 := [1, 1, 0, 1, 0, 1]) (by kernel_rfl) ?_
    refine w_region (p := [1, 1, 0, 1, 0, 0]) (id := 3) (by kernel_rfl) ?_
    refine r_vals 0 1 [.string (⟨#[91, 94]⟩ : ByteArray)] (by kernel_rfl) (by kernel_rfl) ?_
    refine r_fin 1 (by kernel_rfl) ?_
    refine q_then ?_
    refine w_region (p := [1, 1, 0, 1, 0, 1]) (id := 4) (by kernel_rfl) ?_
    refine r_do 0 (by kernel_rfl) (og_load (T := 37) (x := (Operand.tmp 1)) (b := b1281) (off := 0) (.agg #[.int .u64 a0.f0, .int .u64 a0.f1, .int .u64 a0.f2, .int .u64 a0.f3]) (by kernel_rfl) (by kernel_rfl) hb1297 (by kernel_rfl) ?_) 
    obtain ⟨t1299, ht1300, H⟩ := Option.bind_eq_some_iff.1 H
    refine r_do 1 (by kernel_rfl) (og_call (g := 63) (av := #[.agg #[.int .u64 a0.f0, .int .u64 a0.f1, .int .u64 a0.f2, .int .u64 a0.f3]]) (by kernel_rfl) ?_) 
    refine (dowelref03_Not.ok K a0 w1287 t1299 ht1300).mono ?_
    rintro e w1301 ⟨rfl, k1302⟩
    refine ⟨_, rfl, ?_⟩
    have k1303 := Kp.trans k1296 k1302 (fun _ h => h.elim)
    have hb1304 := Blk.kp hb1297 k1302 id
    have ho1305 := Ow.kpNo ho1292 k1302
    refine r_do 2 (by kernel_rfl) (og_store (T := 37) (x := (Operand.tmp 1)) (y := (Operand.tmp 11)) (b := b1281) (off := 0) (.agg #[.int .u64 t1299.f0, .int .u64 t1299.f1, .int .u64 t1299.f2, .int .u64 t1299.f3]) (by kernel_rfl) (by kernel_rfl) (by kernel_rfl) hb1304 (cs' := #[.int .u64 t1299.f0, .int .u64 t1299.f1, .int .u64 t1299.f2, .int .u64 t1299.f3]) (by kernel_rfl) ?_) 
    intro w1307 hb1306 k1308 _
    have k1309 := Kp.trans k1303 k1308 (fun x hx => .inr (by rw [show x = _ from hx]; exact g1283))
    have ho1310 := Ow.kp ho1305 k1308 (Dj.symm n1295)
    refine r_fin 3 (by kernel_rfl) ?_
    refine q_then ?_
    refine w_into (dowelref03_Text.j0F b1281 (⟨#[91, 94]⟩ : ByteArray)) (by kernel_rfl) (fun u_ => ?_)
    exact dowelref03_Text.j0.ok K a0 w r b1281 HR  (⟨#[91, 94]⟩ : ByteArray) t1299.f0 t1299.f1 t1299.f2 t1299.f3 u_ w1307 k1309 hb1306 g1283 H
  · intro h_
    have h1298 : ¬ ((t1285.length : Int) > 128) := by simpa using h_
    clear h_
    rw [if_neg h1298] at H
    refine w_skip (p := [1, 1, 0, 1, 1]) (by kernel_rfl) ?_
    refine q_then ?_
    refine w_into (dowelref03_Text.j0F b1281 (⟨#[91]⟩ : ByteArray)) (by kernel_rfl) (fun u_ => ?_)
    exact dowelref03_Text.j0.ok K a0 w r b1281 HR  (⟨#[91]⟩ : ByteArray) a0.f0 a0.f1 a0.f2 a0.f3 u_ w1287 k1296 hb1297 g1283 H
/-! ### dowel/dowellaw03.ClassTexts -/
def dowellaw03_ClassTexts.F1 (b1433 : Nat) (A1515 : Option Addr) (t1510 : List Tapi_Range) (c1516 : Nat) (b1654 : Nat) (x1732 : Int) (u_ : Nat → Value) : Array Value := #[u_ 0, u_ 1, .pointer (some ⟨b1433, 0, none⟩), u_ 3, u_ 4, u_ 5, u_ 6, u_ 7, .slice A1515 t1510.length c1516, u_ 9, .pointer (some ⟨b1654, 0, none⟩), .int .i64 0, .int .i64 x1732, u_ 13, u_ 14, u_ 15, u_ 16, u_ 17, u_ 18, u_ 19, u_ 20, u_ 21, u_ 22, u_ 23, u_ 24, u_ 25, u_ 26, u_ 27, u_ 28, u_ 29, u_ 30, u_ 31, u_ 32, u_ 33, u_ 34, u_ 35, u_ 36, u_ 37, u_ 38, u_ 39, u_ 40, u_ 41, u_ 42, u_ 43, u_ 44, u_ 45, u_ 46, u_ 47, u_ 48, u_ 49, u_ 50, u_ 51, u_ 52, u_ 53, u_ 54, u_ 55, u_ 56, u_ 57, u_ 58, u_ 59, u_ 60, u_ 61, u_ 62, u_ 63, u_ 64, u_ 65, u_ 66, u_ 67, u_ 68, u_ 69, u_ 70, u_ 71, u_ 72, u_ 73, u_ 74, u_ 75, u_ 76, u_ 77, u_ 78, u_ 79, u_ 80, u_ 81, u_ 82, u_ 83, u_ 84, u_ 85, u_ 86, u_ 87, u_ 88, u_ 89, u_ 90, u_ 91, u_ 92, u_ 93, u_ 94, u_ 95, u_ 96, u_ 97, u_ 98, u_ 99, u_ 100, u_ 101, u_ 102, u_ 103, u_ 104, u_ 105, u_ 106, u_ 107, u_ 108, u_ 109, u_ 110, u_ 111, u_ 112, u_ 113, u_ 114, u_ 115, u_ 116, u_ 117, u_ 118, u_ 119, u_ 120, u_ 121, u_ 122, u_ 123, u_ 124, u_ 125, u_ 126, u_ 127, u_ 128, u_ 129, u_ 130, u_ 131, u_ 132, u_ 133, u_ 134, u_ 135, u_ 136, u_ 137, u_ 138, u_ 139, u_ 140, u_ 141, u_ 142, u_ 143, u_ 144, u_ 145, u_ 146, u_ 147, u_ 148, u_ 149, u_ 150]
def dowellaw03_ClassTexts.F1_2 (b1433 : Nat) (A1515 : Option Addr) (t1510 : List Tapi_Range) (c1516 : Nat) (b1654 : Nat) (u_ : Nat → Value) : Array Value := #[u_ 0, u_ 1, .pointer (some ⟨b1433, 0, none⟩), u_ 3, u_ 4, u_ 5, u_ 6, u_ 7, .slice A1515 t1510.length c1516, u_ 9, .pointer (some ⟨b1654, 0, none⟩), .int .i64 0, u_ 12, u_ 13, u_ 14, u_ 15, u_ 16, u_ 17, u_ 18, u_ 19, u_ 20, u_ 21, u_ 22, u_ 23, u_ 24, u_ 25, u_ 26, u_ 27, u_ 28, u_ 29, u_ 30, u_ 31, u_ 32, u_ 33, u_ 34, u_ 35, u_ 36, u_ 37, u_ 38, u_ 39, u_ 40, u_ 41, u_ 42, u_ 43, u_ 44, u_ 45, u_ 46, u_ 47, u_ 48, u_ 49, u_ 50, u_ 51, u_ 52, u_ 53, u_ 54, u_ 55, u_ 56, u_ 57, u_ 58, u_ 59, u_ 60, u_ 61, u_ 62, u_ 63, u_ 64, u_ 65, u_ 66, u_ 67, u_ 68, u_ 69, u_ 70, u_ 71, u_ 72, u_ 73, u_ 74, u_ 75, u_ 76, u_ 77, u_ 78, u_ 79, u_ 80, u_ 81, u_ 82, u_ 83, u_ 84, u_ 85, u_ 86, u_ 87, u_ 88, u_ 89, u_ 90, u_ 91, u_ 92, u_ 93, u_ 94, u_ 95, u_ 96, u_ 97, u_ 98, u_ 99, u_ 100, u_ 101, u_ 102, u_ 103, u_ 104, u_ 105, u_ 106, u_ 107, u_ 108, u_ 109, u_ 110, u_ 111, u_ 112, u_ 113, u_ 114, u_ 115, u_ 116, u_ 117, u_ 118, u_ 119, u_ 120, u_ 121, u_ 122, u_ 123, u_ 124, u_ 125, u_ 126, u_ 127, u_ 128, u_ 129, u_ 130, u_ 131, u_ 132, u_ 133, u_ 134, u_ 135, u_ 136, u_ 137, u_ 138, u_ 139, u_ 140, u_ 141, u_ 142, u_ 143, u_ 144, u_ 145, u_ 146, u_ 147, u_ 148, u_ 149, u_ 150]
def dowellaw03_ClassTexts.b1 (t1451 : List Tapi_Range) (next1 : List Tapi_Range → Int → Option (Bool)) (brk1_2 : List Tapi_Range → Option (Bool)) (x1731 : List Tapi_Range) (x1732 : Int) : Option (Bool) := if x1732 < (t1451.length : Int) then (if 0 ≤ x1732 then (next1 (stored x1731 x1732 (⟨0, 200⟩ : Tapi_Range)) (W (x1732 + 1))) else none) else (brk1_2 x1731)
def dowellaw03_ClassTexts.l1 (t1451 : List Tapi_Range) (brk1_2 : List Tapi_Range → Option (Bool)) : Nat → List Tapi_Range → Int → Option (Bool)
  | 0, _, _ => none
  | n_ + 1, x1731, x1732 => dowellaw03_ClassTexts.b1 t1451 (dowellaw03_ClassTexts.l1 t1451 brk1_2 n_) brk1_2 x1731 x1732
def dowellaw03_ClassTexts.F2 (b1433 : Nat) (A1515 : Option Addr) (t1510 : List Tapi_Range) (c1516 : Nat) (b1654 : Nat) (x1883 : Int) (u_ : Nat → Value) : Array Value := #[u_ 0, u_ 1, .pointer (some ⟨b1433, 0, none⟩), u_ 3, u_ 4, u_ 5, u_ 6, u_ 7, .slice A1515 t1510.length c1516, u_ 9, .pointer (some ⟨b1654, 0, none⟩), .int .i64 1, .int .i64 x1883, u_ 13, u_ 14, u_ 15, u_ 16, u_ 17, u_ 18, u_ 19, u_ 20, u_ 21, u_ 22, u_ 23, u_ 24, u_ 25, u_ 26, u_ 27, u_ 28, u_ 29, u_ 30, u_ 31, u_ 32, u_ 33, u_ 34, u_ 35, u_ 36, u_ 37, u_ 38, u_ 39, u_ 40, u_ 41, u_ 42, u_ 43, u_ 44, u_ 45, u_ 46, u_ 47, u_ 48, u_ 49, u_ 50, u_ 51, u_ 52, u_ 53, u_ 54, u_ 55, u_ 56, u_ 57, u_ 58, u_ 59, u_ 60, u_ 61, u_ 62, u_ 63, u_ 64, u_ 65, u_ 66, u_ 67, u_ 68, u_ 69, u_ 70, u_ 71, u_ 72, u_ 73, u_ 74, u_ 75, u_ 76, u_ 77, u_ 78, u_ 79, u_ 80, u_ 81, u_ 82, u_ 83, u_ 84, u_ 85, u_ 86, u_ 87, u_ 88, u_ 89, u_ 90, u_ 91, u_ 92, u_ 93, u_ 94, u_ 95, u_ 96, u_ 97, u_ 98, u_ 99, u_ 100, u_ 101, u_ 102, u_ 103, u_ 104, u_ 105, u_ 106, u_ 107, u_ 108, u_ 109, u_ 110, u_ 111, u_ 112, u_ 113, u_ 114, u_ 115, u_ 116, u_ 117, u_ 118, u_ 119, u_ 120, u_ 121, u_ 122, u_ 123, u_ 124, u_ 125, u_ 126, u_ 127, u_ 128, u_ 129, u_ 130, u_ 131, u_ 132, u_ 133, u_ 134, u_ 135, u_ 136, u_ 137, u_ 138, u_ 139, u_ 140, u_ 141, u_ 142, u_ 143, u_ 144, u_ 145, u_ 146, u_ 147, u_ 148, u_ 149, u_ 150]
def dowellaw03_ClassTexts.F2_2 (b1433 : Nat) (A1515 : Option Addr) (t1510 : List Tapi_Range) (c1516 : Nat) (b1654 : Nat) (u_ : Nat → Value) : Array Value := #[u_ 0, u_ 1, .pointer (some ⟨b1433, 0, none⟩), u_ 3, u_ 4, u_ 5, u_ 6, u_ 7, .slice A1515 t1510.length c1516, u_ 9, .pointer (some ⟨b1654, 0, none⟩), .int .i64 1, u_ 12, u_ 13, u_ 14, u_ 15, u_ 16, u_ 17, u_ 18, u_ 19, u_ 20, u_ 21, u_ 22, u_ 23, u_ 24, u_ 25, u_ 26, u_ 27, u_ 28, u_ 29, u_ 30, u_ 31, u_ 32, u_ 33, u_ 34, u_ 35, u_ 36, u_ 37, u_ 38, u_ 39, u_ 40, u_ 41, u_ 42, u_ 43, u_ 44, u_ 45, u_ 46, u_ 47, u_ 48, u_ 49, u_ 50, u_ 51, u_ 52, u_ 53, u_ 54, u_ 55, u_ 56, u_ 57, u_ 58, u_ 59, u_ 60, u_ 61, u_ 62, u_ 63, u_ 64, u_ 65, u_ 66, u_ 67, u_ 68, u_ 69, u_ 70, u_ 71, u_ 72, u_ 73, u_ 74, u_ 75, u_ 76, u_ 77, u_ 78, u_ 79, u_ 80, u_ 81, u_ 82, u_ 83, u_ 84, u_ 85, u_ 86, u_ 87, u_ 88, u_ 89, u_ 90, u_ 91, u_ 92, u_ 93, u_ 94, u_ 95, u_ 96, u_ 97, u_ 98, u_ 99, u_ 100, u_ 101, u_ 102, u_ 103, u_ 104, u_ 105, u_ 106, u_ 107, u_ 108, u_ 109, u_ 110, u_ 111, u_ 112, u_ 113, u_ 114, u_ 115, u_ 116, u_ 117, u_ 118, u_ 119, u_ 120, u_ 121, u_ 122, u_ 123, u_ 124, u_ 125, u_ 126, u_ 127, u_ 128, u_ 129, u_ 130, u_ 131, u_ 132, u_ 133, u_ 134, u_ 135, u_ 136, u_ 137, u_ 138, u_ 139, u_ 140, u_ 141, u_ 142, u_ 143, u_ 144, u_ 145, u_ 146, u_ 147, u_ 148, u_ 149, u_ 150]
def dowellaw03_ClassTexts.b2 (t1466 : List Tapi_Range) (next2 : List Tapi_Range → Int → Option (Bool)) (brk2_2 : List Tapi_Range → Option (Bool)) (x1882 : List Tapi_Range) (x1883 : Int) : Option (Bool) := if x1883 < (t1466.length : Int) then (if 0 ≤ x1883 then (next2 (stored x1882 x1883 (⟨1, 200⟩ : Tapi_Range)) (W (x1883 + 1))) else none) else (brk2_2 x1882)
def dowellaw03_ClassTexts.l2 (t1466 : List Tapi_Range) (brk2_2 : List Tapi_Range → Option (Bool)) : Nat → List Tapi_Range → Int → Option (Bool)
  | 0, _, _ => none
  | n_ + 1, x1882, x1883 => dowellaw03_ClassTexts.b2 t1466 (dowellaw03_ClassTexts.l2 t1466 brk2_2 n_) brk2_2 x1882 x1883
def dowellaw03_ClassTexts.F3 (b1433 : Nat) (A1515 : Option Addr) (t1510 : List Tapi_Range) (c1516 : Nat) (b1654 : Nat) (x2034 : Int) (u_ : Nat → Value) : Array Value := #[u_ 0, u_ 1, .pointer (some ⟨b1433, 0, none⟩), u_ 3, u_ 4, u_ 5, u_ 6, u_ 7, .slice A1515 t1510.length c1516, u_ 9, .pointer (some ⟨b1654, 0, none⟩), .int .i64 2, .int .i64 x2034, u_ 13, u_ 14, u_ 15, u_ 16, u_ 17, u_ 18, u_ 19, u_ 20, u_ 21, u_ 22, u_ 23, u_ 24, u_ 25, u_ 26, u_ 27, u_ 28, u_ 29, u_ 30, u_ 31, u_ 32, u_ 33, u_ 34, u_ 35, u_ 36, u_ 37, u_ 38, u_ 39, u_ 40, u_ 41, u_ 42, u_ 43, u_ 44, u_ 45, u_ 46, u_ 47, u_ 48, u_ 49, u_ 50, u_ 51, u_ 52, u_ 53, u_ 54, u_ 55, u_ 56, u_ 57, u_ 58, u_ 59, u_ 60, u_ 61, u_ 62, u_ 63, u_ 64, u_ 65, u_ 66, u_ 67, u_ 68, u_ 69, u_ 70, u_ 71, u_ 72, u_ 73, u_ 74, u_ 75, u_ 76, u_ 77, u_ 78, u_ 79, u_ 80, u_ 81, u_ 82, u_ 83, u_ 84, u_ 85, u_ 86, u_ 87, u_ 88, u_ 89, u_ 90, u_ 91, u_ 92, u_ 93, u_ 94, u_ 95, u_ 96, u_ 97, u_ 98, u_ 99, u_ 100, u_ 101, u_ 102, u_ 103, u_ 104, u_ 105, u_ 106, u_ 107, u_ 108, u_ 109, u_ 110, u_ 111, u_ 112, u_ 113, u_ 114, u_ 115, u_ 116, u_ 117, u_ 118, u_ 119, u_ 120, u_ 121, u_ 122, u_ 123, u_ 124, u_ 125, u_ 126, u_ 127, u_ 128, u_ 129, u_ 130, u_ 131, u_ 132, u_ 133, u_ 134, u_ 135, u_ 136, u_ 137, u_ 138, u_ 139, u_ 140, u_ 141, u_ 142, u_ 143, u_ 144, u_ 145, u_ 146, u_ 147, u_ 148, u_ 149, u_ 150]
def dowellaw03_ClassTexts.F3_2 (b1433 : Nat) (A1515 : Option Addr) (t1510 : List Tapi_Range) (c1516 : Nat) (b1654 : Nat) (u_ : Nat → Value) : Array Value := #[u_ 0, u_ 1, .pointer (some ⟨b1433, 0, none⟩), u_ 3, u_ 4, u_ 5, u_ 6, u_ 7, .slice A1515 t1510.length c1516, u_ 9, .pointer (some ⟨b1654, 0, none⟩), .int .i64 2, u_ 12, u_ 13, u_ 14, u_ 15, u_ 16, u_ 17, u_ 18, u_ 19, u_ 20, u_ 21, u_ 22, u_ 23, u_ 24, u_ 25, u_ 26, u_ 27, u_ 28, u_ 29, u_ 30, u_ 31, u_ 32, u_ 33, u_ 34, u_ 35, u_ 36, u_ 37, u_ 38, u_ 39, u_ 40, u_ 41, u_ 42, u_ 43, u_ 44, u_ 45, u_ 46, u_ 47, u_ 48, u_ 49, u_ 50, u_ 51, u_ 52, u_ 53, u_ 54, u_ 55, u_ 56, u_ 57, u_ 58, u_ 59, u_ 60, u_ 61, u_ 62, u_ 63, u_ 64, u_ 65, u_ 66, u_ 67, u_ 68, u_ 69, u_ 70, u_ 71, u_ 72, u_ 73, u_ 74, u_ 75, u_ 76, u_ 77, u_ 78, u_ 79, u_ 80, u_ 81, u_ 82, u_ 83, u_ 84, u_ 85, u_ 86, u_ 87, u_ 88, u_ 89, u_ 90, u_ 91, u_ 92, u_ 93, u_ 94, u_ 95, u_ 96, u_ 97, u_ 98, u_ 99, u_ 100, u_ 101, u_ 102, u_ 103, u_ 104, u_ 105, u_ 106, u_ 107, u_ 108, u_ 109, u_ 110, u_ 111, u_ 112, u_ 113, u_ 114, u_ 115, u_ 116, u_ 117, u_ 118, u_ 119, u_ 120, u_ 121, u_ 122, u_ 123, u_ 124, u_ 125, u_ 126, u_ 127, u_ 128, u_ 129, u_ 130, u_ 131, u_ 132, u_ 133, u_ 134, u_ 135, u_ 136, u_ 137, u_ 138, u_ 139, u_ 140, u_ 141, u_ 142, u_ 143, u_ 144, u_ 145, u_ 146, u_ 147, u_ 148, u_ 149, u_ 150]
def dowellaw03_ClassTexts.b3 (t1483 : List Tapi_Range) (next3 : List Tapi_Range → Int → Option (Bool)) (brk3_2 : List Tapi_Range → Option (Bool)) (x2033 : List Tapi_Range) (x2034 : Int) : Option (Bool) := if x2034 < (t1483.length : Int) then (if 0 ≤ x2034 then (next3 (stored x2033 x2034 (⟨2, 200⟩ : Tapi_Range)) (W (x2034 + 1))) else none) else (brk3_2 x2033)
def dowellaw03_ClassTexts.l3 (t1483 : List Tapi_Range) (brk3_2 : List Tapi_Range → Option (Bool)) : Nat → List Tapi_Range → Int → Option (Bool)
  | 0, _, _ => none
  | n_ + 1, x2033, x2034 => dowellaw03_ClassTexts.b3 t1483 (dowellaw03_ClassTexts.l3 t1483 brk3_2 n_) brk3_2 x2033 x2034
def dowellaw03_ClassTexts.F4 (b1433 : Nat) (A1515 : Option Addr) (t1510 : List Tapi_Range) (c1516 : Nat) (b1654 : Nat) (b2133 : Nat) (x2874 : Int) (u_ : Nat → Value) : Array Value := #[u_ 0, u_ 1, .pointer (some ⟨b1433, 0, none⟩), u_ 3, u_ 4, u_ 5, u_ 6, u_ 7, .slice A1515 t1510.length c1516, u_ 9, .pointer (some ⟨b1654, 0, none⟩), u_ 11, u_ 12, .pointer (some ⟨b2133, 0, none⟩), .int .i64 0, .int .i64 x2874, u_ 16, u_ 17, u_ 18, u_ 19, u_ 20, u_ 21, u_ 22, u_ 23, u_ 24, u_ 25, u_ 26, u_ 27, u_ 28, u_ 29, u_ 30, u_ 31, u_ 32, u_ 33, u_ 34, u_ 35, u_ 36, u_ 37, u_ 38, u_ 39, u_ 40, u_ 41, u_ 42, u_ 43, u_ 44, u_ 45, u_ 46, u_ 47, u_ 48, u_ 49, u_ 50, u_ 51, u_ 52, u_ 53, u_ 54, u_ 55, u_ 56, u_ 57, u_ 58, u_ 59, u_ 60, u_ 61, u_ 62, u_ 63, u_ 64, u_ 65, u_ 66, u_ 67, u_ 68, u_ 69, u_ 70, u_ 71, u_ 72, u_ 73, u_ 74, u_ 75, u_ 76, u_ 77, u_ 78, u_ 79, u_ 80, u_ 81, u_ 82, u_ 83, u_ 84, u_ 85, u_ 86, u_ 87, u_ 88, u_ 89, u_ 90, u_ 91, u_ 92, u_ 93, u_ 94, u_ 95, u_ 96, u_ 97, u_ 98, u_ 99, u_ 100, u_ 101, u_ 102, u_ 103, u_ 104, u_ 105, u_ 106, u_ 107, u_ 108, u_ 109, u_ 110, u_ 111, u_ 112, u_ 113, u_ 114, u_ 115, u_ 116, u_ 117, u_ 118, u_ 119, u_ 120, u_ 121, u_ 122, u_ 123, u_ 124, u_ 125, u_ 126, u_ 127, u_ 128, u_ 129, u_ 130, u_ 131, u_ 132, u_ 133, u_ 134, u_ 135, u_ 136, u_ 137, u_ 138, u_ 139, u_ 140, u_ 141, u_ 142, u_ 143, u_ 144, u_ 145, u_ 146, u_ 147, u_ 148, u_ 149, u_ 150]
def dowellaw03_ClassTexts.F4_6 (b1433 : Nat) (A1515 : Option Addr) (t1510 : List Tapi_Range) (c1516 : Nat) (b1654 : Nat) (b2133 : Nat) (u_ : Nat → Value) : Array Value := #[u_ 0, u_ 1, .pointer (some ⟨b1433, 0, none⟩), u_ 3, u_ 4, u_ 5, u_ 6, u_ 7, .slice A1515 t1510.length c1516, u_ 9, .pointer (some ⟨b1654, 0, none⟩), u_ 11, u_ 12, .pointer (some ⟨b2133, 0, none⟩), .int .i64 0, u_ 15, u_ 16, u_ 17, u_ 18, u_ 19, u_ 20, u_ 21, u_ 22, u_ 23, u_ 24, u_ 25, u_ 26, u_ 27, u_ 28, u_ 29, u_ 30, u_ 31, u_ 32, u_ 33, u_ 34, u_ 35, u_ 36, u_ 37, u_ 38, u_ 39, u_ 40, u_ 41, u_ 42, u_ 43, u_ 44, u_ 45, u_ 46, u_ 47, u_ 48, u_ 49, u_ 50, u_ 51, u_ 52, u_ 53, u_ 54, u_ 55, u_ 56, u_ 57, u_ 58, u_ 59, u_ 60, u_ 61, u_ 62, u_ 63, u_ 64, u_ 65, u_ 66, u_ 67, u_ 68, u_ 69, u_ 70, u_ 71, u_ 72, u_ 73, u_ 74, u_ 75, u_ 76, u_ 77, u_ 78, u_ 79, u_ 80, u_ 81, u_ 82, u_ 83, u_ 84, u_ 85, u_ 86, u_ 87, u_ 88, u_ 89, u_ 90, u_ 91, u_ 92, u_ 93, u_ 94, u_ 95, u_ 96, u_ 97, u_ 98, u_ 99, u_ 100, u_ 101, u_ 102, u_ 103, u_ 104, u_ 105, u_ 106, u_ 107, u_ 108, u_ 109, u_ 110, u_ 111, u_ 112, u_ 113, u_ 114, u_ 115, u_ 116, u_ 117, u_ 118, u_ 119, u_ 120, u_ 121, u_ 122, u_ 123, u_ 124, u_ 125, u_ 126, u_ 127, u_ 128, u_ 129, u_ 130, u_ 131, u_ 132, u_ 133, u_ 134, u_ 135, u_ 136, u_ 137, u_ 138, u_ 139, u_ 140, u_ 141, u_ 142, u_ 143, u_ 144, u_ 145, u_ 146, u_ 147, u_ 148, u_ 149, u_ 150]
def dowellaw03_ClassTexts.b4  (next4 : List Tapi_Range → Nat → Int → Option (Bool)) (brk4_6 : List Tapi_Range → Nat → Option (Bool)) (x2870 : List Tapi_Range) (x2871 : Nat) (x2874 : Int) : Option (Bool) := if x2874 < 16 then (if (x2871 + 1) * 3 ≤ 140737488355328 then (next4 (x2870 ++ ([(⟨0, 100⟩ : Tapi_Range)] : List Tapi_Range)) ((x2870 ++ ([(⟨0, 100⟩ : Tapi_Range)] : List Tapi_Range)).length) (W (x2874 + 1))) else none) else (brk4_6 x2870 x2871)
def dowellaw03_ClassTexts.l4  (brk4_6 : List Tapi_Range → Nat → Option (Bool)) : Nat → List Tapi_Range → Nat → Int → Option (Bool)
  | 0, _, _, _ => none
  | n_ + 1, x2870, x2871, x2874 => dowellaw03_ClassTexts.b4  (dowellaw03_ClassTexts.l4  brk4_6 n_) brk4_6 x2870 x2871 x2874
def dowellaw03_ClassTexts.F5 (b1433 : Nat) (A1515 : Option Addr) (t1510 : List Tapi_Range) (c1516 : Nat) (b1654 : Nat) (b2133 : Nat) (x3935 : Int) (u_ : Nat → Value) : Array Value := #[u_ 0, u_ 1, .pointer (some ⟨b1433, 0, none⟩), u_ 3, u_ 4, u_ 5, u_ 6, u_ 7, .slice A1515 t1510.length c1516, u_ 9, .pointer (some ⟨b1654, 0, none⟩), u_ 11, u_ 12, .pointer (some ⟨b2133, 0, none⟩), .int .i64 1, .int .i64 x3935, u_ 16, u_ 17, u_ 18, u_ 19, u_ 20, u_ 21, u_ 22, u_ 23, u_ 24, u_ 25, u_ 26, u_ 27, u_ 28, u_ 29, u_ 30, u_ 31, u_ 32, u_ 33, u_ 34, u_ 35, u_ 36, u_ 37, u_ 38, u_ 39, u_ 40, u_ 41, u_ 42, u_ 43, u_ 44, u_ 45, u_ 46, u_ 47, u_ 48, u_ 49, u_ 50, u_ 51, u_ 52, u_ 53, u_ 54, u_ 55, u_ 56, u_ 57, u_ 58, u_ 59, u_ 60, u_ 61, u_ 62, u_ 63, u_ 64, u_ 65, u_ 66, u_ 67, u_ 68, u_ 69, u_ 70, u_ 71, u_ 72, u_ 73, u_ 74, u_ 75, u_ 76, u_ 77, u_ 78, u_ 79, u_ 80, u_ 81, u_ 82, u_ 83, u_ 84, u_ 85, u_ 86, u_ 87, u_ 88, u_ 89, u_ 90, u_ 91, u_ 92, u_ 93, u_ 94, u_ 95, u_ 96, u_ 97, u_ 98, u_ 99, u_ 100, u_ 101, u_ 102, u_ 103, u_ 104, u_ 105, u_ 106, u_ 107, u_ 108, u_ 109, u_ 110, u_ 111, u_ 112, u_ 113, u_ 114, u_ 115, u_ 116, u_ 117, u_ 118, u_ 119, u_ 120, u_ 121, u_ 122, u_ 123, u_ 124, u_ 125, u_ 126, u_ 127, u_ 128, u_ 129, u_ 130, u_ 131, u_ 132, u_ 133, u_ 134, u_ 135, u_ 136, u_ 137, u_ 138, u_ 139, u_ 140, u_ 141, u_ 142, u_ 143, u_ 144, u_ 145, u_ 146, u_ 147, u_ 148, u_ 149, u_ 150]
def dowellaw03_ClassTexts.F5_6 (b1433 : Nat) (A1515 : Option Addr) (t1510 : List Tapi_Range) (c1516 : Nat) (b1654 : Nat) (b2133 : Nat) (u_ : Nat → Value) : Array Value := #[u_ 0, u_ 1, .pointer (some ⟨b1433, 0, none⟩), u_ 3, u_ 4, u_ 5, u_ 6, u_ 7, .slice A1515 t1510.length c1516, u_ 9, .pointer (some ⟨b1654, 0, none⟩), u_ 11, u_ 12, .pointer (some ⟨b2133, 0, none⟩), .int .i64 1, u_ 15, u_ 16, u_ 17, u_ 18, u_ 19, u_ 20, u_ 21, u_ 22, u_ 23, u_ 24, u_ 25, u_ 26, u_ 27, u_ 28, u_ 29, u_ 30, u_ 31, u_ 32, u_ 33, u_ 34, u_ 35, u_ 36, u_ 37, u_ 38, u_ 39, u_ 40, u_ 41, u_ 42, u_ 43, u_ 44, u_ 45, u_ 46, u_ 47, u_ 48, u_ 49, u_ 50, u_ 51, u_ 52, u_ 53, u_ 54, u_ 55, u_ 56, u_ 57, u_ 58, u_ 59, u_ 60, u_ 61, u_ 62, u_ 63, u_ 64, u_ 65, u_ 66, u_ 67, u_ 68, u_ 69, u_ 70, u_ 71, u_ 72, u_ 73, u_ 74, u_ 75, u_ 76, u_ 77, u_ 78, u_ 79, u_ 80, u_ 81, u_ 82, u_ 83, u_ 84, u_ 85, u_ 86, u_ 87, u_ 88, u_ 89, u_ 90, u_ 91, u_ 92, u_ 93, u_ 94, u_ 95, u_ 96, u_ 97, u_ 98, u_ 99, u_ 100, u_ 101, u_ 102, u_ 103, u_ 104, u_ 105, u_ 106, u_ 107, u_ 108, u_ 109, u_ 110, u_ 111, u_ 112, u_ 113, u_ 114, u_ 115, u_ 116, u_ 117, u_ 118, u_ 119, u_ 120, u_ 121, u_ 122, u_ 123, u_ 124, u_ 125, u_ 126, u_ 127, u_ 128, u_ 129, u_ 130, u_ 131, u_ 132, u_ 133, u_ 134, u_ 135, u_ 136, u_ 137, u_ 138, u_ 139, u_ 140, u_ 141, u_ 142, u_ 143, u_ 144, u_ 145, u_ 146, u_ 147, u_ 148, u_ 149, u_ 150]
def dowellaw03_ClassTexts.b5  (next5 : List Tapi_Range → Nat → Int → Option (Bool)) (brk5_6 : List Tapi_Range → Nat → Option (Bool)) (x3931 : List Tapi_Range) (x3932 : Nat) (x3935 : Int) : Option (Bool) := if x3935 < 16 then (if (x3932 + 1) * 3 ≤ 140737488355328 then (next5 (x3931 ++ ([(⟨1, 100⟩ : Tapi_Range)] : List Tapi_Range)) ((x3931 ++ ([(⟨1, 100⟩ : Tapi_Range)] : List Tapi_Range)).length) (W (x3935 + 1))) else none) else (brk5_6 x3931 x3932)
def dowellaw03_ClassTexts.l5  (brk5_6 : List Tapi_Range → Nat → Option (Bool)) : Nat → List Tapi_Range → Nat → Int → Option (Bool)
  | 0, _, _, _ => none
  | n_ + 1, x3931, x3932, x3935 => dowellaw03_ClassTexts.b5  (dowellaw03_ClassTexts.l5  brk5_6 n_) brk5_6 x3931 x3932 x3935
def dowellaw03_ClassTexts.F6 (b1433 : Nat) (A1515 : Option Addr) (t1510 : List Tapi_Range) (c1516 : Nat) (b1654 : Nat) (b2133 : Nat) (x4993 : Int) (u_ : Nat → Value) : Array Value := #[u_ 0, u_ 1, .pointer (some ⟨b1433, 0, none⟩), u_ 3, u_ 4, u_ 5, u_ 6, u_ 7, .slice A1515 t1510.length c1516, u_ 9, .pointer (some ⟨b1654, 0, none⟩), u_ 11, u_ 12, .pointer (some ⟨b2133, 0, none⟩), .int .i64 2, .int .i64 x4993, u_ 16, u_ 17, u_ 18, u_ 19, u_ 20, u_ 21, u_ 22, u_ 23, u_ 24, u_ 25, u_ 26, u_ 27, u_ 28, u_ 29, u_ 30, u_ 31, u_ 32, u_ 33, u_ 34, u_ 35, u_ 36, u_ 37, u_ 38, u_ 39, u_ 40, u_ 41, u_ 42, u_ 43, u_ 44, u_ 45, u_ 46, u_ 47, u_ 48, u_ 49, u_ 50, u_ 51, u_ 52, u_ 53, u_ 54, u_ 55, u_ 56, u_ 57, u_ 58, u_ 59, u_ 60, u_ 61, u_ 62, u_ 63, u_ 64, u_ 65, u_ 66, u_ 67, u_ 68, u_ 69, u_ 70, u_ 71, u_ 72, u_ 73, u_ 74, u_ 75, u_ 76, u_ 77, u_ 78, u_ 79, u_ 80, u_ 81, u_ 82, u_ 83, u_ 84, u_ 85, u_ 86, u_ 87, u_ 88, u_ 89, u_ 90, u_ 91, u_ 92, u_ 93, u_ 94, u_ 95, u_ 96, u_ 97, u_ 98, u_ 99, u_ 100, u_ 101, u_ 102, u_ 103, u_ 104, u_ 105, u_ 106, u_ 107, u_ 108, u_ 109, u_ 110, u_ 111, u_ 112, u_ 113, u_ 114, u_ 115, u_ 116, u_ 117, u_ 118, u_ 119, u_ 120, u_ 121, u_ 122, u_ 123, u_ 124, u_ 125, u_ 126, u_ 127, u_ 128, u_ 129, u_ 130, u_ 131, u_ 132, u_ 133, u_ 134, u_ 135, u_ 136, u_ 137, u_ 138, u_ 139, u_ 140, u_ 141, u_ 142, u_ 143, u_ 144, u_ 145, u_ 146, u_ 147, u_ 148, u_ 149, u_ 150]
def dowellaw03_ClassTexts.F6_6 (b1433 : Nat) (A1515 : Option Addr) (t1510 : List Tapi_Range) (c1516 : Nat) (b1654 : Nat) (b2133 : Nat) (u_ : Nat → Value) : Array Value := #[u_ 0, u_ 1, .pointer (some ⟨b1433, 0, none⟩), u_ 3, u_ 4, u_ 5, u_ 6, u_ 7, .slice A1515 t1510.length c1516, u_ 9, .pointer (some ⟨b1654, 0, none⟩), u_ 11, u_ 12, .pointer (some ⟨b2133, 0, none⟩), .int .i64 2, u_ 15, u_ 16, u_ 17, u_ 18, u_ 19, u_ 20, u_ 21, u_ 22, u_ 23, u_ 24, u_ 25, u_ 26, u_ 27, u_ 28, u_ 29, u_ 30, u_ 31, u_ 32, u_ 33, u_ 34, u_ 35, u_ 36, u_ 37, u_ 38, u_ 39, u_ 40, u_ 41, u_ 42, u_ 43, u_ 44, u_ 45, u_ 46, u_ 47, u_ 48, u_ 49, u_ 50, u_ 51, u_ 52, u_ 53, u_ 54, u_ 55, u_ 56, u_ 57, u_ 58, u_ 59, u_ 60, u_ 61, u_ 62, u_ 63, u_ 64, u_ 65, u_ 66, u_ 67, u_ 68, u_ 69, u_ 70, u_ 71, u_ 72, u_ 73, u_ 74, u_ 75, u_ 76, u_ 77, u_ 78, u_ 79, u_ 80, u_ 81, u_ 82, u_ 83, u_ 84, u_ 85, u_ 86, u_ 87, u_ 88, u_ 89, u_ 90, u_ 91, u_ 92, u_ 93, u_ 94, u_ 95, u_ 96, u_ 97, u_ 98, u_ 99, u_ 100, u_ 101, u_ 102, u_ 103, u_ 104, u_ 105, u_ 106, u_ 107, u_ 108, u_ 109, u_ 110, u_ 111, u_ 112, u_ 113, u_ 114, u_ 115, u_ 116, u_ 117, u_ 118, u_ 119, u_ 120, u_ 121, u_ 122, u_ 123, u_ 124, u_ 125, u_ 126, u_ 127, u_ 128, u_ 129, u_ 130, u_ 131, u_ 132, u_ 133, u_ 134, u_ 135, u_ 136, u_ 137, u_ 138, u_ 139, u_ 140, u_ 141, u_ 142, u_ 143, u_ 144, u_ 145, u_ 146, u_ 147, u_ 148, u_ 149, u_ 150]
def dowellaw03_ClassTexts.b6  (next6 : List Tapi_Range → Nat → Int → Option (Bool)) (brk6_6 : List Tapi_Range → Nat → Option (Bool)) (x4989 : List Tapi_Range) (x4990 : Nat) (x4993 : Int) : Option (Bool) := if x4993 < 16 then (if (x4990 + 1) * 3 ≤ 140737488355328 then (next6 (x4989 ++ ([(⟨2, 100⟩ : Tapi_Range)] : List Tapi_Range)) ((x4989 ++ ([(⟨2, 100⟩ : Tapi_Range)] : List Tapi_Range)).length) (W (x4993 + 1))) else none) else (brk6_6 x4989 x4990)
def dowellaw03_ClassTexts.l6  (brk6_6 : List Tapi_Range → Nat → Option (Bool)) : Nat → List Tapi_Range → Nat → Int → Option (Bool)
  | 0, _, _, _ => none
  | n_ + 1, x4989, x4990, x4993 => dowellaw03_ClassTexts.b6  (dowellaw03_ClassTexts.l6  brk6_6 n_) brk6_6 x4989 x4990 x4993
def dowellaw03_ClassTexts.F7 (b1433 : Nat) (A1515 : Option Addr) (t1510 : List Tapi_Range) (c1516 : Nat) (b1654 : Nat) (b2133 : Nat) (x5573 : Int) (u_ : Nat → Value) : Array Value := #[u_ 0, u_ 1, .pointer (some ⟨b1433, 0, none⟩), u_ 3, u_ 4, u_ 5, u_ 6, u_ 7, .slice A1515 t1510.length c1516, u_ 9, .pointer (some ⟨b1654, 0, none⟩), u_ 11, u_ 12, .pointer (some ⟨b2133, 0, none⟩), u_ 14, u_ 15, .int .i64 0, .int .i64 x5573, u_ 18, u_ 19, u_ 20, u_ 21, u_ 22, u_ 23, u_ 24, u_ 25, u_ 26, u_ 27, u_ 28, u_ 29, u_ 30, u_ 31, u_ 32, u_ 33, u_ 34, u_ 35, u_ 36, u_ 37, u_ 38, u_ 39, u_ 40, u_ 41, u_ 42, u_ 43, u_ 44, u_ 45, u_ 46, u_ 47, u_ 48, u_ 49, u_ 50, u_ 51, u_ 52, u_ 53, u_ 54, u_ 55, u_ 56, u_ 57, u_ 58, u_ 59, u_ 60, u_ 61, u_ 62, u_ 63, u_ 64, u_ 65, u_ 66, u_ 67, u_ 68, u_ 69, u_ 70, u_ 71, u_ 72, u_ 73, u_ 74, u_ 75, u_ 76, u_ 77, u_ 78, u_ 79, u_ 80, u_ 81, u_ 82, u_ 83, u_ 84, u_ 85, u_ 86, u_ 87, u_ 88, u_ 89, u_ 90, u_ 91, u_ 92, u_ 93, u_ 94, u_ 95, u_ 96, u_ 97, u_ 98, u_ 99, u_ 100, u_ 101, u_ 102, u_ 103, u_ 104, u_ 105, u_ 106, u_ 107, u_ 108, u_ 109, u_ 110, u_ 111, u_ 112, u_ 113, u_ 114, u_ 115, u_ 116, u_ 117, u_ 118, u_ 119, u_ 120, u_ 121, u_ 122, u_ 123, u_ 124, u_ 125, u_ 126, u_ 127, u_ 128, u_ 129, u_ 130, u_ 131, u_ 132, u_ 133, u_ 134, u_ 135, u_ 136, u_ 137, u_ 138, u_ 139, u_ 140, u_ 141, u_ 142, u_ 143, u_ 144, u_ 145, u_ 146, u_ 147, u_ 148, u_ 149, u_ 150]
def dowellaw03_ClassTexts.F7_10 (b1433 : Nat) (A1515 : Option Addr) (t1510 : List Tapi_Range) (c1516 : Nat) (b1654 : Nat) (b2133 : Nat) (u_ : Nat → Value) : Array Value := #[u_ 0, u_ 1, .pointer (some ⟨b1433, 0, none⟩), u_ 3, u_ 4, u_ 5, u_ 6, u_ 7, .slice A1515 t1510.length c1516, u_ 9, .pointer (some ⟨b1654, 0, none⟩), u_ 11, u_ 12, .pointer (some ⟨b2133, 0, none⟩), u_ 14, u_ 15, .int .i64 0, u_ 17, u_ 18, u_ 19, u_ 20, u_ 21, u_ 22, u_ 23, u_ 24, u_ 25, u_ 26, u_ 27, u_ 28, u_ 29, u_ 30, u_ 31, u_ 32, u_ 33, u_ 34, u_ 35, u_ 36, u_ 37, u_ 38, u_ 39, u_ 40, u_ 41, u_ 42, u_ 43, u_ 44, u_ 45, u_ 46, u_ 47, u_ 48, u_ 49, u_ 50, u_ 51, u_ 52, u_ 53, u_ 54, u_ 55, u_ 56, u_ 57, u_ 58, u_ 59, u_ 60, u_ 61, u_ 62, u_ 63, u_ 64, u_ 65, u_ 66, u_ 67, u_ 68, u_ 69, u_ 70, u_ 71, u_ 72, u_ 73, u_ 74, u_ 75, u_ 76, u_ 77, u_ 78, u_ 79, u_ 80, u_ 81, u_ 82, u_ 83, u_ 84, u_ 85, u_ 86, u_ 87, u_ 88, u_ 89, u_ 90, u_ 91, u_ 92, u_ 93, u_ 94, u_ 95, u_ 96, u_ 97, u_ 98, u_ 99, u_ 100, u_ 101, u_ 102, u_ 103, u_ 104, u_ 105, u_ 106, u_ 107, u_ 108, u_ 109, u_ 110, u_ 111, u_ 112, u_ 113, u_ 114, u_ 115, u_ 116, u_ 117, u_ 118, u_ 119, u_ 120, u_ 121, u_ 122, u_ 123, u_ 124, u_ 125, u_ 126, u_ 127, u_ 128, u_ 129, u_ 130, u_ 131, u_ 132, u_ 133, u_ 134, u_ 135, u_ 136, u_ 137, u_ 138, u_ 139, u_ 140, u_ 141, u_ 142, u_ 143, u_ 144, u_ 145, u_ 146, u_ 147, u_ 148, u_ 149, u_ 150]
def dowellaw03_ClassTexts.j8F (b1433 : Nat) (A1515 : Option Addr) (t1510 : List Tapi_Range) (c1516 : Nat) (b1654 : Nat) (b2133 : Nat) (x5573 : Int) (b5667 : Nat) (u_ : Nat → Value) : Array Value := #[u_ 0, u_ 1, .pointer (some ⟨b1433, 0, none⟩), u_ 3, u_ 4, u_ 5, u_ 6, u_ 7, .slice A1515 t1510.length c1516, u_ 9, .pointer (some ⟨b1654, 0, none⟩), u_ 11, u_ 12, .pointer (some ⟨b2133, 0, none⟩), u_ 14, u_ 15, .int .i64 0, .int .i64 x5573, .pointer (some ⟨b5667, 0, none⟩), u_ 19, u_ 20, u_ 21, u_ 22, u_ 23, u_ 24, u_ 25, u_ 26, u_ 27, u_ 28, u_ 29, u_ 30, u_ 31, u_ 32, u_ 33, u_ 34, u_ 35, u_ 36, u_ 37, u_ 38, u_ 39, u_ 40, u_ 41, u_ 42, u_ 43, u_ 44, u_ 45, u_ 46, u_ 47, u_ 48, u_ 49, u_ 50, u_ 51, u_ 52, u_ 53, u_ 54, u_ 55, u_ 56, u_ 57, u_ 58, u_ 59, u_ 60, u_ 61, u_ 62, u_ 63, u_ 64, u_ 65, u_ 66, u_ 67, u_ 68, u_ 69, u_ 70, u_ 71, u_ 72, u_ 73, u_ 74, u_ 75, u_ 76, u_ 77, u_ 78, u_ 79, u_ 80, u_ 81, u_ 82, u_ 83, u_ 84, u_ 85, u_ 86, u_ 87, u_ 88, u_ 89, u_ 90, u_ 91, u_ 92, u_ 93, u_ 94, u_ 95, u_ 96, u_ 97, u_ 98, u_ 99, u_ 100, u_ 101, u_ 102, u_ 103, u_ 104, u_ 105, u_ 106, u_ 107, u_ 108, u_ 109, u_ 110, u_ 111, u_ 112, u_ 113, u_ 114, u_ 115, u_ 116, u_ 117, u_ 118, u_ 119, u_ 120, u_ 121, u_ 122, u_ 123, u_ 124, u_ 125, u_ 126, u_ 127, u_ 128, u_ 129, u_ 130, u_ 131, u_ 132, u_ 133, u_ 134, u_ 135, u_ 136, u_ 137, u_ 138, u_ 139, u_ 140, u_ 141, u_ 142, u_ 143, u_ 144, u_ 145, u_ 146, u_ 147, u_ 148, u_ 149, u_ 150]
def dowellaw03_ClassTexts.j9F (b1433 : Nat) (A1515 : Option Addr) (t1510 : List Tapi_Range) (c1516 : Nat) (b1654 : Nat) (b2133 : Nat) (x5573 : Int) (x5834 : Bool) (u_ : Nat → Value) : Array Value := #[u_ 0, u_ 1, .pointer (some ⟨b1433, 0, none⟩), u_ 3, u_ 4, u_ 5, u_ 6, u_ 7, .slice A1515 t1510.length c1516, u_ 9, .pointer (some ⟨b1654, 0, none⟩), u_ 11, u_ 12, .pointer (some ⟨b2133, 0, none⟩), u_ 14, u_ 15, .int .i64 0, .int .i64 x5573, u_ 18, u_ 19, u_ 20, u_ 21, u_ 22, u_ 23, u_ 24, u_ 25, u_ 26, u_ 27, u_ 28, u_ 29, u_ 30, u_ 31, u_ 32, u_ 33, u_ 34, u_ 35, u_ 36, u_ 37, u_ 38, u_ 39, u_ 40, u_ 41, u_ 42, u_ 43, u_ 44, u_ 45, u_ 46, u_ 47, u_ 48, u_ 49, u_ 50, u_ 51, u_ 52, u_ 53, u_ 54, u_ 55, u_ 56, u_ 57, u_ 58, u_ 59, u_ 60, u_ 61, u_ 62, u_ 63, u_ 64, u_ 65, u_ 66, u_ 67, u_ 68, u_ 69, u_ 70, u_ 71, u_ 72, u_ 73, u_ 74, u_ 75, u_ 76, u_ 77, u_ 78, u_ 79, u_ 80, u_ 81, u_ 82, u_ 83, u_ 84, u_ 85, u_ 86, u_ 87, u_ 88, u_ 89, u_ 90, u_ 91, u_ 92, u_ 93, u_ 94, u_ 95, u_ 96, u_ 97, u_ 98, u_ 99, u_ 100, u_ 101, u_ 102, u_ 103, u_ 104, u_ 105, u_ 106, u_ 107, u_ 108, u_ 109, u_ 110, u_ 111, u_ 112, u_ 113, u_ 114, u_ 115, u_ 116, u_ 117, u_ 118, u_ 119, u_ 120, u_ 121, u_ 122, u_ 123, u_ 124, u_ 125, u_ 126, u_ 127, u_ 128, u_ 129, u_ 130, u_ 131, u_ 132, u_ 133, u_ 134, u_ 135, u_ 136, u_ 137, u_ 138, u_ 139, u_ 140, u_ 141, u_ 142, u_ 143, u_ 144, u_ 145, .bool x5834, u_ 147, u_ 148, u_ 149, u_ 150]
def dowellaw03_ClassTexts.j9 (next7 : Int → Option (Bool)) (x5573 : Int) (x5834 : Bool) : Option (Bool) := if x5834 = true then (some false) else (next7 (W (x5573 + 1)))
def dowellaw03_ClassTexts.j8 (x5573 : Int) (x3054 : Nat) (x3053 : List Tapi_Range) (next7 : Int → Option (Bool)) (t1451 : List Tapi_Range) (x1788 : List Tapi_Range) (y5730 : Int) : Option (Bool) := if 0 ≤ x5573 then (if x5573 < (x3054 : Int) then (if ¬ ((((((rd zapi_Range x3053 x5573)).f0) == 0) && (((((rd zapi_Range x3053 x5573)).f1) == y5730) && true)) = true) then (dowellaw03_ClassTexts.j9 next7 x5573 true) else (if x5573 < (t1451.length : Int) then (dowellaw03_ClassTexts.j9 next7 x5573 (!(((((rd zapi_Range x1788 x5573)).f0) == 0) && (((((rd zapi_Range x1788 x5573)).f1) == y5730) && true)))) else (dowellaw03_ClassTexts.j9 next7 x5573 false))) else none) else none
def dowellaw03_ClassTexts.b7 (x3054 : Nat) (t1451 : List Tapi_Range) (x3053 : List Tapi_Range) (x1788 : List Tapi_Range) (next7 : Int → Option (Bool)) (brk7_10 : Option (Bool)) (x5573 : Int) : Option (Bool) := if x5573 < (x3054 : Int) then (if x5573 ≥ (t1451.length : Int) then (dowellaw03_ClassTexts.j8 x5573 x3054 x3053 next7 t1451 x1788 100) else (dowellaw03_ClassTexts.j8 x5573 x3054 x3053 next7 t1451 x1788 200)) else brk7_10
def dowellaw03_ClassTexts.l7 (x3054 : Nat) (t1451 : List Tapi_Range) (x3053 : List Tapi_Range) (x1788 : List Tapi_Range) (brk7_10 : Option (Bool)) : Nat → Int → Option (Bool)
  | 0, _ => none
  | n_ + 1, x5573 => dowellaw03_ClassTexts.b7 x3054 t1451 x3053 x1788 (dowellaw03_ClassTexts.l7 x3054 t1451 x3053 x1788 brk7_10 n_) brk7_10 x5573
def dowellaw03_ClassTexts.F10 (b1433 : Nat) (A1515 : Option Addr) (t1510 : List Tapi_Range) (c1516 : Nat) (b1654 : Nat) (b2133 : Nat) (x6297 : Int) (u_ : Nat → Value) : Array Value := #[u_ 0, u_ 1, .pointer (some ⟨b1433, 0, none⟩), u_ 3, u_ 4, u_ 5, u_ 6, u_ 7, .slice A1515 t1510.length c1516, u_ 9, .pointer (some ⟨b1654, 0, none⟩), u_ 11, u_ 12, .pointer (some ⟨b2133, 0, none⟩), u_ 14, u_ 15, .int .i64 1, .int .i64 x6297, u_ 18, u_ 19, u_ 20, u_ 21, u_ 22, u_ 23, u_ 24, u_ 25, u_ 26, u_ 27, u_ 28, u_ 29, u_ 30, u_ 31, u_ 32, u_ 33, u_ 34, u_ 35, u_ 36, u_ 37, u_ 38, u_ 39, u_ 40, u_ 41, u_ 42, u_ 43, u_ 44, u_ 45, u_ 46, u_ 47, u_ 48, u_ 49, u_ 50, u_ 51, u_ 52, u_ 53, u_ 54, u_ 55, u_ 56, u_ 57, u_ 58, u_ 59, u_ 60, u_ 61, u_ 62, u_ 63, u_ 64, u_ 65, u_ 66, u_ 67, u_ 68, u_ 69, u_ 70, u_ 71, u_ 72, u_ 73, u_ 74, u_ 75, u_ 76, u_ 77, u_ 78, u_ 79, u_ 80, u_ 81, u_ 82, u_ 83, u_ 84, u_ 85, u_ 86, u_ 87, u_ 88, u_ 89, u_ 90, u_ 91, u_ 92, u_ 93, u_ 94, u_ 95, u_ 96, u_ 97, u_ 98, u_ 99, u_ 100, u_ 101, u_ 102, u_ 103, u_ 104, u_ 105, u_ 106, u_ 107, u_ 108, u_ 109, u_ 110, u_ 111, u_ 112, u_ 113, u_ 114, u_ 115, u_ 116, u_ 117, u_ 118, u_ 119, u_ 120, u_ 121, u_ 122, u_ 123, u_ 124, u_ 125, u_ 126, u_ 127, u_ 128, u_ 129, u_ 130, u_ 131, u_ 132, u_ 133, u_ 134, u_ 135, u_ 136, u_ 137, u_ 138, u_ 139, u_ 140, u_ 141, u_ 142, u_ 143, u_ 144, u_ 145, u_ 146, u_ 147, u_ 148, u_ 149, u_ 150]
def dowellaw03_ClassTexts.F10_10 (b1433 : Nat) (A1515 : Option Addr) (t1510 : List Tapi_Range) (c1516 : Nat) (b1654 : Nat) (b2133 : Nat) (u_ : Nat → Value) : Array Value := #[u_ 0, u_ 1, .pointer (some ⟨b1433, 0, none⟩), u_ 3, u_ 4, u_ 5, u_ 6, u_ 7, .slice A1515 t1510.length c1516, u_ 9, .pointer (some ⟨b1654, 0, none⟩), u_ 11, u_ 12, .pointer (some ⟨b2133, 0, none⟩), u_ 14, u_ 15, .int .i64 1, u_ 17, u_ 18, u_ 19, u_ 20, u_ 21, u_ 22, u_ 23, u_ 24, u_ 25, u_ 26, u_ 27, u_ 28, u_ 29, u_ 30, u_ 31, u_ 32, u_ 33, u_ 34, u_ 35, u_ 36, u_ 37, u_ 38, u_ 39, u_ 40, u_ 41, u_ 42, u_ 43, u_ 44, u_ 45, u_ 46, u_ 47, u_ 48, u_ 49, u_ 50, u_ 51, u_ 52, u_ 53, u_ 54, u_ 55, u_ 56, u_ 57, u_ 58, u_ 59, u_ 60, u_ 61, u_ 62, u_ 63, u_ 64, u_ 65, u_ 66, u_ 67, u_ 68, u_ 69, u_ 70, u_ 71, u_ 72, u_ 73, u_ 74, u_ 75, u_ 76, u_ 77, u_ 78, u_ 79, u_ 80, u_ 81, u_ 82, u_ 83, u_ 84, u_ 85, u_ 86, u_ 87, u_ 88, u_ 89, u_ 90, u_ 91, u_ 92, u_ 93, u_ 94, u_ 95, u_ 96, u_ 97, u_ 98, u_ 99, u_ 100, u_ 101, u_ 102, u_ 103, u_ 104, u_ 105, u_ 106, u_ 107, u_ 108, u_ 109, u_ 110, u_ 111, u_ 112, u_ 113, u_ 114, u_ 115, u_ 116, u_ 117, u_ 118, u_ 119, u_ 120, u_ 121, u_ 122, u_ 123, u_ 124, u_ 125, u_ 126, u_ 127, u_ 128, u_ 129, u_ 130, u_ 131, u_ 132, u_ 133, u_ 134, u_ 135, u_ 136, u_ 137, u_ 138, u_ 139, u_ 140, u_ 141, u_ 142, u_ 143, u_ 144, u_ 145, u_ 146, u_ 147, u_ 148, u_ 149, u_ 150]
def dowellaw03_ClassTexts.j11F (b1433 : Nat) (A1515 : Option Addr) (t1510 : List Tapi_Range) (c1516 : Nat) (b1654 : Nat) (b2133 : Nat) (x6297 : Int) (b6391 : Nat) (u_ : Nat → Value) : Array Value := #[u_ 0, u_ 1, .pointer (some ⟨b1433, 0, none⟩), u_ 3, u_ 4, u_ 5, u_ 6, u_ 7, .slice A1515 t1510.length c1516, u_ 9, .pointer (some ⟨b1654, 0, none⟩), u_ 11, u_ 12, .pointer (some ⟨b2133, 0, none⟩), u_ 14, u_ 15, .int .i64 1, .int .i64 x6297, .pointer (some ⟨b6391, 0, none⟩), u_ 19, u_ 20, u_ 21, u_ 22, u_ 23, u_ 24, u_ 25, u_ 26, u_ 27, u_ 28, u_ 29, u_ 30, u_ 31, u_ 32, u_ 33, u_ 34, u_ 35, u_ 36, u_ 37, u_ 38, u_ 39, u_ 40, u_ 41, u_ 42, u_ 43, u_ 44, u_ 45, u_ 46, u_ 47, u_ 48, u_ 49, u_ 50, u_ 51, u_ 52, u_ 53, u_ 54, u_ 55, u_ 56, u_ 57, u_ 58, u_ 59, u_ 60, u_ 61, u_ 62, u_ 63, u_ 64, u_ 65, u_ 66, u_ 67, u_ 68, u_ 69, u_ 70, u_ 71, u_ 72, u_ 73, u_ 74, u_ 75, u_ 76, u_ 77, u_ 78, u_ 79, u_ 80, u_ 81, u_ 82, u_ 83, u_ 84, u_ 85, u_ 86, u_ 87, u_ 88, u_ 89, u_ 90, u_ 91, u_ 92, u_ 93, u_ 94, u_ 95, u_ 96, u_ 97, u_ 98, u_ 99, u_ 100, u_ 101, u_ 102, u_ 103, u_ 104, u_ 105, u_ 106, u_ 107, u_ 108, u_ 109, u_ 110, u_ 111, u_ 112, u_ 113, u_ 114, u_ 115, u_ 116, u_ 117, u_ 118, u_ 119, u_ 120, u_ 121, u_ 122, u_ 123, u_ 124, u_ 125, u_ 126, u_ 127, u_ 128, u_ 129, u_ 130, u_ 131, u_ 132, u_ 133, u_ 134, u_ 135, u_ 136, u_ 137, u_ 138, u_ 139, u_ 140, u_ 141, u_ 142, u_ 143, u_ 144, u_ 145, u_ 146, u_ 147, u_ 148, u_ 149, u_ 150]
def dowellaw03_ClassTexts.j12F (b1433 : Nat) (A1515 : Option Addr) (t1510 : List Tapi_Range) (c1516 : Nat) (b1654 : Nat) (b2133 : Nat) (x6297 : Int) (x6558 : Bool) (u_ : Nat → Value) : Array Value := #[u_ 0, u_ 1, .pointer (some ⟨b1433, 0, none⟩), u_ 3, u_ 4, u_ 5, u_ 6, u_ 7, .slice A1515 t1510.length c1516, u_ 9, .pointer (some ⟨b1654, 0, none⟩), u_ 11, u_ 12, .pointer (some ⟨b2133, 0, none⟩), u_ 14, u_ 15, .int .i64 1, .int .i64 x6297, u_ 18, u_ 19, u_ 20, u_ 21, u_ 22, u_ 23, u_ 24, u_ 25, u_ 26, u_ 27, u_ 28, u_ 29, u_ 30, u_ 31, u_ 32, u_ 33, u_ 34, u_ 35, u_ 36, u_ 37, u_ 38, u_ 39, u_ 40, u_ 41, u_ 42, u_ 43, u_ 44, u_ 45, u_ 46, u_ 47, u_ 48, u_ 49, u_ 50, u_ 51, u_ 52, u_ 53, u_ 54, u_ 55, u_ 56, u_ 57, u_ 58, u_ 59, u_ 60, u_ 61, u_ 62, u_ 63, u_ 64, u_ 65, u_ 66, u_ 67, u_ 68, u_ 69, u_ 70, u_ 71, u_ 72, u_ 73, u_ 74, u_ 75, u_ 76, u_ 77, u_ 78, u_ 79, u_ 80, u_ 81, u_ 82, u_ 83, u_ 84, u_ 85, u_ 86, u_ 87, u_ 88, u_ 89, u_ 90, u_ 91, u_ 92, u_ 93, u_ 94, u_ 95, u_ 96, u_ 97, u_ 98, u_ 99, u_ 100, u_ 101, u_ 102, u_ 103, u_ 104, u_ 105, u_ 106, u_ 107, u_ 108, u_ 109, u_ 110, u_ 111, u_ 112, u_ 113, u_ 114, u_ 115, u_ 116, u_ 117, u_ 118, u_ 119, u_ 120, u_ 121, u_ 122, u_ 123, u_ 124, u_ 125, u_ 126, u_ 127, u_ 128, u_ 129, u_ 130, u_ 131, u_ 132, u_ 133, u_ 134, u_ 135, u_ 136, u_ 137, u_ 138, u_ 139, u_ 140, u_ 141, u_ 142, u_ 143, u_ 144, u_ 145, .bool x6558, u_ 147, u_ 148, u_ 149, u_ 150]
def dowellaw03_ClassTexts.j12 (next10 : Int → Option (Bool)) (x6297 : Int) (x6558 : Bool) : Option (Bool) := if x6558 = true then (some false) else (next10 (W (x6297 + 1)))
def dowellaw03_ClassTexts.j11 (x6297 : Int) (x4113 : Nat) (x4112 : List Tapi_Range) (next10 : Int → Option (Bool)) (t1466 : List Tapi_Range) (x1940 : List Tapi_Range) (y6454 : Int) : Option (Bool) := if 0 ≤ x6297 then (if x6297 < (x4113 : Int) then (if ¬ ((((((rd zapi_Range x4112 x6297)).f0) == 1) && (((((rd zapi_Range x4112 x6297)).f1) == y6454) && true)) = true) then (dowellaw03_ClassTexts.j12 next10 x6297 true) else (if x6297 < (t1466.length : Int) then (dowellaw03_ClassTexts.j12 next10 x6297 (!(((((rd zapi_Range x1940 x6297)).f0) == 1) && (((((rd zapi_Range x1940 x6297)).f1) == y6454) && true)))) else (dowellaw03_ClassTexts.j12 next10 x6297 false))) else none) else none
def dowellaw03_ClassTexts.b10 (x4113 : Nat) (t1466 : List Tapi_Range) (x4112 : List Tapi_Range) (x1940 : List Tapi_Range) (next10 : Int → Option (Bool)) (brk10_10 : Option (Bool)) (x6297 : Int) : Option (Bool) := if x6297 < (x4113 : Int) then (if x6297 ≥ (t1466.length : Int) then (dowellaw03_ClassTexts.j11 x6297 x4113 x4112 next10 t1466 x1940 100) else (dowellaw03_ClassTexts.j11 x6297 x4113 x4112 next10 t1466 x1940 200)) else brk10_10
def dowellaw03_ClassTexts.l10 (x4113 : Nat) (t1466 : List Tapi_Range) (x4112 : List Tapi_Range) (x1940 : List Tapi_Range) (brk10_10 : Option (Bool)) : Nat → Int → Option (Bool)
  | 0, _ => none
  | n_ + 1, x6297 => dowellaw03_ClassTexts.b10 x4113 t1466 x4112 x1940 (dowellaw03_ClassTexts.l10 x4113 t1466 x4112 x1940 brk10_10 n_) brk10_10 x6297
def dowellaw03_ClassTexts.F13 (b1433 : Nat) (A1515 : Option Addr) (t1510 : List Tapi_Range) (c1516 : Nat) (b1654 : Nat) (b2133 : Nat) (x7021 : Int) (u_ : Nat → Value) : Array Value := #[u_ 0, u_ 1, .pointer (some ⟨b1433, 0, none⟩), u_ 3, u_ 4, u_ 5, u_ 6, u_ 7, .slice A1515 t1510.length c1516, u_ 9, .pointer (some ⟨b1654, 0, none⟩), u_ 11, u_ 12, .pointer (some ⟨b2133, 0, none⟩), u_ 14, u_ 15, .int .i64 2, .int .i64 x7021, u_ 18, u_ 19, u_ 20, u_ 21, u_ 22, u_ 23, u_ 24, u_ 25, u_ 26, u_ 27, u_ 28, u_ 29, u_ 30, u_ 31, u_ 32, u_ 33, u_ 34, u_ 35, u_ 36, u_ 37, u_ 38, u_ 39, u_ 40, u_ 41, u_ 42, u_ 43, u_ 44, u_ 45, u_ 46, u_ 47, u_ 48, u_ 49, u_ 50, u_ 51, u_ 52, u_ 53, u_ 54, u_ 55, u_ 56, u_ 57, u_ 58, u_ 59, u_ 60, u_ 61, u_ 62, u_ 63, u_ 64, u_ 65, u_ 66, u_ 67, u_ 68, u_ 69, u_ 70, u_ 71, u_ 72, u_ 73, u_ 74, u_ 75, u_ 76, u_ 77, u_ 78, u_ 79, u_ 80, u_ 81, u_ 82, u_ 83, u_ 84, u_ 85, u_ 86, u_ 87, u_ 88, u_ 89, u_ 90, u_ 91, u_ 92, u_ 93, u_ 94, u_ 95, u_ 96, u_ 97, u_ 98, u_ 99, u_ 100, u_ 101, u_ 102, u_ 103, u_ 104, u_ 105, u_ 106, u_ 107, u_ 108, u_ 109, u_ 110, u_ 111, u_ 112, u_ 113, u_ 114, u_ 115, u_ 116, u_ 117, u_ 118, u_ 119, u_ 120, u_ 121, u_ 122, u_ 123, u_ 124, u_ 125, u_ 126, u_ 127, u_ 128, u_ 129, u_ 130, u_ 131, u_ 132, u_ 133, u_ 134, u_ 135, u_ 136, u_ 137, u_ 138, u_ 139, u_ 140, u_ 141, u_ 142, u_ 143, u_ 144, u_ 145, u_ 146, u_ 147, u_ 148, u_ 149, u_ 150]
def dowellaw03_ClassTexts.F13_10 (b1433 : Nat) (A1515 : Option Addr) (t1510 : List Tapi_Range) (c1516 : Nat) (b1654 : Nat) (b2133 : Nat) (u_ : Nat → Value) : Array Value := #[u_ 0, u_ 1, .pointer (some ⟨b1433, 0, none⟩), u_ 3, u_ 4, u_ 5, u_ 6, u_ 7, .slice A1515 t1510.length c1516, u_ 9, .pointer (some ⟨b1654, 0, none⟩), u_ 11, u_ 12, .pointer (some ⟨b2133, 0, none⟩), u_ 14, u_ 15, .int .i64 2, u_ 17, u_ 18, u_ 19, u_ 20, u_ 21, u_ 22, u_ 23, u_ 24, u_ 25, u_ 26, u_ 27, u_ 28, u_ 29, u_ 30, u_ 31, u_ 32, u_ 33, u_ 34, u_ 35, u_ 36, u_ 37, u_ 38, u_ 39, u_ 40, u_ 41, u_ 42, u_ 43, u_ 44, u_ 45, u_ 46, u_ 47, u_ 48, u_ 49, u_ 50, u_ 51, u_ 52, u_ 53, u_ 54, u_ 55, u_ 56, u_ 57, u_ 58, u_ 59, u_ 60, u_ 61, u_ 62, u_ 63, u_ 64, u_ 65, u_ 66, u_ 67, u_ 68, u_ 69, u_ 70, u_ 71, u_ 72, u_ 73, u_ 74, u_ 75, u_ 76, u_ 77, u_ 78, u_ 79, u_ 80, u_ 81, u_ 82, u_ 83, u_ 84, u_ 85, u_ 86, u_ 87, u_ 88, u_ 89, u_ 90, u_ 91, u_ 92, u_ 93, u_ 94, u_ 95, u_ 96, u_ 97, u_ 98, u_ 99, u_ 100, u_ 101, u_ 102, u_ 103, u_ 104, u_ 105, u_ 106, u_ 107, u_ 108, u_ 109, u_ 110, u_ 111, u_ 112, u_ 113, u_ 114, u_ 115, u_ 116, u_ 117, u_ 118, u_ 119, u_ 120, u_ 121, u_ 122, u_ 123, u_ 124, u_ 125, u_ 126, u_ 127, u_ 128, u_ 129, u_ 130, u_ 131, u_ 132, u_ 133, u_ 134, u_ 135, u_ 136, u_ 137, u_ 138, u_ 139, u_ 140, u_ 141, u_ 142, u_ 143, u_ 144, u_ 145, u_ 146, u_ 147, u_ 148, u_ 149, u_ 150]
def dowellaw03_ClassTexts.j14F (b1433 : Nat) (A1515 : Option Addr) (t1510 : List Tapi_Range) (c1516 : Nat) (b1654 : Nat) (b2133 : Nat) (x7021 : Int) (b7115 : Nat) (u_ : Nat → Value) : Array Value := #[u_ 0, u_ 1, .pointer (some ⟨b1433, 0, none⟩), u_ 3, u_ 4, u_ 5, u_ 6, u_ 7, .slice A1515 t1510.length c1516, u_ 9, .pointer (some ⟨b1654, 0, none⟩), u_ 11, u_ 12, .pointer (some ⟨b2133, 0, none⟩), u_ 14, u_ 15, .int .i64 2, .int .i64 x7021, .pointer (some ⟨b7115, 0, none⟩), u_ 19, u_ 20, u_ 21, u_ 22, u_ 23, u_ 24, u_ 25, u_ 26, u_ 27, u_ 28, u_ 29, u_ 30, u_ 31, u_ 32, u_ 33, u_ 34, u_ 35, u_ 36, u_ 37, u_ 38, u_ 39, u_ 40, u_ 41, u_ 42, u_ 43, u_ 44, u_ 45, u_ 46, u_ 47, u_ 48, u_ 49, u_ 50, u_ 51, u_ 52, u_ 53, u_ 54, u_ 55, u_ 56, u_ 57, u_ 58, u_ 59, u_ 60, u_ 61, u_ 62, u_ 63, u_ 64, u_ 65, u_ 66, u_ 67, u_ 68, u_ 69, u_ 70, u_ 71, u_ 72, u_ 73, u_ 74, u_ 75, u_ 76, u_ 77, u_ 78, u_ 79, u_ 80, u_ 81, u_ 82, u_ 83, u_ 84, u_ 85, u_ 86, u_ 87, u_ 88, u_ 89, u_ 90, u_ 91, u_ 92, u_ 93, u_ 94, u_ 95, u_ 96, u_ 97, u_ 98, u_ 99, u_ 100, u_ 101, u_ 102, u_ 103, u_ 104, u_ 105, u_ 106, u_ 107, u_ 108, u_ 109, u_ 110, u_ 111, u_ 112, u_ 113, u_ 114, u_ 115, u_ 116, u_ 117, u_ 118, u_ 119, u_ 120, u_ 121, u_ 122, u_ 123, u_ 124, u_ 125, u_ 126, u_ 127, u_ 128, u_ 129, u_ 130, u_ 131, u_ 132, u_ 133, u_ 134, u_ 135, u_ 136, u_ 137, u_ 138, u_ 139, u_ 140, u_ 141, u_ 142, u_ 143, u_ 144, u_ 145, u_ 146, u_ 147, u_ 148, u_ 149, u_ 150]
def dowellaw03_ClassTexts.j15F (b1433 : Nat) (A1515 : Option Addr) (t1510 : List Tapi_Range) (c1516 : Nat) (b1654 : Nat) (b2133 : Nat) (x7021 : Int) (x7282 : Bool) (u_ : Nat → Value) : Array Value := #[u_ 0, u_ 1, .pointer (some ⟨b1433, 0, none⟩), u_ 3, u_ 4, u_ 5, u_ 6, u_ 7, .slice A1515 t1510.length c1516, u_ 9, .pointer (some ⟨b1654, 0, none⟩), u_ 11, u_ 12, .pointer (some ⟨b2133, 0, none⟩), u_ 14, u_ 15, .int .i64 2, .int .i64 x7021, u_ 18, u_ 19, u_ 20, u_ 21, u_ 22, u_ 23, u_ 24, u_ 25, u_ 26, u_ 27, u_ 28, u_ 29, u_ 30, u_ 31, u_ 32, u_ 33, u_ 34, u_ 35, u_ 36, u_ 37, u_ 38, u_ 39, u_ 40, u_ 41, u_ 42, u_ 43, u_ 44, u_ 45, u_ 46, u_ 47, u_ 48, u_ 49, u_ 50, u_ 51, u_ 52, u_ 53, u_ 54, u_ 55, u_ 56, u_ 57, u_ 58, u_ 59, u_ 60, u_ 61, u_ 62, u_ 63, u_ 64, u_ 65, u_ 66, u_ 67, u_ 68, u_ 69, u_ 70, u_ 71, u_ 72, u_ 73, u_ 74, u_ 75, u_ 76, u_ 77, u_ 78, u_ 79, u_ 80, u_ 81, u_ 82, u_ 83, u_ 84, u_ 85, u_ 86, u_ 87, u_ 88, u_ 89, u_ 90, u_ 91, u_ 92, u_ 93, u_ 94, u_ 95, u_ 96, u_ 97, u_ 98, u_ 99, u_ 100, u_ 101, u_ 102, u_ 103, u_ 104, u_ 105, u_ 106, u_ 107, u_ 108, u_ 109, u_ 110, u_ 111, u_ 112, u_ 113, u_ 114, u_ 115, u_ 116, u_ 117, u_ 118, u_ 119, u_ 120, u_ 121, u_ 122, u_ 123, u_ 124, u_ 125, u_ 126, u_ 127, u_ 128, u_ 129, u_ 130, u_ 131, u_ 132, u_ 133, u_ 134, u_ 135, u_ 136, u_ 137, u_ 138, u_ 139, u_ 140, u_ 141, u_ 142, u_ 143, u_ 144, u_ 145, .bool x7282, u_ 147, u_ 148, u_ 149, u_ 150]
def dowellaw03_ClassTexts.j15 (next13 : Int → Option (Bool)) (x7021 : Int) (x7282 : Bool) : Option (Bool) := if x7282 = true then (some false) else (next13 (W (x7021 + 1)))
def dowellaw03_ClassTexts.j14 (x7021 : Int) (x5167 : Nat) (x5166 : List Tapi_Range) (next13 : Int → Option (Bool)) (t1483 : List Tapi_Range) (x2092 : List Tapi_Range) (y7178 : Int) : Option (Bool) := if 0 ≤ x7021 then (if x7021 < (x5167 : Int) then (if ¬ ((((((rd zapi_Range x5166 x7021)).f0) == 2) && (((((rd zapi_Range x5166 x7021)).f1) == y7178) && true)) = true) then (dowellaw03_ClassTexts.j15 next13 x7021 true) else (if x7021 < (t1483.length : Int) then (dowellaw03_ClassTexts.j15 next13 x7021 (!(((((rd zapi_Range x2092 x7021)).f0) == 2) && (((((rd zapi_Range x2092 x7021)).f1) == y7178) && true)))) else (dowellaw03_ClassTexts.j15 next13 x7021 false))) else none) else none
def dowellaw03_ClassTexts.b13 (x5167 : Nat) (t1483 : List Tapi_Range) (x5166 : List Tapi_Range) (x2092 : List Tapi_Range) (next13 : Int → Option (Bool)) (brk13_10 : Option (Bool)) (x7021 : Int) : Option (Bool) := if x7021 < (x5167 : Int) then (if x7021 ≥ (t1483.length : Int) then (dowellaw03_ClassTexts.j14 x7021 x5167 x5166 next13 t1483 x2092 100) else (dowellaw03_ClassTexts.j14 x7021 x5167 x5166 next13 t1483 x2092 200)) else brk13_10
def dowellaw03_ClassTexts.l13 (x5167 : Nat) (t1483 : List Tapi_Range) (x5166 : List Tapi_Range) (x2092 : List Tapi_Range) (brk13_10 : Option (Bool)) : Nat → Int → Option (Bool)
  | 0, _ => none
  | n_ + 1, x7021 => dowellaw03_ClassTexts.b13 x5167 t1483 x5166 x2092 (dowellaw03_ClassTexts.l13 x5167 t1483 x5166 x2092 brk13_10 n_) brk13_10 x7021
def dowellaw03_ClassTexts.j0F (b1433 : Nat) (A1456 : Option Addr) (t1451 : List Tapi_Range) (c1457 : Nat) (A1471 : Option Addr) (t1466 : List Tapi_Range) (c1472 : Nat) (A1488 : Option Addr) (t1483 : List Tapi_Range) (c1489 : Nat) (A1515 : Option Addr) (t1510 : List Tapi_Range) (c1516 : Nat) (x1634 : Bool) (u_ : Nat → Value) : Array Value := #[u_ 0, u_ 1, .pointer (some ⟨b1433, 0, none⟩), u_ 3, u_ 4, .slice A1456 t1451.length c1457, .slice A1471 t1466.length c1472, .slice A1488 t1483.length c1489, .slice A1515 t1510.length c1516, u_ 9, u_ 10, u_ 11, u_ 12, u_ 13, u_ 14, u_ 15, u_ 16, u_ 17, u_ 18, u_ 19, u_ 20, u_ 21, u_ 22, u_ 23, u_ 24, u_ 25, u_ 26, u_ 27, u_ 28, u_ 29, u_ 30, u_ 31, u_ 32, u_ 33, u_ 34, u_ 35, u_ 36, u_ 37, u_ 38, u_ 39, u_ 40, u_ 41, u_ 42, u_ 43, u_ 44, u_ 45, u_ 46, u_ 47, u_ 48, u_ 49, u_ 50, .bool x1634, u_ 52, u_ 53, u_ 54, u_ 55, u_ 56, u_ 57, u_ 58, u_ 59, u_ 60, u_ 61, u_ 62, u_ 63, u_ 64, u_ 65, u_ 66, u_ 67, u_ 68, u_ 69, u_ 70, u_ 71, u_ 72, u_ 73, u_ 74, u_ 75, u_ 76, u_ 77, u_ 78, u_ 79, u_ 80, u_ 81, u_ 82, u_ 83, u_ 84, u_ 85, u_ 86, u_ 87, u_ 88, u_ 89, u_ 90, u_ 91, u_ 92, u_ 93, u_ 94, u_ 95, u_ 96, u_ 97, u_ 98, u_ 99, u_ 100, u_ 101, u_ 102, u_ 103, u_ 104, u_ 105, u_ 106, u_ 107, u_ 108, u_ 109, u_ 110, u_ 111, u_ 112, u_ 113, u_ 114, u_ 115, u_ 116, u_ 117, u_ 118, u_ 119, u_ 120, u_ 121, u_ 122, u_ 123, u_ 124, u_ 125, u_ 126, u_ 127, u_ 128, u_ 129, u_ 130, u_ 131, u_ 132, u_ 133, u_ 134, u_ 135, u_ 136, u_ 137, u_ 138, u_ 139, u_ 140, u_ 141, u_ 142, u_ 143, u_ 144, u_ 145, u_ 146, u_ 147, u_ 148, u_ 149, u_ 150]
def dowellaw03_ClassTexts.j0 (t1451 : List Tapi_Range) (t1466 : List Tapi_Range) (t1483 : List Tapi_Range) (K : Nat) (a0 : Tapi_Class) (t1510 : List Tapi_Range) (x1634 : Bool) : Option (Bool) := if x1634 = true then (some false) else (dowellaw03_ClassTexts.l1 t1451 (fun x1788 => dowellaw03_ClassTexts.l2 t1466 (fun x1940 => dowellaw03_ClassTexts.l3 t1483 (fun x2092 => dowellaw03_ClassTexts.l4 (fun x3053 x3054 => dowellaw03_ClassTexts.l5 (fun x4112 x4113 => dowellaw03_ClassTexts.l6 (fun x5166 x5167 => dowellaw03_ClassTexts.l7 x3054 t1451 x3053 x1788 (dowellaw03_ClassTexts.l10 x4113 t1466 x4112 x1940 (dowellaw03_ClassTexts.l13 x5167 t1483 x5166 x2092 ((class_Ranges.f K a0).bind fun t7429 => ((dowellaw03_sameRanges.f K t7429 t1510).bind fun t7460 => (some t7460))) K 0) K 0) K 0) K x2092 t1483.length 0) K x1940 t1466.length 0) K x1788 t1451.length 0) K t1483 0) K t1466 0) K t1451 0)
def dowellaw03_ClassTexts.f (K : Nat) (a0 : Tapi_Class) (a1 : Tapi_Class) : Option (Bool) := (class_Ranges.f K a0).bind fun t1451 => ((class_Ranges.f K a1).bind fun t1466 => ((class_Ranges.f K a0).bind fun t1483 => ((dowelref03_Ranges.f K a0).bind fun t1510 => ((dowelref03_Ranges.f K a1).bind fun t1531 => ((dowellaw03_sameRanges.f K t1451 t1510).bind fun t1564 => (if ¬ (t1564 = true) then (dowellaw03_ClassTexts.j0 t1451 t1466 t1483 K a0 t1510 true) else ((dowellaw03_sameRanges.f K t1466 t1531).bind fun t1577 => (if ¬ (t1577 = true) then (dowellaw03_ClassTexts.j0 t1451 t1466 t1483 K a0 t1510 true) else ((dowellaw03_sameRanges.f K t1483 t1510).bind fun t1590 => (if ¬ (t1590 = true) then (dowellaw03_ClassTexts.j0 t1451 t1466 t1483 K a0 t1510 true) else ((class_Text.f K a0).bind fun t1603 => ((dowelref03_Text.f K a0).bind fun t1615 => (dowellaw03_ClassTexts.j0 t1451 t1466 t1483 K a0 t1510 (!(t1603.toList == t1615.toList)))))))))))))))
def dowellaw03_ClassTexts.R (r : Bool) (w : World) : Ending → World → Prop := fun e w' => e = .returned (.bool r) ∧ Kp No w w'
set_option maxRecDepth 20000 in
set_option maxHeartbeats 4000000 in
theorem dowellaw03_ClassTexts.b1.ok (K : Nat) (a0 : Tapi_Class) (a1 : Tapi_Class) (w : World) (r : Bool) (b1433 : Nat) (A1515 : Option Addr) (t1510 : List Tapi_Range) (c1516 : Nat) (b1654 : Nat) (A1456 : Option Addr) (t1451 : List Tapi_Range) (c1457 : Nat) (A1471 : Option Addr) (t1466 : List Tapi_Range) (c1472 : Nat) (A1488 : Option Addr) (t1483 : List Tapi_Range) (c1489 : Nat) {Q : Exit → Act → World → Prop} (HR : ∀ a w', bodyPost Try.prog Try.f4 (dowellaw03_ClassTexts.R r w) .ret a w' → Q .ret a w') {next1 : List Tapi_Range → Int → Option (Bool)} {brk1_2 : List Tapi_Range → Option (Bool)} (HN1 : ∀ (x1731q : List Tapi_Range) (x1732q : Int) (u1728q : Nat → Value) (w1729q : World) (k1730q : Kp No w w1729q) (hb1733q : Blk w1729q b1433 #[.int .u64 a0.f0, .int .u64 a0.f1, .int .u64 a0.f2, .int .u64 a0.f3] 37) (hb1734q : Blk w1729q b1654 #[.slice A1456 t1451.length c1457, .slice A1471 t1466.length c1472, .slice A1488 t1483.length c1489] 42) (ghb1733q : w.heap.size ≤ b1433) (ghb1734q : w.heap.size ≤ b1654) (nhb1733hb1734q : b1433 ≠ b1654) (ho1753q : Ow w (Kapi_Range 44) w1729q A1456 t1451.length c1457 x1731q) (ho1754q : Ow w (Kapi_Range 44) w1729q A1471 t1466.length c1472 t1466) (ho1755q : Ow w (Kapi_Range 44) w1729q A1488 t1483.length c1489 t1483) (ho1756q : Ow w (Kapi_Range 44) w1729q A1515 t1510.length c1516 t1510) (n1757q : Dj (One b1433) (Ra A1456)) (n1758q : Dj (One b1433) (Ra A1471)) (n1759q : Dj (One b1433) (Ra A1488)) (n1760q : Dj (One b1433) (Ra A1515)) (n1761q : Dj (One b1654) (Ra A1456)) (n1762q : Dj (One b1654) (Ra A1471)) (n1763q : Dj (One b1654) (Ra A1488)) (n1764q : Dj (One b1654) (Ra A1515)) (n1765q : Dj (Ra A1456) (Ra A1471)) (n1766q : Dj (Ra A1456) (Ra A1488)) (n1767q : Dj (Ra A1456) (Ra A1515)) (n1768q : Dj (Ra A1471) (Ra A1488)) (n1769q : Dj (Ra A1471) (Ra A1515)) (n1770q : Dj (Ra A1488) (Ra A1515)), next1 x1731q x1732q = some r → Q .normal ⟨dowellaw03_ClassTexts.F1 b1433 A1515 t1510 c1516 b1654 x1732q u1728q, []⟩ w1729q) (HX1_2 : ∀ (x1788q : List Tapi_Range) (u1784q : Nat → Value) (w1782q : World) (k1783q : Kp No w w1782q) (hb1786q : Blk w1782q b1433 #[.int .u64 a0.f0, .int .u64 a0.f1, .int .u64 a0.f2, .int .u64 a0.f3] 37) (hb1791q : Blk w1782q b1654 #[.slice A1456 t1451.length c1457, .slice A1471 t1466.length c1472, .slice A1488 t1483.length c1489] 42) (ghb1786q : w.heap.size ≤ b1433) (ghb1791q : w.heap.size ≤ b1654) (nhb1786hb1791q : b1433 ≠ b1654) (ho1810q : Ow w (Kapi_Range 44) w1782q A1515 t1510.length c1516 t1510) (ho1811q : Ow w (Kapi_Range 44) w1782q A1456 t1451.length c1457 x1788q) (ho1812q : Ow w (Kapi_Range 44) w1782q A1471 t1466.length c1472 t1466) (ho1813q : Ow w (Kapi_Range 44) w1782q A1488 t1483.length c1489 t1483) (n1814q : Dj (One b1433) (Ra A1515)) (n1815q : Dj (One b1433) (Ra A1456)) (n1816q : Dj (One b1433) (Ra A1471)) (n1817q : Dj (One b1433) (Ra A1488)) (n1818q : Dj (One b1654) (Ra A1515)) (n1819q : Dj (One b1654) (Ra A1456)) (n1820q : Dj (One b1654) (Ra A1471)) (n1821q : Dj (One b1654) (Ra A1488)) (n1822q : Dj (Ra A1515) (Ra A1456)) (n1823q : Dj (Ra A1515) (Ra A1471)) (n1824q : Dj (Ra A1515) (Ra A1488)) (n1825q : Dj (Ra A1456) (Ra A1471)) (n1826q : Dj (Ra A1456) (Ra A1488)) (n1827q : Dj (Ra A1471) (Ra A1488)), brk1_2 x1788q = some r → Q (.exit 2) ⟨dowellaw03_ClassTexts.F1_2 b1433 A1515 t1510 c1516 b1654 u1784q, []⟩ w1782q) (x1731 : List Tapi_Range) (x1732 : Int) (u1728 : Nat → Value) (w1729 : World) (k1730 : Kp No w w1729) (hb1733 : Blk w1729 b1433 #[.int .u64 a0.f0, .int .u64 a0.f1, .int .u64 a0.f2, .int .u64 a0.f3] 37) (hb1734 : Blk w1729 b1654 #[.slice A1456 t1451.length c1457, .slice A1471 t1466.length c1472, .slice A1488 t1483.length c1489] 42) (ghb1733 : w.heap.size ≤ b1433) (ghb1734 : w.heap.size ≤ b1654) (nhb1733hb1734 : b1433 ≠ b1654) (ho1753 : Ow w (Kapi_Range 44) w1729 A1456 t1451.length c1457 x1731) (ho1754 : Ow w (Kapi_Range 44) w1729 A1471 t1466.length c1472 t1466) (ho1755 : Ow w (Kapi_Range 44) w1729 A1488 t1483.length c1489 t1483) (ho1756 : Ow w (Kapi_Range 44) w1729 A1515 t1510.length c1516 t1510) (n1757 : Dj (One b1433) (Ra A1456)) (n1758 : Dj (One b1433) (Ra A1471)) (n1759 : Dj (One b1433) (Ra A1488)) (n1760 : Dj (One b1433) (Ra A1515)) (n1761 : Dj (One b1654) (Ra A1456)) (n1762 : Dj (One b1654) (Ra A1471)) (n1763 : Dj (One b1654) (Ra A1488)) (n1764 : Dj (One b1654) (Ra A1515)) (n1765 : Dj (Ra A1456) (Ra A1471)) (n1766 : Dj (Ra A1456) (Ra A1488)) (n1767 : Dj (Ra A1456) (Ra A1515)) (n1768 : Dj (Ra A1471) (Ra A1488)) (n1769 : Dj (Ra A1471) (Ra A1515)) (n1770 : Dj (Ra A1488) (Ra A1515)) (H : dowellaw03_ClassTexts.b1 t1451 next1 brk1_2 x1731 x1732 = some r) : (cd Try.f4 [1, 1, 1, 1, 1, 0, 1, 0, 0, 1, 0, 0, 1, 0, 0]).wp Try.prog Q ⟨dowellaw03_ClassTexts.F1 b1433 A1515 t1510 c1516 b1654 x1732 u1728, []⟩ w1729 := by
  unfold dowellaw03_ClassTexts.b1 at H
  refine w_seq (p := [1, 1, 1, 1, 1, 0, 1, 0, 0, 1, 0, 0, 1, 0, 0]) (p0 := [1, 1, 1, 1, 1, 0, 1, 0, 0, 1, 0, 0, 1, 0, 0, 0]) (p1 := [1, 1, 1, 1, 1, 0, 1, 0, 0, 1, 0, 0, 1, 0, 0, 1]) (by kernel_rfl) ?_
  refine w_seq (p := [1, 1, 1, 1, 1, 0, 1, 0, 0, 1, 0, 0, 1, 0, 0, 0]) (p0 := [1, 1, 1, 1, 1, 0, 1, 0, 0, 1, 0, 0, 1, 0, 0, 0, 0]) (p1 := [1, 1, 1, 1, 1, 0, 1, 0, 0, 1, 0, 0, 1, 0, 0, 0, 1]) (by kernel_rfl) ?_
  refine w_region (p := [1, 1, 1, 1, 1, 0, 1, 0, 0, 1, 0, 0, 1, 0, 0, 0, 0]) (id := 10) (by kernel_rfl) ?_
  refine r_vals 0 3 [.int .i64 x1732, .int .i64 0, .pointer (some ⟨b1654, 0, none⟩)] (by kernel_rfl) (by kernel_rfl) ?_
  refine r_do 3 (by kernel_rfl) (og_load (T := 38) (x := (Operand.tmp 62)) (b := b1654) (off := 0) (.slice A1456 t1451.length c1457) (by kernel_rfl) (by kernel_rfl) hb1734 (by kernel_rfl) ?_) 
  refine r_vals 4 6 [.int .i64 (t1451.length : Int), .bool (decide (x1732 < (t1451.length : Int)))] (by kernel_rfl) (by kernel_rfl) ?_
  refine r_fin 6 (by kernel_rfl) ?_
  refine q_then ?_
  refine w_cond (p := [1, 1, 1, 1, 1, 0, 1, 0, 0, 1, 0, 0, 1, 0, 0, 0, 1]) (p0 := [1, 1, 1, 1, 1, 0, 1, 0, 0, 1, 0, 0, 1, 0, 0, 0, 1, 0]) (p1 := [1, 1, 1, 1, 1, 0, 1, 0, 0, 1, 0, 0, 1, 0, 0, 0, 1, 1]) (c := (Operand.tmp 65)) (b := decide (x1732 < (t1451.length : Int))) (by kernel_rfl) (by kernel_rfl) ?_ ?_
  · intro h_
    have h1771 : x1732 < (t1451.length : Int) := by simpa using h_
    clear h_
    rw [if_pos h1771] at H
    refine w_skip (p := [1, 1, 1, 1, 1, 0, 1, 0, 0, 1, 0, 0, 1, 0, 0, 0, 1, 0]) (by kernel_rfl) ?_
    refine q_then ?_
    refine w_seq (p := [1, 1, 1, 1, 1, 0, 1, 0, 0, 1, 0, 0, 1, 0, 0, 1]) (p0 := [1, 1, 1, 1, 1, 0, 1, 0, 0, 1, 0, 0, 1, 0, 0, 1, 0]) (p1 := [1, 1, 1, 1, 1, 0, 1, 0, 0, 1, 0, 0, 1, 0, 0, 1, 1]) (by kernel_rfl) ?_
    refine w_block (p := [1, 1, 1, 1, 1, 0, 1, 0, 0, 1, 0, 0, 1, 0, 0, 1, 0]) (p0 := [1, 1, 1, 1, 1, 0, 1, 0, 0, 1, 0, 0, 1, 0, 0, 1, 0, 0]) (id := 3) (by kernel_rfl) ?_
    refine w_region (p := [1, 1, 1, 1, 1, 0, 1, 0, 0, 1, 0, 0, 1, 0, 0, 1, 0, 0]) (id := 12) (by kernel_rfl) ?_
    refine r_vals 0 2 [.int .i64 0, .pointer (some ⟨b1654, 0, none⟩)] (by kernel_rfl) (by kernel_rfl) ?_
    refine r_do 2 (by kernel_rfl) (og_load (T := 38) (x := (Operand.tmp 69)) (b := b1654) (off := 0) (.slice A1456 t1451.length c1457) (by kernel_rfl) (by kernel_rfl) hb1734 (by kernel_rfl) ?_) 
    refine r_vals 3 7 [.int .i64 x1732, .int .i64 0, .int .u8 0, .agg #[.int .u8 0, .int .u8 200]] (by kernel_rfl) (by kernel_rfl) ?_
    refine p_split (0 ≤ x1732) (fun h1772 => ?_) (fun h1772 => ?_)
    · rw [if_pos h1772] at H
      refine r_do 7 (by kernel_rfl) (ow_index (K := (Kapi_Range 44)) (T := 38) (e := 44) (sz := 2) (x := (Operand.tmp 70)) (y := (Operand.tmp 71)) (k := .i64) (n := t1451.length) (c := c1457) (A := A1456) (xs := x1731) (iv := x1732) (by kernel_rfl) (by kernel_rfl) (by kernel_rfl) (by kernel_rfl) h1772 h1771 (Ow.rdNo ho1753) (Ow.len ho1753) (by kernel_rfl) ?_) 
      refine r_do 8 (by kernel_rfl) (ow_storeE (K := (Kapi_Range 44)) (T := 44) (x := (Operand.tmp 75)) (y := (Operand.tmp 74)) (off := 0) (n := t1451.length) (iv := x1732) (A := A1456) (c := c1457) (xs := x1731) zapi_Range (⟨0, 200⟩ : Tapi_Range) (.agg #[.int .u8 0, .int .u8 200]) (by kernel_rfl) (by kernel_rfl) (by kernel_rfl) ho1753 h1772 h1771 (by kernel_rfl) ?_) 
      intro w1773 ho1775 k1774
      have k1776 := Kp.own ho1753 k1730 k1774
      have hb1777 := Blk.kpOne hb1733 k1774 n1757
      have hb1778 := Blk.kpOne hb1734 k1774 n1761
      have ho1779 := Ow.kp ho1754 k1774 (Dj.symm n1765)
      have ho1780 := Ow.kp ho1755 k1774 (Dj.symm n1766)
      have ho1781 := Ow.kp ho1756 k1774 (Dj.symm n1767)
      refine r_fin 9 (by kernel_rfl) ?_
      refine q_in ?_
      refine q_then ?_
      refine w_region (p := [1, 1, 1, 1, 1, 0, 1, 0, 0, 1, 0, 0, 1, 0, 0, 1, 1]) (id := 11) (by kernel_rfl) ?_
      refine r_vals 0 3 [.int .i64 x1732, .int .i64 (W (x1732 + 1)), .int .i64 (W (x1732 + 1))] (by kernel_rfl) (by kernel_rfl) ?_
      refine r_fin 3 (by kernel_rfl) ?_
      refine q_into (dowellaw03_ClassTexts.F1 b1433 A1515 t1510 c1516 b1654 (W (x1732 + 1))) (by kernel_rfl) (fun u_ => ?_)
      exact HN1 (stored x1731 x1732 (⟨0, 200⟩ : Tapi_Range)) (W (x1732 + 1)) u_ w1773 k1776 hb1777 hb1778 ghb1733 ghb1734 nhb1733hb1734 ho1775 ho1779 ho1780 ho1781 n1757 n1758 n1759 n1760 n1761 n1762 n1763 n1764 n1765 n1766 n1767 n1768 n1769 n1770 H
    · rw [if_neg h1772] at H
      cases H
  · intro h_
    have h1771 : ¬ (x1732 < (t1451.length : Int)) := by simpa using h_
    clear h_
    rw [if_neg h1771] at H
    refine w_exit (p := [1, 1, 1, 1, 1, 0, 1, 0, 0, 1, 0, 0, 1, 0, 0, 0, 1, 1]) (id := 2) (by kernel_rfl) ?_
    refine q_then_x ?_
    refine q_into (dowellaw03_ClassTexts.F1_2 b1433 A1515 t1510 c1516 b1654) (by kernel_rfl) (fun u_ => ?_)
    exact HX1_2 x1731 u_ w1729 k1730 hb1733 hb1734 ghb1733 ghb1734 nhb1733hb1734 ho1756 ho1753 ho1754 ho1755 n1760 n1757 n1758 n1759 n1764 n1761 n1762 n1763 (Dj.symm n1767) (Dj.symm n1769) (Dj.symm n1770) n1765 n1766 n1768 H
set_option maxRecDepth 20000 in
set_option maxHeartbeats 4000000 in
theorem dowellaw03_ClassTexts.l1.ok (K : Nat) (a0 : Tapi_Class) (a1 : Tapi_Class) (w : World) (r : Bool) (b1433 : Nat) (A1515 : Option Addr) (t1510 : List Tapi_Range) (c1516 : Nat) (b1654 : Nat) (A1456 : Option Addr) (t1451 : List Tapi_Range) (c1457 : Nat) (A1471 : Option Addr) (t1466 : List Tapi_Range) (c1472 : Nat) (A1488 : Option Addr) (t1483 : List Tapi_Range) (c1489 : Nat) {Q : Exit → Act → World → Prop} (HR : ∀ a w', bodyPost Try.prog Try.f4 (dowellaw03_ClassTexts.R r w) .ret a w' → Q .ret a w') {brk1_2 : List Tapi_Range → Option (Bool)} (HX1_2 : ∀ (x1788q : List Tapi_Range) (u1784q : Nat → Value) (w1782q : World) (k1783q : Kp No w w1782q) (hb1786q : Blk w1782q b1433 #[.int .u64 a0.f0, .int .u64 a0.f1, .int .u64 a0.f2, .int .u64 a0.f3] 37) (hb1791q : Blk w1782q b1654 #[.slice A1456 t1451.length c1457, .slice A1471 t1466.length c1472, .slice A1488 t1483.length c1489] 42) (ghb1786q : w.heap.size ≤ b1433) (ghb1791q : w.heap.size ≤ b1654) (nhb1786hb1791q : b1433 ≠ b1654) (ho1810q : Ow w (Kapi_Range 44) w1782q A1515 t1510.length c1516 t1510) (ho1811q : Ow w (Kapi_Range 44) w1782q A1456 t1451.length c1457 x1788q) (ho1812q : Ow w (Kapi_Range 44) w1782q A1471 t1466.length c1472 t1466) (ho1813q : Ow w (Kapi_Range 44) w1782q A1488 t1483.length c1489 t1483) (n1814q : Dj (One b1433) (Ra A1515)) (n1815q : Dj (One b1433) (Ra A1456)) (n1816q : Dj (One b1433) (Ra A1471)) (n1817q : Dj (One b1433) (Ra A1488)) (n1818q : Dj (One b1654) (Ra A1515)) (n1819q : Dj (One b1654) (Ra A1456)) (n1820q : Dj (One b1654) (Ra A1471)) (n1821q : Dj (One b1654) (Ra A1488)) (n1822q : Dj (Ra A1515) (Ra A1456)) (n1823q : Dj (Ra A1515) (Ra A1471)) (n1824q : Dj (Ra A1515) (Ra A1488)) (n1825q : Dj (Ra A1456) (Ra A1471)) (n1826q : Dj (Ra A1456) (Ra A1488)) (n1827q : Dj (Ra A1471) (Ra A1488)), brk1_2 x1788q = some r → Q (.exit 2) ⟨dowellaw03_ClassTexts.F1_2 b1433 A1515 t1510 c1516 b1654 u1784q, []⟩ w1782q) : ∀ (n_ : Nat) (x1731 : List Tapi_Range) (x1732 : Int) (u1728 : Nat → Value) (w1729 : World) (k1730 : Kp No w w1729) (hb1733 : Blk w1729 b1433 #[.int .u64 a0.f0, .int .u64 a0.f1, .int .u64 a0.f2, .int .u64 a0.f3] 37) (hb1734 : Blk w1729 b1654 #[.slice A1456 t1451.length c1457, .slice A1471 t1466.length c1472, .slice A1488 t1483.length c1489] 42) (ghb1733 : w.heap.size ≤ b1433) (ghb1734 : w.heap.size ≤ b1654) (nhb1733hb1734 : b1433 ≠ b1654) (ho1753 : Ow w (Kapi_Range 44) w1729 A1456 t1451.length c1457 x1731) (ho1754 : Ow w (Kapi_Range 44) w1729 A1471 t1466.length c1472 t1466) (ho1755 : Ow w (Kapi_Range 44) w1729 A1488 t1483.length c1489 t1483) (ho1756 : Ow w (Kapi_Range 44) w1729 A1515 t1510.length c1516 t1510) (n1757 : Dj (One b1433) (Ra A1456)) (n1758 : Dj (One b1433) (Ra A1471)) (n1759 : Dj (One b1433) (Ra A1488)) (n1760 : Dj (One b1433) (Ra A1515)) (n1761 : Dj (One b1654) (Ra A1456)) (n1762 : Dj (One b1654) (Ra A1471)) (n1763 : Dj (One b1654) (Ra A1488)) (n1764 : Dj (One b1654) (Ra A1515)) (n1765 : Dj (Ra A1456) (Ra A1471)) (n1766 : Dj (Ra A1456) (Ra A1488)) (n1767 : Dj (Ra A1456) (Ra A1515)) (n1768 : Dj (Ra A1471) (Ra A1488)) (n1769 : Dj (Ra A1471) (Ra A1515)) (n1770 : Dj (Ra A1488) (Ra A1515)) (H : dowellaw03_ClassTexts.l1 t1451 brk1_2 n_ x1731 x1732 = some r), Code.rounds Try.prog (cd Try.f4 [1, 1, 1, 1, 1, 0, 1, 0, 0, 1, 0, 0, 1, 0, 0]) Q n_ ⟨dowellaw03_ClassTexts.F1 b1433 A1515 t1510 c1516 b1654 x1732 u1728, []⟩ w1729
  | 0, _, _, _, _, _, _, _, _, _, _, _, _, _, _, _, _, _, _, _, _, _, _, _, _, _, _, _, _, H => by cases H
  | n_ + 1, x1731, x1732, u1728, w1729, k1730, hb1733, hb1734, ghb1733, ghb1734, nhb1733hb1734, ho1753, ho1754, ho1755, ho1756, n1757, n1758, n1759, n1760, n1761, n1762, n1763, n1764, n1765, n1766, n1767, n1768, n1769, n1770, H =>
    dowellaw03_ClassTexts.b1.ok K a0 a1 w r b1433 A1515 t1510 c1516 b1654 A1456 t1451 c1457 A1471 t1466 c1472 A1488 t1483 c1489 (Q := Exit.then (Code.rounds Try.prog (cd Try.f4 [1, 1, 1, 1, 1, 0, 1, 0, 0, 1, 0, 0, 1, 0, 0]) Q n_) Q) (fun a w' h_ => q_then_r (HR a w' h_)) (fun x0_ x1_ x2_ x3_ x4_ x5_ x6_ x7_ x8_ x9_ x10_ x11_ x12_ x13_ x14_ x15_ x16_ x17_ x18_ x19_ x20_ x21_ x22_ x23_ x24_ x25_ x26_ x27_ h_ => dowellaw03_ClassTexts.l1.ok K a0 a1 w r b1433 A1515 t1510 c1516 b1654 A1456 t1451 c1457 A1471 t1466 c1472 A1488 t1483 c1489 HR HX1_2 n_ x0_ x1_ x2_ x3_ x4_ x5_ x6_ x7_ x8_ x9_ x10_ x11_ x12_ x13_ x14_ x15_ x16_ x17_ x18_ x19_ x20_ x21_ x22_ x23_ x24_ x25_ x26_ x27_ h_) (fun x0_ x1_ x2_ x3_ x4_ x5_ x6_ x7_ x8_ x9_ x10_ x11_ x12_ x13_ x14_ x15_ x16_ x17_ x18_ x19_ x20_ x21_ x22_ x23_ x24_ x25_ x26_ h_ => q_then_x (HX1_2 x0_ x1_ x2_ x3_ x4_ x5_ x6_ x7_ x8_ x9_ x10_ x11_ x12_ x13_ x14_ x15_ x16_ x17_ x18_ x19_ x20_ x21_ x22_ x23_ x24_ x25_ x26_ h_)) x1731 x1732 u1728 w1729 k1730 hb1733 hb1734 ghb1733 ghb1734 nhb1733hb1734 ho1753 ho1754 ho1755 ho1756 n1757 n1758 n1759 n1760 n1761 n1762 n1763 n1764 n1765 n1766 n1767 n1768 n1769 n1770 H
set_option maxRecDepth 20000 in
set_option maxHeartbeats 4000000 in
theorem dowellaw03_ClassTexts.b2.ok (K : Nat) (a0 : Tapi_Class) (a1 : Tapi_Class) (w : World) (r : Bool) (b1433 : Nat) (A1515 : Option Addr) (t1510 : List Tapi_Range) (c1516 : Nat) (b1654 : Nat) (A1456 : Option Addr) (t1451 : List Tapi_Range) (c1457 : Nat) (A1471 : Option Addr) (t1466 : List Tapi_Range) (c1472 : Nat) (A1488 : Option Addr) (t1483 : List Tapi_Range) (c1489 : Nat) (x1788 : List Tapi_Range) {Q : Exit → Act → World → Prop} (HR : ∀ a w', bodyPost Try.prog Try.f4 (dowellaw03_ClassTexts.R r w) .ret a w' → Q .ret a w') {next2 : List Tapi_Range → Int → Option (Bool)} {brk2_2 : List Tapi_Range → Option (Bool)} (HN2 : ∀ (x1882q : List Tapi_Range) (x1883q : Int) (u1879q : Nat → Value) (w1880q : World) (k1881q : Kp No w w1880q) (hb1884q : Blk w1880q b1433 #[.int .u64 a0.f0, .int .u64 a0.f1, .int .u64 a0.f2, .int .u64 a0.f3] 37) (hb1885q : Blk w1880q b1654 #[.slice A1456 t1451.length c1457, .slice A1471 t1466.length c1472, .slice A1488 t1483.length c1489] 42) (ghb1884q : w.heap.size ≤ b1433) (ghb1885q : w.heap.size ≤ b1654) (nhb1884hb1885q : b1433 ≠ b1654) (ho1904q : Ow w (Kapi_Range 44) w1880q A1515 t1510.length c1516 t1510) (ho1905q : Ow w (Kapi_Range 44) w1880q A1456 t1451.length c1457 x1788) (ho1906q : Ow w (Kapi_Range 44) w1880q A1471 t1466.length c1472 x1882q) (ho1907q : Ow w (Kapi_Range 44) w1880q A1488 t1483.length c1489 t1483) (n1908q : Dj (One b1433) (Ra A1515)) (n1909q : Dj (One b1433) (Ra A1456)) (n1910q : Dj (One b1433) (Ra A1471)) (n1911q : Dj (One b1433) (Ra A1488)) (n1912q : Dj (One b1654) (Ra A1515)) (n1913q : Dj (One b1654) (Ra A1456)) (n1914q : Dj (One b1654) (Ra A1471)) (n1915q : Dj (One b1654) (Ra A1488)) (n1916q : Dj (Ra A1515) (Ra A1456)) (n1917q : Dj (Ra A1515) (Ra A1471)) (n1918q : Dj (Ra A1515) (Ra A1488)) (n1919q : Dj (Ra A1456) (Ra A1471)) (n1920q : Dj (Ra A1456) (Ra A1488)) (n1921q : Dj (Ra A1471) (Ra A1488)), next2 x1882q x1883q = some r → Q .normal ⟨dowellaw03_ClassTexts.F2 b1433 A1515 t1510 c1516 b1654 x1883q u1879q, []⟩ w1880q) (HX2_2 : ∀ (x1940q : List Tapi_Range) (u1935q : Nat → Value) (w1933q : World) (k1934q : Kp No w w1933q) (hb1937q : Blk w1933q b1433 #[.int .u64 a0.f0, .int .u64 a0.f1, .int .u64 a0.f2, .int .u64 a0.f3] 37) (hb1942q : Blk w1933q b1654 #[.slice A1456 t1451.length c1457, .slice A1471 t1466.length c1472, .slice A1488 t1483.length c1489] 42) (ghb1937q : w.heap.size ≤ b1433) (ghb1942q : w.heap.size ≤ b1654) (nhb1937hb1942q : b1433 ≠ b1654) (ho1961q : Ow w (Kapi_Range 44) w1933q A1515 t1510.length c1516 t1510) (ho1962q : Ow w (Kapi_Range 44) w1933q A1456 t1451.length c1457 x1788) (ho1963q : Ow w (Kapi_Range 44) w1933q A1471 t1466.length c1472 x1940q) (ho1964q : Ow w (Kapi_Range 44) w1933q A1488 t1483.length c1489 t1483) (n1965q : Dj (One b1433) (Ra A1515)) (n1966q : Dj (One b1433) (Ra A1456)) (n1967q : Dj (One b1433) (Ra A1471)) (n1968q : Dj (One b1433) (Ra A1488)) (n1969q : Dj (One b1654) (Ra A1515)) (n1970q : Dj (One b1654) (Ra A1456)) (n1971q : Dj (One b1654) (Ra A1471)) (n1972q : Dj (One b1654) (Ra A1488)) (n1973q : Dj (Ra A1515) (Ra A1456)) (n1974q : Dj (Ra A1515) (Ra A1471)) (n1975q : Dj (Ra A1515) (Ra A1488)) (n1976q : Dj (Ra A1456) (Ra A1471)) (n1977q : Dj (Ra A1456) (Ra A1488)) (n1978q : Dj (Ra A1471) (Ra A1488)), brk2_2 x1940q = some r → Q (.exit 2) ⟨dowellaw03_ClassTexts.F2_2 b1433 A1515 t1510 c1516 b1654 u1935q, []⟩ w1933q) (x1882 : List Tapi_Range) (x1883 : Int) (u1879 : Nat → Value) (w1880 : World) (k1881 : Kp No w w1880) (hb1884 : Blk w1880 b1433 #[.int .u64 a0.f0, .int .u64 a0.f1, .int .u64 a0.f2, .int .u64 a0.f3] 37) (hb1885 : Blk w1880 b1654 #[.slice A1456 t1451.length c1457, .slice A1471 t1466.length c1472, .slice A1488 t1483.length c1489] 42) (ghb1884 : w.heap.size ≤ b1433) (ghb1885 : w.heap.size ≤ b1654) (nhb1884hb1885 : b1433 ≠ b1654) (ho1904 : Ow w (Kapi_Range 44) w1880 A1515 t1510.length c1516 t1510) (ho1905 : Ow w (Kapi_Range 44) w1880 A1456 t1451.length c1457 x1788) (ho1906 : Ow w (Kapi_Range 44) w1880 A1471 t1466.length c1472 x1882) (ho1907 : Ow w (Kapi_Range 44) w1880 A1488 t1483.length c1489 t1483) (n1908 : Dj (One b1433) (Ra A1515)) (n1909 : Dj (One b1433) (Ra A1456)) (n1910 : Dj (One b1433) (Ra A1471)) (n1911 : Dj (One b1433) (Ra A1488)) (n1912 : Dj (One b1654) (Ra A1515)) (n1913 : Dj (One b1654) (Ra A1456)) (n1914 : Dj (One b1654) (Ra A1471)) (n1915 : Dj (One b1654) (Ra A1488)) (n1916 : Dj (Ra A1515) (Ra A1456)) (n1917 : Dj (Ra A1515) (Ra A1471)) (n1918 : Dj (Ra A1515) (Ra A1488)) (n1919 : Dj (Ra A1456) (Ra A1471)) (n1920 : Dj (Ra A1456) (Ra A1488)) (n1921 : Dj (Ra A1471) (Ra A1488)) (H : dowellaw03_ClassTexts.b2 t1466 next2 brk2_2 x1882 x1883 = some r) : (cd Try.f4 [1, 1, 1, 1, 1, 0, 1, 0, 0, 1, 0, 0, 1, 0, 0]).wp Try.prog Q ⟨dowellaw03_ClassTexts.F2 b1433 A1515 t1510 c1516 b1654 x1883 u1879, []⟩ w1880 := by
  unfold dowellaw03_ClassTexts.b2 at H
  refine w_seq (p := [1, 1, 1, 1, 1, 0, 1, 0, 0, 1, 0, 0, 1, 0, 0]) (p0 := [1, 1, 1, 1, 1, 0, 1, 0, 0, 1, 0, 0, 1, 0, 0, 0]) (p1 := [1, 1, 1, 1, 1, 0, 1, 0, 0, 1, 0, 0, 1, 0, 0, 1]) (by kernel_rfl) ?_
  refine w_seq (p := [1, 1, 1, 1, 1, 0, 1, 0, 0, 1, 0, 0, 1, 0, 0, 0]) (p0 := [1, 1, 1, 1, 1, 0, 1, 0, 0, 1, 0, 0, 1, 0, 0, 0, 0]) (p1 := [1, 1, 1, 1, 1, 0, 1, 0, 0, 1, 0, 0, 1, 0, 0, 0, 1]) (by kernel_rfl) ?_
  refine w_region (p := [1, 1, 1, 1, 1, 0, 1, 0, 0, 1, 0, 0, 1, 0, 0, 0, 0]) (id := 10) (by kernel_rfl) ?_
  refine r_vals 0 3 [.int .i64 x1883, .int .i64 1, .pointer (some ⟨b1654, 1, none⟩)] (by kernel_rfl) (by kernel_rfl) ?_
  refine r_do 3 (by kernel_rfl) (og_load (T := 38) (x := (Operand.tmp 62)) (b := b1654) (off := 1) (.slice A1471 t1466.length c1472) (by kernel_rfl) (by kernel_rfl) hb1885 (by kernel_rfl) ?_) 
  refine r_vals 4 6 [.int .i64 (t1466.length : Int), .bool (decide (x1883 < (t1466.length : Int)))] (by kernel_rfl) (by kernel_rfl) ?_
  refine r_fin 6 (by kernel_rfl) ?_
  refine q_then ?_
  refine w_cond (p := [1, 1, 1, 1, 1, 0, 1, 0, 0, 1, 0, 0, 1, 0, 0, 0, 1]) (p0 := [1, 1, 1, 1, 1, 0, 1, 0, 0, 1, 0, 0, 1, 0, 0, 0, 1, 0]) (p1 := [1, 1, 1, 1, 1, 0, 1, 0, 0, 1, 0, 0, 1, 0, 0, 0, 1, 1]) (c := (Operand.tmp 65)) (b := decide (x1883 < (t1466.length : Int))) (by kernel_rfl) (by kernel_rfl) ?_ ?_
  · intro h_
    have h1922 : x1883 < (t1466.length : Int) := by simpa using h_
    clear h_
    rw [if_pos h1922] at H
    refine w_skip (p := [1, 1, 1, 1, 1, 0, 1, 0, 0, 1, 0, 0, 1, 0, 0, 0, 1, 0]) (by kernel_rfl) ?_
    refine q_then ?_
    refine w_seq (p := [1, 1, 1, 1, 1, 0, 1, 0, 0, 1, 0, 0, 1, 0, 0, 1]) (p0 := [1, 1, 1, 1, 1, 0, 1, 0, 0, 1, 0, 0, 1, 0, 0, 1, 0]) (p1 := [1, 1, 1, 1, 1, 0, 1, 0, 0, 1, 0, 0, 1, 0, 0, 1, 1]) (by kernel_rfl) ?_
    refine w_block (p := [1, 1, 1, 1, 1, 0, 1, 0, 0, 1, 0, 0, 1, 0, 0, 1, 0]) (p0 := [1, 1, 1, 1, 1, 0, 1, 0, 0, 1, 0, 0, 1, 0, 0, 1, 0, 0]) (id := 3) (by kernel_rfl) ?_
    refine w_region (p := [1, 1, 1, 1, 1, 0, 1, 0, 0, 1, 0, 0, 1, 0, 0, 1, 0, 0]) (id := 12) (by kernel_rfl) ?_
    refine r_vals 0 2 [.int .i64 1, .pointer (some ⟨b1654, 1, none⟩)] (by kernel_rfl) (by kernel_rfl) ?_
    refine r_do 2 (by kernel_rfl) (og_load (T := 38) (x := (Operand.tmp 69)) (b := b1654) (off := 1) (.slice A1471 t1466.length c1472) (by kernel_rfl) (by kernel_rfl) hb1885 (by kernel_rfl) ?_) 
    refine r_vals 3 7 [.int .i64 x1883, .int .i64 1, .int .u8 1, .agg #[.int .u8 1, .int .u8 200]] (by kernel_rfl) (by kernel_rfl) ?_
    refine p_split (0 ≤ x1883) (fun h1923 => ?_) (fun h1923 => ?_)
    · rw [if_pos h1923] at H
      refine r_do 7 (by kernel_rfl) (ow_index (K := (Kapi_Range 44)) (T := 38) (e := 44) (sz := 2) (x := (Operand.tmp 70)) (y := (Operand.tmp 71)) (k := .i64) (n := t1466.length) (c := c1472) (A := A1471) (xs := x1882) (iv := x1883) (by kernel_rfl) (by kernel_rfl) (by kernel_rfl) (by kernel_rfl) h1923 h1922 (Ow.rdNo ho1906) (Ow.len ho1906) (by kernel_rfl) ?_) 
      refine r_do 8 (by kernel_rfl) (ow_storeE (K := (Kapi_Range 44)) (T := 44) (x := (Operand.tmp 75)) (y := (Operand.tmp 74)) (off := 0) (n := t1466.length) (iv := x1883) (A := A1471) (c := c1472) (xs := x1882) zapi_Range (⟨1, 200⟩ : Tapi_Range) (.agg #[.int .u8 1, .int .u8 200]) (by kernel_rfl) (by kernel_rfl) (by kernel_rfl) ho1906 h1923 h1922 (by kernel_rfl) ?_) 
      intro w1924 ho1926 k1925
      have k1927 := Kp.own ho1906 k1881 k1925
      have hb1928 := Blk.kpOne hb1884 k1925 n1910
      have hb1929 := Blk.kpOne hb1885 k1925 n1914
      have ho1930 := Ow.kp ho1904 k1925 n1917
      have ho1931 := Ow.kp ho1905 k1925 n1919
      have ho1932 := Ow.kp ho1907 k1925 (Dj.symm n1921)
      refine r_fin 9 (by kernel_rfl) ?_
      refine q_in ?_
      refine q_then ?_
      refine w_region (p := [1, 1, 1, 1, 1, 0, 1, 0, 0, 1, 0, 0, 1, 0, 0, 1, 1]) (id := 11) (by kernel_rfl) ?_
      refine r_vals 0 3 [.int .i64 x1883, .int .i64 (W (x1883 + 1)), .int .i64 (W (x1883 + 1))] (by kernel_rfl) (by kernel_rfl) ?_
      refine r_fin 3 (by kernel_rfl) ?_
      refine q_into (dowellaw03_ClassTexts.F2 b1433 A1515 t1510 c1516 b1654 (W (x1883 + 1))) (by kernel_rfl) (fun u_ => ?_)
      exact HN2 (stored x1882 x1883 (⟨1, 200⟩ : Tapi_Range)) (W (x1883 + 1)) u_ w1924 k1927 hb1928 hb1929 ghb1884 ghb1885 nhb1884hb1885 ho1930 ho1931 ho1926 ho1932 n1908 n1909 n1910 n1911 n1912 n1913 n1914 n1915 n1916 n1917 n1918 n1919 n1920 n1921 H
    · rw [if_neg h1923] at H
      cases H
  · intro h_
    have h1922 : ¬ (x1883 < (t1466.length : Int)) := by simpa using h_
    clear h_
    rw [if_neg h1922] at H
    refine w_exit (p := [1, 1, 1, 1, 1, 0, 1, 0, 0, 1, 0, 0, 1, 0, 0, 0, 1, 1]) (id := 2) (by kernel_rfl) ?_
    refine q_then_x ?_
    refine q_into (dowellaw03_ClassTexts.F2_2 b1433 A1515 t1510 c1516 b1654) (by kernel_rfl) (fun u_ => ?_)
    exact HX2_2 x1882 u_ w1880 k1881 hb1884 hb1885 ghb1884 ghb1885 nhb1884hb1885 ho1904 ho1905 ho1906 ho1907 n1908 n1909 n1910 n1911 n1912 n1913 n1914 n1915 n1916 n1917 n1918 n1919 n1920 n1921 H
set_option maxRecDepth 20000 in
set_option maxHeartbeats 4000000 in
theorem dowellaw03_ClassTexts.l2.ok (K : Nat) (a0 : Tapi_Class) (a1 : Tapi_Class) (w : World) (r : Bool) (b1433 : Nat) (A1515 : Option Addr) (t1510 : List Tapi_Range) (c1516 : Nat) (b1654 : Nat) (A1456 : Option Addr) (t1451 : List Tapi_Range) (c1457 : Nat) (A1471 : Option Addr) (t1466 : List Tapi_Range) (c1472 : Nat) (A1488 : Option Addr) (t1483 : List Tapi_Range) (c1489 : Nat) (x1788 : List Tapi_Range) {Q : Exit → Act → World → Prop} (HR : ∀ a w', bodyPost Try.prog Try.f4 (dowellaw03_ClassTexts.R r w) .ret a w' → Q .ret a w') {brk2_2 : List Tapi_Range → Option (Bool)} (HX2_2 : ∀ (x1940q : List Tapi_Range) (u1935q : Nat → Value) (w1933q : World) (k1934q : Kp No w w1933q) (hb1937q : Blk w1933q b1433 #[.int .u64 a0.f0, .int .u64 a0.f1, .int .u64 a0.f2, .int .u64 a0.f3] 37) (hb1942q : Blk w1933q b1654 #[.slice A1456 t1451.length c1457, .slice A1471 t1466.length c1472, .slice A1488 t1483.length c1489] 42) (ghb1937q : w.heap.size ≤ b1433) (ghb1942q : w.heap.size ≤ b1654) (nhb1937hb1942q : b1433 ≠ b1654) (ho1961q : Ow w (Kapi_Range 44) w1933q A1515 t1510.length c1516 t1510) (ho1962q : Ow w (Kapi_Range 44) w1933q A1456 t1451.length c1457 x1788) (ho1963q : Ow w (Kapi_Range 44) w1933q A1471 t1466.length c1472 x1940q) (ho1964q : Ow w (Kapi_Range 44) w1933q A1488 t1483.length c1489 t1483) (n1965q : Dj (One b1433) (Ra A1515)) (n1966q : Dj (One b1433) (Ra A1456)) (n1967q : Dj (One b1433) (Ra A1471)) (n1968q : Dj (One b1433) (Ra A1488)) (n1969q : Dj (One b1654) (Ra A1515)) (n1970q : Dj (One b1654) (Ra A1456)) (n1971q : Dj (One b1654) (Ra A1471)) (n1972q : Dj (One b1654) (Ra A1488)) (n1973q : Dj (Ra A1515) (Ra A1456)) (n1974q : Dj (Ra A1515) (Ra A1471)) (n1975q : Dj (Ra A1515) (Ra A1488)) (n1976q : Dj (Ra A1456) (Ra A1471)) (n1977q : Dj (Ra A1456) (Ra A1488)) (n1978q : Dj (Ra A1471) (Ra A1488)), brk2_2 x1940q = some r → Q (.exit 2) ⟨dowellaw03_ClassTexts.F2_2 b1433 A1515 t1510 c1516 b1654 u1935q, []⟩ w1933q) : ∀ (n_ : Nat) (x1882 : List Tapi_Range) (x1883 : Int) (u1879 : Nat → Value) (w1880 : World) (k1881 : Kp No w w1880) (hb1884 : Blk w1880 b1433 #[.int .u64 a0.f0, .int .u64 a0.f1, .int .u64 a0.f2, .int .u64 a0.f3] 37) (hb1885 : Blk w1880 b1654 #[.slice A1456 t1451.length c1457, .slice A1471 t1466.length c1472, .slice A1488 t1483.length c1489] 42) (ghb1884 : w.heap.size ≤ b1433) (ghb1885 : w.heap.size ≤ b1654) (nhb1884hb1885 : b1433 ≠ b1654) (ho1904 : Ow w (Kapi_Range 44) w1880 A1515 t1510.length c1516 t1510) (ho1905 : Ow w (Kapi_Range 44) w1880 A1456 t1451.length c1457 x1788) (ho1906 : Ow w (Kapi_Range 44) w1880 A1471 t1466.length c1472 x1882) (ho1907 : Ow w (Kapi_Range 44) w1880 A1488 t1483.length c1489 t1483) (n1908 : Dj (One b1433) (Ra A1515)) (n1909 : Dj (One b1433) (Ra A1456)) (n1910 : Dj (One b1433) (Ra A1471)) (n1911 : Dj (One b1433) (Ra A1488)) (n1912 : Dj (One b1654) (Ra A1515)) (n1913 : Dj (One b1654) (Ra A1456)) (n1914 : Dj (One b1654) (Ra A1471)) (n1915 : Dj (One b1654) (Ra A1488)) (n1916 : Dj (Ra A1515) (Ra A1456)) (n1917 : Dj (Ra A1515) (Ra A1471)) (n1918 : Dj (Ra A1515) (Ra A1488)) (n1919 : Dj (Ra A1456) (Ra A1471)) (n1920 : Dj (Ra A1456) (Ra A1488)) (n1921 : Dj (Ra A1471) (Ra A1488)) (H : dowellaw03_ClassTexts.l2 t1466 brk2_2 n_ x1882 x1883 = some r), Code.rounds Try.prog (cd Try.f4 [1, 1, 1, 1, 1, 0, 1, 0, 0, 1, 0, 0, 1, 0, 0]) Q n_ ⟨dowellaw03_ClassTexts.F2 b1433 A1515 t1510 c1516 b1654 x1883 u1879, []⟩ w1880
  | 0, _, _, _, _, _, _, _, _, _, _, _, _, _, _, _, _, _, _, _, _, _, _, _, _, _, _, _, _, H => by cases H
  | n_ + 1, x1882, x1883, u1879, w1880, k1881, hb1884, hb1885, ghb1884, ghb1885, nhb1884hb1885, ho1904, ho1905, ho1906, ho1907, n1908, n1909, n1910, n1911, n1912, n1913, n1914, n1915, n1916, n1917, n1918, n1919, n1920, n1921, H =>
    dowellaw03_ClassTexts.b2.ok K a0 a1 w r b1433 A1515 t1510 c1516 b1654 A1456 t1451 c1457 A1471 t1466 c1472 A1488 t1483 c1489 x1788 (Q := Exit.then (Code.rounds Try.prog (cd Try.f4 [1, 1, 1, 1, 1, 0, 1, 0, 0, 1, 0, 0, 1, 0, 0]) Q n_) Q) (fun a w' h_ => q_then_r (HR a w' h_)) (fun x0_ x1_ x2_ x3_ x4_ x5_ x6_ x7_ x8_ x9_ x10_ x11_ x12_ x13_ x14_ x15_ x16_ x17_ x18_ x19_ x20_ x21_ x22_ x23_ x24_ x25_ x26_ x27_ h_ => dowellaw03_ClassTexts.l2.ok K a0 a1 w r b1433 A1515 t1510 c1516 b1654 A1456 t1451 c1457 A1471 t1466 c1472 A1488 t1483 c1489 x1788 HR HX2_2 n_ x0_ x1_ x2_ x3_ x4_ x5_ x6_ x7_ x8_ x9_ x10_ x11_ x12_ x13_ x14_ x15_ x16_ x17_ x18_ x19_ x20_ x21_ x22_ x23_ x24_ x25_ x26_ x27_ h_) (fun x0_ x1_ x2_ x3_ x4_ x5_ x6_ x7_ x8_ x9_ x10_ x11_ x12_ x13_ x14_ x15_ x16_ x17_ x18_ x19_ x20_ x21_ x22_ x23_ x24_ x25_ x26_ h_ => q_then_x (HX2_2 x0_ x1_ x2_ x3_ x4_ x5_ x6_ x7_ x8_ x9_ x10_ x11_ x12_ x13_ x14_ x15_ x16_ x17_ x18_ x19_ x20_ x21_ x22_ x23_ x24_ x25_ x26_ h_)) x1882 x1883 u1879 w1880 k1881 hb1884 hb1885 ghb1884 ghb1885 nhb1884hb1885 ho1904 ho1905 ho1906 ho1907 n1908 n1909 n1910 n1911 n1912 n1913 n1914 n1915 n1916 n1917 n1918 n1919 n1920 n1921 H
set_option maxRecDepth 20000 in
set_option maxHeartbeats 4000000 in
theorem dowellaw03_ClassTexts.b3.ok (K : Nat) (a0 : Tapi_Class) (a1 : Tapi_Class) (w : World) (r : Bool) (b1433 : Nat) (A1515 : Option Addr) (t1510 : List Tapi_Range) (c1516 : Nat) (b1654 : Nat) (A1456 : Option Addr) (t1451 : List Tapi_Range) (c1457 : Nat) (A1471 : Option Addr) (t1466 : List Tapi_Range) (c1472 : Nat) (A1488 : Option Addr) (t1483 : List Tapi_Range) (c1489 : Nat) (x1788 : List Tapi_Range) (x1940 : List Tapi_Range) {Q : Exit → Act → World → Prop} (HR : ∀ a w', bodyPost Try.prog Try.f4 (dowellaw03_ClassTexts.R r w) .ret a w' → Q .ret a w') {next3 : List Tapi_Range → Int → Option (Bool)} {brk3_2 : List Tapi_Range → Option (Bool)} (HN3 : ∀ (x2033q : List Tapi_Range) (x2034q : Int) (u2030q : Nat → Value) (w2031q : World) (k2032q : Kp No w w2031q) (hb2035q : Blk w2031q b1433 #[.int .u64 a0.f0, .int .u64 a0.f1, .int .u64 a0.f2, .int .u64 a0.f3] 37) (hb2036q : Blk w2031q b1654 #[.slice A1456 t1451.length c1457, .slice A1471 t1466.length c1472, .slice A1488 t1483.length c1489] 42) (ghb2035q : w.heap.size ≤ b1433) (ghb2036q : w.heap.size ≤ b1654) (nhb2035hb2036q : b1433 ≠ b1654) (ho2055q : Ow w (Kapi_Range 44) w2031q A1515 t1510.length c1516 t1510) (ho2056q : Ow w (Kapi_Range 44) w2031q A1456 t1451.length c1457 x1788) (ho2057q : Ow w (Kapi_Range 44) w2031q A1471 t1466.length c1472 x1940) (ho2058q : Ow w (Kapi_Range 44) w2031q A1488 t1483.length c1489 x2033q) (n2059q : Dj (One b1433) (Ra A1515)) (n2060q : Dj (One b1433) (Ra A1456)) (n2061q : Dj (One b1433) (Ra A1471)) (n2062q : Dj (One b1433) (Ra A1488)) (n2063q : Dj (One b1654) (Ra A1515)) (n2064q : Dj (One b1654) (Ra A1456)) (n2065q : Dj (One b1654) (Ra A1471)) (n2066q : Dj (One b1654) (Ra A1488)) (n2067q : Dj (Ra A1515) (Ra A1456)) (n2068q : Dj (Ra A1515) (Ra A1471)) (n2069q : Dj (Ra A1515) (Ra A1488)) (n2070q : Dj (Ra A1456) (Ra A1471)) (n2071q : Dj (Ra A1456) (Ra A1488)) (n2072q : Dj (Ra A1471) (Ra A1488)), next3 x2033q x2034q = some r → Q .normal ⟨dowellaw03_ClassTexts.F3 b1433 A1515 t1510 c1516 b1654 x2034q u2030q, []⟩ w2031q) (HX3_2 : ∀ (x2092q : List Tapi_Range) (u2086q : Nat → Value) (w2084q : World) (k2085q : Kp No w w2084q) (hb2088q : Blk w2084q b1433 #[.int .u64 a0.f0, .int .u64 a0.f1, .int .u64 a0.f2, .int .u64 a0.f3] 37) (hb2093q : Blk w2084q b1654 #[.slice A1456 t1451.length c1457, .slice A1471 t1466.length c1472, .slice A1488 t1483.length c1489] 42) (ghb2088q : w.heap.size ≤ b1433) (ghb2093q : w.heap.size ≤ b1654) (nhb2088hb2093q : b1433 ≠ b1654) (ho2112q : Ow w (Kapi_Range 44) w2084q A1515 t1510.length c1516 t1510) (ho2113q : Ow w (Kapi_Range 44) w2084q A1456 t1451.length c1457 x1788) (ho2114q : Ow w (Kapi_Range 44) w2084q A1471 t1466.length c1472 x1940) (ho2115q : Ow w (Kapi_Range 44) w2084q A1488 t1483.length c1489 x2092q) (n2116q : Dj (One b1433) (Ra A1515)) (n2117q : Dj (One b1433) (Ra A1456)) (n2118q : Dj (One b1433) (Ra A1471)) (n2119q : Dj (One b1433) (Ra A1488)) (n2120q : Dj (One b1654) (Ra A1515)) (n2121q : Dj (One b1654) (Ra A1456)) (n2122q : Dj (One b1654) (Ra A1471)) (n2123q : Dj (One b1654) (Ra A1488)) (n2124q : Dj (Ra A1515) (Ra A1456)) (n2125q : Dj (Ra A1515) (Ra A1471)) (n2126q : Dj (Ra A1515) (Ra A1488)) (n2127q : Dj (Ra A1456) (Ra A1471)) (n2128q : Dj (Ra A1456) (Ra A1488)) (n2129q : Dj (Ra A1471) (Ra A1488)), brk3_2 x2092q = some r → Q (.exit 2) ⟨dowellaw03_ClassTexts.F3_2 b1433 A1515 t1510 c1516 b1654 u2086q, []⟩ w2084q) (x2033 : List Tapi_Range) (x2034 : Int) (u2030 : Nat → Value) (w2031 : World) (k2032 : Kp No w w2031) (hb2035 : Blk w2031 b1433 #[.int .u64 a0.f0, .int .u64 a0.f1, .int .u64 a0.f2, .int .u64 a0.f3] 37) (hb2036 : Blk w2031 b1654 #[.slice A1456 t1451.length c1457, .slice A1471 t1466.length c1472, .slice A1488 t1483.length c1489] 42) (ghb2035 : w.heap.size ≤ b1433) (ghb2036 : w.heap.size ≤ b1654) (nhb2035hb2036 : b1433 ≠ b1654) (ho2055 : Ow w (Kapi_Range 44) w2031 A1515 t1510.length c1516 t1510) (ho2056 : Ow w (Kapi_Range 44) w2031 A1456 t1451.length c1457 x1788) (ho2057 : Ow w (Kapi_Range 44) w2031 A1471 t1466.length c1472 x1940) (ho2058 : Ow w (Kapi_Range 44) w2031 A1488 t1483.length c1489 x2033) (n2059 : Dj (One b1433) (Ra A1515)) (n2060 : Dj (One b1433) (Ra A1456)) (n2061 : Dj (One b1433) (Ra A1471)) (n2062 : Dj (One b1433) (Ra A1488)) (n2063 : Dj (One b1654) (Ra A1515)) (n2064 : Dj (One b1654) (Ra A1456)) (n2065 : Dj (One b1654) (Ra A1471)) (n2066 : Dj (One b1654) (Ra A1488)) (n2067 : Dj (Ra A1515) (Ra A1456)) (n2068 : Dj (Ra A1515) (Ra A1471)) (n2069 : Dj (Ra A1515) (Ra A1488)) (n2070 : Dj (Ra A1456) (Ra A1471)) (n2071 : Dj (Ra A1456) (Ra A1488)) (n2072 : Dj (Ra A1471) (Ra A1488)) (H : dowellaw03_ClassTexts.b3 t1483 next3 brk3_2 x2033 x2034 = some r) : (cd Try.f4 [1, 1, 1, 1, 1, 0, 1, 0, 0, 1, 0, 0, 1, 0, 0]).wp Try.prog Q ⟨dowellaw03_ClassTexts.F3 b1433 A1515 t1510 c1516 b1654 x2034 u2030, []⟩ w2031 := by
  unfold dowellaw03_ClassTexts.b3 at H
  refine w_seq (p := [1, 1, 1, 1, 1, 0, 1, 0, 0, 1, 0, 0, 1, 0, 0]) (p0 := [1, 1, 1, 1, 1, 0, 1, 0, 0, 1, 0, 0, 1, 0, 0, 0]) (p1 := [1, 1, 1, 1, 1, 0, 1, 0, 0, 1, 0, 0, 1, 0, 0, 1]) (by kernel_rfl) ?_
  refine w_seq (p := [1, 1, 1, 1, 1, 0, 1, 0, 0, 1, 0, 0, 1, 0, 0, 0]) (p0 := [1, 1, 1, 1, 1, 0, 1, 0, 0, 1, 0, 0, 1, 0, 0, 0, 0]) (p1 := [1, 1, 1, 1, 1, 0, 1, 0, 0, 1, 0, 0, 1, 0, 0, 0, 1]) (by kernel_rfl) ?_
  refine w_region (p := [1, 1, 1, 1, 1, 0, 1, 0, 0, 1, 0, 0, 1, 0, 0, 0, 0]) (id := 10) (by kernel_rfl) ?_
  refine r_vals 0 3 [.int .i64 x2034, .int .i64 2, .pointer (some ⟨b1654, 2, none⟩)] (by kernel_rfl) (by kernel_rfl) ?_
  refine r_do 3 (by kernel_rfl) (og_load (T := 38) (x := (Operand.tmp 62)) (b := b1654) (off := 2) (.slice A1488 t1483.length c1489) (by kernel_rfl) (by kernel_rfl) hb2036 (by kernel_rfl) ?_) 
  refine r_vals 4 6 [.int .i64 (t1483.length : Int), .bool (decide (x2034 < (t1483.length : Int)))] (by kernel_rfl) (by kernel_rfl) ?_
  refine r_fin 6 (by kernel_rfl) ?_
  refine q_then ?_
  refine w_cond (p := [1, 1, 1, 1, 1, 0, 1, 0, 0, 1, 0, 0, 1, 0, 0, 0, 1]) (p0 := [1, 1, 1, 1, 1, 0, 1, 0, 0, 1, 0, 0, 1, 0, 0, 0, 1, 0]) (p1 := [1, 1, 1, 1, 1, 0, 1, 0, 0, 1, 0, 0, 1, 0, 0, 0, 1, 1]) (c := (Operand.tmp 65)) (b := decide (x2034 < (t1483.length : Int))) (by kernel_rfl) (by kernel_rfl) ?_ ?_
  · intro h_
    have h2073 : x2034 < (t1483.length : Int) := by simpa using h_
    clear h_
    rw [if_pos h2073] at H
    refine w_skip (p := [1, 1, 1, 1, 1, 0, 1, 0, 0, 1, 0, 0, 1, 0, 0, 0, 1, 0]) (by kernel_rfl) ?_
    refine q_then ?_
    refine w_seq (p := [1, 1, 1, 1, 1, 0, 1, 0, 0, 1, 0, 0, 1, 0, 0, 1]) (p0 := [1, 1, 1, 1, 1, 0, 1, 0, 0, 1, 0, 0, 1, 0, 0, 1, 0]) (p1 := [1, 1, 1, 1, 1, 0, 1, 0, 0, 1, 0, 0, 1, 0, 0, 1, 1]) (by kernel_rfl) ?_
    refine w_block (p := [1, 1, 1, 1, 1, 0, 1, 0, 0, 1, 0, 0, 1, 0, 0, 1, 0]) (p0 := [1, 1, 1, 1, 1, 0, 1, 0, 0, 1, 0, 0, 1, 0, 0, 1, 0, 0]) (id := 3) (by kernel_rfl) ?_
    refine w_region (p := [1, 1, 1, 1, 1, 0, 1, 0, 0, 1, 0, 0, 1, 0, 0, 1, 0, 0]) (id := 12) (by kernel_rfl) ?_
    refine r_vals 0 2 [.int .i64 2, .pointer (some ⟨b1654, 2, none⟩)] (by kernel_rfl) (by kernel_rfl) ?_
    refine r_do 2 (by kernel_rfl) (og_load (T := 38) (x := (Operand.tmp 69)) (b := b1654) (off := 2) (.slice A1488 t1483.length c1489) (by kernel_rfl) (by kernel_rfl) hb2036 (by kernel_rfl) ?_) 
    refine r_vals 3 7 [.int .i64 x2034, .int .i64 2, .int .u8 2, .agg #[.int .u8 2, .int .u8 200]] (by kernel_rfl) (by kernel_rfl) ?_
    refine p_split (0 ≤ x2034) (fun h2074 => ?_) (fun h2074 => ?_)
    · rw [if_pos h2074] at H
      refine r_do 7 (by kernel_rfl) (ow_index (K := (Kapi_Range 44)) (T := 38) (e := 44) (sz := 2) (x := (Operand.tmp 70)) (y := (Operand.tmp 71)) (k := .i64) (n := t1483.length) (c := c1489) (A := A1488) (xs := x2033) (iv := x2034) (by kernel_rfl) (by kernel_rfl) (by kernel_rfl) (by kernel_rfl) h2074 h2073 (Ow.rdNo ho2058) (Ow.len ho2058) (by kernel_rfl) ?_) 
      refine r_do 8 (by kernel_rfl) (ow_storeE (K := (Kapi_Range 44)) (T := 44) (x := (Operand.tmp 75)) (y := (Operand.tmp 74)) (off := 0) (n := t1483.length) (iv := x2034) (A := A1488) (c := c1489) (xs := x2033) zapi_Range (⟨2, 200⟩ : Tapi_Range) (.agg #[.int .u8 2, .int .u8 200]) (by kernel_rfl) (by kernel_rfl) (by kernel_rfl) ho2058 h2074 h2073 (by kernel_rfl) ?_) 
      intro w2075 ho2077 k2076
      have k2078 := Kp.own ho2058 k2032 k2076
      have hb2079 := Blk.kpOne hb2035 k2076 n2062
      have hb2080 := Blk.kpOne hb2036 k2076 n2066
      have ho2081 := Ow.kp ho2055 k2076 n2069
      have ho2082 := Ow.kp ho2056 k2076 n2071
      have ho2083 := Ow.kp ho2057 k2076 n2072
      refine r_fin 9 (by kernel_rfl) ?_
      refine q_in ?_
      refine q_then ?_
      refine w_region (p := [1, 1, 1, 1, 1, 0, 1, 0, 0, 1, 0, 0, 1, 0, 0, 1, 1]) (id := 11) (by kernel_rfl) ?_
      refine r_vals 0 3 [.int .i64 x2034, .int .i64 (W (x2034 + 1)), .int .i64 (W (x2034 + 1))] (by kernel_rfl) (by kernel_rfl) ?_
      refine r_fin 3 (by kernel_rfl) ?_
      refine q_into (dowellaw03_ClassTexts.F3 b1433 A1515 t1510 c1516 b1654 (W (x2034 + 1))) (by kernel_rfl) (fun u_ => ?_)
      exact HN3 (stored x2033 x2034 (⟨2, 200⟩ : Tapi_Range)) (W (x2034 + 1)) u_ w2075 k2078 hb2079 hb2080 ghb2035 ghb2036 nhb2035hb2036 ho2081 ho2082 ho2083 ho2077 n2059 n2060 n2061 n2062 n2063 n2064 n2065 n2066 n2067 n2068 n2069 n2070 n2071 n2072 H
    · rw [if_neg h2074] at H
      cases H
  · intro h_
    have h2073 : ¬ (x2034 < (t1483.length : Int)) := by simpa using h_
    clear h_
    rw [if_neg h2073] at H
    refine w_exit (p := [1, 1, 1, 1, 1, 0, 1, 0, 0, 1, 0, 0, 1, 0, 0, 0, 1, 1]) (id := 2) (by kernel_rfl) ?_
    refine q_then_x ?_
    refine q_into (dowellaw03_ClassTexts.F3_2 b1433 A1515 t1510 c1516 b1654) (by kernel_rfl) (fun u_ => ?_)
    exact HX3_2 x2033 u_ w2031 k2032 hb2035 hb2036 ghb2035 ghb2036 nhb2035hb2036 ho2055 ho2056 ho2057 ho2058 n2059 n2060 n2061 n2062 n2063 n2064 n2065 n2066 n2067 n2068 n2069 n2070 n2071 n2072 H
set_option maxRecDepth 20000 in
set_option maxHeartbeats 4000000 in
theorem dowellaw03_ClassTexts.l3.ok (K : Nat) (a0 : Tapi_Class) (a1 : Tapi_Class) (w : World) (r : Bool) (b1433 : Nat) (A1515 : Option Addr) (t1510 : List Tapi_Range) (c1516 : Nat) (b1654 : Nat) (A1456 : Option Addr) (t1451 : List Tapi_Range) (c1457 : Nat) (A1471 : Option Addr) (t1466 : List Tapi_Range) (c1472 : Nat) (A1488 : Option Addr) (t1483 : List Tapi_Range) (c1489 : Nat) (x1788 : List Tapi_Range) (x1940 : List Tapi_Range) {Q : Exit → Act → World → Prop} (HR : ∀ a w', bodyPost Try.prog Try.f4 (dowellaw03_ClassTexts.R r w) .ret a w' → Q .ret a w') {brk3_2 : List Tapi_Range → Option (Bool)} (HX3_2 : ∀ (x2092q : List Tapi_Range) (u2086q : Nat → Value) (w2084q : World) (k2085q : Kp No w w2084q) (hb2088q : Blk w2084q b1433 #[.int .u64 a0.f0, .int .u64 a0.f1, .int .u64 a0.f2, .int .u64 a0.f3] 37) (hb2093q : Blk w2084q b1654 #[.slice A1456 t1451.length c1457, .slice A1471 t1466.length c1472, .slice A1488 t1483.length c1489] 42) (ghb2088q : w.heap.size ≤ b1433) (ghb2093q : w.heap.size ≤ b1654) (nhb2088hb2093q : b1433 ≠ b1654) (ho2112q : Ow w (Kapi_Range 44) w2084q A1515 t1510.length c1516 t1510) (ho2113q : Ow w (Kapi_Range 44) w2084q A1456 t1451.length c1457 x1788) (ho2114q : Ow w (Kapi_Range 44) w2084q A1471 t1466.length c1472 x1940) (ho2115q : Ow w (Kapi_Range 44) w2084q A1488 t1483.length c1489 x2092q) (n2116q : Dj (One b1433) (Ra A1515)) (n2117q : Dj (One b1433) (Ra A1456)) (n2118q : Dj (One b1433) (Ra A1471)) (n2119q : Dj (One b1433) (Ra A1488)) (n2120q : Dj (One b1654) (Ra A1515)) (n2121q : Dj (One b1654) (Ra A1456)) (n2122q : Dj (One b1654) (Ra A1471)) (n2123q : Dj (One b1654) (Ra A1488)) (n2124q : Dj (Ra A1515) (Ra A1456)) (n2125q : Dj (Ra A1515) (Ra A1471)) (n2126q : Dj (Ra A1515) (Ra A1488)) (n2127q : Dj (Ra A1456) (Ra A1471)) (n2128q : Dj (Ra A1456) (Ra A1488)) (n2129q : Dj (Ra A1471) (Ra A1488)), brk3_2 x2092q = some r → Q (.exit 2) ⟨dowellaw03_ClassTexts.F3_2 b1433 A1515 t1510 c1516 b1654 u2086q, []⟩ w2084q) : ∀ (n_ : Nat) (x2033 : List Tapi_Range) (x2034 : Int) (u2030 : Nat → Value) (w2031 : World) (k2032 : Kp No w w2031) (hb2035 : Blk w2031 b1433 #[.int .u64 a0.f0, .int .u64 a0.f1, .int .u64 a0.f2, .int .u64 a0.f3] 37) (hb2036 : Blk w2031 b1654 #[.slice A1456 t1451.length c1457, .slice A1471 t1466.length c1472, .slice A1488 t1483.length c1489] 42) (ghb2035 : w.heap.size ≤ b1433) (ghb2036 : w.heap.size ≤ b1654) (nhb2035hb2036 : b1433 ≠ b1654) (ho2055 : Ow w (Kapi_Range 44) w2031 A1515 t1510.length c1516 t1510) (ho2056 : Ow w (Kapi_Range 44) w2031 A1456 t1451.length c1457 x1788) (ho2057 : Ow w (Kapi_Range 44) w2031 A1471 t1466.length c1472 x1940) (ho2058 : Ow w (Kapi_Range 44) w2031 A1488 t1483.length c1489 x2033) (n2059 : Dj (One b1433) (Ra A1515)) (n2060 : Dj (One b1433) (Ra A1456)) (n2061 : Dj (One b1433) (Ra A1471)) (n2062 : Dj (One b1433) (Ra A1488)) (n2063 : Dj (One b1654) (Ra A1515)) (n2064 : Dj (One b1654) (Ra A1456)) (n2065 : Dj (One b1654) (Ra A1471)) (n2066 : Dj (One b1654) (Ra A1488)) (n2067 : Dj (Ra A1515) (Ra A1456)) (n2068 : Dj (Ra A1515) (Ra A1471)) (n2069 : Dj (Ra A1515) (Ra A1488)) (n2070 : Dj (Ra A1456) (Ra A1471)) (n2071 : Dj (Ra A1456) (Ra A1488)) (n2072 : Dj (Ra A1471) (Ra A1488)) (H : dowellaw03_ClassTexts.l3 t1483 brk3_2 n_ x2033 x2034 = some r), Code.rounds Try.prog (cd Try.f4 [1, 1, 1, 1, 1, 0, 1, 0, 0, 1, 0, 0, 1, 0, 0]) Q n_ ⟨dowellaw03_ClassTexts.F3 b1433 A1515 t1510 c1516 b1654 x2034 u2030, []⟩ w2031
  | 0, _, _, _, _, _, _, _, _, _, _, _, _, _, _, _, _, _, _, _, _, _, _, _, _, _, _, _, _, H => by cases H
  | n_ + 1, x2033, x2034, u2030, w2031, k2032, hb2035, hb2036, ghb2035, ghb2036, nhb2035hb2036, ho2055, ho2056, ho2057, ho2058, n2059, n2060, n2061, n2062, n2063, n2064, n2065, n2066, n2067, n2068, n2069, n2070, n2071, n2072, H =>
    dowellaw03_ClassTexts.b3.ok K a0 a1 w r b1433 A1515 t1510 c1516 b1654 A1456 t1451 c1457 A1471 t1466 c1472 A1488 t1483 c1489 x1788 x1940 (Q := Exit.then (Code.rounds Try.prog (cd Try.f4 [1, 1, 1, 1, 1, 0, 1, 0, 0, 1, 0, 0, 1, 0, 0]) Q n_) Q) (fun a w' h_ => q_then_r (HR a w' h_)) (fun x0_ x1_ x2_ x3_ x4_ x5_ x6_ x7_ x8_ x9_ x10_ x11_ x12_ x13_ x14_ x15_ x16_ x17_ x18_ x19_ x20_ x21_ x22_ x23_ x24_ x25_ x26_ x27_ h_ => dowellaw03_ClassTexts.l3.ok K a0 a1 w r b1433 A1515 t1510 c1516 b1654 A1456 t1451 c1457 A1471 t1466 c1472 A1488 t1483 c1489 x1788 x1940 HR HX3_2 n_ x0_ x1_ x2_ x3_ x4_ x5_ x6_ x7_ x8_ x9_ x10_ x11_ x12_ x13_ x14_ x15_ x16_ x17_ x18_ x19_ x20_ x21_ x22_ x23_ x24_ x25_ x26_ x27_ h_) (fun x0_ x1_ x2_ x3_ x4_ x5_ x6_ x7_ x8_ x9_ x10_ x11_ x12_ x13_ x14_ x15_ x16_ x17_ x18_ x19_ x20_ x21_ x22_ x23_ x24_ x25_ x26_ h_ => q_then_x (HX3_2 x0_ x1_ x2_ x3_ x4_ x5_ x6_ x7_ x8_ x9_ x10_ x11_ x12_ x13_ x14_ x15_ x16_ x17_ x18_ x19_ x20_ x21_ x22_ x23_ x24_ x25_ x26_ h_)) x2033 x2034 u2030 w2031 k2032 hb2035 hb2036 ghb2035 ghb2036 nhb2035hb2036 ho2055 ho2056 ho2057 ho2058 n2059 n2060 n2061 n2062 n2063 n2064 n2065 n2066 n2067 n2068 n2069 n2070 n2071 n2072 H
set_option maxRecDepth 20000 in
set_option maxHeartbeats 4000000 in
theorem dowellaw03_ClassTexts.b4.ok (K : Nat) (a0 : Tapi_Class) (a1 : Tapi_Class) (w : World) (r : Bool) (b1433 : Nat) (A1515 : Option Addr) (t1510 : List Tapi_Range) (c1516 : Nat) (b1654 : Nat) (b2133 : Nat) (A1456 : Option Addr) (t1451 : List Tapi_Range) (c1457 : Nat) (A1471 : Option Addr) (t1466 : List Tapi_Range) (c1472 : Nat) (A1488 : Option Addr) (t1483 : List Tapi_Range) (c1489 : Nat) (x1940 : List Tapi_Range) (x2092 : List Tapi_Range) (x1788 : List Tapi_Range) {Q : Exit → Act → World → Prop} (HR : ∀ a w', bodyPost Try.prog Try.f4 (dowellaw03_ClassTexts.R r w) .ret a w' → Q .ret a w') {next4 : List Tapi_Range → Nat → Int → Option (Bool)} {brk4_6 : List Tapi_Range → Nat → Option (Bool)} (HN4 : ∀ (x2870q : List Tapi_Range) (x2871q : Nat) (x2874q : Int) (A2872q : Option Addr) (c2873q : Nat) (u2867q : Nat → Value) (w2868q : World) (k2869q : Kp No w w2868q) (hb2875q : Blk w2868q b1433 #[.int .u64 a0.f0, .int .u64 a0.f1, .int .u64 a0.f2, .int .u64 a0.f3] 37) (hb2876q : Blk w2868q b1654 #[.slice A1456 t1451.length c1457, .slice A1471 t1466.length c1472, .slice A1488 t1483.length c1489] 42) (hb2877q : Blk w2868q b2133 #[.slice A2872q x2871q c2873q, .slice none 0 0, .slice none 0 0] 42) (ghb2875q : w.heap.size ≤ b1433) (ghb2876q : w.heap.size ≤ b1654) (ghb2877q : w.heap.size ≤ b2133) (nhb2875hb2876q : b1433 ≠ b1654) (nhb2875hb2877q : b1433 ≠ b2133) (nhb2876hb2877q : b1654 ≠ b2133) (ho2926q : Ow w (Kapi_Range 44) w2868q A1515 t1510.length c1516 t1510) (ho2927q : Ow w (Kapi_Range 44) w2868q A2872q x2871q c2873q x2870q) (ho2928q : Ow w (Kapi_Range 44) w2868q A1471 t1466.length c1472 x1940) (ho2929q : Ow w (Kapi_Range 44) w2868q A1488 t1483.length c1489 x2092) (ho2930q : Ow w (Kapi_Range 44) w2868q none 0 0 ([] : List Tapi_Range)) (ho2931q : Ow w (Kapi_Range 44) w2868q none 0 0 ([] : List Tapi_Range)) (hd2965q : Old (Kapi_Range 44) w2868q A1456 t1451.length x1788 A2872q x2870q) (n2932q : Dj (One b1433) (Ra A1515)) (n2933q : Dj (One b1433) (Ra A2872q)) (n2934q : Dj (One b1433) (Ra A1471)) (n2935q : Dj (One b1433) (Ra A1488)) (n2936q : Dj (One b1433) (Ra none)) (n2937q : Dj (One b1433) (Ra none)) (n2938q : Dj (One b1654) (Ra A1515)) (n2939q : Dj (One b1654) (Ra A2872q)) (n2940q : Dj (One b1654) (Ra A1471)) (n2941q : Dj (One b1654) (Ra A1488)) (n2942q : Dj (One b1654) (Ra none)) (n2943q : Dj (One b1654) (Ra none)) (n2944q : Dj (One b2133) (Ra A1515)) (n2945q : Dj (One b2133) (Ra A2872q)) (n2946q : Dj (One b2133) (Ra A1471)) (n2947q : Dj (One b2133) (Ra A1488)) (n2948q : Dj (One b2133) (Ra none)) (n2949q : Dj (One b2133) (Ra none)) (n2950q : Dj (Ra A1515) (Ra A2872q)) (n2951q : Dj (Ra A1515) (Ra A1471)) (n2952q : Dj (Ra A1515) (Ra A1488)) (n2953q : Dj (Ra A1515) (Ra none)) (n2954q : Dj (Ra A1515) (Ra none)) (n2955q : Dj (Ra A2872q) (Ra A1471)) (n2956q : Dj (Ra A2872q) (Ra A1488)) (n2957q : Dj (Ra A2872q) (Ra none)) (n2958q : Dj (Ra A2872q) (Ra none)) (n2959q : Dj (Ra A1471) (Ra A1488)) (n2960q : Dj (Ra A1471) (Ra none)) (n2961q : Dj (Ra A1471) (Ra none)) (n2962q : Dj (Ra A1488) (Ra none)) (n2963q : Dj (Ra A1488) (Ra none)) (n2964q : Dj (Ra none) (Ra none)) (n2966q : Dj (Ra A1456) (Ra A1515)) (n2967q : Dj (Ra A1456) (Ra A1471)) (n2968q : Dj (Ra A1456) (Ra A1488)) (n2969q : Dj (Ra A1456) (Ra none)) (n2970q : Dj (Ra A1456) (Ra none)) (n2971q : Dj (Ra A1456) (One b1433)) (n2972q : Dj (Ra A1456) (One b1654)) (n2973q : Dj (Ra A1456) (One b2133)), next4 x2870q x2871q x2874q = some r → Q .normal ⟨dowellaw03_ClassTexts.F4 b1433 A1515 t1510 c1516 b1654 b2133 x2874q u2867q, []⟩ w2868q) (HX4_6 : ∀ (x3053q : List Tapi_Range) (x3054q : Nat) (A3055q : Option Addr) (c3056q : Nat) (u3046q : Nat → Value) (w3044q : World) (k3045q : Kp No w w3044q) (hb3048q : Blk w3044q b1433 #[.int .u64 a0.f0, .int .u64 a0.f1, .int .u64 a0.f2, .int .u64 a0.f3] 37) (hb3051q : Blk w3044q b1654 #[.slice A1456 t1451.length c1457, .slice A1471 t1466.length c1472, .slice A1488 t1483.length c1489] 42) (hb3059q : Blk w3044q b2133 #[.slice A3055q x3054q c3056q, .slice none 0 0, .slice none 0 0] 42) (ghb3048q : w.heap.size ≤ b1433) (ghb3051q : w.heap.size ≤ b1654) (ghb3059q : w.heap.size ≤ b2133) (nhb3048hb3051q : b1433 ≠ b1654) (nhb3048hb3059q : b1433 ≠ b2133) (nhb3051hb3059q : b1654 ≠ b2133) (ho3108q : Ow w (Kapi_Range 44) w3044q A1515 t1510.length c1516 t1510) (ho3109q : Ow w (Kapi_Range 44) w3044q A1471 t1466.length c1472 x1940) (ho3110q : Ow w (Kapi_Range 44) w3044q A1488 t1483.length c1489 x2092) (ho3111q : Ow w (Kapi_Range 44) w3044q A3055q x3054q c3056q x3053q) (ho3112q : Ow w (Kapi_Range 44) w3044q none 0 0 ([] : List Tapi_Range)) (ho3113q : Ow w (Kapi_Range 44) w3044q none 0 0 ([] : List Tapi_Range)) (hd3147q : Old (Kapi_Range 44) w3044q A1456 t1451.length x1788 A3055q x3053q) (n3114q : Dj (One b1433) (Ra A1515)) (n3115q : Dj (One b1433) (Ra A1471)) (n3116q : Dj (One b1433) (Ra A1488)) (n3117q : Dj (One b1433) (Ra A3055q)) (n3118q : Dj (One b1433) (Ra none)) (n3119q : Dj (One b1433) (Ra none)) (n3120q : Dj (One b1654) (Ra A1515)) (n3121q : Dj (One b1654) (Ra A1471)) (n3122q : Dj (One b1654) (Ra A1488)) (n3123q : Dj (One b1654) (Ra A3055q)) (n3124q : Dj (One b1654) (Ra none)) (n3125q : Dj (One b1654) (Ra none)) (n3126q : Dj (One b2133) (Ra A1515)) (n3127q : Dj (One b2133) (Ra A1471)) (n3128q : Dj (One b2133) (Ra A1488)) (n3129q : Dj (One b2133) (Ra A3055q)) (n3130q : Dj (One b2133) (Ra none)) (n3131q : Dj (One b2133) (Ra none)) (n3132q : Dj (Ra A1515) (Ra A1471)) (n3133q : Dj (Ra A1515) (Ra A1488)) (n3134q : Dj (Ra A1515) (Ra A3055q)) (n3135q : Dj (Ra A1515) (Ra none)) (n3136q : Dj (Ra A1515) (Ra none)) (n3137q : Dj (Ra A1471) (Ra A1488)) (n3138q : Dj (Ra A1471) (Ra A3055q)) (n3139q : Dj (Ra A1471) (Ra none)) (n3140q : Dj (Ra A1471) (Ra none)) (n3141q : Dj (Ra A1488) (Ra A3055q)) (n3142q : Dj (Ra A1488) (Ra none)) (n3143q : Dj (Ra A1488) (Ra none)) (n3144q : Dj (Ra A3055q) (Ra none)) (n3145q : Dj (Ra A3055q) (Ra none)) (n3146q : Dj (Ra none) (Ra none)) (n3148q : Dj (Ra A1456) (Ra A1515)) (n3149q : Dj (Ra A1456) (Ra A1471)) (n3150q : Dj (Ra A1456) (Ra A1488)) (n3151q : Dj (Ra A1456) (Ra none)) (n3152q : Dj (Ra A1456) (Ra none)) (n3153q : Dj (Ra A1456) (One b1433)) (n3154q : Dj (Ra A1456) (One b1654)) (n3155q : Dj (Ra A1456) (One b2133)), brk4_6 x3053q x3054q = some r → Q (.exit 6) ⟨dowellaw03_ClassTexts.F4_6 b1433 A1515 t1510 c1516 b1654 b2133 u3046q, []⟩ w3044q) (x2870 : List Tapi_Range) (x2871 : Nat) (x2874 : Int) (A2872 : Option Addr) (c2873 : Nat) (u2867 : Nat → Value) (w2868 : World) (k2869 : Kp No w w2868) (hb2875 : Blk w2868 b1433 #[.int .u64 a0.f0, .int .u64 a0.f1, .int .u64 a0.f2, .int .u64 a0.f3] 37) (hb2876 : Blk w2868 b1654 #[.slice A1456 t1451.length c1457, .slice A1471 t1466.length c1472, .slice A1488 t1483.length c1489] 42) (hb2877 : Blk w2868 b2133 #[.slice A2872 x2871 c2873, .slice none 0 0, .slice none 0 0] 42) (ghb2875 : w.heap.size ≤ b1433) (ghb2876 : w.heap.size ≤ b1654) (ghb2877 : w.heap.size ≤ b2133) (nhb2875hb2876 : b1433 ≠ b1654) (nhb2875hb2877 : b1433 ≠ b2133) (nhb2876hb2877 : b1654 ≠ b2133) (ho2926 : Ow w (Kapi_Range 44) w2868 A1515 t1510.length c1516 t1510) (ho2927 : Ow w (Kapi_Range 44) w2868 A2872 x2871 c2873 x2870) (ho2928 : Ow w (Kapi_Range 44) w2868 A1471 t1466.length c1472 x1940) (ho2929 : Ow w (Kapi_Range 44) w2868 A1488 t1483.length c1489 x2092) (ho2930 : Ow w (Kapi_Range 44) w2868 none 0 0 ([] : List Tapi_Range)) (ho2931 : Ow w (Kapi_Range 44) w2868 none 0 0 ([] : List Tapi_Range)) (hd2965 : Old (Kapi_Range 44) w2868 A1456 t1451.length x1788 A2872 x2870) (n2932 : Dj (One b1433) (Ra A1515)) (n2933 : Dj (One b1433) (Ra A2872)) (n2934 : Dj (One b1433) (Ra A1471)) (n2935 : Dj (One b1433) (Ra A1488)) (n2936 : Dj (One b1433) (Ra none)) (n2937 : Dj (One b1433) (Ra none)) (n2938 : Dj (One b1654) (Ra A1515)) (n2939 : Dj (One b1654) (Ra A2872)) (n2940 : Dj (One b1654) (Ra A1471)) (n2941 : Dj (One b1654) (Ra A1488)) (n2942 : Dj (One b1654) (Ra none)) (n2943 : Dj (One b1654) (Ra none)) (n2944 : Dj (One b2133) (Ra A1515)) (n2945 : Dj (One b2133) (Ra A2872)) (n2946 : Dj (One b2133) (Ra A1471)) (n2947 : Dj (One b2133) (Ra A1488)) (n2948 : Dj (One b2133) (Ra none)) (n2949 : Dj (One b2133) (Ra none)) (n2950 : Dj (Ra A1515) (Ra A2872)) (n2951 : Dj (Ra A1515) (Ra A1471)) (n2952 : Dj (Ra A1515) (Ra A1488)) (n2953 : Dj (Ra A1515) (Ra none)) (n2954 : Dj (Ra A1515) (Ra none)) (n2955 : Dj (Ra A2872) (Ra A1471)) (n2956 : Dj (Ra A2872) (Ra A1488)) (n2957 : Dj (Ra A2872) (Ra none)) (n2958 : Dj (Ra A2872) (Ra none)) (n2959 : Dj (Ra A1471) (Ra A1488)) (n2960 : Dj (Ra A1471) (Ra none)) (n2961 : Dj (Ra A1471) (Ra none)) (n2962 : Dj (Ra A1488) (Ra none)) (n2963 : Dj (Ra A1488) (Ra none)) (n2964 : Dj (Ra none) (Ra none)) (n2966 : Dj (Ra A1456) (Ra A1515)) (n2967 : Dj (Ra A1456) (Ra A1471)) (n2968 : Dj (Ra A1456) (Ra A1488)) (n2969 : Dj (Ra A1456) (Ra none)) (n2970 : Dj (Ra A1456) (Ra none)) (n2971 : Dj (Ra A1456) (One b1433)) (n2972 : Dj (Ra A1456) (One b1654)) (n2973 : Dj (Ra A1456) (One b2133)) (H : dowellaw03_ClassTexts.b4  next4 brk4_6 x2870 x2871 x2874 = some r) : (cd Try.f4 [1, 1, 1, 1, 1, 1, 1, 0, 1, 0, 0, 1, 0, 0, 1, 1, 0, 0]).wp Try.prog Q ⟨dowellaw03_ClassTexts.F4 b1433 A1515 t1510 c1516 b1654 b2133 x2874 u2867, []⟩ w2868 := by
  unfold dowellaw03_ClassTexts.b4 at H
  refine w_seq (p := [1, 1, 1, 1, 1, 1, 1, 0, 1, 0, 0, 1, 0, 0, 1, 1, 0, 0]) (p0 := [1, 1, 1, 1, 1, 1, 1, 0, 1, 0, 0, 1, 0, 0, 1, 1, 0, 0, 0]) (p1 := [1, 1, 1, 1, 1, 1, 1, 0, 1, 0, 0, 1, 0, 0, 1, 1, 0, 0, 1]) (by kernel_rfl) ?_
  refine w_seq (p := [1, 1, 1, 1, 1, 1, 1, 0, 1, 0, 0, 1, 0, 0, 1, 1, 0, 0, 0]) (p0 := [1, 1, 1, 1, 1, 1, 1, 0, 1, 0, 0, 1, 0, 0, 1, 1, 0, 0, 0, 0]) (p1 := [1, 1, 1, 1, 1, 1, 1, 0, 1, 0, 0, 1, 0, 0, 1, 1, 0, 0, 0, 1]) (by kernel_rfl) ?_
  refine w_region (p := [1, 1, 1, 1, 1, 1, 1, 0, 1, 0, 0, 1, 0, 0, 1, 1, 0, 0, 0, 0]) (id := 19) (by kernel_rfl) ?_
  refine r_vals 0 2 [.int .i64 x2874, .bool (decide (x2874 < 16))] (by kernel_rfl) (by kernel_rfl) ?_
  refine r_fin 2 (by kernel_rfl) ?_
  refine q_then ?_
  refine w_cond (p := [1, 1, 1, 1, 1, 1, 1, 0, 1, 0, 0, 1, 0, 0, 1, 1, 0, 0, 0, 1]) (p0 := [1, 1, 1, 1, 1, 1, 1, 0, 1, 0, 0, 1, 0, 0, 1, 1, 0, 0, 0, 1, 0]) (p1 := [1, 1, 1, 1, 1, 1, 1, 0, 1, 0, 0, 1, 0, 0, 1, 1, 0, 0, 0, 1, 1]) (c := (Operand.tmp 86)) (b := decide (x2874 < 16)) (by kernel_rfl) (by kernel_rfl) ?_ ?_
  · intro h_
    have h2974 : x2874 < 16 := by simpa using h_
    clear h_
    rw [if_pos h2974] at H
    refine w_skip (p := [1, 1, 1, 1, 1, 1, 1, 0, 1, 0, 0, 1, 0, 0, 1, 1, 0, 0, 0, 1, 0]) (by kernel_rfl) ?_
    refine q_then ?_
    refine w_seq (p := [1, 1, 1, 1, 1, 1, 1, 0, 1, 0, 0, 1, 0, 0, 1, 1, 0, 0, 1]) (p0 := [1, 1, 1, 1, 1, 1, 1, 0, 1, 0, 0, 1, 0, 0, 1, 1, 0, 0, 1, 0]) (p1 := [1, 1, 1, 1, 1, 1, 1, 0, 1, 0, 0, 1, 0, 0, 1, 1, 0, 0, 1, 1]) (by kernel_rfl) ?_
    refine w_block (p := [1, 1, 1, 1, 1, 1, 1, 0, 1, 0, 0, 1, 0, 0, 1, 1, 0, 0, 1, 0]) (p0 := [1, 1, 1, 1, 1, 1, 1, 0, 1, 0, 0, 1, 0, 0, 1, 1, 0, 0, 1, 0, 0]) (id := 7) (by kernel_rfl) ?_
    refine w_region (p := [1, 1, 1, 1, 1, 1, 1, 0, 1, 0, 0, 1, 0, 0, 1, 1, 0, 0, 1, 0, 0]) (id := 21) (by kernel_rfl) ?_
    refine r_vals 0 3 [.int .i64 0, .int .i64 0, .pointer (some ⟨b2133, 0, none⟩)] (by kernel_rfl) (by kernel_rfl) ?_
    refine r_do 3 (by kernel_rfl) (og_load (T := 38) (x := (Operand.tmp 91)) (b := b2133) (off := 0) (.slice A2872 x2871 c2873) (by kernel_rfl) (by kernel_rfl) hb2877 (by kernel_rfl) ?_) 
    refine r_vals 4 7 [.int .i64 0, .int .u8 0, .agg #[.int .u8 0, .int .u8 100]] (by kernel_rfl) (by kernel_rfl) ?_
    refine r_do 7 (by kernel_rfl) (ow_lit (K := (Kapi_Range 44)) (w0 := w) (T := 38) (n := 1) (e := 44) (ps := #[(0, (Operand.tmp 95))]) (cs := #[.int .u8 0, .int .u8 100]) (parts := [(0, .agg #[.int .u8 0, .int .u8 100])]) ([(⟨0, 100⟩ : Tapi_Range)] : List Tapi_Range) (by kernel_rfl) (by kernel_rfl) (by kernel_rfl) (by kernel_rfl) rfl rfl (by kernel_rfl) k2869 ?_) 
    intro b2978 w2975 e2979 ho2977 k2976
    have n2981 := blk_dj_row hb2875 e2979
    have n2982 := blk_dj_row hb2876 e2979
    have n2983 := blk_dj_row hb2877 e2979
    have n2984 := Ow.dj_row ho2926 e2979
    have n2985 := Ow.dj_row ho2927 e2979
    have n2986 := Ow.dj_row ho2928 e2979
    have n2987 := Ow.dj_row ho2929 e2979
    have n2988 := Old.dj_row hd2965 e2979
    clear e2979
    have k2989 := Kp.trans k2869 k2976 (fun _ h => h.elim)
    have hb2990 := Blk.kp hb2875 k2976 id
    have hb2991 := Blk.kp hb2876 k2976 id
    have hb2992 := Blk.kp hb2877 k2976 id
    have ho2993 := Ow.kpNo ho2926 k2976
    have ho2994 := Ow.kpNo ho2927 k2976
    have ho2995 := Ow.kpNo ho2928 k2976
    have ho2996 := Ow.kpNo ho2929 k2976
    have ho2997 := Ow.kpNo ho2930 k2976
    have ho2998 := Ow.kpNo ho2931 k2976
    have hd2999 := Old.kpNo hd2965 k2976
    refine p_split ((x2871 + 1) * 3 ≤ 140737488355328) (fun h3000 => ?_) (fun h3000 => ?_)
    · rw [if_pos h3000] at H
      refine r_do 8 (by kernel_rfl) (ow_append2 (K := (Kapi_Range 44)) (w0 := w) (T := 38) (n := x2871) (c := c2873) (m := 1) (d := 1) (s := (Operand.tmp 92)) (x := (Operand.tmp 96)) (A := A2872) (D := (some ⟨b2978, 0, none⟩)) (xs := x2870) (ys := ([(⟨0, 100⟩ : Tapi_Range)] : List Tapi_Range)) (.agg #[.int .u8 0, .int .u8 0]) 2 (by kernel_rfl) (by kernel_rfl) (by kernel_rfl) (by kernel_rfl) (by kernel_rfl) ho2994 (by kernel_rfl) (Ow.len ho2977) (Ow.rdNo ho2977) h3000 k2989 ?_) 
      intro A3005 c3006 w3001 ho3003 k3002 hn3004 ha3009
      have n3010 := blk_dj_app hb2990 n2933 hn3004
      have n3011 := blk_dj_app hb2991 n2939 hn3004
      have n3012 := blk_dj_app hb2992 n2945 hn3004
      have n3013 := Ow.dj_app ho2993 n2950 hn3004
      have n3014 := Ow.dj_app ho2995 (Dj.symm n2955) hn3004
      have n3015 := Ow.dj_app ho2996 (Dj.symm n2956) hn3004
      have n3016 := Ow.dj_app ho2977 (Dj.symm n2985) hn3004
      have hd3017 := Old.app hd2999 ho2994 ho3003 k3002 ha3009
      have hd3018 := Old.app (Old.mk0 ho2994) ho2994 ho3003 k3002 ha3009
      clear hn3004 ha3009
      have k3019 := Kp.own ho2994 k2989 k3002
      have hb3020 := Blk.kpOne hb2990 k3002 n2933
      have hb3021 := Blk.kpOne hb2991 k3002 n2939
      have hb3022 := Blk.kpOne hb2992 k3002 n2945
      have ho3023 := Ow.kp ho2993 k3002 n2950
      have ho3024 := Ow.kp ho2995 k3002 (Dj.symm n2955)
      have ho3025 := Ow.kp ho2996 k3002 (Dj.symm n2956)
      have ho3026 := Ow.kp ho2997 k3002 (Dj.symm dj_nil)
      have ho3027 := Ow.kp ho2998 k3002 (Dj.symm dj_nil)
      have ho3028 := Ow.kp ho2977 k3002 (Dj.symm n2985)
      refine r_vals 9 10 [.pointer (some ⟨b2133, 0, none⟩)] (by kernel_rfl) (by kernel_rfl) ?_
      refine r_do 10 (by kernel_rfl) (og_store (T := 38) (x := (Operand.tmp 98)) (y := (Operand.tmp 97)) (b := b2133) (off := 0) (.slice A3005 ((x2870 ++ ([(⟨0, 100⟩ : Tapi_Range)] : List Tapi_Range)).length) c3006) (by kernel_rfl) (by kernel_rfl) (by kernel_rfl) hb3022 (cs' := #[.slice A3005 ((x2870 ++ ([(⟨0, 100⟩ : Tapi_Range)] : List Tapi_Range)).length) c3006, .slice none 0 0, .slice none 0 0]) (by kernel_rfl) ?_) 
      intro w3030 hb3029 k3031 _
      have k3032 := Kp.trans k3019 k3031 (fun x hx => .inr (by rw [show x = _ from hx]; exact ghb2877))
      have hb3033 := Blk.kp hb3020 k3031 (show ¬ (b1433 = b2133) from nhb2875hb2877)
      have hb3034 := Blk.kp hb3021 k3031 (show ¬ (b1654 = b2133) from nhb2876hb2877)
      have ho3035 := Ow.kp ho3023 k3031 (Dj.symm n2944)
      have ho3036 := Ow.kp ho3024 k3031 (Dj.symm n2946)
      have ho3037 := Ow.kp ho3025 k3031 (Dj.symm n2947)
      have ho3038 := Ow.kp ho3026 k3031 (Dj.symm dj_nil)
      have ho3039 := Ow.kp ho3027 k3031 (Dj.symm dj_nil)
      have ho3040 := Ow.kp ho3028 k3031 (Dj.symm n2983)
      have ho3041 := Ow.kp ho3003 k3031 (Dj.symm n3012)
      have hd3042 := Old.kp hd3017 k3031 n2973
      have hd3043 := Old.kp hd3018 k3031 (Dj.symm n2945)
      refine r_fin 11 (by kernel_rfl) ?_
      refine q_in ?_
      refine q_then ?_
      refine w_region (p := [1, 1, 1, 1, 1, 1, 1, 0, 1, 0, 0, 1, 0, 0, 1, 1, 0, 0, 1, 1]) (id := 20) (by kernel_rfl) ?_
      refine r_vals 0 3 [.int .i64 x2874, .int .i64 (W (x2874 + 1)), .int .i64 (W (x2874 + 1))] (by kernel_rfl) (by kernel_rfl) ?_
      refine r_fin 3 (by kernel_rfl) ?_
      refine q_into (dowellaw03_ClassTexts.F4 b1433 A1515 t1510 c1516 b1654 b2133 (W (x2874 + 1))) (by kernel_rfl) (fun u_ => ?_)
      exact HN4 (x2870 ++ ([(⟨0, 100⟩ : Tapi_Range)] : List Tapi_Range)) ((x2870 ++ ([(⟨0, 100⟩ : Tapi_Range)] : List Tapi_Range)).length) (W (x2874 + 1)) A3005 c3006 u_ w3030 k3032 hb3033 hb3034 hb3029 ghb2875 ghb2876 ghb2877 nhb2875hb2876 nhb2875hb2877 nhb2876hb2877 ho3035 ho3041 ho3036 ho3037 ho3038 ho3039 hd3042 n2932 n3010 n2934 n2935 dj_nil dj_nil n2938 n3011 n2940 n2941 dj_nil dj_nil n2944 n3012 n2946 n2947 dj_nil dj_nil n3013 n2951 n2952 dj_nil dj_nil (Dj.symm n3014) (Dj.symm n3015) dj_nil dj_nil n2959 dj_nil dj_nil dj_nil dj_nil dj_nil n2966 n2967 n2968 dj_nil dj_nil n2971 n2972 n2973 H
    · rw [if_neg h3000] at H
      cases H
  · intro h_
    have h2974 : ¬ (x2874 < 16) := by simpa using h_
    clear h_
    rw [if_neg h2974] at H
    refine w_exit (p := [1, 1, 1, 1, 1, 1, 1, 0, 1, 0, 0, 1, 0, 0, 1, 1, 0, 0, 0, 1, 1]) (id := 6) (by kernel_rfl) ?_
    refine q_then_x ?_
    refine q_into (dowellaw03_ClassTexts.F4_6 b1433 A1515 t1510 c1516 b1654 b2133) (by kernel_rfl) (fun u_ => ?_)
    exact HX4_6 x2870 x2871 A2872 c2873 u_ w2868 k2869 hb2875 hb2876 hb2877 ghb2875 ghb2876 ghb2877 nhb2875hb2876 nhb2875hb2877 nhb2876hb2877 ho2926 ho2928 ho2929 ho2927 ho2930 ho2931 hd2965 n2932 n2934 n2935 n2933 dj_nil dj_nil n2938 n2940 n2941 n2939 dj_nil dj_nil n2944 n2946 n2947 n2945 dj_nil dj_nil n2951 n2952 n2950 dj_nil dj_nil n2959 (Dj.symm n2955) dj_nil dj_nil (Dj.symm n2956) dj_nil dj_nil dj_nil dj_nil dj_nil n2966 n2967 n2968 dj_nil dj_nil n2971 n2972 n2973 H
set_option maxRecDepth 20000 in
set_option maxHeartbeats 4000000 in
theorem dowellaw03_ClassTexts.l4.ok (K : Nat) (a0 : Tapi_Class) (a1 : Tapi_Class) (w : World) (r : Bool) (b1433 : Nat) (A1515 : Option Addr) (t1510 : List Tapi_Range) (c1516 : Nat) (b1654 : Nat) (b2133 : Nat) (A1456 : Option Addr) (t1451 : List Tapi_Range) (c1457 : Nat) (A1471 : Option Addr) (t1466 : List Tapi_Range) (c1472 : Nat) (A1488 : Option Addr) (t1483 : List Tapi_Range) (c1489 : Nat) (x1940 : List Tapi_Range) (x2092 : List Tapi_Range) (x1788 : List Tapi_Range) {Q : Exit → Act → World → Prop} (HR : ∀ a w', bodyPost Try.prog Try.f4 (dowellaw03_ClassTexts.R r w) .ret a w' → Q .ret a w') {brk4_6 : List Tapi_Range → Nat → Option (Bool)} (HX4_6 : ∀ (x3053q : List Tapi_Range) (x3054q : Nat) (A3055q : Option Addr) (c3056q : Nat) (u3046q : Nat → Value) (w3044q : World) (k3045q : Kp No w w3044q) (hb3048q : Blk w3044q b1433 #[.int .u64 a0.f0, .int .u64 a0.f1, .int .u64 a0.f2, .int .u64 a0.f3] 37) (hb3051q : Blk w3044q b1654 #[.slice A1456 t1451.length c1457, .slice A1471 t1466.length c1472, .slice A1488 t1483.length c1489] 42) (hb3059q : Blk w3044q b2133 #[.slice A3055q x3054q c3056q, .slice none 0 0, .slice none 0 0] 42) (ghb3048q : w.heap.size ≤ b1433) (ghb3051q : w.heap.size ≤ b1654) (ghb3059q : w.heap.size ≤ b2133) (nhb3048hb3051q : b1433 ≠ b1654) (nhb3048hb3059q : b1433 ≠ b2133) (nhb3051hb3059q : b1654 ≠ b2133) (ho3108q : Ow w (Kapi_Range 44) w3044q A1515 t1510.length c1516 t1510) (ho3109q : Ow w (Kapi_Range 44) w3044q A1471 t1466.length c1472 x1940) (ho3110q : Ow w (Kapi_Range 44) w3044q A1488 t1483.length c1489 x2092) (ho3111q : Ow w (Kapi_Range 44) w3044q A3055q x3054q c3056q x3053q) (ho3112q : Ow w (Kapi_Range 44) w3044q none 0 0 ([] : List Tapi_Range)) (ho3113q : Ow w (Kapi_Range 44) w3044q none 0 0 ([] : List Tapi_Range)) (hd3147q : Old (Kapi_Range 44) w3044q A1456 t1451.length x1788 A3055q x3053q) (n3114q : Dj (One b1433) (Ra A1515)) (n3115q : Dj (One b1433) (Ra A1471)) (n3116q : Dj (One b1433) (Ra A1488)) (n3117q : Dj (One b1433) (Ra A3055q)) (n3118q : Dj (One b1433) (Ra none)) (n3119q : Dj (One b1433) (Ra none)) (n3120q : Dj (One b1654) (Ra A1515)) (n3121q : Dj (One b1654) (Ra A1471)) (n3122q : Dj (One b1654) (Ra A1488)) (n3123q : Dj (One b1654) (Ra A3055q)) (n3124q : Dj (One b1654) (Ra none)) (n3125q : Dj (One b1654) (Ra none)) (n3126q : Dj (One b2133) (Ra A1515)) (n3127q : Dj (One b2133) (Ra A1471)) (n3128q : Dj (One b2133) (Ra A1488)) (n3129q : Dj (One b2133) (Ra A3055q)) (n3130q : Dj (One b2133) (Ra none)) (n3131q : Dj (One b2133) (Ra none)) (n3132q : Dj (Ra A1515) (Ra A1471)) (n3133q : Dj (Ra A1515) (Ra A1488)) (n3134q : Dj (Ra A1515) (Ra A3055q)) (n3135q : Dj (Ra A1515) (Ra none)) (n3136q : Dj (Ra A1515) (Ra none)) (n3137q : Dj (Ra A1471) (Ra A1488)) (n3138q : Dj (Ra A1471) (Ra A3055q)) (n3139q : Dj (Ra A1471) (Ra none)) (n3140q : Dj (Ra A1471) (Ra none)) (n3141q : Dj (Ra A1488) (Ra A3055q)) (n3142q : Dj (Ra A1488) (Ra none)) (n3143q : Dj (Ra A1488) (Ra none)) (n3144q : Dj (Ra A3055q) (Ra none)) (n3145q : Dj (Ra A3055q) (Ra none)) (n3146q : Dj (Ra none) (Ra none)) (n3148q : Dj (Ra A1456) (Ra A1515)) (n3149q : Dj (Ra A1456) (Ra A1471)) (n3150q : Dj (Ra A1456) (Ra A1488)) (n3151q : Dj (Ra A1456) (Ra none)) (n3152q : Dj (Ra A1456) (Ra none)) (n3153q : Dj (Ra A1456) (One b1433)) (n3154q : Dj (Ra A1456) (One b1654)) (n3155q : Dj (Ra A1456) (One b2133)), brk4_6 x3053q x3054q = some r → Q (.exit 6) ⟨dowellaw03_ClassTexts.F4_6 b1433 A1515 t1510 c1516 b1654 b2133 u3046q, []⟩ w3044q) : ∀ (n_ : Nat) (x2870 : List Tapi_Range) (x2871 : Nat) (x2874 : Int) (A2872 : Option Addr) (c2873 : Nat) (u2867 : Nat → Value) (w2868 : World) (k2869 : Kp No w w2868) (hb2875 : Blk w2868 b1433 #[.int .u64 a0.f0, .int .u64 a0.f1, .int .u64 a0.f2, .int .u64 a0.f3] 37) (hb2876 : Blk w2868 b1654 #[.slice A1456 t1451.length c1457, .slice A1471 t1466.length c1472, .slice A1488 t1483.length c1489] 42) (hb2877 : Blk w2868 b2133 #[.slice A2872 x2871 c2873, .slice none 0 0, .slice none 0 0] 42) (ghb2875 : w.heap.size ≤ b1433) (ghb2876 : w.heap.size ≤ b1654) (ghb2877 : w.heap.size ≤ b2133) (nhb2875hb2876 : b1433 ≠ b1654) (nhb2875hb2877 : b1433 ≠ b2133) (nhb2876hb2877 : b1654 ≠ b2133) (ho2926 : Ow w (Kapi_Range 44) w2868 A1515 t1510.length c1516 t1510) (ho2927 : Ow w (Kapi_Range 44) w2868 A2872 x2871 c2873 x2870) (ho2928 : Ow w (Kapi_Range 44) w2868 A1471 t1466.length c1472 x1940) (ho2929 : Ow w (Kapi_Range 44) w2868 A1488 t1483.length c1489 x2092) (ho2930 : Ow w (Kapi_Range 44) w2868 none 0 0 ([] : List Tapi_Range)) (ho2931 : Ow w (Kapi_Range 44) w2868 none 0 0 ([] : List Tapi_Range)) (hd2965 : Old (Kapi_Range 44) w2868 A1456 t1451.length x1788 A2872 x2870) (n2932 : Dj (One b1433) (Ra A1515)) (n2933 : Dj (One b1433) (Ra A2872)) (n2934 : Dj (One b1433) (Ra A1471)) (n2935 : Dj (One b1433) (Ra A1488)) (n2936 : Dj (One b1433) (Ra none)) (n2937 : Dj (One b1433) (Ra none)) (n2938 : Dj (One b1654) (Ra A1515)) (n2939 : Dj (One b1654) (Ra A2872)) (n2940 : Dj (One b1654) (Ra A1471)) (n2941 : Dj (One b1654) (Ra A1488)) (n2942 : Dj (One b1654) (Ra none)) (n2943 : Dj (One b1654) (Ra none)) (n2944 : Dj (One b2133) (Ra A1515)) (n2945 : Dj (One b2133) (Ra A2872)) (n2946 : Dj (One b2133) (Ra A1471)) (n2947 : Dj (One b2133) (Ra A1488)) (n2948 : Dj (One b2133) (Ra none)) (n2949 : Dj (One b2133) (Ra none)) (n2950 : Dj (Ra A1515) (Ra A2872)) (n2951 : Dj (Ra A1515) (Ra A1471)) (n2952 : Dj (Ra A1515) (Ra A1488)) (n2953 : Dj (Ra A1515) (Ra none)) (n2954 : Dj (Ra A1515) (Ra none)) (n2955 : Dj (Ra A2872) (Ra A1471)) (n2956 : Dj (Ra A2872) (Ra A1488)) (n2957 : Dj (Ra A2872) (Ra none)) (n2958 : Dj (Ra A2872) (Ra none)) (n2959 : Dj (Ra A1471) (Ra A1488)) (n2960 : Dj (Ra A1471) (Ra none)) (n2961 : Dj (Ra A1471) (Ra none)) (n2962 : Dj (Ra A1488) (Ra none)) (n2963 : Dj (Ra A1488) (Ra none)) (n2964 : Dj (Ra none) (Ra none)) (n2966 : Dj (Ra A1456) (Ra A1515)) (n2967 : Dj (Ra A1456) (Ra A1471)) (n2968 : Dj (Ra A1456) (Ra A1488)) (n2969 : Dj (Ra A1456) (Ra none)) (n2970 : Dj (Ra A1456) (Ra none)) (n2971 : Dj (Ra A1456) (One b1433)) (n2972 : Dj (Ra A1456) (One b1654)) (n2973 : Dj (Ra A1456) (One b2133)) (H : dowellaw03_ClassTexts.l4  brk4_6 n_ x2870 x2871 x2874 = some r), Code.rounds Try.prog (cd Try.f4 [1, 1, 1, 1, 1, 1, 1, 0, 1, 0, 0, 1, 0, 0, 1, 1, 0, 0]) Q n_ ⟨dowellaw03_ClassTexts.F4 b1433 A1515 t1510 c1516 b1654 b2133 x2874 u2867, []⟩ w2868
  | 0, _, _, _, _, _, _, _, _, _, _, _, _, _, _, _, _, _, _, _, _, _, _, _, _, _, _, _, _, _, _, _, _, _, _, _, _, _, _, _, _, _, _, _, _, _, _, _, _, _, _, _, _, _, _, _, _, _, _, _, _, _, _, _, _, _, H => by cases H
  | n_ + 1, x2870, x2871, x2874, A2872, c2873, u2867, w2868, k2869, hb2875, hb2876, hb2877, ghb2875, ghb2876, ghb2877, nhb2875hb2876, nhb2875hb2877, nhb2876hb2877, ho2926, ho2927, ho2928, ho2929, ho2930, ho2931, hd2965, n2932, n2933, n2934, n2935, n2936, n2937, n2938, n2939, n2940, n2941, n2942, n2943, n2944, n2945, n2946, n2947, n2948, n2949, n2950, n2951, n2952, n2953, n2954, n2955, n2956, n2957, n2958, n2959, n2960, n2961, n2962, n2963, n2964, n2966, n2967, n2968, n2969, n2970, n2971, n2972, n2973, H =>
    dowellaw03_ClassTexts.b4.ok K a0 a1 w r b1433 A1515 t1510 c1516 b1654 b2133 A1456 t1451 c1457 A1471 t1466 c1472 A1488 t1483 c1489 x1940 x2092 x1788 (Q := Exit.then (Code.rounds Try.prog (cd Try.f4 [1, 1, 1, 1, 1, 1, 1, 0, 1, 0, 0, 1, 0, 0, 1, 1, 0, 0]) Q n_) Q) (fun a w' h_ => q_then_r (HR a w' h_)) (fun x0_ x1_ x2_ x3_ x4_ x5_ x6_ x7_ x8_ x9_ x10_ x11_ x12_ x13_ x14_ x15_ x16_ x17_ x18_ x19_ x20_ x21_ x22_ x23_ x24_ x25_ x26_ x27_ x28_ x29_ x30_ x31_ x32_ x33_ x34_ x35_ x36_ x37_ x38_ x39_ x40_ x41_ x42_ x43_ x44_ x45_ x46_ x47_ x48_ x49_ x50_ x51_ x52_ x53_ x54_ x55_ x56_ x57_ x58_ x59_ x60_ x61_ x62_ x63_ x64_ h_ => dowellaw03_ClassTexts.l4.ok K a0 a1 w r b1433 A1515 t1510 c1516 b1654 b2133 A1456 t1451 c1457 A1471 t1466 c1472 A1488 t1483 c1489 x1940 x2092 x1788 HR HX4_6 n_ x0_ x1_ x2_ x3_ x4_ x5_ x6_ x7_ x8_ x9_ x10_ x11_ x12_ x13_ x14_ x15_ x16_ x17_ x18_ x19_ x20_ x21_ x22_ x23_ x24_ x25_ x26_ x27_ x28_ x29_ x30_ x31_ x32_ x33_ x34_ x35_ x36_ x37_ x38_ x39_ x40_ x41_ x42_ x43_ x44_ x45_ x46_ x47_ x48_ x49_ x50_ x51_ x52_ x53_ x54_ x55_ x56_ x57_ x58_ x59_ x60_ x61_ x62_ x63_ x64_ h_) (fun x0_ x1_ x2_ x3_ x4_ x5_ x6_ x7_ x8_ x9_ x10_ x11_ x12_ x13_ x14_ x15_ x16_ x17_ x18_ x19_ x20_ x21_ x22_ x23_ x24_ x25_ x26_ x27_ x28_ x29_ x30_ x31_ x32_ x33_ x34_ x35_ x36_ x37_ x38_ x39_ x40_ x41_ x42_ x43_ x44_ x45_ x46_ x47_ x48_ x49_ x50_ x51_ x52_ x53_ x54_ x55_ x56_ x57_ x58_ x59_ x60_ x61_ x62_ x63_ h_ => q_then_x (HX4_6 x0_ x1_ x2_ x3_ x4_ x5_ x6_ x7_ x8_ x9_ x10_ x11_ x12_ x13_ x14_ x15_ x16_ x17_ x18_ x19_ x20_ x21_ x22_ x23_ x24_ x25_ x26_ x27_ x28_ x29_ x30_ x31_ x32_ x33_ x34_ x35_ x36_ x37_ x38_ x39_ x40_ x41_ x42_ x43_ x44_ x45_ x46_ x47_ x48_ x49_ x50_ x51_ x52_ x53_ x54_ x55_ x56_ x57_ x58_ x59_ x60_ x61_ x62_ x63_ h_)) x2870 x2871 x2874 A2872 c2873 u2867 w2868 k2869 hb2875 hb2876 hb2877 ghb2875 ghb2876 ghb2877 nhb2875hb2876 nhb2875hb2877 nhb2876hb2877 ho2926 ho2927 ho2928 ho2929 ho2930 ho2931 hd2965 n2932 n2933 n2934 n2935 n2936 n2937 n2938 n2939 n2940 n2941 n2942 n2943 n2944 n2945 n2946 n2947 n2948 n2949 n2950 n2951 n2952 n2953 n2954 n2955 n2956 n2957 n2958 n2959 n2960 n2961 n2962 n2963 n2964 n2966 n2967 n2968 n2969 n2970 n2971 n2972 n2973 H
set_option maxRecDepth 20000 in
set_option maxHeartbeats 4000000 in
theorem dowellaw03_ClassTexts.b5.ok (K : Nat) (a0 : Tapi_Class) (a1 : Tapi_Class) (w : World) (r : Bool) (b1433 : Nat) (A1515 : Option Addr) (t1510 : List Tapi_Range) (c1516 : Nat) (b1654 : Nat) (b2133 : Nat) (A1456 : Option Addr) (t1451 : List Tapi_Range) (c1457 : Nat) (A1471 : Option Addr) (t1466 : List Tapi_Range) (c1472 : Nat) (A1488 : Option Addr) (t1483 : List Tapi_Range) (c1489 : Nat) (A3055 : Option Addr) (x3054 : Nat) (c3056 : Nat) (x2092 : List Tapi_Range) (x3053 : List Tapi_Range) (x1788 : List Tapi_Range) (x1940 : List Tapi_Range) {Q : Exit → Act → World → Prop} (HR : ∀ a w', bodyPost Try.prog Try.f4 (dowellaw03_ClassTexts.R r w) .ret a w' → Q .ret a w') {next5 : List Tapi_Range → Nat → Int → Option (Bool)} {brk5_6 : List Tapi_Range → Nat → Option (Bool)} (HN5 : ∀ (x3931q : List Tapi_Range) (x3932q : Nat) (x3935q : Int) (A3933q : Option Addr) (c3934q : Nat) (u3928q : Nat → Value) (w3929q : World) (k3930q : Kp No w w3929q) (hb3936q : Blk w3929q b1433 #[.int .u64 a0.f0, .int .u64 a0.f1, .int .u64 a0.f2, .int .u64 a0.f3] 37) (hb3937q : Blk w3929q b1654 #[.slice A1456 t1451.length c1457, .slice A1471 t1466.length c1472, .slice A1488 t1483.length c1489] 42) (hb3938q : Blk w3929q b2133 #[.slice A3055 x3054 c3056, .slice A3933q x3932q c3934q, .slice none 0 0] 42) (ghb3936q : w.heap.size ≤ b1433) (ghb3937q : w.heap.size ≤ b1654) (ghb3938q : w.heap.size ≤ b2133) (nhb3936hb3937q : b1433 ≠ b1654) (nhb3936hb3938q : b1433 ≠ b2133) (nhb3937hb3938q : b1654 ≠ b2133) (ho3985q : Ow w (Kapi_Range 44) w3929q A1515 t1510.length c1516 t1510) (ho3986q : Ow w (Kapi_Range 44) w3929q A3933q x3932q c3934q x3931q) (ho3987q : Ow w (Kapi_Range 44) w3929q A1488 t1483.length c1489 x2092) (ho3988q : Ow w (Kapi_Range 44) w3929q A3055 x3054 c3056 x3053) (ho3989q : Ow w (Kapi_Range 44) w3929q none 0 0 ([] : List Tapi_Range)) (hd4015q : Old (Kapi_Range 44) w3929q A1456 t1451.length x1788 A3055 x3053) (hd4016q : Old (Kapi_Range 44) w3929q A1471 t1466.length x1940 A3933q x3931q) (n3990q : Dj (One b1433) (Ra A1515)) (n3991q : Dj (One b1433) (Ra A3933q)) (n3992q : Dj (One b1433) (Ra A1488)) (n3993q : Dj (One b1433) (Ra A3055)) (n3994q : Dj (One b1433) (Ra none)) (n3995q : Dj (One b1654) (Ra A1515)) (n3996q : Dj (One b1654) (Ra A3933q)) (n3997q : Dj (One b1654) (Ra A1488)) (n3998q : Dj (One b1654) (Ra A3055)) (n3999q : Dj (One b1654) (Ra none)) (n4000q : Dj (One b2133) (Ra A1515)) (n4001q : Dj (One b2133) (Ra A3933q)) (n4002q : Dj (One b2133) (Ra A1488)) (n4003q : Dj (One b2133) (Ra A3055)) (n4004q : Dj (One b2133) (Ra none)) (n4005q : Dj (Ra A1515) (Ra A3933q)) (n4006q : Dj (Ra A1515) (Ra A1488)) (n4007q : Dj (Ra A1515) (Ra A3055)) (n4008q : Dj (Ra A1515) (Ra none)) (n4009q : Dj (Ra A3933q) (Ra A1488)) (n4010q : Dj (Ra A3933q) (Ra A3055)) (n4011q : Dj (Ra A3933q) (Ra none)) (n4012q : Dj (Ra A1488) (Ra A3055)) (n4013q : Dj (Ra A1488) (Ra none)) (n4014q : Dj (Ra A3055) (Ra none)) (n4017q : Dj (Ra A1456) (Ra A1515)) (n4018q : Dj (Ra A1456) (Ra A3933q)) (n4019q : Dj (Ra A1456) (Ra A1488)) (n4020q : Dj (Ra A1456) (Ra none)) (n4021q : Dj (Ra A1471) (Ra A1515)) (n4022q : Dj (Ra A1471) (Ra A1488)) (n4023q : Dj (Ra A1471) (Ra A3055)) (n4024q : Dj (Ra A1471) (Ra none)) (n4025q : Dj (Ra A1456) (One b1433)) (n4026q : Dj (Ra A1456) (One b1654)) (n4027q : Dj (Ra A1456) (One b2133)) (n4028q : Dj (Ra A1471) (One b1433)) (n4029q : Dj (Ra A1471) (One b1654)) (n4030q : Dj (Ra A1471) (One b2133)), next5 x3931q x3932q x3935q = some r → Q .normal ⟨dowellaw03_ClassTexts.F5 b1433 A1515 t1510 c1516 b1654 b2133 x3935q u3928q, []⟩ w3929q) (HX5_6 : ∀ (x4112q : List Tapi_Range) (x4113q : Nat) (A4114q : Option Addr) (c4115q : Nat) (u4105q : Nat → Value) (w4103q : World) (k4104q : Kp No w w4103q) (hb4107q : Blk w4103q b1433 #[.int .u64 a0.f0, .int .u64 a0.f1, .int .u64 a0.f2, .int .u64 a0.f3] 37) (hb4109q : Blk w4103q b1654 #[.slice A1456 t1451.length c1457, .slice A1471 t1466.length c1472, .slice A1488 t1483.length c1489] 42) (hb4117q : Blk w4103q b2133 #[.slice A3055 x3054 c3056, .slice A4114q x4113q c4115q, .slice none 0 0] 42) (ghb4107q : w.heap.size ≤ b1433) (ghb4109q : w.heap.size ≤ b1654) (ghb4117q : w.heap.size ≤ b2133) (nhb4107hb4109q : b1433 ≠ b1654) (nhb4107hb4117q : b1433 ≠ b2133) (nhb4109hb4117q : b1654 ≠ b2133) (ho4164q : Ow w (Kapi_Range 44) w4103q A1515 t1510.length c1516 t1510) (ho4165q : Ow w (Kapi_Range 44) w4103q A1488 t1483.length c1489 x2092) (ho4166q : Ow w (Kapi_Range 44) w4103q A3055 x3054 c3056 x3053) (ho4167q : Ow w (Kapi_Range 44) w4103q A4114q x4113q c4115q x4112q) (ho4168q : Ow w (Kapi_Range 44) w4103q none 0 0 ([] : List Tapi_Range)) (hd4194q : Old (Kapi_Range 44) w4103q A1456 t1451.length x1788 A3055 x3053) (hd4195q : Old (Kapi_Range 44) w4103q A1471 t1466.length x1940 A4114q x4112q) (n4169q : Dj (One b1433) (Ra A1515)) (n4170q : Dj (One b1433) (Ra A1488)) (n4171q : Dj (One b1433) (Ra A3055)) (n4172q : Dj (One b1433) (Ra A4114q)) (n4173q : Dj (One b1433) (Ra none)) (n4174q : Dj (One b1654) (Ra A1515)) (n4175q : Dj (One b1654) (Ra A1488)) (n4176q : Dj (One b1654) (Ra A3055)) (n4177q : Dj (One b1654) (Ra A4114q)) (n4178q : Dj (One b1654) (Ra none)) (n4179q : Dj (One b2133) (Ra A1515)) (n4180q : Dj (One b2133) (Ra A1488)) (n4181q : Dj (One b2133) (Ra A3055)) (n4182q : Dj (One b2133) (Ra A4114q)) (n4183q : Dj (One b2133) (Ra none)) (n4184q : Dj (Ra A1515) (Ra A1488)) (n4185q : Dj (Ra A1515) (Ra A3055)) (n4186q : Dj (Ra A1515) (Ra A4114q)) (n4187q : Dj (Ra A1515) (Ra none)) (n4188q : Dj (Ra A1488) (Ra A3055)) (n4189q : Dj (Ra A1488) (Ra A4114q)) (n4190q : Dj (Ra A1488) (Ra none)) (n4191q : Dj (Ra A3055) (Ra A4114q)) (n4192q : Dj (Ra A3055) (Ra none)) (n4193q : Dj (Ra A4114q) (Ra none)) (n4196q : Dj (Ra A1456) (Ra A1515)) (n4197q : Dj (Ra A1456) (Ra A1488)) (n4198q : Dj (Ra A1456) (Ra A4114q)) (n4199q : Dj (Ra A1456) (Ra none)) (n4200q : Dj (Ra A1471) (Ra A1515)) (n4201q : Dj (Ra A1471) (Ra A1488)) (n4202q : Dj (Ra A1471) (Ra A3055)) (n4203q : Dj (Ra A1471) (Ra none)) (n4204q : Dj (Ra A1456) (One b1433)) (n4205q : Dj (Ra A1456) (One b1654)) (n4206q : Dj (Ra A1456) (One b2133)) (n4207q : Dj (Ra A1471) (One b1433)) (n4208q : Dj (Ra A1471) (One b1654)) (n4209q : Dj (Ra A1471) (One b2133)), brk5_6 x4112q x4113q = some r → Q (.exit 6) ⟨dowellaw03_ClassTexts.F5_6 b1433 A1515 t1510 c1516 b1654 b2133 u4105q, []⟩ w4103q) (x3931 : List Tapi_Range) (x3932 : Nat) (x3935 : Int) (A3933 : Option Addr) (c3934 : Nat) (u3928 : Nat → Value) (w3929 : World) (k3930 : Kp No w w3929) (hb3936 : Blk w3929 b1433 #[.int .u64 a0.f0, .int .u64 a0.f1, .int .u64 a0.f2, .int .u64 a0.f3] 37) (hb3937 : Blk w3929 b1654 #[.slice A1456 t1451.length c1457, .slice A1471 t1466.length c1472, .slice A1488 t1483.length c1489] 42) (hb3938 : Blk w3929 b2133 #[.slice A3055 x3054 c3056, .slice A3933 x3932 c3934, .slice none 0 0] 42) (ghb3936 : w.heap.size ≤ b1433) (ghb3937 : w.heap.size ≤ b1654) (ghb3938 : w.heap.size ≤ b2133) (nhb3936hb3937 : b1433 ≠ b1654) (nhb3936hb3938 : b1433 ≠ b2133) (nhb3937hb3938 : b1654 ≠ b2133) (ho3985 : Ow w (Kapi_Range 44) w3929 A1515 t1510.length c1516 t1510) (ho3986 : Ow w (Kapi_Range 44) w3929 A3933 x3932 c3934 x3931) (ho3987 : Ow w (Kapi_Range 44) w3929 A1488 t1483.length c1489 x2092) (ho3988 : Ow w (Kapi_Range 44) w3929 A3055 x3054 c3056 x3053) (ho3989 : Ow w (Kapi_Range 44) w3929 none 0 0 ([] : List Tapi_Range)) (hd4015 : Old (Kapi_Range 44) w3929 A1456 t1451.length x1788 A3055 x3053) (hd4016 : Old (Kapi_Range 44) w3929 A1471 t1466.length x1940 A3933 x3931) (n3990 : Dj (One b1433) (Ra A1515)) (n3991 : Dj (One b1433) (Ra A3933)) (n3992 : Dj (One b1433) (Ra A1488)) (n3993 : Dj (One b1433) (Ra A3055)) (n3994 : Dj (One b1433) (Ra none)) (n3995 : Dj (One b1654) (Ra A1515)) (n3996 : Dj (One b1654) (Ra A3933)) (n3997 : Dj (One b1654) (Ra A1488)) (n3998 : Dj (One b1654) (Ra A3055)) (n3999 : Dj (One b1654) (Ra none)) (n4000 : Dj (One b2133) (Ra A1515)) (n4001 : Dj (One b2133) (Ra A3933)) (n4002 : Dj (One b2133) (Ra A1488)) (n4003 : Dj (One b2133) (Ra A3055)) (n4004 : Dj (One b2133) (Ra none)) (n4005 : Dj (Ra A1515) (Ra A3933)) (n4006 : Dj (Ra A1515) (Ra A1488)) (n4007 : Dj (Ra A1515) (Ra A3055)) (n4008 : Dj (Ra A1515) (Ra none)) (n4009 : Dj (Ra A3933) (Ra A1488)) (n4010 : Dj (Ra A3933) (Ra A3055)) (n4011 : Dj (Ra A3933) (Ra none)) (n4012 : Dj (Ra A1488) (Ra A3055)) (n4013 : Dj (Ra A1488) (Ra none)) (n4014 : Dj (Ra A3055) (Ra none)) (n4017 : Dj (Ra A1456) (Ra A1515)) (n4018 : Dj (Ra A1456) (Ra A3933)) (n4019 : Dj (Ra A1456) (Ra A1488)) (n4020 : Dj (Ra A1456) (Ra none)) (n4021 : Dj (Ra A1471) (Ra A1515)) (n4022 : Dj (Ra A1471) (Ra A1488)) (n4023 : Dj (Ra A1471) (Ra A3055)) (n4024 : Dj (Ra A1471) (Ra none)) (n4025 : Dj (Ra A1456) (One b1433)) (n4026 : Dj (Ra A1456) (One b1654)) (n4027 : Dj (Ra A1456) (One b2133)) (n4028 : Dj (Ra A1471) (One b1433)) (n4029 : Dj (Ra A1471) (One b1654)) (n4030 : Dj (Ra A1471) (One b2133)) (H : dowellaw03_ClassTexts.b5  next5 brk5_6 x3931 x3932 x3935 = some r) : (cd Try.f4 [1, 1, 1, 1, 1, 1, 1, 0, 1, 0, 0, 1, 0, 0, 1, 1, 0, 0]).wp Try.prog Q ⟨dowellaw03_ClassTexts.F5 b1433 A1515 t1510 c1516 b1654 b2133 x3935 u3928, []⟩ w3929 := by
  unfold dowellaw03_ClassTexts.b5 at H
  refine w_seq (p := [1, 1, 1, 1, 1, 1, 1, 0, 1, 0, 0, 1, 0, 0, 1, 1, 0, 0]) (p0 := [1, 1, 1, 1, 1, 1, 1, 0, 1, 0, 0, 1, 0, 0, 1, 1, 0, 0, 0]) (p1 := [1, 1, 1, 1, 1, 1, 1, 0, 1, 0, 0, 1, 0, 0, 1, 1, 0, 0, 1]) (by kernel_rfl) ?_
  refine w_seq (p := [1, 1, 1, 1, 1, 1, 1, 0, 1, 0, 0, 1, 0, 0, 1, 1, 0, 0, 0]) (p0 := [1, 1, 1, 1, 1, 1, 1, 0, 1, 0, 0, 1, 0, 0, 1, 1, 0, 0, 0, 0]) (p1 := [1, 1, 1, 1, 1, 1, 1, 0, 1, 0, 0, 1, 0, 0, 1, 1, 0, 0, 0, 1]) (by kernel_rfl) ?_
  refine w_region (p := [1, 1, 1, 1, 1, 1, 1, 0, 1, 0, 0, 1, 0, 0, 1, 1, 0, 0, 0, 0]) (id := 19) (by kernel_rfl) ?_
  refine r_vals 0 2 [.int .i64 x3935, .bool (decide (x3935 < 16))] (by kernel_rfl) (by kernel_rfl) ?_
  refine r_fin 2 (by kernel_rfl) ?_
  refine q_then ?_
  refine w_cond (p := [1, 1, 1, 1, 1, 1, 1, 0, 1, 0, 0, 1, 0, 0, 1, 1, 0, 0, 0, 1]) (p0 := [1, 1, 1, 1, 1, 1, 1, 0, 1, 0, 0, 1, 0, 0, 1, 1, 0, 0, 0, 1, 0]) (p1 := [1, 1, 1, 1, 1, 1, 1, 0, 1, 0, 0, 1, 0, 0, 1, 1, 0, 0, 0, 1, 1]) (c := (Operand.tmp 86)) (b := decide (x3935 < 16)) (by kernel_rfl) (by kernel_rfl) ?_ ?_
  · intro h_
    have h4031 : x3935 < 16 := by simpa using h_
    clear h_
    rw [if_pos h4031] at H
    refine w_skip (p := [1, 1, 1, 1, 1, 1, 1, 0, 1, 0, 0, 1, 0, 0, 1, 1, 0, 0, 0, 1, 0]) (by kernel_rfl) ?_
    refine q_then ?_
    refine w_seq (p := [1, 1, 1, 1, 1, 1, 1, 0, 1, 0, 0, 1, 0, 0, 1, 1, 0, 0, 1]) (p0 := [1, 1, 1, 1, 1, 1, 1, 0, 1, 0, 0, 1, 0, 0, 1, 1, 0, 0, 1, 0]) (p1 := [1, 1, 1, 1, 1, 1, 1, 0, 1, 0, 0, 1, 0, 0, 1, 1, 0, 0, 1, 1]) (by kernel_rfl) ?_
    refine w_block (p := [1, 1, 1, 1, 1, 1, 1, 0, 1, 0, 0, 1, 0, 0, 1, 1, 0, 0, 1, 0]) (p0 := [1, 1, 1, 1, 1, 1, 1, 0, 1, 0, 0, 1, 0, 0, 1, 1, 0, 0, 1, 0, 0]) (id := 7) (by kernel_rfl) ?_
    refine w_region (p := [1, 1, 1, 1, 1, 1, 1, 0, 1, 0, 0, 1, 0, 0, 1, 1, 0, 0, 1, 0, 0]) (id := 21) (by kernel_rfl) ?_
    refine r_vals 0 3 [.int .i64 1, .int .i64 1, .pointer (some ⟨b2133, 1, none⟩)] (by kernel_rfl) (by kernel_rfl) ?_
    refine r_do 3 (by kernel_rfl) (og_load (T := 38) (x := (Operand.tmp 91)) (b := b2133) (off := 1) (.slice A3933 x3932 c3934) (by kernel_rfl) (by kernel_rfl) hb3938 (by kernel_rfl) ?_) 
    refine r_vals 4 7 [.int .i64 1, .int .u8 1, .agg #[.int .u8 1, .int .u8 100]] (by kernel_rfl) (by kernel_rfl) ?_
    refine r_do 7 (by kernel_rfl) (ow_lit (K := (Kapi_Range 44)) (w0 := w) (T := 38) (n := 1) (e := 44) (ps := #[(0, (Operand.tmp 95))]) (cs := #[.int .u8 1, .int .u8 100]) (parts := [(0, .agg #[.int .u8 1, .int .u8 100])]) ([(⟨1, 100⟩ : Tapi_Range)] : List Tapi_Range) (by kernel_rfl) (by kernel_rfl) (by kernel_rfl) (by kernel_rfl) rfl rfl (by kernel_rfl) k3930 ?_) 
    intro b4035 w4032 e4036 ho4034 k4033
    have n4038 := blk_dj_row hb3936 e4036
    have n4039 := blk_dj_row hb3937 e4036
    have n4040 := blk_dj_row hb3938 e4036
    have n4041 := Ow.dj_row ho3985 e4036
    have n4042 := Ow.dj_row ho3986 e4036
    have n4043 := Ow.dj_row ho3987 e4036
    have n4044 := Ow.dj_row ho3988 e4036
    have n4045 := Old.dj_row hd4015 e4036
    have n4046 := Old.dj_row hd4016 e4036
    clear e4036
    have k4047 := Kp.trans k3930 k4033 (fun _ h => h.elim)
    have hb4048 := Blk.kp hb3936 k4033 id
    have hb4049 := Blk.kp hb3937 k4033 id
    have hb4050 := Blk.kp hb3938 k4033 id
    have ho4051 := Ow.kpNo ho3985 k4033
    have ho4052 := Ow.kpNo ho3986 k4033
    have ho4053 := Ow.kpNo ho3987 k4033
    have ho4054 := Ow.kpNo ho3988 k4033
    have ho4055 := Ow.kpNo ho3989 k4033
    have hd4056 := Old.kpNo hd4015 k4033
    have hd4057 := Old.kpNo hd4016 k4033
    refine p_split ((x3932 + 1) * 3 ≤ 140737488355328) (fun h4058 => ?_) (fun h4058 => ?_)
    · rw [if_pos h4058] at H
      refine r_do 8 (by kernel_rfl) (ow_append2 (K := (Kapi_Range 44)) (w0 := w) (T := 38) (n := x3932) (c := c3934) (m := 1) (d := 1) (s := (Operand.tmp 92)) (x := (Operand.tmp 96)) (A := A3933) (D := (some ⟨b4035, 0, none⟩)) (xs := x3931) (ys := ([(⟨1, 100⟩ : Tapi_Range)] : List Tapi_Range)) (.agg #[.int .u8 0, .int .u8 0]) 2 (by kernel_rfl) (by kernel_rfl) (by kernel_rfl) (by kernel_rfl) (by kernel_rfl) ho4052 (by kernel_rfl) (Ow.len ho4034) (Ow.rdNo ho4034) h4058 k4047 ?_) 
      intro A4063 c4064 w4059 ho4061 k4060 hn4062 ha4067
      have n4068 := blk_dj_app hb4048 n3991 hn4062
      have n4069 := blk_dj_app hb4049 n3996 hn4062
      have n4070 := blk_dj_app hb4050 n4001 hn4062
      have n4071 := Ow.dj_app ho4051 n4005 hn4062
      have n4072 := Ow.dj_app ho4053 (Dj.symm n4009) hn4062
      have n4073 := Ow.dj_app ho4054 (Dj.symm n4010) hn4062
      have n4074 := Ow.dj_app ho4034 (Dj.symm n4042) hn4062
      have n4075 := Old.dj_app hd4056 n4018 hn4062
      have hd4076 := Old.app hd4057 ho4052 ho4061 k4060 ha4067
      have hd4077 := Old.app (Old.mk0 ho4052) ho4052 ho4061 k4060 ha4067
      clear hn4062 ha4067
      have k4078 := Kp.own ho4052 k4047 k4060
      have hb4079 := Blk.kpOne hb4048 k4060 n3991
      have hb4080 := Blk.kpOne hb4049 k4060 n3996
      have hb4081 := Blk.kpOne hb4050 k4060 n4001
      have ho4082 := Ow.kp ho4051 k4060 n4005
      have ho4083 := Ow.kp ho4053 k4060 (Dj.symm n4009)
      have ho4084 := Ow.kp ho4054 k4060 (Dj.symm n4010)
      have ho4085 := Ow.kp ho4055 k4060 (Dj.symm dj_nil)
      have ho4086 := Ow.kp ho4034 k4060 (Dj.symm n4042)
      have hd4087 := Old.kp hd4056 k4060 n4018
      refine r_vals 9 10 [.pointer (some ⟨b2133, 1, none⟩)] (by kernel_rfl) (by kernel_rfl) ?_
      refine r_do 10 (by kernel_rfl) (og_store (T := 38) (x := (Operand.tmp 98)) (y := (Operand.tmp 97)) (b := b2133) (off := 1) (.slice A4063 ((x3931 ++ ([(⟨1, 100⟩ : Tapi_Range)] : List Tapi_Range)).length) c4064) (by kernel_rfl) (by kernel_rfl) (by kernel_rfl) hb4081 (cs' := #[.slice A3055 x3054 c3056, .slice A4063 ((x3931 ++ ([(⟨1, 100⟩ : Tapi_Range)] : List Tapi_Range)).length) c4064, .slice none 0 0]) (by kernel_rfl) ?_) 
      intro w4089 hb4088 k4090 _
      have k4091 := Kp.trans k4078 k4090 (fun x hx => .inr (by rw [show x = _ from hx]; exact ghb3938))
      have hb4092 := Blk.kp hb4079 k4090 (show ¬ (b1433 = b2133) from nhb3936hb3938)
      have hb4093 := Blk.kp hb4080 k4090 (show ¬ (b1654 = b2133) from nhb3937hb3938)
      have ho4094 := Ow.kp ho4082 k4090 (Dj.symm n4000)
      have ho4095 := Ow.kp ho4083 k4090 (Dj.symm n4002)
      have ho4096 := Ow.kp ho4084 k4090 (Dj.symm n4003)
      have ho4097 := Ow.kp ho4085 k4090 (Dj.symm dj_nil)
      have ho4098 := Ow.kp ho4086 k4090 (Dj.symm n4040)
      have ho4099 := Ow.kp ho4061 k4090 (Dj.symm n4070)
      have hd4100 := Old.kp hd4087 k4090 n4027
      have hd4101 := Old.kp hd4076 k4090 n4030
      have hd4102 := Old.kp hd4077 k4090 (Dj.symm n4001)
      refine r_fin 11 (by kernel_rfl) ?_
      refine q_in ?_
      refine q_then ?_
      refine w_region (p := [1, 1, 1, 1, 1, 1, 1, 0, 1, 0, 0, 1, 0, 0, 1, 1, 0, 0, 1, 1]) (id := 20) (by kernel_rfl) ?_
      refine r_vals 0 3 [.int .i64 x3935, .int .i64 (W (x3935 + 1)), .int .i64 (W (x3935 + 1))] (by kernel_rfl) (by kernel_rfl) ?_
      refine r_fin 3 (by kernel_rfl) ?_
      refine q_into (dowellaw03_ClassTexts.F5 b1433 A1515 t1510 c1516 b1654 b2133 (W (x3935 + 1))) (by kernel_rfl) (fun u_ => ?_)
      exact HN5 (x3931 ++ ([(⟨1, 100⟩ : Tapi_Range)] : List Tapi_Range)) ((x3931 ++ ([(⟨1, 100⟩ : Tapi_Range)] : List Tapi_Range)).length) (W (x3935 + 1)) A4063 c4064 u_ w4089 k4091 hb4092 hb4093 hb4088 ghb3936 ghb3937 ghb3938 nhb3936hb3937 nhb3936hb3938 nhb3937hb3938 ho4094 ho4099 ho4095 ho4096 ho4097 hd4100 hd4101 n3990 n4068 n3992 n3993 dj_nil n3995 n4069 n3997 n3998 dj_nil n4000 n4070 n4002 n4003 dj_nil n4071 n4006 n4007 dj_nil (Dj.symm n4072) (Dj.symm n4073) dj_nil n4012 dj_nil dj_nil n4017 n4075 n4019 dj_nil n4021 n4022 n4023 dj_nil n4025 n4026 n4027 n4028 n4029 n4030 H
    · rw [if_neg h4058] at H
      cases H
  · intro h_
    have h4031 : ¬ (x3935 < 16) := by simpa using h_
    clear h_
    rw [if_neg h4031] at H
    refine w_exit (p := [1, 1, 1, 1, 1, 1, 1, 0, 1, 0, 0, 1, 0, 0, 1, 1, 0, 0, 0, 1, 1]) (id := 6) (by kernel_rfl) ?_
    refine q_then_x ?_
    refine q_into (dowellaw03_ClassTexts.F5_6 b1433 A1515 t1510 c1516 b1654 b2133) (by kernel_rfl) (fun u_ => ?_)
    exact HX5_6 x3931 x3932 A3933 c3934 u_ w3929 k3930 hb3936 hb3937 hb3938 ghb3936 ghb3937 ghb3938 nhb3936hb3937 nhb3936hb3938 nhb3937hb3938 ho3985 ho3987 ho3988 ho3986 ho3989 hd4015 hd4016 n3990 n3992 n3993 n3991 dj_nil n3995 n3997 n3998 n3996 dj_nil n4000 n4002 n4003 n4001 dj_nil n4006 n4007 n4005 dj_nil n4012 (Dj.symm n4009) dj_nil (Dj.symm n4010) dj_nil dj_nil n4017 n4019 n4018 dj_nil n4021 n4022 n4023 dj_nil n4025 n4026 n4027 n4028 n4029 n4030 H
end Go.Proofs.Ytampekcanmakkaa.G
