/- What the functions compute, and that the calls come to it: printed by a program. -/
import Derived.Test.YtampekcanmakkaaX3p2
import Derived.Test.YtampekcanmakkaaProg
set_option linter.unusedVariables false
namespace Go.Proofs.Ytampekcanmakkaa.G
open Go Go.RowKit Go.Proofs
set_option maxRecDepth 20000 in
set_option maxHeartbeats 4000000 in
theorem dowelbook_FreeInts_17_3.ok (K : Nat) (a0A : Option Addr) (a0c : Nat) (a0_0A : Option Addr) (a0_0c : Nat) (a0_0 : List Int) (a0_1A : Option Addr) (a0_1c : Nat) (a0_1 : List Int) (a0_2A : Option Addr) (a0_2c : Nat) (a0_2 : List Int) (a0_0n : Nat) (a0_1n : Nat) (a0_2n : Nat) (w : World) (wS : World) (HK : Kp No w wS) (a0_0h : Ow w (kInt .i64 3) wS a0_0A a0_0n a0_0c a0_0) (a0_1h : Ow w (kInt .i64 3) wS a0_1A a0_1n a0_1c a0_1) (a0_2h : Ow w (kInt .i64 3) wS a0_2A a0_2n a0_2c a0_2) (a0h : Ow w (kSl 24) wS a0A 3 a0c ([⟨a0_0A, a0_0n, a0_0c⟩, ⟨a0_1A, a0_1n, a0_1c⟩, ⟨a0_2A, a0_2n, a0_2c⟩] : List Sl)) (d0_1 : Dj (Ra a0_0A) (Ra a0_1A)) (d0_2 : Dj (Ra a0_0A) (Ra a0_2A)) (d0_3 : Dj (Ra a0_0A) (Ra a0A)) (d1_2 : Dj (Ra a0_1A) (Ra a0_2A)) (d1_3 : Dj (Ra a0_1A) (Ra a0A)) (d2_3 : Dj (Ra a0_2A) (Ra a0A)) (r : Bool) (H : dowelbook_FreeInts_17_3.f K a0_0 a0_1 a0_2 = some r) : Calls Try.prog 17 #[.slice a0A 3 a0c] wS (dowelbook_FreeInts_17_3.R r w) := by
  obtain rfl := a0_0h.len
  obtain rfl := a0_1h.len
  obtain rfl := a0_2h.len
  refine calls_cd (t := #[.slice a0A 3 a0c, undef, undef, undef, undef, undef, undef, undef, undef, undef, undef, undef, undef, undef, undef, undef, undef, undef, undef, undef, undef, undef, undef, undef, undef, undef, undef, undef, undef, undef, undef, undef, undef, undef, undef, undef, undef, undef, undef, undef, undef, undef, undef, undef, undef, undef, undef, undef, undef, undef, undef, undef, undef, undef, undef, undef, undef, undef, undef, undef, undef, undef, undef, undef, undef, undef, undef, undef, undef, undef, undef, undef, undef, undef, undef, undef, undef, undef, undef, undef, undef, undef, undef, undef, undef, undef, undef, undef, undef, undef, undef, undef, undef, undef, undef, undef, undef, undef, undef, undef, undef, undef, undef, undef, undef, undef, undef, undef, undef, undef, undef, undef, undef]) Try.func17 (by kernel_rfl) (by kernel_rfl) ?_
  unfold dowelbook_FreeInts_17_3.f at H
  have HR : ∀ a w', bodyPost Try.prog Try.f17 (dowelbook_FreeInts_17_3.R r w) .ret a w' → bodyPost Try.prog Try.f17 (dowelbook_FreeInts_17_3.R r w) .ret a w' := fun _ _ h => h
  refine w_seq (p := []) (p0 := [0]) (p1 := [1]) (by kernel_rfl) ?_
  refine w_region (p := [0]) (id := 0) (by kernel_rfl) ?_
  refine r_vals 0 1 [.bool false] (by kernel_rfl) (by kernel_rfl) ?_
  refine r_fin 1 (by kernel_rfl) ?_
  refine q_then ?_
  refine w_seq (p := [1]) (p0 := [1, 0]) (p1 := [1, 1]) (by kernel_rfl) ?_
  refine w_seq (p := [1, 0]) (p0 := [1, 0, 0]) (p1 := [1, 0, 1]) (by kernel_rfl) ?_
  refine w_region (p := [1, 0, 0]) (id := 1) (by kernel_rfl) ?_
  refine r_vals 0 1 [.int .i64 0] (by kernel_rfl) (by kernel_rfl) ?_
  refine r_fin 1 (by kernel_rfl) ?_
  refine q_then ?_
  refine w_block (p := [1, 0, 1]) (p0 := [1, 0, 1, 0]) (id := 0) (by kernel_rfl) ?_
  refine w_loop (p := [1, 0, 1, 0]) (p0 := [1, 0, 1, 0, 0]) 5 (by kernel_rfl) ?_
  refine w_round (p0 := [1, 0, 1, 0, 0]) 4 ?_
  refine w_seq (p := [1, 0, 1, 0, 0]) (p0 := [1, 0, 1, 0, 0, 0]) (p1 := [1, 0, 1, 0, 0, 1]) (by kernel_rfl) ?_
  refine w_seq (p := [1, 0, 1, 0, 0, 0]) (p0 := [1, 0, 1, 0, 0, 0, 0]) (p1 := [1, 0, 1, 0, 0, 0, 1]) (by kernel_rfl) ?_
  refine w_region (p := [1, 0, 1, 0, 0, 0, 0]) (id := 2) (by kernel_rfl) ?_
  refine r_vals 0 4 [.int .i64 0, .slice a0A 3 a0c, .int .i64 3, .bool true] (by kernel_rfl) (by kernel_rfl) ?_
  refine r_fin 4 (by kernel_rfl) ?_
  refine q_then ?_
  refine w_cond (p := [1, 0, 1, 0, 0, 0, 1]) (p0 := [1, 0, 1, 0, 0, 0, 1, 0]) (p1 := [1, 0, 1, 0, 0, 0, 1, 1]) (c := (Operand.tmp 16)) (b := true) (by kernel_rfl) (by kernel_rfl) ?_ ?_
  · intro _
    refine w_skip (p := [1, 0, 1, 0, 0, 0, 1, 0]) (by kernel_rfl) ?_
    refine q_then ?_
    refine w_seq (p := [1, 0, 1, 0, 0, 1]) (p0 := [1, 0, 1, 0, 0, 1, 0]) (p1 := [1, 0, 1, 0, 0, 1, 1]) (by kernel_rfl) ?_
    refine w_block (p := [1, 0, 1, 0, 0, 1, 0]) (p0 := [1, 0, 1, 0, 0, 1, 0, 0]) (id := 1) (by kernel_rfl) ?_
    refine w_seq (p := [1, 0, 1, 0, 0, 1, 0, 0]) (p0 := [1, 0, 1, 0, 0, 1, 0, 0, 0]) (p1 := [1, 0, 1, 0, 0, 1, 0, 0, 1]) (by kernel_rfl) ?_
    refine w_region (p := [1, 0, 1, 0, 0, 1, 0, 0, 0]) (id := 4) (by kernel_rfl) ?_
    refine r_vals 0 1 [.int .i64 0] (by kernel_rfl) (by kernel_rfl) ?_
    refine r_fin 1 (by kernel_rfl) ?_
    refine q_then ?_
    refine w_block (p := [1, 0, 1, 0, 0, 1, 0, 0, 1]) (p0 := [1, 0, 1, 0, 0, 1, 0, 0, 1, 0]) (id := 2) (by kernel_rfl) ?_
    refine w_into (dowelbook_FreeInts_17_3.F0 a0A a0c 0) (by kernel_rfl) (fun u_ => ?_)
    refine w_loop (p := [1, 0, 1, 0, 0, 1, 0, 0, 1, 0]) (p0 := [1, 0, 1, 0, 0, 1, 0, 0, 1, 0, 0]) K (by kernel_rfl) ?_
    refine dowelbook_FreeInts_17_3.l0.ok K a0A a0c a0_0A a0_0c a0_0 a0_1A a0_1c a0_1 a0_2A a0_2c a0_2 w r  (fun a w' h_ => q_in_r (q_in_r (q_then_r (q_then_r (q_in_r (q_then_r (HR a w' h_))))))) ?_ K a0_0 0 u_ wS HK a0h a0_0h a0_1h a0_2h (Dj.symm d0_3) (Dj.symm d1_3) (Dj.symm d2_3) d0_1 d0_2 d1_2 H
    intro x980 u977 w975 k976 ho993 ho994 ho995 ho996 n997 n998 n999 n1000 n1001 n1002 H
    try dsimp only at H
    refine q_in_hit ?_
    refine q_in ?_
    refine q_then ?_
    refine w_region (p := [1, 0, 1, 0, 0, 1, 1]) (id := 3) (by kernel_rfl) ?_
    refine r_vals 0 3 [.int .i64 0, .int .i64 1, .int .i64 1] (by kernel_rfl) (by kernel_rfl) ?_
    refine r_fin 3 (by kernel_rfl) ?_
    refine q_then ?_
    refine w_round (p0 := [1, 0, 1, 0, 0]) 3 ?_
    refine w_seq (p := [1, 0, 1, 0, 0]) (p0 := [1, 0, 1, 0, 0, 0]) (p1 := [1, 0, 1, 0, 0, 1]) (by kernel_rfl) ?_
    refine w_seq (p := [1, 0, 1, 0, 0, 0]) (p0 := [1, 0, 1, 0, 0, 0, 0]) (p1 := [1, 0, 1, 0, 0, 0, 1]) (by kernel_rfl) ?_
    refine w_region (p := [1, 0, 1, 0, 0, 0, 0]) (id := 2) (by kernel_rfl) ?_
    refine r_vals 0 4 [.int .i64 1, .slice a0A 3 a0c, .int .i64 3, .bool true] (by kernel_rfl) (by kernel_rfl) ?_
    refine r_fin 4 (by kernel_rfl) ?_
    refine q_then ?_
    refine w_cond (p := [1, 0, 1, 0, 0, 0, 1]) (p0 := [1, 0, 1, 0, 0, 0, 1, 0]) (p1 := [1, 0, 1, 0, 0, 0, 1, 1]) (c := (Operand.tmp 16)) (b := true) (by kernel_rfl) (by kernel_rfl) ?_ ?_
    · intro _
      refine w_skip (p := [1, 0, 1, 0, 0, 0, 1, 0]) (by kernel_rfl) ?_
      refine q_then ?_
      refine w_seq (p := [1, 0, 1, 0, 0, 1]) (p0 := [1, 0, 1, 0, 0, 1, 0]) (p1 := [1, 0, 1, 0, 0, 1, 1]) (by kernel_rfl) ?_
      refine w_block (p := [1, 0, 1, 0, 0, 1, 0]) (p0 := [1, 0, 1, 0, 0, 1, 0, 0]) (id := 1) (by kernel_rfl) ?_
      refine w_seq (p := [1, 0, 1, 0, 0, 1, 0, 0]) (p0 := [1, 0, 1, 0, 0, 1, 0, 0, 0]) (p1 := [1, 0, 1, 0, 0, 1, 0, 0, 1]) (by kernel_rfl) ?_
      refine w_region (p := [1, 0, 1, 0, 0, 1, 0, 0, 0]) (id := 4) (by kernel_rfl) ?_
      refine r_vals 0 1 [.int .i64 0] (by kernel_rfl) (by kernel_rfl) ?_
      refine r_fin 1 (by kernel_rfl) ?_
      refine q_then ?_
      refine w_block (p := [1, 0, 1, 0, 0, 1, 0, 0, 1]) (p0 := [1, 0, 1, 0, 0, 1, 0, 0, 1, 0]) (id := 2) (by kernel_rfl) ?_
      refine w_into (dowelbook_FreeInts_17_3.F1 a0A a0c 0) (by kernel_rfl) (fun u_ => ?_)
      refine w_loop (p := [1, 0, 1, 0, 0, 1, 0, 0, 1, 0]) (p0 := [1, 0, 1, 0, 0, 1, 0, 0, 1, 0, 0]) K (by kernel_rfl) ?_
      refine dowelbook_FreeInts_17_3.l1.ok K a0A a0c a0_0A a0_0c a0_0 a0_1A a0_1c a0_1 a0_2A a0_2c a0_2 w r x980 (fun a w' h_ => q_in_r (q_in_r (q_then_r (q_then_r (q_in_r (q_then_r (HR a w' h_))))))) ?_ K a0_1 0 u_ w975 k976 ho993 ho994 ho995 ho996 n997 n998 n999 n1000 n1001 n1002 H
      intro x1074 u1070 w1068 k1069 ho1086 ho1087 ho1088 ho1089 n1090 n1091 n1092 n1093 n1094 n1095 H
      try dsimp only at H
      refine q_in_hit ?_
      refine q_in ?_
      refine q_then ?_
      refine w_region (p := [1, 0, 1, 0, 0, 1, 1]) (id := 3) (by kernel_rfl) ?_
      refine r_vals 0 3 [.int .i64 1, .int .i64 2, .int .i64 2] (by kernel_rfl) (by kernel_rfl) ?_
      refine r_fin 3 (by kernel_rfl) ?_
      refine q_then ?_
      refine w_round (p0 := [1, 0, 1, 0, 0]) 2 ?_
      refine w_seq (p := [1, 0, 1, 0, 0]) (p0 := [1, 0, 1, 0, 0, 0]) (p1 := [1, 0, 1, 0, 0, 1]) (by kernel_rfl) ?_
      refine w_seq (p := [1, 0, 1, 0, 0, 0]) (p0 := [1, 0, 1, 0, 0, 0, 0]) (p1 := [1, 0, 1, 0, 0, 0, 1]) (by kernel_rfl) ?_
      refine w_region (p := [1, 0, 1, 0, 0, 0, 0]) (id := 2) (by kernel_rfl) ?_
      refine r_vals 0 4 [.int .i64 2, .slice a0A 3 a0c, .int .i64 3, .bool true] (by kernel_rfl) (by kernel_rfl) ?_
      refine r_fin 4 (by kernel_rfl) ?_
      refine q_then ?_
      refine w_cond (p := [1, 0, 1, 0, 0, 0, 1]) (p0 := [1, 0, 1, 0, 0, 0, 1, 0]) (p1 := [1, 0, 1, 0, 0, 0, 1, 1]) (c := (Operand.tmp 16)) (b := true) (by kernel_rfl) (by kernel_rfl) ?_ ?_
      · intro _
        refine w_skip (p := [1, 0, 1, 0, 0, 0, 1, 0]) (by kernel_rfl) ?_
        refine q_then ?_
        refine w_seq (p := [1, 0, 1, 0, 0, 1]) (p0 := [1, 0, 1, 0, 0, 1, 0]) (p1 := [1, 0, 1, 0, 0, 1, 1]) (by kernel_rfl) ?_
        refine w_block (p := [1, 0, 1, 0, 0, 1, 0]) (p0 := [1, 0, 1, 0, 0, 1, 0, 0]) (id := 1) (by kernel_rfl) ?_
        refine w_seq (p := [1, 0, 1, 0, 0, 1, 0, 0]) (p0 := [1, 0, 1, 0, 0, 1, 0, 0, 0]) (p1 := [1, 0, 1, 0, 0, 1, 0, 0, 1]) (by kernel_rfl) ?_
        refine w_region (p := [1, 0, 1, 0, 0, 1, 0, 0, 0]) (id := 4) (by kernel_rfl) ?_
        refine r_vals 0 1 [.int .i64 0] (by kernel_rfl) (by kernel_rfl) ?_
        refine r_fin 1 (by kernel_rfl) ?_
        refine q_then ?_
        refine w_block (p := [1, 0, 1, 0, 0, 1, 0, 0, 1]) (p0 := [1, 0, 1, 0, 0, 1, 0, 0, 1, 0]) (id := 2) (by kernel_rfl) ?_
        refine w_into (dowelbook_FreeInts_17_3.F2 a0A a0c 0) (by kernel_rfl) (fun u_ => ?_)
        refine w_loop (p := [1, 0, 1, 0, 0, 1, 0, 0, 1, 0]) (p0 := [1, 0, 1, 0, 0, 1, 0, 0, 1, 0, 0]) K (by kernel_rfl) ?_
        refine dowelbook_FreeInts_17_3.l2.ok K a0A a0c a0_0A a0_0c a0_0 a0_1A a0_1c a0_1 a0_2A a0_2c a0_2 w r x980 x1074 (fun a w' h_ => q_in_r (q_in_r (q_then_r (q_then_r (q_in_r (q_then_r (HR a w' h_))))))) ?_ K a0_2 0 u_ w1068 k1069 ho1086 ho1087 ho1088 ho1089 n1090 n1091 n1092 n1093 n1094 n1095 H
        intro x1168 u1163 w1161 k1162 ho1179 ho1180 ho1181 ho1182 n1183 n1184 n1185 n1186 n1187 n1188 H
        try dsimp only at H
        refine q_in_hit ?_
        refine q_in ?_
        refine q_then ?_
        refine w_region (p := [1, 0, 1, 0, 0, 1, 1]) (id := 3) (by kernel_rfl) ?_
        refine r_vals 0 3 [.int .i64 2, .int .i64 3, .int .i64 3] (by kernel_rfl) (by kernel_rfl) ?_
        refine r_fin 3 (by kernel_rfl) ?_
        refine q_then ?_
        refine w_round (p0 := [1, 0, 1, 0, 0]) 1 ?_
        refine w_seq (p := [1, 0, 1, 0, 0]) (p0 := [1, 0, 1, 0, 0, 0]) (p1 := [1, 0, 1, 0, 0, 1]) (by kernel_rfl) ?_
        refine w_seq (p := [1, 0, 1, 0, 0, 0]) (p0 := [1, 0, 1, 0, 0, 0, 0]) (p1 := [1, 0, 1, 0, 0, 0, 1]) (by kernel_rfl) ?_
        refine w_region (p := [1, 0, 1, 0, 0, 0, 0]) (id := 2) (by kernel_rfl) ?_
        refine r_vals 0 4 [.int .i64 3, .slice a0A 3 a0c, .int .i64 3, .bool false] (by kernel_rfl) (by kernel_rfl) ?_
        refine r_fin 4 (by kernel_rfl) ?_
        refine q_then ?_
        refine w_cond (p := [1, 0, 1, 0, 0, 0, 1]) (p0 := [1, 0, 1, 0, 0, 0, 1, 0]) (p1 := [1, 0, 1, 0, 0, 0, 1, 1]) (c := (Operand.tmp 16)) (b := false) (by kernel_rfl) (by kernel_rfl) ?_ ?_
        · intro h_
          cases h_
        · intro _
          refine w_exit (p := [1, 0, 1, 0, 0, 0, 1, 1]) (id := 0) (by kernel_rfl) ?_
          refine q_then_x ?_
          refine q_then_x ?_
          refine q_in_hit ?_
          refine q_then ?_
          refine w_seq (p := [1, 1]) (p0 := [1, 1, 0]) (p1 := [1, 1, 1]) (by kernel_rfl) ?_
          refine w_region (p := [1, 1, 0]) (id := 8) (by kernel_rfl) ?_
          refine r_vals 0 1 [.slice none 0 0] (by kernel_rfl) (by kernel_rfl) ?_
          refine r_fin 1 (by kernel_rfl) ?_
          refine q_then ?_
          refine w_seq (p := [1, 1, 1]) (p0 := [1, 1, 1, 0]) (p1 := [1, 1, 1, 1]) (by kernel_rfl) ?_
          refine w_seq (p := [1, 1, 1, 0]) (p0 := [1, 1, 1, 0, 0]) (p1 := [1, 1, 1, 0, 1]) (by kernel_rfl) ?_
          refine w_region (p := [1, 1, 1, 0, 0]) (id := 9) (by kernel_rfl) ?_
          refine r_vals 0 1 [.int .i64 0] (by kernel_rfl) (by kernel_rfl) ?_
          refine r_fin 1 (by kernel_rfl) ?_
          refine q_then ?_
          refine w_block (p := [1, 1, 1, 0, 1]) (p0 := [1, 1, 1, 0, 1, 0]) (id := 4) (by kernel_rfl) ?_
          refine w_loop (p := [1, 1, 1, 0, 1, 0]) (p0 := [1, 1, 1, 0, 1, 0, 0]) 5 (by kernel_rfl) ?_
          refine w_round (p0 := [1, 1, 1, 0, 1, 0, 0]) 4 ?_
          refine w_seq (p := [1, 1, 1, 0, 1, 0, 0]) (p0 := [1, 1, 1, 0, 1, 0, 0, 0]) (p1 := [1, 1, 1, 0, 1, 0, 0, 1]) (by kernel_rfl) ?_
          refine w_seq (p := [1, 1, 1, 0, 1, 0, 0, 0]) (p0 := [1, 1, 1, 0, 1, 0, 0, 0, 0]) (p1 := [1, 1, 1, 0, 1, 0, 0, 0, 1]) (by kernel_rfl) ?_
          refine w_region (p := [1, 1, 1, 0, 1, 0, 0, 0, 0]) (id := 10) (by kernel_rfl) ?_
          refine r_vals 0 4 [.int .i64 0, .slice a0A 3 a0c, .int .i64 3, .bool true] (by kernel_rfl) (by kernel_rfl) ?_
          refine r_fin 4 (by kernel_rfl) ?_
          refine q_then ?_
          refine w_cond (p := [1, 1, 1, 0, 1, 0, 0, 0, 1]) (p0 := [1, 1, 1, 0, 1, 0, 0, 0, 1, 0]) (p1 := [1, 1, 1, 0, 1, 0, 0, 0, 1, 1]) (c := (Operand.tmp 39)) (b := true) (by kernel_rfl) (by kernel_rfl) ?_ ?_
          · intro _
            refine w_skip (p := [1, 1, 1, 0, 1, 0, 0, 0, 1, 0]) (by kernel_rfl) ?_
            refine q_then ?_
            refine w_seq (p := [1, 1, 1, 0, 1, 0, 0, 1]) (p0 := [1, 1, 1, 0, 1, 0, 0, 1, 0]) (p1 := [1, 1, 1, 0, 1, 0, 0, 1, 1]) (by kernel_rfl) ?_
            refine w_block (p := [1, 1, 1, 0, 1, 0, 0, 1, 0]) (p0 := [1, 1, 1, 0, 1, 0, 0, 1, 0, 0]) (id := 5) (by kernel_rfl) ?_
            refine w_seq (p := [1, 1, 1, 0, 1, 0, 0, 1, 0, 0]) (p0 := [1, 1, 1, 0, 1, 0, 0, 1, 0, 0, 0]) (p1 := [1, 1, 1, 0, 1, 0, 0, 1, 0, 0, 1]) (by kernel_rfl) ?_
            refine w_region (p := [1, 1, 1, 0, 1, 0, 0, 1, 0, 0, 0]) (id := 12) (by kernel_rfl) ?_
            refine r_vals 0 2 [.slice a0A 3 a0c, .int .i64 0] (by kernel_rfl) (by kernel_rfl) ?_
            refine r_do 2 (by kernel_rfl) (ow_index (K := (kSl 24)) (T := 29) (e := 24) (sz := 1) (x := (Operand.tmp 42)) (y := (Operand.tmp 43)) (k := .i64) (n := 3) (c := a0c) (A := a0A) (xs := ([⟨a0_0A, a0_0.length, a0_0c⟩, ⟨a0_1A, a0_1.length, a0_1c⟩, ⟨a0_2A, a0_2.length, a0_2c⟩] : List Sl)) (iv := 0) (by kernel_rfl) (by kernel_rfl) (by kernel_rfl) (by kernel_rfl) (by decide) (by decide) (Ow.rdNo ho1179) (Ow.len ho1179) (by kernel_rfl) ?_) 
            refine r_do 3 (by kernel_rfl) (ow_loadE (K := (kSl 24)) (T := 24) (x := (Operand.tmp 44)) (off := 0) (A := a0A) (n := 3) (xs := ([⟨a0_0A, a0_0.length, a0_0c⟩, ⟨a0_1A, a0_1.length, a0_1c⟩, ⟨a0_2A, a0_2.length, a0_2c⟩] : List Sl)) (iv := 0) zSl (.slice a0_0A a0_0.length a0_0c) (by kernel_rfl) (by kernel_rfl) (Ow.rdNo ho1179) (Ow.len ho1179) (by decide) (by decide) (by kernel_rfl) ?_) 
            refine r_vals 4 5 [.slice a0_0A a0_0.length a0_0c] (by kernel_rfl) (by kernel_rfl) ?_
            refine r_fin 5 (by kernel_rfl) ?_
            refine q_then ?_
            refine w_seq (p := [1, 1, 1, 0, 1, 0, 0, 1, 0, 0, 1]) (p0 := [1, 1, 1, 0, 1, 0, 0, 1, 0, 0, 1, 0]) (p1 := [1, 1, 1, 0, 1, 0, 0, 1, 0, 0, 1, 1]) (by kernel_rfl) ?_
            refine w_seq (p := [1, 1, 1, 0, 1, 0, 0, 1, 0, 0, 1, 0]) (p0 := [1, 1, 1, 0, 1, 0, 0, 1, 0, 0, 1, 0, 0]) (p1 := [1, 1, 1, 0, 1, 0, 0, 1, 0, 0, 1, 0, 1]) (by kernel_rfl) ?_
            refine w_region (p := [1, 1, 1, 0, 1, 0, 0, 1, 0, 0, 1, 0, 0]) (id := 13) (by kernel_rfl) ?_
            refine r_vals 0 1 [.int .i64 0] (by kernel_rfl) (by kernel_rfl) ?_
            refine r_fin 1 (by kernel_rfl) ?_
            refine q_then ?_
            refine w_block (p := [1, 1, 1, 0, 1, 0, 0, 1, 0, 0, 1, 0, 1]) (p0 := [1, 1, 1, 0, 1, 0, 0, 1, 0, 0, 1, 0, 1, 0]) (id := 6) (by kernel_rfl) ?_
            refine w_into (dowelbook_FreeInts_17_3.F3 a0A a0c a0_0A a0_0.length a0_0c 0) (by kernel_rfl) (fun u_ => ?_)
            refine w_loop (p := [1, 1, 1, 0, 1, 0, 0, 1, 0, 0, 1, 0, 1, 0]) (p0 := [1, 1, 1, 0, 1, 0, 0, 1, 0, 0, 1, 0, 1, 0, 0]) K (by kernel_rfl) ?_
            refine dowelbook_FreeInts_17_3.l3.ok K a0A a0c a0_0A a0_0c a0_0 a0_1A a0_1c a0_1 a0_2A a0_2c a0_2 w r x1074 x1168 x980 (fun a w' h_ => q_in_r (q_then_r (q_in_r (q_then_r (q_then_r (q_in_r (q_then_r (HR a w' h_)))))))) ?_ K x980 a0_0.length 0 a0_0A a0_0c u_ w1161 k1162 ho1179 ho1180 ho1181 ho1182 (Ow.nil w (kSl 24) w1161) (Old.mk0 ho1180) n1183 n1184 n1185 dj_nil n1186 n1187 dj_nil n1188 dj_nil dj_nil (Dj.symm n1183) n1186 n1187 dj_nil H
            intro x1657 x1658 A1659 c1660 u1651 w1649 k1650 ho1681 ho1682 ho1683 ho1684 ho1685 hd1696 n1686 n1687 n1688 n1689 n1690 n1691 n1692 n1693 n1694 n1695 n1697 n1698 n1699 n1700 H
            try dsimp only at H
            refine q_in_hit ?_
            refine q_then ?_
            refine w_region (p := [1, 1, 1, 0, 1, 0, 0, 1, 0, 0, 1, 1]) (id := 17) (by kernel_rfl) ?_
            refine r_vals 0 2 [.slice none 0 0, .slice A1659 x1658 c1660] (by kernel_rfl) (by kernel_rfl) ?_
            refine r_do 2 (by kernel_rfl) (ow_lit (K := (kSl 24)) (w0 := w) (T := 29) (n := 1) (e := 24) (ps := #[(0, (Operand.tmp 56))]) (cs := #[.slice A1659 x1658 c1660]) (parts := [(0, .slice A1659 x1658 c1660)]) ([⟨A1659, x1658, c1660⟩] : List Sl) (by kernel_rfl) (by kernel_rfl) (by kernel_rfl) (by kernel_rfl) rfl rfl (by kernel_rfl) k1650 ?_) 
            intro b1704 w1701 e1705 ho1703 k1702
            have n1707 := Ow.dj_row ho1682 e1705
            have n1708 := Ow.dj_row ho1683 e1705
            have n1709 := Ow.dj_row ho1681 e1705
            have n1710 := Ow.dj_row ho1685 e1705
            have n1711 := Old.dj_row hd1696 e1705
            clear e1705
            have k1712 := Kp.trans k1650 k1702 (fun _ h => h.elim)
            have ho1713 := Ow.kpNo ho1682 k1702
            have ho1714 := Ow.kpNo ho1683 k1702
            have ho1715 := Ow.kpNo ho1681 k1702
            have ho1716 := Ow.kpNo ho1684 k1702
            have ho1717 := Ow.kpNo ho1685 k1702
            have hd1718 := Old.kpNo hd1696 k1702
            refine r_do 3 (by kernel_rfl) (ow_append2 (K := (kSl 24)) (w0 := w) (T := 29) (n := 0) (c := 0) (m := 1) (d := 1) (s := (Operand.tmp 55)) (x := (Operand.tmp 57)) (A := none) (D := (some ⟨b1704, 0, none⟩)) (xs := ([] : List Sl)) (ys := ([⟨A1659, x1658, c1660⟩] : List Sl)) (.slice none 0 0) 24 (by kernel_rfl) (by kernel_rfl) (by kernel_rfl) (by kernel_rfl) (by kernel_rfl) ho1716 (by kernel_rfl) (Ow.len ho1703) (Ow.rdNo ho1703) (by decide) k1712 ?_) 
            intro A1723 c1724 w1719 ho1721 k1720 hn1722 ha1726
            have n1727 := Ow.dj_app ho1713 dj_nil hn1722
            have n1728 := Ow.dj_app ho1714 dj_nil hn1722
            have n1729 := Ow.dj_app ho1715 dj_nil hn1722
            have n1730 := Ow.dj_app ho1717 dj_nil hn1722
            have n1731 := Ow.dj_app ho1703 dj_nil hn1722
            have n1732 := Old.dj_app hd1718 dj_nil hn1722
            clear hn1722 ha1726
            have k1733 := Kp.own ho1716 k1712 k1720
            have ho1734 := Ow.kp ho1713 k1720 dj_nil
            have ho1735 := Ow.kp ho1714 k1720 dj_nil
            have ho1736 := Ow.kp ho1715 k1720 dj_nil
            have ho1737 := Ow.kp ho1717 k1720 dj_nil
            have ho1738 := Ow.kp ho1703 k1720 dj_nil
            have hd1739 := Old.kp hd1718 k1720 dj_nil
            refine r_vals 4 5 [.slice A1723 1 c1724] (by kernel_rfl) (by kernel_rfl) ?_
            refine r_fin 5 (by kernel_rfl) ?_
            refine q_in ?_
            refine q_then ?_
            refine w_region (p := [1, 1, 1, 0, 1, 0, 0, 1, 1]) (id := 11) (by kernel_rfl) ?_
            refine r_vals 0 3 [.int .i64 0, .int .i64 1, .int .i64 1] (by kernel_rfl) (by kernel_rfl) ?_
            refine r_fin 3 (by kernel_rfl) ?_
            refine q_then ?_
            refine w_round (p0 := [1, 1, 1, 0, 1, 0, 0]) 3 ?_
            refine w_seq (p := [1, 1, 1, 0, 1, 0, 0]) (p0 := [1, 1, 1, 0, 1, 0, 0, 0]) (p1 := [1, 1, 1, 0, 1, 0, 0, 1]) (by kernel_rfl) ?_
            refine w_seq (p := [1, 1, 1, 0, 1, 0, 0, 0]) (p0 := [1, 1, 1, 0, 1, 0, 0, 0, 0]) (p1 := [1, 1, 1, 0, 1, 0, 0, 0, 1]) (by kernel_rfl) ?_
            refine w_region (p := [1, 1, 1, 0, 1, 0, 0, 0, 0]) (id := 10) (by kernel_rfl) ?_
            refine r_vals 0 4 [.int .i64 1, .slice a0A 3 a0c, .int .i64 3, .bool true] (by kernel_rfl) (by kernel_rfl) ?_
            refine r_fin 4 (by kernel_rfl) ?_
            refine q_then ?_
            refine w_cond (p := [1, 1, 1, 0, 1, 0, 0, 0, 1]) (p0 := [1, 1, 1, 0, 1, 0, 0, 0, 1, 0]) (p1 := [1, 1, 1, 0, 1, 0, 0, 0, 1, 1]) (c := (Operand.tmp 39)) (b := true) (by kernel_rfl) (by kernel_rfl) ?_ ?_
            · intro _
              refine w_skip (p := [1, 1, 1, 0, 1, 0, 0, 0, 1, 0]) (by kernel_rfl) ?_
              refine q_then ?_
              refine w_seq (p := [1, 1, 1, 0, 1, 0, 0, 1]) (p0 := [1, 1, 1, 0, 1, 0, 0, 1, 0]) (p1 := [1, 1, 1, 0, 1, 0, 0, 1, 1]) (by kernel_rfl) ?_
              refine w_block (p := [1, 1, 1, 0, 1, 0, 0, 1, 0]) (p0 := [1, 1, 1, 0, 1, 0, 0, 1, 0, 0]) (id := 5) (by kernel_rfl) ?_
              refine w_seq (p := [1, 1, 1, 0, 1, 0, 0, 1, 0, 0]) (p0 := [1, 1, 1, 0, 1, 0, 0, 1, 0, 0, 0]) (p1 := [1, 1, 1, 0, 1, 0, 0, 1, 0, 0, 1]) (by kernel_rfl) ?_
              refine w_region (p := [1, 1, 1, 0, 1, 0, 0, 1, 0, 0, 0]) (id := 12) (by kernel_rfl) ?_
              refine r_vals 0 2 [.slice a0A 3 a0c, .int .i64 1] (by kernel_rfl) (by kernel_rfl) ?_
              refine r_do 2 (by kernel_rfl) (ow_index (K := (kSl 24)) (T := 29) (e := 24) (sz := 1) (x := (Operand.tmp 42)) (y := (Operand.tmp 43)) (k := .i64) (n := 3) (c := a0c) (A := a0A) (xs := ([⟨a0_0A, a0_0.length, a0_0c⟩, ⟨a0_1A, a0_1.length, a0_1c⟩, ⟨a0_2A, a0_2.length, a0_2c⟩] : List Sl)) (iv := 1) (by kernel_rfl) (by kernel_rfl) (by kernel_rfl) (by kernel_rfl) (by decide) (by decide) (Ow.rdNo ho1736) (Ow.len ho1736) (by kernel_rfl) ?_) 
              refine r_do 3 (by kernel_rfl) (ow_loadE (K := (kSl 24)) (T := 24) (x := (Operand.tmp 44)) (off := 0) (A := a0A) (n := 3) (xs := ([⟨a0_0A, a0_0.length, a0_0c⟩, ⟨a0_1A, a0_1.length, a0_1c⟩, ⟨a0_2A, a0_2.length, a0_2c⟩] : List Sl)) (iv := 1) zSl (.slice a0_1A a0_1.length a0_1c) (by kernel_rfl) (by kernel_rfl) (Ow.rdNo ho1736) (Ow.len ho1736) (by decide) (by decide) (by kernel_rfl) ?_) 
              refine r_vals 4 5 [.slice a0_1A a0_1.length a0_1c] (by kernel_rfl) (by kernel_rfl) ?_
              refine r_fin 5 (by kernel_rfl) ?_
              refine q_then ?_
              refine w_seq (p := [1, 1, 1, 0, 1, 0, 0, 1, 0, 0, 1]) (p0 := [1, 1, 1, 0, 1, 0, 0, 1, 0, 0, 1, 0]) (p1 := [1, 1, 1, 0, 1, 0, 0, 1, 0, 0, 1, 1]) (by kernel_rfl) ?_
              refine w_seq (p := [1, 1, 1, 0, 1, 0, 0, 1, 0, 0, 1, 0]) (p0 := [1, 1, 1, 0, 1, 0, 0, 1, 0, 0, 1, 0, 0]) (p1 := [1, 1, 1, 0, 1, 0, 0, 1, 0, 0, 1, 0, 1]) (by kernel_rfl) ?_
              refine w_region (p := [1, 1, 1, 0, 1, 0, 0, 1, 0, 0, 1, 0, 0]) (id := 13) (by kernel_rfl) ?_
              refine r_vals 0 1 [.int .i64 0] (by kernel_rfl) (by kernel_rfl) ?_
              refine r_fin 1 (by kernel_rfl) ?_
              refine q_then ?_
              refine w_block (p := [1, 1, 1, 0, 1, 0, 0, 1, 0, 0, 1, 0, 1]) (p0 := [1, 1, 1, 0, 1, 0, 0, 1, 0, 0, 1, 0, 1, 0]) (id := 6) (by kernel_rfl) ?_
              refine w_into (dowelbook_FreeInts_17_3.F4 a0A a0c A1723 c1724 a0_1A a0_1.length a0_1c 0) (by kernel_rfl) (fun u_ => ?_)
              refine w_loop (p := [1, 1, 1, 0, 1, 0, 0, 1, 0, 0, 1, 0, 1, 0]) (p0 := [1, 1, 1, 0, 1, 0, 0, 1, 0, 0, 1, 0, 1, 0, 0]) K (by kernel_rfl) ?_
              refine dowelbook_FreeInts_17_3.l4.ok K a0A a0c a0_0A a0_0c a0_0 a0_1A a0_1c a0_1 a0_2A a0_2c a0_2 w r A1723 c1724 x1168 A1659 x1658 c1660 x1657 x980 x1074 (fun a w' h_ => q_in_r (q_then_r (q_in_r (q_then_r (q_then_r (q_in_r (q_then_r (HR a w' h_)))))))) ?_ K x1074 a0_1.length 0 a0_1A a0_1c u_ w1719 k1733 ho1736 ho1734 ho1735 ho1737 ho1721 hd1739 (Old.mk0 ho1734) n1686 n1687 n1689 n1729 n1690 n1692 n1727 n1694 n1728 n1730 n1697 n1698 n1699 n1732 (Dj.symm n1686) n1690 n1692 n1727 H
              intro x2315 x2316 A2317 c2318 u2309 w2307 k2308 ho2344 ho2345 ho2346 ho2347 ho2348 hd2359 hd2360 n2349 n2350 n2351 n2352 n2353 n2354 n2355 n2356 n2357 n2358 n2361 n2362 n2363 n2364 n2365 n2366 n2367 n2368 H
              try dsimp only at H
              refine q_in_hit ?_
              refine q_then ?_
              refine w_region (p := [1, 1, 1, 0, 1, 0, 0, 1, 0, 0, 1, 1]) (id := 17) (by kernel_rfl) ?_
              refine r_vals 0 2 [.slice A1723 1 c1724, .slice A2317 x2316 c2318] (by kernel_rfl) (by kernel_rfl) ?_
              refine r_do 2 (by kernel_rfl) (ow_lit (K := (kSl 24)) (w0 := w) (T := 29) (n := 1) (e := 24) (ps := #[(0, (Operand.tmp 56))]) (cs := #[.slice A2317 x2316 c2318]) (parts := [(0, .slice A2317 x2316 c2318)]) ([⟨A2317, x2316, c2318⟩] : List Sl) (by kernel_rfl) (by kernel_rfl) (by kernel_rfl) (by kernel_rfl) rfl rfl (by kernel_rfl) k2308 ?_) 
              intro b2372 w2369 e2373 ho2371 k2370
              have n2375 := Ow.dj_row ho2345 e2373
              have n2376 := Ow.dj_row ho2344 e2373
              have n2377 := Ow.dj_row ho2347 e2373
              have n2378 := Ow.dj_row ho2346 e2373
              have n2379 := Ow.dj_row ho2348 e2373
              have n2380 := Old.dj_row hd2359 e2373
              have n2381 := Old.dj_row hd2360 e2373
              clear e2373
              have k2382 := Kp.trans k2308 k2370 (fun _ h => h.elim)
              have ho2383 := Ow.kpNo ho2345 k2370
              have ho2384 := Ow.kpNo ho2344 k2370
              have ho2385 := Ow.kpNo ho2347 k2370
              have ho2386 := Ow.kpNo ho2346 k2370
              have ho2387 := Ow.kpNo ho2348 k2370
              have hd2388 := Old.kpNo hd2359 k2370
              have hd2389 := Old.kpNo hd2360 k2370
              refine r_do 3 (by kernel_rfl) (ow_append2 (K := (kSl 24)) (w0 := w) (T := 29) (n := 1) (c := c1724) (m := 1) (d := 1) (s := (Operand.tmp 55)) (x := (Operand.tmp 57)) (A := A1723) (D := (some ⟨b2372, 0, none⟩)) (xs := ([⟨A1659, x1658, c1660⟩] : List Sl)) (ys := ([⟨A2317, x2316, c2318⟩] : List Sl)) (.slice none 0 0) 24 (by kernel_rfl) (by kernel_rfl) (by kernel_rfl) (by kernel_rfl) (by kernel_rfl) ho2386 (by kernel_rfl) (Ow.len ho2371) (Ow.rdNo ho2371) (by decide) k2382 ?_) 
              intro A2394 c2395 w2390 ho2392 k2391 hn2393 ha2397
              have n2398 := Ow.dj_app ho2383 n2353 hn2393
              have n2399 := Ow.dj_app ho2384 n2350 hn2393
              have n2400 := Ow.dj_app ho2385 (Dj.symm n2356) hn2393
              have n2401 := Ow.dj_app ho2387 (Dj.symm n2357) hn2393
              have n2402 := Ow.dj_app ho2371 (Dj.symm n2378) hn2393
              have n2403 := Old.dj_app hd2388 n2363 hn2393
              have n2404 := Old.dj_app hd2389 n2367 hn2393
              clear hn2393 ha2397
              have k2405 := Kp.own ho2386 k2382 k2391
              have ho2406 := Ow.kp ho2383 k2391 n2353
              have ho2407 := Ow.kp ho2384 k2391 n2350
              have ho2408 := Ow.kp ho2385 k2391 (Dj.symm n2356)
              have ho2409 := Ow.kp ho2387 k2391 (Dj.symm n2357)
              have ho2410 := Ow.kp ho2371 k2391 (Dj.symm n2378)
              have hd2411 := Old.kp hd2388 k2391 n2363
              have hd2412 := Old.kp hd2389 k2391 n2367
              refine r_vals 4 5 [.slice A2394 2 c2395] (by kernel_rfl) (by kernel_rfl) ?_
              refine r_fin 5 (by kernel_rfl) ?_
              refine q_in ?_
              refine q_then ?_
              refine w_region (p := [1, 1, 1, 0, 1, 0, 0, 1, 1]) (id := 11) (by kernel_rfl) ?_
              refine r_vals 0 3 [.int .i64 1, .int .i64 2, .int .i64 2] (by kernel_rfl) (by kernel_rfl) ?_
              refine r_fin 3 (by kernel_rfl) ?_
              refine q_then ?_
              refine w_round (p0 := [1, 1, 1, 0, 1, 0, 0]) 2 ?_
              refine w_seq (p := [1, 1, 1, 0, 1, 0, 0]) (p0 := [1, 1, 1, 0, 1, 0, 0, 0]) (p1 := [1, 1, 1, 0, 1, 0, 0, 1]) (by kernel_rfl) ?_
              refine w_seq (p := [1, 1, 1, 0, 1, 0, 0, 0]) (p0 := [1, 1, 1, 0, 1, 0, 0, 0, 0]) (p1 := [1, 1, 1, 0, 1, 0, 0, 0, 1]) (by kernel_rfl) ?_
              refine w_region (p := [1, 1, 1, 0, 1, 0, 0, 0, 0]) (id := 10) (by kernel_rfl) ?_
              refine r_vals 0 4 [.int .i64 2, .slice a0A 3 a0c, .int .i64 3, .bool true] (by kernel_rfl) (by kernel_rfl) ?_
              refine r_fin 4 (by kernel_rfl) ?_
              refine q_then ?_
              refine w_cond (p := [1, 1, 1, 0, 1, 0, 0, 0, 1]) (p0 := [1, 1, 1, 0, 1, 0, 0, 0, 1, 0]) (p1 := [1, 1, 1, 0, 1, 0, 0, 0, 1, 1]) (c := (Operand.tmp 39)) (b := true) (by kernel_rfl) (by kernel_rfl) ?_ ?_
              · intro _
                refine w_skip (p := [1, 1, 1, 0, 1, 0, 0, 0, 1, 0]) (by kernel_rfl) ?_
                refine q_then ?_
                refine w_seq (p := [1, 1, 1, 0, 1, 0, 0, 1]) (p0 := [1, 1, 1, 0, 1, 0, 0, 1, 0]) (p1 := [1, 1, 1, 0, 1, 0, 0, 1, 1]) (by kernel_rfl) ?_
                refine w_block (p := [1, 1, 1, 0, 1, 0, 0, 1, 0]) (p0 := [1, 1, 1, 0, 1, 0, 0, 1, 0, 0]) (id := 5) (by kernel_rfl) ?_
                refine w_seq (p := [1, 1, 1, 0, 1, 0, 0, 1, 0, 0]) (p0 := [1, 1, 1, 0, 1, 0, 0, 1, 0, 0, 0]) (p1 := [1, 1, 1, 0, 1, 0, 0, 1, 0, 0, 1]) (by kernel_rfl) ?_
                refine w_region (p := [1, 1, 1, 0, 1, 0, 0, 1, 0, 0, 0]) (id := 12) (by kernel_rfl) ?_
                refine r_vals 0 2 [.slice a0A 3 a0c, .int .i64 2] (by kernel_rfl) (by kernel_rfl) ?_
                refine r_do 2 (by kernel_rfl) (ow_index (K := (kSl 24)) (T := 29) (e := 24) (sz := 1) (x := (Operand.tmp 42)) (y := (Operand.tmp 43)) (k := .i64) (n := 3) (c := a0c) (A := a0A) (xs := ([⟨a0_0A, a0_0.length, a0_0c⟩, ⟨a0_1A, a0_1.length, a0_1c⟩, ⟨a0_2A, a0_2.length, a0_2c⟩] : List Sl)) (iv := 2) (by kernel_rfl) (by kernel_rfl) (by kernel_rfl) (by kernel_rfl) (by decide) (by decide) (Ow.rdNo ho2407) (Ow.len ho2407) (by kernel_rfl) ?_) 
                refine r_do 3 (by kernel_rfl) (ow_loadE (K := (kSl 24)) (T := 24) (x := (Operand.tmp 44)) (off := 0) (A := a0A) (n := 3) (xs := ([⟨a0_0A, a0_0.length, a0_0c⟩, ⟨a0_1A, a0_1.length, a0_1c⟩, ⟨a0_2A, a0_2.length, a0_2c⟩] : List Sl)) (iv := 2) zSl (.slice a0_2A a0_2.length a0_2c) (by kernel_rfl) (by kernel_rfl) (Ow.rdNo ho2407) (Ow.len ho2407) (by decide) (by decide) (by kernel_rfl) ?_) 
                refine r_vals 4 5 [.slice a0_2A a0_2.length a0_2c] (by kernel_rfl) (by kernel_rfl) ?_
                refine r_fin 5 (by kernel_rfl) ?_
                refine q_then ?_
                refine w_seq (p := [1, 1, 1, 0, 1, 0, 0, 1, 0, 0, 1]) (p0 := [1, 1, 1, 0, 1, 0, 0, 1, 0, 0, 1, 0]) (p1 := [1, 1, 1, 0, 1, 0, 0, 1, 0, 0, 1, 1]) (by kernel_rfl) ?_
                refine w_seq (p := [1, 1, 1, 0, 1, 0, 0, 1, 0, 0, 1, 0]) (p0 := [1, 1, 1, 0, 1, 0, 0, 1, 0, 0, 1, 0, 0]) (p1 := [1, 1, 1, 0, 1, 0, 0, 1, 0, 0, 1, 0, 1]) (by kernel_rfl) ?_
                refine w_region (p := [1, 1, 1, 0, 1, 0, 0, 1, 0, 0, 1, 0, 0]) (id := 13) (by kernel_rfl) ?_
                refine r_vals 0 1 [.int .i64 0] (by kernel_rfl) (by kernel_rfl) ?_
                refine r_fin 1 (by kernel_rfl) ?_
                refine q_then ?_
                refine w_block (p := [1, 1, 1, 0, 1, 0, 0, 1, 0, 0, 1, 0, 1]) (p0 := [1, 1, 1, 0, 1, 0, 0, 1, 0, 0, 1, 0, 1, 0]) (id := 6) (by kernel_rfl) ?_
                refine w_into (dowelbook_FreeInts_17_3.F5 a0A a0c A2394 c2395 a0_2A a0_2.length a0_2c 0) (by kernel_rfl) (fun u_ => ?_)
                refine w_loop (p := [1, 1, 1, 0, 1, 0, 0, 1, 0, 0, 1, 0, 1, 0]) (p0 := [1, 1, 1, 0, 1, 0, 0, 1, 0, 0, 1, 0, 1, 0, 0]) K (by kernel_rfl) ?_
                refine dowelbook_FreeInts_17_3.l5.ok K a0A a0c a0_0A a0_0c a0_0 a0_1A a0_1c a0_1 a0_2A a0_2c a0_2 w r A2394 c2395 A1659 x1658 c1660 x1657 A2317 x2316 c2318 x2315 x980 x1074 x1168 (fun a w' h_ => q_in_r (q_then_r (q_in_r (q_then_r (q_then_r (q_in_r (q_then_r (HR a w' h_)))))))) ?_ K x1168 a0_2.length 0 a0_2A a0_2c u_ w2390 k2405 ho2407 ho2406 ho2408 ho2409 ho2392 hd2411 hd2412 (Old.mk0 ho2406) n2349 n2351 n2352 n2399 n2354 n2355 n2398 n2358 n2400 n2401 n2361 n2362 n2364 n2403 n2365 n2366 n2368 n2404 (Dj.symm n2349) n2354 n2355 n2398 H
                intro x3050 x3051 A3052 c3053 u3044 w3042 k3043 ho3084 ho3085 ho3086 ho3087 ho3088 hd3099 hd3100 hd3101 n3089 n3090 n3091 n3092 n3093 n3094 n3095 n3096 n3097 n3098 n3102 n3103 n3104 n3105 n3106 n3107 n3108 n3109 n3110 n3111 n3112 n3113 H
                try dsimp only at H
                refine q_in_hit ?_
                refine q_then ?_
                refine w_region (p := [1, 1, 1, 0, 1, 0, 0, 1, 0, 0, 1, 1]) (id := 17) (by kernel_rfl) ?_
                refine r_vals 0 2 [.slice A2394 2 c2395, .slice A3052 x3051 c3053] (by kernel_rfl) (by kernel_rfl) ?_
                refine r_do 2 (by kernel_rfl) (ow_lit (K := (kSl 24)) (w0 := w) (T := 29) (n := 1) (e := 24) (ps := #[(0, (Operand.tmp 56))]) (cs := #[.slice A3052 x3051 c3053]) (parts := [(0, .slice A3052 x3051 c3053)]) ([⟨A3052, x3051, c3053⟩] : List Sl) (by kernel_rfl) (by kernel_rfl) (by kernel_rfl) (by kernel_rfl) rfl rfl (by kernel_rfl) k3043 ?_) 
                intro b3117 w3114 e3118 ho3116 k3115
                have n3120 := Ow.dj_row ho3084 e3118
                have n3121 := Ow.dj_row ho3086 e3118
                have n3122 := Ow.dj_row ho3087 e3118
                have n3123 := Ow.dj_row ho3085 e3118
                have n3124 := Ow.dj_row ho3088 e3118
                have n3125 := Old.dj_row hd3099 e3118
                have n3126 := Old.dj_row hd3100 e3118
                have n3127 := Old.dj_row hd3101 e3118
                clear e3118
                have k3128 := Kp.trans k3043 k3115 (fun _ h => h.elim)
                have ho3129 := Ow.kpNo ho3084 k3115
                have ho3130 := Ow.kpNo ho3086 k3115
                have ho3131 := Ow.kpNo ho3087 k3115
                have ho3132 := Ow.kpNo ho3085 k3115
                have ho3133 := Ow.kpNo ho3088 k3115
                have hd3134 := Old.kpNo hd3099 k3115
                have hd3135 := Old.kpNo hd3100 k3115
                have hd3136 := Old.kpNo hd3101 k3115
                refine r_do 3 (by kernel_rfl) (ow_append2 (K := (kSl 24)) (w0 := w) (T := 29) (n := 2) (c := c2395) (m := 1) (d := 1) (s := (Operand.tmp 55)) (x := (Operand.tmp 57)) (A := A2394) (D := (some ⟨b3117, 0, none⟩)) (xs := ([⟨A1659, x1658, c1660⟩, ⟨A2317, x2316, c2318⟩] : List Sl)) (ys := ([⟨A3052, x3051, c3053⟩] : List Sl)) (.slice none 0 0) 24 (by kernel_rfl) (by kernel_rfl) (by kernel_rfl) (by kernel_rfl) (by kernel_rfl) ho3132 (by kernel_rfl) (Ow.len ho3116) (Ow.rdNo ho3116) (by decide) k3128 ?_) 
                intro A3141 c3142 w3137 ho3139 k3138 hn3140 ha3144
                have n3145 := Ow.dj_app ho3129 n3089 hn3140
                have n3146 := Ow.dj_app ho3130 (Dj.symm n3093) hn3140
                have n3147 := Ow.dj_app ho3131 (Dj.symm n3094) hn3140
                have n3148 := Ow.dj_app ho3133 (Dj.symm n3095) hn3140
                have n3149 := Ow.dj_app ho3116 (Dj.symm n3123) hn3140
                have n3150 := Old.dj_app hd3134 n3103 hn3140
                have n3151 := Old.dj_app hd3135 n3107 hn3140
                have n3152 := Old.dj_app hd3136 n3111 hn3140
                clear hn3140 ha3144
                have k3153 := Kp.own ho3132 k3128 k3138
                have ho3154 := Ow.kp ho3129 k3138 n3089
                have ho3155 := Ow.kp ho3130 k3138 (Dj.symm n3093)
                have ho3156 := Ow.kp ho3131 k3138 (Dj.symm n3094)
                have ho3157 := Ow.kp ho3133 k3138 (Dj.symm n3095)
                have ho3158 := Ow.kp ho3116 k3138 (Dj.symm n3123)
                have hd3159 := Old.kp hd3134 k3138 n3103
                have hd3160 := Old.kp hd3135 k3138 n3107
                have hd3161 := Old.kp hd3136 k3138 n3111
                refine r_vals 4 5 [.slice A3141 3 c3142] (by kernel_rfl) (by kernel_rfl) ?_
                refine r_fin 5 (by kernel_rfl) ?_
                refine q_in ?_
                refine q_then ?_
                refine w_region (p := [1, 1, 1, 0, 1, 0, 0, 1, 1]) (id := 11) (by kernel_rfl) ?_
                refine r_vals 0 3 [.int .i64 2, .int .i64 3, .int .i64 3] (by kernel_rfl) (by kernel_rfl) ?_
                refine r_fin 3 (by kernel_rfl) ?_
                refine q_then ?_
                refine w_round (p0 := [1, 1, 1, 0, 1, 0, 0]) 1 ?_
                refine w_seq (p := [1, 1, 1, 0, 1, 0, 0]) (p0 := [1, 1, 1, 0, 1, 0, 0, 0]) (p1 := [1, 1, 1, 0, 1, 0, 0, 1]) (by kernel_rfl) ?_
                refine w_seq (p := [1, 1, 1, 0, 1, 0, 0, 0]) (p0 := [1, 1, 1, 0, 1, 0, 0, 0, 0]) (p1 := [1, 1, 1, 0, 1, 0, 0, 0, 1]) (by kernel_rfl) ?_
                refine w_region (p := [1, 1, 1, 0, 1, 0, 0, 0, 0]) (id := 10) (by kernel_rfl) ?_
                refine r_vals 0 4 [.int .i64 3, .slice a0A 3 a0c, .int .i64 3, .bool false] (by kernel_rfl) (by kernel_rfl) ?_
                refine r_fin 4 (by kernel_rfl) ?_
                refine q_then ?_
                refine w_cond (p := [1, 1, 1, 0, 1, 0, 0, 0, 1]) (p0 := [1, 1, 1, 0, 1, 0, 0, 0, 1, 0]) (p1 := [1, 1, 1, 0, 1, 0, 0, 0, 1, 1]) (c := (Operand.tmp 39)) (b := false) (by kernel_rfl) (by kernel_rfl) ?_ ?_
                · intro h_
                  cases h_
                · intro _
                  refine w_exit (p := [1, 1, 1, 0, 1, 0, 0, 0, 1, 1]) (id := 4) (by kernel_rfl) ?_
                  refine q_then_x ?_
                  refine q_then_x ?_
                  refine q_in_hit ?_
                  refine q_then ?_
                  refine w_seq (p := [1, 1, 1, 1]) (p0 := [1, 1, 1, 1, 0]) (p1 := [1, 1, 1, 1, 1]) (by kernel_rfl) ?_
                  refine w_seq (p := [1, 1, 1, 1, 0]) (p0 := [1, 1, 1, 1, 0, 0]) (p1 := [1, 1, 1, 1, 0, 1]) (by kernel_rfl) ?_
                  refine w_region (p := [1, 1, 1, 1, 0, 0]) (id := 18) (by kernel_rfl) ?_
                  refine r_vals 0 1 [.int .i64 0] (by kernel_rfl) (by kernel_rfl) ?_
                  refine r_fin 1 (by kernel_rfl) ?_
                  refine q_then ?_
                  refine w_block (p := [1, 1, 1, 1, 0, 1]) (p0 := [1, 1, 1, 1, 0, 1, 0]) (id := 8) (by kernel_rfl) ?_
                  refine w_loop (p := [1, 1, 1, 1, 0, 1, 0]) (p0 := [1, 1, 1, 1, 0, 1, 0, 0]) 5 (by kernel_rfl) ?_
                  refine w_round (p0 := [1, 1, 1, 1, 0, 1, 0, 0]) 4 ?_
                  refine w_seq (p := [1, 1, 1, 1, 0, 1, 0, 0]) (p0 := [1, 1, 1, 1, 0, 1, 0, 0, 0]) (p1 := [1, 1, 1, 1, 0, 1, 0, 0, 1]) (by kernel_rfl) ?_
                  refine w_seq (p := [1, 1, 1, 1, 0, 1, 0, 0, 0]) (p0 := [1, 1, 1, 1, 0, 1, 0, 0, 0, 0]) (p1 := [1, 1, 1, 1, 0, 1, 0, 0, 0, 1]) (by kernel_rfl) ?_
                  refine w_region (p := [1, 1, 1, 1, 0, 1, 0, 0, 0, 0]) (id := 19) (by kernel_rfl) ?_
                  refine r_vals 0 4 [.int .i64 0, .slice a0A 3 a0c, .int .i64 3, .bool true] (by kernel_rfl) (by kernel_rfl) ?_
                  refine r_fin 4 (by kernel_rfl) ?_
                  refine q_then ?_
                  refine w_cond (p := [1, 1, 1, 1, 0, 1, 0, 0, 0, 1]) (p0 := [1, 1, 1, 1, 0, 1, 0, 0, 0, 1, 0]) (p1 := [1, 1, 1, 1, 0, 1, 0, 0, 0, 1, 1]) (c := (Operand.tmp 62)) (b := true) (by kernel_rfl) (by kernel_rfl) ?_ ?_
                  · intro _
                    refine w_skip (p := [1, 1, 1, 1, 0, 1, 0, 0, 0, 1, 0]) (by kernel_rfl) ?_
                    refine q_then ?_
                    refine w_seq (p := [1, 1, 1, 1, 0, 1, 0, 0, 1]) (p0 := [1, 1, 1, 1, 0, 1, 0, 0, 1, 0]) (p1 := [1, 1, 1, 1, 0, 1, 0, 0, 1, 1]) (by kernel_rfl) ?_
                    refine w_block (p := [1, 1, 1, 1, 0, 1, 0, 0, 1, 0]) (p0 := [1, 1, 1, 1, 0, 1, 0, 0, 1, 0, 0]) (id := 9) (by kernel_rfl) ?_
                    refine w_seq (p := [1, 1, 1, 1, 0, 1, 0, 0, 1, 0, 0]) (p0 := [1, 1, 1, 1, 0, 1, 0, 0, 1, 0, 0, 0]) (p1 := [1, 1, 1, 1, 0, 1, 0, 0, 1, 0, 0, 1]) (by kernel_rfl) ?_
                    refine w_seq (p := [1, 1, 1, 1, 0, 1, 0, 0, 1, 0, 0, 0]) (p0 := [1, 1, 1, 1, 0, 1, 0, 0, 1, 0, 0, 0, 0]) (p1 := [1, 1, 1, 1, 0, 1, 0, 0, 1, 0, 0, 0, 1]) (by kernel_rfl) ?_
                    refine w_region (p := [1, 1, 1, 1, 0, 1, 0, 0, 1, 0, 0, 0, 0]) (id := 21) (by kernel_rfl) ?_
                    refine r_vals 0 1 [.int .i64 0] (by kernel_rfl) (by kernel_rfl) ?_
                    refine r_fin 1 (by kernel_rfl) ?_
                    refine q_then ?_
                    refine w_block (p := [1, 1, 1, 1, 0, 1, 0, 0, 1, 0, 0, 0, 1]) (p0 := [1, 1, 1, 1, 0, 1, 0, 0, 1, 0, 0, 0, 1, 0]) (id := 10) (by kernel_rfl) ?_
                    refine w_into (dowelbook_FreeInts_17_3.F6 a0A a0c A3141 c3142 0) (by kernel_rfl) (fun u_ => ?_)
                    refine w_loop (p := [1, 1, 1, 1, 0, 1, 0, 0, 1, 0, 0, 0, 1, 0]) (p0 := [1, 1, 1, 1, 0, 1, 0, 0, 1, 0, 0, 0, 1, 0, 0]) K (by kernel_rfl) ?_
                    refine dowelbook_FreeInts_17_3.l6.ok K a0A a0c a0_0A a0_0c a0_0 a0_1A a0_1c a0_1 a0_2A a0_2c a0_2 w r A3141 c3142 A1659 x1658 c1660 x1657 A2317 x2316 c2318 x2315 A3052 x3051 c3053 x3050 x980 x1074 x1168 (fun a w' h_ => q_in_r (q_then_r (q_in_r (q_then_r (q_then_r (q_in_r (q_then_r (HR a w' h_)))))))) ?_ K 0 u_ w3137 k3153 ho3154 ho3155 ho3156 ho3157 ho3139 hd3159 hd3160 hd3161 n3090 n3091 n3092 n3145 n3096 n3097 n3146 n3098 n3147 n3148 n3102 n3104 n3105 n3150 n3106 n3108 n3109 n3151 n3110 n3112 n3113 n3152 H
                    intro u3378 w3376 k3377 ho3414 ho3415 ho3416 ho3417 ho3418 hd3429 hd3430 hd3431 n3419 n3420 n3421 n3422 n3423 n3424 n3425 n3426 n3427 n3428 n3432 n3433 n3434 n3435 n3436 n3437 n3438 n3439 n3440 n3441 n3442 n3443 H
                    try dsimp only at H
                    refine q_in_hit ?_
                    refine q_then ?_
                    refine w_seq (p := [1, 1, 1, 1, 0, 1, 0, 0, 1, 0, 0, 1]) (p0 := [1, 1, 1, 1, 0, 1, 0, 0, 1, 0, 0, 1, 0]) (p1 := [1, 1, 1, 1, 0, 1, 0, 0, 1, 0, 0, 1, 1]) (by kernel_rfl) ?_
                    refine w_region (p := [1, 1, 1, 1, 0, 1, 0, 0, 1, 0, 0, 1, 0]) (id := 29) (by kernel_rfl) ?_
                    refine r_vals 0 1 [.int .i64 0] (by kernel_rfl) (by kernel_rfl) ?_
                    refine r_fin 1 (by kernel_rfl) ?_
                    refine q_then ?_
                    refine w_block (p := [1, 1, 1, 1, 0, 1, 0, 0, 1, 0, 0, 1, 1]) (p0 := [1, 1, 1, 1, 0, 1, 0, 0, 1, 0, 0, 1, 1, 0]) (id := 12) (by kernel_rfl) ?_
                    refine w_into (dowelbook_FreeInts_17_3.F8 a0A a0c A3141 c3142 0) (by kernel_rfl) (fun u_ => ?_)
                    refine w_loop (p := [1, 1, 1, 1, 0, 1, 0, 0, 1, 0, 0, 1, 1, 0]) (p0 := [1, 1, 1, 1, 0, 1, 0, 0, 1, 0, 0, 1, 1, 0, 0]) K (by kernel_rfl) ?_
                    refine dowelbook_FreeInts_17_3.l8.ok K a0A a0c a0_0A a0_0c a0_0 a0_1A a0_1c a0_1 a0_2A a0_2c a0_2 w r A3141 c3142 A1659 x1658 c1660 A2317 x2316 c2318 A3052 x3051 c3053 x1657 x2315 x3050 x980 x1074 x1168 (fun a w' h_ => q_in_r (q_in_r (q_then_r (q_then_r (q_in_r (q_then_r (HR a w' h_))))))) ?_ K 0 u_ w3376 k3377 ho3414 ho3415 ho3416 ho3417 ho3418 hd3429 hd3430 hd3431 n3419 n3420 n3421 n3422 n3423 n3424 n3425 n3426 n3427 n3428 n3432 n3433 n3434 n3435 n3436 n3437 n3438 n3439 n3440 n3441 n3442 n3443 H
                    intro u3578 w3576 k3577 ho3614 ho3615 ho3616 ho3617 ho3618 hd3629 hd3630 hd3631 n3619 n3620 n3621 n3622 n3623 n3624 n3625 n3626 n3627 n3628 n3632 n3633 n3634 n3635 n3636 n3637 n3638 n3639 n3640 n3641 n3642 n3643 H
                    try dsimp only at H
                    refine q_in_hit ?_
                    refine q_in ?_
                    refine q_then ?_
                    refine w_region (p := [1, 1, 1, 1, 0, 1, 0, 0, 1, 1]) (id := 20) (by kernel_rfl) ?_
                    refine r_vals 0 3 [.int .i64 0, .int .i64 1, .int .i64 1] (by kernel_rfl) (by kernel_rfl) ?_
                    refine r_fin 3 (by kernel_rfl) ?_
                    refine q_then ?_
                    refine w_round (p0 := [1, 1, 1, 1, 0, 1, 0, 0]) 3 ?_
                    refine w_seq (p := [1, 1, 1, 1, 0, 1, 0, 0]) (p0 := [1, 1, 1, 1, 0, 1, 0, 0, 0]) (p1 := [1, 1, 1, 1, 0, 1, 0, 0, 1]) (by kernel_rfl) ?_
                    refine w_seq (p := [1, 1, 1, 1, 0, 1, 0, 0, 0]) (p0 := [1, 1, 1, 1, 0, 1, 0, 0, 0, 0]) (p1 := [1, 1, 1, 1, 0, 1, 0, 0, 0, 1]) (by kernel_rfl) ?_
                    refine w_region (p := [1, 1, 1, 1, 0, 1, 0, 0, 0, 0]) (id := 19) (by kernel_rfl) ?_
                    refine r_vals 0 4 [.int .i64 1, .slice a0A 3 a0c, .int .i64 3, .bool true] (by kernel_rfl) (by kernel_rfl) ?_
                    refine r_fin 4 (by kernel_rfl) ?_
                    refine q_then ?_
                    refine w_cond (p := [1, 1, 1, 1, 0, 1, 0, 0, 0, 1]) (p0 := [1, 1, 1, 1, 0, 1, 0, 0, 0, 1, 0]) (p1 := [1, 1, 1, 1, 0, 1, 0, 0, 0, 1, 1]) (c := (Operand.tmp 62)) (b := true) (by kernel_rfl) (by kernel_rfl) ?_ ?_
                    · intro _
                      refine w_skip (p := [1, 1, 1, 1, 0, 1, 0, 0, 0, 1, 0]) (by kernel_rfl) ?_
                      refine q_then ?_
                      refine w_seq (p := [1, 1, 1, 1, 0, 1, 0, 0, 1]) (p0 := [1, 1, 1, 1, 0, 1, 0, 0, 1, 0]) (p1 := [1, 1, 1, 1, 0, 1, 0, 0, 1, 1]) (by kernel_rfl) ?_
                      refine w_block (p := [1, 1, 1, 1, 0, 1, 0, 0, 1, 0]) (p0 := [1, 1, 1, 1, 0, 1, 0, 0, 1, 0, 0]) (id := 9) (by kernel_rfl) ?_
                      refine w_seq (p := [1, 1, 1, 1, 0, 1, 0, 0, 1, 0, 0]) (p0 := [1, 1, 1, 1, 0, 1, 0, 0, 1, 0, 0, 0]) (p1 := [1, 1, 1, 1, 0, 1, 0, 0, 1, 0, 0, 1]) (by kernel_rfl) ?_
                      refine w_seq (p := [1, 1, 1, 1, 0, 1, 0, 0, 1, 0, 0, 0]) (p0 := [1, 1, 1, 1, 0, 1, 0, 0, 1, 0, 0, 0, 0]) (p1 := [1, 1, 1, 1, 0, 1, 0, 0, 1, 0, 0, 0, 1]) (by kernel_rfl) ?_
                      refine w_region (p := [1, 1, 1, 1, 0, 1, 0, 0, 1, 0, 0, 0, 0]) (id := 21) (by kernel_rfl) ?_
                      refine r_vals 0 1 [.int .i64 0] (by kernel_rfl) (by kernel_rfl) ?_
                      refine r_fin 1 (by kernel_rfl) ?_
                      refine q_then ?_
                      refine w_block (p := [1, 1, 1, 1, 0, 1, 0, 0, 1, 0, 0, 0, 1]) (p0 := [1, 1, 1, 1, 0, 1, 0, 0, 1, 0, 0, 0, 1, 0]) (id := 10) (by kernel_rfl) ?_
                      refine w_into (dowelbook_FreeInts_17_3.F9 a0A a0c A3141 c3142 0) (by kernel_rfl) (fun u_ => ?_)
                      refine w_loop (p := [1, 1, 1, 1, 0, 1, 0, 0, 1, 0, 0, 0, 1, 0]) (p0 := [1, 1, 1, 1, 0, 1, 0, 0, 1, 0, 0, 0, 1, 0, 0]) K (by kernel_rfl) ?_
                      refine dowelbook_FreeInts_17_3.l9.ok K a0A a0c a0_0A a0_0c a0_0 a0_1A a0_1c a0_1 a0_2A a0_2c a0_2 w r A3141 c3142 A1659 x1658 c1660 A2317 x2316 c2318 A3052 x3051 c3053 x1657 x2315 x3050 x980 x1074 x1168 (fun a w' h_ => q_in_r (q_then_r (q_in_r (q_then_r (q_then_r (q_in_r (q_then_r (HR a w' h_)))))))) ?_ K 0 u_ w3576 k3577 ho3614 ho3615 ho3616 ho3617 ho3618 hd3629 hd3630 hd3631 n3619 n3620 n3621 n3622 n3623 n3624 n3625 n3626 n3627 n3628 n3632 n3633 n3634 n3635 n3636 n3637 n3638 n3639 n3640 n3641 n3642 n3643 H
                      intro u3860 w3858 k3859 ho3896 ho3897 ho3898 ho3899 ho3900 hd3911 hd3912 hd3913 n3901 n3902 n3903 n3904 n3905 n3906 n3907 n3908 n3909 n3910 n3914 n3915 n3916 n3917 n3918 n3919 n3920 n3921 n3922 n3923 n3924 n3925 H
                      try dsimp only at H
                      refine q_in_hit ?_
                      refine q_then ?_
                      refine w_seq (p := [1, 1, 1, 1, 0, 1, 0, 0, 1, 0, 0, 1]) (p0 := [1, 1, 1, 1, 0, 1, 0, 0, 1, 0, 0, 1, 0]) (p1 := [1, 1, 1, 1, 0, 1, 0, 0, 1, 0, 0, 1, 1]) (by kernel_rfl) ?_
                      refine w_region (p := [1, 1, 1, 1, 0, 1, 0, 0, 1, 0, 0, 1, 0]) (id := 29) (by kernel_rfl) ?_
                      refine r_vals 0 1 [.int .i64 0] (by kernel_rfl) (by kernel_rfl) ?_
                      refine r_fin 1 (by kernel_rfl) ?_
                      refine q_then ?_
                      refine w_block (p := [1, 1, 1, 1, 0, 1, 0, 0, 1, 0, 0, 1, 1]) (p0 := [1, 1, 1, 1, 0, 1, 0, 0, 1, 0, 0, 1, 1, 0]) (id := 12) (by kernel_rfl) ?_
                      refine w_into (dowelbook_FreeInts_17_3.F11 a0A a0c A3141 c3142 0) (by kernel_rfl) (fun u_ => ?_)
                      refine w_loop (p := [1, 1, 1, 1, 0, 1, 0, 0, 1, 0, 0, 1, 1, 0]) (p0 := [1, 1, 1, 1, 0, 1, 0, 0, 1, 0, 0, 1, 1, 0, 0]) K (by kernel_rfl) ?_
                      refine dowelbook_FreeInts_17_3.l11.ok K a0A a0c a0_0A a0_0c a0_0 a0_1A a0_1c a0_1 a0_2A a0_2c a0_2 w r A3141 c3142 A1659 x1658 c1660 A2317 x2316 c2318 A3052 x3051 c3053 x1657 x2315 x3050 x980 x1074 x1168 (fun a w' h_ => q_in_r (q_in_r (q_then_r (q_then_r (q_in_r (q_then_r (HR a w' h_))))))) ?_ K 0 u_ w3858 k3859 ho3896 ho3897 ho3898 ho3899 ho3900 hd3911 hd3912 hd3913 n3901 n3902 n3903 n3904 n3905 n3906 n3907 n3908 n3909 n3910 n3914 n3915 n3916 n3917 n3918 n3919 n3920 n3921 n3922 n3923 n3924 n3925 H
                      intro u4060 w4058 k4059 ho4096 ho4097 ho4098 ho4099 ho4100 hd4111 hd4112 hd4113 n4101 n4102 n4103 n4104 n4105 n4106 n4107 n4108 n4109 n4110 n4114 n4115 n4116 n4117 n4118 n4119 n4120 n4121 n4122 n4123 n4124 n4125 H
                      try dsimp only at H
                      refine q_in_hit ?_
                      refine q_in ?_
                      refine q_then ?_
                      refine w_region (p := [1, 1, 1, 1, 0, 1, 0, 0, 1, 1]) (id := 20) (by kernel_rfl) ?_
                      refine r_vals 0 3 [.int .i64 1, .int .i64 2, .int .i64 2] (by kernel_rfl) (by kernel_rfl) ?_
                      refine r_fin 3 (by kernel_rfl) ?_
                      refine q_then ?_
                      refine w_round (p0 := [1, 1, 1, 1, 0, 1, 0, 0]) 2 ?_
                      refine w_seq (p := [1, 1, 1, 1, 0, 1, 0, 0]) (p0 := [1, 1, 1, 1, 0, 1, 0, 0, 0]) (p1 := [1, 1, 1, 1, 0, 1, 0, 0, 1]) (by kernel_rfl) ?_
                      refine w_seq (p := [1, 1, 1, 1, 0, 1, 0, 0, 0]) (p0 := [1, 1, 1, 1, 0, 1, 0, 0, 0, 0]) (p1 := [1, 1, 1, 1, 0, 1, 0, 0, 0, 1]) (by kernel_rfl) ?_
                      refine w_region (p := [1, 1, 1, 1, 0, 1, 0, 0, 0, 0]) (id := 19) (by kernel_rfl) ?_
                      refine r_vals 0 4 [.int .i64 2, .slice a0A 3 a0c, .int .i64 3, .bool true] (by kernel_rfl) (by kernel_rfl) ?_
                      refine r_fin 4 (by kernel_rfl) ?_
                      refine q_then ?_
                      refine w_cond (p := [1, 1, 1, 1, 0, 1, 0, 0, 0, 1]) (p0 := [1, 1, 1, 1, 0, 1, 0, 0, 0, 1, 0]) (p1 := [1, 1, 1, 1, 0, 1, 0, 0, 0, 1, 1]) (c := (Operand.tmp 62)) (b := true) (by kernel_rfl) (by kernel_rfl) ?_ ?_
                      · intro _
                        refine w_skip (p := [1, 1, 1, 1, 0, 1, 0, 0, 0, 1, 0]) (by kernel_rfl) ?_
                        refine q_then ?_
                        refine w_seq (p := [1, 1, 1, 1, 0, 1, 0, 0, 1]) (p0 := [1, 1, 1, 1, 0, 1, 0, 0, 1, 0]) (p1 := [1, 1, 1, 1, 0, 1, 0, 0, 1, 1]) (by kernel_rfl) ?_
                        refine w_block (p := [1, 1, 1, 1, 0, 1, 0, 0, 1, 0]) (p0 := [1, 1, 1, 1, 0, 1, 0, 0, 1, 0, 0]) (id := 9) (by kernel_rfl) ?_
                        refine w_seq (p := [1, 1, 1, 1, 0, 1, 0, 0, 1, 0, 0]) (p0 := [1, 1, 1, 1, 0, 1, 0, 0, 1, 0, 0, 0]) (p1 := [1, 1, 1, 1, 0, 1, 0, 0, 1, 0, 0, 1]) (by kernel_rfl) ?_
                        refine w_seq (p := [1, 1, 1, 1, 0, 1, 0, 0, 1, 0, 0, 0]) (p0 := [1, 1, 1, 1, 0, 1, 0, 0, 1, 0, 0, 0, 0]) (p1 := [1, 1, 1, 1, 0, 1, 0, 0, 1, 0, 0, 0, 1]) (by kernel_rfl) ?_
                        refine w_region (p := [1, 1, 1, 1, 0, 1, 0, 0, 1, 0, 0, 0, 0]) (id := 21) (by kernel_rfl) ?_
                        refine r_vals 0 1 [.int .i64 0] (by kernel_rfl) (by kernel_rfl) ?_
                        refine r_fin 1 (by kernel_rfl) ?_
                        refine q_then ?_
                        refine w_block (p := [1, 1, 1, 1, 0, 1, 0, 0, 1, 0, 0, 0, 1]) (p0 := [1, 1, 1, 1, 0, 1, 0, 0, 1, 0, 0, 0, 1, 0]) (id := 10) (by kernel_rfl) ?_
                        refine w_into (dowelbook_FreeInts_17_3.F12 a0A a0c A3141 c3142 0) (by kernel_rfl) (fun u_ => ?_)
                        refine w_loop (p := [1, 1, 1, 1, 0, 1, 0, 0, 1, 0, 0, 0, 1, 0]) (p0 := [1, 1, 1, 1, 0, 1, 0, 0, 1, 0, 0, 0, 1, 0, 0]) K (by kernel_rfl) ?_
                        refine dowelbook_FreeInts_17_3.l12.ok K a0A a0c a0_0A a0_0c a0_0 a0_1A a0_1c a0_1 a0_2A a0_2c a0_2 w r A3141 c3142 A1659 x1658 c1660 A2317 x2316 c2318 A3052 x3051 c3053 x1657 x2315 x3050 x980 x1074 x1168 (fun a w' h_ => q_in_r (q_then_r (q_in_r (q_then_r (q_then_r (q_in_r (q_then_r (HR a w' h_)))))))) ?_ K 0 u_ w4058 k4059 ho4096 ho4097 ho4098 ho4099 ho4100 hd4111 hd4112 hd4113 n4101 n4102 n4103 n4104 n4105 n4106 n4107 n4108 n4109 n4110 n4114 n4115 n4116 n4117 n4118 n4119 n4120 n4121 n4122 n4123 n4124 n4125 H
                        intro u4342 w4340 k4341 ho4378 ho4379 ho4380 ho4381 ho4382 hd4393 hd4394 hd4395 n4383 n4384 n4385 n4386 n4387 n4388 n4389 n4390 n4391 n4392 n4396 n4397 n4398 n4399 n4400 n4401 n4402 n4403 n4404 n4405 n4406 n4407 H
                        try dsimp only at H
                        refine q_in_hit ?_
                        refine q_then ?_
                        refine w_seq (p := [1, 1, 1, 1, 0, 1, 0, 0, 1, 0, 0, 1]) (p0 := [1, 1, 1, 1, 0, 1, 0, 0, 1, 0, 0, 1, 0]) (p1 := [1, 1, 1, 1, 0, 1, 0, 0, 1, 0, 0, 1, 1]) (by kernel_rfl) ?_
                        refine w_region (p := [1, 1, 1, 1, 0, 1, 0, 0, 1, 0, 0, 1, 0]) (id := 29) (by kernel_rfl) ?_
                        refine r_vals 0 1 [.int .i64 0] (by kernel_rfl) (by kernel_rfl) ?_
                        refine r_fin 1 (by kernel_rfl) ?_
                        refine q_then ?_
                        refine w_block (p := [1, 1, 1, 1, 0, 1, 0, 0, 1, 0, 0, 1, 1]) (p0 := [1, 1, 1, 1, 0, 1, 0, 0, 1, 0, 0, 1, 1, 0]) (id := 12) (by kernel_rfl) ?_
                        refine w_into (dowelbook_FreeInts_17_3.F14 a0A a0c A3141 c3142 0) (by kernel_rfl) (fun u_ => ?_)
                        refine w_loop (p := [1, 1, 1, 1, 0, 1, 0, 0, 1, 0, 0, 1, 1, 0]) (p0 := [1, 1, 1, 1, 0, 1, 0, 0, 1, 0, 0, 1, 1, 0, 0]) K (by kernel_rfl) ?_
                        refine dowelbook_FreeInts_17_3.l14.ok K a0A a0c a0_0A a0_0c a0_0 a0_1A a0_1c a0_1 a0_2A a0_2c a0_2 w r A3141 c3142 A1659 x1658 c1660 A2317 x2316 c2318 A3052 x3051 c3053 x1657 x2315 x3050 x980 x1074 x1168 (fun a w' h_ => q_in_r (q_in_r (q_then_r (q_then_r (q_in_r (q_then_r (HR a w' h_))))))) ?_ K 0 u_ w4340 k4341 ho4378 ho4379 ho4380 ho4381 ho4382 hd4393 hd4394 hd4395 n4383 n4384 n4385 n4386 n4387 n4388 n4389 n4390 n4391 n4392 n4396 n4397 n4398 n4399 n4400 n4401 n4402 n4403 n4404 n4405 n4406 n4407 H
                        intro u4542 w4540 k4541 ho4578 ho4579 ho4580 ho4581 ho4582 hd4593 hd4594 hd4595 n4583 n4584 n4585 n4586 n4587 n4588 n4589 n4590 n4591 n4592 n4596 n4597 n4598 n4599 n4600 n4601 n4602 n4603 n4604 n4605 n4606 n4607 H
                        try dsimp only at H
                        refine q_in_hit ?_
                        refine q_in ?_
                        refine q_then ?_
                        refine w_region (p := [1, 1, 1, 1, 0, 1, 0, 0, 1, 1]) (id := 20) (by kernel_rfl) ?_
                        refine r_vals 0 3 [.int .i64 2, .int .i64 3, .int .i64 3] (by kernel_rfl) (by kernel_rfl) ?_
                        refine r_fin 3 (by kernel_rfl) ?_
                        refine q_then ?_
                        refine w_round (p0 := [1, 1, 1, 1, 0, 1, 0, 0]) 1 ?_
                        refine w_seq (p := [1, 1, 1, 1, 0, 1, 0, 0]) (p0 := [1, 1, 1, 1, 0, 1, 0, 0, 0]) (p1 := [1, 1, 1, 1, 0, 1, 0, 0, 1]) (by kernel_rfl) ?_
                        refine w_seq (p := [1, 1, 1, 1, 0, 1, 0, 0, 0]) (p0 := [1, 1, 1, 1, 0, 1, 0, 0, 0, 0]) (p1 := [1, 1, 1, 1, 0, 1, 0, 0, 0, 1]) (by kernel_rfl) ?_
                        refine w_region (p := [1, 1, 1, 1, 0, 1, 0, 0, 0, 0]) (id := 19) (by kernel_rfl) ?_
                        refine r_vals 0 4 [.int .i64 3, .slice a0A 3 a0c, .int .i64 3, .bool false] (by kernel_rfl) (by kernel_rfl) ?_
                        refine r_fin 4 (by kernel_rfl) ?_
                        refine q_then ?_
                        refine w_cond (p := [1, 1, 1, 1, 0, 1, 0, 0, 0, 1]) (p0 := [1, 1, 1, 1, 0, 1, 0, 0, 0, 1, 0]) (p1 := [1, 1, 1, 1, 0, 1, 0, 0, 0, 1, 1]) (c := (Operand.tmp 62)) (b := false) (by kernel_rfl) (by kernel_rfl) ?_ ?_
                        · intro h_
                          cases h_
                        · intro _
                          refine w_exit (p := [1, 1, 1, 1, 0, 1, 0, 0, 0, 1, 1]) (id := 8) (by kernel_rfl) ?_
                          refine q_then_x ?_
                          refine q_then_x ?_
                          refine q_in_hit ?_
                          refine q_then ?_
                          refine w_seq (p := [1, 1, 1, 1, 1]) (p0 := [1, 1, 1, 1, 1, 0]) (p1 := [1, 1, 1, 1, 1, 1]) (by kernel_rfl) ?_
                          refine w_region (p := [1, 1, 1, 1, 1, 0]) (id := 34) (by kernel_rfl) ?_
                          refine r_vals 0 1 [.bool true] (by kernel_rfl) (by kernel_rfl) ?_
                          refine r_fin 1 (by kernel_rfl) ?_
                          refine q_then ?_
                          refine w_ret (p := [1, 1, 1, 1, 1, 1]) (by kernel_rfl) ?_
                          obtain rfl := Option.some.inj H
                          refine HR _ _ (body_ret (vs := [.bool true]) (rv_tmp (by kernel_rfl) rfl) rfl ?_)
                          exact ⟨rfl, k4541⟩
                      · intro h_
                        cases h_
                    · intro h_
                      cases h_
                  · intro h_
                    cases h_
              · intro h_
                cases h_
            · intro h_
              cases h_
          · intro h_
            cases h_
      · intro h_
        cases h_
    · intro h_
      cases h_
  · intro h_
    cases h_
/-! ### dowel/dowellaw24.ActionParts -/
def dowellaw24_ActionParts_3.j0F (x4779 : Bool) (u_ : Nat → Value) : Array Value := #[u_ 0, u_ 1, u_ 2, u_ 3, u_ 4, u_ 5, u_ 6, u_ 7, u_ 8, u_ 9, u_ 10, u_ 11, u_ 12, u_ 13, u_ 14, u_ 15, u_ 16, u_ 17, u_ 18, u_ 19, u_ 20, u_ 21, u_ 22, u_ 23, u_ 24, u_ 25, u_ 26, u_ 27, u_ 28, u_ 29, u_ 30, u_ 31, u_ 32, u_ 33, u_ 34, u_ 35, u_ 36, u_ 37, u_ 38, u_ 39, u_ 40, u_ 41, u_ 42, u_ 43, u_ 44, u_ 45, u_ 46, u_ 47, u_ 48, u_ 49, u_ 50, u_ 51, u_ 52, u_ 53, u_ 54, u_ 55, u_ 56, u_ 57, u_ 58, u_ 59, .bool x4779, u_ 61, u_ 62, u_ 63, u_ 64, u_ 65, u_ 66]
def dowellaw24_ActionParts_3.j0 (K : Nat) (x4779 : Bool) : Option (Bool) := if x4779 = true then (some false) else ((action_Parts_13.f K ([(⟨4, 0, (⟨#[]⟩ : ByteArray), (⟨#[]⟩ : ByteArray), z30⟩ : S32), (⟨7, 1, (⟨#[105, 110, 116]⟩ : ByteArray), (⟨#[]⟩ : ByteArray), z30⟩ : S32)] : List S32) 1).bind fun t4788 => ((dowelbook_Ints_15.f K t4788 ([0] : List Int)).bind fun t4812 => (some t4812)))
def dowellaw24_ActionParts_3.f (K : Nat) (a0 : List S32) (a1 : Int) (a2 : Int) : Option (Bool) := if (a0.length : Int) > 1048576 then (some true) else ((dowelbook_LendActs_12.f K a0).bind fun t4609 => ((action_Parts_13.f K (t4609.all.take t4609.n) a1).bind fun t4621 => ((action_Parts_13.f K (t4609.all.take t4609.n) a2).bind fun t4634 => ((action_Parts_13.f K (t4609.all.take t4609.n) a1).bind fun t4649 => ((dowelref24_Parts_14.f K a0 a1).bind fun t4666 => ((dowelbook_Ints_15.f K t4621 t4666).bind fun t4685 => (if ¬ (t4685 = true) then (dowellaw24_ActionParts_3.j0 K true) else ((dowelref24_Parts_14.f K a0 a2).bind fun t4696 => ((dowelbook_Ints_15.f K t4634 t4696).bind fun t4717 => (if ¬ (t4717 = true) then (dowellaw24_ActionParts_3.j0 K true) else ((dowelbook_Ints_15.f K t4649 t4666).bind fun t4729 => (if ¬ (t4729 = true) then (dowellaw24_ActionParts_3.j0 K true) else ((dowelbook_KeptActs_16.f K t4609.all t4609.n a0).bind fun t4741 => (if ¬ (t4741 = true) then (dowellaw24_ActionParts_3.j0 K true) else ((dowelbook_FreeInts_17_3.f K t4621 t4634 t4649).bind fun t4772 => (dowellaw24_ActionParts_3.j0 K (!t4772)))))))))))))))))
def dowellaw24_ActionParts_3.R (r : Bool) (w : World) : Ending → World → Prop := fun e w' => e = .returned (.bool r) ∧ Kp No w w'
set_option maxRecDepth 20000 in
set_option maxHeartbeats 4000000 in
theorem dowellaw24_ActionParts_3.j0.ok (K : Nat) (a0A : Option Addr) (a0c : Nat) (a0 : List S32) (a1 : Int) (a2 : Int) (w : World) (a0r : Rd No w a0A ((K32 33).cells a0)) (a0l : a0.length ≤ a0c) (r : Bool) {Q : Exit → Act → World → Prop}  (HR : ∀ a w', bodyPost Try.prog Try.f3 (dowellaw24_ActionParts_3.R r w) .ret a w' → Q .ret a w')  (x4779 : Bool) (u4778 : Nat → Value) (w4776 : World) (k4777 : Kp No w w4776)  (H : dowellaw24_ActionParts_3.j0 K x4779 = some r) : (cd Try.f3 [1, 1, 1, 1, 1, 0, 1]).wp Try.prog (Exit.then (fun a w => (cd Try.f3 [1, 1, 1, 1, 1, 1]).wp Try.prog Q a w) Q) ⟨dowellaw24_ActionParts_3.j0F x4779 u4778, []⟩ w4776 := by
  unfold dowellaw24_ActionParts_3.j0 at H
  refine w_cond (p := [1, 1, 1, 1, 1, 0, 1]) (p0 := [1, 1, 1, 1, 1, 0, 1, 0]) (p1 := [1, 1, 1, 1, 1, 0, 1, 1]) (c := (Operand.tmp 60)) (b := x4779) (by kernel_rfl) (by kernel_rfl) ?_ ?_
  · intro h_
    have h4780 : x4779 = true := h_
    clear h_
    rw [if_pos h4780] at H
    refine w_seq (p := [1, 1, 1, 1, 1, 0, 1, 0]) (p0 := [1, 1, 1, 1, 1, 0, 1, 0, 0]) (p1 := [1, 1, 1, 1, 1, 0, 1, 0, 1]) (by kernel_rfl) ?_
    refine w_region (p := [1, 1, 1, 1, 1, 0, 1, 0, 0]) (id := 7) (by kernel_rfl) ?_
    refine r_vals 0 1 [.bool false] (by kernel_rfl) (by kernel_rfl) ?_
    refine r_fin 1 (by kernel_rfl) ?_
    refine q_then ?_
    refine w_ret (p := [1, 1, 1, 1, 1, 0, 1, 0, 1]) (by kernel_rfl) ?_
    refine q_then_r ?_
    obtain rfl := Option.some.inj H
    refine HR _ _ (body_ret (vs := [.bool false]) (rv_tmp (by kernel_rfl) rfl) rfl ?_)
    exact ⟨rfl, k4777⟩
  · intro h_
    have h4780 : ¬ (x4779 = true) := by rw [h_]; decide
    clear h_
    rw [if_neg h4780] at H
    refine w_skip (p := [1, 1, 1, 1, 1, 0, 1, 1]) (by kernel_rfl) ?_
    refine q_then ?_
    refine w_seq (p := [1, 1, 1, 1, 1, 1]) (p0 := [1, 1, 1, 1, 1, 1, 0]) (p1 := [1, 1, 1, 1, 1, 1, 1]) (by kernel_rfl) ?_
    refine w_region (p := [1, 1, 1, 1, 1, 1, 0]) (id := 8) (by kernel_rfl) ?_
    refine r_vals 0 2 [.agg #[.int .i64 4, .int .i64 0, .string (⟨#[]⟩ : ByteArray), .string (⟨#[]⟩ : ByteArray), .int .i64 0, .int .i64 0], .agg #[.int .i64 7, .int .i64 1, .string (⟨#[105, 110, 116]⟩ : ByteArray), .string (⟨#[]⟩ : ByteArray), .int .i64 0, .int .i64 0]] (by kernel_rfl) (by kernel_rfl) ?_
    refine r_do 2 (by kernel_rfl) (ow_lit (K := (K32 33)) (w0 := w) (T := 22) (n := 2) (e := 33) (ps := #[(0, (Operand.tmp 61)), (1, (Operand.tmp 62))]) (cs := #[.int .i64 4, .int .i64 0, .string (⟨#[]⟩ : ByteArray), .string (⟨#[]⟩ : ByteArray), .int .i64 0, .int .i64 0, .int .i64 7, .int .i64 1, .string (⟨#[105, 110, 116]⟩ : ByteArray), .string (⟨#[]⟩ : ByteArray), .int .i64 0, .int .i64 0]) (parts := [(0, .agg #[.int .i64 4, .int .i64 0, .string (⟨#[]⟩ : ByteArray), .string (⟨#[]⟩ : ByteArray), .int .i64 0, .int .i64 0]), (1, .agg #[.int .i64 7, .int .i64 1, .string (⟨#[105, 110, 116]⟩ : ByteArray), .string (⟨#[]⟩ : ByteArray), .int .i64 0, .int .i64 0])]) ([(⟨4, 0, (⟨#[]⟩ : ByteArray), (⟨#[]⟩ : ByteArray), z30⟩ : S32), (⟨7, 1, (⟨#[105, 110, 116]⟩ : ByteArray), (⟨#[]⟩ : ByteArray), z30⟩ : S32)] : List S32) (by kernel_rfl) (by kernel_rfl) (by kernel_rfl) (by kernel_rfl) rfl rfl (by kernel_rfl) k4777 ?_) 
    intro b4784 w4781 e4785 ho4783 k4782
    clear e4785
    have k4787 := Kp.trans k4777 k4782 (fun _ h => h.elim)
    obtain ⟨t4788, ht4789, H⟩ := Option.bind_eq_some_iff.1 H
    refine r_do 3 (by kernel_rfl) (og_call (g := 13) (av := #[.slice (some ⟨b4784, 0, none⟩) 2 2, .int .i64 1]) (by kernel_rfl) ?_) 
    refine (action_Parts_13.ok K (some ⟨b4784, 0, none⟩) 2 ([(⟨4, 0, (⟨#[]⟩ : ByteArray), (⟨#[]⟩ : ByteArray), z30⟩ : S32), (⟨7, 1, (⟨#[105, 110, 116]⟩ : ByteArray), (⟨#[]⟩ : ByteArray), z30⟩ : S32)] : List S32) 1 2 w4781 (Ow.rdNo ho4783) (Ow.cap ho4783) (Ow.len ho4783) t4788 ht4789).mono ?_
    rintro e w4790 ⟨A4793, n4796, c4794, rfl, k4791, ho4797⟩
    obtain rfl := ho4797.len
    refine ⟨_, rfl, ?_⟩
    have n4798 := Ow.dj_call ho4783 ho4797
    have ho4795 := Ow.base ho4797 k4787
    have k4799 := Kp.trans k4787 k4791 (fun _ h => h.elim)
    have ho4800 := Ow.kpNo ho4783 k4791
    refine r_do 4 (by kernel_rfl) (ow_lit (K := (kInt .i64 3)) (w0 := w) (T := 24) (n := 1) (e := 3) (ps := #[(0, (Operand.const (Value.int IntKind.i64 0)))]) (cs := #[.int .i64 0]) (parts := [(0, .int .i64 0)]) ([0] : List Int) (by kernel_rfl) (by kernel_rfl) (by kernel_rfl) (by kernel_rfl) rfl rfl (by kernel_rfl) k4799 ?_) 
    intro b4804 w4801 e4805 ho4803 k4802
    have n4807 := Ow.dj_row ho4800 e4805
    have n4808 := Ow.dj_row ho4795 e4805
    clear e4805
    have k4809 := Kp.trans k4799 k4802 (fun _ h => h.elim)
    have ho4810 := Ow.kpNo ho4800 k4802
    have ho4811 := Ow.kpNo ho4795 k4802
    obtain ⟨t4812, ht4813, H⟩ := Option.bind_eq_some_iff.1 H
    refine r_do 5 (by kernel_rfl) (og_call (g := 15) (av := #[.slice A4793 t4788.length c4794, .slice (some ⟨b4804, 0, none⟩) 1 1]) (by kernel_rfl) ?_) 
    refine (dowelbook_Ints_15.ok K A4793 c4794 t4788 (some ⟨b4804, 0, none⟩) 1 ([0] : List Int) t4788.length 1 w4801 (Ow.rdNo ho4811) (Ow.cap ho4811) (Ow.rdNo ho4803) (Ow.cap ho4803) (Ow.len ho4811) (Ow.len ho4803) t4812 ht4813).mono ?_
    rintro e w4814 ⟨rfl, k4815⟩
    refine ⟨_, rfl, ?_⟩
    have k4816 := Kp.trans k4809 k4815 (fun _ h => h.elim)
    have ho4817 := Ow.kpNo ho4810 k4815
    have ho4818 := Ow.kpNo ho4811 k4815
    have ho4819 := Ow.kpNo ho4803 k4815
    refine r_vals 6 7 [.bool t4812] (by kernel_rfl) (by kernel_rfl) ?_
    refine r_fin 7 (by kernel_rfl) ?_
    refine q_then ?_
    refine w_ret (p := [1, 1, 1, 1, 1, 1, 1]) (by kernel_rfl) ?_
    obtain rfl := Option.some.inj H
    refine HR _ _ (body_ret (vs := [.bool t4812]) (rv_tmp (by kernel_rfl) rfl) rfl ?_)
    exact ⟨rfl, k4816⟩
set_option maxRecDepth 20000 in
set_option maxHeartbeats 4000000 in
theorem dowellaw24_ActionParts_3.ok (K : Nat) (a0A : Option Addr) (a0c : Nat) (a0 : List S32) (a1 : Int) (a2 : Int) (a0n : Nat) (w : World) (a0r : Rd No w a0A ((K32 33).cells a0)) (a0l : a0n ≤ a0c) (a0e : a0.length = a0n) (r : Bool) (H : dowellaw24_ActionParts_3.f K a0 a1 a2 = some r) : Calls Try.prog 3 #[.slice a0A a0n a0c, .int .i64 a1, .int .i64 a2] w (dowellaw24_ActionParts_3.R r w) := by
  subst a0e
  refine calls_cd (t := #[.slice a0A a0.length a0c, .int .i64 a1, .int .i64 a2, undef, undef, undef, undef, undef, undef, undef, undef, undef, undef, undef, undef, undef, undef, undef, undef, undef, undef, undef, undef, undef, undef, undef, undef, undef, undef, undef, undef, undef, undef, undef, undef, undef, undef, undef, undef, undef, undef, undef, undef, undef, undef, undef, undef, undef, undef, undef, undef, undef, undef, undef, undef, undef, undef, undef, undef, undef, undef, undef, undef, undef, undef, undef, undef]) Try.func3 (by kernel_rfl) (by kernel_rfl) ?_
  unfold dowellaw24_ActionParts_3.f at H
  have HR : ∀ a w', bodyPost Try.prog Try.f3 (dowellaw24_ActionParts_3.R r w) .ret a w' → bodyPost Try.prog Try.f3 (dowellaw24_ActionParts_3.R r w) .ret a w' := fun _ _ h => h
  refine w_seq (p := []) (p0 := [0]) (p1 := [1]) (by kernel_rfl) ?_
  refine w_region (p := [0]) (id := 0) (by kernel_rfl) ?_
  refine r_vals 0 1 [.bool false] (by kernel_rfl) (by kernel_rfl) ?_
  refine r_fin 1 (by kernel_rfl) ?_
  refine q_then ?_
  refine w_seq (p := [1]) (p0 := [1, 0]) (p1 := [1, 1]) (by kernel_rfl) ?_
  refine w_seq (p := [1, 0]) (p0 := [1, 0, 0]) (p1 := [1, 0, 1]) (by kernel_rfl) ?_
  refine w_region (p := [1, 0, 0]) (id := 1) (by kernel_rfl) ?_
  refine r_vals 0 3 [.slice a0A a0.length a0c, .int .i64 (a0.length : Int), .bool (decide ((a0.length : Int) > 1048576))] (by kernel_rfl) (by kernel_rfl) ?_
  refine r_fin 3 (by kernel_rfl) ?_
  refine q_then ?_
  refine w_cond (p := [1, 0, 1]) (p0 := [1, 0, 1, 0]) (p1 := [1, 0, 1, 1]) (c := (Operand.tmp 14)) (b := decide ((a0.length : Int) > 1048576)) (by kernel_rfl) (by kernel_rfl) ?_ ?_
  · intro h_
    have h4608 : (a0.length : Int) > 1048576 := by simpa using h_
    clear h_
    rw [if_pos h4608] at H
    refine w_seq (p := [1, 0, 1, 0]) (p0 := [1, 0, 1, 0, 0]) (p1 := [1, 0, 1, 0, 1]) (by kernel_rfl) ?_
    refine w_region (p := [1, 0, 1, 0, 0]) (id := 2) (by kernel_rfl) ?_
    refine r_vals 0 1 [.bool true] (by kernel_rfl) (by kernel_rfl) ?_
    refine r_fin 1 (by kernel_rfl) ?_
    refine q_then ?_
    refine w_ret (p := [1, 0, 1, 0, 1]) (by kernel_rfl) ?_
    refine q_then_r ?_
    obtain rfl := Option.some.inj H
    refine HR _ _ (body_ret (vs := [.bool true]) (rv_tmp (by kernel_rfl) rfl) rfl ?_)
    exact ⟨rfl, (Kp.refl No w)⟩
  · intro h_
    have h4608 : ¬ ((a0.length : Int) > 1048576) := by simpa using h_
    clear h_
    rw [if_neg h4608] at H
    refine w_skip (p := [1, 0, 1, 1]) (by kernel_rfl) ?_
    refine q_then ?_
    refine w_seq (p := [1, 1]) (p0 := [1, 1, 0]) (p1 := [1, 1, 1]) (by kernel_rfl) ?_
    refine w_region (p := [1, 1, 0]) (id := 3) (by kernel_rfl) ?_
    refine r_vals 0 1 [.slice a0A a0.length a0c] (by kernel_rfl) (by kernel_rfl) ?_
    obtain ⟨t4609, ht4610, H⟩ := Option.bind_eq_some_iff.1 H
    refine r_do 1 (by kernel_rfl) (og_call (g := 12) (av := #[.slice a0A a0.length a0c]) (by kernel_rfl) ?_) 
    refine (dowelbook_LendActs_12.ok K a0A a0c a0 a0.length w (Rd.kp a0r (Kp.refl No w) (fun _ _ h => h)) a0l rfl t4609 ht4610).mono ?_
    rintro e w4611 ⟨A4615, n4618, c4616, rfl, k4612, ho4619, hn4614⟩
    obtain rfl := ho4619.len
    refine ⟨_, rfl, ?_⟩
    have ho4617 := Ow.base ho4619 (Kp.refl No w)
    have k4620 := Kp.trans (Kp.refl No w) k4612 (fun _ h => h.elim)
    refine r_vals 2 3 [.slice A4615 t4609.n c4616] (by kernel_rfl) (by kernel_rfl) ?_
    refine r_fin 3 (by kernel_rfl) ?_
    refine q_then ?_
    refine w_seq (p := [1, 1, 1]) (p0 := [1, 1, 1, 0]) (p1 := [1, 1, 1, 1]) (by kernel_rfl) ?_
    refine w_region (p := [1, 1, 1, 0]) (id := 4) (by kernel_rfl) ?_
    refine r_vals 0 2 [.slice A4615 t4609.n c4616, .int .i64 a1] (by kernel_rfl) (by kernel_rfl) ?_
    obtain ⟨t4621, ht4622, H⟩ := Option.bind_eq_some_iff.1 H
    refine r_do 2 (by kernel_rfl) (og_call (g := 13) (av := #[.slice A4615 t4609.n c4616, .int .i64 a1]) (by kernel_rfl) ?_) 
    refine (action_Parts_13.ok K A4615 c4616 (t4609.all.take t4609.n) a1 t4609.n w4611 (Ow.rdNo (Ow.takeN ho4617 t4609.n hn4614)) (Ow.cap (Ow.takeN ho4617 t4609.n hn4614)) (Ow.len (Ow.takeN ho4617 t4609.n hn4614)) t4621 ht4622).mono ?_
    rintro e w4623 ⟨A4626, n4629, c4627, rfl, k4624, ho4630⟩
    obtain rfl := ho4630.len
    refine ⟨_, rfl, ?_⟩
    have n4631 := Ow.dj_call ho4617 ho4630
    have ho4628 := Ow.base ho4630 k4620
    have k4632 := Kp.trans k4620 k4624 (fun _ h => h.elim)
    have ho4633 := Ow.kpNo ho4617 k4624
    refine r_vals 3 5 [.slice A4615 t4609.n c4616, .int .i64 a2] (by kernel_rfl) (by kernel_rfl) ?_
    obtain ⟨t4634, ht4635, H⟩ := Option.bind_eq_some_iff.1 H
    refine r_do 5 (by kernel_rfl) (og_call (g := 13) (av := #[.slice A4615 t4609.n c4616, .int .i64 a2]) (by kernel_rfl) ?_) 
    refine (action_Parts_13.ok K A4615 c4616 (t4609.all.take t4609.n) a2 t4609.n w4623 (Ow.rdNo (Ow.takeN ho4633 t4609.n hn4614)) (Ow.cap (Ow.takeN ho4633 t4609.n hn4614)) (Ow.len (Ow.takeN ho4633 t4609.n hn4614)) t4634 ht4635).mono ?_
    rintro e w4636 ⟨A4639, n4642, c4640, rfl, k4637, ho4643⟩
    obtain rfl := ho4643.len
    refine ⟨_, rfl, ?_⟩
    have n4644 := Ow.dj_call ho4633 ho4643
    have n4645 := Ow.dj_call ho4628 ho4643
    have ho4641 := Ow.base ho4643 k4632
    have k4646 := Kp.trans k4632 k4637 (fun _ h => h.elim)
    have ho4647 := Ow.kpNo ho4633 k4637
    have ho4648 := Ow.kpNo ho4628 k4637
    refine r_vals 6 8 [.slice A4615 t4609.n c4616, .int .i64 a1] (by kernel_rfl) (by kernel_rfl) ?_
    obtain ⟨t4649, ht4650, H⟩ := Option.bind_eq_some_iff.1 H
    refine r_do 8 (by kernel_rfl) (og_call (g := 13) (av := #[.slice A4615 t4609.n c4616, .int .i64 a1]) (by kernel_rfl) ?_) 
    refine (action_Parts_13.ok K A4615 c4616 (t4609.all.take t4609.n) a1 t4609.n w4636 (Ow.rdNo (Ow.takeN ho4647 t4609.n hn4614)) (Ow.cap (Ow.takeN ho4647 t4609.n hn4614)) (Ow.len (Ow.takeN ho4647 t4609.n hn4614)) t4649 ht4650).mono ?_
    rintro e w4651 ⟨A4654, n4657, c4655, rfl, k4652, ho4658⟩
    obtain rfl := ho4658.len
    refine ⟨_, rfl, ?_⟩
    have n4659 := Ow.dj_call ho4647 ho4658
    have n4660 := Ow.dj_call ho4648 ho4658
    have n4661 := Ow.dj_call ho4641 ho4658
    have ho4656 := Ow.base ho4658 k4646
    have k4662 := Kp.trans k4646 k4652 (fun _ h => h.elim)
    have ho4663 := Ow.kpNo ho4647 k4652
    have ho4664 := Ow.kpNo ho4648 k4652
    have ho4665 := Ow.kpNo ho4641 k4652
    refine r_vals 9 12 [.slice A4626 t4621.length c4627, .slice A4639 t4634.length c4640, .slice A4654 t4649.length c4655] (by kernel_rfl) (by kernel_rfl) ?_
    refine r_fin 12 (by kernel_rfl) ?_
    refine q_then ?_
    refine w_seq (p := [1, 1, 1, 1]) (p0 := [1, 1, 1, 1, 0]) (p1 := [1, 1, 1, 1, 1]) (by kernel_rfl) ?_
    refine w_region (p := [1, 1, 1, 1, 0]) (id := 5) (by kernel_rfl) ?_
    refine r_vals 0 2 [.slice a0A a0.length a0c, .int .i64 a1] (by kernel_rfl) (by kernel_rfl) ?_
    obtain ⟨t4666, ht4667, H⟩ := Option.bind_eq_some_iff.1 H
    refine r_do 2 (by kernel_rfl) (og_call (g := 14) (av := #[.slice a0A a0.length a0c, .int .i64 a1]) (by kernel_rfl) ?_) 
    refine (dowelref24_Parts_14.ok K a0A a0c a0 a1 a0.length w4651 (Rd.kp a0r k4662 (fun _ _ h => h)) a0l rfl t4666 ht4667).mono ?_
    rintro e w4668 ⟨A4671, n4674, c4672, rfl, k4669, ho4675⟩
    obtain rfl := ho4675.len
    refine ⟨_, rfl, ?_⟩
    have n4676 := Ow.dj_call ho4663 ho4675
    have n4677 := Ow.dj_call ho4664 ho4675
    have n4678 := Ow.dj_call ho4665 ho4675
    have n4679 := Ow.dj_call ho4656 ho4675
    have ho4673 := Ow.base ho4675 k4662
    have k4680 := Kp.trans k4662 k4669 (fun _ h => h.elim)
    have ho4681 := Ow.kpNo ho4663 k4669
    have ho4682 := Ow.kpNo ho4664 k4669
    have ho4683 := Ow.kpNo ho4665 k4669
    have ho4684 := Ow.kpNo ho4656 k4669
    refine r_vals 3 4 [.slice A4671 t4666.length c4672] (by kernel_rfl) (by kernel_rfl) ?_
    refine r_fin 4 (by kernel_rfl) ?_
    refine q_then ?_
    refine w_seq (p := [1, 1, 1, 1, 1]) (p0 := [1, 1, 1, 1, 1, 0]) (p1 := [1, 1, 1, 1, 1, 1]) (by kernel_rfl) ?_
    refine w_seq (p := [1, 1, 1, 1, 1, 0]) (p0 := [1, 1, 1, 1, 1, 0, 0]) (p1 := [1, 1, 1, 1, 1, 0, 1]) (by kernel_rfl) ?_
    refine w_region (p := [1, 1, 1, 1, 1, 0, 0]) (id := 6) (by kernel_rfl) ?_
    refine r_vals 0 2 [.slice A4626 t4621.length c4627, .slice A4671 t4666.length c4672] (by kernel_rfl) (by kernel_rfl) ?_
    obtain ⟨t4685, ht4686, H⟩ := Option.bind_eq_some_iff.1 H
    refine r_do 2 (by kernel_rfl) (og_call (g := 15) (av := #[.slice A4626 t4621.length c4627, .slice A4671 t4666.length c4672]) (by kernel_rfl) ?_) 
    refine (dowelbook_Ints_15.ok K A4626 c4627 t4621 A4671 c4672 t4666 t4621.length t4666.length w4668 (Ow.rdNo ho4682) (Ow.cap ho4682) (Ow.rdNo ho4673) (Ow.cap ho4673) (Ow.len ho4682) (Ow.len ho4673) t4685 ht4686).mono ?_
    rintro e w4687 ⟨rfl, k4688⟩
    refine ⟨_, rfl, ?_⟩
    have k4689 := Kp.trans k4680 k4688 (fun _ h => h.elim)
    have ho4690 := Ow.kpNo ho4681 k4688
    have ho4691 := Ow.kpNo ho4682 k4688
    have ho4692 := Ow.kpNo ho4683 k4688
    have ho4693 := Ow.kpNo ho4684 k4688
    have ho4694 := Ow.kpNo ho4673 k4688
    refine r_vals 3 5 [.bool (!t4685), .bool (!t4685)] (by kernel_rfl) (by kernel_rfl) ?_
    refine b_split (!t4685) (fun h_ => ?_) (fun h_ => ?_)
    · have h4695 : ¬ (t4685 = true) := bnot_t h_
      rw [if_pos h4695] at H
      rw [h_]
      clear h_
      refine r_vals 5 32 [undef, undef, undef, undef, undef, undef, .bool true, .bool true, undef, undef, undef, undef, .bool true, .bool true, undef, undef, undef, undef, .bool true, .bool true, undef, undef, undef, undef, undef, undef, .bool true] (by kernel_rfl) (by kernel_rfl) ?_
      refine r_fin 32 (by kernel_rfl) ?_
      refine q_then ?_
      refine w_into (dowellaw24_ActionParts_3.j0F true) (by kernel_rfl) (fun u_ => ?_)
      exact dowellaw24_ActionParts_3.j0.ok K a0A a0c a0 a1 a2 w a0r a0l r  HR  true u_ w4687 k4689  H
    · have h4695 : ¬ (¬ (t4685 = true)) := bnot_f h_
      rw [if_neg h4695] at H
      rw [h_]
      clear h_
      refine r_vals 5 8 [.slice A4639 t4634.length c4640, .slice a0A a0.length a0c, .int .i64 a2] (by kernel_rfl) (by kernel_rfl) ?_
      obtain ⟨t4696, ht4697, H⟩ := Option.bind_eq_some_iff.1 H
      refine r_do 8 (by kernel_rfl) (og_call (g := 14) (av := #[.slice a0A a0.length a0c, .int .i64 a2]) (by kernel_rfl) ?_) 
      refine (dowelref24_Parts_14.ok K a0A a0c a0 a2 a0.length w4687 (Rd.kp a0r k4689 (fun _ _ h => h)) a0l rfl t4696 ht4697).mono ?_
      rintro e w4698 ⟨A4701, n4704, c4702, rfl, k4699, ho4705⟩
      obtain rfl := ho4705.len
      refine ⟨_, rfl, ?_⟩
      have n4706 := Ow.dj_call ho4690 ho4705
      have n4707 := Ow.dj_call ho4691 ho4705
      have n4708 := Ow.dj_call ho4692 ho4705
      have n4709 := Ow.dj_call ho4693 ho4705
      have n4710 := Ow.dj_call ho4694 ho4705
      have ho4703 := Ow.base ho4705 k4689
      have k4711 := Kp.trans k4689 k4699 (fun _ h => h.elim)
      have ho4712 := Ow.kpNo ho4690 k4699
      have ho4713 := Ow.kpNo ho4691 k4699
      have ho4714 := Ow.kpNo ho4692 k4699
      have ho4715 := Ow.kpNo ho4693 k4699
      have ho4716 := Ow.kpNo ho4694 k4699
      obtain ⟨t4717, ht4718, H⟩ := Option.bind_eq_some_iff.1 H
      refine r_do 9 (by kernel_rfl) (og_call (g := 15) (av := #[.slice A4639 t4634.length c4640, .slice A4701 t4696.length c4702]) (by kernel_rfl) ?_) 
      refine (dowelbook_Ints_15.ok K A4639 c4640 t4634 A4701 c4702 t4696 t4634.length t4696.length w4698 (Ow.rdNo ho4714) (Ow.cap ho4714) (Ow.rdNo ho4703) (Ow.cap ho4703) (Ow.len ho4714) (Ow.len ho4703) t4717 ht4718).mono ?_
      rintro e w4719 ⟨rfl, k4720⟩
      refine ⟨_, rfl, ?_⟩
      have k4721 := Kp.trans k4711 k4720 (fun _ h => h.elim)
      have ho4722 := Ow.kpNo ho4712 k4720
      have ho4723 := Ow.kpNo ho4713 k4720
      have ho4724 := Ow.kpNo ho4714 k4720
      have ho4725 := Ow.kpNo ho4715 k4720
      have ho4726 := Ow.kpNo ho4716 k4720
      have ho4727 := Ow.kpNo ho4703 k4720
      refine r_vals 10 13 [.bool (!t4717), .bool (!t4717), .bool (!t4717)] (by kernel_rfl) (by kernel_rfl) ?_
      refine b_split (!t4717) (fun h_ => ?_) (fun h_ => ?_)
      · have h4728 : ¬ (t4717 = true) := bnot_t h_
        rw [if_pos h4728] at H
        rw [h_]
        clear h_
        refine r_vals 13 32 [undef, undef, undef, undef, .bool true, .bool true, undef, undef, undef, undef, .bool true, .bool true, undef, undef, undef, undef, undef, undef, .bool true] (by kernel_rfl) (by kernel_rfl) ?_
        refine r_fin 32 (by kernel_rfl) ?_
        refine q_then ?_
        refine w_into (dowellaw24_ActionParts_3.j0F true) (by kernel_rfl) (fun u_ => ?_)
        exact dowellaw24_ActionParts_3.j0.ok K a0A a0c a0 a1 a2 w a0r a0l r  HR  true u_ w4719 k4721  H
      · have h4728 : ¬ (¬ (t4717 = true)) := bnot_f h_
        rw [if_neg h4728] at H
        rw [h_]
        clear h_
        refine r_vals 13 15 [.slice A4654 t4649.length c4655, .slice A4671 t4666.length c4672] (by kernel_rfl) (by kernel_rfl) ?_
        obtain ⟨t4729, ht4730, H⟩ := Option.bind_eq_some_iff.1 H
        refine r_do 15 (by kernel_rfl) (og_call (g := 15) (av := #[.slice A4654 t4649.length c4655, .slice A4671 t4666.length c4672]) (by kernel_rfl) ?_) 
        refine (dowelbook_Ints_15.ok K A4654 c4655 t4649 A4671 c4672 t4666 t4649.length t4666.length w4719 (Ow.rdNo ho4725) (Ow.cap ho4725) (Ow.rdNo ho4726) (Ow.cap ho4726) (Ow.len ho4725) (Ow.len ho4726) t4729 ht4730).mono ?_
        rintro e w4731 ⟨rfl, k4732⟩
        refine ⟨_, rfl, ?_⟩
        have k4733 := Kp.trans k4721 k4732 (fun _ h => h.elim)
        have ho4734 := Ow.kpNo ho4722 k4732
        have ho4735 := Ow.kpNo ho4723 k4732
        have ho4736 := Ow.kpNo ho4724 k4732
        have ho4737 := Ow.kpNo ho4725 k4732
        have ho4738 := Ow.kpNo ho4726 k4732
        have ho4739 := Ow.kpNo ho4727 k4732
        refine r_vals 16 19 [.bool (!t4729), .bool (!t4729), .bool (!t4729)] (by kernel_rfl) (by kernel_rfl) ?_
        refine b_split (!t4729) (fun h_ => ?_) (fun h_ => ?_)
        · have h4740 : ¬ (t4729 = true) := bnot_t h_
          rw [if_pos h4740] at H
          rw [h_]
          clear h_
          refine r_vals 19 32 [undef, undef, undef, undef, .bool true, .bool true, undef, undef, undef, undef, undef, undef, .bool true] (by kernel_rfl) (by kernel_rfl) ?_
          refine r_fin 32 (by kernel_rfl) ?_
          refine q_then ?_
          refine w_into (dowellaw24_ActionParts_3.j0F true) (by kernel_rfl) (fun u_ => ?_)
          exact dowellaw24_ActionParts_3.j0.ok K a0A a0c a0 a1 a2 w a0r a0l r  HR  true u_ w4731 k4733  H
        · have h4740 : ¬ (¬ (t4729 = true)) := bnot_f h_
          rw [if_neg h4740] at H
          rw [h_]
          clear h_
          refine r_vals 19 21 [.slice A4615 t4609.n c4616, .slice a0A a0.length a0c] (by kernel_rfl) (by kernel_rfl) ?_
          obtain ⟨t4741, ht4742, H⟩ := Option.bind_eq_some_iff.1 H
          refine r_do 21 (by kernel_rfl) (og_call (g := 16) (av := #[.slice A4615 t4609.n c4616, .slice a0A a0.length a0c]) (by kernel_rfl) ?_) 
          refine (dowelbook_KeptActs_16.ok K A4615 c4616 t4609.all t4609.n a0A a0c a0 a0.length w4731 (Ow.rdNo ho4734) (Ow.norm ho4734).cap (head_le (Ow.takeN ho4734 t4609.n hn4614)) (Rd.kp a0r k4733 (fun _ _ h => h)) a0l rfl t4741 ht4742).mono ?_
          rintro e w4743 ⟨rfl, k4744⟩
          refine ⟨_, rfl, ?_⟩
          have k4745 := Kp.trans k4733 k4744 (fun _ h => h.elim)
          have ho4746 := Ow.kpNo ho4734 k4744
          have ho4747 := Ow.kpNo ho4735 k4744
          have ho4748 := Ow.kpNo ho4736 k4744
          have ho4749 := Ow.kpNo ho4737 k4744
          have ho4750 := Ow.kpNo ho4738 k4744
          have ho4751 := Ow.kpNo ho4739 k4744
          refine r_vals 22 25 [.bool (!t4741), .bool (!t4741), .bool (!t4741)] (by kernel_rfl) (by kernel_rfl) ?_
          refine b_split (!t4741) (fun h_ => ?_) (fun h_ => ?_)
          · have h4752 : ¬ (t4741 = true) := bnot_t h_
            rw [if_pos h4752] at H
            rw [h_]
            clear h_
            refine r_vals 25 32 [undef, undef, undef, undef, undef, undef, .bool true] (by kernel_rfl) (by kernel_rfl) ?_
            refine r_fin 32 (by kernel_rfl) ?_
            refine q_then ?_
            refine w_into (dowellaw24_ActionParts_3.j0F true) (by kernel_rfl) (fun u_ => ?_)
            exact dowellaw24_ActionParts_3.j0.ok K a0A a0c a0 a1 a2 w a0r a0l r  HR  true u_ w4743 k4745  H
          · have h4752 : ¬ (¬ (t4741 = true)) := bnot_f h_
            rw [if_neg h4752] at H
            rw [h_]
            clear h_
            refine r_vals 25 28 [.slice A4626 t4621.length c4627, .slice A4639 t4634.length c4640, .slice A4654 t4649.length c4655] (by kernel_rfl) (by kernel_rfl) ?_
            refine r_do 28 (by kernel_rfl) (ow_lit (K := (kSl 24)) (w0 := w) (T := 29) (n := 3) (e := 24) (ps := #[(0, (Operand.tmp 54)), (1, (Operand.tmp 55)), (2, (Operand.tmp 56))]) (cs := #[.slice A4626 t4621.length c4627, .slice A4639 t4634.length c4640, .slice A4654 t4649.length c4655]) (parts := [(0, .slice A4626 t4621.length c4627), (1, .slice A4639 t4634.length c4640), (2, .slice A4654 t4649.length c4655)]) ([⟨A4626, t4621.length, c4627⟩, ⟨A4639, t4634.length, c4640⟩, ⟨A4654, t4649.length, c4655⟩] : List Sl) (by kernel_rfl) (by kernel_rfl) (by kernel_rfl) (by kernel_rfl) rfl rfl (by kernel_rfl) k4745 ?_) 
            intro b4756 w4753 e4757 ho4755 k4754
            have n4759 := Ow.dj_row ho4746 e4757
            have n4760 := Ow.dj_row ho4747 e4757
            have n4761 := Ow.dj_row ho4748 e4757
            have n4762 := Ow.dj_row ho4749 e4757
            have n4763 := Ow.dj_row ho4750 e4757
            have n4764 := Ow.dj_row ho4751 e4757
            clear e4757
            have k4765 := Kp.trans k4745 k4754 (fun _ h => h.elim)
            have ho4766 := Ow.kpNo ho4746 k4754
            have ho4767 := Ow.kpNo ho4747 k4754
            have ho4768 := Ow.kpNo ho4748 k4754
            have ho4769 := Ow.kpNo ho4749 k4754
            have ho4770 := Ow.kpNo ho4750 k4754
            have ho4771 := Ow.kpNo ho4751 k4754
            obtain ⟨t4772, ht4773, H⟩ := Option.bind_eq_some_iff.1 H
            refine r_do 29 (by kernel_rfl) (og_call (g := 17) (av := #[.slice (some ⟨b4756, 0, none⟩) 3 3]) (by kernel_rfl) ?_) 
            refine (dowelbook_FreeInts_17_3.ok K (some ⟨b4756, 0, none⟩) 3 A4626 c4627 t4621 A4639 c4640 t4634 A4654 c4655 t4649 t4621.length t4634.length t4649.length w w4753 k4765 ho4767 ho4768 ho4769 ho4755 n4645 n4660 n4760 n4661 n4761 n4762 t4772 ht4773).mono ?_
            rintro e w4774 ⟨rfl, k4775⟩
            refine ⟨_, rfl, ?_⟩
            refine r_vals 30 32 [.bool (!t4772), .bool (!t4772)] (by kernel_rfl) (by kernel_rfl) ?_
            refine r_fin 32 (by kernel_rfl) ?_
            refine q_then ?_
            refine w_into (dowellaw24_ActionParts_3.j0F (!t4772)) (by kernel_rfl) (fun u_ => ?_)
            exact dowellaw24_ActionParts_3.j0.ok K a0A a0c a0 a1 a2 w a0r a0l r  HR  (!t4772) u_ w4774 k4775  H
end Go.Proofs.Ytampekcanmakkaa.G
