/- What the functions compute, and that the calls come to it: printed by a program. -/
import Derived.Test.YtampekcanmakkaaX4p3
import Derived.Test.YtampekcanmakkaaProg
set_option linter.unusedVariables false
namespace Go.Proofs.Ytampekcanmakkaa.G
open Go Go.RowKit Go.Proofs
set_option maxRecDepth 20000 in
set_option maxHeartbeats 4000000 in
theorem dowellaw03_ClassTexts.j0.ok (K : Nat) (a0 : Tapi_Class) (a1 : Tapi_Class) (w : World) (r : Bool) {Q : Exit → Act → World → Prop} (b1433 : Nat) (A1456 : Option Addr) (t1451 : List Tapi_Range) (c1457 : Nat) (A1471 : Option Addr) (t1466 : List Tapi_Range) (c1472 : Nat) (A1488 : Option Addr) (t1483 : List Tapi_Range) (c1489 : Nat) (A1515 : Option Addr) (t1510 : List Tapi_Range) (c1516 : Nat) (HR : ∀ a w', bodyPost Try.prog Try.f4 (dowellaw03_ClassTexts.R r w) .ret a w' → Q .ret a w')  (x1634 : Bool) (u1629 : Nat → Value) (w1627 : World) (k1628 : Kp No w w1627) (hb1635 : Blk w1627 b1433 #[.int .u64 a0.f0, .int .u64 a0.f1, .int .u64 a0.f2, .int .u64 a0.f3] 37) (ghb1635 : w.heap.size ≤ b1433) (ho1636 : Ow w (Kapi_Range 44) w1627 A1456 t1451.length c1457 t1451) (ho1637 : Ow w (Kapi_Range 44) w1627 A1471 t1466.length c1472 t1466) (ho1638 : Ow w (Kapi_Range 44) w1627 A1488 t1483.length c1489 t1483) (ho1639 : Ow w (Kapi_Range 44) w1627 A1515 t1510.length c1516 t1510) (n1640 : Dj (One b1433) (Ra A1456)) (n1641 : Dj (One b1433) (Ra A1471)) (n1642 : Dj (One b1433) (Ra A1488)) (n1643 : Dj (One b1433) (Ra A1515)) (n1644 : Dj (Ra A1456) (Ra A1471)) (n1645 : Dj (Ra A1456) (Ra A1488)) (n1646 : Dj (Ra A1456) (Ra A1515)) (n1647 : Dj (Ra A1471) (Ra A1488)) (n1648 : Dj (Ra A1471) (Ra A1515)) (n1649 : Dj (Ra A1488) (Ra A1515)) (H : dowellaw03_ClassTexts.j0 t1451 t1466 t1483 K a0 t1510 x1634 = some r) : (cd Try.f4 [1, 1, 1, 0, 1]).wp Try.prog (Exit.then (fun a w => (cd Try.f4 [1, 1, 1, 1]).wp Try.prog Q a w) Q) ⟨dowellaw03_ClassTexts.j0F b1433 A1456 t1451 c1457 A1471 t1466 c1472 A1488 t1483 c1489 A1515 t1510 c1516 x1634 u1629, []⟩ w1627 := by
  unfold dowellaw03_ClassTexts.j0 at H
  refine w_cond (p := [1, 1, 1, 0, 1]) (p0 := [1, 1, 1, 0, 1, 0]) (p1 := [1, 1, 1, 0, 1, 1]) (c := (Operand.tmp 51)) (b := x1634) (by kernel_rfl) (by kernel_rfl) ?_ ?_
  · intro h_
    have h1650 : x1634 = true := h_
    clear h_
    rw [if_pos h1650] at H
    refine w_seq (p := [1, 1, 1, 0, 1, 0]) (p0 := [1, 1, 1, 0, 1, 0, 0]) (p1 := [1, 1, 1, 0, 1, 0, 1]) (by kernel_rfl) ?_
    refine w_region (p := [1, 1, 1, 0, 1, 0, 0]) (id := 4) (by kernel_rfl) ?_
    refine r_vals 0 1 [.bool false] (by kernel_rfl) (by kernel_rfl) ?_
    refine r_fin 1 (by kernel_rfl) ?_
    refine q_then ?_
    refine w_ret (p := [1, 1, 1, 0, 1, 0, 1]) (by kernel_rfl) ?_
    refine q_then_r ?_
    obtain rfl := Option.some.inj H
    refine HR _ _ (body_ret (vs := [.bool false]) (rv_tmp (by kernel_rfl) rfl) rfl ?_)
    exact ⟨rfl, k1628⟩
  · intro h_
    have h1650 : ¬ (x1634 = true) := by rw [h_]; decide
    clear h_
    rw [if_neg h1650] at H
    refine w_skip (p := [1, 1, 1, 0, 1, 1]) (by kernel_rfl) ?_
    refine q_then ?_
    refine w_seq (p := [1, 1, 1, 1]) (p0 := [1, 1, 1, 1, 0]) (p1 := [1, 1, 1, 1, 1]) (by kernel_rfl) ?_
    refine w_region (p := [1, 1, 1, 1, 0]) (id := 5) (by kernel_rfl) ?_
    refine r_vals 0 4 [.slice A1456 t1451.length c1457, .slice A1471 t1466.length c1472, .slice A1488 t1483.length c1489, .agg #[.slice A1456 t1451.length c1457, .slice A1471 t1466.length c1472, .slice A1488 t1483.length c1489]] (by kernel_rfl) (by kernel_rfl) ?_
    refine r_do 4 (by kernel_rfl) (og_alloc (T := 42) (cs := #[.slice none 0 0, .slice none 0 0, .slice none 0 0]) (by kernel_rfl) (by kernel_rfl) ?_) 
    intro b1654 w1651 e1655 hb1653 k1652
    have n1656 : b1433 ≠ b1654 := by rw [e1655]; exact Nat.ne_of_lt hb1635.lt
    have n1657 := Ow.dj_block ho1636 e1655
    have n1658 := Ow.dj_block ho1637 e1655
    have n1659 := Ow.dj_block ho1638 e1655
    have n1660 := Ow.dj_block ho1639 e1655
    have g1661 : w.heap.size ≤ b1654 := by rw [e1655]; exact Kp.size k1628
    clear e1655
    have k1662 := Kp.trans k1628 k1652 (fun _ h => h.elim)
    have hb1663 := Blk.kp hb1635 k1652 id
    have ho1664 := Ow.kpNo ho1636 k1652
    have ho1665 := Ow.kpNo ho1637 k1652
    have ho1666 := Ow.kpNo ho1638 k1652
    have ho1667 := Ow.kpNo ho1639 k1652
    refine r_do 5 (by kernel_rfl) (og_store (T := 42) (x := (Operand.tmp 10)) (y := (Operand.tmp 55)) (b := b1654) (off := 0) (.agg #[.slice A1456 t1451.length c1457, .slice A1471 t1466.length c1472, .slice A1488 t1483.length c1489]) (by kernel_rfl) (by kernel_rfl) (by kernel_rfl) hb1653 (cs' := #[.slice A1456 t1451.length c1457, .slice A1471 t1466.length c1472, .slice A1488 t1483.length c1489]) (by kernel_rfl) ?_) 
    intro w1669 hb1668 k1670 _
    have k1671 := Kp.trans k1662 k1670 (fun x hx => .inr (by rw [show x = _ from hx]; exact g1661))
    have hb1672 := Blk.kp hb1663 k1670 (show ¬ (b1433 = b1654) from n1656)
    have ho1673 := Ow.kp ho1664 k1670 n1657
    have ho1674 := Ow.kp ho1665 k1670 n1658
    have ho1675 := Ow.kp ho1666 k1670 n1659
    have ho1676 := Ow.kp ho1667 k1670 n1660
    refine r_fin 6 (by kernel_rfl) ?_
    refine q_then ?_
    refine w_seq (p := [1, 1, 1, 1, 1]) (p0 := [1, 1, 1, 1, 1, 0]) (p1 := [1, 1, 1, 1, 1, 1]) (by kernel_rfl) ?_
    refine w_seq (p := [1, 1, 1, 1, 1, 0]) (p0 := [1, 1, 1, 1, 1, 0, 0]) (p1 := [1, 1, 1, 1, 1, 0, 1]) (by kernel_rfl) ?_
    refine w_region (p := [1, 1, 1, 1, 1, 0, 0]) (id := 6) (by kernel_rfl) ?_
    refine r_vals 0 1 [.int .i64 0] (by kernel_rfl) (by kernel_rfl) ?_
    refine r_fin 1 (by kernel_rfl) ?_
    refine q_then ?_
    refine w_block (p := [1, 1, 1, 1, 1, 0, 1]) (p0 := [1, 1, 1, 1, 1, 0, 1, 0]) (id := 0) (by kernel_rfl) ?_
    refine w_loop (p := [1, 1, 1, 1, 1, 0, 1, 0]) (p0 := [1, 1, 1, 1, 1, 0, 1, 0, 0]) 5 (by kernel_rfl) ?_
    refine w_round (p0 := [1, 1, 1, 1, 1, 0, 1, 0, 0]) 4 ?_
    refine w_seq (p := [1, 1, 1, 1, 1, 0, 1, 0, 0]) (p0 := [1, 1, 1, 1, 1, 0, 1, 0, 0, 0]) (p1 := [1, 1, 1, 1, 1, 0, 1, 0, 0, 1]) (by kernel_rfl) ?_
    refine w_seq (p := [1, 1, 1, 1, 1, 0, 1, 0, 0, 0]) (p0 := [1, 1, 1, 1, 1, 0, 1, 0, 0, 0, 0]) (p1 := [1, 1, 1, 1, 1, 0, 1, 0, 0, 0, 1]) (by kernel_rfl) ?_
    refine w_region (p := [1, 1, 1, 1, 1, 0, 1, 0, 0, 0, 0]) (id := 7) (by kernel_rfl) ?_
    refine r_vals 0 2 [.int .i64 0, .bool true] (by kernel_rfl) (by kernel_rfl) ?_
    refine r_fin 2 (by kernel_rfl) ?_
    refine q_then ?_
    refine w_cond (p := [1, 1, 1, 1, 1, 0, 1, 0, 0, 0, 1]) (p0 := [1, 1, 1, 1, 1, 0, 1, 0, 0, 0, 1, 0]) (p1 := [1, 1, 1, 1, 1, 0, 1, 0, 0, 0, 1, 1]) (c := (Operand.tmp 57)) (b := true) (by kernel_rfl) (by kernel_rfl) ?_ ?_
    · intro _
      refine w_skip (p := [1, 1, 1, 1, 1, 0, 1, 0, 0, 0, 1, 0]) (by kernel_rfl) ?_
      refine q_then ?_
      refine w_seq (p := [1, 1, 1, 1, 1, 0, 1, 0, 0, 1]) (p0 := [1, 1, 1, 1, 1, 0, 1, 0, 0, 1, 0]) (p1 := [1, 1, 1, 1, 1, 0, 1, 0, 0, 1, 1]) (by kernel_rfl) ?_
      refine w_block (p := [1, 1, 1, 1, 1, 0, 1, 0, 0, 1, 0]) (p0 := [1, 1, 1, 1, 1, 0, 1, 0, 0, 1, 0, 0]) (id := 1) (by kernel_rfl) ?_
      refine w_seq (p := [1, 1, 1, 1, 1, 0, 1, 0, 0, 1, 0, 0]) (p0 := [1, 1, 1, 1, 1, 0, 1, 0, 0, 1, 0, 0, 0]) (p1 := [1, 1, 1, 1, 1, 0, 1, 0, 0, 1, 0, 0, 1]) (by kernel_rfl) ?_
      refine w_region (p := [1, 1, 1, 1, 1, 0, 1, 0, 0, 1, 0, 0, 0]) (id := 9) (by kernel_rfl) ?_
      refine r_vals 0 1 [.int .i64 0] (by kernel_rfl) (by kernel_rfl) ?_
      refine r_fin 1 (by kernel_rfl) ?_
      refine q_then ?_
      refine w_block (p := [1, 1, 1, 1, 1, 0, 1, 0, 0, 1, 0, 0, 1]) (p0 := [1, 1, 1, 1, 1, 0, 1, 0, 0, 1, 0, 0, 1, 0]) (id := 2) (by kernel_rfl) ?_
      refine w_into (dowellaw03_ClassTexts.F1 b1433 A1515 t1510 c1516 b1654 0) (by kernel_rfl) (fun u_ => ?_)
      refine w_loop (p := [1, 1, 1, 1, 1, 0, 1, 0, 0, 1, 0, 0, 1, 0]) (p0 := [1, 1, 1, 1, 1, 0, 1, 0, 0, 1, 0, 0, 1, 0, 0]) K (by kernel_rfl) ?_
      refine dowellaw03_ClassTexts.l1.ok K a0 a1 w r b1433 A1515 t1510 c1516 b1654 A1456 t1451 c1457 A1471 t1466 c1472 A1488 t1483 c1489 (fun a w' h_ => q_in_r (q_in_r (q_then_r (q_then_r (q_in_r (q_then_r (HR a w' h_))))))) ?_ K t1451 0 u_ w1669 k1671 hb1672 hb1668 ghb1635 g1661 n1656 ho1673 ho1674 ho1675 ho1676 n1640 n1641 n1642 n1643 (Dj.symm n1657) (Dj.symm n1658) (Dj.symm n1659) (Dj.symm n1660) n1644 n1645 n1646 n1647 n1648 n1649 H
      intro x1788 u1784 w1782 k1783 hb1786 hb1791 ghb1786 ghb1791 nhb1786hb1791 ho1810 ho1811 ho1812 ho1813 n1814 n1815 n1816 n1817 n1818 n1819 n1820 n1821 n1822 n1823 n1824 n1825 n1826 n1827 H
      try dsimp only at H
      refine q_in_hit ?_
      refine q_in ?_
      refine q_then ?_
      refine w_region (p := [1, 1, 1, 1, 1, 0, 1, 0, 0, 1, 1]) (id := 8) (by kernel_rfl) ?_
      refine r_vals 0 3 [.int .i64 0, .int .i64 1, .int .i64 1] (by kernel_rfl) (by kernel_rfl) ?_
      refine r_fin 3 (by kernel_rfl) ?_
      refine q_then ?_
      refine w_round (p0 := [1, 1, 1, 1, 1, 0, 1, 0, 0]) 3 ?_
      refine w_seq (p := [1, 1, 1, 1, 1, 0, 1, 0, 0]) (p0 := [1, 1, 1, 1, 1, 0, 1, 0, 0, 0]) (p1 := [1, 1, 1, 1, 1, 0, 1, 0, 0, 1]) (by kernel_rfl) ?_
      refine w_seq (p := [1, 1, 1, 1, 1, 0, 1, 0, 0, 0]) (p0 := [1, 1, 1, 1, 1, 0, 1, 0, 0, 0, 0]) (p1 := [1, 1, 1, 1, 1, 0, 1, 0, 0, 0, 1]) (by kernel_rfl) ?_
      refine w_region (p := [1, 1, 1, 1, 1, 0, 1, 0, 0, 0, 0]) (id := 7) (by kernel_rfl) ?_
      refine r_vals 0 2 [.int .i64 1, .bool true] (by kernel_rfl) (by kernel_rfl) ?_
      refine r_fin 2 (by kernel_rfl) ?_
      refine q_then ?_
      refine w_cond (p := [1, 1, 1, 1, 1, 0, 1, 0, 0, 0, 1]) (p0 := [1, 1, 1, 1, 1, 0, 1, 0, 0, 0, 1, 0]) (p1 := [1, 1, 1, 1, 1, 0, 1, 0, 0, 0, 1, 1]) (c := (Operand.tmp 57)) (b := true) (by kernel_rfl) (by kernel_rfl) ?_ ?_
      · intro _
        refine w_skip (p := [1, 1, 1, 1, 1, 0, 1, 0, 0, 0, 1, 0]) (by kernel_rfl) ?_
        refine q_then ?_
        refine w_seq (p := [1, 1, 1, 1, 1, 0, 1, 0, 0, 1]) (p0 := [1, 1, 1, 1, 1, 0, 1, 0, 0, 1, 0]) (p1 := [1, 1, 1, 1, 1, 0, 1, 0, 0, 1, 1]) (by kernel_rfl) ?_
        refine w_block (p := [1, 1, 1, 1, 1, 0, 1, 0, 0, 1, 0]) (p0 := [1, 1, 1, 1, 1, 0, 1, 0, 0, 1, 0, 0]) (id := 1) (by kernel_rfl) ?_
        refine w_seq (p := [1, 1, 1, 1, 1, 0, 1, 0, 0, 1, 0, 0]) (p0 := [1, 1, 1, 1, 1, 0, 1, 0, 0, 1, 0, 0, 0]) (p1 := [1, 1, 1, 1, 1, 0, 1, 0, 0, 1, 0, 0, 1]) (by kernel_rfl) ?_
        refine w_region (p := [1, 1, 1, 1, 1, 0, 1, 0, 0, 1, 0, 0, 0]) (id := 9) (by kernel_rfl) ?_
        refine r_vals 0 1 [.int .i64 0] (by kernel_rfl) (by kernel_rfl) ?_
        refine r_fin 1 (by kernel_rfl) ?_
        refine q_then ?_
        refine w_block (p := [1, 1, 1, 1, 1, 0, 1, 0, 0, 1, 0, 0, 1]) (p0 := [1, 1, 1, 1, 1, 0, 1, 0, 0, 1, 0, 0, 1, 0]) (id := 2) (by kernel_rfl) ?_
        refine w_into (dowellaw03_ClassTexts.F2 b1433 A1515 t1510 c1516 b1654 0) (by kernel_rfl) (fun u_ => ?_)
        refine w_loop (p := [1, 1, 1, 1, 1, 0, 1, 0, 0, 1, 0, 0, 1, 0]) (p0 := [1, 1, 1, 1, 1, 0, 1, 0, 0, 1, 0, 0, 1, 0, 0]) K (by kernel_rfl) ?_
        refine dowellaw03_ClassTexts.l2.ok K a0 a1 w r b1433 A1515 t1510 c1516 b1654 A1456 t1451 c1457 A1471 t1466 c1472 A1488 t1483 c1489 x1788 (fun a w' h_ => q_in_r (q_in_r (q_then_r (q_then_r (q_in_r (q_then_r (HR a w' h_))))))) ?_ K t1466 0 u_ w1782 k1783 hb1786 hb1791 ghb1786 ghb1791 nhb1786hb1791 ho1810 ho1811 ho1812 ho1813 n1814 n1815 n1816 n1817 n1818 n1819 n1820 n1821 n1822 n1823 n1824 n1825 n1826 n1827 H
        intro x1940 u1935 w1933 k1934 hb1937 hb1942 ghb1937 ghb1942 nhb1937hb1942 ho1961 ho1962 ho1963 ho1964 n1965 n1966 n1967 n1968 n1969 n1970 n1971 n1972 n1973 n1974 n1975 n1976 n1977 n1978 H
        try dsimp only at H
        refine q_in_hit ?_
        refine q_in ?_
        refine q_then ?_
        refine w_region (p := [1, 1, 1, 1, 1, 0, 1, 0, 0, 1, 1]) (id := 8) (by kernel_rfl) ?_
        refine r_vals 0 3 [.int .i64 1, .int .i64 2, .int .i64 2] (by kernel_rfl) (by kernel_rfl) ?_
        refine r_fin 3 (by kernel_rfl) ?_
        refine q_then ?_
        refine w_round (p0 := [1, 1, 1, 1, 1, 0, 1, 0, 0]) 2 ?_
        refine w_seq (p := [1, 1, 1, 1, 1, 0, 1, 0, 0]) (p0 := [1, 1, 1, 1, 1, 0, 1, 0, 0, 0]) (p1 := [1, 1, 1, 1, 1, 0, 1, 0, 0, 1]) (by kernel_rfl) ?_
        refine w_seq (p := [1, 1, 1, 1, 1, 0, 1, 0, 0, 0]) (p0 := [1, 1, 1, 1, 1, 0, 1, 0, 0, 0, 0]) (p1 := [1, 1, 1, 1, 1, 0, 1, 0, 0, 0, 1]) (by kernel_rfl) ?_
        refine w_region (p := [1, 1, 1, 1, 1, 0, 1, 0, 0, 0, 0]) (id := 7) (by kernel_rfl) ?_
        refine r_vals 0 2 [.int .i64 2, .bool true] (by kernel_rfl) (by kernel_rfl) ?_
        refine r_fin 2 (by kernel_rfl) ?_
        refine q_then ?_
        refine w_cond (p := [1, 1, 1, 1, 1, 0, 1, 0, 0, 0, 1]) (p0 := [1, 1, 1, 1, 1, 0, 1, 0, 0, 0, 1, 0]) (p1 := [1, 1, 1, 1, 1, 0, 1, 0, 0, 0, 1, 1]) (c := (Operand.tmp 57)) (b := true) (by kernel_rfl) (by kernel_rfl) ?_ ?_
        · intro _
          refine w_skip (p := [1, 1, 1, 1, 1, 0, 1, 0, 0, 0, 1, 0]) (by kernel_rfl) ?_
          refine q_then ?_
          refine w_seq (p := [1, 1, 1, 1, 1, 0, 1, 0, 0, 1]) (p0 := [1, 1, 1, 1, 1, 0, 1, 0, 0, 1, 0]) (p1 := [1, 1, 1, 1, 1, 0, 1, 0, 0, 1, 1]) (by kernel_rfl) ?_
          refine w_block (p := [1, 1, 1, 1, 1, 0, 1, 0, 0, 1, 0]) (p0 := [1, 1, 1, 1, 1, 0, 1, 0, 0, 1, 0, 0]) (id := 1) (by kernel_rfl) ?_
          refine w_seq (p := [1, 1, 1, 1, 1, 0, 1, 0, 0, 1, 0, 0]) (p0 := [1, 1, 1, 1, 1, 0, 1, 0, 0, 1, 0, 0, 0]) (p1 := [1, 1, 1, 1, 1, 0, 1, 0, 0, 1, 0, 0, 1]) (by kernel_rfl) ?_
          refine w_region (p := [1, 1, 1, 1, 1, 0, 1, 0, 0, 1, 0, 0, 0]) (id := 9) (by kernel_rfl) ?_
          refine r_vals 0 1 [.int .i64 0] (by kernel_rfl) (by kernel_rfl) ?_
          refine r_fin 1 (by kernel_rfl) ?_
          refine q_then ?_
          refine w_block (p := [1, 1, 1, 1, 1, 0, 1, 0, 0, 1, 0, 0, 1]) (p0 := [1, 1, 1, 1, 1, 0, 1, 0, 0, 1, 0, 0, 1, 0]) (id := 2) (by kernel_rfl) ?_
          refine w_into (dowellaw03_ClassTexts.F3 b1433 A1515 t1510 c1516 b1654 0) (by kernel_rfl) (fun u_ => ?_)
          refine w_loop (p := [1, 1, 1, 1, 1, 0, 1, 0, 0, 1, 0, 0, 1, 0]) (p0 := [1, 1, 1, 1, 1, 0, 1, 0, 0, 1, 0, 0, 1, 0, 0]) K (by kernel_rfl) ?_
          refine dowellaw03_ClassTexts.l3.ok K a0 a1 w r b1433 A1515 t1510 c1516 b1654 A1456 t1451 c1457 A1471 t1466 c1472 A1488 t1483 c1489 x1788 x1940 (fun a w' h_ => q_in_r (q_in_r (q_then_r (q_then_r (q_in_r (q_then_r (HR a w' h_))))))) ?_ K t1483 0 u_ w1933 k1934 hb1937 hb1942 ghb1937 ghb1942 nhb1937hb1942 ho1961 ho1962 ho1963 ho1964 n1965 n1966 n1967 n1968 n1969 n1970 n1971 n1972 n1973 n1974 n1975 n1976 n1977 n1978 H
          intro x2092 u2086 w2084 k2085 hb2088 hb2093 ghb2088 ghb2093 nhb2088hb2093 ho2112 ho2113 ho2114 ho2115 n2116 n2117 n2118 n2119 n2120 n2121 n2122 n2123 n2124 n2125 n2126 n2127 n2128 n2129 H
          try dsimp only at H
          refine q_in_hit ?_
          refine q_in ?_
          refine q_then ?_
          refine w_region (p := [1, 1, 1, 1, 1, 0, 1, 0, 0, 1, 1]) (id := 8) (by kernel_rfl) ?_
          refine r_vals 0 3 [.int .i64 2, .int .i64 3, .int .i64 3] (by kernel_rfl) (by kernel_rfl) ?_
          refine r_fin 3 (by kernel_rfl) ?_
          refine q_then ?_
          refine w_round (p0 := [1, 1, 1, 1, 1, 0, 1, 0, 0]) 1 ?_
          refine w_seq (p := [1, 1, 1, 1, 1, 0, 1, 0, 0]) (p0 := [1, 1, 1, 1, 1, 0, 1, 0, 0, 0]) (p1 := [1, 1, 1, 1, 1, 0, 1, 0, 0, 1]) (by kernel_rfl) ?_
          refine w_seq (p := [1, 1, 1, 1, 1, 0, 1, 0, 0, 0]) (p0 := [1, 1, 1, 1, 1, 0, 1, 0, 0, 0, 0]) (p1 := [1, 1, 1, 1, 1, 0, 1, 0, 0, 0, 1]) (by kernel_rfl) ?_
          refine w_region (p := [1, 1, 1, 1, 1, 0, 1, 0, 0, 0, 0]) (id := 7) (by kernel_rfl) ?_
          refine r_vals 0 2 [.int .i64 3, .bool false] (by kernel_rfl) (by kernel_rfl) ?_
          refine r_fin 2 (by kernel_rfl) ?_
          refine q_then ?_
          refine w_cond (p := [1, 1, 1, 1, 1, 0, 1, 0, 0, 0, 1]) (p0 := [1, 1, 1, 1, 1, 0, 1, 0, 0, 0, 1, 0]) (p1 := [1, 1, 1, 1, 1, 0, 1, 0, 0, 0, 1, 1]) (c := (Operand.tmp 57)) (b := false) (by kernel_rfl) (by kernel_rfl) ?_ ?_
          · intro h_
            cases h_
          · intro _
            refine w_exit (p := [1, 1, 1, 1, 1, 0, 1, 0, 0, 0, 1, 1]) (id := 0) (by kernel_rfl) ?_
            refine q_then_x ?_
            refine q_then_x ?_
            refine q_in_hit ?_
            refine q_then ?_
            refine w_seq (p := [1, 1, 1, 1, 1, 1]) (p0 := [1, 1, 1, 1, 1, 1, 0]) (p1 := [1, 1, 1, 1, 1, 1, 1]) (by kernel_rfl) ?_
            refine w_region (p := [1, 1, 1, 1, 1, 1, 0]) (id := 13) (by kernel_rfl) ?_
            refine r_do 0 (by kernel_rfl) (og_alloc (T := 42) (cs := #[.slice none 0 0, .slice none 0 0, .slice none 0 0]) (by kernel_rfl) (by kernel_rfl) ?_) 
            intro b2133 w2130 e2134 hb2132 k2131
            have n2135 : b1433 ≠ b2133 := by rw [e2134]; exact Nat.ne_of_lt hb2088.lt
            have n2136 : b1654 ≠ b2133 := by rw [e2134]; exact Nat.ne_of_lt hb2093.lt
            have n2137 := Ow.dj_block ho2112 e2134
            have n2138 := Ow.dj_block ho2113 e2134
            have n2139 := Ow.dj_block ho2114 e2134
            have n2140 := Ow.dj_block ho2115 e2134
            have g2141 : w.heap.size ≤ b2133 := by rw [e2134]; exact Kp.size k2085
            clear e2134
            have k2142 := Kp.trans k2085 k2131 (fun _ h => h.elim)
            have hb2143 := Blk.kp hb2088 k2131 id
            have hb2144 := Blk.kp hb2093 k2131 id
            have ho2145 := Ow.kpNo ho2112 k2131
            have ho2146 := Ow.kpNo ho2113 k2131
            have ho2147 := Ow.kpNo ho2114 k2131
            have ho2148 := Ow.kpNo ho2115 k2131
            refine r_fin 1 (by kernel_rfl) ?_
            refine q_then ?_
            refine w_seq (p := [1, 1, 1, 1, 1, 1, 1]) (p0 := [1, 1, 1, 1, 1, 1, 1, 0]) (p1 := [1, 1, 1, 1, 1, 1, 1, 1]) (by kernel_rfl) ?_
            refine w_seq (p := [1, 1, 1, 1, 1, 1, 1, 0]) (p0 := [1, 1, 1, 1, 1, 1, 1, 0, 0]) (p1 := [1, 1, 1, 1, 1, 1, 1, 0, 1]) (by kernel_rfl) ?_
            refine w_region (p := [1, 1, 1, 1, 1, 1, 1, 0, 0]) (id := 14) (by kernel_rfl) ?_
            refine r_vals 0 1 [.int .i64 0] (by kernel_rfl) (by kernel_rfl) ?_
            refine r_fin 1 (by kernel_rfl) ?_
            refine q_then ?_
            refine w_block (p := [1, 1, 1, 1, 1, 1, 1, 0, 1]) (p0 := [1, 1, 1, 1, 1, 1, 1, 0, 1, 0]) (id := 4) (by kernel_rfl) ?_
            refine w_loop (p := [1, 1, 1, 1, 1, 1, 1, 0, 1, 0]) (p0 := [1, 1, 1, 1, 1, 1, 1, 0, 1, 0, 0]) 5 (by kernel_rfl) ?_
            refine w_round (p0 := [1, 1, 1, 1, 1, 1, 1, 0, 1, 0, 0]) 4 ?_
            refine w_seq (p := [1, 1, 1, 1, 1, 1, 1, 0, 1, 0, 0]) (p0 := [1, 1, 1, 1, 1, 1, 1, 0, 1, 0, 0, 0]) (p1 := [1, 1, 1, 1, 1, 1, 1, 0, 1, 0, 0, 1]) (by kernel_rfl) ?_
            refine w_seq (p := [1, 1, 1, 1, 1, 1, 1, 0, 1, 0, 0, 0]) (p0 := [1, 1, 1, 1, 1, 1, 1, 0, 1, 0, 0, 0, 0]) (p1 := [1, 1, 1, 1, 1, 1, 1, 0, 1, 0, 0, 0, 1]) (by kernel_rfl) ?_
            refine w_region (p := [1, 1, 1, 1, 1, 1, 1, 0, 1, 0, 0, 0, 0]) (id := 15) (by kernel_rfl) ?_
            refine r_vals 0 2 [.int .i64 0, .bool true] (by kernel_rfl) (by kernel_rfl) ?_
            refine r_fin 2 (by kernel_rfl) ?_
            refine q_then ?_
            refine w_cond (p := [1, 1, 1, 1, 1, 1, 1, 0, 1, 0, 0, 0, 1]) (p0 := [1, 1, 1, 1, 1, 1, 1, 0, 1, 0, 0, 0, 1, 0]) (p1 := [1, 1, 1, 1, 1, 1, 1, 0, 1, 0, 0, 0, 1, 1]) (c := (Operand.tmp 77)) (b := true) (by kernel_rfl) (by kernel_rfl) ?_ ?_
            · intro _
              refine w_skip (p := [1, 1, 1, 1, 1, 1, 1, 0, 1, 0, 0, 0, 1, 0]) (by kernel_rfl) ?_
              refine q_then ?_
              refine w_seq (p := [1, 1, 1, 1, 1, 1, 1, 0, 1, 0, 0, 1]) (p0 := [1, 1, 1, 1, 1, 1, 1, 0, 1, 0, 0, 1, 0]) (p1 := [1, 1, 1, 1, 1, 1, 1, 0, 1, 0, 0, 1, 1]) (by kernel_rfl) ?_
              refine w_block (p := [1, 1, 1, 1, 1, 1, 1, 0, 1, 0, 0, 1, 0]) (p0 := [1, 1, 1, 1, 1, 1, 1, 0, 1, 0, 0, 1, 0, 0]) (id := 5) (by kernel_rfl) ?_
              refine w_seq (p := [1, 1, 1, 1, 1, 1, 1, 0, 1, 0, 0, 1, 0, 0]) (p0 := [1, 1, 1, 1, 1, 1, 1, 0, 1, 0, 0, 1, 0, 0, 0]) (p1 := [1, 1, 1, 1, 1, 1, 1, 0, 1, 0, 0, 1, 0, 0, 1]) (by kernel_rfl) ?_
              refine w_region (p := [1, 1, 1, 1, 1, 1, 1, 0, 1, 0, 0, 1, 0, 0, 0]) (id := 17) (by kernel_rfl) ?_
              refine r_vals 0 3 [.int .i64 0, .int .i64 0, .pointer (some ⟨b1654, 0, none⟩)] (by kernel_rfl) (by kernel_rfl) ?_
              refine r_do 3 (by kernel_rfl) (og_load (T := 38) (x := (Operand.tmp 82)) (b := b1654) (off := 0) (.slice A1456 t1451.length c1457) (by kernel_rfl) (by kernel_rfl) hb2144 (by kernel_rfl) ?_) 
              refine r_vals 4 5 [.pointer (some ⟨b2133, 0, none⟩)] (by kernel_rfl) (by kernel_rfl) ?_
              refine r_do 5 (by kernel_rfl) (og_store (T := 38) (x := (Operand.tmp 84)) (y := (Operand.tmp 83)) (b := b2133) (off := 0) (.slice A1456 t1451.length c1457) (by kernel_rfl) (by kernel_rfl) (by kernel_rfl) hb2132 (cs' := #[.slice A1456 t1451.length c1457, .slice none 0 0, .slice none 0 0]) (by kernel_rfl) ?_) 
              intro w2150 hb2149 k2151 _
              have k2152 := Kp.trans k2142 k2151 (fun x hx => .inr (by rw [show x = _ from hx]; exact g2141))
              have hb2153 := Blk.kp hb2143 k2151 (show ¬ (b1433 = b2133) from n2135)
              have hb2154 := Blk.kp hb2144 k2151 (show ¬ (b1654 = b2133) from n2136)
              have ho2155 := Ow.kp ho2145 k2151 n2137
              have ho2156 := Ow.kp ho2146 k2151 n2138
              have ho2157 := Ow.kp ho2147 k2151 n2139
              have ho2158 := Ow.kp ho2148 k2151 n2140
              refine r_fin 6 (by kernel_rfl) ?_
              refine q_then ?_
              refine w_seq (p := [1, 1, 1, 1, 1, 1, 1, 0, 1, 0, 0, 1, 0, 0, 1]) (p0 := [1, 1, 1, 1, 1, 1, 1, 0, 1, 0, 0, 1, 0, 0, 1, 0]) (p1 := [1, 1, 1, 1, 1, 1, 1, 0, 1, 0, 0, 1, 0, 0, 1, 1]) (by kernel_rfl) ?_
              refine w_region (p := [1, 1, 1, 1, 1, 1, 1, 0, 1, 0, 0, 1, 0, 0, 1, 0]) (id := 18) (by kernel_rfl) ?_
              refine r_vals 0 1 [.int .i64 0] (by kernel_rfl) (by kernel_rfl) ?_
              refine r_fin 1 (by kernel_rfl) ?_
              refine q_then ?_
              refine w_block (p := [1, 1, 1, 1, 1, 1, 1, 0, 1, 0, 0, 1, 0, 0, 1, 1]) (p0 := [1, 1, 1, 1, 1, 1, 1, 0, 1, 0, 0, 1, 0, 0, 1, 1, 0]) (id := 6) (by kernel_rfl) ?_
              refine w_into (dowellaw03_ClassTexts.F4 b1433 A1515 t1510 c1516 b1654 b2133 0) (by kernel_rfl) (fun u_ => ?_)
              refine w_loop (p := [1, 1, 1, 1, 1, 1, 1, 0, 1, 0, 0, 1, 0, 0, 1, 1, 0]) (p0 := [1, 1, 1, 1, 1, 1, 1, 0, 1, 0, 0, 1, 0, 0, 1, 1, 0, 0]) K (by kernel_rfl) ?_
              refine dowellaw03_ClassTexts.l4.ok K a0 a1 w r b1433 A1515 t1510 c1516 b1654 b2133 A1456 t1451 c1457 A1471 t1466 c1472 A1488 t1483 c1489 x1940 x2092 x1788 (fun a w' h_ => q_in_r (q_in_r (q_then_r (q_then_r (q_in_r (q_then_r (HR a w' h_))))))) ?_ K x1788 t1451.length 0 A1456 c1457 u_ w2150 k2152 hb2153 hb2154 hb2149 ghb2088 ghb2093 g2141 nhb2088hb2093 n2135 n2136 ho2155 ho2156 ho2157 ho2158 (Ow.nil w (Kapi_Range 44) w2150) (Ow.nil w (Kapi_Range 44) w2150) (Old.mk0 ho2156) n2116 n2117 n2118 n2119 dj_nil dj_nil n2120 n2121 n2122 n2123 dj_nil dj_nil (Dj.symm n2137) (Dj.symm n2138) (Dj.symm n2139) (Dj.symm n2140) dj_nil dj_nil n2124 n2125 n2126 dj_nil dj_nil n2127 n2128 dj_nil dj_nil n2129 dj_nil dj_nil dj_nil dj_nil dj_nil (Dj.symm n2124) n2127 n2128 dj_nil dj_nil (Dj.symm n2117) (Dj.symm n2121) n2138 H
              intro x3053 x3054 A3055 c3056 u3046 w3044 k3045 hb3048 hb3051 hb3059 ghb3048 ghb3051 ghb3059 nhb3048hb3051 nhb3048hb3059 nhb3051hb3059 ho3108 ho3109 ho3110 ho3111 ho3112 ho3113 hd3147 n3114 n3115 n3116 n3117 n3118 n3119 n3120 n3121 n3122 n3123 n3124 n3125 n3126 n3127 n3128 n3129 n3130 n3131 n3132 n3133 n3134 n3135 n3136 n3137 n3138 n3139 n3140 n3141 n3142 n3143 n3144 n3145 n3146 n3148 n3149 n3150 n3151 n3152 n3153 n3154 n3155 H
              try dsimp only at H
              refine q_in_hit ?_
              refine q_in ?_
              refine q_then ?_
              refine w_region (p := [1, 1, 1, 1, 1, 1, 1, 0, 1, 0, 0, 1, 1]) (id := 16) (by kernel_rfl) ?_
              refine r_vals 0 3 [.int .i64 0, .int .i64 1, .int .i64 1] (by kernel_rfl) (by kernel_rfl) ?_
              refine r_fin 3 (by kernel_rfl) ?_
              refine q_then ?_
              refine w_round (p0 := [1, 1, 1, 1, 1, 1, 1, 0, 1, 0, 0]) 3 ?_
              refine w_seq (p := [1, 1, 1, 1, 1, 1, 1, 0, 1, 0, 0]) (p0 := [1, 1, 1, 1, 1, 1, 1, 0, 1, 0, 0, 0]) (p1 := [1, 1, 1, 1, 1, 1, 1, 0, 1, 0, 0, 1]) (by kernel_rfl) ?_
              refine w_seq (p := [1, 1, 1, 1, 1, 1, 1, 0, 1, 0, 0, 0]) (p0 := [1, 1, 1, 1, 1, 1, 1, 0, 1, 0, 0, 0, 0]) (p1 := [1, 1, 1, 1, 1, 1, 1, 0, 1, 0, 0, 0, 1]) (by kernel_rfl) ?_
              refine w_region (p := [1, 1, 1, 1, 1, 1, 1, 0, 1, 0, 0, 0, 0]) (id := 15) (by kernel_rfl) ?_
              refine r_vals 0 2 [.int .i64 1, .bool true] (by kernel_rfl) (by kernel_rfl) ?_
              refine r_fin 2 (by kernel_rfl) ?_
              refine q_then ?_
              refine w_cond (p := [1, 1, 1, 1, 1, 1, 1, 0, 1, 0, 0, 0, 1]) (p0 := [1, 1, 1, 1, 1, 1, 1, 0, 1, 0, 0, 0, 1, 0]) (p1 := [1, 1, 1, 1, 1, 1, 1, 0, 1, 0, 0, 0, 1, 1]) (c := (Operand.tmp 77)) (b := true) (by kernel_rfl) (by kernel_rfl) ?_ ?_
              · intro _
                refine w_skip (p := [1, 1, 1, 1, 1, 1, 1, 0, 1, 0, 0, 0, 1, 0]) (by kernel_rfl) ?_
                refine q_then ?_
                refine w_seq (p := [1, 1, 1, 1, 1, 1, 1, 0, 1, 0, 0, 1]) (p0 := [1, 1, 1, 1, 1, 1, 1, 0, 1, 0, 0, 1, 0]) (p1 := [1, 1, 1, 1, 1, 1, 1, 0, 1, 0, 0, 1, 1]) (by kernel_rfl) ?_
                refine w_block (p := [1, 1, 1, 1, 1, 1, 1, 0, 1, 0, 0, 1, 0]) (p0 := [1, 1, 1, 1, 1, 1, 1, 0, 1, 0, 0, 1, 0, 0]) (id := 5) (by kernel_rfl) ?_
                refine w_seq (p := [1, 1, 1, 1, 1, 1, 1, 0, 1, 0, 0, 1, 0, 0]) (p0 := [1, 1, 1, 1, 1, 1, 1, 0, 1, 0, 0, 1, 0, 0, 0]) (p1 := [1, 1, 1, 1, 1, 1, 1, 0, 1, 0, 0, 1, 0, 0, 1]) (by kernel_rfl) ?_
                refine w_region (p := [1, 1, 1, 1, 1, 1, 1, 0, 1, 0, 0, 1, 0, 0, 0]) (id := 17) (by kernel_rfl) ?_
                refine r_vals 0 3 [.int .i64 1, .int .i64 1, .pointer (some ⟨b1654, 1, none⟩)] (by kernel_rfl) (by kernel_rfl) ?_
                refine r_do 3 (by kernel_rfl) (og_load (T := 38) (x := (Operand.tmp 82)) (b := b1654) (off := 1) (.slice A1471 t1466.length c1472) (by kernel_rfl) (by kernel_rfl) hb3051 (by kernel_rfl) ?_) 
                refine r_vals 4 5 [.pointer (some ⟨b2133, 1, none⟩)] (by kernel_rfl) (by kernel_rfl) ?_
                refine r_do 5 (by kernel_rfl) (og_store (T := 38) (x := (Operand.tmp 84)) (y := (Operand.tmp 83)) (b := b2133) (off := 1) (.slice A1471 t1466.length c1472) (by kernel_rfl) (by kernel_rfl) (by kernel_rfl) hb3059 (cs' := #[.slice A3055 x3054 c3056, .slice A1471 t1466.length c1472, .slice none 0 0]) (by kernel_rfl) ?_) 
                intro w3157 hb3156 k3158 _
                have k3159 := Kp.trans k3045 k3158 (fun x hx => .inr (by rw [show x = _ from hx]; exact ghb3059))
                have hb3160 := Blk.kp hb3048 k3158 (show ¬ (b1433 = b2133) from nhb3048hb3059)
                have hb3161 := Blk.kp hb3051 k3158 (show ¬ (b1654 = b2133) from nhb3051hb3059)
                have ho3162 := Ow.kp ho3108 k3158 (Dj.symm n3126)
                have ho3163 := Ow.kp ho3109 k3158 (Dj.symm n3127)
                have ho3164 := Ow.kp ho3110 k3158 (Dj.symm n3128)
                have ho3165 := Ow.kp ho3111 k3158 (Dj.symm n3129)
                have ho3166 := Ow.kp ho3112 k3158 (Dj.symm dj_nil)
                have ho3167 := Ow.kp ho3113 k3158 (Dj.symm dj_nil)
                have hd3168 := Old.kp hd3147 k3158 n3155
                refine r_fin 6 (by kernel_rfl) ?_
                refine q_then ?_
                refine w_seq (p := [1, 1, 1, 1, 1, 1, 1, 0, 1, 0, 0, 1, 0, 0, 1]) (p0 := [1, 1, 1, 1, 1, 1, 1, 0, 1, 0, 0, 1, 0, 0, 1, 0]) (p1 := [1, 1, 1, 1, 1, 1, 1, 0, 1, 0, 0, 1, 0, 0, 1, 1]) (by kernel_rfl) ?_
                refine w_region (p := [1, 1, 1, 1, 1, 1, 1, 0, 1, 0, 0, 1, 0, 0, 1, 0]) (id := 18) (by kernel_rfl) ?_
                refine r_vals 0 1 [.int .i64 0] (by kernel_rfl) (by kernel_rfl) ?_
                refine r_fin 1 (by kernel_rfl) ?_
                refine q_then ?_
                refine w_block (p := [1, 1, 1, 1, 1, 1, 1, 0, 1, 0, 0, 1, 0, 0, 1, 1]) (p0 := [1, 1, 1, 1, 1, 1, 1, 0, 1, 0, 0, 1, 0, 0, 1, 1, 0]) (id := 6) (by kernel_rfl) ?_
                refine w_into (dowellaw03_ClassTexts.F5 b1433 A1515 t1510 c1516 b1654 b2133 0) (by kernel_rfl) (fun u_ => ?_)
                refine w_loop (p := [1, 1, 1, 1, 1, 1, 1, 0, 1, 0, 0, 1, 0, 0, 1, 1, 0]) (p0 := [1, 1, 1, 1, 1, 1, 1, 0, 1, 0, 0, 1, 0, 0, 1, 1, 0, 0]) K (by kernel_rfl) ?_
                refine dowellaw03_ClassTexts.l5.ok K a0 a1 w r b1433 A1515 t1510 c1516 b1654 b2133 A1456 t1451 c1457 A1471 t1466 c1472 A1488 t1483 c1489 A3055 x3054 c3056 x2092 x3053 x1788 x1940 (fun a w' h_ => q_in_r (q_in_r (q_then_r (q_then_r (q_in_r (q_then_r (HR a w' h_))))))) ?_ K x1940 t1466.length 0 A1471 c1472 u_ w3157 k3159 hb3160 hb3161 hb3156 ghb3048 ghb3051 ghb3059 nhb3048hb3051 nhb3048hb3059 nhb3051hb3059 ho3162 ho3163 ho3164 ho3165 ho3167 hd3168 (Old.mk0 ho3163) n3114 n3115 n3116 n3117 dj_nil n3120 n3121 n3122 n3123 dj_nil n3126 n3127 n3128 n3129 dj_nil n3132 n3133 n3134 dj_nil n3137 n3138 dj_nil n3141 dj_nil dj_nil n3148 n3149 n3150 dj_nil (Dj.symm n3132) n3137 n3138 dj_nil n3153 n3154 n3155 (Dj.symm n3115) (Dj.symm n3121) (Dj.symm n3127) H
                intro x4112 x4113 A4114 c4115 u4105 w4103 k4104 hb4107 hb4109 hb4117 ghb4107 ghb4109 ghb4117 nhb4107hb4109 nhb4107hb4117 nhb4109hb4117 ho4164 ho4165 ho4166 ho4167 ho4168 hd4194 hd4195 n4169 n4170 n4171 n4172 n4173 n4174 n4175 n4176 n4177 n4178 n4179 n4180 n4181 n4182 n4183 n4184 n4185 n4186 n4187 n4188 n4189 n4190 n4191 n4192 n4193 n4196 n4197 n4198 n4199 n4200 n4201 n4202 n4203 n4204 n4205 n4206 n4207 n4208 n4209 H
                try dsimp only at H
                refine q_in_hit ?_
                refine q_in ?_
                refine q_then ?_
                refine w_region (p := [1, 1, 1, 1, 1, 1, 1, 0, 1, 0, 0, 1, 1]) (id := 16) (by kernel_rfl) ?_
                refine r_vals 0 3 [.int .i64 1, .int .i64 2, .int .i64 2] (by kernel_rfl) (by kernel_rfl) ?_
                refine r_fin 3 (by kernel_rfl) ?_
                refine q_then ?_
                refine w_round (p0 := [1, 1, 1, 1, 1, 1, 1, 0, 1, 0, 0]) 2 ?_
                refine w_seq (p := [1, 1, 1, 1, 1, 1, 1, 0, 1, 0, 0]) (p0 := [1, 1, 1, 1, 1, 1, 1, 0, 1, 0, 0, 0]) (p1 := [1, 1, 1, 1, 1, 1, 1, 0, 1, 0, 0, 1]) (by kernel_rfl) ?_
                refine w_seq (p := [1, 1, 1, 1, 1, 1, 1, 0, 1, 0, 0, 0]) (p0 := [1, 1, 1, 1, 1, 1, 1, 0, 1, 0, 0, 0, 0]) (p1 := [1, 1, 1, 1, 1, 1, 1, 0, 1, 0, 0, 0, 1]) (by kernel_rfl) ?_
                refine w_region (p := [1, 1, 1, 1, 1, 1, 1, 0, 1, 0, 0, 0, 0]) (id := 15) (by kernel_rfl) ?_
                refine r_vals 0 2 [.int .i64 2, .bool true] (by kernel_rfl) (by kernel_rfl) ?_
                refine r_fin 2 (by kernel_rfl) ?_
                refine q_then ?_
                refine w_cond (p := [1, 1, 1, 1, 1, 1, 1, 0, 1, 0, 0, 0, 1]) (p0 := [1, 1, 1, 1, 1, 1, 1, 0, 1, 0, 0, 0, 1, 0]) (p1 := [1, 1, 1, 1, 1, 1, 1, 0, 1, 0, 0, 0, 1, 1]) (c := (Operand.tmp 77)) (b := true) (by kernel_rfl) (by kernel_rfl) ?_ ?_
                · intro _
                  refine w_skip (p := [1, 1, 1, 1, 1, 1, 1, 0, 1, 0, 0, 0, 1, 0]) (by kernel_rfl) ?_
                  refine q_then ?_
                  refine w_seq (p := [1, 1, 1, 1, 1, 1, 1, 0, 1, 0, 0, 1]) (p0 := [1, 1, 1, 1, 1, 1, 1, 0, 1, 0, 0, 1, 0]) (p1 := [1, 1, 1, 1, 1, 1, 1, 0, 1, 0, 0, 1, 1]) (by kernel_rfl) ?_
                  refine w_block (p := [1, 1, 1, 1, 1, 1, 1, 0, 1, 0, 0, 1, 0]) (p0 := [1, 1, 1, 1, 1, 1, 1, 0, 1, 0, 0, 1, 0, 0]) (id := 5) (by kernel_rfl) ?_
                  refine w_seq (p := [1, 1, 1, 1, 1, 1, 1, 0, 1, 0, 0, 1, 0, 0]) (p0 := [1, 1, 1, 1, 1, 1, 1, 0, 1, 0, 0, 1, 0, 0, 0]) (p1 := [1, 1, 1, 1, 1, 1, 1, 0, 1, 0, 0, 1, 0, 0, 1]) (by kernel_rfl) ?_
                  refine w_region (p := [1, 1, 1, 1, 1, 1, 1, 0, 1, 0, 0, 1, 0, 0, 0]) (id := 17) (by kernel_rfl) ?_
                  refine r_vals 0 3 [.int .i64 2, .int .i64 2, .pointer (some ⟨b1654, 2, none⟩)] (by kernel_rfl) (by kernel_rfl) ?_
                  refine r_do 3 (by kernel_rfl) (og_load (T := 38) (x := (Operand.tmp 82)) (b := b1654) (off := 2) (.slice A1488 t1483.length c1489) (by kernel_rfl) (by kernel_rfl) hb4109 (by kernel_rfl) ?_) 
                  refine r_vals 4 5 [.pointer (some ⟨b2133, 2, none⟩)] (by kernel_rfl) (by kernel_rfl) ?_
                  refine r_do 5 (by kernel_rfl) (og_store (T := 38) (x := (Operand.tmp 84)) (y := (Operand.tmp 83)) (b := b2133) (off := 2) (.slice A1488 t1483.length c1489) (by kernel_rfl) (by kernel_rfl) (by kernel_rfl) hb4117 (cs' := #[.slice A3055 x3054 c3056, .slice A4114 x4113 c4115, .slice A1488 t1483.length c1489]) (by kernel_rfl) ?_) 
                  intro w4211 hb4210 k4212 _
                  have k4213 := Kp.trans k4104 k4212 (fun x hx => .inr (by rw [show x = _ from hx]; exact ghb4117))
                  have hb4214 := Blk.kp hb4107 k4212 (show ¬ (b1433 = b2133) from nhb4107hb4117)
                  have hb4215 := Blk.kp hb4109 k4212 (show ¬ (b1654 = b2133) from nhb4109hb4117)
                  have ho4216 := Ow.kp ho4164 k4212 (Dj.symm n4179)
                  have ho4217 := Ow.kp ho4165 k4212 (Dj.symm n4180)
                  have ho4218 := Ow.kp ho4166 k4212 (Dj.symm n4181)
                  have ho4219 := Ow.kp ho4167 k4212 (Dj.symm n4182)
                  have ho4220 := Ow.kp ho4168 k4212 (Dj.symm dj_nil)
                  have hd4221 := Old.kp hd4194 k4212 n4206
                  have hd4222 := Old.kp hd4195 k4212 n4209
                  refine r_fin 6 (by kernel_rfl) ?_
                  refine q_then ?_
                  refine w_seq (p := [1, 1, 1, 1, 1, 1, 1, 0, 1, 0, 0, 1, 0, 0, 1]) (p0 := [1, 1, 1, 1, 1, 1, 1, 0, 1, 0, 0, 1, 0, 0, 1, 0]) (p1 := [1, 1, 1, 1, 1, 1, 1, 0, 1, 0, 0, 1, 0, 0, 1, 1]) (by kernel_rfl) ?_
                  refine w_region (p := [1, 1, 1, 1, 1, 1, 1, 0, 1, 0, 0, 1, 0, 0, 1, 0]) (id := 18) (by kernel_rfl) ?_
                  refine r_vals 0 1 [.int .i64 0] (by kernel_rfl) (by kernel_rfl) ?_
                  refine r_fin 1 (by kernel_rfl) ?_
                  refine q_then ?_
                  refine w_block (p := [1, 1, 1, 1, 1, 1, 1, 0, 1, 0, 0, 1, 0, 0, 1, 1]) (p0 := [1, 1, 1, 1, 1, 1, 1, 0, 1, 0, 0, 1, 0, 0, 1, 1, 0]) (id := 6) (by kernel_rfl) ?_
                  refine w_into (dowellaw03_ClassTexts.F6 b1433 A1515 t1510 c1516 b1654 b2133 0) (by kernel_rfl) (fun u_ => ?_)
                  refine w_loop (p := [1, 1, 1, 1, 1, 1, 1, 0, 1, 0, 0, 1, 0, 0, 1, 1, 0]) (p0 := [1, 1, 1, 1, 1, 1, 1, 0, 1, 0, 0, 1, 0, 0, 1, 1, 0, 0]) K (by kernel_rfl) ?_
                  refine dowellaw03_ClassTexts.l6.ok K a0 a1 w r b1433 A1515 t1510 c1516 b1654 b2133 A1456 t1451 c1457 A1471 t1466 c1472 A1488 t1483 c1489 A3055 x3054 c3056 A4114 x4113 c4115 x3053 x4112 x1788 x1940 x2092 (fun a w' h_ => q_in_r (q_in_r (q_then_r (q_then_r (q_in_r (q_then_r (HR a w' h_))))))) ?_ K x2092 t1483.length 0 A1488 c1489 u_ w4211 k4213 hb4214 hb4215 hb4210 ghb4107 ghb4109 ghb4117 nhb4107hb4109 nhb4107hb4117 nhb4109hb4117 ho4216 ho4217 ho4218 ho4219 hd4221 hd4222 (Old.mk0 ho4217) n4169 n4170 n4171 n4172 n4174 n4175 n4176 n4177 n4179 n4180 n4181 n4182 n4184 n4185 n4186 n4188 n4189 n4191 n4196 n4197 n4198 n4200 n4201 n4202 (Dj.symm n4184) n4188 n4189 n4204 n4205 n4206 n4207 n4208 n4209 (Dj.symm n4170) (Dj.symm n4175) (Dj.symm n4180) H
                  intro x5166 x5167 A5168 c5169 u5159 w5157 k5158 hb5161 hb5162 hb5170 ghb5161 ghb5162 ghb5170 nhb5161hb5162 nhb5161hb5170 nhb5162hb5170 ho5214 ho5215 ho5216 ho5217 hd5236 hd5237 hd5238 n5218 n5219 n5220 n5221 n5222 n5223 n5224 n5225 n5226 n5227 n5228 n5229 n5230 n5231 n5232 n5233 n5234 n5235 n5239 n5240 n5241 n5242 n5243 n5244 n5245 n5246 n5247 n5248 n5249 n5250 n5251 n5252 n5253 n5254 n5255 n5256 H
                  try dsimp only at H
                  refine q_in_hit ?_
                  refine q_in ?_
                  refine q_then ?_
                  refine w_region (p := [1, 1, 1, 1, 1, 1, 1, 0, 1, 0, 0, 1, 1]) (id := 16) (by kernel_rfl) ?_
                  refine r_vals 0 3 [.int .i64 2, .int .i64 3, .int .i64 3] (by kernel_rfl) (by kernel_rfl) ?_
                  refine r_fin 3 (by kernel_rfl) ?_
                  refine q_then ?_
                  refine w_round (p0 := [1, 1, 1, 1, 1, 1, 1, 0, 1, 0, 0]) 1 ?_
                  refine w_seq (p := [1, 1, 1, 1, 1, 1, 1, 0, 1, 0, 0]) (p0 := [1, 1, 1, 1, 1, 1, 1, 0, 1, 0, 0, 0]) (p1 := [1, 1, 1, 1, 1, 1, 1, 0, 1, 0, 0, 1]) (by kernel_rfl) ?_
                  refine w_seq (p := [1, 1, 1, 1, 1, 1, 1, 0, 1, 0, 0, 0]) (p0 := [1, 1, 1, 1, 1, 1, 1, 0, 1, 0, 0, 0, 0]) (p1 := [1, 1, 1, 1, 1, 1, 1, 0, 1, 0, 0, 0, 1]) (by kernel_rfl) ?_
                  refine w_region (p := [1, 1, 1, 1, 1, 1, 1, 0, 1, 0, 0, 0, 0]) (id := 15) (by kernel_rfl) ?_
                  refine r_vals 0 2 [.int .i64 3, .bool false] (by kernel_rfl) (by kernel_rfl) ?_
                  refine r_fin 2 (by kernel_rfl) ?_
                  refine q_then ?_
                  refine w_cond (p := [1, 1, 1, 1, 1, 1, 1, 0, 1, 0, 0, 0, 1]) (p0 := [1, 1, 1, 1, 1, 1, 1, 0, 1, 0, 0, 0, 1, 0]) (p1 := [1, 1, 1, 1, 1, 1, 1, 0, 1, 0, 0, 0, 1, 1]) (c := (Operand.tmp 77)) (b := false) (by kernel_rfl) (by kernel_rfl) ?_ ?_
                  · intro h_
                    cases h_
                  · intro _
                    refine w_exit (p := [1, 1, 1, 1, 1, 1, 1, 0, 1, 0, 0, 0, 1, 1]) (id := 4) (by kernel_rfl) ?_
                    refine q_then_x ?_
                    refine q_then_x ?_
                    refine q_in_hit ?_
                    refine q_then ?_
                    refine w_seq (p := [1, 1, 1, 1, 1, 1, 1, 1]) (p0 := [1, 1, 1, 1, 1, 1, 1, 1, 0]) (p1 := [1, 1, 1, 1, 1, 1, 1, 1, 1]) (by kernel_rfl) ?_
                    refine w_seq (p := [1, 1, 1, 1, 1, 1, 1, 1, 0]) (p0 := [1, 1, 1, 1, 1, 1, 1, 1, 0, 0]) (p1 := [1, 1, 1, 1, 1, 1, 1, 1, 0, 1]) (by kernel_rfl) ?_
                    refine w_region (p := [1, 1, 1, 1, 1, 1, 1, 1, 0, 0]) (id := 22) (by kernel_rfl) ?_
                    refine r_vals 0 1 [.int .i64 0] (by kernel_rfl) (by kernel_rfl) ?_
                    refine r_fin 1 (by kernel_rfl) ?_
                    refine q_then ?_
                    refine w_block (p := [1, 1, 1, 1, 1, 1, 1, 1, 0, 1]) (p0 := [1, 1, 1, 1, 1, 1, 1, 1, 0, 1, 0]) (id := 8) (by kernel_rfl) ?_
                    refine w_loop (p := [1, 1, 1, 1, 1, 1, 1, 1, 0, 1, 0]) (p0 := [1, 1, 1, 1, 1, 1, 1, 1, 0, 1, 0, 0]) 5 (by kernel_rfl) ?_
                    refine w_round (p0 := [1, 1, 1, 1, 1, 1, 1, 1, 0, 1, 0, 0]) 4 ?_
                    refine w_seq (p := [1, 1, 1, 1, 1, 1, 1, 1, 0, 1, 0, 0]) (p0 := [1, 1, 1, 1, 1, 1, 1, 1, 0, 1, 0, 0, 0]) (p1 := [1, 1, 1, 1, 1, 1, 1, 1, 0, 1, 0, 0, 1]) (by kernel_rfl) ?_
                    refine w_seq (p := [1, 1, 1, 1, 1, 1, 1, 1, 0, 1, 0, 0, 0]) (p0 := [1, 1, 1, 1, 1, 1, 1, 1, 0, 1, 0, 0, 0, 0]) (p1 := [1, 1, 1, 1, 1, 1, 1, 1, 0, 1, 0, 0, 0, 1]) (by kernel_rfl) ?_
                    refine w_region (p := [1, 1, 1, 1, 1, 1, 1, 1, 0, 1, 0, 0, 0, 0]) (id := 23) (by kernel_rfl) ?_
                    refine r_vals 0 2 [.int .i64 0, .bool true] (by kernel_rfl) (by kernel_rfl) ?_
                    refine r_fin 2 (by kernel_rfl) ?_
                    refine q_then ?_
                    refine w_cond (p := [1, 1, 1, 1, 1, 1, 1, 1, 0, 1, 0, 0, 0, 1]) (p0 := [1, 1, 1, 1, 1, 1, 1, 1, 0, 1, 0, 0, 0, 1, 0]) (p1 := [1, 1, 1, 1, 1, 1, 1, 1, 0, 1, 0, 0, 0, 1, 1]) (c := (Operand.tmp 100)) (b := true) (by kernel_rfl) (by kernel_rfl) ?_ ?_
                    · intro _
                      refine w_skip (p := [1, 1, 1, 1, 1, 1, 1, 1, 0, 1, 0, 0, 0, 1, 0]) (by kernel_rfl) ?_
                      refine q_then ?_
                      refine w_seq (p := [1, 1, 1, 1, 1, 1, 1, 1, 0, 1, 0, 0, 1]) (p0 := [1, 1, 1, 1, 1, 1, 1, 1, 0, 1, 0, 0, 1, 0]) (p1 := [1, 1, 1, 1, 1, 1, 1, 1, 0, 1, 0, 0, 1, 1]) (by kernel_rfl) ?_
                      refine w_block (p := [1, 1, 1, 1, 1, 1, 1, 1, 0, 1, 0, 0, 1, 0]) (p0 := [1, 1, 1, 1, 1, 1, 1, 1, 0, 1, 0, 0, 1, 0, 0]) (id := 9) (by kernel_rfl) ?_
                      refine w_seq (p := [1, 1, 1, 1, 1, 1, 1, 1, 0, 1, 0, 0, 1, 0, 0]) (p0 := [1, 1, 1, 1, 1, 1, 1, 1, 0, 1, 0, 0, 1, 0, 0, 0]) (p1 := [1, 1, 1, 1, 1, 1, 1, 1, 0, 1, 0, 0, 1, 0, 0, 1]) (by kernel_rfl) ?_
                      refine w_region (p := [1, 1, 1, 1, 1, 1, 1, 1, 0, 1, 0, 0, 1, 0, 0, 0]) (id := 25) (by kernel_rfl) ?_
                      refine r_vals 0 1 [.int .i64 0] (by kernel_rfl) (by kernel_rfl) ?_
                      refine r_fin 1 (by kernel_rfl) ?_
                      refine q_then ?_
                      refine w_block (p := [1, 1, 1, 1, 1, 1, 1, 1, 0, 1, 0, 0, 1, 0, 0, 1]) (p0 := [1, 1, 1, 1, 1, 1, 1, 1, 0, 1, 0, 0, 1, 0, 0, 1, 0]) (id := 10) (by kernel_rfl) ?_
                      refine w_into (dowellaw03_ClassTexts.F7 b1433 A1515 t1510 c1516 b1654 b2133 0) (by kernel_rfl) (fun u_ => ?_)
                      refine w_loop (p := [1, 1, 1, 1, 1, 1, 1, 1, 0, 1, 0, 0, 1, 0, 0, 1, 0]) (p0 := [1, 1, 1, 1, 1, 1, 1, 1, 0, 1, 0, 0, 1, 0, 0, 1, 0, 0]) K (by kernel_rfl) ?_
                      refine dowellaw03_ClassTexts.l7.ok K a0 a1 w r b1433 A1515 t1510 c1516 b1654 b2133 A1456 t1451 c1457 A1471 t1466 c1472 A1488 t1483 c1489 A3055 x3054 c3056 A4114 x4113 c4115 A5168 x5167 c5169 x3053 x4112 x5166 x1788 x1940 x2092 (fun a w' h_ => q_in_r (q_in_r (q_then_r (q_then_r (q_in_r (q_then_r (HR a w' h_))))))) ?_ K 0 u_ w5157 k5158 hb5161 hb5162 hb5170 ghb5161 ghb5162 ghb5170 nhb5161hb5162 nhb5161hb5170 nhb5162hb5170 ho5214 ho5215 ho5216 ho5217 hd5236 hd5237 hd5238 n5218 n5219 n5220 n5221 n5222 n5223 n5224 n5225 n5226 n5227 n5228 n5229 n5230 n5231 n5232 n5233 n5234 n5235 n5239 n5240 n5241 n5242 n5243 n5244 n5245 n5246 n5247 n5248 n5249 n5250 n5251 n5252 n5253 n5254 n5255 n5256 H
                      intro u5887 w5885 k5886 hb5889 hb5890 hb5894 ghb5889 ghb5890 ghb5894 nhb5889hb5890 nhb5889hb5894 nhb5890hb5894 ho5938 ho5939 ho5940 ho5941 hd5960 hd5961 hd5962 n5942 n5943 n5944 n5945 n5946 n5947 n5948 n5949 n5950 n5951 n5952 n5953 n5954 n5955 n5956 n5957 n5958 n5959 n5963 n5964 n5965 n5966 n5967 n5968 n5969 n5970 n5971 n5972 n5973 n5974 n5975 n5976 n5977 n5978 n5979 n5980 H
                      try dsimp only at H
                      refine q_in_hit ?_
                      refine q_in ?_
                      refine q_then ?_
                      refine w_region (p := [1, 1, 1, 1, 1, 1, 1, 1, 0, 1, 0, 0, 1, 1]) (id := 24) (by kernel_rfl) ?_
                      refine r_vals 0 3 [.int .i64 0, .int .i64 1, .int .i64 1] (by kernel_rfl) (by kernel_rfl) ?_
                      refine r_fin 3 (by kernel_rfl) ?_
                      refine q_then ?_
                      refine w_round (p0 := [1, 1, 1, 1, 1, 1, 1, 1, 0, 1, 0, 0]) 3 ?_
                      refine w_seq (p := [1, 1, 1, 1, 1, 1, 1, 1, 0, 1, 0, 0]) (p0 := [1, 1, 1, 1, 1, 1, 1, 1, 0, 1, 0, 0, 0]) (p1 := [1, 1, 1, 1, 1, 1, 1, 1, 0, 1, 0, 0, 1]) (by kernel_rfl) ?_
                      refine w_seq (p := [1, 1, 1, 1, 1, 1, 1, 1, 0, 1, 0, 0, 0]) (p0 := [1, 1, 1, 1, 1, 1, 1, 1, 0, 1, 0, 0, 0, 0]) (p1 := [1, 1, 1, 1, 1, 1, 1, 1, 0, 1, 0, 0, 0, 1]) (by kernel_rfl) ?_
                      refine w_region (p := [1, 1, 1, 1, 1, 1, 1, 1, 0, 1, 0, 0, 0, 0]) (id := 23) (by kernel_rfl) ?_
                      refine r_vals 0 2 [.int .i64 1, .bool true] (by kernel_rfl) (by kernel_rfl) ?_
                      refine r_fin 2 (by kernel_rfl) ?_
                      refine q_then ?_
                      refine w_cond (p := [1, 1, 1, 1, 1, 1, 1, 1, 0, 1, 0, 0, 0, 1]) (p0 := [1, 1, 1, 1, 1, 1, 1, 1, 0, 1, 0, 0, 0, 1, 0]) (p1 := [1, 1, 1, 1, 1, 1, 1, 1, 0, 1, 0, 0, 0, 1, 1]) (c := (Operand.tmp 100)) (b := true) (by kernel_rfl) (by kernel_rfl) ?_ ?_
                      · intro _
                        refine w_skip (p := [1, 1, 1, 1, 1, 1, 1, 1, 0, 1, 0, 0, 0, 1, 0]) (by kernel_rfl) ?_
                        refine q_then ?_
                        refine w_seq (p := [1, 1, 1, 1, 1, 1, 1, 1, 0, 1, 0, 0, 1]) (p0 := [1, 1, 1, 1, 1, 1, 1, 1, 0, 1, 0, 0, 1, 0]) (p1 := [1, 1, 1, 1, 1, 1, 1, 1, 0, 1, 0, 0, 1, 1]) (by kernel_rfl) ?_
                        refine w_block (p := [1, 1, 1, 1, 1, 1, 1, 1, 0, 1, 0, 0, 1, 0]) (p0 := [1, 1, 1, 1, 1, 1, 1, 1, 0, 1, 0, 0, 1, 0, 0]) (id := 9) (by kernel_rfl) ?_
                        refine w_seq (p := [1, 1, 1, 1, 1, 1, 1, 1, 0, 1, 0, 0, 1, 0, 0]) (p0 := [1, 1, 1, 1, 1, 1, 1, 1, 0, 1, 0, 0, 1, 0, 0, 0]) (p1 := [1, 1, 1, 1, 1, 1, 1, 1, 0, 1, 0, 0, 1, 0, 0, 1]) (by kernel_rfl) ?_
                        refine w_region (p := [1, 1, 1, 1, 1, 1, 1, 1, 0, 1, 0, 0, 1, 0, 0, 0]) (id := 25) (by kernel_rfl) ?_
                        refine r_vals 0 1 [.int .i64 0] (by kernel_rfl) (by kernel_rfl) ?_
                        refine r_fin 1 (by kernel_rfl) ?_
                        refine q_then ?_
                        refine w_block (p := [1, 1, 1, 1, 1, 1, 1, 1, 0, 1, 0, 0, 1, 0, 0, 1]) (p0 := [1, 1, 1, 1, 1, 1, 1, 1, 0, 1, 0, 0, 1, 0, 0, 1, 0]) (id := 10) (by kernel_rfl) ?_
                        refine w_into (dowellaw03_ClassTexts.F10 b1433 A1515 t1510 c1516 b1654 b2133 0) (by kernel_rfl) (fun u_ => ?_)
                        refine w_loop (p := [1, 1, 1, 1, 1, 1, 1, 1, 0, 1, 0, 0, 1, 0, 0, 1, 0]) (p0 := [1, 1, 1, 1, 1, 1, 1, 1, 0, 1, 0, 0, 1, 0, 0, 1, 0, 0]) K (by kernel_rfl) ?_
                        refine dowellaw03_ClassTexts.l10.ok K a0 a1 w r b1433 A1515 t1510 c1516 b1654 b2133 A1456 t1451 c1457 A1471 t1466 c1472 A1488 t1483 c1489 A3055 x3054 c3056 A4114 x4113 c4115 A5168 x5167 c5169 x3053 x4112 x5166 x1788 x1940 x2092 (fun a w' h_ => q_in_r (q_in_r (q_then_r (q_then_r (q_in_r (q_then_r (HR a w' h_))))))) ?_ K 0 u_ w5885 k5886 hb5889 hb5890 hb5894 ghb5889 ghb5890 ghb5894 nhb5889hb5890 nhb5889hb5894 nhb5890hb5894 ho5938 ho5939 ho5940 ho5941 hd5960 hd5961 hd5962 n5942 n5943 n5944 n5945 n5946 n5947 n5948 n5949 n5950 n5951 n5952 n5953 n5954 n5955 n5956 n5957 n5958 n5959 n5963 n5964 n5965 n5966 n5967 n5968 n5969 n5970 n5971 n5972 n5973 n5974 n5975 n5976 n5977 n5978 n5979 n5980 H
                        intro u6611 w6609 k6610 hb6613 hb6614 hb6618 ghb6613 ghb6614 ghb6618 nhb6613hb6614 nhb6613hb6618 nhb6614hb6618 ho6662 ho6663 ho6664 ho6665 hd6684 hd6685 hd6686 n6666 n6667 n6668 n6669 n6670 n6671 n6672 n6673 n6674 n6675 n6676 n6677 n6678 n6679 n6680 n6681 n6682 n6683 n6687 n6688 n6689 n6690 n6691 n6692 n6693 n6694 n6695 n6696 n6697 n6698 n6699 n6700 n6701 n6702 n6703 n6704 H
                        try dsimp only at H
                        refine q_in_hit ?_
                        refine q_in ?_
                        refine q_then ?_
                        refine w_region (p := [1, 1, 1, 1, 1, 1, 1, 1, 0, 1, 0, 0, 1, 1]) (id := 24) (by kernel_rfl) ?_
                        refine r_vals 0 3 [.int .i64 1, .int .i64 2, .int .i64 2] (by kernel_rfl) (by kernel_rfl) ?_
                        refine r_fin 3 (by kernel_rfl) ?_
                        refine q_then ?_
                        refine w_round (p0 := [1, 1, 1, 1, 1, 1, 1, 1, 0, 1, 0, 0]) 2 ?_
                        refine w_seq (p := [1, 1, 1, 1, 1, 1, 1, 1, 0, 1, 0, 0]) (p0 := [1, 1, 1, 1, 1, 1, 1, 1, 0, 1, 0, 0, 0]) (p1 := [1, 1, 1, 1, 1, 1, 1, 1, 0, 1, 0, 0, 1]) (by kernel_rfl) ?_
                        refine w_seq (p := [1, 1, 1, 1, 1, 1, 1, 1, 0, 1, 0, 0, 0]) (p0 := [1, 1, 1, 1, 1, 1, 1, 1, 0, 1, 0, 0, 0, 0]) (p1 := [1, 1, 1, 1, 1, 1, 1, 1, 0, 1, 0, 0, 0, 1]) (by kernel_rfl) ?_
                        refine w_region (p := [1, 1, 1, 1, 1, 1, 1, 1, 0, 1, 0, 0, 0, 0]) (id := 23) (by kernel_rfl) ?_
                        refine r_vals 0 2 [.int .i64 2, .bool true] (by kernel_rfl) (by kernel_rfl) ?_
                        refine r_fin 2 (by kernel_rfl) ?_
                        refine q_then ?_
                        refine w_cond (p := [1, 1, 1, 1, 1, 1, 1, 1, 0, 1, 0, 0, 0, 1]) (p0 := [1, 1, 1, 1, 1, 1, 1, 1, 0, 1, 0, 0, 0, 1, 0]) (p1 := [1, 1, 1, 1, 1, 1, 1, 1, 0, 1, 0, 0, 0, 1, 1]) (c := (Operand.tmp 100)) (b := true) (by kernel_rfl) (by kernel_rfl) ?_ ?_
                        · intro _
                          refine w_skip (p := [1, 1, 1, 1, 1, 1, 1, 1, 0, 1, 0, 0, 0, 1, 0]) (by kernel_rfl) ?_
                          refine q_then ?_
                          refine w_seq (p := [1, 1, 1, 1, 1, 1, 1, 1, 0, 1, 0, 0, 1]) (p0 := [1, 1, 1, 1, 1, 1, 1, 1, 0, 1, 0, 0, 1, 0]) (p1 := [1, 1, 1, 1, 1, 1, 1, 1, 0, 1, 0, 0, 1, 1]) (by kernel_rfl) ?_
                          refine w_block (p := [1, 1, 1, 1, 1, 1, 1, 1, 0, 1, 0, 0, 1, 0]) (p0 := [1, 1, 1, 1, 1, 1, 1, 1, 0, 1, 0, 0, 1, 0, 0]) (id := 9) (by kernel_rfl) ?_
                          refine w_seq (p := [1, 1, 1, 1, 1, 1, 1, 1, 0, 1, 0, 0, 1, 0, 0]) (p0 := [1, 1, 1, 1, 1, 1, 1, 1, 0, 1, 0, 0, 1, 0, 0, 0]) (p1 := [1, 1, 1, 1, 1, 1, 1, 1, 0, 1, 0, 0, 1, 0, 0, 1]) (by kernel_rfl) ?_
                          refine w_region (p := [1, 1, 1, 1, 1, 1, 1, 1, 0, 1, 0, 0, 1, 0, 0, 0]) (id := 25) (by kernel_rfl) ?_
                          refine r_vals 0 1 [.int .i64 0] (by kernel_rfl) (by kernel_rfl) ?_
                          refine r_fin 1 (by kernel_rfl) ?_
                          refine q_then ?_
                          refine w_block (p := [1, 1, 1, 1, 1, 1, 1, 1, 0, 1, 0, 0, 1, 0, 0, 1]) (p0 := [1, 1, 1, 1, 1, 1, 1, 1, 0, 1, 0, 0, 1, 0, 0, 1, 0]) (id := 10) (by kernel_rfl) ?_
                          refine w_into (dowellaw03_ClassTexts.F13 b1433 A1515 t1510 c1516 b1654 b2133 0) (by kernel_rfl) (fun u_ => ?_)
                          refine w_loop (p := [1, 1, 1, 1, 1, 1, 1, 1, 0, 1, 0, 0, 1, 0, 0, 1, 0]) (p0 := [1, 1, 1, 1, 1, 1, 1, 1, 0, 1, 0, 0, 1, 0, 0, 1, 0, 0]) K (by kernel_rfl) ?_
                          refine dowellaw03_ClassTexts.l13.ok K a0 a1 w r b1433 A1515 t1510 c1516 b1654 b2133 A1456 t1451 c1457 A1471 t1466 c1472 A1488 t1483 c1489 A3055 x3054 c3056 A4114 x4113 c4115 A5168 x5167 c5169 x3053 x4112 x5166 x1788 x1940 x2092 (fun a w' h_ => q_in_r (q_in_r (q_then_r (q_then_r (q_in_r (q_then_r (HR a w' h_))))))) ?_ K 0 u_ w6609 k6610 hb6613 hb6614 hb6618 ghb6613 ghb6614 ghb6618 nhb6613hb6614 nhb6613hb6618 nhb6614hb6618 ho6662 ho6663 ho6664 ho6665 hd6684 hd6685 hd6686 n6666 n6667 n6668 n6669 n6670 n6671 n6672 n6673 n6674 n6675 n6676 n6677 n6678 n6679 n6680 n6681 n6682 n6683 n6687 n6688 n6689 n6690 n6691 n6692 n6693 n6694 n6695 n6696 n6697 n6698 n6699 n6700 n6701 n6702 n6703 n6704 H
                          intro u7335 w7333 k7334 hb7337 hb7338 hb7342 ghb7337 ghb7338 ghb7342 nhb7337hb7338 nhb7337hb7342 nhb7338hb7342 ho7386 ho7387 ho7388 ho7389 hd7408 hd7409 hd7410 n7390 n7391 n7392 n7393 n7394 n7395 n7396 n7397 n7398 n7399 n7400 n7401 n7402 n7403 n7404 n7405 n7406 n7407 n7411 n7412 n7413 n7414 n7415 n7416 n7417 n7418 n7419 n7420 n7421 n7422 n7423 n7424 n7425 n7426 n7427 n7428 H
                          try dsimp only at H
                          refine q_in_hit ?_
                          refine q_in ?_
                          refine q_then ?_
                          refine w_region (p := [1, 1, 1, 1, 1, 1, 1, 1, 0, 1, 0, 0, 1, 1]) (id := 24) (by kernel_rfl) ?_
                          refine r_vals 0 3 [.int .i64 2, .int .i64 3, .int .i64 3] (by kernel_rfl) (by kernel_rfl) ?_
                          refine r_fin 3 (by kernel_rfl) ?_
                          refine q_then ?_
                          refine w_round (p0 := [1, 1, 1, 1, 1, 1, 1, 1, 0, 1, 0, 0]) 1 ?_
                          refine w_seq (p := [1, 1, 1, 1, 1, 1, 1, 1, 0, 1, 0, 0]) (p0 := [1, 1, 1, 1, 1, 1, 1, 1, 0, 1, 0, 0, 0]) (p1 := [1, 1, 1, 1, 1, 1, 1, 1, 0, 1, 0, 0, 1]) (by kernel_rfl) ?_
                          refine w_seq (p := [1, 1, 1, 1, 1, 1, 1, 1, 0, 1, 0, 0, 0]) (p0 := [1, 1, 1, 1, 1, 1, 1, 1, 0, 1, 0, 0, 0, 0]) (p1 := [1, 1, 1, 1, 1, 1, 1, 1, 0, 1, 0, 0, 0, 1]) (by kernel_rfl) ?_
                          refine w_region (p := [1, 1, 1, 1, 1, 1, 1, 1, 0, 1, 0, 0, 0, 0]) (id := 23) (by kernel_rfl) ?_
                          refine r_vals 0 2 [.int .i64 3, .bool false] (by kernel_rfl) (by kernel_rfl) ?_
                          refine r_fin 2 (by kernel_rfl) ?_
                          refine q_then ?_
                          refine w_cond (p := [1, 1, 1, 1, 1, 1, 1, 1, 0, 1, 0, 0, 0, 1]) (p0 := [1, 1, 1, 1, 1, 1, 1, 1, 0, 1, 0, 0, 0, 1, 0]) (p1 := [1, 1, 1, 1, 1, 1, 1, 1, 0, 1, 0, 0, 0, 1, 1]) (c := (Operand.tmp 100)) (b := false) (by kernel_rfl) (by kernel_rfl) ?_ ?_
                          · intro h_
                            cases h_
                          · intro _
                            refine w_exit (p := [1, 1, 1, 1, 1, 1, 1, 1, 0, 1, 0, 0, 0, 1, 1]) (id := 8) (by kernel_rfl) ?_
                            refine q_then_x ?_
                            refine q_then_x ?_
                            refine q_in_hit ?_
                            refine q_then ?_
                            refine w_seq (p := [1, 1, 1, 1, 1, 1, 1, 1, 1]) (p0 := [1, 1, 1, 1, 1, 1, 1, 1, 1, 0]) (p1 := [1, 1, 1, 1, 1, 1, 1, 1, 1, 1]) (by kernel_rfl) ?_
                            refine w_region (p := [1, 1, 1, 1, 1, 1, 1, 1, 1, 0]) (id := 33) (by kernel_rfl) ?_
                            refine r_do 0 (by kernel_rfl) (og_load (T := 37) (x := (Operand.tmp 2)) (b := b1433) (off := 0) (.agg #[.int .u64 a0.f0, .int .u64 a0.f1, .int .u64 a0.f2, .int .u64 a0.f3]) (by kernel_rfl) (by kernel_rfl) hb7337 (by kernel_rfl) ?_) 
                            obtain ⟨t7429, ht7430, H⟩ := Option.bind_eq_some_iff.1 H
                            refine r_do 1 (by kernel_rfl) (og_call (g := 18) (av := #[.agg #[.int .u64 a0.f0, .int .u64 a0.f1, .int .u64 a0.f2, .int .u64 a0.f3]]) (by kernel_rfl) ?_) 
                            refine (class_Ranges.ok K a0 w7333 t7429 ht7430).mono ?_
                            rintro e w7431 ⟨A7434, n7437, c7435, rfl, k7432, ho7438⟩
                            obtain rfl := ho7438.len
                            refine ⟨_, rfl, ?_⟩
                            have n7439 := blk_dj_call hb7337 ho7438
                            have n7440 := blk_dj_call hb7338 ho7438
                            have n7441 := blk_dj_call hb7342 ho7438
                            have n7442 := Ow.dj_call ho7386 ho7438
                            have n7443 := Ow.dj_call ho7387 ho7438
                            have n7444 := Ow.dj_call ho7388 ho7438
                            have n7445 := Ow.dj_call ho7389 ho7438
                            have n7446 := Old.dj_call hd7408 ho7438
                            have n7447 := Old.dj_call hd7409 ho7438
                            have n7448 := Old.dj_call hd7410 ho7438
                            have ho7436 := Ow.base ho7438 k7334
                            have k7449 := Kp.trans k7334 k7432 (fun _ h => h.elim)
                            have hb7450 := Blk.kp hb7337 k7432 id
                            have hb7451 := Blk.kp hb7338 k7432 id
                            have hb7452 := Blk.kp hb7342 k7432 id
                            have ho7453 := Ow.kpNo ho7386 k7432
                            have ho7454 := Ow.kpNo ho7387 k7432
                            have ho7455 := Ow.kpNo ho7388 k7432
                            have ho7456 := Ow.kpNo ho7389 k7432
                            have hd7457 := Old.kpNo hd7408 k7432
                            have hd7458 := Old.kpNo hd7409 k7432
                            have hd7459 := Old.kpNo hd7410 k7432
                            refine r_vals 2 3 [.slice A1515 t1510.length c1516] (by kernel_rfl) (by kernel_rfl) ?_
                            obtain ⟨t7460, ht7461, H⟩ := Option.bind_eq_some_iff.1 H
                            refine r_do 3 (by kernel_rfl) (og_call (g := 20) (av := #[.slice A7434 t7429.length c7435, .slice A1515 t1510.length c1516]) (by kernel_rfl) ?_) 
                            refine (dowellaw03_sameRanges.ok K A7434 c7435 t7429 A1515 c1516 t1510 t7429.length t1510.length w7431 (Ow.rdNo ho7436) (Ow.cap ho7436) (Ow.rdNo ho7453) (Ow.cap ho7453) (Ow.len ho7436) (Ow.len ho7453) t7460 ht7461).mono ?_
                            rintro e w7462 ⟨rfl, k7463⟩
                            refine ⟨_, rfl, ?_⟩
                            have k7464 := Kp.trans k7449 k7463 (fun _ h => h.elim)
                            have hb7465 := Blk.kp hb7450 k7463 id
                            have hb7466 := Blk.kp hb7451 k7463 id
                            have hb7467 := Blk.kp hb7452 k7463 id
                            have ho7468 := Ow.kpNo ho7453 k7463
                            have ho7469 := Ow.kpNo ho7454 k7463
                            have ho7470 := Ow.kpNo ho7455 k7463
                            have ho7471 := Ow.kpNo ho7456 k7463
                            have ho7472 := Ow.kpNo ho7436 k7463
                            have hd7473 := Old.kpNo hd7457 k7463
                            have hd7474 := Old.kpNo hd7458 k7463
                            have hd7475 := Old.kpNo hd7459 k7463
                            refine r_vals 4 5 [.bool t7460] (by kernel_rfl) (by kernel_rfl) ?_
                            refine r_fin 5 (by kernel_rfl) ?_
                            refine q_then ?_
                            refine w_ret (p := [1, 1, 1, 1, 1, 1, 1, 1, 1, 1]) (by kernel_rfl) ?_
                            obtain rfl := Option.some.inj H
                            refine HR _ _ (body_ret (vs := [.bool t7460]) (rv_tmp (by kernel_rfl) rfl) rfl ?_)
                            exact ⟨rfl, k7464⟩
                        · intro h_
                          cases h_
                      · intro h_
                        cases h_
                    · intro h_
                      cases h_
                · intro h_
                  cases h_
              · intro h_
                cases h_
            · intro h_
              cases h_
        · intro h_
          cases h_
      · intro h_
        cases h_
    · intro h_
      cases h_
set_option maxRecDepth 20000 in
set_option maxHeartbeats 4000000 in
theorem dowellaw03_ClassTexts.ok (K : Nat) (a0 : Tapi_Class) (a1 : Tapi_Class) (w : World)  (r : Bool) (H : dowellaw03_ClassTexts.f K a0 a1 = some r) : Calls Try.prog 4 #[.agg #[.int .u64 a0.f0, .int .u64 a0.f1, .int .u64 a0.f2, .int .u64 a0.f3], .agg #[.int .u64 a1.f0, .int .u64 a1.f1, .int .u64 a1.f2, .int .u64 a1.f3]] w (dowellaw03_ClassTexts.R r w) := by
  refine calls_cd (t := #[.agg #[.int .u64 a0.f0, .int .u64 a0.f1, .int .u64 a0.f2, .int .u64 a0.f3], .agg #[.int .u64 a1.f0, .int .u64 a1.f1, .int .u64 a1.f2, .int .u64 a1.f3], undef, undef, undef, undef, undef, undef, undef, undef, undef, undef, undef, undef, undef, undef, undef, undef, undef, undef, undef, undef, undef, undef, undef, undef, undef, undef, undef, undef, undef, undef, undef, undef, undef, undef, undef, undef, undef, undef, undef, undef, undef, undef, undef, undef, undef, undef, undef, undef, undef, undef, undef, undef, undef, undef, undef, undef, undef, undef, undef, undef, undef, undef, undef, undef, undef, undef, undef, undef, undef, undef, undef, undef, undef, undef, undef, undef, undef, undef, undef, undef, undef, undef, undef, undef, undef, undef, undef, undef, undef, undef, undef, undef, undef, undef, undef, undef, undef, undef, undef, undef, undef, undef, undef, undef, undef, undef, undef, undef, undef, undef, undef, undef, undef, undef, undef, undef, undef, undef, undef, undef, undef, undef, undef, undef, undef, undef, undef, undef, undef, undef, undef, undef, undef, undef, undef, undef, undef, undef, undef, undef, undef, undef, undef, undef, undef, undef, undef, undef, undef]) Try.func4 (by kernel_rfl) (by kernel_rfl) ?_
  unfold dowellaw03_ClassTexts.f at H
  have HR : ∀ a w', bodyPost Try.prog Try.f4 (dowellaw03_ClassTexts.R r w) .ret a w' → bodyPost Try.prog Try.f4 (dowellaw03_ClassTexts.R r w) .ret a w' := fun _ _ h => h
  refine w_seq (p := []) (p0 := [0]) (p1 := [1]) (by kernel_rfl) ?_
  refine w_region (p := [0]) (id := 0) (by kernel_rfl) ?_
  refine r_do 0 (by kernel_rfl) (og_box (T := 37) (x := (Operand.tmp 0)) (cs := #[.int .u64 a0.f0, .int .u64 a0.f1, .int .u64 a0.f2, .int .u64 a0.f3]) (by kernel_rfl) (by kernel_rfl) ?_) 
  intro b1433 w1430 e1434 hb1432 k1431
  have g1435 : w.heap.size ≤ b1433 := by rw [e1434]; exact Kp.size (Kp.refl No w)
  clear e1434
  have k1436 := Kp.trans (Kp.refl No w) k1431 (fun _ h => h.elim)
  refine r_do 1 (by kernel_rfl) (og_box (T := 37) (x := (Operand.tmp 1)) (cs := #[.int .u64 a1.f0, .int .u64 a1.f1, .int .u64 a1.f2, .int .u64 a1.f3]) (by kernel_rfl) (by kernel_rfl) ?_) 
  intro b1440 w1437 e1441 hb1439 k1438
  have n1442 : b1433 ≠ b1440 := by rw [e1441]; exact Nat.ne_of_lt hb1432.lt
  have g1443 : w.heap.size ≤ b1440 := by rw [e1441]; exact Kp.size k1436
  clear e1441
  have k1444 := Kp.trans k1436 k1438 (fun _ h => h.elim)
  have hb1445 := Blk.kp hb1432 k1438 id
  refine r_vals 2 3 [.bool false] (by kernel_rfl) (by kernel_rfl) ?_
  refine r_fin 3 (by kernel_rfl) ?_
  refine q_then ?_
  refine w_seq (p := [1]) (p0 := [1, 0]) (p1 := [1, 1]) (by kernel_rfl) ?_
  refine w_drawc (p := [1, 0]) (id := 1) (by kernel_rfl) (by kernel_rfl) [0, 1, 0, 7, 0, 31, 63, 127, 255] 42 [0, 2, 4, 1, 3, 5, 6, 7, 8] (by kernel_rfl) (G := fun w_ => Blk w_ b1433 #[.int .u64 a0.f0, .int .u64 a0.f1, .int .u64 a0.f2, .int .u64 a0.f3] 37 ∧ Blk w_ b1440 #[.int .u64 a1.f0, .int .u64 a1.f1, .int .u64 a1.f2, .int .u64 a1.f3] 37) (fun w_ h_ => ⟨hb1445.same h_, hb1439.same h_⟩) ?_
  intro w1446 k1447 _
  have k1448 := Kp.trans k1444 k1447 (fun _ h => h.elim)
  have hb1449 := Blk.kp hb1445 k1447 id
  have hb1450 := Blk.kp hb1439 k1447 id
  refine c_q (p := [1, 0]) 0 (.agg #[.int .u64 a0.f0, .int .u64 a0.f1, .int .u64 a0.f2, .int .u64 a0.f3]) (by kernel_rfl) (fun w_ hG_ => og_load (T := 37) (x := (Operand.tmp 2)) (b := b1433) (off := 0) (.agg #[.int .u64 a0.f0, .int .u64 a0.f1, .int .u64 a0.f2, .int .u64 a0.f3]) (by kernel_rfl) (by kernel_rfl) hG_.1 (by kernel_rfl) ⟨rfl, rfl⟩) ?_
  refine c_q (p := [1, 0]) 2 (.agg #[.int .u64 a1.f0, .int .u64 a1.f1, .int .u64 a1.f2, .int .u64 a1.f3]) (by kernel_rfl) (fun w_ hG_ => og_load (T := 37) (x := (Operand.tmp 3)) (b := b1440) (off := 0) (.agg #[.int .u64 a1.f0, .int .u64 a1.f1, .int .u64 a1.f2, .int .u64 a1.f3]) (by kernel_rfl) (by kernel_rfl) hG_.2 (by kernel_rfl) ⟨rfl, rfl⟩) ?_
  refine c_q (p := [1, 0]) 4 (.agg #[.int .u64 a0.f0, .int .u64 a0.f1, .int .u64 a0.f2, .int .u64 a0.f3]) (by kernel_rfl) (fun w_ hG_ => og_load (T := 37) (x := (Operand.tmp 2)) (b := b1433) (off := 0) (.agg #[.int .u64 a0.f0, .int .u64 a0.f1, .int .u64 a0.f2, .int .u64 a0.f3]) (by kernel_rfl) (by kernel_rfl) hG_.1 (by kernel_rfl) ⟨rfl, rfl⟩) ?_
  obtain ⟨t1451, ht1452, H⟩ := Option.bind_eq_some_iff.1 H
  refine c_do (p := [1, 0]) 1 (by kernel_rfl) (og_call (g := 18) (av := #[.agg #[.int .u64 a0.f0, .int .u64 a0.f1, .int .u64 a0.f2, .int .u64 a0.f3]]) (by kernel_rfl) ?_) 
  refine (class_Ranges.ok K a0 w1446 t1451 ht1452).mono ?_
  rintro e w1453 ⟨A1456, n1459, c1457, rfl, k1454, ho1460⟩
  obtain rfl := ho1460.len
  refine ⟨_, rfl, ?_⟩
  have n1461 := blk_dj_call hb1449 ho1460
  have n1462 := blk_dj_call hb1450 ho1460
  have ho1458 := Ow.base ho1460 k1448
  have k1463 := Kp.trans k1448 k1454 (fun _ h => h.elim)
  have hb1464 := Blk.kp hb1449 k1454 id
  have hb1465 := Blk.kp hb1450 k1454 id
  refine ⟨⟨hb1464, hb1465⟩, ?_⟩
  obtain ⟨t1466, ht1467, H⟩ := Option.bind_eq_some_iff.1 H
  refine c_do (p := [1, 0]) 3 (by kernel_rfl) (og_call (g := 18) (av := #[.agg #[.int .u64 a1.f0, .int .u64 a1.f1, .int .u64 a1.f2, .int .u64 a1.f3]]) (by kernel_rfl) ?_) 
  refine (class_Ranges.ok K a1 w1453 t1466 ht1467).mono ?_
  rintro e w1468 ⟨A1471, n1474, c1472, rfl, k1469, ho1475⟩
  obtain rfl := ho1475.len
  refine ⟨_, rfl, ?_⟩
  have n1476 := blk_dj_call hb1464 ho1475
  have n1477 := blk_dj_call hb1465 ho1475
  have n1478 := Ow.dj_call ho1458 ho1475
  have ho1473 := Ow.base ho1475 k1463
  have k1479 := Kp.trans k1463 k1469 (fun _ h => h.elim)
  have hb1480 := Blk.kp hb1464 k1469 id
  have hb1481 := Blk.kp hb1465 k1469 id
  have ho1482 := Ow.kpNo ho1458 k1469
  refine ⟨⟨hb1480, hb1481⟩, ?_⟩
  obtain ⟨t1483, ht1484, H⟩ := Option.bind_eq_some_iff.1 H
  refine c_do (p := [1, 0]) 5 (by kernel_rfl) (og_call (g := 18) (av := #[.agg #[.int .u64 a0.f0, .int .u64 a0.f1, .int .u64 a0.f2, .int .u64 a0.f3]]) (by kernel_rfl) ?_) 
  refine (class_Ranges.ok K a0 w1468 t1483 ht1484).mono ?_
  rintro e w1485 ⟨A1488, n1491, c1489, rfl, k1486, ho1492⟩
  obtain rfl := ho1492.len
  refine ⟨_, rfl, ?_⟩
  have n1493 := blk_dj_call hb1480 ho1492
  have n1494 := blk_dj_call hb1481 ho1492
  have n1495 := Ow.dj_call ho1482 ho1492
  have n1496 := Ow.dj_call ho1473 ho1492
  have ho1490 := Ow.base ho1492 k1479
  have k1497 := Kp.trans k1479 k1486 (fun _ h => h.elim)
  have hb1498 := Blk.kp hb1480 k1486 id
  have hb1499 := Blk.kp hb1481 k1486 id
  have ho1500 := Ow.kpNo ho1482 k1486
  have ho1501 := Ow.kpNo ho1473 k1486
  refine ⟨⟨hb1498, hb1499⟩, ?_⟩
  refine c_val (p := [1, 0]) 6 (.slice A1456 t1451.length c1457) (by kernel_rfl) (fun _ => by kernel_rfl) ?_
  refine c_val (p := [1, 0]) 7 (.slice A1471 t1466.length c1472) (by kernel_rfl) (fun _ => by kernel_rfl) ?_
  refine c_val (p := [1, 0]) 8 (.slice A1488 t1483.length c1489) (by kernel_rfl) (fun _ => by kernel_rfl) ?_
  refine c_nil ?_
  refine q_then ?_
  refine w_seq (p := [1, 1]) (p0 := [1, 1, 0]) (p1 := [1, 1, 1]) (by kernel_rfl) ?_
  refine w_drawc (p := [1, 1, 0]) (id := 2) (by kernel_rfl) (by kernel_rfl) [0, 1, 0, 7, 15, 31] 10 [0, 2, 1, 3, 4, 5] (by kernel_rfl) (G := fun w_ => Blk w_ b1433 #[.int .u64 a0.f0, .int .u64 a0.f1, .int .u64 a0.f2, .int .u64 a0.f3] 37 ∧ Blk w_ b1440 #[.int .u64 a1.f0, .int .u64 a1.f1, .int .u64 a1.f2, .int .u64 a1.f3] 37) (fun w_ h_ => ⟨hb1498.same h_, hb1499.same h_⟩) ?_
  intro w1502 k1503 _
  have k1504 := Kp.trans k1497 k1503 (fun _ h => h.elim)
  have hb1505 := Blk.kp hb1498 k1503 id
  have hb1506 := Blk.kp hb1499 k1503 id
  have ho1507 := Ow.kpNo ho1500 k1503
  have ho1508 := Ow.kpNo ho1501 k1503
  have ho1509 := Ow.kpNo ho1490 k1503
  refine c_q (p := [1, 1, 0]) 0 (.agg #[.int .u64 a0.f0, .int .u64 a0.f1, .int .u64 a0.f2, .int .u64 a0.f3]) (by kernel_rfl) (fun w_ hG_ => og_load (T := 37) (x := (Operand.tmp 2)) (b := b1433) (off := 0) (.agg #[.int .u64 a0.f0, .int .u64 a0.f1, .int .u64 a0.f2, .int .u64 a0.f3]) (by kernel_rfl) (by kernel_rfl) hG_.1 (by kernel_rfl) ⟨rfl, rfl⟩) ?_
  refine c_q (p := [1, 1, 0]) 2 (.agg #[.int .u64 a1.f0, .int .u64 a1.f1, .int .u64 a1.f2, .int .u64 a1.f3]) (by kernel_rfl) (fun w_ hG_ => og_load (T := 37) (x := (Operand.tmp 3)) (b := b1440) (off := 0) (.agg #[.int .u64 a1.f0, .int .u64 a1.f1, .int .u64 a1.f2, .int .u64 a1.f3]) (by kernel_rfl) (by kernel_rfl) hG_.2 (by kernel_rfl) ⟨rfl, rfl⟩) ?_
  obtain ⟨t1510, ht1511, H⟩ := Option.bind_eq_some_iff.1 H
  refine c_do (p := [1, 1, 0]) 1 (by kernel_rfl) (og_call (g := 19) (av := #[.agg #[.int .u64 a0.f0, .int .u64 a0.f1, .int .u64 a0.f2, .int .u64 a0.f3]]) (by kernel_rfl) ?_) 
  refine (dowelref03_Ranges.ok K a0 w1502 t1510 ht1511).mono ?_
  rintro e w1512 ⟨A1515, n1518, c1516, rfl, k1513, ho1519⟩
  obtain rfl := ho1519.len
  refine ⟨_, rfl, ?_⟩
  have n1520 := blk_dj_call hb1505 ho1519
  have n1521 := blk_dj_call hb1506 ho1519
  have n1522 := Ow.dj_call ho1507 ho1519
  have n1523 := Ow.dj_call ho1508 ho1519
  have n1524 := Ow.dj_call ho1509 ho1519
  have ho1517 := Ow.base ho1519 k1504
  have k1525 := Kp.trans k1504 k1513 (fun _ h => h.elim)
  have hb1526 := Blk.kp hb1505 k1513 id
  have hb1527 := Blk.kp hb1506 k1513 id
  have ho1528 := Ow.kpNo ho1507 k1513
  have ho1529 := Ow.kpNo ho1508 k1513
  have ho1530 := Ow.kpNo ho1509 k1513
  refine ⟨⟨hb1526, hb1527⟩, ?_⟩
  obtain ⟨t1531, ht1532, H⟩ := Option.bind_eq_some_iff.1 H
  refine c_do (p := [1, 1, 0]) 3 (by kernel_rfl) (og_call (g := 19) (av := #[.agg #[.int .u64 a1.f0, .int .u64 a1.f1, .int .u64 a1.f2, .int .u64 a1.f3]]) (by kernel_rfl) ?_) 
  refine (dowelref03_Ranges.ok K a1 w1512 t1531 ht1532).mono ?_
  rintro e w1533 ⟨A1536, n1539, c1537, rfl, k1534, ho1540⟩
  obtain rfl := ho1540.len
  refine ⟨_, rfl, ?_⟩
  have n1541 := blk_dj_call hb1526 ho1540
  have n1542 := blk_dj_call hb1527 ho1540
  have n1543 := Ow.dj_call ho1528 ho1540
  have n1544 := Ow.dj_call ho1529 ho1540
  have n1545 := Ow.dj_call ho1530 ho1540
  have n1546 := Ow.dj_call ho1517 ho1540
  have ho1538 := Ow.base ho1540 k1525
  have k1547 := Kp.trans k1525 k1534 (fun _ h => h.elim)
  have hb1548 := Blk.kp hb1526 k1534 id
  have hb1549 := Blk.kp hb1527 k1534 id
  have ho1550 := Ow.kpNo ho1528 k1534
  have ho1551 := Ow.kpNo ho1529 k1534
  have ho1552 := Ow.kpNo ho1530 k1534
  have ho1553 := Ow.kpNo ho1517 k1534
  refine ⟨⟨hb1548, hb1549⟩, ?_⟩
  refine c_val (p := [1, 1, 0]) 4 (.slice A1515 t1510.length c1516) (by kernel_rfl) (fun _ => by kernel_rfl) ?_
  refine c_val (p := [1, 1, 0]) 5 (.slice A1536 t1531.length c1537) (by kernel_rfl) (fun _ => by kernel_rfl) ?_
  refine c_nil ?_
  refine q_then ?_
  refine w_seq (p := [1, 1, 1]) (p0 := [1, 1, 1, 0]) (p1 := [1, 1, 1, 1]) (by kernel_rfl) ?_
  refine w_seq (p := [1, 1, 1, 0]) (p0 := [1, 1, 1, 0, 0]) (p1 := [1, 1, 1, 0, 1]) (by kernel_rfl) ?_
  refine w_drawc (p := [1, 1, 1, 0, 0]) (id := 3) (by kernel_rfl) (by kernel_rfl) [0, 0, 3, 7, 15, 31, 31, 127, 255, 511, 1023, 2047, 2047, 8191, 16383, 32767, 65535, 131071, 262143, 131071, 1048575, 2097151, 4194303] 1319044 [0, 1, 2, 3, 4, 5, 6, 7, 8, 9, 10, 11, 12, 13, 14, 15, 16, 17, 19, 18, 20, 21, 22] (by kernel_rfl) (G := fun w_ => Blk w_ b1433 #[.int .u64 a0.f0, .int .u64 a0.f1, .int .u64 a0.f2, .int .u64 a0.f3] 37) (fun w_ h_ => hb1548.same h_) ?_
  intro w1554 k1555 _
  have k1556 := Kp.trans k1547 k1555 (fun _ h => h.elim)
  have hb1557 := Blk.kp hb1548 k1555 id
  have hb1558 := Blk.kp hb1549 k1555 id
  have ho1559 := Ow.kpNo ho1550 k1555
  have ho1560 := Ow.kpNo ho1551 k1555
  have ho1561 := Ow.kpNo ho1552 k1555
  have ho1562 := Ow.kpNo ho1553 k1555
  have ho1563 := Ow.kpNo ho1538 k1555
  refine c_val (p := [1, 1, 1, 0, 0]) 0 (.slice A1456 t1451.length c1457) (by kernel_rfl) (fun _ => by kernel_rfl) ?_
  refine c_val (p := [1, 1, 1, 0, 0]) 1 (.slice A1515 t1510.length c1516) (by kernel_rfl) (fun _ => by kernel_rfl) ?_
  obtain ⟨t1564, ht1565, H⟩ := Option.bind_eq_some_iff.1 H
  refine c_do (p := [1, 1, 1, 0, 0]) 2 (by kernel_rfl) (og_call (g := 20) (av := #[.slice A1456 t1451.length c1457, .slice A1515 t1510.length c1516]) (by kernel_rfl) ?_) 
  refine (dowellaw03_sameRanges.ok K A1456 c1457 t1451 A1515 c1516 t1510 t1451.length t1510.length w1554 (Ow.rdNo ho1559) (Ow.cap ho1559) (Ow.rdNo ho1562) (Ow.cap ho1562) (Ow.len ho1559) (Ow.len ho1562) t1564 ht1565).mono ?_
  rintro e w1566 ⟨rfl, k1567⟩
  refine ⟨_, rfl, ?_⟩
  have k1568 := Kp.trans k1556 k1567 (fun _ h => h.elim)
  have hb1569 := Blk.kp hb1557 k1567 id
  have hb1570 := Blk.kp hb1558 k1567 id
  have ho1571 := Ow.kpNo ho1559 k1567
  have ho1572 := Ow.kpNo ho1560 k1567
  have ho1573 := Ow.kpNo ho1561 k1567
  have ho1574 := Ow.kpNo ho1562 k1567
  have ho1575 := Ow.kpNo ho1563 k1567
  refine ⟨hb1569, ?_⟩
  refine c_val (p := [1, 1, 1, 0, 0]) 3 (.bool (!t1564)) (by kernel_rfl) (fun _ => by kernel_rfl) ?_
  refine c_val (p := [1, 1, 1, 0, 0]) 4 (.bool (!t1564)) (by kernel_rfl) (fun _ => by kernel_rfl) ?_
  refine b_split (!t1564) (fun h_ => ?_) (fun h_ => ?_)
  · have h1576 : ¬ (t1564 = true) := bnot_t h_
    rw [if_pos h1576] at H
    rw [h_]
    clear h_
    refine c_val (p := [1, 1, 1, 0, 0]) 5 (undef) (by kernel_rfl) (fun _ => by kernel_rfl) ?_
    refine c_val (p := [1, 1, 1, 0, 0]) 6 (undef) (by kernel_rfl) (fun _ => by kernel_rfl) ?_
    refine c_skip (p := [1, 1, 1, 0, 0]) 7 (by kernel_rfl) ?_
    refine c_val (p := [1, 1, 1, 0, 0]) 8 (undef) (by kernel_rfl) (fun _ => by kernel_rfl) ?_
    refine c_val (p := [1, 1, 1, 0, 0]) 9 (.bool true) (by kernel_rfl) (fun _ => by kernel_rfl) ?_
    refine c_val (p := [1, 1, 1, 0, 0]) 10 (.bool true) (by kernel_rfl) (fun _ => by kernel_rfl) ?_
    refine c_val (p := [1, 1, 1, 0, 0]) 11 (undef) (by kernel_rfl) (fun _ => by kernel_rfl) ?_
    refine c_val (p := [1, 1, 1, 0, 0]) 12 (undef) (by kernel_rfl) (fun _ => by kernel_rfl) ?_
    refine c_skip (p := [1, 1, 1, 0, 0]) 13 (by kernel_rfl) ?_
    refine c_val (p := [1, 1, 1, 0, 0]) 14 (undef) (by kernel_rfl) (fun _ => by kernel_rfl) ?_
    refine c_val (p := [1, 1, 1, 0, 0]) 15 (.bool true) (by kernel_rfl) (fun _ => by kernel_rfl) ?_
    refine c_val (p := [1, 1, 1, 0, 0]) 16 (.bool true) (by kernel_rfl) (fun _ => by kernel_rfl) ?_
    refine c_val (p := [1, 1, 1, 0, 0]) 17 (undef) (by kernel_rfl) (fun _ => by kernel_rfl) ?_
    refine c_val (p := [1, 1, 1, 0, 0]) 19 (undef) (by kernel_rfl) (fun _ => by kernel_rfl) ?_
    refine c_skip (p := [1, 1, 1, 0, 0]) 18 (by kernel_rfl) ?_
    refine c_skip (p := [1, 1, 1, 0, 0]) 20 (by kernel_rfl) ?_
    refine c_val (p := [1, 1, 1, 0, 0]) 21 (undef) (by kernel_rfl) (fun _ => by kernel_rfl) ?_
    refine c_val (p := [1, 1, 1, 0, 0]) 22 (.bool true) (by kernel_rfl) (fun _ => by kernel_rfl) ?_
    refine c_nil ?_
    refine q_then ?_
    refine w_into (dowellaw03_ClassTexts.j0F b1433 A1456 t1451 c1457 A1471 t1466 c1472 A1488 t1483 c1489 A1515 t1510 c1516 true) (by kernel_rfl) (fun u_ => ?_)
    exact dowellaw03_ClassTexts.j0.ok K a0 a1 w r b1433 A1456 t1451 c1457 A1471 t1466 c1472 A1488 t1483 c1489 A1515 t1510 c1516 HR  true u_ w1566 k1568 hb1569 g1435 ho1571 ho1572 ho1573 ho1574 n1461 n1476 n1493 n1520 n1478 n1495 n1522 n1496 n1523 n1524 H
  · have h1576 : ¬ (¬ (t1564 = true)) := bnot_f h_
    rw [if_neg h1576] at H
    rw [h_]
    clear h_
    refine c_val (p := [1, 1, 1, 0, 0]) 5 (.slice A1471 t1466.length c1472) (by kernel_rfl) (fun _ => by kernel_rfl) ?_
    refine c_val (p := [1, 1, 1, 0, 0]) 6 (.slice A1536 t1531.length c1537) (by kernel_rfl) (fun _ => by kernel_rfl) ?_
    obtain ⟨t1577, ht1578, H⟩ := Option.bind_eq_some_iff.1 H
    refine c_do (p := [1, 1, 1, 0, 0]) 7 (by kernel_rfl) (og_call (g := 20) (av := #[.slice A1471 t1466.length c1472, .slice A1536 t1531.length c1537]) (by kernel_rfl) ?_) 
    refine (dowellaw03_sameRanges.ok K A1471 c1472 t1466 A1536 c1537 t1531 t1466.length t1531.length w1566 (Ow.rdNo ho1572) (Ow.cap ho1572) (Ow.rdNo ho1575) (Ow.cap ho1575) (Ow.len ho1572) (Ow.len ho1575) t1577 ht1578).mono ?_
    rintro e w1579 ⟨rfl, k1580⟩
    refine ⟨_, rfl, ?_⟩
    have k1581 := Kp.trans k1568 k1580 (fun _ h => h.elim)
    have hb1582 := Blk.kp hb1569 k1580 id
    have hb1583 := Blk.kp hb1570 k1580 id
    have ho1584 := Ow.kpNo ho1571 k1580
    have ho1585 := Ow.kpNo ho1572 k1580
    have ho1586 := Ow.kpNo ho1573 k1580
    have ho1587 := Ow.kpNo ho1574 k1580
    have ho1588 := Ow.kpNo ho1575 k1580
    refine ⟨hb1582, ?_⟩
    refine c_val (p := [1, 1, 1, 0, 0]) 8 (.bool (!t1577)) (by kernel_rfl) (fun _ => by kernel_rfl) ?_
    refine c_val (p := [1, 1, 1, 0, 0]) 9 (.bool (!t1577)) (by kernel_rfl) (fun _ => by kernel_rfl) ?_
    refine c_val (p := [1, 1, 1, 0, 0]) 10 (.bool (!t1577)) (by kernel_rfl) (fun _ => by kernel_rfl) ?_
    refine b_split (!t1577) (fun h_ => ?_) (fun h_ => ?_)
    · have h1589 : ¬ (t1577 = true) := bnot_t h_
      rw [if_pos h1589] at H
      rw [h_]
      clear h_
      refine c_val (p := [1, 1, 1, 0, 0]) 11 (undef) (by kernel_rfl) (fun _ => by kernel_rfl) ?_
      refine c_val (p := [1, 1, 1, 0, 0]) 12 (undef) (by kernel_rfl) (fun _ => by kernel_rfl) ?_
      refine c_skip (p := [1, 1, 1, 0, 0]) 13 (by kernel_rfl) ?_
      refine c_val (p := [1, 1, 1, 0, 0]) 14 (undef) (by kernel_rfl) (fun _ => by kernel_rfl) ?_
      refine c_val (p := [1, 1, 1, 0, 0]) 15 (.bool true) (by kernel_rfl) (fun _ => by kernel_rfl) ?_
      refine c_val (p := [1, 1, 1, 0, 0]) 16 (.bool true) (by kernel_rfl) (fun _ => by kernel_rfl) ?_
      refine c_val (p := [1, 1, 1, 0, 0]) 17 (undef) (by kernel_rfl) (fun _ => by kernel_rfl) ?_
      refine c_val (p := [1, 1, 1, 0, 0]) 19 (undef) (by kernel_rfl) (fun _ => by kernel_rfl) ?_
      refine c_skip (p := [1, 1, 1, 0, 0]) 18 (by kernel_rfl) ?_
      refine c_skip (p := [1, 1, 1, 0, 0]) 20 (by kernel_rfl) ?_
      refine c_val (p := [1, 1, 1, 0, 0]) 21 (undef) (by kernel_rfl) (fun _ => by kernel_rfl) ?_
      refine c_val (p := [1, 1, 1, 0, 0]) 22 (.bool true) (by kernel_rfl) (fun _ => by kernel_rfl) ?_
      refine c_nil ?_
      refine q_then ?_
      refine w_into (dowellaw03_ClassTexts.j0F b1433 A1456 t1451 c1457 A1471 t1466 c1472 A1488 t1483 c1489 A1515 t1510 c1516 true) (by kernel_rfl) (fun u_ => ?_)
      exact dowellaw03_ClassTexts.j0.ok K a0 a1 w r b1433 A1456 t1451 c1457 A1471 t1466 c1472 A1488 t1483 c1489 A1515 t1510 c1516 HR  true u_ w1579 k1581 hb1582 g1435 ho1584 ho1585 ho1586 ho1587 n1461 n1476 n1493 n1520 n1478 n1495 n1522 n1496 n1523 n1524 H
    · have h1589 : ¬ (¬ (t1577 = true)) := bnot_f h_
      rw [if_neg h1589] at H
      rw [h_]
      clear h_
      refine c_val (p := [1, 1, 1, 0, 0]) 11 (.slice A1488 t1483.length c1489) (by kernel_rfl) (fun _ => by kernel_rfl) ?_
      refine c_val (p := [1, 1, 1, 0, 0]) 12 (.slice A1515 t1510.length c1516) (by kernel_rfl) (fun _ => by kernel_rfl) ?_
      obtain ⟨t1590, ht1591, H⟩ := Option.bind_eq_some_iff.1 H
      refine c_do (p := [1, 1, 1, 0, 0]) 13 (by kernel_rfl) (og_call (g := 20) (av := #[.slice A1488 t1483.length c1489, .slice A1515 t1510.length c1516]) (by kernel_rfl) ?_) 
      refine (dowellaw03_sameRanges.ok K A1488 c1489 t1483 A1515 c1516 t1510 t1483.length t1510.length w1579 (Ow.rdNo ho1586) (Ow.cap ho1586) (Ow.rdNo ho1587) (Ow.cap ho1587) (Ow.len ho1586) (Ow.len ho1587) t1590 ht1591).mono ?_
      rintro e w1592 ⟨rfl, k1593⟩
      refine ⟨_, rfl, ?_⟩
      have k1594 := Kp.trans k1581 k1593 (fun _ h => h.elim)
      have hb1595 := Blk.kp hb1582 k1593 id
      have hb1596 := Blk.kp hb1583 k1593 id
      have ho1597 := Ow.kpNo ho1584 k1593
      have ho1598 := Ow.kpNo ho1585 k1593
      have ho1599 := Ow.kpNo ho1586 k1593
      have ho1600 := Ow.kpNo ho1587 k1593
      have ho1601 := Ow.kpNo ho1588 k1593
      refine ⟨hb1595, ?_⟩
      refine c_val (p := [1, 1, 1, 0, 0]) 14 (.bool (!t1590)) (by kernel_rfl) (fun _ => by kernel_rfl) ?_
      refine c_val (p := [1, 1, 1, 0, 0]) 15 (.bool (!t1590)) (by kernel_rfl) (fun _ => by kernel_rfl) ?_
      refine c_val (p := [1, 1, 1, 0, 0]) 16 (.bool (!t1590)) (by kernel_rfl) (fun _ => by kernel_rfl) ?_
      refine b_split (!t1590) (fun h_ => ?_) (fun h_ => ?_)
      · have h1602 : ¬ (t1590 = true) := bnot_t h_
        rw [if_pos h1602] at H
        rw [h_]
        clear h_
        refine c_val (p := [1, 1, 1, 0, 0]) 17 (undef) (by kernel_rfl) (fun _ => by kernel_rfl) ?_
        refine c_val (p := [1, 1, 1, 0, 0]) 19 (undef) (by kernel_rfl) (fun _ => by kernel_rfl) ?_
        refine c_skip (p := [1, 1, 1, 0, 0]) 18 (by kernel_rfl) ?_
        refine c_skip (p := [1, 1, 1, 0, 0]) 20 (by kernel_rfl) ?_
        refine c_val (p := [1, 1, 1, 0, 0]) 21 (undef) (by kernel_rfl) (fun _ => by kernel_rfl) ?_
        refine c_val (p := [1, 1, 1, 0, 0]) 22 (.bool true) (by kernel_rfl) (fun _ => by kernel_rfl) ?_
        refine c_nil ?_
        refine q_then ?_
        refine w_into (dowellaw03_ClassTexts.j0F b1433 A1456 t1451 c1457 A1471 t1466 c1472 A1488 t1483 c1489 A1515 t1510 c1516 true) (by kernel_rfl) (fun u_ => ?_)
        exact dowellaw03_ClassTexts.j0.ok K a0 a1 w r b1433 A1456 t1451 c1457 A1471 t1466 c1472 A1488 t1483 c1489 A1515 t1510 c1516 HR  true u_ w1592 k1594 hb1595 g1435 ho1597 ho1598 ho1599 ho1600 n1461 n1476 n1493 n1520 n1478 n1495 n1522 n1496 n1523 n1524 H
      · have h1602 : ¬ (¬ (t1590 = true)) := bnot_f h_
        rw [if_neg h1602] at H
        rw [h_]
        clear h_
        refine c_q (p := [1, 1, 1, 0, 0]) 17 (.agg #[.int .u64 a0.f0, .int .u64 a0.f1, .int .u64 a0.f2, .int .u64 a0.f3]) (by kernel_rfl) (fun w_ hG_ => og_load (T := 37) (x := (Operand.tmp 2)) (b := b1433) (off := 0) (.agg #[.int .u64 a0.f0, .int .u64 a0.f1, .int .u64 a0.f2, .int .u64 a0.f3]) (by kernel_rfl) (by kernel_rfl) hG_ (by kernel_rfl) ⟨rfl, rfl⟩) ?_
        refine c_q (p := [1, 1, 1, 0, 0]) 19 (.agg #[.int .u64 a0.f0, .int .u64 a0.f1, .int .u64 a0.f2, .int .u64 a0.f3]) (by kernel_rfl) (fun w_ hG_ => og_load (T := 37) (x := (Operand.tmp 2)) (b := b1433) (off := 0) (.agg #[.int .u64 a0.f0, .int .u64 a0.f1, .int .u64 a0.f2, .int .u64 a0.f3]) (by kernel_rfl) (by kernel_rfl) hG_ (by kernel_rfl) ⟨rfl, rfl⟩) ?_
        obtain ⟨t1603, ht1604, H⟩ := Option.bind_eq_some_iff.1 H
        refine c_do (p := [1, 1, 1, 0, 0]) 18 (by kernel_rfl) (og_call (g := 21) (av := #[.agg #[.int .u64 a0.f0, .int .u64 a0.f1, .int .u64 a0.f2, .int .u64 a0.f3]]) (by kernel_rfl) ?_) 
        refine (class_Text.ok K a0 w1592 t1603 ht1604).mono ?_
        rintro e w1605 ⟨rfl, k1606⟩
        refine ⟨_, rfl, ?_⟩
        have k1607 := Kp.trans k1594 k1606 (fun _ h => h.elim)
        have hb1608 := Blk.kp hb1595 k1606 id
        have hb1609 := Blk.kp hb1596 k1606 id
        have ho1610 := Ow.kpNo ho1597 k1606
        have ho1611 := Ow.kpNo ho1598 k1606
        have ho1612 := Ow.kpNo ho1599 k1606
        have ho1613 := Ow.kpNo ho1600 k1606
        have ho1614 := Ow.kpNo ho1601 k1606
        refine ⟨hb1608, ?_⟩
        obtain ⟨t1615, ht1616, H⟩ := Option.bind_eq_some_iff.1 H
        refine c_do (p := [1, 1, 1, 0, 0]) 20 (by kernel_rfl) (og_call (g := 22) (av := #[.agg #[.int .u64 a0.f0, .int .u64 a0.f1, .int .u64 a0.f2, .int .u64 a0.f3]]) (by kernel_rfl) ?_) 
        refine (dowelref03_Text.ok K a0 w1605 t1615 ht1616).mono ?_
        rintro e w1617 ⟨rfl, k1618⟩
        refine ⟨_, rfl, ?_⟩
        have k1619 := Kp.trans k1607 k1618 (fun _ h => h.elim)
        have hb1620 := Blk.kp hb1608 k1618 id
        have hb1621 := Blk.kp hb1609 k1618 id
        have ho1622 := Ow.kpNo ho1610 k1618
        have ho1623 := Ow.kpNo ho1611 k1618
        have ho1624 := Ow.kpNo ho1612 k1618
        have ho1625 := Ow.kpNo ho1613 k1618
        have ho1626 := Ow.kpNo ho1614 k1618
        refine ⟨hb1620, ?_⟩
        refine c_val (p := [1, 1, 1, 0, 0]) 21 (.bool (!(t1603.toList == t1615.toList))) (by kernel_rfl) (fun _ => by kernel_rfl) ?_
        refine c_val (p := [1, 1, 1, 0, 0]) 22 (.bool (!(t1603.toList == t1615.toList))) (by kernel_rfl) (fun _ => by kernel_rfl) ?_
        refine c_nil ?_
        refine q_then ?_
        refine w_into (dowellaw03_ClassTexts.j0F b1433 A1456 t1451 c1457 A1471 t1466 c1472 A1488 t1483 c1489 A1515 t1510 c1516 (!(t1603.toList == t1615.toList))) (by kernel_rfl) (fun u_ => ?_)
        exact dowellaw03_ClassTexts.j0.ok K a0 a1 w r b1433 A1456 t1451 c1457 A1471 t1466 c1472 A1488 t1483 c1489 A1515 t1510 c1516 HR  (!(t1603.toList == t1615.toList)) u_ w1617 k1619 hb1620 g1435 ho1622 ho1623 ho1624 ho1625 n1461 n1476 n1493 n1520 n1478 n1495 n1522 n1496 n1523 n1524 H
end Go.Proofs.Ytampekcanmakkaa.G
