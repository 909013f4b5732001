/- What the functions compute, and that the calls come to it: printed by a program. -/
import Derived.Test.YtampekcanmakkaaBase19
import Derived.Test.YtampekcanmakkaaProg
set_option linter.unusedVariables false
namespace Go.Proofs.Ytampekcanmakkaa.G
open Go Go.RowKit Go.Proofs
structure Tapi_Class where
  f0 : Int
  f1 : Int
  f2 : Int
  f3 : Int
def zapi_Class : Tapi_Class := ⟨0, 0, 0, 0⟩
def Kapi_Class (e : TypeId) : Kn Tapi_Class := ⟨4, e, fun x => [.int .u64 x.f0, .int .u64 x.f1, .int .u64 x.f2, .int .u64 x.f3], fun _ => rfl, fun x u hu => by simp at hu; rcases hu with rfl | rfl | rfl | rfl <;> rfl⟩
structure Tapi_Range where
  f0 : Int
  f1 : Int
def zapi_Range : Tapi_Range := ⟨0, 0⟩
def Kapi_Range (e : TypeId) : Kn Tapi_Range := ⟨2, e, fun x => [.int .u8 x.f0, .int .u8 x.f1], fun _ => rfl, fun x u hu => by simp at hu; rcases hu with rfl | rfl <;> rfl⟩

/-! ### dowel/class.Has -/
def class_Has.f (K : Nat) (a0 : Tapi_Class) (a1 : Int) : Option (Bool) := if 0 ≤ (shv .shr .u8 a1 6) then (if (shv .shr .u8 a1 6) < 4 then (if 0 ≤ (bits .and .u8 a1 63) then (some ((bits .and .u64 (shv .shr .u64 (rd 0 [a0.f0, a0.f1, a0.f2, a0.f3] (shv .shr .u8 a1 6)) (bits .and .u8 a1 63)) 1) != 0)) else none) else none) else none
def class_Has.R (r : Bool) (w : World) : Ending → World → Prop := fun e w' => e = .returned (.bool r) ∧ Kp No w w'
set_option maxRecDepth 20000 in
set_option maxHeartbeats 4000000 in
theorem class_Has.ok (K : Nat) (a0 : Tapi_Class) (a1 : Int) (w : World)  (r : Bool) (H : class_Has.f K a0 a1 = some r) : Calls Try.prog 70 #[.agg #[.int .u64 a0.f0, .int .u64 a0.f1, .int .u64 a0.f2, .int .u64 a0.f3], .int .u8 a1] w (class_Has.R r w) := by
  refine calls_cd (t := #[.agg #[.int .u64 a0.f0, .int .u64 a0.f1, .int .u64 a0.f2, .int .u64 a0.f3], .int .u8 a1, undef, undef, undef, undef, undef, undef, undef, undef, undef, undef, undef, undef]) Try.func70 (by kernel_rfl) (by kernel_rfl) ?_
  unfold class_Has.f at H
  have HR : ∀ a w', bodyPost Try.prog Try.f70 (class_Has.R r w) .ret a w' → bodyPost Try.prog Try.f70 (class_Has.R r w) .ret a w' := fun _ _ h => h
  refine w_seq (p := []) (p0 := [0]) (p1 := [1]) (by kernel_rfl) ?_
  refine w_region (p := [0]) (id := 0) (by kernel_rfl) ?_
  refine r_do 0 (by kernel_rfl) (og_box (T := 37) (x := (Operand.tmp 0)) (cs := #[.int .u64 a0.f0, .int .u64 a0.f1, .int .u64 a0.f2, .int .u64 a0.f3]) (by kernel_rfl) (by kernel_rfl) ?_) 
  intro b4 w1 e5 hb3 k2
  have g6 : w.heap.size ≤ b4 := by rw [e5]; exact Kp.size (Kp.refl No w)
  clear e5
  have k7 := Kp.trans (Kp.refl No w) k2 (fun _ h => h.elim)
  refine r_vals 1 2 [.bool false] (by kernel_rfl) (by kernel_rfl) ?_
  refine r_fin 2 (by kernel_rfl) ?_
  refine q_then ?_
  refine w_seq (p := [1]) (p0 := [1, 0]) (p1 := [1, 1]) (by kernel_rfl) ?_
  refine w_region (p := [1, 0]) (id := 1) (by kernel_rfl) ?_
  refine r_vals 0 2 [.int .u8 a1, .int .u8 (shv .shr .u8 a1 6)] (by kernel_rfl) (by kernel_rfl) ?_
  refine p_split (0 ≤ (shv .shr .u8 a1 6)) (fun h8 => ?_) (fun h8 => ?_)
  · rw [if_pos h8] at H
    refine p_split ((shv .shr .u8 a1 6) < 4) (fun h9 => ?_) (fun h9 => ?_)
    · rw [if_pos h9] at H
      refine r_do 2 (by kernel_rfl) (og_indexA (T := 37) (n := 4) (e := 35) (sz := 1) (b := b4) (off := 0) (iv := (shv .shr .u8 a1 6)) (x := (Operand.tmp 2)) (y := (Operand.tmp 6)) (k := .u8) (by kernel_rfl) (by kernel_rfl) (by kernel_rfl) (by kernel_rfl) h8 h9 ?_) 
      refine r_do 3 (by kernel_rfl) (og_loadA (K := (kInt .u64 35)) (T := 35) (x := (Operand.tmp 7)) (b := b4) (base := 0) (off := 0) (xs := [a0.f0, a0.f1, a0.f2, a0.f3]) (iv := (shv .shr .u8 a1 6)) 0 (.int .u64 (rd 0 [a0.f0, a0.f1, a0.f2, a0.f3] (shv .shr .u8 a1 6))) (by kernel_rfl) (by kernel_rfl) hb3 (by kernel_rfl) h8 h9 (by kernel_rfl) ?_) 
      refine r_vals 4 6 [.int .u8 a1, .int .u8 (bits .and .u8 a1 63)] (by kernel_rfl) (by kernel_rfl) ?_
      refine p_split (0 ≤ (bits .and .u8 a1 63)) (fun h10 => ?_) (fun h10 => ?_)
      · rw [if_pos h10] at H
        refine r_do 6 (by kernel_rfl) (og_shift (op := .shr) (T := 35) (U := 5) (x := (Operand.tmp 8)) (y := (Operand.tmp 10)) (k := .u64) (k' := .u8) (a := (rd 0 [a0.f0, a0.f1, a0.f2, a0.f3] (shv .shr .u8 a1 6))) (b := (bits .and .u8 a1 63)) (by simp) (by kernel_rfl) (by kernel_rfl) (by kernel_rfl) h10 ?_) 
        refine r_vals 7 10 [.int .u64 (bits .and .u64 (shv .shr .u64 (rd 0 [a0.f0, a0.f1, a0.f2, a0.f3] (shv .shr .u8 a1 6)) (bits .and .u8 a1 63)) 1), .bool ((bits .and .u64 (shv .shr .u64 (rd 0 [a0.f0, a0.f1, a0.f2, a0.f3] (shv .shr .u8 a1 6)) (bits .and .u8 a1 63)) 1) != 0), .bool ((bits .and .u64 (shv .shr .u64 (rd 0 [a0.f0, a0.f1, a0.f2, a0.f3] (shv .shr .u8 a1 6)) (bits .and .u8 a1 63)) 1) != 0)] (by kernel_rfl) (by kernel_rfl) ?_
        refine r_fin 10 (by kernel_rfl) ?_
        refine q_then ?_
        refine w_ret (p := [1, 1]) (by kernel_rfl) ?_
        obtain rfl := Option.some.inj H
        refine HR _ _ (body_ret (vs := [.bool ((bits .and .u64 (shv .shr .u64 (rd 0 [a0.f0, a0.f1, a0.f2, a0.f3] (shv .shr .u8 a1 6)) (bits .and .u8 a1 63)) 1) != 0)]) (rv_tmp (by kernel_rfl) rfl) rfl ?_)
        exact ⟨rfl, k7⟩
      · rw [if_neg h10] at H
        cases H
    · rw [if_neg h9] at H
      cases H
  · rw [if_neg h8] at H
    cases H
/-! ### dowel/class.Ranges -/

def has (a : Tapi_Class) (b : Int) : Bool := (class_Has.f 0 a b).getD false
theorem byte_all {p : Int → Prop} (h : ∀ n : Nat, n < 256 → p (n : Int)) (b : Int) (h0 : 0 ≤ b) (h1 : b < 256) : p b := by
  have := h b.toNat (by omega)
  rwa [Int.toNat_of_nonneg h0] at this
theorem shr6 : ∀ b : Int, 0 ≤ b → b < 256 → 0 ≤ shv .shr .u8 b 6 ∧ shv .shr .u8 b 6 < 4 ∧ 0 ≤ bits .and .u8 b 63 ∧ bits .and .u8 b 63 < 64 ∧ shv .shr .u8 b 6 = b / 64 ∧ bits .and .u8 b 63 = b % 64 :=
  byte_all (by decide +kernel)
theorem has_some (K : Nat) (a : Tapi_Class) (b : Int) (h0 : 0 ≤ b) (h1 : b < 256) : class_Has.f K a b = some (has a b) := by
  obtain ⟨e1, e2, e3, _⟩ := shr6 b h0 h1
  have : (class_Has.f K a b).isSome = true := by
    unfold class_Has.f
    rw [if_pos e1, if_pos e2, if_pos e3]
    rfl
  obtain ⟨v, hv⟩ := Option.isSome_iff_exists.1 this
  have h2 : class_Has.f 0 a b = some v := hv
  unfold has
  rw [h2, hv]
  rfl
/-- The bytes of a class below a number, rising. -/
def upto (a : Tapi_Class) (k : Nat) : List Int := ((List.range k).filter fun b : Nat => has a (b : Int)).map Int.ofNat
def bytesOf (a : Tapi_Class) : List Int := upto a 256
theorem upto_succ (a : Tapi_Class) (k : Nat) : upto a (k + 1) = upto a k ++ if has a (k : Int) = true then [(k : Int)] else [] := by
  unfold upto
  rw [List.range_succ, List.filter_append, List.map_append]
  congr 1
  by_cases h : has a (k : Int) = true
  · simp [h]
  · simp [h]
theorem upto_prefix (a : Tapi_Class) : ∀ (d k : Nat), k + d = 256 → upto a k <+: bytesOf a
  | 0, k, h => by rw [show k = 256 by omega]; exact List.prefix_refl _
  | d + 1, k, h => by
    refine List.IsPrefix.trans ?_ (upto_prefix a d (k + 1) (by omega))
    rw [upto_succ]
    exact List.prefix_append _ _
theorem upto_len (a : Tapi_Class) (k : Nat) : (upto a k).length ≤ k := by
  unfold upto
  rw [List.length_map]
  exact Nat.le_trans (List.length_filter_le _ _) (by simp)
def EF (l Bn : Nat) (k : Int) (u : Nat → Value) : Array Value := #[.func (.yield l) #[] #[], .pointer (some ⟨Bn, 0, none⟩), u 2, u 3, .int .i64 k, u 5, u 6, u 7, u 8, u 9, u 10, u 11, u 12, u 13, u 14, u 15, u 16, u 17, u 18]
def cellsC (a : Tapi_Class) : Array Value := #[.int .u64 a.f0, .int .u64 a.f1, .int .u64 a.f2, .int .u64 a.f3]
theorem each_round (n : Nat) (a : Tapi_Class) (l Bn : Nat) (J Jx : List Int → World → Prop) {B : Nat} (hJ : AbidesFrom B J)
    (hY : ∀ pre x W1, J pre W1 → pre.length < 256 → YieldAt Fence.wide (n - 1) Try.prog l #[.int .u8 x] W1 fun e X' => (e = .returned (.bool true) ∧ J (pre ++ [x]) X' ∧ X'.heap[Bn]? = W1.heap[Bn]?) ∨ (e = .returned (.bool false) ∧ Jx (pre ++ [x]) X'))
    {Q : Exit → Act → World → Prop} (hQ : ∀ u X, J (bytesOf a) X → Q (.exit 0) ⟨u, []⟩ X) (hR : ∀ u pre X, pre <+: bytesOf a → Jx pre X → Q .ret ⟨u, []⟩ X) :
    ∀ (d k : Nat) (u : Nat → Value) (X : World), k + d = 256 → J (upto a k) X → Blk X Bn (cellsC a) 37 → Code.roundsIn Fence.wide n Try.prog (cd Try.f102 [1, 0, 0]) Q (d + 1) ⟨EF l Bn k u, []⟩ X := by
  intro d
  induction d with
  | zero =>
    intro k u X hk hj hb
    show (cd Try.f102 [1, 0, 0]).wpIn Fence.wide n Try.prog _ _ _
    refine v_seq (p0 := [1, 0, 0, 0]) (p1 := [1, 0, 0, 1]) (by kernel_rfl) ?_
    refine v_region (id := 1) (by kernel_rfl) ?_
    refine v_vals wd_wide 0 1 [.bool (decide ((k : Int) < 256))] (by kernel_rfl) (by kernel_rfl) ?_
    refine v_fin 1 (by kernel_rfl) ?_
    refine q_then ?_
    refine v_seq (p0 := [1, 0, 0, 1, 0]) (p1 := [1, 0, 0, 1, 1]) (by kernel_rfl) ?_
    refine v_cond (p0 := [1, 0, 0, 1, 0, 0]) (p1 := [1, 0, 0, 1, 0, 1]) (c := Operand.tmp 5) (b := decide ((k : Int) < 256)) (by kernel_rfl) (by kernel_rfl) (fun h => absurd (of_decide_eq_true h) (by omega)) (fun _ => ?_)
    refine v_exit (id := 0) (by kernel_rfl) ?_
    refine q_then_x ?_
    refine q_then_x ?_
    rw [show k = 256 by omega] at hj
    exact hQ _ _ hj
  | succ d ih =>
    intro k u X hk hj hb
    have hw8 : W8 (k : Int) = (k : Int) := by rw [W8_eq]; omega
    show (cd Try.f102 [1, 0, 0]).wpIn Fence.wide n Try.prog _ _ _
    refine v_seq (p0 := [1, 0, 0, 0]) (p1 := [1, 0, 0, 1]) (by kernel_rfl) ?_
    refine v_region (id := 1) (by kernel_rfl) ?_
    refine v_vals wd_wide 0 1 [.bool (decide ((k : Int) < 256))] (by kernel_rfl) (by kernel_rfl) ?_
    refine v_fin 1 (by kernel_rfl) ?_
    refine q_then ?_
    refine v_seq (p0 := [1, 0, 0, 1, 0]) (p1 := [1, 0, 0, 1, 1]) (by kernel_rfl) ?_
    refine v_cond (p0 := [1, 0, 0, 1, 0, 0]) (p1 := [1, 0, 0, 1, 0, 1]) (c := Operand.tmp 5) (b := decide ((k : Int) < 256)) (by kernel_rfl) (by kernel_rfl) (fun _ => ?_) (fun h => absurd (of_decide_eq_false h) (by omega))
    refine v_skip (by kernel_rfl) ?_
    refine q_then ?_
    refine v_seq (p0 := [1, 0, 0, 1, 1, 0]) (p1 := [1, 0, 0, 1, 1, 1]) (by kernel_rfl) ?_
    refine v_block (id := 1) (p0 := [1, 0, 0, 1, 1, 0, 0]) (by kernel_rfl) ?_
    refine v_seq (p0 := [1, 0, 0, 1, 1, 0, 0, 0]) (p1 := [1, 0, 0, 1, 1, 0, 0, 1]) (by kernel_rfl) ?_
    refine v_region (id := 2) (by kernel_rfl) ?_
    refine v_vals wd_wide 0 2 [.int .i64 k, .int .i64 k] (by kernel_rfl) (by kernel_rfl) ?_
    refine v_fin 2 (by kernel_rfl) ?_
    refine q_then ?_
    refine v_seq (p0 := [1, 0, 0, 1, 1, 0, 0, 1, 0]) (p1 := [1, 0, 0, 1, 1, 0, 0, 1, 1]) (by kernel_rfl) ?_
    refine v_region (id := 3) (by kernel_rfl) ?_
    refine v_do wd_wide 0 (by kernel_rfl) (og_load (T := 37) (x := Operand.tmp 1) (b := Bn) (off := 0) (.agg (cellsC a)) (by kernel_rfl) (by kernel_rfl) hb (by kernel_rfl) ?_)
    refine v_vals wd_wide 1 3 [.int .i64 k, .int .u8 (W8 k)] (by kernel_rfl) (by kernel_rfl) ?_
    refine v_do wd_wide 3 (by kernel_rfl) (og_call (g := 70) (av := #[.agg (cellsC a), .int .u8 (W8 k)]) (by kernel_rfl) ?_)
    have hh := has_some 0 a (W8 (k : Int)) (by rw [hw8]; omega) (by rw [hw8]; omega)
    refine (class_Has.ok 0 a (W8 (k : Int)) X _ hh).mono ?_
    rintro e W1 ⟨rfl, k1⟩
    refine ⟨_, rfl, ?_⟩
    have hj1 := abides_kp hJ hj k1
    have hb1 := Blk.kp hb k1 id
    rw [hw8]
    have nxt : ∀ (u : Nat → Value) (W2 : World), J (upto a (k + 1)) W2 → Blk W2 Bn (cellsC a) 37 →
        Exit.inBlock 1 (Exit.then (fun a w => (cd Try.f102 [1, 0, 0, 1, 1, 1]).wpIn Fence.wide n Try.prog (Exit.then (Code.roundsIn Fence.wide n Try.prog (cd Try.f102 [1, 0, 0]) Q (d + 1)) Q) a w) (Exit.then (Code.roundsIn Fence.wide n Try.prog (cd Try.f102 [1, 0, 0]) Q (d + 1)) Q)) .normal ⟨EF l Bn k u, []⟩ W2 := by
      intro u W2 hj2 hb2
      refine q_in ?_
      refine q_then ?_
      refine v_region (id := 4) (by kernel_rfl) ?_
      refine v_vals wd_wide 0 2 [.int .i64 (W (k + 1)), .int .i64 (W (k + 1))] (by kernel_rfl) (by kernel_rfl) ?_
      refine v_fin 2 (by kernel_rfl) ?_
      refine q_then ?_
      have e : W ((k : Int) + 1) = ((k + 1 : Nat) : Int) := by rw [W_id] <;> omega
      rw [e]
      refine v_rinto (EF l Bn ((k + 1 : Nat) : Int)) (by kernel_rfl) (fun u => ?_)
      exact ih (k + 1) u W2 (by omega) hj2 hb2
    by_cases hc : has a (k : Int) = true
    · rw [hc]
      refine v_vals wd_wide 4 8 [.bool true, .func (.yield l) #[] #[], .int .i64 k, .int .u8 (W8 k)] (by kernel_rfl) (by kernel_rfl) ?_
      rw [hw8]
      obtain ⟨fn, tmps, assign, body, hy, hR1⟩ := hY (upto a k) (k : Int) W1 hj1 (by have := upto_len a k; omega)
      refine v_yield2 wd_wide 8 (l := l) (fn := fn) (tmps := tmps) (assign := assign) (body := body) (args := #[.int .u8 k]) (by kernel_rfl) (by kernel_rfl) hy ?_
      refine hR1.mono ?_
      have hsucc : upto a (k + 1) = upto a k ++ [(k : Int)] := by rw [upto_succ, if_pos hc]
      rintro e W2 (⟨rfl, hj2, hk2⟩ | ⟨rfl, hx⟩)
      · refine ⟨_, rfl, ?_⟩
        refine v_vals wd_wide 9 11 [.bool false, .bool false] (by kernel_rfl) (by kernel_rfl) ?_
        refine v_fin 11 (by kernel_rfl) ?_
        refine q_then ?_
        refine v_cond (p0 := [1, 0, 0, 1, 1, 0, 0, 1, 1, 0]) (p1 := [1, 0, 0, 1, 1, 0, 0, 1, 1, 1]) (c := Operand.tmp 17) (b := false) (by kernel_rfl) (by kernel_rfl) (fun h => by cases h) (fun _ => ?_)
        refine v_skip (by kernel_rfl) ?_
        refine q_into (EF l Bn k) (by kernel_rfl) (fun u => ?_)
        exact nxt u W2 (by rw [hsucc]; exact hj2) (hk2.trans hb1)
      · refine ⟨_, rfl, ?_⟩
        refine v_vals wd_wide 9 11 [.bool true, .bool true] (by kernel_rfl) (by kernel_rfl) ?_
        refine v_fin 11 (by kernel_rfl) ?_
        refine q_then ?_
        refine v_cond (p0 := [1, 0, 0, 1, 1, 0, 0, 1, 1, 0]) (p1 := [1, 0, 0, 1, 1, 0, 0, 1, 1, 1]) (c := Operand.tmp 17) (b := true) (by kernel_rfl) (by kernel_rfl) (fun _ => ?_) (fun h => by cases h)
        refine v_ret (by kernel_rfl) ?_
        refine q_in_r ?_
        refine q_then_r ?_
        refine q_then_r ?_
        exact hR _ _ W2 (by rw [← hsucc]; exact upto_prefix a d (k + 1) (by omega)) hx
    · have hc' : has a (k : Int) = false := by simpa using hc
      rw [hc']
      refine v_vals wd_wide 4 11 [.bool false, undef, undef, undef, undef, undef, .bool false] (by kernel_rfl) (by kernel_rfl) ?_
      refine v_fin 11 (by kernel_rfl) ?_
      refine q_then ?_
      refine v_cond (p0 := [1, 0, 0, 1, 1, 0, 0, 1, 1, 0]) (p1 := [1, 0, 0, 1, 1, 0, 0, 1, 1, 1]) (c := Operand.tmp 17) (b := false) (by kernel_rfl) (by kernel_rfl) (fun h => by cases h) (fun _ => ?_)
      refine v_skip (by kernel_rfl) ?_
      refine q_into (EF l Bn k) (by kernel_rfl) (fun u => ?_)
      exact nxt u W1 (by rw [upto_succ, if_neg hc, List.append_nil]; exact hj1) hb1
/-- **The iterator.** -/
theorem each_stops (n : Nat) (a : Tapi_Class) (Bn : Nat) (w0 : World) (hb : Blk w0 Bn (cellsC a) 37) :
    SeqStopsK Fence.wide n Try.prog 102 #[.pointer (some ⟨Bn, 0, none⟩)] (fun x : Int => #[.int .u8 x]) (fun X X' => X'.heap[Bn]? = X.heap[Bn]?) (fun xs => xs = bytesOf a) (fun pre => pre <+: bytesOf a) 256 w0 := by
  intro l J Jx X hW hJ hJx hY h0
  have hb1 : Blk X Bn (cellsC a) 37 := hb.kp (Kp.of_below hW) id
  refine vcalls (t := EF l Bn 0 (fun _ => undef) |>.setIfInBounds 4 undef) Try.func102 (by kernel_rfl) (by kernel_rfl) ?_
  refine v_seq (p0 := [0]) (p1 := [1]) (by kernel_rfl) ?_
  refine v_region (id := 0) (by kernel_rfl) ?_
  refine v_vals wd_wide 0 1 [.int .i64 0] (by kernel_rfl) (by kernel_rfl) ?_
  refine v_fin 1 (by kernel_rfl) ?_
  refine q_then ?_
  refine v_block (id := 0) (p0 := [1, 0]) (by kernel_rfl) ?_
  refine v_into (EF l Bn 0) (by kernel_rfl) (fun u => ?_)
  refine v_loop (p0 := [1, 0, 0]) 257 (by kernel_rfl) ?_
  refine each_round n a l Bn J Jx hJ hY (fun u W1 hj => ?_) (fun u pre W1 hp hx => ?_) 256 0 u X rfl h0 hb1
  · refine q_in_hit ?_
    refine body_norm (vs := []) (v := .tuple #[]) rfl rfl ?_
    exact ⟨⟨_, rfl⟩, .inl ⟨_, rfl, hj⟩⟩
  · refine q_in_r ?_
    refine body_ret (vs := []) (v := .tuple #[]) rfl rfl ?_
    exact ⟨⟨_, rfl⟩, .inr ⟨_, hp, hx⟩⟩


def class_Each.R (a : Tapi_Class) (w : World) : Ending → World → Prop := fun e w' => ∃ Bn, e = .returned (.func (.func 102) #[] #[.pointer (some ⟨Bn, 0, none⟩)]) ∧ Kp No w w' ∧ Blk w' Bn (cellsC a) 37 ∧ w.heap.size ≤ Bn
theorem class_Each.ok (a : Tapi_Class) (w : World) : Calls Try.prog 58 #[.agg (cellsC a)] w (class_Each.R a w) := by
  refine calls_cd (t := #[.agg (cellsC a), undef, undef, undef]) Try.func58 (by kernel_rfl) (by kernel_rfl) ?_
  refine w_seq (p := []) (p0 := [0]) (p1 := [1]) (by kernel_rfl) ?_
  refine w_region (p := [0]) (id := 0) (by kernel_rfl) ?_
  refine r_do 0 (by kernel_rfl) (og_box (T := 37) (x := Operand.tmp 0) (cs := cellsC a) (by kernel_rfl) (by kernel_rfl) ?_)
  intro Bn w1 e1 hb k1
  have g : w.heap.size ≤ Bn := by rw [e1]; exact Nat.le_refl _
  refine r_vals 1 2 [Value.nilFunc] (by kernel_rfl) (by kernel_rfl) ?_
  refine r_fin 2 (by kernel_rfl) ?_
  refine q_then ?_
  refine w_seq (p := [1]) (p0 := [1, 0]) (p1 := [1, 1]) (by kernel_rfl) ?_
  refine w_region (p := [1, 0]) (id := 1) (by kernel_rfl) ?_
  refine r_vals 0 2 [.func (.func 102) #[] #[.pointer (some ⟨Bn, 0, none⟩)], .func (.func 102) #[] #[.pointer (some ⟨Bn, 0, none⟩)]] (by kernel_rfl) (by kernel_rfl) ?_
  refine r_fin 2 (by kernel_rfl) ?_
  refine q_then ?_
  refine w_ret (p := [1, 1]) (by kernel_rfl) ?_
  refine body_ret (vs := [.func (.func 102) #[] #[.pointer (some ⟨Bn, 0, none⟩)]]) (rv_tmp (by kernel_rfl) rfl) rfl ?_
  exact ⟨Bn, rfl, k1, hb, g⟩
/-- A byte more: the last range grows, or a new one begins. -/
def rgStep (l : List Tapi_Range) (b : Int) : List Tapi_Range :=
  if (l.length : Int) > 0 ∧ (W (W (rd zapi_Range l (W ((l.length : Int) - 1))).f1 + 1) == W b) = true then stored l (W ((l.length : Int) - 1)) ⟨(rd zapi_Range l (W ((l.length : Int) - 1))).f0, b⟩ else l ++ [⟨b, b⟩]
def rangesF (xs : List Int) : List Tapi_Range := xs.foldl rgStep []
theorem rangesF_snoc (xs : List Int) (x : Int) : rangesF (xs ++ [x]) = rgStep (rangesF xs) x := by unfold rangesF; rw [List.foldl_append]; rfl
theorem rgStep_len (l : List Tapi_Range) (b : Int) : (rgStep l b).length ≤ l.length + 1 := by
  unfold rgStep
  split
  · rw [stored_len]; omega
  · simp
theorem rangesF_len' (xs : List Int) : ∀ l : List Tapi_Range, (xs.foldl rgStep l).length ≤ l.length + xs.length := by
  induction xs with
  | nil => intro l; exact Nat.le_refl _
  | cons x xs ih =>
    intro l
    have h1 := ih (rgStep l x)
    have h2 := rgStep_len l x
    rw [List.foldl_cons]
    simp only [List.length_cons]
    omega
theorem rangesF_len (xs : List Int) : (rangesF xs).length ≤ xs.length := by
  have := rangesF_len' xs []
  simpa [rangesF] using this
def class_Ranges.f (K : Nat) (a0 : Tapi_Class) : Option (List Tapi_Range) := some (rangesF (bytesOf a0))
def class_Ranges.R (r : List Tapi_Range) (w : World) : Ending → World → Prop := fun e w' => ∃ (A0 : Option Addr) (n0 c0 : Nat), e = .returned (.slice A0 n0 c0) ∧ Kp No w w' ∧ Ow w (Kapi_Range 44) w' A0 n0 c0 r
def RG (b3 Bn : Nat) (x4 x8 : Value) (u : Nat → Value) : Array Value := #[u 0, u 1, .slice none 0 0, .pointer (some ⟨b3, 0, none⟩), x4, u 5, u 6, .func (.func 102) #[] #[.pointer (some ⟨Bn, 0, none⟩)], x8, u 9, u 10, u 11, u 12, u 13, u 14, u 15, u 16, u 17, u 18, u 19, u 20, u 21, u 22, u 23, u 24, u 25, u 26, u 27, u 28, u 29, u 30, u 31, u 32, u 33, u 34, u 35, u 36, u 37, u 38]
def RA (b3 : Nat) (x n : Int) (b : Bool) (u : Nat → Value) : Array Value := #[u 0, u 1, .slice none 0 0, .pointer (some ⟨b3, 0, none⟩), .int .u8 x, .int .i64 n, u 6, u 7, u 8, u 9, u 10, u 11, u 12, u 13, u 14, u 15, u 16, u 17, u 18, u 19, u 20, u 21, u 22, u 23, u 24, .bool b, u 26, u 27, u 28, u 29, u 30, u 31, u 32, u 33, u 34, u 35, u 36, u 37, u 38]
structure RgI (w : World) (a : Tapi_Class) (b3 Bn : Nat) (pre : List Int) (X : World) : Prop where
  kp : Kp No w X
  ge : w.heap.size ≤ b3
  hB : Blk X Bn (cellsC a) 37
  ne : b3 ≠ Bn
  row : ∃ A c, Blk X b3 #[.slice A (rangesF pre).length c] 38 ∧ Ow w (Kapi_Range 44) X A (rangesF pre).length c (rangesF pre) ∧ Dj (One b3) (Ra A) ∧ Dj (One Bn) (Ra A)
theorem RgI.own (w : World) (a : Tapi_Class) (b3 Bn B : Nat) (hB : w.heap.size ≤ B) : OwnFrom B (RgI w a b3 Bn) := fun pre X X' row h hg hr => by
  obtain ⟨kp, ge, hBn, ne, A, c, hb, ho, hd, hd2⟩ := h
  have hn := notCells_of hr
  exact ⟨kp.grow hg (fun r e => .inr (Nat.le_trans hB (hr r e).1)), ge, hBn.grow hg hn, ne, A, c, hb.grow hg hn, ho.grow hg hn, hd, hd2⟩
theorem ranges_body (w : World) (a : Tapi_Class) (b3 Bn B l : Nat) (u : Nat → Value) (pre : List Int) (x : Int) (X : World) (hI : RgI w a b3 Bn pre X) (hl : pre.length < 256) (m : Nat) :
    (cd Try.f18 [1, 1, 0, 1, 0, 1]).wpIn (Fence.wide.inRound l) m Try.prog (ownPostG B (fun X X' => X'.heap[Bn]? = X.heap[Bn]?) (RgI w a b3 Bn) (fun _ _ _ => False) (pre ++ [x]) X) ⟨RG b3 Bn (.int .u8 x) (.int .u8 x) u, []⟩ X := by
  obtain ⟨kp, ge, hBn, ne, A, c, hb, ho, hd, hd2⟩ := hI
  have hlen := rangesF_len pre
  have hF := wd_round l
  obtain ⟨xs, hxs⟩ : ∃ xs, rangesF pre = xs := ⟨_, rfl⟩
  have hsn : rangesF (pre ++ [x]) = rgStep xs x := by rw [rangesF_snoc, hxs]
  rw [hxs] at hb ho hlen
  obtain ⟨k, hk⟩ : ∃ k : Nat, xs.length = k := ⟨_, rfl⟩
  refine v_block (id := 1) (p0 := [1, 1, 0, 1, 0, 1, 0]) (by kernel_rfl) ?_
  refine v_seq (p0 := [1, 1, 0, 1, 0, 1, 0, 0]) (p1 := [1, 1, 0, 1, 0, 1, 0, 1]) (by kernel_rfl) ?_
  refine v_region (id := 4) (by kernel_rfl) ?_
  refine v_do hF 0 (by kernel_rfl) (og_load (T := 38) (x := Operand.tmp 3) (b := b3) (off := 0) (.slice A xs.length c) (by kernel_rfl) (by kernel_rfl) hb (by kernel_rfl) ?_)
  refine v_vals hF 1 3 [.int .i64 (xs.length : Int), .int .i64 (xs.length : Int)] (by kernel_rfl) (by kernel_rfl) ?_
  refine v_fin 3 (by kernel_rfl) ?_
  refine q_then ?_
  refine v_seq (p0 := [1, 1, 0, 1, 0, 1, 0, 1, 0]) (p1 := [1, 1, 0, 1, 0, 1, 0, 1, 1]) (by kernel_rfl) ?_
  refine v_region (id := 5) (by kernel_rfl) ?_
  refine v_vals hF 0 3 [.int .i64 (xs.length : Int), .bool (decide ((xs.length : Int) > 0)), .bool (decide ((xs.length : Int) > 0))] (by kernel_rfl) (by kernel_rfl) ?_
  have app : ∀ u, rgStep xs x = xs ++ [⟨x, x⟩] → (cd Try.f18 [1, 1, 0, 1, 0, 1, 0, 1, 1]).wpIn (Fence.wide.inRound l) m Try.prog (Exit.inBlock 1 (ownPostG B (fun X X' => X'.heap[Bn]? = X.heap[Bn]?) (RgI w a b3 Bn) (fun _ _ _ => False) (pre ++ [x]) X)) ⟨RA b3 x xs.length false u, []⟩ X := by
    intro u hst
    refine v_cond (p0 := [1, 1, 0, 1, 0, 1, 0, 1, 1, 0]) (p1 := [1, 1, 0, 1, 0, 1, 0, 1, 1, 1]) (c := Operand.tmp 25) (b := false) (by kernel_rfl) (by kernel_rfl) (fun h => by cases h) (fun _ => ?_)
    refine v_region (id := 7) (by kernel_rfl) ?_
    refine v_do hF 0 (by kernel_rfl) (og_load (T := 38) (x := Operand.tmp 3) (b := b3) (off := 0) (.slice A xs.length c) (by kernel_rfl) (by kernel_rfl) hb (by kernel_rfl) ?_)
    refine v_vals hF 1 4 [.int .u8 x, .int .u8 x, .agg #[.int .u8 x, .int .u8 x]] (by kernel_rfl) (by kernel_rfl) ?_
    refine v_do hF 4 (by kernel_rfl) (ow_lit (K := Kapi_Range 44) (w0 := X) (T := 38) (n := 1) (e := 44) (ps := #[(0, Operand.tmp 35)]) (cs := #[.int .u8 x, .int .u8 x]) (parts := [(0, .agg #[.int .u8 x, .int .u8 x])]) [(⟨x, x⟩ : Tapi_Range)] (by kernel_rfl) (by kernel_rfl) (by kernel_rfl) (by kernel_rfl) rfl rfl (by kernel_rfl) (Kp.refl No X) ?_)
    intro b4 X1 e4 ho4 k1
    have hb1 := Blk.kp hb k1 id
    have hB1 := Blk.kp hBn k1 id
    have hw0 : w.heap.size ≤ X.heap.size := kp.size
    have ho1 := ho.kpNo k1
    have ho4' := Ow.base ho4 (Kp.refl No X)
    refine v_do hF 5 (by kernel_rfl) (ow_append2 (K := Kapi_Range 44) (w0 := w) (T := 38) (n := xs.length) (c := c) (m := 1) (d := 1) (s := Operand.tmp 32) (x := Operand.tmp 36) (A := A) (D := some ⟨b4, 0, none⟩) (xs := xs) (ys := [(⟨x, x⟩ : Tapi_Range)]) (.agg #[.int .u8 0, .int .u8 0]) 2 (by kernel_rfl) (by kernel_rfl) (by kernel_rfl) (by kernel_rfl) (by kernel_rfl) ho1 (by kernel_rfl) rfl ho4.rdNo (by omega) (kp.trans k1 (fun _ h => h.elim)) ?_)
    intro A' c' X2 ho2 k2 hn _
    have hb2 := Blk.kpOne hb1 k2 hd
    have hB2 := Blk.kpOne hB1 k2 hd2
    refine v_do hF 6 (by kernel_rfl) (og_store (T := 38) (x := Operand.tmp 3) (y := Operand.tmp 37) (b := b3) (off := 0) (.slice A' (xs ++ [(⟨x, x⟩ : Tapi_Range)]).length c') (by kernel_rfl) (by kernel_rfl) (by kernel_rfl) hb2 (cs' := #[.slice A' (xs ++ [(⟨x, x⟩ : Tapi_Range)]).length c']) (by kernel_rfl) ?_)
    intro X3 hb3 k3 _
    have hd' : Dj (One b3) (Ra A') := blk_dj_app hb1 hd hn
    have hd2' : Dj (One Bn) (Ra A') := blk_dj_app hB1 hd2 hn
    refine v_fin 7 (by kernel_rfl) ?_
    refine q_in ?_
    have c1 : KeepsFrom B X X1 := keeps_kp k1 (fun x h => h.elim)
    have c2 : KeepsFrom B X1 X2 := keeps_kp k2 (fun x h => ho1.cellsAt h)
    have c3 : KeepsFrom B X2 X3 := keeps_kp k3 (fun x h => hb2.cellsAt h)
    have hB3 : Blk X3 Bn (cellsC a) 37 := Blk.kp hB2 k3 (fun e => ne e.symm)
    refine ⟨c1.trans (c2.trans c3), hB3.trans hBn.symm, ?_⟩
    refine ⟨((kp.trans k1 (fun _ h => h.elim)).trans k2 (fun k hk => .inr (ho1.ge k hk))).trans k3 (fun k hk => .inr (by rw [show k = b3 from hk]; exact ge)), ge, hB3, ne, A', c', ?_⟩
    rw [hsn, hst]
    exact ⟨hb3, ho2.kp k3 (fun k h1 h2 => hd' k h2 h1), hd', hd2'⟩
  by_cases hk0 : (xs.length : Int) > 0
  · rw [decide_eq_true hk0]
    refine v_do hF 3 (by kernel_rfl) (og_load (T := 38) (x := Operand.tmp 3) (b := b3) (off := 0) (.slice A xs.length c) (by kernel_rfl) (by kernel_rfl) hb (by kernel_rfl) ?_)
    refine v_vals hF 4 6 [.int .i64 (xs.length : Int), .int .i64 (W ((xs.length : Int) - 1))] (by kernel_rfl) (by kernel_rfl) ?_
    have e0 : W ((xs.length : Int) - 1) = (xs.length : Int) - 1 := W_id (by omega) (by omega)
    have h0 : 0 ≤ W ((xs.length : Int) - 1) := by omega
    have h1 : W ((xs.length : Int) - 1) < (xs.length : Int) := by omega
    refine v_do hF 6 (by kernel_rfl) (ow_index (K := Kapi_Range 44) (T := 38) (e := 44) (sz := 2) (x := Operand.tmp 14) (y := Operand.tmp 16) (k := .i64) (n := xs.length) (c := c) (A := A) (xs := xs) (iv := W ((xs.length : Int) - 1)) (by kernel_rfl) (by kernel_rfl) (by kernel_rfl) (by kernel_rfl) h0 h1 ho.rdNo rfl (by kernel_rfl) ?_)
    refine v_vals hF 7 8 [.pointer (some ((eaOf A ((W ((xs.length : Int) - 1)).toNat * 2)).add 1))] (by kernel_rfl) (by kernel_rfl) ?_
    refine v_do hF 8 (by kernel_rfl) (ow_loadE (K := Kapi_Range 44) (T := 5) (x := Operand.tmp 18) (off := 1) (A := A) (n := xs.length) (xs := xs) (iv := W ((xs.length : Int) - 1)) zapi_Range (.int .u8 (rd zapi_Range xs (W ((xs.length : Int) - 1))).f1) (by kernel_rfl) (by kernel_rfl) ho.rdNo rfl h0 h1 (by kernel_rfl) ?_)
    obtain ⟨hi, hhi⟩ : ∃ hi, (rd zapi_Range xs (W ((xs.length : Int) - 1))).f1 = hi := ⟨_, rfl⟩
    rw [hhi]
    refine v_vals hF 9 15 [.int .i64 (W hi), .int .i64 (W (W hi + 1)), .int .u8 x, .int .i64 (W x), .bool (W (W hi + 1) == W x), .bool (W (W hi + 1) == W x)] (by kernel_rfl) (by kernel_rfl) ?_
    refine v_fin 15 (by kernel_rfl) ?_
    refine q_then ?_
    by_cases hq : (W (W hi + 1) == W x) = true
    · rw [hq]
      refine v_into (RA b3 x xs.length true) (by kernel_rfl) (fun u => ?_)
      refine v_cond (p0 := [1, 1, 0, 1, 0, 1, 0, 1, 1, 0]) (p1 := [1, 1, 0, 1, 0, 1, 0, 1, 1, 1]) (c := Operand.tmp 25) (b := true) (by kernel_rfl) (by kernel_rfl) (fun _ => ?_) (fun h => by cases h)
      refine v_region (id := 6) (by kernel_rfl) ?_
      refine v_do hF 0 (by kernel_rfl) (og_load (T := 38) (x := Operand.tmp 3) (b := b3) (off := 0) (.slice A xs.length c) (by kernel_rfl) (by kernel_rfl) hb (by kernel_rfl) ?_)
      refine v_vals hF 1 4 [.int .i64 (xs.length : Int), .int .i64 (W ((xs.length : Int) - 1)), .int .u8 x] (by kernel_rfl) (by kernel_rfl) ?_
      refine v_do hF 4 (by kernel_rfl) (ow_index (K := Kapi_Range 44) (T := 38) (e := 44) (sz := 2) (x := Operand.tmp 26) (y := Operand.tmp 28) (k := .i64) (n := xs.length) (c := c) (A := A) (xs := xs) (iv := W ((xs.length : Int) - 1)) (by kernel_rfl) (by kernel_rfl) (by kernel_rfl) (by kernel_rfl) h0 h1 ho.rdNo rfl (by kernel_rfl) ?_)
      refine v_vals hF 5 6 [.pointer (some ((eaOf A ((W ((xs.length : Int) - 1)).toNat * 2)).add 1))] (by kernel_rfl) (by kernel_rfl) ?_
      refine v_do hF 6 (by kernel_rfl) (ow_storeE (K := Kapi_Range 44) (T := 5) (x := Operand.tmp 31) (y := Operand.tmp 29) (off := 1) (n := xs.length) (iv := W ((xs.length : Int) - 1)) (A := A) (c := c) (xs := xs) zapi_Range (⟨(rd zapi_Range xs (W ((xs.length : Int) - 1))).f0, x⟩ : Tapi_Range) (.int .u8 x) (by kernel_rfl) (by kernel_rfl) (by kernel_rfl) ho h0 h1 (by kernel_rfl) ?_)
      intro X1 ho1 k1
      refine v_fin 7 (by kernel_rfl) ?_
      refine q_in ?_
      have hb1 := Blk.kpOne hb k1 hd
      have hB1 := Blk.kpOne hBn k1 hd2
      have hst : rgStep xs x = stored xs (W ((xs.length : Int) - 1)) ⟨(rd zapi_Range xs (W ((xs.length : Int) - 1))).f0, x⟩ := by
        unfold rgStep
        rw [if_pos ⟨hk0, by rw [hhi]; exact hq⟩]
      refine ⟨keeps_kp k1 (fun x h => ho.cellsAt h), hB1.trans hBn.symm, ?_⟩
      refine ⟨kp.trans k1 (fun k hk => .inr (ho.ge k hk)), ge, hB1, ne, A, c, ?_⟩
      rw [hsn, hst, stored_len]
      exact ⟨hb1, ho1, hd, hd2⟩
    · have hq' : (W (W hi + 1) == W x) = false := by simpa using hq
      rw [hq']
      refine v_into (RA b3 x xs.length false) (by kernel_rfl) (fun u => ?_)
      refine app u ?_
      unfold rgStep
      rw [if_neg (fun h => hq (by rw [← hhi]; exact h.2))]
  · rw [decide_eq_false hk0]
    refine v_vals hF 3 15 [undef, undef, undef, undef, undef, undef, undef, undef, undef, undef, undef, .bool false] (by kernel_rfl) (by kernel_rfl) ?_
    refine v_fin 15 (by kernel_rfl) ?_
    refine q_then ?_
    refine v_into (RA b3 x xs.length false) (by kernel_rfl) (fun u => ?_)
    refine app u ?_
    unfold rgStep
    rw [if_neg (fun h => hk0 h.1)]
/-- A frame behind the loop. -/
def RZ (b3 : Nat) (u : Nat → Value) : Array Value := #[u 0, u 1, u 2, .pointer (some ⟨b3, 0, none⟩), u 4, u 5, u 6, u 7, u 8, u 9, u 10, u 11, u 12, u 13, u 14, u 15, u 16, u 17, u 18, u 19, u 20, u 21, u 22, u 23, u 24, u 25, u 26, u 27, u 28, u 29, u 30, u 31, u 32, u 33, u 34, u 35, u 36, u 37, u 38]
theorem class_Ranges.ok (K : Nat) (a0 : Tapi_Class) (w : World) (r : List Tapi_Range) (H : class_Ranges.f K a0 = some r) : Calls Try.prog 18 #[.agg #[.int .u64 a0.f0, .int .u64 a0.f1, .int .u64 a0.f2, .int .u64 a0.f3]] w (class_Ranges.R r w) := by
  obtain rfl := Option.some.inj H
  refine vcalls_marks (n := 5) (t := #[.agg (cellsC a0), undef, undef, undef, undef, undef, undef, undef, undef, undef, undef, undef, undef, undef, undef, undef, undef, undef, undef, undef, undef, undef, undef, undef, undef, undef, undef, undef, undef, undef, undef, undef, undef, undef, undef, undef, undef, undef, undef]) Try.func18 (by kernel_rfl) (by kernel_rfl) ?_
  refine v_seq (p0 := [0]) (p1 := [1]) (by kernel_rfl) ?_
  refine v_region (id := 0) (by kernel_rfl) ?_
  refine v_do wd_wide 0 (by kernel_rfl) (og_box (T := 37) (x := Operand.tmp 0) (cs := cellsC a0) (by kernel_rfl) (by kernel_rfl) ?_)
  intro b1 w1 e1 hb1 k1
  have g1 : w.heap.size ≤ b1 := by rw [e1]; exact Nat.le_refl _
  refine v_vals wd_wide 1 2 [.slice none 0 0] (by kernel_rfl) (by kernel_rfl) ?_
  refine v_fin 2 (by kernel_rfl) ?_
  refine q_then ?_
  refine v_seq (p0 := [1, 0]) (p1 := [1, 1]) (by kernel_rfl) ?_
  refine v_region (id := 1) (by kernel_rfl) ?_
  refine v_do wd_wide 0 (by kernel_rfl) (og_alloc (T := 38) (cs := #[.slice none 0 0]) (by kernel_rfl) (by kernel_rfl) ?_)
  intro b3 w3 e3 hb3 k3
  have kp3 : Kp No w w3 := k1.trans k3 (fun _ h => h.elim)
  have g3 : w.heap.size ≤ b3 := by rw [e3]; exact k1.size
  have hb1' := Blk.kp hb1 k3 id
  refine v_fin 1 (by kernel_rfl) ?_
  refine q_then ?_
  refine v_seq (p0 := [1, 1, 0]) (p1 := [1, 1, 1]) (by kernel_rfl) ?_
  refine v_seq (p0 := [1, 1, 0, 0]) (p1 := [1, 1, 0, 1]) (by kernel_rfl) ?_
  refine v_region (id := 2) (by kernel_rfl) ?_
  refine v_do wd_wide 0 (by kernel_rfl) (og_load (T := 37) (x := Operand.tmp 1) (b := b1) (off := 0) (.agg (cellsC a0)) (by kernel_rfl) (by kernel_rfl) hb1' (by kernel_rfl) ?_)
  refine v_do wd_wide 1 (by kernel_rfl) (og_call (g := 58) (av := #[.agg (cellsC a0)]) (by kernel_rfl) ?_)
  refine (class_Each.ok a0 w3).mono ?_
  rintro e w4 ⟨Bn, rfl, k4, hBn, gBn⟩
  refine ⟨_, rfl, ?_⟩
  have kp4 : Kp No w w4 := kp3.trans k4 (fun _ h => h.elim)
  have hb4 := Blk.kp hb3 k4 id
  have hne : b3 ≠ Bn := by have := hb3.lt; omega
  have hg4 : w.heap.size ≤ w4.heap.size := kp4.size
  refine v_fin 2 (by kernel_rfl) ?_
  refine q_then ?_
  refine v_block (id := 0) (p0 := [1, 1, 0, 1, 0]) (by kernel_rfl) ?_
  refine v_into (RG b3 Bn undef undef) (by kernel_rfl) (fun u => ?_)
  have hcode : cd Try.f18 [1, 1, 0, 1, 0] = .rangeFunc (.tmp 7) #[8] (cd Try.f18 [1, 1, 0, 1, 0, 0]) (cd Try.f18 [1, 1, 0, 1, 0, 1]) := by kernel_rfl
  rw [hcode]
  have hBlt : Bn < w4.heap.size := hBn.lt
  have hev : Act.eval ⟨RG b3 Bn undef undef u, []⟩ (.tmp 7) = .func (.func 102) #[] #[.pointer (some ⟨Bn, 0, none⟩)] := by kernel_rfl
  refine wpIn_rangeFunc_ownG (Kp := fun X X' => X'.heap[Bn]? = X.heap[Bn]?) (S := fun xs => xs = bytesOf a0) (Sp := fun pre => pre <+: bytesOf a0) (N := 256) (w0 := w4) (encs := fun x : Int => #[.int .u8 x]) rfl (by decide) hev trivial (enters_of Try.func102 (by kernel_rfl) rfl) (each_stops _ a0 Bn w4 hBn)
    (fun {A B C} h k => k.trans h) (fun X l o o' hl _ _ _ => by rw [World.putObj_heap_other (by omega)]) (Below.refl _ _) (fun _ => rfl)
    (RgI w a0 b3 Bn) (fun _ _ _ => False) (RgI.own w a0 b3 Bn _ hg4) (fun _ _ _ _ _ h _ _ => h) ?h0 (fun x => ⟨RG b3 Bn (.int .u8 x) (.int .u8 x) u, []⟩) ?assign ?body ?done ?stop
  case h0 =>
    refine ⟨kp4, g3, hBn, hne, none, 0, hb4, Ow.nil w (Kapi_Range 44) w4, dj_nil, dj_nil⟩
  case assign =>
    intro l x X K hK
    refine v_region (id := 3) (by kernel_rfl) ?_
    refine v_vals (wd_round l) 0 1 [.int .u8 x] (by kernel_rfl) (by kernel_rfl) ?_
    refine v_fin 1 (by kernel_rfl) ?_
    refine q_then ?_
    refine k_flat (t' := RG b3 Bn (.int .u8 x) (.int .u8 x) u) (by kernel_rfl) hK
  case body =>
    intro l pre x X hI hlen
    exact ranges_body w a0 b3 Bn _ l u pre x X hI hlen _
  case stop =>
    intro D c pre X _ _ h _
    exact h.elim
  case done =>
    rintro D xs X hD rfl hI hDef
    obtain ⟨kp, ge, hBx, _, A, c, hb, ho, hd, _⟩ := hI
    refine q_in ?_
    refine q_then ?_
    refine v_into (RZ b3) (by kernel_rfl) (fun u => ?_)
    refine v_seq (p0 := [1, 1, 1, 0]) (p1 := [1, 1, 1, 1]) (by kernel_rfl) ?_
    refine v_region (id := 8) (by kernel_rfl) ?_
    refine v_do wd_wide 0 (by kernel_rfl) (og_load (T := 38) (x := Operand.tmp 3) (b := b3) (off := 0) (.slice A (rangesF (bytesOf a0)).length c) (by kernel_rfl) (by kernel_rfl) hb (by kernel_rfl) ?_)
    refine v_vals wd_wide 1 2 [.slice A (rangesF (bytesOf a0)).length c] (by kernel_rfl) (by kernel_rfl) ?_
    refine v_fin 2 (by kernel_rfl) ?_
    refine q_then ?_
    refine v_ret (by kernel_rfl) ?_
    have hg := grownBy_putObj' X D (.deferred none)
    have hn : NotCells X (some D) := fun r e => by cases e; exact ⟨_, hDef, rfl⟩
    refine ⟨by simp, .inl ⟨_, _, rfl, run_takeDeferred hDef, ?_⟩⟩
    refine ⟨.slice A (rangesF (bytesOf a0)).length c, ?_, A, _, c, rfl, kp.grow hg (fun r e => by cases e; exact .inr (Nat.le_trans hg4 hD)), ho.grow hg hn⟩
    exact res_run (vs := [.slice A (rangesF (bytesOf a0)).length c]) (rv_tmp (by kernel_rfl) rfl) rfl

/-! ### dowel/dowelref03.Open -/
def dowelref03_Open.F0 (b14 : Nat) (b21 : Nat) (b30 : Nat) (x58 : Int) (u_ : Nat → Value) : Array Value := #[u_ 0, .pointer (some ⟨b14, 0, none⟩), .pointer (some ⟨b21, 0, none⟩), .pointer (some ⟨b30, 0, none⟩), .int .i64 x58, u_ 5, u_ 6, u_ 7, u_ 8, u_ 9, u_ 10, u_ 11, u_ 12, u_ 13, u_ 14, u_ 15, u_ 16, u_ 17, u_ 18, u_ 19, u_ 20]
def dowelref03_Open.F0_0 (b21 : Nat) (b30 : Nat) (u_ : Nat → Value) : Array Value := #[u_ 0, u_ 1, .pointer (some ⟨b21, 0, none⟩), .pointer (some ⟨b30, 0, none⟩), u_ 4, u_ 5, u_ 6, u_ 7, u_ 8, u_ 9, u_ 10, u_ 11, u_ 12, u_ 13, u_ 14, u_ 15, u_ 16, u_ 17, u_ 18, u_ 19, u_ 20]
def dowelref03_Open.b0 (a0 : Tapi_Class) (next0 : Int → List Bool → Option (List Bool)) (brk0_0 : List Bool → Option (List Bool)) (x58 : Int) (x61 : List Bool) : Option (List Bool) := if x58 < 256 then (if 0 ≤ (W (Int.tdiv x58 64)) then (if (W (Int.tdiv x58 64)) < 4 then (if 0 ≤ (Int.tmod x58 64) then (if 0 ≤ x58 then (if x61.length = 256 then (next0 (W (x58 + 1)) (stored x61 x58 ((bits .and .u64 (shv .shr .u64 (rd 0 [a0.f0, a0.f1, a0.f2, a0.f3] (W (Int.tdiv x58 64))) (Int.tmod x58 64)) 1) == 1))) else none) else none) else none) else none) else none) else (brk0_0 x61)
def dowelref03_Open.l0 (a0 : Tapi_Class) (brk0_0 : List Bool → Option (List Bool)) : Nat → Int → List Bool → Option (List Bool)
  | 0, _, _ => none
  | n_ + 1, x58, x61 => dowelref03_Open.b0 a0 (dowelref03_Open.l0 a0 brk0_0 n_) brk0_0 x58 x61
def dowelref03_Open.f (K : Nat) (a0 : Tapi_Class) : Option (List Bool) := dowelref03_Open.l0 a0 (fun y79 => if y79.length = 256 then (if (List.replicate 256 false).length = 256 then (some y79) else none) else none) K 0 (List.replicate 256 false)
def dowelref03_Open.R (r : List Bool) (w : World) : Ending → World → Prop := fun e w' => e = .returned (.agg ((kBool 4).cells r).toArray) ∧ Kp No w w'
set_option maxRecDepth 20000 in
set_option maxHeartbeats 4000000 in
theorem dowelref03_Open.b0.ok (K : Nat) (a0 : Tapi_Class) (w : World) (r : List Bool) (b14 : Nat) (b21 : Nat) (b30 : Nat) {Q : Exit → Act → World → Prop} (HR : ∀ a w', bodyPost Try.prog Try.f59 (dowelref03_Open.R r w) .ret a w' → Q .ret a w') {next0 : Int → List Bool → Option (List Bool)} {brk0_0 : List Bool → Option (List Bool)} (HN0 : ∀ (x58q : Int) (x61q : List Bool) (u55q : Nat → Value) (w56q : World) (k57q : Kp No w w56q) (hb59q : Blk w56q b14 #[.int .u64 a0.f0, .int .u64 a0.f1, .int .u64 a0.f2, .int .u64 a0.f3] 37) (hb60q : Blk w56q b21 ((kBool 4).cells (List.replicate 256 false)).toArray 108) (hb62q : Blk w56q b30 ((kBool 4).cells x61q).toArray 108) (ghb59q : w.heap.size ≤ b14) (ghb60q : w.heap.size ≤ b21) (ghb62q : w.heap.size ≤ b30) (nhb59hb60q : b14 ≠ b21) (nhb59hb62q : b14 ≠ b30) (nhb60hb62q : b21 ≠ b30), next0 x58q x61q = some r → Q .normal ⟨dowelref03_Open.F0 b14 b21 b30 x58q u55q, []⟩ w56q) (HX0_0 : ∀ (y79q : List Bool) (u77q : Nat → Value) (w75q : World) (k76q : Kp No w w75q) (hb78q : Blk w75q b21 ((kBool 4).cells (List.replicate 256 false)).toArray 108) (hb80q : Blk w75q b30 ((kBool 4).cells y79q).toArray 108) (ghb78q : w.heap.size ≤ b21) (ghb80q : w.heap.size ≤ b30) (nhb78hb80q : b21 ≠ b30), brk0_0 y79q = some r → Q (.exit 0) ⟨dowelref03_Open.F0_0 b21 b30 u77q, []⟩ w75q) (x58 : Int) (x61 : List Bool) (u55 : Nat → Value) (w56 : World) (k57 : Kp No w w56) (hb59 : Blk w56 b14 #[.int .u64 a0.f0, .int .u64 a0.f1, .int .u64 a0.f2, .int .u64 a0.f3] 37) (hb60 : Blk w56 b21 ((kBool 4).cells (List.replicate 256 false)).toArray 108) (hb62 : Blk w56 b30 ((kBool 4).cells x61).toArray 108) (ghb59 : w.heap.size ≤ b14) (ghb60 : w.heap.size ≤ b21) (ghb62 : w.heap.size ≤ b30) (nhb59hb60 : b14 ≠ b21) (nhb59hb62 : b14 ≠ b30) (nhb60hb62 : b21 ≠ b30) (H : dowelref03_Open.b0 a0 next0 brk0_0 x58 x61 = some r) : (cd Try.f59 [1, 1, 0, 1, 0, 0]).wp Try.prog Q ⟨dowelref03_Open.F0 b14 b21 b30 x58 u55, []⟩ w56 := by
  unfold dowelref03_Open.b0 at H
  refine w_seq (p := [1, 1, 0, 1, 0, 0]) (p0 := [1, 1, 0, 1, 0, 0, 0]) (p1 := [1, 1, 0, 1, 0, 0, 1]) (by kernel_rfl) ?_
  refine w_seq (p := [1, 1, 0, 1, 0, 0, 0]) (p0 := [1, 1, 0, 1, 0, 0, 0, 0]) (p1 := [1, 1, 0, 1, 0, 0, 0, 1]) (by kernel_rfl) ?_
  refine w_region (p := [1, 1, 0, 1, 0, 0, 0, 0]) (id := 3) (by kernel_rfl) ?_
  refine r_vals 0 2 [.int .i64 x58, .bool (decide (x58 < 256))] (by kernel_rfl) (by kernel_rfl) ?_
  refine r_fin 2 (by kernel_rfl) ?_
  refine q_then ?_
  refine w_cond (p := [1, 1, 0, 1, 0, 0, 0, 1]) (p0 := [1, 1, 0, 1, 0, 0, 0, 1, 0]) (p1 := [1, 1, 0, 1, 0, 0, 0, 1, 1]) (c := (Operand.tmp 6)) (b := decide (x58 < 256)) (by kernel_rfl) (by kernel_rfl) ?_ ?_
  · intro h_
    have h63 : x58 < 256 := by simpa using h_
    clear h_
    rw [if_pos h63] at H
    refine w_skip (p := [1, 1, 0, 1, 0, 0, 0, 1, 0]) (by kernel_rfl) ?_
    refine q_then ?_
    refine w_seq (p := [1, 1, 0, 1, 0, 0, 1]) (p0 := [1, 1, 0, 1, 0, 0, 1, 0]) (p1 := [1, 1, 0, 1, 0, 0, 1, 1]) (by kernel_rfl) ?_
    refine w_block (p := [1, 1, 0, 1, 0, 0, 1, 0]) (p0 := [1, 1, 0, 1, 0, 0, 1, 0, 0]) (id := 1) (by kernel_rfl) ?_
    refine w_region (p := [1, 1, 0, 1, 0, 0, 1, 0, 0]) (id := 5) (by kernel_rfl) ?_
    refine r_vals 0 3 [.int .i64 x58, .int .i64 x58, .int .i64 (W (Int.tdiv x58 64))] (by kernel_rfl) (by kernel_rfl) ?_
    refine p_split (0 ≤ (W (Int.tdiv x58 64))) (fun h64 => ?_) (fun h64 => ?_)
    · rw [if_pos h64] at H
      refine p_split ((W (Int.tdiv x58 64)) < 4) (fun h65 => ?_) (fun h65 => ?_)
      · rw [if_pos h65] at H
        refine r_do 3 (by kernel_rfl) (og_indexA (T := 37) (n := 4) (e := 35) (sz := 1) (b := b14) (off := 0) (iv := (W (Int.tdiv x58 64))) (x := (Operand.tmp 1)) (y := (Operand.tmp 11)) (k := .i64) (by kernel_rfl) (by kernel_rfl) (by kernel_rfl) (by kernel_rfl) h64 h65 ?_) 
        refine r_do 4 (by kernel_rfl) (og_loadA (K := (kInt .u64 35)) (T := 35) (x := (Operand.tmp 12)) (b := b14) (base := 0) (off := 0) (xs := [a0.f0, a0.f1, a0.f2, a0.f3]) (iv := (W (Int.tdiv x58 64))) 0 (.int .u64 (rd 0 [a0.f0, a0.f1, a0.f2, a0.f3] (W (Int.tdiv x58 64)))) (by kernel_rfl) (by kernel_rfl) hb59 (by kernel_rfl) h64 h65 (by kernel_rfl) ?_) 
        refine r_vals 5 7 [.int .i64 x58, .int .i64 (Int.tmod x58 64)] (by kernel_rfl) (by kernel_rfl) ?_
        refine p_split (0 ≤ (Int.tmod x58 64)) (fun h66 => ?_) (fun h66 => ?_)
        · rw [if_pos h66] at H
          refine r_do 7 (by kernel_rfl) (og_shift (op := .shr) (T := 35) (U := 3) (x := (Operand.tmp 13)) (y := (Operand.tmp 15)) (k := .u64) (k' := .i64) (a := (rd 0 [a0.f0, a0.f1, a0.f2, a0.f3] (W (Int.tdiv x58 64)))) (b := (Int.tmod x58 64)) (by simp) (by kernel_rfl) (by kernel_rfl) (by kernel_rfl) h66 ?_) 
          refine r_vals 8 10 [.int .u64 (bits .and .u64 (shv .shr .u64 (rd 0 [a0.f0, a0.f1, a0.f2, a0.f3] (W (Int.tdiv x58 64))) (Int.tmod x58 64)) 1), .bool ((bits .and .u64 (shv .shr .u64 (rd 0 [a0.f0, a0.f1, a0.f2, a0.f3] (W (Int.tdiv x58 64))) (Int.tmod x58 64)) 1) == 1)] (by kernel_rfl) (by kernel_rfl) ?_
          refine p_split (0 ≤ x58) (fun h67 => ?_) (fun h67 => ?_)
          · rw [if_pos h67] at H
            refine r_do 10 (by kernel_rfl) (og_indexA (T := 108) (n := 256) (e := 4) (sz := 1) (b := b30) (off := 0) (iv := x58) (x := (Operand.tmp 3)) (y := (Operand.tmp 9)) (k := .i64) (by kernel_rfl) (by kernel_rfl) (by kernel_rfl) (by kernel_rfl) h67 h63 ?_) 
            refine p_split (x61.length = 256) (fun h68 => ?_) (fun h68 => ?_)
            · rw [if_pos h68] at H
              refine r_do 11 (by kernel_rfl) (ar_storeA (K := (kBool 4)) (T := 4) (x := (Operand.tmp 19)) (y := (Operand.tmp 18)) (b := b30) (off := 0) (xs := x61) (iv := x58) false ((bits .and .u64 (shv .shr .u64 (rd 0 [a0.f0, a0.f1, a0.f2, a0.f3] (W (Int.tdiv x58 64))) (Int.tmod x58 64)) 1) == 1) (.bool ((bits .and .u64 (shv .shr .u64 (rd 0 [a0.f0, a0.f1, a0.f2, a0.f3] (W (Int.tdiv x58 64))) (Int.tmod x58 64)) 1) == 1)) (by kernel_rfl) (by kernel_rfl) (by kernel_rfl) hb62 h67 (by rw [h68]; exact h63) (by kernel_rfl) ?_) 
              intro w70 hb69 k71
              have k72 := Kp.trans k57 k71 (fun x hx => .inr (by rw [show x = _ from hx]; exact ghb62))
              have hb73 := Blk.kp hb59 k71 (show ¬ (b14 = b30) from nhb59hb62)
              have hb74 := Blk.kp hb60 k71 (show ¬ (b21 = b30) from nhb60hb62)
              refine r_fin 12 (by kernel_rfl) ?_
              refine q_in ?_
              refine q_then ?_
              refine w_region (p := [1, 1, 0, 1, 0, 0, 1, 1]) (id := 4) (by kernel_rfl) ?_
              refine r_vals 0 3 [.int .i64 x58, .int .i64 (W (x58 + 1)), .int .i64 (W (x58 + 1))] (by kernel_rfl) (by kernel_rfl) ?_
              refine r_fin 3 (by kernel_rfl) ?_
              refine q_into (dowelref03_Open.F0 b14 b21 b30 (W (x58 + 1))) (by kernel_rfl) (fun u_ => ?_)
              exact HN0 (W (x58 + 1)) (stored x61 x58 ((bits .and .u64 (shv .shr .u64 (rd 0 [a0.f0, a0.f1, a0.f2, a0.f3] (W (Int.tdiv x58 64))) (Int.tmod x58 64)) 1) == 1)) u_ w70 k72 hb73 hb74 hb69 ghb59 ghb60 ghb62 nhb59hb60 nhb59hb62 nhb60hb62 H
            · rw [if_neg h68] at H
              cases H
          · rw [if_neg h67] at H
            cases H
        · rw [if_neg h66] at H
          cases H
      · rw [if_neg h65] at H
        cases H
    · rw [if_neg h64] at H
      cases H
  · intro h_
    have h63 : ¬ (x58 < 256) := by simpa using h_
    clear h_
    rw [if_neg h63] at H
    refine w_exit (p := [1, 1, 0, 1, 0, 0, 0, 1, 1]) (id := 0) (by kernel_rfl) ?_
    refine q_then_x ?_
    refine q_into (dowelref03_Open.F0_0 b21 b30) (by kernel_rfl) (fun u_ => ?_)
    exact HX0_0 x61 u_ w56 k57 hb60 hb62 ghb60 ghb62 nhb60hb62 H
set_option maxRecDepth 20000 in
set_option maxHeartbeats 4000000 in
theorem dowelref03_Open.l0.ok (K : Nat) (a0 : Tapi_Class) (w : World) (r : List Bool) (b14 : Nat) (b21 : Nat) (b30 : Nat) {Q : Exit → Act → World → Prop} (HR : ∀ a w', bodyPost Try.prog Try.f59 (dowelref03_Open.R r w) .ret a w' → Q .ret a w') {brk0_0 : List Bool → Option (List Bool)} (HX0_0 : ∀ (y79q : List Bool) (u77q : Nat → Value) (w75q : World) (k76q : Kp No w w75q) (hb78q : Blk w75q b21 ((kBool 4).cells (List.replicate 256 false)).toArray 108) (hb80q : Blk w75q b30 ((kBool 4).cells y79q).toArray 108) (ghb78q : w.heap.size ≤ b21) (ghb80q : w.heap.size ≤ b30) (nhb78hb80q : b21 ≠ b30), brk0_0 y79q = some r → Q (.exit 0) ⟨dowelref03_Open.F0_0 b21 b30 u77q, []⟩ w75q) : ∀ (n_ : Nat) (x58 : Int) (x61 : List Bool) (u55 : Nat → Value) (w56 : World) (k57 : Kp No w w56) (hb59 : Blk w56 b14 #[.int .u64 a0.f0, .int .u64 a0.f1, .int .u64 a0.f2, .int .u64 a0.f3] 37) (hb60 : Blk w56 b21 ((kBool 4).cells (List.replicate 256 false)).toArray 108) (hb62 : Blk w56 b30 ((kBool 4).cells x61).toArray 108) (ghb59 : w.heap.size ≤ b14) (ghb60 : w.heap.size ≤ b21) (ghb62 : w.heap.size ≤ b30) (nhb59hb60 : b14 ≠ b21) (nhb59hb62 : b14 ≠ b30) (nhb60hb62 : b21 ≠ b30) (H : dowelref03_Open.l0 a0 brk0_0 n_ x58 x61 = some r), Code.rounds Try.prog (cd Try.f59 [1, 1, 0, 1, 0, 0]) Q n_ ⟨dowelref03_Open.F0 b14 b21 b30 x58 u55, []⟩ w56
  | 0, _, _, _, _, _, _, _, _, _, _, _, _, _, _, H => by cases H
  | n_ + 1, x58, x61, u55, w56, k57, hb59, hb60, hb62, ghb59, ghb60, ghb62, nhb59hb60, nhb59hb62, nhb60hb62, H =>
    dowelref03_Open.b0.ok K a0 w r b14 b21 b30 (Q := Exit.then (Code.rounds Try.prog (cd Try.f59 [1, 1, 0, 1, 0, 0]) Q n_) Q) (fun a w' h_ => q_then_r (HR a w' h_)) (fun x0_ x1_ x2_ x3_ x4_ x5_ x6_ x7_ x8_ x9_ x10_ x11_ x12_ x13_ h_ => dowelref03_Open.l0.ok K a0 w r b14 b21 b30 HR HX0_0 n_ x0_ x1_ x2_ x3_ x4_ x5_ x6_ x7_ x8_ x9_ x10_ x11_ x12_ x13_ h_) (fun x0_ x1_ x2_ x3_ x4_ x5_ x6_ x7_ x8_ h_ => q_then_x (HX0_0 x0_ x1_ x2_ x3_ x4_ x5_ x6_ x7_ x8_ h_)) x58 x61 u55 w56 k57 hb59 hb60 hb62 ghb59 ghb60 ghb62 nhb59hb60 nhb59hb62 nhb60hb62 H
set_option maxRecDepth 20000 in
set_option maxHeartbeats 4000000 in
theorem dowelref03_Open.ok (K : Nat) (a0 : Tapi_Class) (w : World)  (r : List Bool) (H : dowelref03_Open.f K a0 = some r) : Calls Try.prog 59 #[.agg #[.int .u64 a0.f0, .int .u64 a0.f1, .int .u64 a0.f2, .int .u64 a0.f3]] w (dowelref03_Open.R r w) := by
  refine calls_cd (t := #[.agg #[.int .u64 a0.f0, .int .u64 a0.f1, .int .u64 a0.f2, .int .u64 a0.f3], undef, undef, undef, undef, undef, undef, undef, undef, undef, undef, undef, undef, undef, undef, undef, undef, undef, undef, undef, undef]) Try.func59 (by kernel_rfl) (by kernel_rfl) ?_
  unfold dowelref03_Open.f at H
  have HR : ∀ a w', bodyPost Try.prog Try.f59 (dowelref03_Open.R r w) .ret a w' → bodyPost Try.prog Try.f59 (dowelref03_Open.R r w) .ret a w' := fun _ _ h => h
  refine w_seq (p := []) (p0 := [0]) (p1 := [1]) (by kernel_rfl) ?_
  refine w_region (p := [0]) (id := 0) (by kernel_rfl) ?_
  refine r_do 0 (by kernel_rfl) (og_box (T := 37) (x := (Operand.tmp 0)) (cs := #[.int .u64 a0.f0, .int .u64 a0.f1, .int .u64 a0.f2, .int .u64 a0.f3]) (by kernel_rfl) (by kernel_rfl) ?_) 
  intro b14 w11 e15 hb13 k12
  have g16 : w.heap.size ≤ b14 := by rw [e15]; exact Kp.size (Kp.refl No w)
  clear e15
  have k17 := Kp.trans (Kp.refl No w) k12 (fun _ h => h.elim)
  refine r_do 1 (by kernel_rfl) (og_alloc (T := 108) (cs := ((kBool 4).cells (List.replicate 256 false)).toArray) (by kernel_rfl) (by kernel_rfl) ?_) 
  intro b21 w18 e22 hb20 k19
  have n23 : b14 ≠ b21 := by rw [e22]; exact Nat.ne_of_lt hb13.lt
  have g24 : w.heap.size ≤ b21 := by rw [e22]; exact Kp.size k17
  clear e22
  have k25 := Kp.trans k17 k19 (fun _ h => h.elim)
  have hb26 := Blk.kp hb13 k19 id
  refine r_fin 2 (by kernel_rfl) ?_
  refine q_then ?_
  refine w_seq (p := [1]) (p0 := [1, 0]) (p1 := [1, 1]) (by kernel_rfl) ?_
  refine w_region (p := [1, 0]) (id := 1) (by kernel_rfl) ?_
  refine r_do 0 (by kernel_rfl) (og_alloc (T := 108) (cs := ((kBool 4).cells (List.replicate 256 false)).toArray) (by kernel_rfl) (by kernel_rfl) ?_) 
  intro b30 w27 e31 hb29 k28
  have n32 : b14 ≠ b30 := by rw [e31]; exact Nat.ne_of_lt hb26.lt
  have n33 : b21 ≠ b30 := by rw [e31]; exact Nat.ne_of_lt hb20.lt
  have g34 : w.heap.size ≤ b30 := by rw [e31]; exact Kp.size k25
  clear e31
  have k35 := Kp.trans k25 k28 (fun _ h => h.elim)
  have hb36 := Blk.kp hb26 k28 id
  have hb37 := Blk.kp hb20 k28 id
  refine r_fin 1 (by kernel_rfl) ?_
  refine q_then ?_
  refine w_seq (p := [1, 1]) (p0 := [1, 1, 0]) (p1 := [1, 1, 1]) (by kernel_rfl) ?_
  refine w_seq (p := [1, 1, 0]) (p0 := [1, 1, 0, 0]) (p1 := [1, 1, 0, 1]) (by kernel_rfl) ?_
  refine w_region (p := [1, 1, 0, 0]) (id := 2) (by kernel_rfl) ?_
  refine r_vals 0 1 [.int .i64 0] (by kernel_rfl) (by kernel_rfl) ?_
  refine r_fin 1 (by kernel_rfl) ?_
  refine q_then ?_
  refine w_block (p := [1, 1, 0, 1]) (p0 := [1, 1, 0, 1, 0]) (id := 0) (by kernel_rfl) ?_
  refine w_into (dowelref03_Open.F0 b14 b21 b30 0) (by kernel_rfl) (fun u_ => ?_)
  refine w_loop (p := [1, 1, 0, 1, 0]) (p0 := [1, 1, 0, 1, 0, 0]) K (by kernel_rfl) ?_
  refine dowelref03_Open.l0.ok K a0 w r b14 b21 b30 (fun a w' h_ => q_in_r (q_then_r (HR a w' h_))) ?_ K 0 (List.replicate 256 false) u_ w27 k35 hb36 hb37 hb29 g16 g24 g34 n23 n32 n33 H
  intro y79 u77 w75 k76 hb78 hb80 ghb78 ghb80 nhb78hb80 H
  try dsimp only at H
  refine q_in_hit ?_
  refine q_then ?_
  refine w_seq (p := [1, 1, 1]) (p0 := [1, 1, 1, 0]) (p1 := [1, 1, 1, 1]) (by kernel_rfl) ?_
  refine w_region (p := [1, 1, 1, 0]) (id := 6) (by kernel_rfl) ?_
  refine p_split (y79.length = 256) (fun h81 => ?_) (fun h81 => ?_)
  · rw [if_pos h81] at H
    refine r_do 0 (by kernel_rfl) (bg_load (K := (kBool 4)) (T := 108) (n := 256) (e := 4) (x := (Operand.tmp 3)) (b := b30) (xs := y79) (by kernel_rfl) (by kernel_rfl) (by kernel_rfl) hb80 h81 ?_) 
    refine p_split ((List.replicate 256 false).length = 256) (fun h82 => ?_) (fun h82 => ?_)
    · rw [if_pos h82] at H
      refine r_do 1 (by kernel_rfl) (bg_store (K := (kBool 4)) (T := 108) (n := 256) (e := 4) (x := (Operand.tmp 2)) (y := (Operand.tmp 20)) (b := b21) (xs := (List.replicate 256 false)) (ys := y79) (by kernel_rfl) (by kernel_rfl) (by kernel_rfl) (by kernel_rfl) hb78 h82 h81 ?_) 
      intro w84 hb83 k85
      have k86 := Kp.trans k76 k85 (fun x hx => .inr (by rw [show x = _ from hx]; exact ghb78))
      have hb87 := Blk.kp hb80 k85 (show ¬ (b30 = b21) from (Ne.symm nhb78hb80))
      refine r_fin 2 (by kernel_rfl) ?_
      refine q_then ?_
      refine w_ret (p := [1, 1, 1, 1]) (by kernel_rfl) ?_
      obtain rfl := Option.some.inj H
      refine HR _ _ (body_ret (vs := [.agg ((kBool 4).cells y79).toArray]) (rv_cell (off := 0) (v := .agg ((kBool 4).cells y79).toArray) (by kernel_rfl) hb83 (ldV_big (n := 256) (e := 4) (by kernel_rfl) h81) rfl) rfl ?_)
      exact ⟨rfl, k86⟩
    · rw [if_neg h82] at H
      cases H
  · rw [if_neg h81] at H
    cases H
/-! ### dowel/dowelref03.Ranges -/
def dowelref03_Ranges.F2 (b104 : Nat) (A218 : Option Addr) (x217 : List Tapi_Range) (c219 : Nat) (x220 : Int) (x266 : Int) (u_ : Nat → Value) : Array Value := #[u_ 0, u_ 1, u_ 2, .pointer (some ⟨b104, 0, none⟩), .slice A218 x217.length c219, .int .i64 x220, .int .i64 x266, u_ 7, u_ 8, u_ 9, u_ 10, u_ 11, u_ 12, u_ 13, u_ 14, u_ 15, u_ 16, u_ 17, u_ 18, u_ 19, u_ 20, u_ 21, u_ 22, u_ 23, u_ 24, u_ 25, u_ 26, u_ 27, u_ 28, u_ 29, u_ 30, u_ 31, u_ 32, u_ 33, u_ 34, u_ 35, u_ 36, u_ 37, u_ 38, u_ 39, u_ 40, u_ 41, u_ 42, u_ 43, u_ 44, u_ 45, u_ 46]
def dowelref03_Ranges.F2_2 (b104 : Nat) (A218 : Option Addr) (x217 : List Tapi_Range) (c219 : Nat) (x220 : Int) (x289 : Int) (u_ : Nat → Value) : Array Value := #[u_ 0, u_ 1, u_ 2, .pointer (some ⟨b104, 0, none⟩), .slice A218 x217.length c219, .int .i64 x220, .int .i64 x289, u_ 7, u_ 8, u_ 9, u_ 10, u_ 11, u_ 12, u_ 13, u_ 14, u_ 15, u_ 16, u_ 17, u_ 18, u_ 19, u_ 20, u_ 21, u_ 22, u_ 23, u_ 24, u_ 25, u_ 26, u_ 27, u_ 28, u_ 29, u_ 30, u_ 31, u_ 32, u_ 33, u_ 34, u_ 35, u_ 36, u_ 37, u_ 38, u_ 39, u_ 40, u_ 41, u_ 42, u_ 43, u_ 44, u_ 45, u_ 46]
def dowelref03_Ranges.j3F (b104 : Nat) (A218 : Option Addr) (x217 : List Tapi_Range) (c219 : Nat) (x220 : Int) (x266 : Int) (x280 : Bool) (u_ : Nat → Value) : Array Value := #[u_ 0, u_ 1, u_ 2, .pointer (some ⟨b104, 0, none⟩), .slice A218 x217.length c219, .int .i64 x220, .int .i64 x266, u_ 7, u_ 8, u_ 9, u_ 10, u_ 11, u_ 12, u_ 13, u_ 14, u_ 15, u_ 16, u_ 17, u_ 18, u_ 19, u_ 20, u_ 21, u_ 22, u_ 23, u_ 24, u_ 25, u_ 26, u_ 27, u_ 28, u_ 29, u_ 30, u_ 31, u_ 32, u_ 33, u_ 34, .bool x280, u_ 36, u_ 37, u_ 38, u_ 39, u_ 40, u_ 41, u_ 42, u_ 43, u_ 44, u_ 45, u_ 46]
def dowelref03_Ranges.j3 (next2 : Int → Option (List Tapi_Range)) (x266 : Int) (brk2_2 : Int → Option (List Tapi_Range)) (x280 : Bool) : Option (List Tapi_Range) := if x280 = true then (next2 (W (x266 + 1))) else (brk2_2 x266)
def dowelref03_Ranges.b2 (t95 : List Bool) (next2 : Int → Option (List Tapi_Range)) (brk2_2 : Int → Option (List Tapi_Range)) (x266 : Int) : Option (List Tapi_Range) := if x266 < 255 then (if 0 ≤ (W (x266 + 1)) then (if (W (x266 + 1)) < 256 then (if t95.length = 256 then (dowelref03_Ranges.j3 next2 x266 brk2_2 (rd false t95 (W (x266 + 1)))) else none) else none) else none) else (dowelref03_Ranges.j3 next2 x266 brk2_2 false)
def dowelref03_Ranges.l2 (t95 : List Bool) (brk2_2 : Int → Option (List Tapi_Range)) : Nat → Int → Option (List Tapi_Range)
  | 0, _ => none
  | n_ + 1, x266 => dowelref03_Ranges.b2 t95 (dowelref03_Ranges.l2 t95 brk2_2 n_) brk2_2 x266
def dowelref03_Ranges.F0 (b104 : Nat) (A218 : Option Addr) (x217 : List Tapi_Range) (c219 : Nat) (x220 : Int) (u_ : Nat → Value) : Array Value := #[u_ 0, u_ 1, u_ 2, .pointer (some ⟨b104, 0, none⟩), .slice A218 x217.length c219, .int .i64 x220, u_ 6, u_ 7, u_ 8, u_ 9, u_ 10, u_ 11, u_ 12, u_ 13, u_ 14, u_ 15, u_ 16, u_ 17, u_ 18, u_ 19, u_ 20, u_ 21, u_ 22, u_ 23, u_ 24, u_ 25, u_ 26, u_ 27, u_ 28, u_ 29, u_ 30, u_ 31, u_ 32, u_ 33, u_ 34, u_ 35, u_ 36, u_ 37, u_ 38, u_ 39, u_ 40, u_ 41, u_ 42, u_ 43, u_ 44, u_ 45, u_ 46]
def dowelref03_Ranges.F0_0 (A335 : Option Addr) (x334 : List Tapi_Range) (c336 : Nat) (u_ : Nat → Value) : Array Value := #[u_ 0, u_ 1, u_ 2, u_ 3, .slice A335 x334.length c336, u_ 5, u_ 6, u_ 7, u_ 8, u_ 9, u_ 10, u_ 11, u_ 12, u_ 13, u_ 14, u_ 15, u_ 16, u_ 17, u_ 18, u_ 19, u_ 20, u_ 21, u_ 22, u_ 23, u_ 24, u_ 25, u_ 26, u_ 27, u_ 28, u_ 29, u_ 30, u_ 31, u_ 32, u_ 33, u_ 34, u_ 35, u_ 36, u_ 37, u_ 38, u_ 39, u_ 40, u_ 41, u_ 42, u_ 43, u_ 44, u_ 45, u_ 46]
def dowelref03_Ranges.j1F (b104 : Nat) (A218 : Option Addr) (x217 : List Tapi_Range) (c219 : Nat) (x220 : Int) (x237 : Bool) (u_ : Nat → Value) : Array Value := #[u_ 0, u_ 1, u_ 2, .pointer (some ⟨b104, 0, none⟩), .slice A218 x217.length c219, .int .i64 x220, u_ 6, u_ 7, u_ 8, u_ 9, u_ 10, u_ 11, u_ 12, u_ 13, u_ 14, u_ 15, u_ 16, u_ 17, u_ 18, u_ 19, u_ 20, u_ 21, u_ 22, u_ 23, u_ 24, u_ 25, .bool x237, u_ 27, u_ 28, u_ 29, u_ 30, u_ 31, u_ 32, u_ 33, u_ 34, u_ 35, u_ 36, u_ 37, u_ 38, u_ 39, u_ 40, u_ 41, u_ 42, u_ 43, u_ 44, u_ 45, u_ 46]
def dowelref03_Ranges.j4F (b104 : Nat) (A325 : Option Addr) (x324 : List Tapi_Range) (c326 : Nat) (x220 : Int) (u_ : Nat → Value) : Array Value := #[u_ 0, u_ 1, u_ 2, .pointer (some ⟨b104, 0, none⟩), .slice A325 x324.length c326, .int .i64 x220, u_ 6, u_ 7, u_ 8, u_ 9, u_ 10, u_ 11, u_ 12, u_ 13, u_ 14, u_ 15, u_ 16, u_ 17, u_ 18, u_ 19, u_ 20, u_ 21, u_ 22, u_ 23, u_ 24, u_ 25, u_ 26, u_ 27, u_ 28, u_ 29, u_ 30, u_ 31, u_ 32, u_ 33, u_ 34, u_ 35, u_ 36, u_ 37, u_ 38, u_ 39, u_ 40, u_ 41, u_ 42, u_ 43, u_ 44, u_ 45, u_ 46]
def dowelref03_Ranges.j4 (next0 : List Tapi_Range → Int → Option (List Tapi_Range)) (x220 : Int) (x324 : List Tapi_Range) : Option (List Tapi_Range) := next0 x324 (W (x220 + 1))
def dowelref03_Ranges.j1 (t95 : List Bool) (x217 : List Tapi_Range) (next0 : List Tapi_Range → Int → Option (List Tapi_Range)) (x220 : Int) (K : Nat) (x237 : Bool) : Option (List Tapi_Range) := if x237 = true then (dowelref03_Ranges.l2 t95 (fun x289 => if (x217.length + 1) * 3 ≤ 140737488355328 then (dowelref03_Ranges.j4 next0 x220 (x217 ++ ([(⟨W8 (x220), W8 (x289)⟩ : Tapi_Range)] : List Tapi_Range))) else none) K x220) else (dowelref03_Ranges.j4 next0 x220 x217)
def dowelref03_Ranges.b0 (t95 : List Bool) (K : Nat) (next0 : List Tapi_Range → Int → Option (List Tapi_Range)) (brk0_0 : List Tapi_Range → Option (List Tapi_Range)) (x217 : List Tapi_Range) (x220 : Int) : Option (List Tapi_Range) := if x220 < 256 then (if 0 ≤ x220 then (if t95.length = 256 then (if (rd false t95 x220) = true then (if x220 = 0 then (dowelref03_Ranges.j1 t95 x217 next0 x220 K true) else (if 0 ≤ (W (x220 - 1)) then (if (W (x220 - 1)) < 256 then (dowelref03_Ranges.j1 t95 x217 next0 x220 K (!(rd false t95 (W (x220 - 1))))) else none) else none)) else (dowelref03_Ranges.j1 t95 x217 next0 x220 K false)) else none) else none) else (brk0_0 x217)
def dowelref03_Ranges.l0 (t95 : List Bool) (K : Nat) (brk0_0 : List Tapi_Range → Option (List Tapi_Range)) : Nat → List Tapi_Range → Int → Option (List Tapi_Range)
  | 0, _, _ => none
  | n_ + 1, x217, x220 => dowelref03_Ranges.b0 t95 K (dowelref03_Ranges.l0 t95 K brk0_0 n_) brk0_0 x217 x220
def dowelref03_Ranges.f (K : Nat) (a0 : Tapi_Class) : Option (List Tapi_Range) := (dowelref03_Open.f K a0).bind fun t95 => (if (List.replicate 256 false).length = 256 then (if t95.length = 256 then (dowelref03_Ranges.l0 t95 K (fun x334 => some x334) K ([] : List Tapi_Range) 0) else none) else none)
def dowelref03_Ranges.R (r : List Tapi_Range) (w : World) : Ending → World → Prop := fun e w' => ∃ (A0 : Option Addr) (n0 c0 : Nat), e = .returned (.slice A0 n0 c0) ∧ Kp No w w' ∧ Ow w (Kapi_Range 44) w' A0 n0 c0 r
set_option maxRecDepth 20000 in
set_option maxHeartbeats 4000000 in
theorem dowelref03_Ranges.j3.ok (K : Nat) (a0 : Tapi_Class) (w : World) (r : List Tapi_Range) {Q : Exit → Act → World → Prop} (b104 : Nat) (A218 : Option Addr) (x217 : List Tapi_Range) (c219 : Nat) (x220 : Int) (x266 : Int) (t95 : List Bool) (next2 : Int → Option (List Tapi_Range)) (brk2_2 : Int → Option (List Tapi_Range)) (HR : ∀ a w', bodyPost Try.prog Try.f19 (dowelref03_Ranges.R r w) .ret a w' → Q .ret a w') (HN2 : ∀ (x266q : Int) (u263q : Nat → Value) (w264q : World) (k265q : Kp No w w264q) (hb267q : Blk w264q b104 ((kBool 4).cells t95).toArray 108) (ghb267q : w.heap.size ≤ b104) (ho270q : Ow w (Kapi_Range 44) w264q A218 x217.length c219 x217) (n271q : Dj (One b104) (Ra A218)), next2 x266q = some r → Q .normal ⟨dowelref03_Ranges.F2 b104 A218 x217 c219 x220 x266q u263q, []⟩ w264q) (HX2_2 : ∀ (x289q : Int) (u287q : Nat → Value) (w285q : World) (k286q : Kp No w w285q) (hb290q : Blk w285q b104 ((kBool 4).cells t95).toArray 108) (ghb290q : w.heap.size ≤ b104) (ho293q : Ow w (Kapi_Range 44) w285q A218 x217.length c219 x217) (n294q : Dj (One b104) (Ra A218)), brk2_2 x289q = some r → Q (.exit 2) ⟨dowelref03_Ranges.F2_2 b104 A218 x217 c219 x220 x289q u287q, []⟩ w285q) (x280 : Bool) (u278 : Nat → Value) (w276 : World) (k277 : Kp No w w276) (hb281 : Blk w276 b104 ((kBool 4).cells t95).toArray 108) (ghb281 : w.heap.size ≤ b104) (ho282 : Ow w (Kapi_Range 44) w276 A218 x217.length c219 x217) (n283 : Dj (One b104) (Ra A218)) (H : dowelref03_Ranges.j3 next2 x266 brk2_2 x280 = some r) : (cd Try.f19 [1, 1, 1, 0, 1, 0, 0, 1, 0, 0, 1, 0, 1, 0, 0, 0, 0, 1]).wp Try.prog (Exit.then (fun a w => (cd Try.f19 [1, 1, 1, 0, 1, 0, 0, 1, 0, 0, 1, 0, 1, 0, 0, 0, 1]).wp Try.prog Q a w) Q) ⟨dowelref03_Ranges.j3F b104 A218 x217 c219 x220 x266 x280 u278, []⟩ w276 := by
  unfold dowelref03_Ranges.j3 at H
  refine w_cond (p := [1, 1, 1, 0, 1, 0, 0, 1, 0, 0, 1, 0, 1, 0, 0, 0, 0, 1]) (p0 := [1, 1, 1, 0, 1, 0, 0, 1, 0, 0, 1, 0, 1, 0, 0, 0, 0, 1, 0]) (p1 := [1, 1, 1, 0, 1, 0, 0, 1, 0, 0, 1, 0, 1, 0, 0, 0, 0, 1, 1]) (c := (Operand.tmp 35)) (b := x280) (by kernel_rfl) (by kernel_rfl) ?_ ?_
  · intro h_
    have h284 : x280 = true := h_
    clear h_
    rw [if_pos h284] at H
    refine w_skip (p := [1, 1, 1, 0, 1, 0, 0, 1, 0, 0, 1, 0, 1, 0, 0, 0, 0, 1, 0]) (by kernel_rfl) ?_
    refine q_then ?_
    refine w_block (p := [1, 1, 1, 0, 1, 0, 0, 1, 0, 0, 1, 0, 1, 0, 0, 0, 1]) (p0 := [1, 1, 1, 0, 1, 0, 0, 1, 0, 0, 1, 0, 1, 0, 0, 0, 1, 0]) (id := 3) (by kernel_rfl) ?_
    refine w_region (p := [1, 1, 1, 0, 1, 0, 0, 1, 0, 0, 1, 0, 1, 0, 0, 0, 1, 0]) (id := 9) (by kernel_rfl) ?_
    refine r_vals 0 3 [.int .i64 x266, .int .i64 (W (x266 + 1)), .int .i64 (W (x266 + 1))] (by kernel_rfl) (by kernel_rfl) ?_
    refine r_fin 3 (by kernel_rfl) ?_
    refine q_in ?_
    refine q_into (dowelref03_Ranges.F2 b104 A218 x217 c219 x220 (W (x266 + 1))) (by kernel_rfl) (fun u_ => ?_)
    exact HN2 (W (x266 + 1)) u_ w276 k277 hb281 ghb281 ho282 n283 H
  · intro h_
    have h284 : ¬ (x280 = true) := by rw [h_]; decide
    clear h_
    rw [if_neg h284] at H
    refine w_exit (p := [1, 1, 1, 0, 1, 0, 0, 1, 0, 0, 1, 0, 1, 0, 0, 0, 0, 1, 1]) (id := 2) (by kernel_rfl) ?_
    refine q_then_x ?_
    refine q_into (dowelref03_Ranges.F2_2 b104 A218 x217 c219 x220 x266) (by kernel_rfl) (fun u_ => ?_)
    exact HX2_2 x266 u_ w276 k277 hb281 ghb281 ho282 n283 H
set_option maxRecDepth 20000 in
set_option maxHeartbeats 4000000 in
theorem dowelref03_Ranges.b2.ok (K : Nat) (a0 : Tapi_Class) (w : World) (r : List Tapi_Range) (b104 : Nat) (A218 : Option Addr) (x217 : List Tapi_Range) (c219 : Nat) (x220 : Int) (t95 : List Bool) {Q : Exit → Act → World → Prop} (HR : ∀ a w', bodyPost Try.prog Try.f19 (dowelref03_Ranges.R r w) .ret a w' → Q .ret a w') {next2 : Int → Option (List Tapi_Range)} {brk2_2 : Int → Option (List Tapi_Range)} (HN2 : ∀ (x266q : Int) (u263q : Nat → Value) (w264q : World) (k265q : Kp No w w264q) (hb267q : Blk w264q b104 ((kBool 4).cells t95).toArray 108) (ghb267q : w.heap.size ≤ b104) (ho270q : Ow w (Kapi_Range 44) w264q A218 x217.length c219 x217) (n271q : Dj (One b104) (Ra A218)), next2 x266q = some r → Q .normal ⟨dowelref03_Ranges.F2 b104 A218 x217 c219 x220 x266q u263q, []⟩ w264q) (HX2_2 : ∀ (x289q : Int) (u287q : Nat → Value) (w285q : World) (k286q : Kp No w w285q) (hb290q : Blk w285q b104 ((kBool 4).cells t95).toArray 108) (ghb290q : w.heap.size ≤ b104) (ho293q : Ow w (Kapi_Range 44) w285q A218 x217.length c219 x217) (n294q : Dj (One b104) (Ra A218)), brk2_2 x289q = some r → Q (.exit 2) ⟨dowelref03_Ranges.F2_2 b104 A218 x217 c219 x220 x289q u287q, []⟩ w285q) (x266 : Int) (u263 : Nat → Value) (w264 : World) (k265 : Kp No w w264) (hb267 : Blk w264 b104 ((kBool 4).cells t95).toArray 108) (ghb267 : w.heap.size ≤ b104) (ho270 : Ow w (Kapi_Range 44) w264 A218 x217.length c219 x217) (n271 : Dj (One b104) (Ra A218)) (H : dowelref03_Ranges.b2 t95 next2 brk2_2 x266 = some r) : (cd Try.f19 [1, 1, 1, 0, 1, 0, 0, 1, 0, 0, 1, 0, 1, 0, 0, 0]).wp Try.prog Q ⟨dowelref03_Ranges.F2 b104 A218 x217 c219 x220 x266 u263, []⟩ w264 := by
  unfold dowelref03_Ranges.b2 at H
  refine w_seq (p := [1, 1, 1, 0, 1, 0, 0, 1, 0, 0, 1, 0, 1, 0, 0, 0]) (p0 := [1, 1, 1, 0, 1, 0, 0, 1, 0, 0, 1, 0, 1, 0, 0, 0, 0]) (p1 := [1, 1, 1, 0, 1, 0, 0, 1, 0, 0, 1, 0, 1, 0, 0, 0, 1]) (by kernel_rfl) ?_
  refine w_seq (p := [1, 1, 1, 0, 1, 0, 0, 1, 0, 0, 1, 0, 1, 0, 0, 0, 0]) (p0 := [1, 1, 1, 0, 1, 0, 0, 1, 0, 0, 1, 0, 1, 0, 0, 0, 0, 0]) (p1 := [1, 1, 1, 0, 1, 0, 0, 1, 0, 0, 1, 0, 1, 0, 0, 0, 0, 1]) (by kernel_rfl) ?_
  refine w_region (p := [1, 1, 1, 0, 1, 0, 0, 1, 0, 0, 1, 0, 1, 0, 0, 0, 0, 0]) (id := 8) (by kernel_rfl) ?_
  refine r_vals 0 3 [.int .i64 x266, .bool (decide (x266 < 255)), .bool (decide (x266 < 255))] (by kernel_rfl) (by kernel_rfl) ?_
  refine b_split (decide (x266 < 255)) (fun h_ => ?_) (fun h_ => ?_)
  · have h272 : x266 < 255 := by simpa using h_
    rw [if_pos h272] at H
    rw [h_]
    clear h_
    refine r_vals 3 5 [.int .i64 x266, .int .i64 (W (x266 + 1))] (by kernel_rfl) (by kernel_rfl) ?_
    refine p_split (0 ≤ (W (x266 + 1))) (fun h273 => ?_) (fun h273 => ?_)
    · rw [if_pos h273] at H
      refine p_split ((W (x266 + 1)) < 256) (fun h274 => ?_) (fun h274 => ?_)
      · rw [if_pos h274] at H
        refine r_do 5 (by kernel_rfl) (og_indexA (T := 108) (n := 256) (e := 4) (sz := 1) (b := b104) (off := 0) (iv := (W (x266 + 1))) (x := (Operand.tmp 3)) (y := (Operand.tmp 32)) (k := .i64) (by kernel_rfl) (by kernel_rfl) (by kernel_rfl) (by kernel_rfl) h273 h274 ?_) 
        refine p_split (t95.length = 256) (fun h275 => ?_) (fun h275 => ?_)
        · rw [if_pos h275] at H
          refine r_do 6 (by kernel_rfl) (ar_loadA (K := (kBool 4)) (T := 4) (x := (Operand.tmp 33)) (b := b104) (off := 0) (xs := t95) (iv := (W (x266 + 1))) false (.bool (rd false t95 (W (x266 + 1)))) (by kernel_rfl) (by kernel_rfl) hb267 h273 (by rw [h275]; exact h274) (by kernel_rfl) ?_) 
          refine r_vals 7 8 [.bool (rd false t95 (W (x266 + 1)))] (by kernel_rfl) (by kernel_rfl) ?_
          refine r_fin 8 (by kernel_rfl) ?_
          refine q_then ?_
          refine w_into (dowelref03_Ranges.j3F b104 A218 x217 c219 x220 x266 (rd false t95 (W (x266 + 1)))) (by kernel_rfl) (fun u_ => ?_)
          exact dowelref03_Ranges.j3.ok K a0 w r b104 A218 x217 c219 x220 x266 t95 next2 brk2_2 HR HN2 HX2_2 (rd false t95 (W (x266 + 1))) u_ w264 k265 hb267 ghb267 ho270 n271 H
        · rw [if_neg h275] at H
          cases H
      · rw [if_neg h274] at H
        cases H
    · rw [if_neg h273] at H
      cases H
  · have h272 : ¬ (x266 < 255) := by simpa using h_
    rw [if_neg h272] at H
    rw [h_]
    clear h_
    refine r_vals 3 8 [undef, undef, undef, undef, .bool false] (by kernel_rfl) (by kernel_rfl) ?_
    refine r_fin 8 (by kernel_rfl) ?_
    refine q_then ?_
    refine w_into (dowelref03_Ranges.j3F b104 A218 x217 c219 x220 x266 false) (by kernel_rfl) (fun u_ => ?_)
    exact dowelref03_Ranges.j3.ok K a0 w r b104 A218 x217 c219 x220 x266 t95 next2 brk2_2 HR HN2 HX2_2 false u_ w264 k265 hb267 ghb267 ho270 n271 H
set_option maxRecDepth 20000 in
set_option maxHeartbeats 4000000 in
theorem dowelref03_Ranges.l2.ok (K : Nat) (a0 : Tapi_Class) (w : World) (r : List Tapi_Range) (b104 : Nat) (A218 : Option Addr) (x217 : List Tapi_Range) (c219 : Nat) (x220 : Int) (t95 : List Bool) {Q : Exit → Act → World → Prop} (HR : ∀ a w', bodyPost Try.prog Try.f19 (dowelref03_Ranges.R r w) .ret a w' → Q .ret a w') {brk2_2 : Int → Option (List Tapi_Range)} (HX2_2 : ∀ (x289q : Int) (u287q : Nat → Value) (w285q : World) (k286q : Kp No w w285q) (hb290q : Blk w285q b104 ((kBool 4).cells t95).toArray 108) (ghb290q : w.heap.size ≤ b104) (ho293q : Ow w (Kapi_Range 44) w285q A218 x217.length c219 x217) (n294q : Dj (One b104) (Ra A218)), brk2_2 x289q = some r → Q (.exit 2) ⟨dowelref03_Ranges.F2_2 b104 A218 x217 c219 x220 x289q u287q, []⟩ w285q) : ∀ (n_ : Nat) (x266 : Int) (u263 : Nat → Value) (w264 : World) (k265 : Kp No w w264) (hb267 : Blk w264 b104 ((kBool 4).cells t95).toArray 108) (ghb267 : w.heap.size ≤ b104) (ho270 : Ow w (Kapi_Range 44) w264 A218 x217.length c219 x217) (n271 : Dj (One b104) (Ra A218)) (H : dowelref03_Ranges.l2 t95 brk2_2 n_ x266 = some r), Code.rounds Try.prog (cd Try.f19 [1, 1, 1, 0, 1, 0, 0, 1, 0, 0, 1, 0, 1, 0, 0, 0]) Q n_ ⟨dowelref03_Ranges.F2 b104 A218 x217 c219 x220 x266 u263, []⟩ w264
  | 0, _, _, _, _, _, _, _, _, H => by cases H
  | n_ + 1, x266, u263, w264, k265, hb267, ghb267, ho270, n271, H =>
    dowelref03_Ranges.b2.ok K a0 w r b104 A218 x217 c219 x220 t95 (Q := Exit.then (Code.rounds Try.prog (cd Try.f19 [1, 1, 1, 0, 1, 0, 0, 1, 0, 0, 1, 0, 1, 0, 0, 0]) Q n_) Q) (fun a w' h_ => q_then_r (HR a w' h_)) (fun x0_ x1_ x2_ x3_ x4_ x5_ x6_ x7_ h_ => dowelref03_Ranges.l2.ok K a0 w r b104 A218 x217 c219 x220 t95 HR HX2_2 n_ x0_ x1_ x2_ x3_ x4_ x5_ x6_ x7_ h_) (fun x0_ x1_ x2_ x3_ x4_ x5_ x6_ x7_ h_ => q_then_x (HX2_2 x0_ x1_ x2_ x3_ x4_ x5_ x6_ x7_ h_)) x266 u263 w264 k265 hb267 ghb267 ho270 n271 H
set_option maxRecDepth 20000 in
set_option maxHeartbeats 4000000 in
theorem dowelref03_Ranges.j4.ok (K : Nat) (a0 : Tapi_Class) (w : World) (r : List Tapi_Range) {Q : Exit → Act → World → Prop} (b104 : Nat) (x220 : Int) (t95 : List Bool) (next0 : List Tapi_Range → Int → Option (List Tapi_Range)) (brk0_0 : List Tapi_Range → Option (List Tapi_Range)) (HR : ∀ a w', bodyPost Try.prog Try.f19 (dowelref03_Ranges.R r w) .ret a w' → Q .ret a w') (HN0 : ∀ (x217q : List Tapi_Range) (x220q : Int) (A218q : Option Addr) (c219q : Nat) (u214q : Nat → Value) (w215q : World) (k216q : Kp No w w215q) (hb221q : Blk w215q b104 ((kBool 4).cells t95).toArray 108) (ghb221q : w.heap.size ≤ b104) (ho224q : Ow w (Kapi_Range 44) w215q A218q x217q.length c219q x217q) (n225q : Dj (One b104) (Ra A218q)), next0 x217q x220q = some r → Q .normal ⟨dowelref03_Ranges.F0 b104 A218q x217q c219q x220q u214q, []⟩ w215q) (HX0_0 : ∀ (x334q : List Tapi_Range) (A335q : Option Addr) (c336q : Nat) (u332q : Nat → Value) (w330q : World) (k331q : Kp No w w330q) (ho338q : Ow w (Kapi_Range 44) w330q A335q x334q.length c336q x334q), brk0_0 x334q = some r → Q (.exit 0) ⟨dowelref03_Ranges.F0_0 A335q x334q c336q u332q, []⟩ w330q) (x324 : List Tapi_Range) (A325 : Option Addr) (c326 : Nat) (u322 : Nat → Value) (w320 : World) (k321 : Kp No w w320) (hb327 : Blk w320 b104 ((kBool 4).cells t95).toArray 108) (ghb327 : w.heap.size ≤ b104) (ho328 : Ow w (Kapi_Range 44) w320 A325 x324.length c326 x324) (n329 : Dj (One b104) (Ra A325)) (H : dowelref03_Ranges.j4 next0 x220 x324 = some r) : (Exit.then (fun a w => (cd Try.f19 [1, 1, 1, 0, 1, 0, 0, 1, 1]).wp Try.prog Q a w) Q) .normal ⟨dowelref03_Ranges.j4F b104 A325 x324 c326 x220 u322, []⟩ w320 := by
  unfold dowelref03_Ranges.j4 at H
  refine q_then ?_
  refine w_region (p := [1, 1, 1, 0, 1, 0, 0, 1, 1]) (id := 5) (by kernel_rfl) ?_
  refine r_vals 0 3 [.int .i64 x220, .int .i64 (W (x220 + 1)), .int .i64 (W (x220 + 1))] (by kernel_rfl) (by kernel_rfl) ?_
  refine r_fin 3 (by kernel_rfl) ?_
  refine q_into (dowelref03_Ranges.F0 b104 A325 x324 c326 (W (x220 + 1))) (by kernel_rfl) (fun u_ => ?_)
  exact HN0 x324 (W (x220 + 1)) A325 c326 u_ w320 k321 hb327 ghb327 ho328 n329 H
set_option maxRecDepth 20000 in
set_option maxHeartbeats 4000000 in
theorem dowelref03_Ranges.j1.ok (K : Nat) (a0 : Tapi_Class) (w : World) (r : List Tapi_Range) {Q : Exit → Act → World → Prop} (b104 : Nat) (A218 : Option Addr) (x217 : List Tapi_Range) (c219 : Nat) (x220 : Int) (t95 : List Bool) (next0 : List Tapi_Range → Int → Option (List Tapi_Range)) (brk0_0 : List Tapi_Range → Option (List Tapi_Range)) (HR : ∀ a w', bodyPost Try.prog Try.f19 (dowelref03_Ranges.R r w) .ret a w' → Q .ret a w') (HN0 : ∀ (x217q : List Tapi_Range) (x220q : Int) (A218q : Option Addr) (c219q : Nat) (u214q : Nat → Value) (w215q : World) (k216q : Kp No w w215q) (hb221q : Blk w215q b104 ((kBool 4).cells t95).toArray 108) (ghb221q : w.heap.size ≤ b104) (ho224q : Ow w (Kapi_Range 44) w215q A218q x217q.length c219q x217q) (n225q : Dj (One b104) (Ra A218q)), next0 x217q x220q = some r → Q .normal ⟨dowelref03_Ranges.F0 b104 A218q x217q c219q x220q u214q, []⟩ w215q) (HX0_0 : ∀ (x334q : List Tapi_Range) (A335q : Option Addr) (c336q : Nat) (u332q : Nat → Value) (w330q : World) (k331q : Kp No w w330q) (ho338q : Ow w (Kapi_Range 44) w330q A335q x334q.length c336q x334q), brk0_0 x334q = some r → Q (.exit 0) ⟨dowelref03_Ranges.F0_0 A335q x334q c336q u332q, []⟩ w330q) (x237 : Bool) (u235 : Nat → Value) (w233 : World) (k234 : Kp No w w233) (hb238 : Blk w233 b104 ((kBool 4).cells t95).toArray 108) (ghb238 : w.heap.size ≤ b104) (ho239 : Ow w (Kapi_Range 44) w233 A218 x217.length c219 x217) (n240 : Dj (One b104) (Ra A218)) (H : dowelref03_Ranges.j1 t95 x217 next0 x220 K x237 = some r) : (cd Try.f19 [1, 1, 1, 0, 1, 0, 0, 1, 0, 0, 1]).wp Try.prog (Exit.inBlock 1 (Exit.then (fun a w => (cd Try.f19 [1, 1, 1, 0, 1, 0, 0, 1, 1]).wp Try.prog Q a w) Q)) ⟨dowelref03_Ranges.j1F b104 A218 x217 c219 x220 x237 u235, []⟩ w233 := by
  unfold dowelref03_Ranges.j1 at H
  refine w_cond (p := [1, 1, 1, 0, 1, 0, 0, 1, 0, 0, 1]) (p0 := [1, 1, 1, 0, 1, 0, 0, 1, 0, 0, 1, 0]) (p1 := [1, 1, 1, 0, 1, 0, 0, 1, 0, 0, 1, 1]) (c := (Operand.tmp 26)) (b := x237) (by kernel_rfl) (by kernel_rfl) ?_ ?_
  · intro h_
    have h241 : x237 = true := h_
    clear h_
    rw [if_pos h241] at H
    refine w_seq (p := [1, 1, 1, 0, 1, 0, 0, 1, 0, 0, 1, 0]) (p0 := [1, 1, 1, 0, 1, 0, 0, 1, 0, 0, 1, 0, 0]) (p1 := [1, 1, 1, 0, 1, 0, 0, 1, 0, 0, 1, 0, 1]) (by kernel_rfl) ?_
    refine w_region (p := [1, 1, 1, 0, 1, 0, 0, 1, 0, 0, 1, 0, 0]) (id := 7) (by kernel_rfl) ?_
    refine r_vals 0 2 [.int .i64 x220, .int .i64 x220] (by kernel_rfl) (by kernel_rfl) ?_
    refine r_fin 2 (by kernel_rfl) ?_
    refine q_then ?_
    refine w_seq (p := [1, 1, 1, 0, 1, 0, 0, 1, 0, 0, 1, 0, 1]) (p0 := [1, 1, 1, 0, 1, 0, 0, 1, 0, 0, 1, 0, 1, 0]) (p1 := [1, 1, 1, 0, 1, 0, 0, 1, 0, 0, 1, 0, 1, 1]) (by kernel_rfl) ?_
    refine w_block (p := [1, 1, 1, 0, 1, 0, 0, 1, 0, 0, 1, 0, 1, 0]) (p0 := [1, 1, 1, 0, 1, 0, 0, 1, 0, 0, 1, 0, 1, 0, 0]) (id := 2) (by kernel_rfl) ?_
    refine w_into (dowelref03_Ranges.F2 b104 A218 x217 c219 x220 x220) (by kernel_rfl) (fun u_ => ?_)
    refine w_loop (p := [1, 1, 1, 0, 1, 0, 0, 1, 0, 0, 1, 0, 1, 0, 0]) (p0 := [1, 1, 1, 0, 1, 0, 0, 1, 0, 0, 1, 0, 1, 0, 0, 0]) K (by kernel_rfl) ?_
    refine dowelref03_Ranges.l2.ok K a0 w r b104 A218 x217 c219 x220 t95 (fun a w' h_ => q_in_r (q_then_r (q_in_r (q_then_r (HR a w' h_))))) ?_ K x220 u_ w233 k234 hb238 ghb238 ho239 n240 H
    intro x289 u287 w285 k286 hb290 ghb290 ho293 n294 H
    try dsimp only at H
    refine q_in_hit ?_
    refine q_then ?_
    refine w_region (p := [1, 1, 1, 0, 1, 0, 0, 1, 0, 0, 1, 0, 1, 1]) (id := 10) (by kernel_rfl) ?_
    refine r_vals 0 6 [.slice A218 x217.length c219, .int .i64 x220, .int .u8 (W8 (x220)), .int .i64 x289, .int .u8 (W8 (x289)), .agg #[.int .u8 (W8 (x220)), .int .u8 (W8 (x289))]] (by kernel_rfl) (by kernel_rfl) ?_
    refine r_do 6 (by kernel_rfl) (ow_lit (K := (Kapi_Range 44)) (w0 := w) (T := 38) (n := 1) (e := 44) (ps := #[(0, (Operand.tmp 43))]) (cs := #[.int .u8 (W8 (x220)), .int .u8 (W8 (x289))]) (parts := [(0, .agg #[.int .u8 (W8 (x220)), .int .u8 (W8 (x289))])]) ([(⟨W8 (x220), W8 (x289)⟩ : Tapi_Range)] : List Tapi_Range) (by kernel_rfl) (by kernel_rfl) (by kernel_rfl) (by kernel_rfl) rfl rfl (by kernel_rfl) k286 ?_) 
    intro b298 w295 e299 ho297 k296
    have n301 := blk_dj_row hb290 e299
    have n302 := Ow.dj_row ho293 e299
    clear e299
    have k303 := Kp.trans k286 k296 (fun _ h => h.elim)
    have hb304 := Blk.kp hb290 k296 id
    have ho305 := Ow.kpNo ho293 k296
    refine p_split ((x217.length + 1) * 3 ≤ 140737488355328) (fun h306 => ?_) (fun h306 => ?_)
    · rw [if_pos h306] at H
      refine r_do 7 (by kernel_rfl) (ow_append2 (K := (Kapi_Range 44)) (w0 := w) (T := 38) (n := x217.length) (c := c219) (m := 1) (d := 1) (s := (Operand.tmp 38)) (x := (Operand.tmp 44)) (A := A218) (D := (some ⟨b298, 0, none⟩)) (xs := x217) (ys := ([(⟨W8 (x220), W8 (x289)⟩ : Tapi_Range)] : List Tapi_Range)) (.agg #[.int .u8 0, .int .u8 0]) 2 (by kernel_rfl) (by kernel_rfl) (by kernel_rfl) (by kernel_rfl) (by kernel_rfl) ho305 (by kernel_rfl) (Ow.len ho297) (Ow.rdNo ho297) h306 k303 ?_) 
      intro A311 c312 w307 ho309 k308 hn310 ha314
      have n315 := blk_dj_app hb304 n294 hn310
      have n316 := Ow.dj_app ho297 (Dj.symm n302) hn310
      clear hn310 ha314
      have k317 := Kp.own ho305 k303 k308
      have hb318 := Blk.kpOne hb304 k308 n294
      have ho319 := Ow.kp ho297 k308 (Dj.symm n302)
      refine r_vals 8 9 [.slice A311 ((x217 ++ ([(⟨W8 (x220), W8 (x289)⟩ : Tapi_Range)] : List Tapi_Range)).length) c312] (by kernel_rfl) (by kernel_rfl) ?_
      refine r_fin 9 (by kernel_rfl) ?_
      refine q_in ?_
      refine q_into (dowelref03_Ranges.j4F b104 A311 (x217 ++ ([(⟨W8 (x220), W8 (x289)⟩ : Tapi_Range)] : List Tapi_Range)) c312 x220) (by kernel_rfl) (fun u_ => ?_)
      exact dowelref03_Ranges.j4.ok K a0 w r b104 x220 t95 next0 brk0_0 HR HN0 HX0_0 (x217 ++ ([(⟨W8 (x220), W8 (x289)⟩ : Tapi_Range)] : List Tapi_Range)) A311 c312 u_ w307 k317 hb318 ghb290 ho309 n315 H
    · rw [if_neg h306] at H
      cases H
  · intro h_
    have h241 : ¬ (x237 = true) := by rw [h_]; decide
    clear h_
    rw [if_neg h241] at H
    refine w_skip (p := [1, 1, 1, 0, 1, 0, 0, 1, 0, 0, 1, 1]) (by kernel_rfl) ?_
    refine q_in ?_
    refine q_into (dowelref03_Ranges.j4F b104 A218 x217 c219 x220) (by kernel_rfl) (fun u_ => ?_)
    exact dowelref03_Ranges.j4.ok K a0 w r b104 x220 t95 next0 brk0_0 HR HN0 HX0_0 x217 A218 c219 u_ w233 k234 hb238 ghb238 ho239 n240 H
set_option maxRecDepth 20000 in
set_option maxHeartbeats 4000000 in
theorem dowelref03_Ranges.b0.ok (K : Nat) (a0 : Tapi_Class) (w : World) (r : List Tapi_Range) (b104 : Nat) (t95 : List Bool) {Q : Exit → Act → World → Prop} (HR : ∀ a w', bodyPost Try.prog Try.f19 (dowelref03_Ranges.R r w) .ret a w' → Q .ret a w') {next0 : List Tapi_Range → Int → Option (List Tapi_Range)} {brk0_0 : List Tapi_Range → Option (List Tapi_Range)} (HN0 : ∀ (x217q : List Tapi_Range) (x220q : Int) (A218q : Option Addr) (c219q : Nat) (u214q : Nat → Value) (w215q : World) (k216q : Kp No w w215q) (hb221q : Blk w215q b104 ((kBool 4).cells t95).toArray 108) (ghb221q : w.heap.size ≤ b104) (ho224q : Ow w (Kapi_Range 44) w215q A218q x217q.length c219q x217q) (n225q : Dj (One b104) (Ra A218q)), next0 x217q x220q = some r → Q .normal ⟨dowelref03_Ranges.F0 b104 A218q x217q c219q x220q u214q, []⟩ w215q) (HX0_0 : ∀ (x334q : List Tapi_Range) (A335q : Option Addr) (c336q : Nat) (u332q : Nat → Value) (w330q : World) (k331q : Kp No w w330q) (ho338q : Ow w (Kapi_Range 44) w330q A335q x334q.length c336q x334q), brk0_0 x334q = some r → Q (.exit 0) ⟨dowelref03_Ranges.F0_0 A335q x334q c336q u332q, []⟩ w330q) (x217 : List Tapi_Range) (x220 : Int) (A218 : Option Addr) (c219 : Nat) (u214 : Nat → Value) (w215 : World) (k216 : Kp No w w215) (hb221 : Blk w215 b104 ((kBool 4).cells t95).toArray 108) (ghb221 : w.heap.size ≤ b104) (ho224 : Ow w (Kapi_Range 44) w215 A218 x217.length c219 x217) (n225 : Dj (One b104) (Ra A218)) (H : dowelref03_Ranges.b0 t95 K next0 brk0_0 x217 x220 = some r) : (cd Try.f19 [1, 1, 1, 0, 1, 0, 0]).wp Try.prog Q ⟨dowelref03_Ranges.F0 b104 A218 x217 c219 x220 u214, []⟩ w215 := by
  unfold dowelref03_Ranges.b0 at H
  refine w_seq (p := [1, 1, 1, 0, 1, 0, 0]) (p0 := [1, 1, 1, 0, 1, 0, 0, 0]) (p1 := [1, 1, 1, 0, 1, 0, 0, 1]) (by kernel_rfl) ?_
  refine w_seq (p := [1, 1, 1, 0, 1, 0, 0, 0]) (p0 := [1, 1, 1, 0, 1, 0, 0, 0, 0]) (p1 := [1, 1, 1, 0, 1, 0, 0, 0, 1]) (by kernel_rfl) ?_
  refine w_region (p := [1, 1, 1, 0, 1, 0, 0, 0, 0]) (id := 4) (by kernel_rfl) ?_
  refine r_vals 0 2 [.int .i64 x220, .bool (decide (x220 < 256))] (by kernel_rfl) (by kernel_rfl) ?_
  refine r_fin 2 (by kernel_rfl) ?_
  refine q_then ?_
  refine w_cond (p := [1, 1, 1, 0, 1, 0, 0, 0, 1]) (p0 := [1, 1, 1, 0, 1, 0, 0, 0, 1, 0]) (p1 := [1, 1, 1, 0, 1, 0, 0, 0, 1, 1]) (c := (Operand.tmp 10)) (b := decide (x220 < 256)) (by kernel_rfl) (by kernel_rfl) ?_ ?_
  · intro h_
    have h226 : x220 < 256 := by simpa using h_
    clear h_
    rw [if_pos h226] at H
    refine w_skip (p := [1, 1, 1, 0, 1, 0, 0, 0, 1, 0]) (by kernel_rfl) ?_
    refine q_then ?_
    refine w_seq (p := [1, 1, 1, 0, 1, 0, 0, 1]) (p0 := [1, 1, 1, 0, 1, 0, 0, 1, 0]) (p1 := [1, 1, 1, 0, 1, 0, 0, 1, 1]) (by kernel_rfl) ?_
    refine w_block (p := [1, 1, 1, 0, 1, 0, 0, 1, 0]) (p0 := [1, 1, 1, 0, 1, 0, 0, 1, 0, 0]) (id := 1) (by kernel_rfl) ?_
    refine w_seq (p := [1, 1, 1, 0, 1, 0, 0, 1, 0, 0]) (p0 := [1, 1, 1, 0, 1, 0, 0, 1, 0, 0, 0]) (p1 := [1, 1, 1, 0, 1, 0, 0, 1, 0, 0, 1]) (by kernel_rfl) ?_
    refine w_region (p := [1, 1, 1, 0, 1, 0, 0, 1, 0, 0, 0]) (id := 6) (by kernel_rfl) ?_
    refine r_vals 0 1 [.int .i64 x220] (by kernel_rfl) (by kernel_rfl) ?_
    refine p_split (0 ≤ x220) (fun h227 => ?_) (fun h227 => ?_)
    · rw [if_pos h227] at H
      refine r_do 1 (by kernel_rfl) (og_indexA (T := 108) (n := 256) (e := 4) (sz := 1) (b := b104) (off := 0) (iv := x220) (x := (Operand.tmp 3)) (y := (Operand.tmp 13)) (k := .i64) (by kernel_rfl) (by kernel_rfl) (by kernel_rfl) (by kernel_rfl) h227 h226 ?_) 
      refine p_split (t95.length = 256) (fun h228 => ?_) (fun h228 => ?_)
      · rw [if_pos h228] at H
        refine r_do 2 (by kernel_rfl) (ar_loadA (K := (kBool 4)) (T := 4) (x := (Operand.tmp 14)) (b := b104) (off := 0) (xs := t95) (iv := x220) false (.bool (rd false t95 x220)) (by kernel_rfl) (by kernel_rfl) hb221 h227 (by rw [h228]; exact h226) (by kernel_rfl) ?_) 
        refine r_vals 3 4 [.bool (rd false t95 x220)] (by kernel_rfl) (by kernel_rfl) ?_
        refine b_split ((rd false t95 x220)) (fun h_ => ?_) (fun h_ => ?_)
        · have h229 : (rd false t95 x220) = true := h_
          rw [if_pos h229] at H
          rw [h_]
          clear h_
          refine r_vals 4 7 [.int .i64 x220, .bool (x220 == 0), .bool (x220 == 0)] (by kernel_rfl) (by kernel_rfl) ?_
          refine b_split (x220 == 0) (fun h_ => ?_) (fun h_ => ?_)
          · have h230 : x220 = 0 := by simpa using h_
            rw [if_pos h230] at H
            rw [h_]
            clear h_
            refine r_vals 7 14 [undef, undef, undef, undef, undef, .bool true, .bool true] (by kernel_rfl) (by kernel_rfl) ?_
            refine r_fin 14 (by kernel_rfl) ?_
            refine q_then ?_
            refine w_into (dowelref03_Ranges.j1F b104 A218 x217 c219 x220 true) (by kernel_rfl) (fun u_ => ?_)
            exact dowelref03_Ranges.j1.ok K a0 w r b104 A218 x217 c219 x220 t95 next0 brk0_0 HR HN0 HX0_0 true u_ w215 k216 hb221 ghb221 ho224 n225 H
          · have h230 : ¬ (x220 = 0) := by simpa using h_
            rw [if_neg h230] at H
            rw [h_]
            clear h_
            refine r_vals 7 9 [.int .i64 x220, .int .i64 (W (x220 - 1))] (by kernel_rfl) (by kernel_rfl) ?_
            refine p_split (0 ≤ (W (x220 - 1))) (fun h231 => ?_) (fun h231 => ?_)
            · rw [if_pos h231] at H
              refine p_split ((W (x220 - 1)) < 256) (fun h232 => ?_) (fun h232 => ?_)
              · rw [if_pos h232] at H
                refine r_do 9 (by kernel_rfl) (og_indexA (T := 108) (n := 256) (e := 4) (sz := 1) (b := b104) (off := 0) (iv := (W (x220 - 1))) (x := (Operand.tmp 3)) (y := (Operand.tmp 21)) (k := .i64) (by kernel_rfl) (by kernel_rfl) (by kernel_rfl) (by kernel_rfl) h231 h232 ?_) 
                refine r_do 10 (by kernel_rfl) (ar_loadA (K := (kBool 4)) (T := 4) (x := (Operand.tmp 22)) (b := b104) (off := 0) (xs := t95) (iv := (W (x220 - 1))) false (.bool (rd false t95 (W (x220 - 1)))) (by kernel_rfl) (by kernel_rfl) hb221 h231 (by rw [h228]; exact h232) (by kernel_rfl) ?_) 
                refine r_vals 11 14 [.bool (!(rd false t95 (W (x220 - 1)))), .bool (!(rd false t95 (W (x220 - 1)))), .bool (!(rd false t95 (W (x220 - 1))))] (by kernel_rfl) (by kernel_rfl) ?_
                refine r_fin 14 (by kernel_rfl) ?_
                refine q_then ?_
                refine w_into (dowelref03_Ranges.j1F b104 A218 x217 c219 x220 (!(rd false t95 (W (x220 - 1))))) (by kernel_rfl) (fun u_ => ?_)
                exact dowelref03_Ranges.j1.ok K a0 w r b104 A218 x217 c219 x220 t95 next0 brk0_0 HR HN0 HX0_0 (!(rd false t95 (W (x220 - 1)))) u_ w215 k216 hb221 ghb221 ho224 n225 H
              · rw [if_neg h232] at H
                cases H
            · rw [if_neg h231] at H
              cases H
        · have h229 : ¬ ((rd false t95 x220) = true) := by rw [h_]; decide
          rw [if_neg h229] at H
          rw [h_]
          clear h_
          refine r_vals 4 14 [undef, undef, undef, undef, undef, undef, undef, undef, undef, .bool false] (by kernel_rfl) (by kernel_rfl) ?_
          refine r_fin 14 (by kernel_rfl) ?_
          refine q_then ?_
          refine w_into (dowelref03_Ranges.j1F b104 A218 x217 c219 x220 false) (by kernel_rfl) (fun u_ => ?_)
          exact dowelref03_Ranges.j1.ok K a0 w r b104 A218 x217 c219 x220 t95 next0 brk0_0 HR HN0 HX0_0 false u_ w215 k216 hb221 ghb221 ho224 n225 H
      · rw [if_neg h228] at H
        cases H
    · rw [if_neg h227] at H
      cases H
  · intro h_
    have h226 : ¬ (x220 < 256) := by simpa using h_
    clear h_
    rw [if_neg h226] at H
    refine w_exit (p := [1, 1, 1, 0, 1, 0, 0, 0, 1, 1]) (id := 0) (by kernel_rfl) ?_
    refine q_then_x ?_
    refine q_into (dowelref03_Ranges.F0_0 A218 x217 c219) (by kernel_rfl) (fun u_ => ?_)
    exact HX0_0 x217 A218 c219 u_ w215 k216 ho224 H
set_option maxRecDepth 20000 in
set_option maxHeartbeats 4000000 in
theorem dowelref03_Ranges.l0.ok (K : Nat) (a0 : Tapi_Class) (w : World) (r : List Tapi_Range) (b104 : Nat) (t95 : List Bool) {Q : Exit → Act → World → Prop} (HR : ∀ a w', bodyPost Try.prog Try.f19 (dowelref03_Ranges.R r w) .ret a w' → Q .ret a w') {brk0_0 : List Tapi_Range → Option (List Tapi_Range)} (HX0_0 : ∀ (x334q : List Tapi_Range) (A335q : Option Addr) (c336q : Nat) (u332q : Nat → Value) (w330q : World) (k331q : Kp No w w330q) (ho338q : Ow w (Kapi_Range 44) w330q A335q x334q.length c336q x334q), brk0_0 x334q = some r → Q (.exit 0) ⟨dowelref03_Ranges.F0_0 A335q x334q c336q u332q, []⟩ w330q) : ∀ (n_ : Nat) (x217 : List Tapi_Range) (x220 : Int) (A218 : Option Addr) (c219 : Nat) (u214 : Nat → Value) (w215 : World) (k216 : Kp No w w215) (hb221 : Blk w215 b104 ((kBool 4).cells t95).toArray 108) (ghb221 : w.heap.size ≤ b104) (ho224 : Ow w (Kapi_Range 44) w215 A218 x217.length c219 x217) (n225 : Dj (One b104) (Ra A218)) (H : dowelref03_Ranges.l0 t95 K brk0_0 n_ x217 x220 = some r), Code.rounds Try.prog (cd Try.f19 [1, 1, 1, 0, 1, 0, 0]) Q n_ ⟨dowelref03_Ranges.F0 b104 A218 x217 c219 x220 u214, []⟩ w215
  | 0, _, _, _, _, _, _, _, _, _, _, _, H => by cases H
  | n_ + 1, x217, x220, A218, c219, u214, w215, k216, hb221, ghb221, ho224, n225, H =>
    dowelref03_Ranges.b0.ok K a0 w r b104 t95 (Q := Exit.then (Code.rounds Try.prog (cd Try.f19 [1, 1, 1, 0, 1, 0, 0]) Q n_) Q) (fun a w' h_ => q_then_r (HR a w' h_)) (fun x0_ x1_ x2_ x3_ x4_ x5_ x6_ x7_ x8_ x9_ x10_ h_ => dowelref03_Ranges.l0.ok K a0 w r b104 t95 HR HX0_0 n_ x0_ x1_ x2_ x3_ x4_ x5_ x6_ x7_ x8_ x9_ x10_ h_) (fun x0_ x1_ x2_ x3_ x4_ x5_ x6_ h_ => q_then_x (HX0_0 x0_ x1_ x2_ x3_ x4_ x5_ x6_ h_)) x217 x220 A218 c219 u214 w215 k216 hb221 ghb221 ho224 n225 H
set_option maxRecDepth 20000 in
set_option maxHeartbeats 4000000 in
theorem dowelref03_Ranges.ok (K : Nat) (a0 : Tapi_Class) (w : World)  (r : List Tapi_Range) (H : dowelref03_Ranges.f K a0 = some r) : Calls Try.prog 19 #[.agg #[.int .u64 a0.f0, .int .u64 a0.f1, .int .u64 a0.f2, .int .u64 a0.f3]] w (dowelref03_Ranges.R r w) := by
  refine calls_cd (t := #[.agg #[.int .u64 a0.f0, .int .u64 a0.f1, .int .u64 a0.f2, .int .u64 a0.f3], undef, undef, undef, undef, undef, undef, undef, undef, undef, undef, undef, undef, undef, undef, undef, undef, undef, undef, undef, undef, undef, undef, undef, undef, undef, undef, undef, undef, undef, undef, undef, undef, undef, undef, undef, undef, undef, undef, undef, undef, undef, undef, undef, undef, undef, undef]) Try.func19 (by kernel_rfl) (by kernel_rfl) ?_
  unfold dowelref03_Ranges.f at H
  have HR : ∀ a w', bodyPost Try.prog Try.f19 (dowelref03_Ranges.R r w) .ret a w' → bodyPost Try.prog Try.f19 (dowelref03_Ranges.R r w) .ret a w' := fun _ _ h => h
  refine w_seq (p := []) (p0 := [0]) (p1 := [1]) (by kernel_rfl) ?_
  refine w_region (p := [0]) (id := 0) (by kernel_rfl) ?_
  refine r_do 0 (by kernel_rfl) (og_box (T := 37) (x := (Operand.tmp 0)) (cs := #[.int .u64 a0.f0, .int .u64 a0.f1, .int .u64 a0.f2, .int .u64 a0.f3]) (by kernel_rfl) (by kernel_rfl) ?_) 
  intro b91 w88 e92 hb90 k89
  have g93 : w.heap.size ≤ b91 := by rw [e92]; exact Kp.size (Kp.refl No w)
  clear e92
  have k94 := Kp.trans (Kp.refl No w) k89 (fun _ h => h.elim)
  refine r_vals 1 2 [.slice none 0 0] (by kernel_rfl) (by kernel_rfl) ?_
  refine r_fin 2 (by kernel_rfl) ?_
  refine q_then ?_
  refine w_seq (p := [1]) (p0 := [1, 0]) (p1 := [1, 1]) (by kernel_rfl) ?_
  refine w_region (p := [1, 0]) (id := 1) (by kernel_rfl) ?_
  refine r_do 0 (by kernel_rfl) (og_load (T := 37) (x := (Operand.tmp 1)) (b := b91) (off := 0) (.agg #[.int .u64 a0.f0, .int .u64 a0.f1, .int .u64 a0.f2, .int .u64 a0.f3]) (by kernel_rfl) (by kernel_rfl) hb90 (by kernel_rfl) ?_) 
  obtain ⟨t95, ht96, H⟩ := Option.bind_eq_some_iff.1 H
  refine r_do 1 (by kernel_rfl) (og_call (g := 59) (av := #[.agg #[.int .u64 a0.f0, .int .u64 a0.f1, .int .u64 a0.f2, .int .u64 a0.f3]]) (by kernel_rfl) ?_) 
  refine (dowelref03_Open.ok K a0 w88 t95 ht96).mono ?_
  rintro e w97 ⟨rfl, k98⟩
  refine ⟨_, rfl, ?_⟩
  have k99 := Kp.trans k94 k98 (fun _ h => h.elim)
  have hb100 := Blk.kp hb90 k98 id
  refine r_do 2 (by kernel_rfl) (og_alloc (T := 108) (cs := ((kBool 4).cells (List.replicate 256 false)).toArray) (by kernel_rfl) (by kernel_rfl) ?_) 
  intro b104 w101 e105 hb103 k102
  have n106 : b91 ≠ b104 := by rw [e105]; exact Nat.ne_of_lt hb100.lt
  have g107 : w.heap.size ≤ b104 := by rw [e105]; exact Kp.size k99
  clear e105
  have k108 := Kp.trans k99 k102 (fun _ h => h.elim)
  have hb109 := Blk.kp hb100 k102 id
  refine p_split ((List.replicate 256 false).length = 256) (fun h110 => ?_) (fun h110 => ?_)
  · rw [if_pos h110] at H
    refine p_split (t95.length = 256) (fun h111 => ?_) (fun h111 => ?_)
    · rw [if_pos h111] at H
      refine r_do 3 (by kernel_rfl) (bg_store (K := (kBool 4)) (T := 108) (n := 256) (e := 4) (x := (Operand.tmp 3)) (y := (Operand.tmp 8)) (b := b104) (xs := (List.replicate 256 false)) (ys := t95) (by kernel_rfl) (by kernel_rfl) (by kernel_rfl) (by kernel_rfl) hb103 h110 h111 ?_) 
      intro w113 hb112 k114
      have k115 := Kp.trans k108 k114 (fun x hx => .inr (by rw [show x = _ from hx]; exact g107))
      have hb116 := Blk.kp hb109 k114 (show ¬ (b91 = b104) from n106)
      refine r_fin 4 (by kernel_rfl) ?_
      refine q_then ?_
      refine w_seq (p := [1, 1]) (p0 := [1, 1, 0]) (p1 := [1, 1, 1]) (by kernel_rfl) ?_
      refine w_region (p := [1, 1, 0]) (id := 2) (by kernel_rfl) ?_
      refine r_vals 0 1 [.slice none 0 0] (by kernel_rfl) (by kernel_rfl) ?_
      refine r_fin 1 (by kernel_rfl) ?_
      refine q_then ?_
      refine w_seq (p := [1, 1, 1]) (p0 := [1, 1, 1, 0]) (p1 := [1, 1, 1, 1]) (by kernel_rfl) ?_
      refine w_seq (p := [1, 1, 1, 0]) (p0 := [1, 1, 1, 0, 0]) (p1 := [1, 1, 1, 0, 1]) (by kernel_rfl) ?_
      refine w_region (p := [1, 1, 1, 0, 0]) (id := 3) (by kernel_rfl) ?_
      refine r_vals 0 1 [.int .i64 0] (by kernel_rfl) (by kernel_rfl) ?_
      refine r_fin 1 (by kernel_rfl) ?_
      refine q_then ?_
      refine w_block (p := [1, 1, 1, 0, 1]) (p0 := [1, 1, 1, 0, 1, 0]) (id := 0) (by kernel_rfl) ?_
      refine w_into (dowelref03_Ranges.F0 b104 none ([] : List Tapi_Range) 0 0) (by kernel_rfl) (fun u_ => ?_)
      refine w_loop (p := [1, 1, 1, 0, 1, 0]) (p0 := [1, 1, 1, 0, 1, 0, 0]) K (by kernel_rfl) ?_
      refine dowelref03_Ranges.l0.ok K a0 w r b104 t95 (fun a w' h_ => q_in_r (q_then_r (HR a w' h_))) ?_ K ([] : List Tapi_Range) 0 none 0 u_ w113 k115 hb112 g107 (Ow.nil w (Kapi_Range 44) w113) dj_nil H
      intro x334 A335 c336 u332 w330 k331 ho338 H
      try dsimp only at H
      refine q_in_hit ?_
      refine q_then ?_
      refine w_seq (p := [1, 1, 1, 1]) (p0 := [1, 1, 1, 1, 0]) (p1 := [1, 1, 1, 1, 1]) (by kernel_rfl) ?_
      refine w_region (p := [1, 1, 1, 1, 0]) (id := 11) (by kernel_rfl) ?_
      refine r_vals 0 2 [.slice A335 x334.length c336, .slice A335 x334.length c336] (by kernel_rfl) (by kernel_rfl) ?_
      refine r_fin 2 (by kernel_rfl) ?_
      refine q_then ?_
      refine w_ret (p := [1, 1, 1, 1, 1]) (by kernel_rfl) ?_
      obtain rfl := Option.some.inj H
      refine HR _ _ (body_ret (vs := [.slice A335 x334.length c336]) (rv_tmp (by kernel_rfl) rfl) rfl ?_)
      exact ⟨A335, x334.length, c336, rfl, k331, ho338⟩
    · rw [if_neg h111] at H
      cases H
  · rw [if_neg h110] at H
    cases H
/-! ### dowel/dowellaw03.sameRanges -/
def dowellaw03_sameRanges.F0 (a0A : Option Addr) (a0 : List Tapi_Range) (a0c : Nat) (a1A : Option Addr) (a1 : List Tapi_Range) (a1c : Nat) (x352 : Int) (u_ : Nat → Value) : Array Value := #[.slice a0A a0.length a0c, .slice a1A a1.length a1c, u_ 2, u_ 3, u_ 4, .int .i64 x352, u_ 6, u_ 7, u_ 8, u_ 9, u_ 10, u_ 11, u_ 12, u_ 13, u_ 14, u_ 15, u_ 16, u_ 17, u_ 18, u_ 19, u_ 20, u_ 21, u_ 22, u_ 23, u_ 24, u_ 25]
def dowellaw03_sameRanges.F0_0  (u_ : Nat → Value) : Array Value := #[u_ 0, u_ 1, u_ 2, u_ 3, u_ 4, u_ 5, u_ 6, u_ 7, u_ 8, u_ 9, u_ 10, u_ 11, u_ 12, u_ 13, u_ 14, u_ 15, u_ 16, u_ 17, u_ 18, u_ 19, u_ 20, u_ 21, u_ 22, u_ 23, u_ 24, u_ 25]
def dowellaw03_sameRanges.b0 (a0 : List Tapi_Range) (a1 : List Tapi_Range) (next0 : Int → Option (Bool)) (brk0_0 : Option (Bool)) (x352 : Int) : Option (Bool) := if x352 < (a0.length : Int) then (if 0 ≤ x352 then (if x352 < (a1.length : Int) then (if ¬ ((((((rd zapi_Range a0 x352)).f0) == (((rd zapi_Range a1 x352)).f0)) && (((((rd zapi_Range a0 x352)).f1) == (((rd zapi_Range a1 x352)).f1)) && true)) = true) then (some false) else (next0 (W (x352 + 1)))) else none) else none) else brk0_0
def dowellaw03_sameRanges.l0 (a0 : List Tapi_Range) (a1 : List Tapi_Range) (brk0_0 : Option (Bool)) : Nat → Int → Option (Bool)
  | 0, _ => none
  | n_ + 1, x352 => dowellaw03_sameRanges.b0 a0 a1 (dowellaw03_sameRanges.l0 a0 a1 brk0_0 n_) brk0_0 x352
def dowellaw03_sameRanges.f (K : Nat) (a0 : List Tapi_Range) (a1 : List Tapi_Range) : Option (Bool) := if ¬ ((a0.length : Int) = (a1.length : Int)) then (some false) else (dowellaw03_sameRanges.l0 a0 a1 (some true) K 0)
def dowellaw03_sameRanges.R (r : Bool) (w : World) : Ending → World → Prop := fun e w' => e = .returned (.bool r) ∧ Kp No w w'
set_option maxRecDepth 20000 in
set_option maxHeartbeats 4000000 in
theorem dowellaw03_sameRanges.b0.ok (K : Nat) (a0A : Option Addr) (a0c : Nat) (a0 : List Tapi_Range) (a1A : Option Addr) (a1c : Nat) (a1 : List Tapi_Range) (w : World) (a0r : Rd No w a0A ((Kapi_Range 44).cells a0)) (a0l : a0.length ≤ a0c) (a1r : Rd No w a1A ((Kapi_Range 44).cells a1)) (a1l : a1.length ≤ a1c) (r : Bool)  {Q : Exit → Act → World → Prop} (HR : ∀ a w', bodyPost Try.prog Try.f20 (dowellaw03_sameRanges.R r w) .ret a w' → Q .ret a w') {next0 : Int → Option (Bool)} {brk0_0 : Option (Bool)} (HN0 : ∀ (x352q : Int) (u349q : Nat → Value) (w350q : World) (k351q : Kp No w w350q) , next0 x352q = some r → Q .normal ⟨dowellaw03_sameRanges.F0 a0A a0 a0c a1A a1 a1c x352q u349q, []⟩ w350q) (HX0_0 : ∀ (u362q : Nat → Value) (w360q : World) (k361q : Kp No w w360q) , brk0_0  = some r → Q (.exit 0) ⟨dowellaw03_sameRanges.F0_0 u362q, []⟩ w360q) (x352 : Int) (u349 : Nat → Value) (w350 : World) (k351 : Kp No w w350)  (H : dowellaw03_sameRanges.b0 a0 a1 next0 brk0_0 x352 = some r) : (cd Try.f20 [1, 1, 0, 1, 0, 0]).wp Try.prog Q ⟨dowellaw03_sameRanges.F0 a0A a0 a0c a1A a1 a1c x352 u349, []⟩ w350 := by
  unfold dowellaw03_sameRanges.b0 at H
  refine w_seq (p := [1, 1, 0, 1, 0, 0]) (p0 := [1, 1, 0, 1, 0, 0, 0]) (p1 := [1, 1, 0, 1, 0, 0, 1]) (by kernel_rfl) ?_
  refine w_seq (p := [1, 1, 0, 1, 0, 0, 0]) (p0 := [1, 1, 0, 1, 0, 0, 0, 0]) (p1 := [1, 1, 0, 1, 0, 0, 0, 1]) (by kernel_rfl) ?_
  refine w_region (p := [1, 1, 0, 1, 0, 0, 0, 0]) (id := 4) (by kernel_rfl) ?_
  refine r_vals 0 4 [.int .i64 x352, .slice a0A a0.length a0c, .int .i64 (a0.length : Int), .bool (decide (x352 < (a0.length : Int)))] (by kernel_rfl) (by kernel_rfl) ?_
  refine r_fin 4 (by kernel_rfl) ?_
  refine q_then ?_
  refine w_cond (p := [1, 1, 0, 1, 0, 0, 0, 1]) (p0 := [1, 1, 0, 1, 0, 0, 0, 1, 0]) (p1 := [1, 1, 0, 1, 0, 0, 0, 1, 1]) (c := (Operand.tmp 14)) (b := decide (x352 < (a0.length : Int))) (by kernel_rfl) (by kernel_rfl) ?_ ?_
  · intro h_
    have h353 : x352 < (a0.length : Int) := by simpa using h_
    clear h_
    rw [if_pos h353] at H
    refine w_skip (p := [1, 1, 0, 1, 0, 0, 0, 1, 0]) (by kernel_rfl) ?_
    refine q_then ?_
    refine w_seq (p := [1, 1, 0, 1, 0, 0, 1]) (p0 := [1, 1, 0, 1, 0, 0, 1, 0]) (p1 := [1, 1, 0, 1, 0, 0, 1, 1]) (by kernel_rfl) ?_
    refine w_block (p := [1, 1, 0, 1, 0, 0, 1, 0]) (p0 := [1, 1, 0, 1, 0, 0, 1, 0, 0]) (id := 1) (by kernel_rfl) ?_
    refine w_seq (p := [1, 1, 0, 1, 0, 0, 1, 0, 0]) (p0 := [1, 1, 0, 1, 0, 0, 1, 0, 0, 0]) (p1 := [1, 1, 0, 1, 0, 0, 1, 0, 0, 1]) (by kernel_rfl) ?_
    refine p_split (0 ≤ x352) (fun h354 => ?_) (fun h354 => ?_)
    · rw [if_pos h354] at H
      refine p_split (x352 < (a1.length : Int)) (fun h355 => ?_) (fun h355 => ?_)
      · rw [if_pos h355] at H
        refine w_drawk (p := [1, 1, 0, 1, 0, 0, 1, 0, 0, 0]) (id := 6) (by kernel_rfl) (by kernel_rfl) [0, 0, 3, 7, 0, 0, 48, 112, 255] 9 (by kernel_rfl) (J := (fun _ w_ => Kp No w350 w_)) (fun w_ h1 h2 h3 h4 => Kp.same h1 h2 h3 h4) ?_
        refine k_pure 2 [.slice a0A a0.length a0c, .int .i64 x352] (by kernel_rfl) (fun _ => by kernel_rfl) (fun _ _ _ _ _ h => h) ?_
        refine k_op (.pointer (some (eaOf a0A (x352.toNat * 2)))) (by kernel_rfl) (fun b_ w_ hJ hb_ hd_ he_ => ow_index (K := (Kapi_Range 44)) (T := 38) (e := 44) (sz := 2) (x := (Operand.tmp 17)) (y := (Operand.tmp 18)) (k := .i64) (n := a0.length) (c := a0c) (A := a0A) (xs := a0) (iv := x352) (by kernel_rfl) (by kernel_rfl) (by kernel_rfl) (by kernel_rfl) h354 h353 (Rd.kp a0r (Kp.trans k351 hJ (fun _ h => h.elim)) (fun _ _ h => h)) rfl (by kernel_rfl) ⟨rfl, hJ⟩) ?_
        refine k_op (.agg #[.int .u8 (((rd zapi_Range a0 x352)).f0), .int .u8 (((rd zapi_Range a0 x352)).f1)]) (by kernel_rfl) (fun b_ w_ hJ hb_ hd_ he_ => ow_loadE (K := (Kapi_Range 44)) (T := 44) (x := (Operand.tmp 19)) (off := 0) (A := a0A) (n := a0.length) (xs := a0) (iv := x352) zapi_Range (.agg #[.int .u8 (((rd zapi_Range a0 x352)).f0), .int .u8 (((rd zapi_Range a0 x352)).f1)]) (by kernel_rfl) (by kernel_rfl) (Rd.kp a0r (Kp.trans k351 hJ (fun _ h => h.elim)) (fun _ _ h => h)) rfl h354 h353 (by kernel_rfl) ⟨rfl, hJ⟩) ?_
        refine k_pure 6 [.slice a1A a1.length a1c, .int .i64 x352] (by kernel_rfl) (fun _ => by kernel_rfl) (fun _ _ _ _ _ h => h) ?_
        refine k_op (.pointer (some (eaOf a1A (x352.toNat * 2)))) (by kernel_rfl) (fun b_ w_ hJ hb_ hd_ he_ => ow_index (K := (Kapi_Range 44)) (T := 38) (e := 44) (sz := 2) (x := (Operand.tmp 21)) (y := (Operand.tmp 22)) (k := .i64) (n := a1.length) (c := a1c) (A := a1A) (xs := a1) (iv := x352) (by kernel_rfl) (by kernel_rfl) (by kernel_rfl) (by kernel_rfl) h354 h355 (Rd.kp a1r (Kp.trans k351 hJ (fun _ h => h.elim)) (fun _ _ h => h)) rfl (by kernel_rfl) ⟨rfl, hJ⟩) ?_
        refine k_op (.agg #[.int .u8 (((rd zapi_Range a1 x352)).f0), .int .u8 (((rd zapi_Range a1 x352)).f1)]) (by kernel_rfl) (fun b_ w_ hJ hb_ hd_ he_ => ow_loadE (K := (Kapi_Range 44)) (T := 44) (x := (Operand.tmp 23)) (off := 0) (A := a1A) (n := a1.length) (xs := a1) (iv := x352) zapi_Range (.agg #[.int .u8 (((rd zapi_Range a1 x352)).f0), .int .u8 (((rd zapi_Range a1 x352)).f1)]) (by kernel_rfl) (by kernel_rfl) (Rd.kp a1r (Kp.trans k351 hJ (fun _ h => h.elim)) (fun _ _ h => h)) rfl h354 h355 (by kernel_rfl) ⟨rfl, hJ⟩) ?_
        refine k_op (.bool (!(((((rd zapi_Range a0 x352)).f0) == (((rd zapi_Range a1 x352)).f0)) && (((((rd zapi_Range a0 x352)).f1) == (((rd zapi_Range a1 x352)).f1)) && true)))) (by kernel_rfl) (fun b_ w_ hJ hb_ hd_ he_ => og_neagg (T := 44) (U := 44) (x := (Operand.tmp 20)) (y := (Operand.tmp 24)) (xs := #[.int .u8 (((rd zapi_Range a0 x352)).f0), .int .u8 (((rd zapi_Range a0 x352)).f1)]) (ys := #[.int .u8 (((rd zapi_Range a1 x352)).f0), .int .u8 (((rd zapi_Range a1 x352)).f1)]) ((((((rd zapi_Range a0 x352)).f0) == (((rd zapi_Range a1 x352)).f0)) && (((((rd zapi_Range a0 x352)).f1) == (((rd zapi_Range a1 x352)).f1)) && true))) (by kernel_rfl) (by kernel_rfl) (by kernel_rfl) (by kernel_rfl) (by kernel_rfl) ⟨rfl, hJ⟩) ?_
        refine k_nil ?_
        rintro b_ w356 hall_ k_
        have k357 := k_
        have k358 := Kp.trans k351 k357 (fun _ h => h.elim)
        refine r_fin 9 (by kernel_rfl) ?_
        refine q_then ?_
        refine w_cond (p := [1, 1, 0, 1, 0, 0, 1, 0, 0, 1]) (p0 := [1, 1, 0, 1, 0, 0, 1, 0, 0, 1, 0]) (p1 := [1, 1, 0, 1, 0, 0, 1, 0, 0, 1, 1]) (c := (Operand.tmp 25)) (b := !(((((rd zapi_Range a0 x352)).f0) == (((rd zapi_Range a1 x352)).f0)) && (((((rd zapi_Range a0 x352)).f1) == (((rd zapi_Range a1 x352)).f1)) && true))) (by kernel_rfl) (by kernel_rfl) ?_ ?_
        · intro h_
          have h359 : ¬ ((((((rd zapi_Range a0 x352)).f0) == (((rd zapi_Range a1 x352)).f0)) && (((((rd zapi_Range a0 x352)).f1) == (((rd zapi_Range a1 x352)).f1)) && true)) = true) := bnot_t h_
          clear h_
          rw [if_pos h359] at H
          refine w_seq (p := [1, 1, 0, 1, 0, 0, 1, 0, 0, 1, 0]) (p0 := [1, 1, 0, 1, 0, 0, 1, 0, 0, 1, 0, 0]) (p1 := [1, 1, 0, 1, 0, 0, 1, 0, 0, 1, 0, 1]) (by kernel_rfl) ?_
          refine w_region (p := [1, 1, 0, 1, 0, 0, 1, 0, 0, 1, 0, 0]) (id := 7) (by kernel_rfl) ?_
          refine r_vals 0 1 [.bool false] (by kernel_rfl) (by kernel_rfl) ?_
          refine r_fin 1 (by kernel_rfl) ?_
          refine q_then ?_
          refine w_ret (p := [1, 1, 0, 1, 0, 0, 1, 0, 0, 1, 0, 1]) (by kernel_rfl) ?_
          refine q_in_r ?_
          refine q_then_r ?_
          obtain rfl := Option.some.inj H
          refine HR _ _ (body_ret (vs := [.bool false]) (rv_tmp (by kernel_rfl) rfl) rfl ?_)
          exact ⟨rfl, k358⟩
        · intro h_
          have h359 : ¬ (¬ ((((((rd zapi_Range a0 x352)).f0) == (((rd zapi_Range a1 x352)).f0)) && (((((rd zapi_Range a0 x352)).f1) == (((rd zapi_Range a1 x352)).f1)) && true)) = true)) := bnot_f h_
          clear h_
          rw [if_neg h359] at H
          refine w_skip (p := [1, 1, 0, 1, 0, 0, 1, 0, 0, 1, 1]) (by kernel_rfl) ?_
          refine q_in ?_
          refine q_then ?_
          refine w_region (p := [1, 1, 0, 1, 0, 0, 1, 1]) (id := 5) (by kernel_rfl) ?_
          refine r_vals 0 3 [.int .i64 x352, .int .i64 (W (x352 + 1)), .int .i64 (W (x352 + 1))] (by kernel_rfl) (by kernel_rfl) ?_
          refine r_fin 3 (by kernel_rfl) ?_
          refine q_into (dowellaw03_sameRanges.F0 a0A a0 a0c a1A a1 a1c (W (x352 + 1))) (by kernel_rfl) (fun u_ => ?_)
          exact HN0 (W (x352 + 1)) u_ w356 k358 H
      · rw [if_neg h355] at H
        cases H
    · rw [if_neg h354] at H
      cases H
  · intro h_
    have h353 : ¬ (x352 < (a0.length : Int)) := by simpa using h_
    clear h_
    rw [if_neg h353] at H
    refine w_exit (p := [1, 1, 0, 1, 0, 0, 0, 1, 1]) (id := 0) (by kernel_rfl) ?_
    refine q_then_x ?_
    refine q_into (dowellaw03_sameRanges.F0_0) (by kernel_rfl) (fun u_ => ?_)
    exact HX0_0 u_ w350 k351 H
set_option maxRecDepth 20000 in
set_option maxHeartbeats 4000000 in
theorem dowellaw03_sameRanges.l0.ok (K : Nat) (a0A : Option Addr) (a0c : Nat) (a0 : List Tapi_Range) (a1A : Option Addr) (a1c : Nat) (a1 : List Tapi_Range) (w : World) (a0r : Rd No w a0A ((Kapi_Range 44).cells a0)) (a0l : a0.length ≤ a0c) (a1r : Rd No w a1A ((Kapi_Range 44).cells a1)) (a1l : a1.length ≤ a1c) (r : Bool)  {Q : Exit → Act → World → Prop} (HR : ∀ a w', bodyPost Try.prog Try.f20 (dowellaw03_sameRanges.R r w) .ret a w' → Q .ret a w') {brk0_0 : Option (Bool)} (HX0_0 : ∀ (u362q : Nat → Value) (w360q : World) (k361q : Kp No w w360q) , brk0_0  = some r → Q (.exit 0) ⟨dowellaw03_sameRanges.F0_0 u362q, []⟩ w360q) : ∀ (n_ : Nat) (x352 : Int) (u349 : Nat → Value) (w350 : World) (k351 : Kp No w w350)  (H : dowellaw03_sameRanges.l0 a0 a1 brk0_0 n_ x352 = some r), Code.rounds Try.prog (cd Try.f20 [1, 1, 0, 1, 0, 0]) Q n_ ⟨dowellaw03_sameRanges.F0 a0A a0 a0c a1A a1 a1c x352 u349, []⟩ w350
  | 0, _, _, _, _, H => by cases H
  | n_ + 1, x352, u349, w350, k351, H =>
    dowellaw03_sameRanges.b0.ok K a0A a0c a0 a1A a1c a1 w a0r a0l a1r a1l r  (Q := Exit.then (Code.rounds Try.prog (cd Try.f20 [1, 1, 0, 1, 0, 0]) Q n_) Q) (fun a w' h_ => q_then_r (HR a w' h_)) (fun x0_ x1_ x2_ x3_ h_ => dowellaw03_sameRanges.l0.ok K a0A a0c a0 a1A a1c a1 w a0r a0l a1r a1l r  HR HX0_0 n_ x0_ x1_ x2_ x3_ h_) (fun x0_ x1_ x2_ h_ => q_then_x (HX0_0 x0_ x1_ x2_ h_)) x352 u349 w350 k351 H
set_option maxRecDepth 20000 in
set_option maxHeartbeats 4000000 in
theorem dowellaw03_sameRanges.ok (K : Nat) (a0A : Option Addr) (a0c : Nat) (a0 : List Tapi_Range) (a1A : Option Addr) (a1c : Nat) (a1 : List Tapi_Range) (a0n : Nat) (a1n : Nat) (w : World) (a0r : Rd No w a0A ((Kapi_Range 44).cells a0)) (a0l : a0n ≤ a0c) (a1r : Rd No w a1A ((Kapi_Range 44).cells a1)) (a1l : a1n ≤ a1c) (a0e : a0.length = a0n) (a1e : a1.length = a1n) (r : Bool) (H : dowellaw03_sameRanges.f K a0 a1 = some r) : Calls Try.prog 20 #[.slice a0A a0n a0c, .slice a1A a1n a1c] w (dowellaw03_sameRanges.R r w) := by
  subst a0e
  subst a1e
  refine calls_cd (t := #[.slice a0A a0.length a0c, .slice a1A a1.length a1c, undef, undef, undef, undef, undef, undef, undef, undef, undef, undef, undef, undef, undef, undef, undef, undef, undef, undef, undef, undef, undef, undef, undef, undef]) Try.func20 (by kernel_rfl) (by kernel_rfl) ?_
  unfold dowellaw03_sameRanges.f at H
  have HR : ∀ a w', bodyPost Try.prog Try.f20 (dowellaw03_sameRanges.R r w) .ret a w' → bodyPost Try.prog Try.f20 (dowellaw03_sameRanges.R r w) .ret a w' := fun _ _ h => h
  refine w_seq (p := []) (p0 := [0]) (p1 := [1]) (by kernel_rfl) ?_
  refine w_region (p := [0]) (id := 0) (by kernel_rfl) ?_
  refine r_vals 0 1 [.bool false] (by kernel_rfl) (by kernel_rfl) ?_
  refine r_fin 1 (by kernel_rfl) ?_
  refine q_then ?_
  refine w_seq (p := [1]) (p0 := [1, 0]) (p1 := [1, 1]) (by kernel_rfl) ?_
  refine w_seq (p := [1, 0]) (p0 := [1, 0, 0]) (p1 := [1, 0, 1]) (by kernel_rfl) ?_
  refine w_region (p := [1, 0, 0]) (id := 1) (by kernel_rfl) ?_
  refine r_vals 0 5 [.slice a0A a0.length a0c, .int .i64 (a0.length : Int), .slice a1A a1.length a1c, .int .i64 (a1.length : Int), .bool ((a0.length : Int) != (a1.length : Int))] (by kernel_rfl) (by kernel_rfl) ?_
  refine r_fin 5 (by kernel_rfl) ?_
  refine q_then ?_
  refine w_cond (p := [1, 0, 1]) (p0 := [1, 0, 1, 0]) (p1 := [1, 0, 1, 1]) (c := (Operand.tmp 10)) (b := (a0.length : Int) != (a1.length : Int)) (by kernel_rfl) (by kernel_rfl) ?_ ?_
  · intro h_
    have h339 : ¬ ((a0.length : Int) = (a1.length : Int)) := by simpa using h_
    clear h_
    rw [if_pos h339] at H
    refine w_seq (p := [1, 0, 1, 0]) (p0 := [1, 0, 1, 0, 0]) (p1 := [1, 0, 1, 0, 1]) (by kernel_rfl) ?_
    refine w_region (p := [1, 0, 1, 0, 0]) (id := 2) (by kernel_rfl) ?_
    refine r_vals 0 1 [.bool false] (by kernel_rfl) (by kernel_rfl) ?_
    refine r_fin 1 (by kernel_rfl) ?_
    refine q_then ?_
    refine w_ret (p := [1, 0, 1, 0, 1]) (by kernel_rfl) ?_
    refine q_then_r ?_
    obtain rfl := Option.some.inj H
    refine HR _ _ (body_ret (vs := [.bool false]) (rv_tmp (by kernel_rfl) rfl) rfl ?_)
    exact ⟨rfl, (Kp.refl No w)⟩
  · intro h_
    have h339 : ¬ (¬ ((a0.length : Int) = (a1.length : Int))) := by simpa using h_
    clear h_
    rw [if_neg h339] at H
    refine w_skip (p := [1, 0, 1, 1]) (by kernel_rfl) ?_
    refine q_then ?_
    refine w_seq (p := [1, 1]) (p0 := [1, 1, 0]) (p1 := [1, 1, 1]) (by kernel_rfl) ?_
    refine w_seq (p := [1, 1, 0]) (p0 := [1, 1, 0, 0]) (p1 := [1, 1, 0, 1]) (by kernel_rfl) ?_
    refine w_region (p := [1, 1, 0, 0]) (id := 3) (by kernel_rfl) ?_
    refine r_vals 0 1 [.int .i64 0] (by kernel_rfl) (by kernel_rfl) ?_
    refine r_fin 1 (by kernel_rfl) ?_
    refine q_then ?_
    refine w_block (p := [1, 1, 0, 1]) (p0 := [1, 1, 0, 1, 0]) (id := 0) (by kernel_rfl) ?_
    refine w_into (dowellaw03_sameRanges.F0 a0A a0 a0c a1A a1 a1c 0) (by kernel_rfl) (fun u_ => ?_)
    refine w_loop (p := [1, 1, 0, 1, 0]) (p0 := [1, 1, 0, 1, 0, 0]) K (by kernel_rfl) ?_
    refine dowellaw03_sameRanges.l0.ok K a0A a0c a0 a1A a1c a1 w a0r a0l a1r a1l r  (fun a w' h_ => q_in_r (q_then_r (HR a w' h_))) ?_ K 0 u_ w (Kp.refl No w) H
    intro u362 w360 k361 H
    try dsimp only at H
    refine q_in_hit ?_
    refine q_then ?_
    refine w_seq (p := [1, 1, 1]) (p0 := [1, 1, 1, 0]) (p1 := [1, 1, 1, 1]) (by kernel_rfl) ?_
    refine w_region (p := [1, 1, 1, 0]) (id := 8) (by kernel_rfl) ?_
    refine r_vals 0 1 [.bool true] (by kernel_rfl) (by kernel_rfl) ?_
    refine r_fin 1 (by kernel_rfl) ?_
    refine q_then ?_
    refine w_ret (p := [1, 1, 1, 1]) (by kernel_rfl) ?_
    obtain rfl := Option.some.inj H
    refine HR _ _ (body_ret (vs := [.bool true]) (rv_tmp (by kernel_rfl) rfl) rfl ?_)
    exact ⟨rfl, k361⟩
/-! ### math/bits.OnesCount64 -/
def bits_OnesCount64.f (K : Nat) (a0 : Int) : Option (Int) := some (bits .and .i64 (W (W64 ((W64 ((W64 ((bits .and .u64 (W64 ((shv .shr .u64 (W64 ((bits .and .u64 (shv .shr .u64 (W64 ((bits .and .u64 (shv .shr .u64 a0 1) 6148914691236517205) + (bits .and .u64 a0 6148914691236517205))) 2) 3689348814741910323) + (bits .and .u64 (W64 ((bits .and .u64 (shv .shr .u64 a0 1) 6148914691236517205) + (bits .and .u64 a0 6148914691236517205))) 3689348814741910323))) 4) + (W64 ((bits .and .u64 (shv .shr .u64 (W64 ((bits .and .u64 (shv .shr .u64 a0 1) 6148914691236517205) + (bits .and .u64 a0 6148914691236517205))) 2) 3689348814741910323) + (bits .and .u64 (W64 ((bits .and .u64 (shv .shr .u64 a0 1) 6148914691236517205) + (bits .and .u64 a0 6148914691236517205))) 3689348814741910323))))) 1085102592571150095) + (shv .shr .u64 (bits .and .u64 (W64 ((shv .shr .u64 (W64 ((bits .and .u64 (shv .shr .u64 (W64 ((bits .and .u64 (shv .shr .u64 a0 1) 6148914691236517205) + (bits .and .u64 a0 6148914691236517205))) 2) 3689348814741910323) + (bits .and .u64 (W64 ((bits .and .u64 (shv .shr .u64 a0 1) 6148914691236517205) + (bits .and .u64 a0 6148914691236517205))) 3689348814741910323))) 4) + (W64 ((bits .and .u64 (shv .shr .u64 (W64 ((bits .and .u64 (shv .shr .u64 a0 1) 6148914691236517205) + (bits .and .u64 a0 6148914691236517205))) 2) 3689348814741910323) + (bits .and .u64 (W64 ((bits .and .u64 (shv .shr .u64 a0 1) 6148914691236517205) + (bits .and .u64 a0 6148914691236517205))) 3689348814741910323))))) 1085102592571150095) 8))) + (shv .shr .u64 (W64 ((bits .and .u64 (W64 ((shv .shr .u64 (W64 ((bits .and .u64 (shv .shr .u64 (W64 ((bits .and .u64 (shv .shr .u64 a0 1) 6148914691236517205) + (bits .and .u64 a0 6148914691236517205))) 2) 3689348814741910323) + (bits .and .u64 (W64 ((bits .and .u64 (shv .shr .u64 a0 1) 6148914691236517205) + (bits .and .u64 a0 6148914691236517205))) 3689348814741910323))) 4) + (W64 ((bits .and .u64 (shv .shr .u64 (W64 ((bits .and .u64 (shv .shr .u64 a0 1) 6148914691236517205) + (bits .and .u64 a0 6148914691236517205))) 2) 3689348814741910323) + (bits .and .u64 (W64 ((bits .and .u64 (shv .shr .u64 a0 1) 6148914691236517205) + (bits .and .u64 a0 6148914691236517205))) 3689348814741910323))))) 1085102592571150095) + (shv .shr .u64 (bits .and .u64 (W64 ((shv .shr .u64 (W64 ((bits .and .u64 (shv .shr .u64 (W64 ((bits .and .u64 (shv .shr .u64 a0 1) 6148914691236517205) + (bits .and .u64 a0 6148914691236517205))) 2) 3689348814741910323) + (bits .and .u64 (W64 ((bits .and .u64 (shv .shr .u64 a0 1) 6148914691236517205) + (bits .and .u64 a0 6148914691236517205))) 3689348814741910323))) 4) + (W64 ((bits .and .u64 (shv .shr .u64 (W64 ((bits .and .u64 (shv .shr .u64 a0 1) 6148914691236517205) + (bits .and .u64 a0 6148914691236517205))) 2) 3689348814741910323) + (bits .and .u64 (W64 ((bits .and .u64 (shv .shr .u64 a0 1) 6148914691236517205) + (bits .and .u64 a0 6148914691236517205))) 3689348814741910323))))) 1085102592571150095) 8))) 16))) + (shv .shr .u64 (W64 ((W64 ((bits .and .u64 (W64 ((shv .shr .u64 (W64 ((bits .and .u64 (shv .shr .u64 (W64 ((bits .and .u64 (shv .shr .u64 a0 1) 6148914691236517205) + (bits .and .u64 a0 6148914691236517205))) 2) 3689348814741910323) + (bits .and .u64 (W64 ((bits .and .u64 (shv .shr .u64 a0 1) 6148914691236517205) + (bits .and .u64 a0 6148914691236517205))) 3689348814741910323))) 4) + (W64 ((bits .and .u64 (shv .shr .u64 (W64 ((bits .and .u64 (shv .shr .u64 a0 1) 6148914691236517205) + (bits .and .u64 a0 6148914691236517205))) 2) 3689348814741910323) + (bits .and .u64 (W64 ((bits .and .u64 (shv .shr .u64 a0 1) 6148914691236517205) + (bits .and .u64 a0 6148914691236517205))) 3689348814741910323))))) 1085102592571150095) + (shv .shr .u64 (bits .and .u64 (W64 ((shv .shr .u64 (W64 ((bits .and .u64 (shv .shr .u64 (W64 ((bits .and .u64 (shv .shr .u64 a0 1) 6148914691236517205) + (bits .and .u64 a0 6148914691236517205))) 2) 3689348814741910323) + (bits .and .u64 (W64 ((bits .and .u64 (shv .shr .u64 a0 1) 6148914691236517205) + (bits .and .u64 a0 6148914691236517205))) 3689348814741910323))) 4) + (W64 ((bits .and .u64 (shv .shr .u64 (W64 ((bits .and .u64 (shv .shr .u64 a0 1) 6148914691236517205) + (bits .and .u64 a0 6148914691236517205))) 2) 3689348814741910323) + (bits .and .u64 (W64 ((bits .and .u64 (shv .shr .u64 a0 1) 6148914691236517205) + (bits .and .u64 a0 6148914691236517205))) 3689348814741910323))))) 1085102592571150095) 8))) + (shv .shr .u64 (W64 ((bits .and .u64 (W64 ((shv .shr .u64 (W64 ((bits .and .u64 (shv .shr .u64 (W64 ((bits .and .u64 (shv .shr .u64 a0 1) 6148914691236517205) + (bits .and .u64 a0 6148914691236517205))) 2) 3689348814741910323) + (bits .and .u64 (W64 ((bits .and .u64 (shv .shr .u64 a0 1) 6148914691236517205) + (bits .and .u64 a0 6148914691236517205))) 3689348814741910323))) 4) + (W64 ((bits .and .u64 (shv .shr .u64 (W64 ((bits .and .u64 (shv .shr .u64 a0 1) 6148914691236517205) + (bits .and .u64 a0 6148914691236517205))) 2) 3689348814741910323) + (bits .and .u64 (W64 ((bits .and .u64 (shv .shr .u64 a0 1) 6148914691236517205) + (bits .and .u64 a0 6148914691236517205))) 3689348814741910323))))) 1085102592571150095) + (shv .shr .u64 (bits .and .u64 (W64 ((shv .shr .u64 (W64 ((bits .and .u64 (shv .shr .u64 (W64 ((bits .and .u64 (shv .shr .u64 a0 1) 6148914691236517205) + (bits .and .u64 a0 6148914691236517205))) 2) 3689348814741910323) + (bits .and .u64 (W64 ((bits .and .u64 (shv .shr .u64 a0 1) 6148914691236517205) + (bits .and .u64 a0 6148914691236517205))) 3689348814741910323))) 4) + (W64 ((bits .and .u64 (shv .shr .u64 (W64 ((bits .and .u64 (shv .shr .u64 a0 1) 6148914691236517205) + (bits .and .u64 a0 6148914691236517205))) 2) 3689348814741910323) + (bits .and .u64 (W64 ((bits .and .u64 (shv .shr .u64 a0 1) 6148914691236517205) + (bits .and .u64 a0 6148914691236517205))) 3689348814741910323))))) 1085102592571150095) 8))) 16))) 32)))) 127)
def bits_OnesCount64.R (r : Int) (w : World) : Ending → World → Prop := fun e w' => e = .returned (.int .i64 r) ∧ Kp No w w'
set_option maxRecDepth 20000 in
set_option maxHeartbeats 4000000 in
theorem bits_OnesCount64.ok (K : Nat) (a0 : Int) (w : World)  (r : Int) (H : bits_OnesCount64.f K a0 = some r) : Calls Try.prog 81 #[.int .u64 a0] w (bits_OnesCount64.R r w) := by
  refine calls_cd (t := #[.int .u64 a0, undef, undef, undef, undef, undef, undef, undef, undef, undef, undef, undef, undef, undef, undef, undef, undef, undef, undef, undef, undef, undef, undef, undef, undef, undef, undef, undef, undef, undef, undef, undef, undef, undef, undef]) Try.func81 (by kernel_rfl) (by kernel_rfl) ?_
  unfold bits_OnesCount64.f at H
  have HR : ∀ a w', bodyPost Try.prog Try.f81 (bits_OnesCount64.R r w) .ret a w' → bodyPost Try.prog Try.f81 (bits_OnesCount64.R r w) .ret a w' := fun _ _ h => h
  refine w_seq (p := []) (p0 := [0]) (p1 := [1]) (by kernel_rfl) ?_
  refine w_region (p := [0]) (id := 0) (by kernel_rfl) ?_
  refine r_vals 0 1 [.int .i64 0] (by kernel_rfl) (by kernel_rfl) ?_
  refine r_fin 1 (by kernel_rfl) ?_
  refine q_then ?_
  refine w_seq (p := [1]) (p0 := [1, 0]) (p1 := [1, 1]) (by kernel_rfl) ?_
  refine w_region (p := [1, 0]) (id := 1) (by kernel_rfl) ?_
  refine r_vals 0 7 [.int .u64 a0, .int .u64 (shv .shr .u64 a0 1), .int .u64 (bits .and .u64 (shv .shr .u64 a0 1) 6148914691236517205), .int .u64 a0, .int .u64 (bits .and .u64 a0 6148914691236517205), .int .u64 (W64 ((bits .and .u64 (shv .shr .u64 a0 1) 6148914691236517205) + (bits .and .u64 a0 6148914691236517205))), .int .u64 (W64 ((bits .and .u64 (shv .shr .u64 a0 1) 6148914691236517205) + (bits .and .u64 a0 6148914691236517205)))] (by kernel_rfl) (by kernel_rfl) ?_
  refine r_fin 7 (by kernel_rfl) ?_
  refine q_then ?_
  refine w_seq (p := [1, 1]) (p0 := [1, 1, 0]) (p1 := [1, 1, 1]) (by kernel_rfl) ?_
  refine w_region (p := [1, 1, 0]) (id := 2) (by kernel_rfl) ?_
  refine r_vals 0 7 [.int .u64 (W64 ((bits .and .u64 (shv .shr .u64 a0 1) 6148914691236517205) + (bits .and .u64 a0 6148914691236517205))), .int .u64 (shv .shr .u64 (W64 ((bits .and .u64 (shv .shr .u64 a0 1) 6148914691236517205) + (bits .and .u64 a0 6148914691236517205))) 2), .int .u64 (bits .and .u64 (shv .shr .u64 (W64 ((bits .and .u64 (shv .shr .u64 a0 1) 6148914691236517205) + (bits .and .u64 a0 6148914691236517205))) 2) 3689348814741910323), .int .u64 (W64 ((bits .and .u64 (shv .shr .u64 a0 1) 6148914691236517205) + (bits .and .u64 a0 6148914691236517205))), .int .u64 (bits .and .u64 (W64 ((bits .and .u64 (shv .shr .u64 a0 1) 6148914691236517205) + (bits .and .u64 a0 6148914691236517205))) 3689348814741910323), .int .u64 (W64 ((bits .and .u64 (shv .shr .u64 (W64 ((bits .and .u64 (shv .shr .u64 a0 1) 6148914691236517205) + (bits .and .u64 a0 6148914691236517205))) 2) 3689348814741910323) + (bits .and .u64 (W64 ((bits .and .u64 (shv .shr .u64 a0 1) 6148914691236517205) + (bits .and .u64 a0 6148914691236517205))) 3689348814741910323))), .int .u64 (W64 ((bits .and .u64 (shv .shr .u64 (W64 ((bits .and .u64 (shv .shr .u64 a0 1) 6148914691236517205) + (bits .and .u64 a0 6148914691236517205))) 2) 3689348814741910323) + (bits .and .u64 (W64 ((bits .and .u64 (shv .shr .u64 a0 1) 6148914691236517205) + (bits .and .u64 a0 6148914691236517205))) 3689348814741910323)))] (by kernel_rfl) (by kernel_rfl) ?_
  refine r_fin 7 (by kernel_rfl) ?_
  refine q_then ?_
  refine w_seq (p := [1, 1, 1]) (p0 := [1, 1, 1, 0]) (p1 := [1, 1, 1, 1]) (by kernel_rfl) ?_
  refine w_region (p := [1, 1, 1, 0]) (id := 3) (by kernel_rfl) ?_
  refine r_vals 0 6 [.int .u64 (W64 ((bits .and .u64 (shv .shr .u64 (W64 ((bits .and .u64 (shv .shr .u64 a0 1) 6148914691236517205) + (bits .and .u64 a0 6148914691236517205))) 2) 3689348814741910323) + (bits .and .u64 (W64 ((bits .and .u64 (shv .shr .u64 a0 1) 6148914691236517205) + (bits .and .u64 a0 6148914691236517205))) 3689348814741910323))), .int .u64 (shv .shr .u64 (W64 ((bits .and .u64 (shv .shr .u64 (W64 ((bits .and .u64 (shv .shr .u64 a0 1) 6148914691236517205) + (bits .and .u64 a0 6148914691236517205))) 2) 3689348814741910323) + (bits .and .u64 (W64 ((bits .and .u64 (shv .shr .u64 a0 1) 6148914691236517205) + (bits .and .u64 a0 6148914691236517205))) 3689348814741910323))) 4), .int .u64 (W64 ((bits .and .u64 (shv .shr .u64 (W64 ((bits .and .u64 (shv .shr .u64 a0 1) 6148914691236517205) + (bits .and .u64 a0 6148914691236517205))) 2) 3689348814741910323) + (bits .and .u64 (W64 ((bits .and .u64 (shv .shr .u64 a0 1) 6148914691236517205) + (bits .and .u64 a0 6148914691236517205))) 3689348814741910323))), .int .u64 (W64 ((shv .shr .u64 (W64 ((bits .and .u64 (shv .shr .u64 (W64 ((bits .and .u64 (shv .shr .u64 a0 1) 6148914691236517205) + (bits .and .u64 a0 6148914691236517205))) 2) 3689348814741910323) + (bits .and .u64 (W64 ((bits .and .u64 (shv .shr .u64 a0 1) 6148914691236517205) + (bits .and .u64 a0 6148914691236517205))) 3689348814741910323))) 4) + (W64 ((bits .and .u64 (shv .shr .u64 (W64 ((bits .and .u64 (shv .shr .u64 a0 1) 6148914691236517205) + (bits .and .u64 a0 6148914691236517205))) 2) 3689348814741910323) + (bits .and .u64 (W64 ((bits .and .u64 (shv .shr .u64 a0 1) 6148914691236517205) + (bits .and .u64 a0 6148914691236517205))) 3689348814741910323))))), .int .u64 (bits .and .u64 (W64 ((shv .shr .u64 (W64 ((bits .and .u64 (shv .shr .u64 (W64 ((bits .and .u64 (shv .shr .u64 a0 1) 6148914691236517205) + (bits .and .u64 a0 6148914691236517205))) 2) 3689348814741910323) + (bits .and .u64 (W64 ((bits .and .u64 (shv .shr .u64 a0 1) 6148914691236517205) + (bits .and .u64 a0 6148914691236517205))) 3689348814741910323))) 4) + (W64 ((bits .and .u64 (shv .shr .u64 (W64 ((bits .and .u64 (shv .shr .u64 a0 1) 6148914691236517205) + (bits .and .u64 a0 6148914691236517205))) 2) 3689348814741910323) + (bits .and .u64 (W64 ((bits .and .u64 (shv .shr .u64 a0 1) 6148914691236517205) + (bits .and .u64 a0 6148914691236517205))) 3689348814741910323))))) 1085102592571150095), .int .u64 (bits .and .u64 (W64 ((shv .shr .u64 (W64 ((bits .and .u64 (shv .shr .u64 (W64 ((bits .and .u64 (shv .shr .u64 a0 1) 6148914691236517205) + (bits .and .u64 a0 6148914691236517205))) 2) 3689348814741910323) + (bits .and .u64 (W64 ((bits .and .u64 (shv .shr .u64 a0 1) 6148914691236517205) + (bits .and .u64 a0 6148914691236517205))) 3689348814741910323))) 4) + (W64 ((bits .and .u64 (shv .shr .u64 (W64 ((bits .and .u64 (shv .shr .u64 a0 1) 6148914691236517205) + (bits .and .u64 a0 6148914691236517205))) 2) 3689348814741910323) + (bits .and .u64 (W64 ((bits .and .u64 (shv .shr .u64 a0 1) 6148914691236517205) + (bits .and .u64 a0 6148914691236517205))) 3689348814741910323))))) 1085102592571150095)] (by kernel_rfl) (by kernel_rfl) ?_
  refine r_fin 6 (by kernel_rfl) ?_
  refine q_then ?_
  refine w_seq (p := [1, 1, 1, 1]) (p0 := [1, 1, 1, 1, 0]) (p1 := [1, 1, 1, 1, 1]) (by kernel_rfl) ?_
  refine w_region (p := [1, 1, 1, 1, 0]) (id := 4) (by kernel_rfl) ?_
  refine r_vals 0 5 [.int .u64 (bits .and .u64 (W64 ((shv .shr .u64 (W64 ((bits .and .u64 (shv .shr .u64 (W64 ((bits .and .u64 (shv .shr .u64 a0 1) 6148914691236517205) + (bits .and .u64 a0 6148914691236517205))) 2) 3689348814741910323) + (bits .and .u64 (W64 ((bits .and .u64 (shv .shr .u64 a0 1) 6148914691236517205) + (bits .and .u64 a0 6148914691236517205))) 3689348814741910323))) 4) + (W64 ((bits .and .u64 (shv .shr .u64 (W64 ((bits .and .u64 (shv .shr .u64 a0 1) 6148914691236517205) + (bits .and .u64 a0 6148914691236517205))) 2) 3689348814741910323) + (bits .and .u64 (W64 ((bits .and .u64 (shv .shr .u64 a0 1) 6148914691236517205) + (bits .and .u64 a0 6148914691236517205))) 3689348814741910323))))) 1085102592571150095), .int .u64 (bits .and .u64 (W64 ((shv .shr .u64 (W64 ((bits .and .u64 (shv .shr .u64 (W64 ((bits .and .u64 (shv .shr .u64 a0 1) 6148914691236517205) + (bits .and .u64 a0 6148914691236517205))) 2) 3689348814741910323) + (bits .and .u64 (W64 ((bits .and .u64 (shv .shr .u64 a0 1) 6148914691236517205) + (bits .and .u64 a0 6148914691236517205))) 3689348814741910323))) 4) + (W64 ((bits .and .u64 (shv .shr .u64 (W64 ((bits .and .u64 (shv .shr .u64 a0 1) 6148914691236517205) + (bits .and .u64 a0 6148914691236517205))) 2) 3689348814741910323) + (bits .and .u64 (W64 ((bits .and .u64 (shv .shr .u64 a0 1) 6148914691236517205) + (bits .and .u64 a0 6148914691236517205))) 3689348814741910323))))) 1085102592571150095), .int .u64 (shv .shr .u64 (bits .and .u64 (W64 ((shv .shr .u64 (W64 ((bits .and .u64 (shv .shr .u64 (W64 ((bits .and .u64 (shv .shr .u64 a0 1) 6148914691236517205) + (bits .and .u64 a0 6148914691236517205))) 2) 3689348814741910323) + (bits .and .u64 (W64 ((bits .and .u64 (shv .shr .u64 a0 1) 6148914691236517205) + (bits .and .u64 a0 6148914691236517205))) 3689348814741910323))) 4) + (W64 ((bits .and .u64 (shv .shr .u64 (W64 ((bits .and .u64 (shv .shr .u64 a0 1) 6148914691236517205) + (bits .and .u64 a0 6148914691236517205))) 2) 3689348814741910323) + (bits .and .u64 (W64 ((bits .and .u64 (shv .shr .u64 a0 1) 6148914691236517205) + (bits .and .u64 a0 6148914691236517205))) 3689348814741910323))))) 1085102592571150095) 8), .int .u64 (W64 ((bits .and .u64 (W64 ((shv .shr .u64 (W64 ((bits .and .u64 (shv .shr .u64 (W64 ((bits .and .u64 (shv .shr .u64 a0 1) 6148914691236517205) + (bits .and .u64 a0 6148914691236517205))) 2) 3689348814741910323) + (bits .and .u64 (W64 ((bits .and .u64 (shv .shr .u64 a0 1) 6148914691236517205) + (bits .and .u64 a0 6148914691236517205))) 3689348814741910323))) 4) + (W64 ((bits .and .u64 (shv .shr .u64 (W64 ((bits .and .u64 (shv .shr .u64 a0 1) 6148914691236517205) + (bits .and .u64 a0 6148914691236517205))) 2) 3689348814741910323) + (bits .and .u64 (W64 ((bits .and .u64 (shv .shr .u64 a0 1) 6148914691236517205) + (bits .and .u64 a0 6148914691236517205))) 3689348814741910323))))) 1085102592571150095) + (shv .shr .u64 (bits .and .u64 (W64 ((shv .shr .u64 (W64 ((bits .and .u64 (shv .shr .u64 (W64 ((bits .and .u64 (shv .shr .u64 a0 1) 6148914691236517205) + (bits .and .u64 a0 6148914691236517205))) 2) 3689348814741910323) + (bits .and .u64 (W64 ((bits .and .u64 (shv .shr .u64 a0 1) 6148914691236517205) + (bits .and .u64 a0 6148914691236517205))) 3689348814741910323))) 4) + (W64 ((bits .and .u64 (shv .shr .u64 (W64 ((bits .and .u64 (shv .shr .u64 a0 1) 6148914691236517205) + (bits .and .u64 a0 6148914691236517205))) 2) 3689348814741910323) + (bits .and .u64 (W64 ((bits .and .u64 (shv .shr .u64 a0 1) 6148914691236517205) + (bits .and .u64 a0 6148914691236517205))) 3689348814741910323))))) 1085102592571150095) 8))), .int .u64 (W64 ((bits .and .u64 (W64 ((shv .shr .u64 (W64 ((bits .and .u64 (shv .shr .u64 (W64 ((bits .and .u64 (shv .shr .u64 a0 1) 6148914691236517205) + (bits .and .u64 a0 6148914691236517205))) 2) 3689348814741910323) + (bits .and .u64 (W64 ((bits .and .u64 (shv .shr .u64 a0 1) 6148914691236517205) + (bits .and .u64 a0 6148914691236517205))) 3689348814741910323))) 4) + (W64 ((bits .and .u64 (shv .shr .u64 (W64 ((bits .and .u64 (shv .shr .u64 a0 1) 6148914691236517205) + (bits .and .u64 a0 6148914691236517205))) 2) 3689348814741910323) + (bits .and .u64 (W64 ((bits .and .u64 (shv .shr .u64 a0 1) 6148914691236517205) + (bits .and .u64 a0 6148914691236517205))) 3689348814741910323))))) 1085102592571150095) + (shv .shr .u64 (bits .and .u64 (W64 ((shv .shr .u64 (W64 ((bits .and .u64 (shv .shr .u64 (W64 ((bits .and .u64 (shv .shr .u64 a0 1) 6148914691236517205) + (bits .and .u64 a0 6148914691236517205))) 2) 3689348814741910323) + (bits .and .u64 (W64 ((bits .and .u64 (shv .shr .u64 a0 1) 6148914691236517205) + (bits .and .u64 a0 6148914691236517205))) 3689348814741910323))) 4) + (W64 ((bits .and .u64 (shv .shr .u64 (W64 ((bits .and .u64 (shv .shr .u64 a0 1) 6148914691236517205) + (bits .and .u64 a0 6148914691236517205))) 2) 3689348814741910323) + (bits .and .u64 (W64 ((bits .and .u64 (shv .shr .u64 a0 1) 6148914691236517205) + (bits .and .u64 a0 6148914691236517205))) 3689348814741910323))))) 1085102592571150095) 8)))] (by kernel_rfl) (by kernel_rfl) ?_
  refine r_fin 5 (by kernel_rfl) ?_
  refine q_then ?_
  refine w_seq (p := [1, 1, 1, 1, 1]) (p0 := [1, 1, 1, 1, 1, 0]) (p1 := [1, 1, 1, 1, 1, 1]) (by kernel_rfl) ?_
  refine w_region (p := [1, 1, 1, 1, 1, 0]) (id := 5) (by kernel_rfl) ?_
  refine r_vals 0 5 [.int .u64 (W64 ((bits .and .u64 (W64 ((shv .shr .u64 (W64 ((bits .and .u64 (shv .shr .u64 (W64 ((bits .and .u64 (shv .shr .u64 a0 1) 6148914691236517205) + (bits .and .u64 a0 6148914691236517205))) 2) 3689348814741910323) + (bits .and .u64 (W64 ((bits .and .u64 (shv .shr .u64 a0 1) 6148914691236517205) + (bits .and .u64 a0 6148914691236517205))) 3689348814741910323))) 4) + (W64 ((bits .and .u64 (shv .shr .u64 (W64 ((bits .and .u64 (shv .shr .u64 a0 1) 6148914691236517205) + (bits .and .u64 a0 6148914691236517205))) 2) 3689348814741910323) + (bits .and .u64 (W64 ((bits .and .u64 (shv .shr .u64 a0 1) 6148914691236517205) + (bits .and .u64 a0 6148914691236517205))) 3689348814741910323))))) 1085102592571150095) + (shv .shr .u64 (bits .and .u64 (W64 ((shv .shr .u64 (W64 ((bits .and .u64 (shv .shr .u64 (W64 ((bits .and .u64 (shv .shr .u64 a0 1) 6148914691236517205) + (bits .and .u64 a0 6148914691236517205))) 2) 3689348814741910323) + (bits .and .u64 (W64 ((bits .and .u64 (shv .shr .u64 a0 1) 6148914691236517205) + (bits .and .u64 a0 6148914691236517205))) 3689348814741910323))) 4) + (W64 ((bits .and .u64 (shv .shr .u64 (W64 ((bits .and .u64 (shv .shr .u64 a0 1) 6148914691236517205) + (bits .and .u64 a0 6148914691236517205))) 2) 3689348814741910323) + (bits .and .u64 (W64 ((bits .and .u64 (shv .shr .u64 a0 1) 6148914691236517205) + (bits .and .u64 a0 6148914691236517205))) 3689348814741910323))))) 1085102592571150095) 8))), .int .u64 (W64 ((bits .and .u64 (W64 ((shv .shr .u64 (W64 ((bits .and .u64 (shv .shr .u64 (W64 ((bits .and .u64 (shv .shr .u64 a0 1) 6148914691236517205) + (bits .and .u64 a0 6148914691236517205))) 2) 3689348814741910323) + (bits .and .u64 (W64 ((bits .and .u64 (shv .shr .u64 a0 1) 6148914691236517205) + (bits .and .u64 a0 6148914691236517205))) 3689348814741910323))) 4) + (W64 ((bits .and .u64 (shv .shr .u64 (W64 ((bits .and .u64 (shv .shr .u64 a0 1) 6148914691236517205) + (bits .and .u64 a0 6148914691236517205))) 2) 3689348814741910323) + (bits .and .u64 (W64 ((bits .and .u64 (shv .shr .u64 a0 1) 6148914691236517205) + (bits .and .u64 a0 6148914691236517205))) 3689348814741910323))))) 1085102592571150095) + (shv .shr .u64 (bits .and .u64 (W64 ((shv .shr .u64 (W64 ((bits .and .u64 (shv .shr .u64 (W64 ((bits .and .u64 (shv .shr .u64 a0 1) 6148914691236517205) + (bits .and .u64 a0 6148914691236517205))) 2) 3689348814741910323) + (bits .and .u64 (W64 ((bits .and .u64 (shv .shr .u64 a0 1) 6148914691236517205) + (bits .and .u64 a0 6148914691236517205))) 3689348814741910323))) 4) + (W64 ((bits .and .u64 (shv .shr .u64 (W64 ((bits .and .u64 (shv .shr .u64 a0 1) 6148914691236517205) + (bits .and .u64 a0 6148914691236517205))) 2) 3689348814741910323) + (bits .and .u64 (W64 ((bits .and .u64 (shv .shr .u64 a0 1) 6148914691236517205) + (bits .and .u64 a0 6148914691236517205))) 3689348814741910323))))) 1085102592571150095) 8))), .int .u64 (shv .shr .u64 (W64 ((bits .and .u64 (W64 ((shv .shr .u64 (W64 ((bits .and .u64 (shv .shr .u64 (W64 ((bits .and .u64 (shv .shr .u64 a0 1) 6148914691236517205) + (bits .and .u64 a0 6148914691236517205))) 2) 3689348814741910323) + (bits .and .u64 (W64 ((bits .and .u64 (shv .shr .u64 a0 1) 6148914691236517205) + (bits .and .u64 a0 6148914691236517205))) 3689348814741910323))) 4) + (W64 ((bits .and .u64 (shv .shr .u64 (W64 ((bits .and .u64 (shv .shr .u64 a0 1) 6148914691236517205) + (bits .and .u64 a0 6148914691236517205))) 2) 3689348814741910323) + (bits .and .u64 (W64 ((bits .and .u64 (shv .shr .u64 a0 1) 6148914691236517205) + (bits .and .u64 a0 6148914691236517205))) 3689348814741910323))))) 1085102592571150095) + (shv .shr .u64 (bits .and .u64 (W64 ((shv .shr .u64 (W64 ((bits .and .u64 (shv .shr .u64 (W64 ((bits .and .u64 (shv .shr .u64 a0 1) 6148914691236517205) + (bits .and .u64 a0 6148914691236517205))) 2) 3689348814741910323) + (bits .and .u64 (W64 ((bits .and .u64 (shv .shr .u64 a0 1) 6148914691236517205) + (bits .and .u64 a0 6148914691236517205))) 3689348814741910323))) 4) + (W64 ((bits .and .u64 (shv .shr .u64 (W64 ((bits .and .u64 (shv .shr .u64 a0 1) 6148914691236517205) + (bits .and .u64 a0 6148914691236517205))) 2) 3689348814741910323) + (bits .and .u64 (W64 ((bits .and .u64 (shv .shr .u64 a0 1) 6148914691236517205) + (bits .and .u64 a0 6148914691236517205))) 3689348814741910323))))) 1085102592571150095) 8))) 16), .int .u64 (W64 ((W64 ((bits .and .u64 (W64 ((shv .shr .u64 (W64 ((bits .and .u64 (shv .shr .u64 (W64 ((bits .and .u64 (shv .shr .u64 a0 1) 6148914691236517205) + (bits .and .u64 a0 6148914691236517205))) 2) 3689348814741910323) + (bits .and .u64 (W64 ((bits .and .u64 (shv .shr .u64 a0 1) 6148914691236517205) + (bits .and .u64 a0 6148914691236517205))) 3689348814741910323))) 4) + (W64 ((bits .and .u64 (shv .shr .u64 (W64 ((bits .and .u64 (shv .shr .u64 a0 1) 6148914691236517205) + (bits .and .u64 a0 6148914691236517205))) 2) 3689348814741910323) + (bits .and .u64 (W64 ((bits .and .u64 (shv .shr .u64 a0 1) 6148914691236517205) + (bits .and .u64 a0 6148914691236517205))) 3689348814741910323))))) 1085102592571150095) + (shv .shr .u64 (bits .and .u64 (W64 ((shv .shr .u64 (W64 ((bits .and .u64 (shv .shr .u64 (W64 ((bits .and .u64 (shv .shr .u64 a0 1) 6148914691236517205) + (bits .and .u64 a0 6148914691236517205))) 2) 3689348814741910323) + (bits .and .u64 (W64 ((bits .and .u64 (shv .shr .u64 a0 1) 6148914691236517205) + (bits .and .u64 a0 6148914691236517205))) 3689348814741910323))) 4) + (W64 ((bits .and .u64 (shv .shr .u64 (W64 ((bits .and .u64 (shv .shr .u64 a0 1) 6148914691236517205) + (bits .and .u64 a0 6148914691236517205))) 2) 3689348814741910323) + (bits .and .u64 (W64 ((bits .and .u64 (shv .shr .u64 a0 1) 6148914691236517205) + (bits .and .u64 a0 6148914691236517205))) 3689348814741910323))))) 1085102592571150095) 8))) + (shv .shr .u64 (W64 ((bits .and .u64 (W64 ((shv .shr .u64 (W64 ((bits .and .u64 (shv .shr .u64 (W64 ((bits .and .u64 (shv .shr .u64 a0 1) 6148914691236517205) + (bits .and .u64 a0 6148914691236517205))) 2) 3689348814741910323) + (bits .and .u64 (W64 ((bits .and .u64 (shv .shr .u64 a0 1) 6148914691236517205) + (bits .and .u64 a0 6148914691236517205))) 3689348814741910323))) 4) + (W64 ((bits .and .u64 (shv .shr .u64 (W64 ((bits .and .u64 (shv .shr .u64 a0 1) 6148914691236517205) + (bits .and .u64 a0 6148914691236517205))) 2) 3689348814741910323) + (bits .and .u64 (W64 ((bits .and .u64 (shv .shr .u64 a0 1) 6148914691236517205) + (bits .and .u64 a0 6148914691236517205))) 3689348814741910323))))) 1085102592571150095) + (shv .shr .u64 (bits .and .u64 (W64 ((shv .shr .u64 (W64 ((bits .and .u64 (shv .shr .u64 (W64 ((bits .and .u64 (shv .shr .u64 a0 1) 6148914691236517205) + (bits .and .u64 a0 6148914691236517205))) 2) 3689348814741910323) + (bits .and .u64 (W64 ((bits .and .u64 (shv .shr .u64 a0 1) 6148914691236517205) + (bits .and .u64 a0 6148914691236517205))) 3689348814741910323))) 4) + (W64 ((bits .and .u64 (shv .shr .u64 (W64 ((bits .and .u64 (shv .shr .u64 a0 1) 6148914691236517205) + (bits .and .u64 a0 6148914691236517205))) 2) 3689348814741910323) + (bits .and .u64 (W64 ((bits .and .u64 (shv .shr .u64 a0 1) 6148914691236517205) + (bits .and .u64 a0 6148914691236517205))) 3689348814741910323))))) 1085102592571150095) 8))) 16))), .int .u64 (W64 ((W64 ((bits .and .u64 (W64 ((shv .shr .u64 (W64 ((bits .and .u64 (shv .shr .u64 (W64 ((bits .and .u64 (shv .shr .u64 a0 1) 6148914691236517205) + (bits .and .u64 a0 6148914691236517205))) 2) 3689348814741910323) + (bits .and .u64 (W64 ((bits .and .u64 (shv .shr .u64 a0 1) 6148914691236517205) + (bits .and .u64 a0 6148914691236517205))) 3689348814741910323))) 4) + (W64 ((bits .and .u64 (shv .shr .u64 (W64 ((bits .and .u64 (shv .shr .u64 a0 1) 6148914691236517205) + (bits .and .u64 a0 6148914691236517205))) 2) 3689348814741910323) + (bits .and .u64 (W64 ((bits .and .u64 (shv .shr .u64 a0 1) 6148914691236517205) + (bits .and .u64 a0 6148914691236517205))) 3689348814741910323))))) 1085102592571150095) + (shv .shr .u64 (bits .and .u64 (W64 ((shv .shr .u64 (W64 ((bits .and .u64 (shv .shr .u64 (W64 ((bits .and .u64 (shv .shr .u64 a0 1) 6148914691236517205) + (bits .and .u64 a0 6148914691236517205))) 2) 3689348814741910323) + (bits .and .u64 (W64 ((bits .and .u64 (shv .shr .u64 a0 1) 6148914691236517205) + (bits .and .u64 a0 6148914691236517205))) 3689348814741910323))) 4) + (W64 ((bits .and .u64 (shv .shr .u64 (W64 ((bits .and .u64 (shv .shr .u64 a0 1) 6148914691236517205) + (bits .and .u64 a0 6148914691236517205))) 2) 3689348814741910323) + (bits .and .u64 (W64 ((bits .and .u64 (shv .shr .u64 a0 1) 6148914691236517205) + (bits .and .u64 a0 6148914691236517205))) 3689348814741910323))))) 1085102592571150095) 8))) + (shv .shr .u64 (W64 ((bits .and .u64 (W64 ((shv .shr .u64 (W64 ((bits .and .u64 (shv .shr .u64 (W64 ((bits .and .u64 (shv .shr .u64 a0 1) 6148914691236517205) + (bits .and .u64 a0 6148914691236517205))) 2) 3689348814741910323) + (bits .and .u64 (W64 ((bits .and .u64 (shv .shr .u64 a0 1) 6148914691236517205) + (bits .and .u64 a0 6148914691236517205))) 3689348814741910323))) 4) + (W64 ((bits .and .u64 (shv .shr .u64 (W64 ((bits .and .u64 (shv .shr .u64 a0 1) 6148914691236517205) + (bits .and .u64 a0 6148914691236517205))) 2) 3689348814741910323) + (bits .and .u64 (W64 ((bits .and .u64 (shv .shr .u64 a0 1) 6148914691236517205) + (bits .and .u64 a0 6148914691236517205))) 3689348814741910323))))) 1085102592571150095) + (shv .shr .u64 (bits .and .u64 (W64 ((shv .shr .u64 (W64 ((bits .and .u64 (shv .shr .u64 (W64 ((bits .and .u64 (shv .shr .u64 a0 1) 6148914691236517205) + (bits .and .u64 a0 6148914691236517205))) 2) 3689348814741910323) + (bits .and .u64 (W64 ((bits .and .u64 (shv .shr .u64 a0 1) 6148914691236517205) + (bits .and .u64 a0 6148914691236517205))) 3689348814741910323))) 4) + (W64 ((bits .and .u64 (shv .shr .u64 (W64 ((bits .and .u64 (shv .shr .u64 a0 1) 6148914691236517205) + (bits .and .u64 a0 6148914691236517205))) 2) 3689348814741910323) + (bits .and .u64 (W64 ((bits .and .u64 (shv .shr .u64 a0 1) 6148914691236517205) + (bits .and .u64 a0 6148914691236517205))) 3689348814741910323))))) 1085102592571150095) 8))) 16)))] (by kernel_rfl) (by kernel_rfl) ?_
  refine r_fin 5 (by kernel_rfl) ?_
  refine q_then ?_
  refine w_seq (p := [1, 1, 1, 1, 1, 1]) (p0 := [1, 1, 1, 1, 1, 1, 0]) (p1 := [1, 1, 1, 1, 1, 1, 1]) (by kernel_rfl) ?_
  refine w_region (p := [1, 1, 1, 1, 1, 1, 0]) (id := 6) (by kernel_rfl) ?_
  refine r_vals 0 5 [.int .u64 (W64 ((W64 ((bits .and .u64 (W64 ((shv .shr .u64 (W64 ((bits .and .u64 (shv .shr .u64 (W64 ((bits .and .u64 (shv .shr .u64 a0 1) 6148914691236517205) + (bits .and .u64 a0 6148914691236517205))) 2) 3689348814741910323) + (bits .and .u64 (W64 ((bits .and .u64 (shv .shr .u64 a0 1) 6148914691236517205) + (bits .and .u64 a0 6148914691236517205))) 3689348814741910323))) 4) + (W64 ((bits .and .u64 (shv .shr .u64 (W64 ((bits .and .u64 (shv .shr .u64 a0 1) 6148914691236517205) + (bits .and .u64 a0 6148914691236517205))) 2) 3689348814741910323) + (bits .and .u64 (W64 ((bits .and .u64 (shv .shr .u64 a0 1) 6148914691236517205) + (bits .and .u64 a0 6148914691236517205))) 3689348814741910323))))) 1085102592571150095) + (shv .shr .u64 (bits .and .u64 (W64 ((shv .shr .u64 (W64 ((bits .and .u64 (shv .shr .u64 (W64 ((bits .and .u64 (shv .shr .u64 a0 1) 6148914691236517205) + (bits .and .u64 a0 6148914691236517205))) 2) 3689348814741910323) + (bits .and .u64 (W64 ((bits .and .u64 (shv .shr .u64 a0 1) 6148914691236517205) + (bits .and .u64 a0 6148914691236517205))) 3689348814741910323))) 4) + (W64 ((bits .and .u64 (shv .shr .u64 (W64 ((bits .and .u64 (shv .shr .u64 a0 1) 6148914691236517205) + (bits .and .u64 a0 6148914691236517205))) 2) 3689348814741910323) + (bits .and .u64 (W64 ((bits .and .u64 (shv .shr .u64 a0 1) 6148914691236517205) + (bits .and .u64 a0 6148914691236517205))) 3689348814741910323))))) 1085102592571150095) 8))) + (shv .shr .u64 (W64 ((bits .and .u64 (W64 ((shv .shr .u64 (W64 ((bits .and .u64 (shv .shr .u64 (W64 ((bits .and .u64 (shv .shr .u64 a0 1) 6148914691236517205) + (bits .and .u64 a0 6148914691236517205))) 2) 3689348814741910323) + (bits .and .u64 (W64 ((bits .and .u64 (shv .shr .u64 a0 1) 6148914691236517205) + (bits .and .u64 a0 6148914691236517205))) 3689348814741910323))) 4) + (W64 ((bits .and .u64 (shv .shr .u64 (W64 ((bits .and .u64 (shv .shr .u64 a0 1) 6148914691236517205) + (bits .and .u64 a0 6148914691236517205))) 2) 3689348814741910323) + (bits .and .u64 (W64 ((bits .and .u64 (shv .shr .u64 a0 1) 6148914691236517205) + (bits .and .u64 a0 6148914691236517205))) 3689348814741910323))))) 1085102592571150095) + (shv .shr .u64 (bits .and .u64 (W64 ((shv .shr .u64 (W64 ((bits .and .u64 (shv .shr .u64 (W64 ((bits .and .u64 (shv .shr .u64 a0 1) 6148914691236517205) + (bits .and .u64 a0 6148914691236517205))) 2) 3689348814741910323) + (bits .and .u64 (W64 ((bits .and .u64 (shv .shr .u64 a0 1) 6148914691236517205) + (bits .and .u64 a0 6148914691236517205))) 3689348814741910323))) 4) + (W64 ((bits .and .u64 (shv .shr .u64 (W64 ((bits .and .u64 (shv .shr .u64 a0 1) 6148914691236517205) + (bits .and .u64 a0 6148914691236517205))) 2) 3689348814741910323) + (bits .and .u64 (W64 ((bits .and .u64 (shv .shr .u64 a0 1) 6148914691236517205) + (bits .and .u64 a0 6148914691236517205))) 3689348814741910323))))) 1085102592571150095) 8))) 16))), .int .u64 (W64 ((W64 ((bits .and .u64 (W64 ((shv .shr .u64 (W64 ((bits .and .u64 (shv .shr .u64 (W64 ((bits .and .u64 (shv .shr .u64 a0 1) 6148914691236517205) + (bits .and .u64 a0 6148914691236517205))) 2) 3689348814741910323) + (bits .and .u64 (W64 ((bits .and .u64 (shv .shr .u64 a0 1) 6148914691236517205) + (bits .and .u64 a0 6148914691236517205))) 3689348814741910323))) 4) + (W64 ((bits .and .u64 (shv .shr .u64 (W64 ((bits .and .u64 (shv .shr .u64 a0 1) 6148914691236517205) + (bits .and .u64 a0 6148914691236517205))) 2) 3689348814741910323) + (bits .and .u64 (W64 ((bits .and .u64 (shv .shr .u64 a0 1) 6148914691236517205) + (bits .and .u64 a0 6148914691236517205))) 3689348814741910323))))) 1085102592571150095) + (shv .shr .u64 (bits .and .u64 (W64 ((shv .shr .u64 (W64 ((bits .and .u64 (shv .shr .u64 (W64 ((bits .and .u64 (shv .shr .u64 a0 1) 6148914691236517205) + (bits .and .u64 a0 6148914691236517205))) 2) 3689348814741910323) + (bits .and .u64 (W64 ((bits .and .u64 (shv .shr .u64 a0 1) 6148914691236517205) + (bits .and .u64 a0 6148914691236517205))) 3689348814741910323))) 4) + (W64 ((bits .and .u64 (shv .shr .u64 (W64 ((bits .and .u64 (shv .shr .u64 a0 1) 6148914691236517205) + (bits .and .u64 a0 6148914691236517205))) 2) 3689348814741910323) + (bits .and .u64 (W64 ((bits .and .u64 (shv .shr .u64 a0 1) 6148914691236517205) + (bits .and .u64 a0 6148914691236517205))) 3689348814741910323))))) 1085102592571150095) 8))) + (shv .shr .u64 (W64 ((bits .and .u64 (W64 ((shv .shr .u64 (W64 ((bits .and .u64 (shv .shr .u64 (W64 ((bits .and .u64 (shv .shr .u64 a0 1) 6148914691236517205) + (bits .and .u64 a0 6148914691236517205))) 2) 3689348814741910323) + (bits .and .u64 (W64 ((bits .and .u64 (shv .shr .u64 a0 1) 6148914691236517205) + (bits .and .u64 a0 6148914691236517205))) 3689348814741910323))) 4) + (W64 ((bits .and .u64 (shv .shr .u64 (W64 ((bits .and .u64 (shv .shr .u64 a0 1) 6148914691236517205) + (bits .and .u64 a0 6148914691236517205))) 2) 3689348814741910323) + (bits .and .u64 (W64 ((bits .and .u64 (shv .shr .u64 a0 1) 6148914691236517205) + (bits .and .u64 a0 6148914691236517205))) 3689348814741910323))))) 1085102592571150095) + (shv .shr .u64 (bits .and .u64 (W64 ((shv .shr .u64 (W64 ((bits .and .u64 (shv .shr .u64 (W64 ((bits .and .u64 (shv .shr .u64 a0 1) 6148914691236517205) + (bits .and .u64 a0 6148914691236517205))) 2) 3689348814741910323) + (bits .and .u64 (W64 ((bits .and .u64 (shv .shr .u64 a0 1) 6148914691236517205) + (bits .and .u64 a0 6148914691236517205))) 3689348814741910323))) 4) + (W64 ((bits .and .u64 (shv .shr .u64 (W64 ((bits .and .u64 (shv .shr .u64 a0 1) 6148914691236517205) + (bits .and .u64 a0 6148914691236517205))) 2) 3689348814741910323) + (bits .and .u64 (W64 ((bits .and .u64 (shv .shr .u64 a0 1) 6148914691236517205) + (bits .and .u64 a0 6148914691236517205))) 3689348814741910323))))) 1085102592571150095) 8))) 16))), .int .u64 (shv .shr .u64 (W64 ((W64 ((bits .and .u64 (W64 ((shv .shr .u64 (W64 ((bits .and .u64 (shv .shr .u64 (W64 ((bits .and .u64 (shv .shr .u64 a0 1) 6148914691236517205) + (bits .and .u64 a0 6148914691236517205))) 2) 3689348814741910323) + (bits .and .u64 (W64 ((bits .and .u64 (shv .shr .u64 a0 1) 6148914691236517205) + (bits .and .u64 a0 6148914691236517205))) 3689348814741910323))) 4) + (W64 ((bits .and .u64 (shv .shr .u64 (W64 ((bits .and .u64 (shv .shr .u64 a0 1) 6148914691236517205) + (bits .and .u64 a0 6148914691236517205))) 2) 3689348814741910323) + (bits .and .u64 (W64 ((bits .and .u64 (shv .shr .u64 a0 1) 6148914691236517205) + (bits .and .u64 a0 6148914691236517205))) 3689348814741910323))))) 1085102592571150095) + (shv .shr .u64 (bits .and .u64 (W64 ((shv .shr .u64 (W64 ((bits .and .u64 (shv .shr .u64 (W64 ((bits .and .u64 (shv .shr .u64 a0 1) 6148914691236517205) + (bits .and .u64 a0 6148914691236517205))) 2) 3689348814741910323) + (bits .and .u64 (W64 ((bits .and .u64 (shv .shr .u64 a0 1) 6148914691236517205) + (bits .and .u64 a0 6148914691236517205))) 3689348814741910323))) 4) + (W64 ((bits .and .u64 (shv .shr .u64 (W64 ((bits .and .u64 (shv .shr .u64 a0 1) 6148914691236517205) + (bits .and .u64 a0 6148914691236517205))) 2) 3689348814741910323) + (bits .and .u64 (W64 ((bits .and .u64 (shv .shr .u64 a0 1) 6148914691236517205) + (bits .and .u64 a0 6148914691236517205))) 3689348814741910323))))) 1085102592571150095) 8))) + (shv .shr .u64 (W64 ((bits .and .u64 (W64 ((shv .shr .u64 (W64 ((bits .and .u64 (shv .shr .u64 (W64 ((bits .and .u64 (shv .shr .u64 a0 1) 6148914691236517205) + (bits .and .u64 a0 6148914691236517205))) 2) 3689348814741910323) + (bits .and .u64 (W64 ((bits .and .u64 (shv .shr .u64 a0 1) 6148914691236517205) + (bits .and .u64 a0 6148914691236517205))) 3689348814741910323))) 4) + (W64 ((bits .and .u64 (shv .shr .u64 (W64 ((bits .and .u64 (shv .shr .u64 a0 1) 6148914691236517205) + (bits .and .u64 a0 6148914691236517205))) 2) 3689348814741910323) + (bits .and .u64 (W64 ((bits .and .u64 (shv .shr .u64 a0 1) 6148914691236517205) + (bits .and .u64 a0 6148914691236517205))) 3689348814741910323))))) 1085102592571150095) + (shv .shr .u64 (bits .and .u64 (W64 ((shv .shr .u64 (W64 ((bits .and .u64 (shv .shr .u64 (W64 ((bits .and .u64 (shv .shr .u64 a0 1) 6148914691236517205) + (bits .and .u64 a0 6148914691236517205))) 2) 3689348814741910323) + (bits .and .u64 (W64 ((bits .and .u64 (shv .shr .u64 a0 1) 6148914691236517205) + (bits .and .u64 a0 6148914691236517205))) 3689348814741910323))) 4) + (W64 ((bits .and .u64 (shv .shr .u64 (W64 ((bits .and .u64 (shv .shr .u64 a0 1) 6148914691236517205) + (bits .and .u64 a0 6148914691236517205))) 2) 3689348814741910323) + (bits .and .u64 (W64 ((bits .and .u64 (shv .shr .u64 a0 1) 6148914691236517205) + (bits .and .u64 a0 6148914691236517205))) 3689348814741910323))))) 1085102592571150095) 8))) 16))) 32), .int .u64 (W64 ((W64 ((W64 ((bits .and .u64 (W64 ((shv .shr .u64 (W64 ((bits .and .u64 (shv .shr .u64 (W64 ((bits .and .u64 (shv .shr .u64 a0 1) 6148914691236517205) + (bits .and .u64 a0 6148914691236517205))) 2) 3689348814741910323) + (bits .and .u64 (W64 ((bits .and .u64 (shv .shr .u64 a0 1) 6148914691236517205) + (bits .and .u64 a0 6148914691236517205))) 3689348814741910323))) 4) + (W64 ((bits .and .u64 (shv .shr .u64 (W64 ((bits .and .u64 (shv .shr .u64 a0 1) 6148914691236517205) + (bits .and .u64 a0 6148914691236517205))) 2) 3689348814741910323) + (bits .and .u64 (W64 ((bits .and .u64 (shv .shr .u64 a0 1) 6148914691236517205) + (bits .and .u64 a0 6148914691236517205))) 3689348814741910323))))) 1085102592571150095) + (shv .shr .u64 (bits .and .u64 (W64 ((shv .shr .u64 (W64 ((bits .and .u64 (shv .shr .u64 (W64 ((bits .and .u64 (shv .shr .u64 a0 1) 6148914691236517205) + (bits .and .u64 a0 6148914691236517205))) 2) 3689348814741910323) + (bits .and .u64 (W64 ((bits .and .u64 (shv .shr .u64 a0 1) 6148914691236517205) + (bits .and .u64 a0 6148914691236517205))) 3689348814741910323))) 4) + (W64 ((bits .and .u64 (shv .shr .u64 (W64 ((bits .and .u64 (shv .shr .u64 a0 1) 6148914691236517205) + (bits .and .u64 a0 6148914691236517205))) 2) 3689348814741910323) + (bits .and .u64 (W64 ((bits .and .u64 (shv .shr .u64 a0 1) 6148914691236517205) + (bits .and .u64 a0 6148914691236517205))) 3689348814741910323))))) 1085102592571150095) 8))) + (shv .shr .u64 (W64 ((bits .and .u64 (W64 ((shv .shr .u64 (W64 ((bits .and .u64 (shv .shr .u64 (W64 ((bits .and .u64 (shv .shr .u64 a0 1) 6148914691236517205) + (bits .and .u64 a0 6148914691236517205))) 2) 3689348814741910323) + (bits .and .u64 (W64 ((bits .and .u64 (shv .shr .u64 a0 1) 6148914691236517205) + (bits .and .u64 a0 6148914691236517205))) 3689348814741910323))) 4) + (W64 ((bits .and .u64 (shv .shr .u64 (W64 ((bits .and .u64 (shv .shr .u64 a0 1) 6148914691236517205) + (bits .and .u64 a0 6148914691236517205))) 2) 3689348814741910323) + (bits .and .u64 (W64 ((bits .and .u64 (shv .shr .u64 a0 1) 6148914691236517205) + (bits .and .u64 a0 6148914691236517205))) 3689348814741910323))))) 1085102592571150095) + (shv .shr .u64 (bits .and .u64 (W64 ((shv .shr .u64 (W64 ((bits .and .u64 (shv .shr .u64 (W64 ((bits .and .u64 (shv .shr .u64 a0 1) 6148914691236517205) + (bits .and .u64 a0 6148914691236517205))) 2) 3689348814741910323) + (bits .and .u64 (W64 ((bits .and .u64 (shv .shr .u64 a0 1) 6148914691236517205) + (bits .and .u64 a0 6148914691236517205))) 3689348814741910323))) 4) + (W64 ((bits .and .u64 (shv .shr .u64 (W64 ((bits .and .u64 (shv .shr .u64 a0 1) 6148914691236517205) + (bits .and .u64 a0 6148914691236517205))) 2) 3689348814741910323) + (bits .and .u64 (W64 ((bits .and .u64 (shv .shr .u64 a0 1) 6148914691236517205) + (bits .and .u64 a0 6148914691236517205))) 3689348814741910323))))) 1085102592571150095) 8))) 16))) + (shv .shr .u64 (W64 ((W64 ((bits .and .u64 (W64 ((shv .shr .u64 (W64 ((bits .and .u64 (shv .shr .u64 (W64 ((bits .and .u64 (shv .shr .u64 a0 1) 6148914691236517205) + (bits .and .u64 a0 6148914691236517205))) 2) 3689348814741910323) + (bits .and .u64 (W64 ((bits .and .u64 (shv .shr .u64 a0 1) 6148914691236517205) + (bits .and .u64 a0 6148914691236517205))) 3689348814741910323))) 4) + (W64 ((bits .and .u64 (shv .shr .u64 (W64 ((bits .and .u64 (shv .shr .u64 a0 1) 6148914691236517205) + (bits .and .u64 a0 6148914691236517205))) 2) 3689348814741910323) + (bits .and .u64 (W64 ((bits .and .u64 (shv .shr .u64 a0 1) 6148914691236517205) + (bits .and .u64 a0 6148914691236517205))) 3689348814741910323))))) 1085102592571150095) + (shv .shr .u64 (bits .and .u64 (W64 ((shv .shr .u64 (W64 ((bits .and .u64 (shv .shr .u64 (W64 ((bits .and .u64 (shv .shr .u64 a0 1) 6148914691236517205) + (bits .and .u64 a0 6148914691236517205))) 2) 3689348814741910323) + (bits .and .u64 (W64 ((bits .and .u64 (shv .shr .u64 a0 1) 6148914691236517205) + (bits .and .u64 a0 6148914691236517205))) 3689348814741910323))) 4) + (W64 ((bits .and .u64 (shv .shr .u64 (W64 ((bits .and .u64 (shv .shr .u64 a0 1) 6148914691236517205) + (bits .and .u64 a0 6148914691236517205))) 2) 3689348814741910323) + (bits .and .u64 (W64 ((bits .and .u64 (shv .shr .u64 a0 1) 6148914691236517205) + (bits .and .u64 a0 6148914691236517205))) 3689348814741910323))))) 1085102592571150095) 8))) + (shv .shr .u64 (W64 ((bits .and .u64 (W64 ((shv .shr .u64 (W64 ((bits .and .u64 (shv .shr .u64 (W64 ((bits .and .u64 (shv .shr .u64 a0 1) 6148914691236517205) + (bits .and .u64 a0 6148914691236517205))) 2) 3689348814741910323) + (bits .and .u64 (W64 ((bits .and .u64 (shv .shr .u64 a0 1) 6148914691236517205) + (bits .and .u64 a0 6148914691236517205))) 3689348814741910323))) 4) + (W64 ((bits .and .u64 (shv .shr .u64 (W64 ((bits .and .u64 (shv .shr .u64 a0 1) 6148914691236517205) + (bits .and .u64 a0 6148914691236517205))) 2) 3689348814741910323) + (bits .and .u64 (W64 ((bits .and .u64 (shv .shr .u64 a0 1) 6148914691236517205) + (bits .and .u64 a0 6148914691236517205))) 3689348814741910323))))) 1085102592571150095) + (shv .shr .u64 (bits .and .u64 (W64 ((shv .shr .u64 (W64 ((bits .and .u64 (shv .shr .u64 (W64 ((bits .and .u64 (shv .shr .u64 a0 1) 6148914691236517205) + (bits .and .u64 a0 6148914691236517205))) 2) 3689348814741910323) + (bits .and .u64 (W64 ((bits .and .u64 (shv .shr .u64 a0 1) 6148914691236517205) + (bits .and .u64 a0 6148914691236517205))) 3689348814741910323))) 4) + (W64 ((bits .and .u64 (shv .shr .u64 (W64 ((bits .and .u64 (shv .shr .u64 a0 1) 6148914691236517205) + (bits .and .u64 a0 6148914691236517205))) 2) 3689348814741910323) + (bits .and .u64 (W64 ((bits .and .u64 (shv .shr .u64 a0 1) 6148914691236517205) + (bits .and .u64 a0 6148914691236517205))) 3689348814741910323))))) 1085102592571150095) 8))) 16))) 32))), .int .u64 (W64 ((W64 ((W64 ((bits .and .u64 (W64 ((shv .shr .u64 (W64 ((bits .and .u64 (shv .shr .u64 (W64 ((bits .and .u64 (shv .shr .u64 a0 1) 6148914691236517205) + (bits .and .u64 a0 6148914691236517205))) 2) 3689348814741910323) + (bits .and .u64 (W64 ((bits .and .u64 (shv .shr .u64 a0 1) 6148914691236517205) + (bits .and .u64 a0 6148914691236517205))) 3689348814741910323))) 4) + (W64 ((bits .and .u64 (shv .shr .u64 (W64 ((bits .and .u64 (shv .shr .u64 a0 1) 6148914691236517205) + (bits .and .u64 a0 6148914691236517205))) 2) 3689348814741910323) + (bits .and .u64 (W64 ((bits .and .u64 (shv .shr .u64 a0 1) 6148914691236517205) + (bits .and .u64 a0 6148914691236517205))) 3689348814741910323))))) 1085102592571150095) + (shv .shr .u64 (bits .and .u64 (W64 ((shv .shr .u64 (W64 ((bits .and .u64 (shv .shr .u64 (W64 ((bits .and .u64 (shv .shr .u64 a0 1) 6148914691236517205) + (bits .and .u64 a0 6148914691236517205))) 2) 3689348814741910323) + (bits .and .u64 (W64 ((bits .and .u64 (shv .shr .u64 a0 1) 6148914691236517205) + (bits .and .u64 a0 6148914691236517205))) 3689348814741910323))) 4) + (W64 ((bits .and .u64 (shv .shr .u64 (W64 ((bits .and .u64 (shv .shr .u64 a0 1) 6148914691236517205) + (bits .and .u64 a0 6148914691236517205))) 2) 3689348814741910323) + (bits .and .u64 (W64 ((bits .and .u64 (shv .shr .u64 a0 1) 6148914691236517205) + (bits .and .u64 a0 6148914691236517205))) 3689348814741910323))))) 1085102592571150095) 8))) + (shv .shr .u64 (W64 ((bits .and .u64 (W64 ((shv .shr .u64 (W64 ((bits .and .u64 (shv .shr .u64 (W64 ((bits .and .u64 (shv .shr .u64 a0 1) 6148914691236517205) + (bits .and .u64 a0 6148914691236517205))) 2) 3689348814741910323) + (bits .and .u64 (W64 ((bits .and .u64 (shv .shr .u64 a0 1) 6148914691236517205) + (bits .and .u64 a0 6148914691236517205))) 3689348814741910323))) 4) + (W64 ((bits .and .u64 (shv .shr .u64 (W64 ((bits .and .u64 (shv .shr .u64 a0 1) 6148914691236517205) + (bits .and .u64 a0 6148914691236517205))) 2) 3689348814741910323) + (bits .and .u64 (W64 ((bits .and .u64 (shv .shr .u64 a0 1) 6148914691236517205) + (bits .and .u64 a0 6148914691236517205))) 3689348814741910323))))) 1085102592571150095) + (shv .shr .u64 (bits .and .u64 (W64 ((shv .shr .u64 (W64 ((bits .and .u64 (shv .shr .u64 (W64 ((bits .and .u64 (shv .shr .u64 a0 1) 6148914691236517205) + (bits .and .u64 a0 6148914691236517205))) 2) 3689348814741910323) + (bits .and .u64 (W64 ((bits .and .u64 (shv .shr .u64 a0 1) 6148914691236517205) + (bits .and .u64 a0 6148914691236517205))) 3689348814741910323))) 4) + (W64 ((bits .and .u64 (shv .shr .u64 (W64 ((bits .and .u64 (shv .shr .u64 a0 1) 6148914691236517205) + (bits .and .u64 a0 6148914691236517205))) 2) 3689348814741910323) + (bits .and .u64 (W64 ((bits .and .u64 (shv .shr .u64 a0 1) 6148914691236517205) + (bits .and .u64 a0 6148914691236517205))) 3689348814741910323))))) 1085102592571150095) 8))) 16))) + (shv .shr .u64 (W64 ((W64 ((bits .and .u64 (W64 ((shv .shr .u64 (W64 ((bits .and .u64 (shv .shr .u64 (W64 ((bits .and .u64 (shv .shr .u64 a0 1) 6148914691236517205) + (bits .and .u64 a0 6148914691236517205))) 2) 3689348814741910323) + (bits .and .u64 (W64 ((bits .and .u64 (shv .shr .u64 a0 1) 6148914691236517205) + (bits .and .u64 a0 6148914691236517205))) 3689348814741910323))) 4) + (W64 ((bits .and .u64 (shv .shr .u64 (W64 ((bits .and .u64 (shv .shr .u64 a0 1) 6148914691236517205) + (bits .and .u64 a0 6148914691236517205))) 2) 3689348814741910323) + (bits .and .u64 (W64 ((bits .and .u64 (shv .shr .u64 a0 1) 6148914691236517205) + (bits .and .u64 a0 6148914691236517205))) 3689348814741910323))))) 1085102592571150095) + (shv .shr .u64 (bits .and .u64 (W64 ((shv .shr .u64 (W64 ((bits .and .u64 (shv .shr .u64 (W64 ((bits .and .u64 (shv .shr .u64 a0 1) 6148914691236517205) + (bits .and .u64 a0 6148914691236517205))) 2) 3689348814741910323) + (bits .and .u64 (W64 ((bits .and .u64 (shv .shr .u64 a0 1) 6148914691236517205) + (bits .and .u64 a0 6148914691236517205))) 3689348814741910323))) 4) + (W64 ((bits .and .u64 (shv .shr .u64 (W64 ((bits .and .u64 (shv .shr .u64 a0 1) 6148914691236517205) + (bits .and .u64 a0 6148914691236517205))) 2) 3689348814741910323) + (bits .and .u64 (W64 ((bits .and .u64 (shv .shr .u64 a0 1) 6148914691236517205) + (bits .and .u64 a0 6148914691236517205))) 3689348814741910323))))) 1085102592571150095) 8))) + (shv .shr .u64 (W64 ((bits .and .u64 (W64 ((shv .shr .u64 (W64 ((bits .and .u64 (shv .shr .u64 (W64 ((bits .and .u64 (shv .shr .u64 a0 1) 6148914691236517205) + (bits .and .u64 a0 6148914691236517205))) 2) 3689348814741910323) + (bits .and .u64 (W64 ((bits .and .u64 (shv .shr .u64 a0 1) 6148914691236517205) + (bits .and .u64 a0 6148914691236517205))) 3689348814741910323))) 4) + (W64 ((bits .and .u64 (shv .shr .u64 (W64 ((bits .and .u64 (shv .shr .u64 a0 1) 6148914691236517205) + (bits .and .u64 a0 6148914691236517205))) 2) 3689348814741910323) + (bits .and .u64 (W64 ((bits .and .u64 (shv .shr .u64 a0 1) 6148914691236517205) + (bits .and .u64 a0 6148914691236517205))) 3689348814741910323))))) 1085102592571150095) + (shv .shr .u64 (bits .and .u64 (W64 ((shv .shr .u64 (W64 ((bits .and .u64 (shv .shr .u64 (W64 ((bits .and .u64 (shv .shr .u64 a0 1) 6148914691236517205) + (bits .and .u64 a0 6148914691236517205))) 2) 3689348814741910323) + (bits .and .u64 (W64 ((bits .and .u64 (shv .shr .u64 a0 1) 6148914691236517205) + (bits .and .u64 a0 6148914691236517205))) 3689348814741910323))) 4) + (W64 ((bits .and .u64 (shv .shr .u64 (W64 ((bits .and .u64 (shv .shr .u64 a0 1) 6148914691236517205) + (bits .and .u64 a0 6148914691236517205))) 2) 3689348814741910323) + (bits .and .u64 (W64 ((bits .and .u64 (shv .shr .u64 a0 1) 6148914691236517205) + (bits .and .u64 a0 6148914691236517205))) 3689348814741910323))))) 1085102592571150095) 8))) 16))) 32)))] (by kernel_rfl) (by kernel_rfl) ?_
  refine r_fin 5 (by kernel_rfl) ?_
  refine q_then ?_
  refine w_seq (p := [1, 1, 1, 1, 1, 1, 1]) (p0 := [1, 1, 1, 1, 1, 1, 1, 0]) (p1 := [1, 1, 1, 1, 1, 1, 1, 1]) (by kernel_rfl) ?_
  refine w_region (p := [1, 1, 1, 1, 1, 1, 1, 0]) (id := 7) (by kernel_rfl) ?_
  refine r_vals 0 4 [.int .u64 (W64 ((W64 ((W64 ((bits .and .u64 (W64 ((shv .shr .u64 (W64 ((bits .and .u64 (shv .shr .u64 (W64 ((bits .and .u64 (shv .shr .u64 a0 1) 6148914691236517205) + (bits .and .u64 a0 6148914691236517205))) 2) 3689348814741910323) + (bits .and .u64 (W64 ((bits .and .u64 (shv .shr .u64 a0 1) 6148914691236517205) + (bits .and .u64 a0 6148914691236517205))) 3689348814741910323))) 4) + (W64 ((bits .and .u64 (shv .shr .u64 (W64 ((bits .and .u64 (shv .shr .u64 a0 1) 6148914691236517205) + (bits .and .u64 a0 6148914691236517205))) 2) 3689348814741910323) + (bits .and .u64 (W64 ((bits .and .u64 (shv .shr .u64 a0 1) 6148914691236517205) + (bits .and .u64 a0 6148914691236517205))) 3689348814741910323))))) 1085102592571150095) + (shv .shr .u64 (bits .and .u64 (W64 ((shv .shr .u64 (W64 ((bits .and .u64 (shv .shr .u64 (W64 ((bits .and .u64 (shv .shr .u64 a0 1) 6148914691236517205) + (bits .and .u64 a0 6148914691236517205))) 2) 3689348814741910323) + (bits .and .u64 (W64 ((bits .and .u64 (shv .shr .u64 a0 1) 6148914691236517205) + (bits .and .u64 a0 6148914691236517205))) 3689348814741910323))) 4) + (W64 ((bits .and .u64 (shv .shr .u64 (W64 ((bits .and .u64 (shv .shr .u64 a0 1) 6148914691236517205) + (bits .and .u64 a0 6148914691236517205))) 2) 3689348814741910323) + (bits .and .u64 (W64 ((bits .and .u64 (shv .shr .u64 a0 1) 6148914691236517205) + (bits .and .u64 a0 6148914691236517205))) 3689348814741910323))))) 1085102592571150095) 8))) + (shv .shr .u64 (W64 ((bits .and .u64 (W64 ((shv .shr .u64 (W64 ((bits .and .u64 (shv .shr .u64 (W64 ((bits .and .u64 (shv .shr .u64 a0 1) 6148914691236517205) + (bits .and .u64 a0 6148914691236517205))) 2) 3689348814741910323) + (bits .and .u64 (W64 ((bits .and .u64 (shv .shr .u64 a0 1) 6148914691236517205) + (bits .and .u64 a0 6148914691236517205))) 3689348814741910323))) 4) + (W64 ((bits .and .u64 (shv .shr .u64 (W64 ((bits .and .u64 (shv .shr .u64 a0 1) 6148914691236517205) + (bits .and .u64 a0 6148914691236517205))) 2) 3689348814741910323) + (bits .and .u64 (W64 ((bits .and .u64 (shv .shr .u64 a0 1) 6148914691236517205) + (bits .and .u64 a0 6148914691236517205))) 3689348814741910323))))) 1085102592571150095) + (shv .shr .u64 (bits .and .u64 (W64 ((shv .shr .u64 (W64 ((bits .and .u64 (shv .shr .u64 (W64 ((bits .and .u64 (shv .shr .u64 a0 1) 6148914691236517205) + (bits .and .u64 a0 6148914691236517205))) 2) 3689348814741910323) + (bits .and .u64 (W64 ((bits .and .u64 (shv .shr .u64 a0 1) 6148914691236517205) + (bits .and .u64 a0 6148914691236517205))) 3689348814741910323))) 4) + (W64 ((bits .and .u64 (shv .shr .u64 (W64 ((bits .and .u64 (shv .shr .u64 a0 1) 6148914691236517205) + (bits .and .u64 a0 6148914691236517205))) 2) 3689348814741910323) + (bits .and .u64 (W64 ((bits .and .u64 (shv .shr .u64 a0 1) 6148914691236517205) + (bits .and .u64 a0 6148914691236517205))) 3689348814741910323))))) 1085102592571150095) 8))) 16))) + (shv .shr .u64 (W64 ((W64 ((bits .and .u64 (W64 ((shv .shr .u64 (W64 ((bits .and .u64 (shv .shr .u64 (W64 ((bits .and .u64 (shv .shr .u64 a0 1) 6148914691236517205) + (bits .and .u64 a0 6148914691236517205))) 2) 3689348814741910323) + (bits .and .u64 (W64 ((bits .and .u64 (shv .shr .u64 a0 1) 6148914691236517205) + (bits .and .u64 a0 6148914691236517205))) 3689348814741910323))) 4) + (W64 ((bits .and .u64 (shv .shr .u64 (W64 ((bits .and .u64 (shv .shr .u64 a0 1) 6148914691236517205) + (bits .and .u64 a0 6148914691236517205))) 2) 3689348814741910323) + (bits .and .u64 (W64 ((bits .and .u64 (shv .shr .u64 a0 1) 6148914691236517205) + (bits .and .u64 a0 6148914691236517205))) 3689348814741910323))))) 1085102592571150095) + (shv .shr .u64 (bits .and .u64 (W64 ((shv .shr .u64 (W64 ((bits .and .u64 (shv .shr .u64 (W64 ((bits .and .u64 (shv .shr .u64 a0 1) 6148914691236517205) + (bits .and .u64 a0 6148914691236517205))) 2) 3689348814741910323) + (bits .and .u64 (W64 ((bits .and .u64 (shv .shr .u64 a0 1) 6148914691236517205) + (bits .and .u64 a0 6148914691236517205))) 3689348814741910323))) 4) + (W64 ((bits .and .u64 (shv .shr .u64 (W64 ((bits .and .u64 (shv .shr .u64 a0 1) 6148914691236517205) + (bits .and .u64 a0 6148914691236517205))) 2) 3689348814741910323) + (bits .and .u64 (W64 ((bits .and .u64 (shv .shr .u64 a0 1) 6148914691236517205) + (bits .and .u64 a0 6148914691236517205))) 3689348814741910323))))) 1085102592571150095) 8))) + (shv .shr .u64 (W64 ((bits .and .u64 (W64 ((shv .shr .u64 (W64 ((bits .and .u64 (shv .shr .u64 (W64 ((bits .and .u64 (shv .shr .u64 a0 1) 6148914691236517205) + (bits .and .u64 a0 6148914691236517205))) 2) 3689348814741910323) + (bits .and .u64 (W64 ((bits .and .u64 (shv .shr .u64 a0 1) 6148914691236517205) + (bits .and .u64 a0 6148914691236517205))) 3689348814741910323))) 4) + (W64 ((bits .and .u64 (shv .shr .u64 (W64 ((bits .and .u64 (shv .shr .u64 a0 1) 6148914691236517205) + (bits .and .u64 a0 6148914691236517205))) 2) 3689348814741910323) + (bits .and .u64 (W64 ((bits .and .u64 (shv .shr .u64 a0 1) 6148914691236517205) + (bits .and .u64 a0 6148914691236517205))) 3689348814741910323))))) 1085102592571150095) + (shv .shr .u64 (bits .and .u64 (W64 ((shv .shr .u64 (W64 ((bits .and .u64 (shv .shr .u64 (W64 ((bits .and .u64 (shv .shr .u64 a0 1) 6148914691236517205) + (bits .and .u64 a0 6148914691236517205))) 2) 3689348814741910323) + (bits .and .u64 (W64 ((bits .and .u64 (shv .shr .u64 a0 1) 6148914691236517205) + (bits .and .u64 a0 6148914691236517205))) 3689348814741910323))) 4) + (W64 ((bits .and .u64 (shv .shr .u64 (W64 ((bits .and .u64 (shv .shr .u64 a0 1) 6148914691236517205) + (bits .and .u64 a0 6148914691236517205))) 2) 3689348814741910323) + (bits .and .u64 (W64 ((bits .and .u64 (shv .shr .u64 a0 1) 6148914691236517205) + (bits .and .u64 a0 6148914691236517205))) 3689348814741910323))))) 1085102592571150095) 8))) 16))) 32))), .int .i64 (W (W64 ((W64 ((W64 ((bits .and .u64 (W64 ((shv .shr .u64 (W64 ((bits .and .u64 (shv .shr .u64 (W64 ((bits .and .u64 (shv .shr .u64 a0 1) 6148914691236517205) + (bits .and .u64 a0 6148914691236517205))) 2) 3689348814741910323) + (bits .and .u64 (W64 ((bits .and .u64 (shv .shr .u64 a0 1) 6148914691236517205) + (bits .and .u64 a0 6148914691236517205))) 3689348814741910323))) 4) + (W64 ((bits .and .u64 (shv .shr .u64 (W64 ((bits .and .u64 (shv .shr .u64 a0 1) 6148914691236517205) + (bits .and .u64 a0 6148914691236517205))) 2) 3689348814741910323) + (bits .and .u64 (W64 ((bits .and .u64 (shv .shr .u64 a0 1) 6148914691236517205) + (bits .and .u64 a0 6148914691236517205))) 3689348814741910323))))) 1085102592571150095) + (shv .shr .u64 (bits .and .u64 (W64 ((shv .shr .u64 (W64 ((bits .and .u64 (shv .shr .u64 (W64 ((bits .and .u64 (shv .shr .u64 a0 1) 6148914691236517205) + (bits .and .u64 a0 6148914691236517205))) 2) 3689348814741910323) + (bits .and .u64 (W64 ((bits .and .u64 (shv .shr .u64 a0 1) 6148914691236517205) + (bits .and .u64 a0 6148914691236517205))) 3689348814741910323))) 4) + (W64 ((bits .and .u64 (shv .shr .u64 (W64 ((bits .and .u64 (shv .shr .u64 a0 1) 6148914691236517205) + (bits .and .u64 a0 6148914691236517205))) 2) 3689348814741910323) + (bits .and .u64 (W64 ((bits .and .u64 (shv .shr .u64 a0 1) 6148914691236517205) + (bits .and .u64 a0 6148914691236517205))) 3689348814741910323))))) 1085102592571150095) 8))) + (shv .shr .u64 (W64 ((bits .and .u64 (W64 ((shv .shr .u64 (W64 ((bits .and .u64 (shv .shr .u64 (W64 ((bits .and .u64 (shv .shr .u64 a0 1) 6148914691236517205) + (bits .and .u64 a0 6148914691236517205))) 2) 3689348814741910323) + (bits .and .u64 (W64 ((bits .and .u64 (shv .shr .u64 a0 1) 6148914691236517205) + (bits .and .u64 a0 6148914691236517205))) 3689348814741910323))) 4) + (W64 ((bits .and .u64 (shv .shr .u64 (W64 ((bits .and .u64 (shv .shr .u64 a0 1) 6148914691236517205) + (bits .and .u64 a0 6148914691236517205))) 2) 3689348814741910323) + (bits .and .u64 (W64 ((bits .and .u64 (shv .shr .u64 a0 1) 6148914691236517205) + (bits .and .u64 a0 6148914691236517205))) 3689348814741910323))))) 1085102592571150095) + (shv .shr .u64 (bits .and .u64 (W64 ((shv .shr .u64 (W64 ((bits .and .u64 (shv .shr .u64 (W64 ((bits .and .u64 (shv .shr .u64 a0 1) 6148914691236517205) + (bits .and .u64 a0 6148914691236517205))) 2) 3689348814741910323) + (bits .and .u64 (W64 ((bits .and .u64 (shv .shr .u64 a0 1) 6148914691236517205) + (bits .and .u64 a0 6148914691236517205))) 3689348814741910323))) 4) + (W64 ((bits .and .u64 (shv .shr .u64 (W64 ((bits .and .u64 (shv .shr .u64 a0 1) 6148914691236517205) + (bits .and .u64 a0 6148914691236517205))) 2) 3689348814741910323) + (bits .and .u64 (W64 ((bits .and .u64 (shv .shr .u64 a0 1) 6148914691236517205) + (bits .and .u64 a0 6148914691236517205))) 3689348814741910323))))) 1085102592571150095) 8))) 16))) + (shv .shr .u64 (W64 ((W64 ((bits .and .u64 (W64 ((shv .shr .u64 (W64 ((bits .and .u64 (shv .shr .u64 (W64 ((bits .and .u64 (shv .shr .u64 a0 1) 6148914691236517205) + (bits .and .u64 a0 6148914691236517205))) 2) 3689348814741910323) + (bits .and .u64 (W64 ((bits .and .u64 (shv .shr .u64 a0 1) 6148914691236517205) + (bits .and .u64 a0 6148914691236517205))) 3689348814741910323))) 4) + (W64 ((bits .and .u64 (shv .shr .u64 (W64 ((bits .and .u64 (shv .shr .u64 a0 1) 6148914691236517205) + (bits .and .u64 a0 6148914691236517205))) 2) 3689348814741910323) + (bits .and .u64 (W64 ((bits .and .u64 (shv .shr .u64 a0 1) 6148914691236517205) + (bits .and .u64 a0 6148914691236517205))) 3689348814741910323))))) 1085102592571150095) + (shv .shr .u64 (bits .and .u64 (W64 ((shv .shr .u64 (W64 ((bits .and .u64 (shv .shr .u64 (W64 ((bits .and .u64 (shv .shr .u64 a0 1) 6148914691236517205) + (bits .and .u64 a0 6148914691236517205))) 2) 3689348814741910323) + (bits .and .u64 (W64 ((bits .and .u64 (shv .shr .u64 a0 1) 6148914691236517205) + (bits .and .u64 a0 6148914691236517205))) 3689348814741910323))) 4) + (W64 ((bits .and .u64 (shv .shr .u64 (W64 ((bits .and .u64 (shv .shr .u64 a0 1) 6148914691236517205) + (bits .and .u64 a0 6148914691236517205))) 2) 3689348814741910323) + (bits .and .u64 (W64 ((bits .and .u64 (shv .shr .u64 a0 1) 6148914691236517205) + (bits .and .u64 a0 6148914691236517205))) 3689348814741910323))))) 1085102592571150095) 8))) + (shv .shr .u64 (W64 ((bits .and .u64 (W64 ((shv .shr .u64 (W64 ((bits .and .u64 (shv .shr .u64 (W64 ((bits .and .u64 (shv .shr .u64 a0 1) 6148914691236517205) + (bits .and .u64 a0 6148914691236517205))) 2) 3689348814741910323) + (bits .and .u64 (W64 ((bits .and .u64 (shv .shr .u64 a0 1) 6148914691236517205) + (bits .and .u64 a0 6148914691236517205))) 3689348814741910323))) 4) + (W64 ((bits .and .u64 (shv .shr .u64 (W64 ((bits .and .u64 (shv .shr .u64 a0 1) 6148914691236517205) + (bits .and .u64 a0 6148914691236517205))) 2) 3689348814741910323) + (bits .and .u64 (W64 ((bits .and .u64 (shv .shr .u64 a0 1) 6148914691236517205) + (bits .and .u64 a0 6148914691236517205))) 3689348814741910323))))) 1085102592571150095) + (shv .shr .u64 (bits .and .u64 (W64 ((shv .shr .u64 (W64 ((bits .and .u64 (shv .shr .u64 (W64 ((bits .and .u64 (shv .shr .u64 a0 1) 6148914691236517205) + (bits .and .u64 a0 6148914691236517205))) 2) 3689348814741910323) + (bits .and .u64 (W64 ((bits .and .u64 (shv .shr .u64 a0 1) 6148914691236517205) + (bits .and .u64 a0 6148914691236517205))) 3689348814741910323))) 4) + (W64 ((bits .and .u64 (shv .shr .u64 (W64 ((bits .and .u64 (shv .shr .u64 a0 1) 6148914691236517205) + (bits .and .u64 a0 6148914691236517205))) 2) 3689348814741910323) + (bits .and .u64 (W64 ((bits .and .u64 (shv .shr .u64 a0 1) 6148914691236517205) + (bits .and .u64 a0 6148914691236517205))) 3689348814741910323))))) 1085102592571150095) 8))) 16))) 32)))), .int .i64 (bits .and .i64 (W (W64 ((W64 ((W64 ((bits .and .u64 (W64 ((shv .shr .u64 (W64 ((bits .and .u64 (shv .shr .u64 (W64 ((bits .and .u64 (shv .shr .u64 a0 1) 6148914691236517205) + (bits .and .u64 a0 6148914691236517205))) 2) 3689348814741910323) + (bits .and .u64 (W64 ((bits .and .u64 (shv .shr .u64 a0 1) 6148914691236517205) + (bits .and .u64 a0 6148914691236517205))) 3689348814741910323))) 4) + (W64 ((bits .and .u64 (shv .shr .u64 (W64 ((bits .and .u64 (shv .shr .u64 a0 1) 6148914691236517205) + (bits .and .u64 a0 6148914691236517205))) 2) 3689348814741910323) + (bits .and .u64 (W64 ((bits .and .u64 (shv .shr .u64 a0 1) 6148914691236517205) + (bits .and .u64 a0 6148914691236517205))) 3689348814741910323))))) 1085102592571150095) + (shv .shr .u64 (bits .and .u64 (W64 ((shv .shr .u64 (W64 ((bits .and .u64 (shv .shr .u64 (W64 ((bits .and .u64 (shv .shr .u64 a0 1) 6148914691236517205) + (bits .and .u64 a0 6148914691236517205))) 2) 3689348814741910323) + (bits .and .u64 (W64 ((bits .and .u64 (shv .shr .u64 a0 1) 6148914691236517205) + (bits .and .u64 a0 6148914691236517205))) 3689348814741910323))) 4) + (W64 ((bits .and .u64 (shv .shr .u64 (W64 ((bits .and .u64 (shv .shr .u64 a0 1) 6148914691236517205) + (bits .and .u64 a0 6148914691236517205))) 2) 3689348814741910323) + (bits .and .u64 (W64 ((bits .and .u64 (shv .shr .u64 a0 1) 6148914691236517205) + (bits .and .u64 a0 6148914691236517205))) 3689348814741910323))))) 1085102592571150095) 8))) + (shv .shr .u64 (W64 ((bits .and .u64 (W64 ((shv .shr .u64 (W64 ((bits .and .u64 (shv .shr .u64 (W64 ((bits .and .u64 (shv .shr .u64 a0 1) 6148914691236517205) + (bits .and .u64 a0 6148914691236517205))) 2) 3689348814741910323) + (bits .and .u64 (W64 ((bits .and .u64 (shv .shr .u64 a0 1) 6148914691236517205) + (bits .and .u64 a0 6148914691236517205))) 3689348814741910323))) 4) + (W64 ((bits .and .u64 (shv .shr .u64 (W64 ((bits .and .u64 (shv .shr .u64 a0 1) 6148914691236517205) + (bits .and .u64 a0 6148914691236517205))) 2) 3689348814741910323) + (bits .and .u64 (W64 ((bits .and .u64 (shv .shr .u64 a0 1) 6148914691236517205) + (bits .and .u64 a0 6148914691236517205))) 3689348814741910323))))) 1085102592571150095) + (shv .shr .u64 (bits .and .u64 (W64 ((shv .shr .u64 (W64 ((bits .and .u64 (shv .shr .u64 (W64 ((bits .and .u64 (shv .shr .u64 a0 1) 6148914691236517205) + (bits .and .u64 a0 6148914691236517205))) 2) 3689348814741910323) + (bits .and .u64 (W64 ((bits .and .u64 (shv .shr .u64 a0 1) 6148914691236517205) + (bits .and .u64 a0 6148914691236517205))) 3689348814741910323))) 4) + (W64 ((bits .and .u64 (shv .shr .u64 (W64 ((bits .and .u64 (shv .shr .u64 a0 1) 6148914691236517205) + (bits .and .u64 a0 6148914691236517205))) 2) 3689348814741910323) + (bits .and .u64 (W64 ((bits .and .u64 (shv .shr .u64 a0 1) 6148914691236517205) + (bits .and .u64 a0 6148914691236517205))) 3689348814741910323))))) 1085102592571150095) 8))) 16))) + (shv .shr .u64 (W64 ((W64 ((bits .and .u64 (W64 ((shv .shr .u64 (W64 ((bits .and .u64 (shv .shr .u64 (W64 ((bits .and .u64 (shv .shr .u64 a0 1) 6148914691236517205) + (bits .and .u64 a0 6148914691236517205))) 2) 3689348814741910323) + (bits .and .u64 (W64 ((bits .and .u64 (shv .shr .u64 a0 1) 6148914691236517205) + (bits .and .u64 a0 6148914691236517205))) 3689348814741910323))) 4) + (W64 ((bits .and .u64 (shv .shr .u64 (W64 ((bits .and .u64 (shv .shr .u64 a0 1) 6148914691236517205) + (bits .and .u64 a0 6148914691236517205))) 2) 3689348814741910323) + (bits .and .u64 (W64 ((bits .and .u64 (shv .shr .u64 a0 1) 6148914691236517205) + (bits .and .u64 a0 6148914691236517205))) 3689348814741910323))))) 1085102592571150095) + (shv .shr .u64 (bits .and .u64 (W64 ((shv .shr .u64 (W64 ((bits .and .u64 (shv .shr .u64 (W64 ((bits .and .u64 (shv .shr .u64 a0 1) 6148914691236517205) + (bits .and .u64 a0 6148914691236517205))) 2) 3689348814741910323) + (bits .and .u64 (W64 ((bits .and .u64 (shv .shr .u64 a0 1) 6148914691236517205) + (bits .and .u64 a0 6148914691236517205))) 3689348814741910323))) 4) + (W64 ((bits .and .u64 (shv .shr .u64 (W64 ((bits .and .u64 (shv .shr .u64 a0 1) 6148914691236517205) + (bits .and .u64 a0 6148914691236517205))) 2) 3689348814741910323) + (bits .and .u64 (W64 ((bits .and .u64 (shv .shr .u64 a0 1) 6148914691236517205) + (bits .and .u64 a0 6148914691236517205))) 3689348814741910323))))) 1085102592571150095) 8))) + (shv .shr .u64 (W64 ((bits .and .u64 (W64 ((shv .shr .u64 (W64 ((bits .and .u64 (shv .shr .u64 (W64 ((bits .and .u64 (shv .shr .u64 a0 1) 6148914691236517205) + (bits .and .u64 a0 6148914691236517205))) 2) 3689348814741910323) + (bits .and .u64 (W64 ((bits .and .u64 (shv .shr .u64 a0 1) 6148914691236517205) + (bits .and .u64 a0 6148914691236517205))) 3689348814741910323))) 4) + (W64 ((bits .and .u64 (shv .shr .u64 (W64 ((bits .and .u64 (shv .shr .u64 a0 1) 6148914691236517205) + (bits .and .u64 a0 6148914691236517205))) 2) 3689348814741910323) + (bits .and .u64 (W64 ((bits .and .u64 (shv .shr .u64 a0 1) 6148914691236517205) + (bits .and .u64 a0 6148914691236517205))) 3689348814741910323))))) 1085102592571150095) + (shv .shr .u64 (bits .and .u64 (W64 ((shv .shr .u64 (W64 ((bits .and .u64 (shv .shr .u64 (W64 ((bits .and .u64 (shv .shr .u64 a0 1) 6148914691236517205) + (bits .and .u64 a0 6148914691236517205))) 2) 3689348814741910323) + (bits .and .u64 (W64 ((bits .and .u64 (shv .shr .u64 a0 1) 6148914691236517205) + (bits .and .u64 a0 6148914691236517205))) 3689348814741910323))) 4) + (W64 ((bits .and .u64 (shv .shr .u64 (W64 ((bits .and .u64 (shv .shr .u64 a0 1) 6148914691236517205) + (bits .and .u64 a0 6148914691236517205))) 2) 3689348814741910323) + (bits .and .u64 (W64 ((bits .and .u64 (shv .shr .u64 a0 1) 6148914691236517205) + (bits .and .u64 a0 6148914691236517205))) 3689348814741910323))))) 1085102592571150095) 8))) 16))) 32)))) 127), .int .i64 (bits .and .i64 (W (W64 ((W64 ((W64 ((bits .and .u64 (W64 ((shv .shr .u64 (W64 ((bits .and .u64 (shv .shr .u64 (W64 ((bits .and .u64 (shv .shr .u64 a0 1) 6148914691236517205) + (bits .and .u64 a0 6148914691236517205))) 2) 3689348814741910323) + (bits .and .u64 (W64 ((bits .and .u64 (shv .shr .u64 a0 1) 6148914691236517205) + (bits .and .u64 a0 6148914691236517205))) 3689348814741910323))) 4) + (W64 ((bits .and .u64 (shv .shr .u64 (W64 ((bits .and .u64 (shv .shr .u64 a0 1) 6148914691236517205) + (bits .and .u64 a0 6148914691236517205))) 2) 3689348814741910323) + (bits .and .u64 (W64 ((bits .and .u64 (shv .shr .u64 a0 1) 6148914691236517205) + (bits .and .u64 a0 6148914691236517205))) 3689348814741910323))))) 1085102592571150095) + (shv .shr .u64 (bits .and .u64 (W64 ((shv .shr .u64 (W64 ((bits .and .u64 (shv .shr .u64 (W64 ((bits .and .u64 (shv .shr .u64 a0 1) 6148914691236517205) + (bits .and .u64 a0 6148914691236517205))) 2) 3689348814741910323) + (bits .and .u64 (W64 ((bits .and .u64 (shv .shr .u64 a0 1) 6148914691236517205) + (bits .and .u64 a0 6148914691236517205))) 3689348814741910323))) 4) + (W64 ((bits .and .u64 (shv .shr .u64 (W64 ((bits .and .u64 (shv .shr .u64 a0 1) 6148914691236517205) + (bits .and .u64 a0 6148914691236517205))) 2) 3689348814741910323) + (bits .and .u64 (W64 ((bits .and .u64 (shv .shr .u64 a0 1) 6148914691236517205) + (bits .and .u64 a0 6148914691236517205))) 3689348814741910323))))) 1085102592571150095) 8))) + (shv .shr .u64 (W64 ((bits .and .u64 (W64 ((shv .shr .u64 (W64 ((bits .and .u64 (shv .shr .u64 (W64 ((bits .and .u64 (shv .shr .u64 a0 1) 6148914691236517205) + (bits .and .u64 a0 6148914691236517205))) 2) 3689348814741910323) + (bits .and .u64 (W64 ((bits .and .u64 (shv .shr .u64 a0 1) 6148914691236517205) + (bits .and .u64 a0 6148914691236517205))) 3689348814741910323))) 4) + (W64 ((bits .and .u64 (shv .shr .u64 (W64 ((bits .and .u64 (shv .shr .u64 a0 1) 6148914691236517205) + (bits .and .u64 a0 6148914691236517205))) 2) 3689348814741910323) + (bits .and .u64 (W64 ((bits .and .u64 (shv .shr .u64 a0 1) 6148914691236517205) + (bits .and .u64 a0 6148914691236517205))) 3689348814741910323))))) 1085102592571150095) + (shv .shr .u64 (bits .and .u64 (W64 ((shv .shr .u64 (W64 ((bits .and .u64 (shv .shr .u64 (W64 ((bits .and .u64 (shv .shr .u64 a0 1) 6148914691236517205) + (bits .and .u64 a0 6148914691236517205))) 2) 3689348814741910323) + (bits .and .u64 (W64 ((bits .and .u64 (shv .shr .u64 a0 1) 6148914691236517205) + (bits .and .u64 a0 6148914691236517205))) 3689348814741910323))) 4) + (W64 ((bits .and .u64 (shv .shr .u64 (W64 ((bits .and .u64 (shv .shr .u64 a0 1) 6148914691236517205) + (bits .and .u64 a0 6148914691236517205))) 2) 3689348814741910323) + (bits .and .u64 (W64 ((bits .and .u64 (shv .shr .u64 a0 1) 6148914691236517205) + (bits .and .u64 a0 6148914691236517205))) 3689348814741910323))))) 1085102592571150095) 8))) 16))) + (shv .shr .u64 (W64 ((W64 ((bits .and .u64 (W64 ((shv .shr .u64 (W64 ((bits .and .u64 (shv .shr .u64 (W64 ((bits .and .u64 (shv .shr .u64 a0 1) 6148914691236517205) + (bits .and .u64 a0 6148914691236517205))) 2) 3689348814741910323) + (bits .and .u64 (W64 ((bits .and .u64 (shv .shr .u64 a0 1) 6148914691236517205) + (bits .and .u64 a0 6148914691236517205))) 3689348814741910323))) 4) + (W64 ((bits .and .u64 (shv .shr .u64 (W64 ((bits .and .u64 (shv .shr .u64 a0 1) 6148914691236517205) + (bits .and .u64 a0 6148914691236517205))) 2) 3689348814741910323) + (bits .and .u64 (W64 ((bits .and .u64 (shv .shr .u64 a0 1) 6148914691236517205) + (bits .and .u64 a0 6148914691236517205))) 3689348814741910323))))) 1085102592571150095) + (shv .shr .u64 (bits .and .u64 (W64 ((shv .shr .u64 (W64 ((bits .and .u64 (shv .shr .u64 (W64 ((bits .and .u64 (shv .shr .u64 a0 1) 6148914691236517205) + (bits .and .u64 a0 6148914691236517205))) 2) 3689348814741910323) + (bits .and .u64 (W64 ((bits .and .u64 (shv .shr .u64 a0 1) 6148914691236517205) + (bits .and .u64 a0 6148914691236517205))) 3689348814741910323))) 4) + (W64 ((bits .and .u64 (shv .shr .u64 (W64 ((bits .and .u64 (shv .shr .u64 a0 1) 6148914691236517205) + (bits .and .u64 a0 6148914691236517205))) 2) 3689348814741910323) + (bits .and .u64 (W64 ((bits .and .u64 (shv .shr .u64 a0 1) 6148914691236517205) + (bits .and .u64 a0 6148914691236517205))) 3689348814741910323))))) 1085102592571150095) 8))) + (shv .shr .u64 (W64 ((bits .and .u64 (W64 ((shv .shr .u64 (W64 ((bits .and .u64 (shv .shr .u64 (W64 ((bits .and .u64 (shv .shr .u64 a0 1) 6148914691236517205) + (bits .and .u64 a0 6148914691236517205))) 2) 3689348814741910323) + (bits .and .u64 (W64 ((bits .and .u64 (shv .shr .u64 a0 1) 6148914691236517205) + (bits .and .u64 a0 6148914691236517205))) 3689348814741910323))) 4) + (W64 ((bits .and .u64 (shv .shr .u64 (W64 ((bits .and .u64 (shv .shr .u64 a0 1) 6148914691236517205) + (bits .and .u64 a0 6148914691236517205))) 2) 3689348814741910323) + (bits .and .u64 (W64 ((bits .and .u64 (shv .shr .u64 a0 1) 6148914691236517205) + (bits .and .u64 a0 6148914691236517205))) 3689348814741910323))))) 1085102592571150095) + (shv .shr .u64 (bits .and .u64 (W64 ((shv .shr .u64 (W64 ((bits .and .u64 (shv .shr .u64 (W64 ((bits .and .u64 (shv .shr .u64 a0 1) 6148914691236517205) + (bits .and .u64 a0 6148914691236517205))) 2) 3689348814741910323) + (bits .and .u64 (W64 ((bits .and .u64 (shv .shr .u64 a0 1) 6148914691236517205) + (bits .and .u64 a0 6148914691236517205))) 3689348814741910323))) 4) + (W64 ((bits .and .u64 (shv .shr .u64 (W64 ((bits .and .u64 (shv .shr .u64 a0 1) 6148914691236517205) + (bits .and .u64 a0 6148914691236517205))) 2) 3689348814741910323) + (bits .and .u64 (W64 ((bits .and .u64 (shv .shr .u64 a0 1) 6148914691236517205) + (bits .and .u64 a0 6148914691236517205))) 3689348814741910323))))) 1085102592571150095) 8))) 16))) 32)))) 127)] (by kernel_rfl) (by kernel_rfl) ?_
  refine r_fin 4 (by kernel_rfl) ?_
  refine q_then ?_
  refine w_ret (p := [1, 1, 1, 1, 1, 1, 1, 1]) (by kernel_rfl) ?_
  obtain rfl := Option.some.inj H
  refine HR _ _ (body_ret (vs := [.int .i64 (bits .and .i64 (W (W64 ((W64 ((W64 ((bits .and .u64 (W64 ((shv .shr .u64 (W64 ((bits .and .u64 (shv .shr .u64 (W64 ((bits .and .u64 (shv .shr .u64 a0 1) 6148914691236517205) + (bits .and .u64 a0 6148914691236517205))) 2) 3689348814741910323) + (bits .and .u64 (W64 ((bits .and .u64 (shv .shr .u64 a0 1) 6148914691236517205) + (bits .and .u64 a0 6148914691236517205))) 3689348814741910323))) 4) + (W64 ((bits .and .u64 (shv .shr .u64 (W64 ((bits .and .u64 (shv .shr .u64 a0 1) 6148914691236517205) + (bits .and .u64 a0 6148914691236517205))) 2) 3689348814741910323) + (bits .and .u64 (W64 ((bits .and .u64 (shv .shr .u64 a0 1) 6148914691236517205) + (bits .and .u64 a0 6148914691236517205))) 3689348814741910323))))) 1085102592571150095) + (shv .shr .u64 (bits .and .u64 (W64 ((shv .shr .u64 (W64 ((bits .and .u64 (shv .shr .u64 (W64 ((bits .and .u64 (shv .shr .u64 a0 1) 6148914691236517205) + (bits .and .u64 a0 6148914691236517205))) 2) 3689348814741910323) + (bits .and .u64 (W64 ((bits .and .u64 (shv .shr .u64 a0 1) 6148914691236517205) + (bits .and .u64 a0 6148914691236517205))) 3689348814741910323))) 4) + (W64 ((bits .and .u64 (shv .shr .u64 (W64 ((bits .and .u64 (shv .shr .u64 a0 1) 6148914691236517205) + (bits .and .u64 a0 6148914691236517205))) 2) 3689348814741910323) + (bits .and .u64 (W64 ((bits .and .u64 (shv .shr .u64 a0 1) 6148914691236517205) + (bits .and .u64 a0 6148914691236517205))) 3689348814741910323))))) 1085102592571150095) 8))) + (shv .shr .u64 (W64 ((bits .and .u64 (W64 ((shv .shr .u64 (W64 ((bits .and .u64 (shv .shr .u64 (W64 ((bits .and .u64 (shv .shr .u64 a0 1) 6148914691236517205) + (bits .and .u64 a0 6148914691236517205))) 2) 3689348814741910323) + (bits .and .u64 (W64 ((bits .and .u64 (shv .shr .u64 a0 1) 6148914691236517205) + (bits .and .u64 a0 6148914691236517205))) 3689348814741910323))) 4) + (W64 ((bits .and .u64 (shv .shr .u64 (W64 ((bits .and .u64 (shv .shr .u64 a0 1) 6148914691236517205) + (bits .and .u64 a0 6148914691236517205))) 2) 3689348814741910323) + (bits .and .u64 (W64 ((bits .and .u64 (shv .shr .u64 a0 1) 6148914691236517205) + (bits .and .u64 a0 6148914691236517205))) 3689348814741910323))))) 1085102592571150095) + (shv .shr .u64 (bits .and .u64 (W64 ((shv .shr .u64 (W64 ((bits .and .u64 (shv .shr .u64 (W64 ((bits .and .u64 (shv .shr .u64 a0 1) 6148914691236517205) + (bits .and .u64 a0 6148914691236517205))) 2) 3689348814741910323) + (bits .and .u64 (W64 ((bits .and .u64 (shv .shr .u64 a0 1) 6148914691236517205) + (bits .and .u64 a0 6148914691236517205))) 3689348814741910323))) 4) + (W64 ((bits .and .u64 (shv .shr .u64 (W64 ((bits .and .u64 (shv .shr .u64 a0 1) 6148914691236517205) + (bits .and .u64 a0 6148914691236517205))) 2) 3689348814741910323) + (bits .and .u64 (W64 ((bits .and .u64 (shv .shr .u64 a0 1) 6148914691236517205) + (bits .and .u64 a0 6148914691236517205))) 3689348814741910323))))) 1085102592571150095) 8))) 16))) + (shv .shr .u64 (W64 ((W64 ((bits .and .u64 (W64 ((shv .shr .u64 (W64 ((bits .and .u64 (shv .shr .u64 (W64 ((bits .and .u64 (shv .shr .u64 a0 1) 6148914691236517205) + (bits .and .u64 a0 6148914691236517205))) 2) 3689348814741910323) + (bits .and .u64 (W64 ((bits .and .u64 (shv .shr .u64 a0 1) 6148914691236517205) + (bits .and .u64 a0 6148914691236517205))) 3689348814741910323))) 4) + (W64 ((bits .and .u64 (shv .shr .u64 (W64 ((bits .and .u64 (shv .shr .u64 a0 1) 6148914691236517205) + (bits .and .u64 a0 6148914691236517205))) 2) 3689348814741910323) + (bits .and .u64 (W64 ((bits .and .u64 (shv .shr .u64 a0 1) 6148914691236517205) + (bits .and .u64 a0 6148914691236517205))) 3689348814741910323))))) 1085102592571150095) + (shv .shr .u64 (bits .and .u64 (W64 ((shv .shr .u64 (W64 ((bits .and .u64 (shv .shr .u64 (W64 ((bits .and .u64 (shv .shr .u64 a0 1) 6148914691236517205) + (bits .and .u64 a0 6148914691236517205))) 2) 3689348814741910323) + (bits .and .u64 (W64 ((bits .and .u64 (shv .shr .u64 a0 1) 6148914691236517205) + (bits .and .u64 a0 6148914691236517205))) 3689348814741910323))) 4) + (W64 ((bits .and .u64 (shv .shr .u64 (W64 ((bits .and .u64 (shv .shr .u64 a0 1) 6148914691236517205) + (bits .and .u64 a0 6148914691236517205))) 2) 3689348814741910323) + (bits .and .u64 (W64 ((bits .and .u64 (shv .shr .u64 a0 1) 6148914691236517205) + (bits .and .u64 a0 6148914691236517205))) 3689348814741910323))))) 1085102592571150095) 8))) + (shv .shr .u64 (W64 ((bits .and .u64 (W64 ((shv .shr .u64 (W64 ((bits .and .u64 (shv .shr .u64 (W64 ((bits .and .u64 (shv .shr .u64 a0 1) 6148914691236517205) + (bits .and .u64 a0 6148914691236517205))) 2) 3689348814741910323) + (bits .and .u64 (W64 ((bits .and .u64 (shv .shr .u64 a0 1) 6148914691236517205) + (bits .and .u64 a0 6148914691236517205))) 3689348814741910323))) 4) + (W64 ((bits .and .u64 (shv .shr .u64 (W64 ((bits .and .u64 (shv .shr .u64 a0 1) 6148914691236517205) + (bits .and .u64 a0 6148914691236517205))) 2) 3689348814741910323) + (bits .and .u64 (W64 ((bits .and .u64 (shv .shr .u64 a0 1) 6148914691236517205) + (bits .and .u64 a0 6148914691236517205))) 3689348814741910323))))) 1085102592571150095) + (shv .shr .u64 (bits .and .u64 (W64 ((shv .shr .u64 (W64 ((bits .and .u64 (shv .shr .u64 (W64 ((bits .and .u64 (shv .shr .u64 a0 1) 6148914691236517205) + (bits .and .u64 a0 6148914691236517205))) 2) 3689348814741910323) + (bits .and .u64 (W64 ((bits .and .u64 (shv .shr .u64 a0 1) 6148914691236517205) + (bits .and .u64 a0 6148914691236517205))) 3689348814741910323))) 4) + (W64 ((bits .and .u64 (shv .shr .u64 (W64 ((bits .and .u64 (shv .shr .u64 a0 1) 6148914691236517205) + (bits .and .u64 a0 6148914691236517205))) 2) 3689348814741910323) + (bits .and .u64 (W64 ((bits .and .u64 (shv .shr .u64 a0 1) 6148914691236517205) + (bits .and .u64 a0 6148914691236517205))) 3689348814741910323))))) 1085102592571150095) 8))) 16))) 32)))) 127)]) (rv_tmp (by kernel_rfl) rfl) rfl ?_)
  exact ⟨rfl, (Kp.refl No w)⟩
/-! ### dowel/class.Count -/
def class_Count.F0 (x381 : Int) (a0 : Tapi_Class) (x382 : Int) (u_ : Nat → Value) : Array Value := #[u_ 0, u_ 1, u_ 2, .int .i64 x381, u_ 4, u_ 5, .agg #[.int .u64 a0.f0, .int .u64 a0.f1, .int .u64 a0.f2, .int .u64 a0.f3], .int .i64 x382, u_ 8, u_ 9, u_ 10, u_ 11, u_ 12, u_ 13, u_ 14, u_ 15]
def class_Count.F0_0 (x393 : Int) (u_ : Nat → Value) : Array Value := #[u_ 0, u_ 1, u_ 2, .int .i64 x393, u_ 4, u_ 5, u_ 6, u_ 7, u_ 8, u_ 9, u_ 10, u_ 11, u_ 12, u_ 13, u_ 14, u_ 15]
def class_Count.b0 (K : Nat) (a0 : Tapi_Class) (next0 : Int → Int → Option (Int)) (brk0_0 : Int → Option (Int)) (x381 : Int) (x382 : Int) : Option (Int) := if x382 < 4 then (if 0 ≤ x382 then ((bits_OnesCount64.f K (rd 0 [a0.f0, a0.f1, a0.f2, a0.f3] x382)).bind fun t385 => (next0 (W (x381 + t385)) (W (x382 + 1)))) else none) else (brk0_0 x381)
def class_Count.l0 (K : Nat) (a0 : Tapi_Class) (brk0_0 : Int → Option (Int)) : Nat → Int → Int → Option (Int)
  | 0, _, _ => none
  | n_ + 1, x381, x382 => class_Count.b0 K a0 (class_Count.l0 K a0 brk0_0 n_) brk0_0 x381 x382
def class_Count.f (K : Nat) (a0 : Tapi_Class) : Option (Int) := class_Count.l0 K a0 (fun x393 => some x393) K 0 0
def class_Count.R (r : Int) (w : World) : Ending → World → Prop := fun e w' => e = .returned (.int .i64 r) ∧ Kp No w w'
set_option maxRecDepth 20000 in
set_option maxHeartbeats 4000000 in
theorem class_Count.b0.ok (K : Nat) (a0 : Tapi_Class) (w : World) (r : Int)  {Q : Exit → Act → World → Prop} (HR : ∀ a w', bodyPost Try.prog Try.f34 (class_Count.R r w) .ret a w' → Q .ret a w') {next0 : Int → Int → Option (Int)} {brk0_0 : Int → Option (Int)} (HN0 : ∀ (x381q : Int) (x382q : Int) (u378q : Nat → Value) (w379q : World) (k380q : Kp No w w379q) , next0 x381q x382q = some r → Q .normal ⟨class_Count.F0 x381q a0 x382q u378q, []⟩ w379q) (HX0_0 : ∀ (x393q : Int) (u392q : Nat → Value) (w390q : World) (k391q : Kp No w w390q) , brk0_0 x393q = some r → Q (.exit 0) ⟨class_Count.F0_0 x393q u392q, []⟩ w390q) (x381 : Int) (x382 : Int) (u378 : Nat → Value) (w379 : World) (k380 : Kp No w w379)  (H : class_Count.b0 K a0 next0 brk0_0 x381 x382 = some r) : (cd Try.f34 [1, 1, 0, 1, 0, 0]).wp Try.prog Q ⟨class_Count.F0 x381 a0 x382 u378, []⟩ w379 := by
  unfold class_Count.b0 at H
  refine w_seq (p := [1, 1, 0, 1, 0, 0]) (p0 := [1, 1, 0, 1, 0, 0, 0]) (p1 := [1, 1, 0, 1, 0, 0, 1]) (by kernel_rfl) ?_
  refine w_region (p := [1, 1, 0, 1, 0, 0, 0]) (id := 3) (by kernel_rfl) ?_
  refine r_vals 0 1 [.bool (decide (x382 < 4))] (by kernel_rfl) (by kernel_rfl) ?_
  refine r_fin 1 (by kernel_rfl) ?_
  refine q_then ?_
  refine w_seq (p := [1, 1, 0, 1, 0, 0, 1]) (p0 := [1, 1, 0, 1, 0, 0, 1, 0]) (p1 := [1, 1, 0, 1, 0, 0, 1, 1]) (by kernel_rfl) ?_
  refine w_cond (p := [1, 1, 0, 1, 0, 0, 1, 0]) (p0 := [1, 1, 0, 1, 0, 0, 1, 0, 0]) (p1 := [1, 1, 0, 1, 0, 0, 1, 0, 1]) (c := (Operand.tmp 8)) (b := decide (x382 < 4)) (by kernel_rfl) (by kernel_rfl) ?_ ?_
  · intro h_
    have h383 : x382 < 4 := by simpa using h_
    clear h_
    rw [if_pos h383] at H
    refine w_skip (p := [1, 1, 0, 1, 0, 0, 1, 0, 0]) (by kernel_rfl) ?_
    refine q_then ?_
    refine w_seq (p := [1, 1, 0, 1, 0, 0, 1, 1]) (p0 := [1, 1, 0, 1, 0, 0, 1, 1, 0]) (p1 := [1, 1, 0, 1, 0, 0, 1, 1, 1]) (by kernel_rfl) ?_
    refine w_block (p := [1, 1, 0, 1, 0, 0, 1, 1, 0]) (p0 := [1, 1, 0, 1, 0, 0, 1, 1, 0, 0]) (id := 1) (by kernel_rfl) ?_
    refine w_seq (p := [1, 1, 0, 1, 0, 0, 1, 1, 0, 0]) (p0 := [1, 1, 0, 1, 0, 0, 1, 1, 0, 0, 0]) (p1 := [1, 1, 0, 1, 0, 0, 1, 1, 0, 0, 1]) (by kernel_rfl) ?_
    refine w_region (p := [1, 1, 0, 1, 0, 0, 1, 1, 0, 0, 0]) (id := 4) (by kernel_rfl) ?_
    refine p_split (0 ≤ x382) (fun h384 => ?_) (fun h384 => ?_)
    · rw [if_pos h384] at H
      refine r_do 0 (by kernel_rfl) (ar_index (K := (kInt .u64 35)) (T := 37) (e := 35) (n := 4) (x := (Operand.tmp 6)) (y := (Operand.tmp 7)) (k := .i64) (iv := x382) (cs := #[.int .u64 a0.f0, .int .u64 a0.f1, .int .u64 a0.f2, .int .u64 a0.f3]) (xs := [a0.f0, a0.f1, a0.f2, a0.f3]) 0 (.int .u64 (rd 0 [a0.f0, a0.f1, a0.f2, a0.f3] x382)) (by kernel_rfl) (by kernel_rfl) (by kernel_rfl) (by kernel_rfl) (by kernel_rfl) (by kernel_rfl) h384 h383 (by kernel_rfl) ?_) 
      refine r_vals 1 2 [.int .u64 (rd 0 [a0.f0, a0.f1, a0.f2, a0.f3] x382)] (by kernel_rfl) (by kernel_rfl) ?_
      refine r_fin 2 (by kernel_rfl) ?_
      refine q_then ?_
      refine w_region (p := [1, 1, 0, 1, 0, 0, 1, 1, 0, 0, 1]) (id := 5) (by kernel_rfl) ?_
      refine r_vals 0 2 [.int .i64 x381, .int .u64 (rd 0 [a0.f0, a0.f1, a0.f2, a0.f3] x382)] (by kernel_rfl) (by kernel_rfl) ?_
      obtain ⟨t385, ht386, H⟩ := Option.bind_eq_some_iff.1 H
      refine r_do 2 (by kernel_rfl) (og_call (g := 81) (av := #[.int .u64 (rd 0 [a0.f0, a0.f1, a0.f2, a0.f3] x382)]) (by kernel_rfl) ?_) 
      refine (bits_OnesCount64.ok K (rd 0 [a0.f0, a0.f1, a0.f2, a0.f3] x382) w379 t385 ht386).mono ?_
      rintro e w387 ⟨rfl, k388⟩
      refine ⟨_, rfl, ?_⟩
      have k389 := Kp.trans k380 k388 (fun _ h => h.elim)
      refine r_vals 3 5 [.int .i64 (W (x381 + t385)), .int .i64 (W (x381 + t385))] (by kernel_rfl) (by kernel_rfl) ?_
      refine r_fin 5 (by kernel_rfl) ?_
      refine q_in ?_
      refine q_then ?_
      refine w_region (p := [1, 1, 0, 1, 0, 0, 1, 1, 1]) (id := 6) (by kernel_rfl) ?_
      refine r_vals 0 2 [.int .i64 (W (x382 + 1)), .int .i64 (W (x382 + 1))] (by kernel_rfl) (by kernel_rfl) ?_
      refine r_fin 2 (by kernel_rfl) ?_
      refine q_into (class_Count.F0 (W (x381 + t385)) a0 (W (x382 + 1))) (by kernel_rfl) (fun u_ => ?_)
      exact HN0 (W (x381 + t385)) (W (x382 + 1)) u_ w387 k389 H
    · rw [if_neg h384] at H
      cases H
  · intro h_
    have h383 : ¬ (x382 < 4) := by simpa using h_
    clear h_
    rw [if_neg h383] at H
    refine w_exit (p := [1, 1, 0, 1, 0, 0, 1, 0, 1]) (id := 0) (by kernel_rfl) ?_
    refine q_then_x ?_
    refine q_into (class_Count.F0_0 x381) (by kernel_rfl) (fun u_ => ?_)
    exact HX0_0 x381 u_ w379 k380 H
set_option maxRecDepth 20000 in
set_option maxHeartbeats 4000000 in
theorem class_Count.l0.ok (K : Nat) (a0 : Tapi_Class) (w : World) (r : Int)  {Q : Exit → Act → World → Prop} (HR : ∀ a w', bodyPost Try.prog Try.f34 (class_Count.R r w) .ret a w' → Q .ret a w') {brk0_0 : Int → Option (Int)} (HX0_0 : ∀ (x393q : Int) (u392q : Nat → Value) (w390q : World) (k391q : Kp No w w390q) , brk0_0 x393q = some r → Q (.exit 0) ⟨class_Count.F0_0 x393q u392q, []⟩ w390q) : ∀ (n_ : Nat) (x381 : Int) (x382 : Int) (u378 : Nat → Value) (w379 : World) (k380 : Kp No w w379)  (H : class_Count.l0 K a0 brk0_0 n_ x381 x382 = some r), Code.rounds Try.prog (cd Try.f34 [1, 1, 0, 1, 0, 0]) Q n_ ⟨class_Count.F0 x381 a0 x382 u378, []⟩ w379
  | 0, _, _, _, _, _, H => by cases H
  | n_ + 1, x381, x382, u378, w379, k380, H =>
    class_Count.b0.ok K a0 w r  (Q := Exit.then (Code.rounds Try.prog (cd Try.f34 [1, 1, 0, 1, 0, 0]) Q n_) Q) (fun a w' h_ => q_then_r (HR a w' h_)) (fun x0_ x1_ x2_ x3_ x4_ h_ => class_Count.l0.ok K a0 w r  HR HX0_0 n_ x0_ x1_ x2_ x3_ x4_ h_) (fun x0_ x1_ x2_ x3_ h_ => q_then_x (HX0_0 x0_ x1_ x2_ x3_ h_)) x381 x382 u378 w379 k380 H
set_option maxRecDepth 20000 in
set_option maxHeartbeats 4000000 in
theorem class_Count.ok (K : Nat) (a0 : Tapi_Class) (w : World)  (r : Int) (H : class_Count.f K a0 = some r) : Calls Try.prog 34 #[.agg #[.int .u64 a0.f0, .int .u64 a0.f1, .int .u64 a0.f2, .int .u64 a0.f3]] w (class_Count.R r w) := by
  refine calls_cd (t := #[.agg #[.int .u64 a0.f0, .int .u64 a0.f1, .int .u64 a0.f2, .int .u64 a0.f3], undef, undef, undef, undef, undef, undef, undef, undef, undef, undef, undef, undef, undef, undef, undef]) Try.func34 (by kernel_rfl) (by kernel_rfl) ?_
  unfold class_Count.f at H
  have HR : ∀ a w', bodyPost Try.prog Try.f34 (class_Count.R r w) .ret a w' → bodyPost Try.prog Try.f34 (class_Count.R r w) .ret a w' := fun _ _ h => h
  refine w_seq (p := []) (p0 := [0]) (p1 := [1]) (by kernel_rfl) ?_
  refine w_region (p := [0]) (id := 0) (by kernel_rfl) ?_
  refine r_do 0 (by kernel_rfl) (og_box (T := 37) (x := (Operand.tmp 0)) (cs := #[.int .u64 a0.f0, .int .u64 a0.f1, .int .u64 a0.f2, .int .u64 a0.f3]) (by kernel_rfl) (by kernel_rfl) ?_) 
  intro b366 w363 e367 hb365 k364
  have g368 : w.heap.size ≤ b366 := by rw [e367]; exact Kp.size (Kp.refl No w)
  clear e367
  have k369 := Kp.trans (Kp.refl No w) k364 (fun _ h => h.elim)
  refine r_vals 1 2 [.int .i64 0] (by kernel_rfl) (by kernel_rfl) ?_
  refine r_fin 2 (by kernel_rfl) ?_
  refine q_then ?_
  refine w_seq (p := [1]) (p0 := [1, 0]) (p1 := [1, 1]) (by kernel_rfl) ?_
  refine w_region (p := [1, 0]) (id := 1) (by kernel_rfl) ?_
  refine r_vals 0 1 [.int .i64 0] (by kernel_rfl) (by kernel_rfl) ?_
  refine r_fin 1 (by kernel_rfl) ?_
  refine q_then ?_
  refine w_seq (p := [1, 1]) (p0 := [1, 1, 0]) (p1 := [1, 1, 1]) (by kernel_rfl) ?_
  refine w_seq (p := [1, 1, 0]) (p0 := [1, 1, 0, 0]) (p1 := [1, 1, 0, 1]) (by kernel_rfl) ?_
  refine w_region (p := [1, 1, 0, 0]) (id := 2) (by kernel_rfl) ?_
  refine r_do 0 (by kernel_rfl) (og_load (T := 37) (x := (Operand.tmp 1)) (b := b366) (off := 0) (.agg #[.int .u64 a0.f0, .int .u64 a0.f1, .int .u64 a0.f2, .int .u64 a0.f3]) (by kernel_rfl) (by kernel_rfl) hb365 (by kernel_rfl) ?_) 
  refine r_vals 1 2 [.int .i64 0] (by kernel_rfl) (by kernel_rfl) ?_
  refine r_fin 2 (by kernel_rfl) ?_
  refine q_then ?_
  refine w_block (p := [1, 1, 0, 1]) (p0 := [1, 1, 0, 1, 0]) (id := 0) (by kernel_rfl) ?_
  refine w_into (class_Count.F0 0 a0 0) (by kernel_rfl) (fun u_ => ?_)
  refine w_loop (p := [1, 1, 0, 1, 0]) (p0 := [1, 1, 0, 1, 0, 0]) K (by kernel_rfl) ?_
  refine class_Count.l0.ok K a0 w r  (fun a w' h_ => q_in_r (q_then_r (HR a w' h_))) ?_ K 0 0 u_ w363 k369 H
  intro x393 u392 w390 k391 H
  try dsimp only at H
  refine q_in_hit ?_
  refine q_then ?_
  refine w_seq (p := [1, 1, 1]) (p0 := [1, 1, 1, 0]) (p1 := [1, 1, 1, 1]) (by kernel_rfl) ?_
  refine w_region (p := [1, 1, 1, 0]) (id := 7) (by kernel_rfl) ?_
  refine r_vals 0 2 [.int .i64 x393, .int .i64 x393] (by kernel_rfl) (by kernel_rfl) ?_
  refine r_fin 2 (by kernel_rfl) ?_
  refine q_then ?_
  refine w_ret (p := [1, 1, 1, 1]) (by kernel_rfl) ?_
  obtain rfl := Option.some.inj H
  refine HR _ _ (body_ret (vs := [.int .i64 x393]) (rv_tmp (by kernel_rfl) rfl) rfl ?_)
  exact ⟨rfl, k391⟩
/-! ### dowel/class.Not -/
def class_Not.F0 (b397 : Nat) (b404 : Nat) (x437 : Int) (u_ : Nat → Value) : Array Value := #[u_ 0, .pointer (some ⟨b397, 0, none⟩), .pointer (some ⟨b404, 0, none⟩), u_ 3, .int .i64 x437, u_ 5, u_ 6, u_ 7, u_ 8, u_ 9, u_ 10, u_ 11, u_ 12, u_ 13, u_ 14]
def class_Not.F0_0 (b397 : Nat) (b404 : Nat) (u_ : Nat → Value) : Array Value := #[u_ 0, .pointer (some ⟨b397, 0, none⟩), .pointer (some ⟨b404, 0, none⟩), u_ 3, u_ 4, u_ 5, u_ 6, u_ 7, u_ 8, u_ 9, u_ 10, u_ 11, u_ 12, u_ 13, u_ 14]
def class_Not.b0  (next0 : Int → Int → Int → Int → Int → Option (Tapi_Class)) (brk0_0 : Int → Int → Int → Int → Option (Tapi_Class)) (x437 : Int) (x438 : Int) (x439 : Int) (x440 : Int) (x441 : Int) : Option (Tapi_Class) := if x437 < 4 then (if 0 ≤ x437 then (next0 (W (x437 + 1)) (rd 0 (stored [x438, x439, x440, x441] x437 (bits .xor .u64 (IntKind.u64.max) (rd 0 [x438, x439, x440, x441] x437))) 0) (rd 0 (stored [x438, x439, x440, x441] x437 (bits .xor .u64 (IntKind.u64.max) (rd 0 [x438, x439, x440, x441] x437))) 1) (rd 0 (stored [x438, x439, x440, x441] x437 (bits .xor .u64 (IntKind.u64.max) (rd 0 [x438, x439, x440, x441] x437))) 2) (rd 0 (stored [x438, x439, x440, x441] x437 (bits .xor .u64 (IntKind.u64.max) (rd 0 [x438, x439, x440, x441] x437))) 3)) else none) else (brk0_0 x438 x439 x440 x441)
def class_Not.l0  (brk0_0 : Int → Int → Int → Int → Option (Tapi_Class)) : Nat → Int → Int → Int → Int → Int → Option (Tapi_Class)
  | 0, _, _, _, _, _ => none
  | n_ + 1, x437, x438, x439, x440, x441 => class_Not.b0  (class_Not.l0  brk0_0 n_) brk0_0 x437 x438 x439 x440 x441
def class_Not.f (K : Nat) (a0 : Tapi_Class) : Option (Tapi_Class) := class_Not.l0 (fun y454 y455 y456 y457 => some (⟨y454, y455, y456, y457⟩ : Tapi_Class)) K 0 a0.f0 a0.f1 a0.f2 a0.f3
def class_Not.R (r : Tapi_Class) (w : World) : Ending → World → Prop := fun e w' => e = .returned (.agg #[.int .u64 r.f0, .int .u64 r.f1, .int .u64 r.f2, .int .u64 r.f3]) ∧ Kp No w w'
set_option maxRecDepth 20000 in
set_option maxHeartbeats 4000000 in
theorem class_Not.b0.ok (K : Nat) (a0 : Tapi_Class) (w : World) (r : Tapi_Class) (b397 : Nat) (b404 : Nat) {Q : Exit → Act → World → Prop} (HR : ∀ a w', bodyPost Try.prog Try.f60 (class_Not.R r w) .ret a w' → Q .ret a w') {next0 : Int → Int → Int → Int → Int → Option (Tapi_Class)} {brk0_0 : Int → Int → Int → Int → Option (Tapi_Class)} (HN0 : ∀ (x437q : Int) (x438q : Int) (x439q : Int) (x440q : Int) (x441q : Int) (u434q : Nat → Value) (w435q : World) (k436q : Kp No w w435q) (hb442q : Blk w435q b397 #[.int .u64 x438q, .int .u64 x439q, .int .u64 x440q, .int .u64 x441q] 37) (hb443q : Blk w435q b404 #[.int .u64 0, .int .u64 0, .int .u64 0, .int .u64 0] 37) (ghb442q : w.heap.size ≤ b397) (ghb443q : w.heap.size ≤ b404) (nhb442hb443q : b397 ≠ b404), next0 x437q x438q x439q x440q x441q = some r → Q .normal ⟨class_Not.F0 b397 b404 x437q u434q, []⟩ w435q) (HX0_0 : ∀ (y454q : Int) (y455q : Int) (y456q : Int) (y457q : Int) (u453q : Nat → Value) (w451q : World) (k452q : Kp No w w451q) (hb458q : Blk w451q b397 #[.int .u64 y454q, .int .u64 y455q, .int .u64 y456q, .int .u64 y457q] 37) (hb459q : Blk w451q b404 #[.int .u64 0, .int .u64 0, .int .u64 0, .int .u64 0] 37) (ghb458q : w.heap.size ≤ b397) (ghb459q : w.heap.size ≤ b404) (nhb458hb459q : b397 ≠ b404), brk0_0 y454q y455q y456q y457q = some r → Q (.exit 0) ⟨class_Not.F0_0 b397 b404 u453q, []⟩ w451q) (x437 : Int) (x438 : Int) (x439 : Int) (x440 : Int) (x441 : Int) (u434 : Nat → Value) (w435 : World) (k436 : Kp No w w435) (hb442 : Blk w435 b397 #[.int .u64 x438, .int .u64 x439, .int .u64 x440, .int .u64 x441] 37) (hb443 : Blk w435 b404 #[.int .u64 0, .int .u64 0, .int .u64 0, .int .u64 0] 37) (ghb442 : w.heap.size ≤ b397) (ghb443 : w.heap.size ≤ b404) (nhb442hb443 : b397 ≠ b404) (H : class_Not.b0  next0 brk0_0 x437 x438 x439 x440 x441 = some r) : (cd Try.f60 [1, 0, 1, 0, 0]).wp Try.prog Q ⟨class_Not.F0 b397 b404 x437 u434, []⟩ w435 := by
  unfold class_Not.b0 at H
  refine w_seq (p := [1, 0, 1, 0, 0]) (p0 := [1, 0, 1, 0, 0, 0]) (p1 := [1, 0, 1, 0, 0, 1]) (by kernel_rfl) ?_
  refine w_region (p := [1, 0, 1, 0, 0, 0]) (id := 2) (by kernel_rfl) ?_
  refine r_vals 0 1 [.bool (decide (x437 < 4))] (by kernel_rfl) (by kernel_rfl) ?_
  refine r_fin 1 (by kernel_rfl) ?_
  refine q_then ?_
  refine w_seq (p := [1, 0, 1, 0, 0, 1]) (p0 := [1, 0, 1, 0, 0, 1, 0]) (p1 := [1, 0, 1, 0, 0, 1, 1]) (by kernel_rfl) ?_
  refine w_cond (p := [1, 0, 1, 0, 0, 1, 0]) (p0 := [1, 0, 1, 0, 0, 1, 0, 0]) (p1 := [1, 0, 1, 0, 0, 1, 0, 1]) (c := (Operand.tmp 5)) (b := decide (x437 < 4)) (by kernel_rfl) (by kernel_rfl) ?_ ?_
  · intro h_
    have h444 : x437 < 4 := by simpa using h_
    clear h_
    rw [if_pos h444] at H
    refine w_skip (p := [1, 0, 1, 0, 0, 1, 0, 0]) (by kernel_rfl) ?_
    refine q_then ?_
    refine w_seq (p := [1, 0, 1, 0, 0, 1, 1]) (p0 := [1, 0, 1, 0, 0, 1, 1, 0]) (p1 := [1, 0, 1, 0, 0, 1, 1, 1]) (by kernel_rfl) ?_
    refine w_block (p := [1, 0, 1, 0, 0, 1, 1, 0]) (p0 := [1, 0, 1, 0, 0, 1, 1, 0, 0]) (id := 1) (by kernel_rfl) ?_
    refine w_seq (p := [1, 0, 1, 0, 0, 1, 1, 0, 0]) (p0 := [1, 0, 1, 0, 0, 1, 1, 0, 0, 0]) (p1 := [1, 0, 1, 0, 0, 1, 1, 0, 0, 1]) (by kernel_rfl) ?_
    refine w_region (p := [1, 0, 1, 0, 0, 1, 1, 0, 0, 0]) (id := 3) (by kernel_rfl) ?_
    refine r_vals 0 2 [.int .i64 x437, .int .i64 x437] (by kernel_rfl) (by kernel_rfl) ?_
    refine r_fin 2 (by kernel_rfl) ?_
    refine q_then ?_
    refine w_region (p := [1, 0, 1, 0, 0, 1, 1, 0, 0, 1]) (id := 4) (by kernel_rfl) ?_
    refine r_vals 0 2 [.int .i64 x437, .int .i64 x437] (by kernel_rfl) (by kernel_rfl) ?_
    refine p_split (0 ≤ x437) (fun h445 => ?_) (fun h445 => ?_)
    · rw [if_pos h445] at H
      refine r_do 2 (by kernel_rfl) (og_indexA (T := 37) (n := 4) (e := 35) (sz := 1) (b := b397) (off := 0) (iv := x437) (x := (Operand.tmp 1)) (y := (Operand.tmp 8)) (k := .i64) (by kernel_rfl) (by kernel_rfl) (by kernel_rfl) (by kernel_rfl) h445 h444 ?_) 
      refine r_do 3 (by kernel_rfl) (og_loadA (K := (kInt .u64 35)) (T := 35) (x := (Operand.tmp 9)) (b := b397) (base := 0) (off := 0) (xs := [x438, x439, x440, x441]) (iv := x437) 0 (.int .u64 (rd 0 [x438, x439, x440, x441] x437)) (by kernel_rfl) (by kernel_rfl) hb442 (by kernel_rfl) h445 h444 (by kernel_rfl) ?_) 
      refine r_vals 4 5 [.int .u64 (bits .xor .u64 (IntKind.u64.max) (rd 0 [x438, x439, x440, x441] x437))] (by kernel_rfl) (by kernel_rfl) ?_
      refine r_do 5 (by kernel_rfl) (og_indexA (T := 37) (n := 4) (e := 35) (sz := 1) (b := b397) (off := 0) (iv := x437) (x := (Operand.tmp 1)) (y := (Operand.tmp 7)) (k := .i64) (by kernel_rfl) (by kernel_rfl) (by kernel_rfl) (by kernel_rfl) h445 h444 ?_) 
      refine r_do 6 (by kernel_rfl) (ar_storeS (K := (kInt .u64 35)) (T := 35) (b := b397) (off := 0) (n := 4) (x := (Operand.tmp 12)) (y := (Operand.tmp 11)) (xs := [x438, x439, x440, x441]) (iv := x437) (cs' := #[.int .u64 (rd 0 (stored [x438, x439, x440, x441] x437 (bits .xor .u64 (IntKind.u64.max) (rd 0 [x438, x439, x440, x441] x437))) 0), .int .u64 (rd 0 (stored [x438, x439, x440, x441] x437 (bits .xor .u64 (IntKind.u64.max) (rd 0 [x438, x439, x440, x441] x437))) 1), .int .u64 (rd 0 (stored [x438, x439, x440, x441] x437 (bits .xor .u64 (IntKind.u64.max) (rd 0 [x438, x439, x440, x441] x437))) 2), .int .u64 (rd 0 (stored [x438, x439, x440, x441] x437 (bits .xor .u64 (IntKind.u64.max) (rd 0 [x438, x439, x440, x441] x437))) 3)]) 0 (bits .xor .u64 (IntKind.u64.max) (rd 0 [x438, x439, x440, x441] x437)) (.int .u64 (bits .xor .u64 (IntKind.u64.max) (rd 0 [x438, x439, x440, x441] x437))) (by kernel_rfl) (by kernel_rfl) (by kernel_rfl) hb442 (by kernel_rfl) (by kernel_rfl) h445 h444 (by kernel_rfl) (by kernel_rfl) ?_) 
      intro w447 hb446 k448
      have k449 := Kp.trans k436 k448 (fun x hx => .inr (by rw [show x = _ from hx]; exact ghb442))
      have hb450 := Blk.kp hb443 k448 (show ¬ (b404 = b397) from (Ne.symm nhb442hb443))
      refine r_fin 7 (by kernel_rfl) ?_
      refine q_in ?_
      refine q_then ?_
      refine w_region (p := [1, 0, 1, 0, 0, 1, 1, 1]) (id := 5) (by kernel_rfl) ?_
      refine r_vals 0 2 [.int .i64 (W (x437 + 1)), .int .i64 (W (x437 + 1))] (by kernel_rfl) (by kernel_rfl) ?_
      refine r_fin 2 (by kernel_rfl) ?_
      refine q_into (class_Not.F0 b397 b404 (W (x437 + 1))) (by kernel_rfl) (fun u_ => ?_)
      exact HN0 (W (x437 + 1)) (rd 0 (stored [x438, x439, x440, x441] x437 (bits .xor .u64 (IntKind.u64.max) (rd 0 [x438, x439, x440, x441] x437))) 0) (rd 0 (stored [x438, x439, x440, x441] x437 (bits .xor .u64 (IntKind.u64.max) (rd 0 [x438, x439, x440, x441] x437))) 1) (rd 0 (stored [x438, x439, x440, x441] x437 (bits .xor .u64 (IntKind.u64.max) (rd 0 [x438, x439, x440, x441] x437))) 2) (rd 0 (stored [x438, x439, x440, x441] x437 (bits .xor .u64 (IntKind.u64.max) (rd 0 [x438, x439, x440, x441] x437))) 3) u_ w447 k449 hb446 hb450 ghb442 ghb443 nhb442hb443 H
    · rw [if_neg h445] at H
      cases H
  · intro h_
    have h444 : ¬ (x437 < 4) := by simpa using h_
    clear h_
    rw [if_neg h444] at H
    refine w_exit (p := [1, 0, 1, 0, 0, 1, 0, 1]) (id := 0) (by kernel_rfl) ?_
    refine q_then_x ?_
    refine q_into (class_Not.F0_0 b397 b404) (by kernel_rfl) (fun u_ => ?_)
    exact HX0_0 x438 x439 x440 x441 u_ w435 k436 hb442 hb443 ghb442 ghb443 nhb442hb443 H
set_option maxRecDepth 20000 in
set_option maxHeartbeats 4000000 in
theorem class_Not.l0.ok (K : Nat) (a0 : Tapi_Class) (w : World) (r : Tapi_Class) (b397 : Nat) (b404 : Nat) {Q : Exit → Act → World → Prop} (HR : ∀ a w', bodyPost Try.prog Try.f60 (class_Not.R r w) .ret a w' → Q .ret a w') {brk0_0 : Int → Int → Int → Int → Option (Tapi_Class)} (HX0_0 : ∀ (y454q : Int) (y455q : Int) (y456q : Int) (y457q : Int) (u453q : Nat → Value) (w451q : World) (k452q : Kp No w w451q) (hb458q : Blk w451q b397 #[.int .u64 y454q, .int .u64 y455q, .int .u64 y456q, .int .u64 y457q] 37) (hb459q : Blk w451q b404 #[.int .u64 0, .int .u64 0, .int .u64 0, .int .u64 0] 37) (ghb458q : w.heap.size ≤ b397) (ghb459q : w.heap.size ≤ b404) (nhb458hb459q : b397 ≠ b404), brk0_0 y454q y455q y456q y457q = some r → Q (.exit 0) ⟨class_Not.F0_0 b397 b404 u453q, []⟩ w451q) : ∀ (n_ : Nat) (x437 : Int) (x438 : Int) (x439 : Int) (x440 : Int) (x441 : Int) (u434 : Nat → Value) (w435 : World) (k436 : Kp No w w435) (hb442 : Blk w435 b397 #[.int .u64 x438, .int .u64 x439, .int .u64 x440, .int .u64 x441] 37) (hb443 : Blk w435 b404 #[.int .u64 0, .int .u64 0, .int .u64 0, .int .u64 0] 37) (ghb442 : w.heap.size ≤ b397) (ghb443 : w.heap.size ≤ b404) (nhb442hb443 : b397 ≠ b404) (H : class_Not.l0  brk0_0 n_ x437 x438 x439 x440 x441 = some r), Code.rounds Try.prog (cd Try.f60 [1, 0, 1, 0, 0]) Q n_ ⟨class_Not.F0 b397 b404 x437 u434, []⟩ w435
  | 0, _, _, _, _, _, _, _, _, _, _, _, _, _, H => by cases H
  | n_ + 1, x437, x438, x439, x440, x441, u434, w435, k436, hb442, hb443, ghb442, ghb443, nhb442hb443, H =>
    class_Not.b0.ok K a0 w r b397 b404 (Q := Exit.then (Code.rounds Try.prog (cd Try.f60 [1, 0, 1, 0, 0]) Q n_) Q) (fun a w' h_ => q_then_r (HR a w' h_)) (fun x0_ x1_ x2_ x3_ x4_ x5_ x6_ x7_ x8_ x9_ x10_ x11_ x12_ h_ => class_Not.l0.ok K a0 w r b397 b404 HR HX0_0 n_ x0_ x1_ x2_ x3_ x4_ x5_ x6_ x7_ x8_ x9_ x10_ x11_ x12_ h_) (fun x0_ x1_ x2_ x3_ x4_ x5_ x6_ x7_ x8_ x9_ x10_ x11_ h_ => q_then_x (HX0_0 x0_ x1_ x2_ x3_ x4_ x5_ x6_ x7_ x8_ x9_ x10_ x11_ h_)) x437 x438 x439 x440 x441 u434 w435 k436 hb442 hb443 ghb442 ghb443 nhb442hb443 H
set_option maxRecDepth 20000 in
set_option maxHeartbeats 4000000 in
theorem class_Not.ok (K : Nat) (a0 : Tapi_Class) (w : World)  (r : Tapi_Class) (H : class_Not.f K a0 = some r) : Calls Try.prog 60 #[.agg #[.int .u64 a0.f0, .int .u64 a0.f1, .int .u64 a0.f2, .int .u64 a0.f3]] w (class_Not.R r w) := by
  refine calls_cd (t := #[.agg #[.int .u64 a0.f0, .int .u64 a0.f1, .int .u64 a0.f2, .int .u64 a0.f3], undef, undef, undef, undef, undef, undef, undef, undef, undef, undef, undef, undef, undef, undef]) Try.func60 (by kernel_rfl) (by kernel_rfl) ?_
  unfold class_Not.f at H
  have HR : ∀ a w', bodyPost Try.prog Try.f60 (class_Not.R r w) .ret a w' → bodyPost Try.prog Try.f60 (class_Not.R r w) .ret a w' := fun _ _ h => h
  refine w_seq (p := []) (p0 := [0]) (p1 := [1]) (by kernel_rfl) ?_
  refine w_region (p := [0]) (id := 0) (by kernel_rfl) ?_
  refine r_do 0 (by kernel_rfl) (og_box (T := 37) (x := (Operand.tmp 0)) (cs := #[.int .u64 a0.f0, .int .u64 a0.f1, .int .u64 a0.f2, .int .u64 a0.f3]) (by kernel_rfl) (by kernel_rfl) ?_) 
  intro b397 w394 e398 hb396 k395
  have g399 : w.heap.size ≤ b397 := by rw [e398]; exact Kp.size (Kp.refl No w)
  clear e398
  have k400 := Kp.trans (Kp.refl No w) k395 (fun _ h => h.elim)
  refine r_do 1 (by kernel_rfl) (og_alloc (T := 37) (cs := #[.int .u64 0, .int .u64 0, .int .u64 0, .int .u64 0]) (by kernel_rfl) (by kernel_rfl) ?_) 
  intro b404 w401 e405 hb403 k402
  have n406 : b397 ≠ b404 := by rw [e405]; exact Nat.ne_of_lt hb396.lt
  have g407 : w.heap.size ≤ b404 := by rw [e405]; exact Kp.size k400
  clear e405
  have k408 := Kp.trans k400 k402 (fun _ h => h.elim)
  have hb409 := Blk.kp hb396 k402 id
  refine r_fin 2 (by kernel_rfl) ?_
  refine q_then ?_
  refine w_seq (p := [1]) (p0 := [1, 0]) (p1 := [1, 1]) (by kernel_rfl) ?_
  refine w_seq (p := [1, 0]) (p0 := [1, 0, 0]) (p1 := [1, 0, 1]) (by kernel_rfl) ?_
  refine w_region (p := [1, 0, 0]) (id := 1) (by kernel_rfl) ?_
  refine r_vals 0 1 [.int .i64 0] (by kernel_rfl) (by kernel_rfl) ?_
  refine r_fin 1 (by kernel_rfl) ?_
  refine q_then ?_
  refine w_block (p := [1, 0, 1]) (p0 := [1, 0, 1, 0]) (id := 0) (by kernel_rfl) ?_
  refine w_into (class_Not.F0 b397 b404 0) (by kernel_rfl) (fun u_ => ?_)
  refine w_loop (p := [1, 0, 1, 0]) (p0 := [1, 0, 1, 0, 0]) K (by kernel_rfl) ?_
  refine class_Not.l0.ok K a0 w r b397 b404 (fun a w' h_ => q_in_r (q_then_r (HR a w' h_))) ?_ K 0 a0.f0 a0.f1 a0.f2 a0.f3 u_ w401 k408 hb409 hb403 g399 g407 n406 H
  intro y454 y455 y456 y457 u453 w451 k452 hb458 hb459 ghb458 ghb459 nhb458hb459 H
  try dsimp only at H
  refine q_in_hit ?_
  refine q_then ?_
  refine w_seq (p := [1, 1]) (p0 := [1, 1, 0]) (p1 := [1, 1, 1]) (by kernel_rfl) ?_
  refine w_region (p := [1, 1, 0]) (id := 6) (by kernel_rfl) ?_
  refine r_do 0 (by kernel_rfl) (og_load (T := 37) (x := (Operand.tmp 1)) (b := b397) (off := 0) (.agg #[.int .u64 y454, .int .u64 y455, .int .u64 y456, .int .u64 y457]) (by kernel_rfl) (by kernel_rfl) hb458 (by kernel_rfl) ?_) 
  refine r_do 1 (by kernel_rfl) (og_store (T := 37) (x := (Operand.tmp 2)) (y := (Operand.tmp 14)) (b := b404) (off := 0) (.agg #[.int .u64 y454, .int .u64 y455, .int .u64 y456, .int .u64 y457]) (by kernel_rfl) (by kernel_rfl) (by kernel_rfl) hb459 (cs' := #[.int .u64 y454, .int .u64 y455, .int .u64 y456, .int .u64 y457]) (by kernel_rfl) ?_) 
  intro w461 hb460 k462 _
  have k463 := Kp.trans k452 k462 (fun x hx => .inr (by rw [show x = _ from hx]; exact ghb459))
  have hb464 := Blk.kp hb458 k462 (show ¬ (b397 = b404) from nhb458hb459)
  refine r_fin 2 (by kernel_rfl) ?_
  refine q_then ?_
  refine w_ret (p := [1, 1, 1]) (by kernel_rfl) ?_
  obtain rfl := Option.some.inj H
  refine HR _ _ (body_ret (vs := [.agg #[.int .u64 y454, .int .u64 y455, .int .u64 y456, .int .u64 y457]]) (rv_cell (off := 0) (v := .agg #[.int .u64 y454, .int .u64 y455, .int .u64 y456, .int .u64 y457]) (by kernel_rfl) hb460 (by kernel_rfl) rfl) rfl ?_)
  exact ⟨rfl, k463⟩
/-! ### dowel/class.spelling -/
def class_spelling.j0F (a0 : Int) (x474 : Bool) (u_ : Nat → Value) : Array Value := #[.int .u8 a0, u_ 1, u_ 2, u_ 3, u_ 4, u_ 5, u_ 6, u_ 7, u_ 8, u_ 9, .bool x474, u_ 11, u_ 12, u_ 13, u_ 14, u_ 15, u_ 16, u_ 17, u_ 18, u_ 19, u_ 20, u_ 21, u_ 22, u_ 23, u_ 24, u_ 25, u_ 26, u_ 27, u_ 28, u_ 29, u_ 30, u_ 31, u_ 32, u_ 33, u_ 34]
def class_spelling.j1F (a0 : Int) (x487 : Bool) (u_ : Nat → Value) : Array Value := #[.int .u8 a0, u_ 1, u_ 2, u_ 3, u_ 4, u_ 5, u_ 6, u_ 7, u_ 8, u_ 9, u_ 10, u_ 11, u_ 12, u_ 13, u_ 14, u_ 15, u_ 16, u_ 17, u_ 18, u_ 19, u_ 20, u_ 21, u_ 22, .bool x487, u_ 24, u_ 25, u_ 26, u_ 27, u_ 28, u_ 29, u_ 30, u_ 31, u_ 32, u_ 33, u_ 34]
def class_spelling.j1 (a0 : Int) (x487 : Bool) : Option (ByteArray) := if x487 = true then (if 0 ≤ (shv .shr .u8 a0 4) then (if (shv .shr .u8 a0 4) < ((⟨#[48, 49, 50, 51, 52, 53, 54, 55, 56, 57, 97, 98, 99, 100, 101, 102]⟩ : ByteArray).size : Int) then (if 0 ≤ (bits .and .u8 a0 15) then (if (bits .and .u8 a0 15) < ((⟨#[48, 49, 50, 51, 52, 53, 54, 55, 56, 57, 97, 98, 99, 100, 101, 102]⟩ : ByteArray).size : Int) then (some (strI ([92, 120, bt (⟨#[48, 49, 50, 51, 52, 53, 54, 55, 56, 57, 97, 98, 99, 100, 101, 102]⟩ : ByteArray) (shv .shr .u8 a0 4), bt (⟨#[48, 49, 50, 51, 52, 53, 54, 55, 56, 57, 97, 98, 99, 100, 101, 102]⟩ : ByteArray) (bits .and .u8 a0 15)] : List Int))) else none) else none) else none) else none) else (some (strI ([a0] : List Int)))
def class_spelling.j0 (a0 : Int) (x474 : Bool) : Option (ByteArray) := if x474 = true then (some (strI ([92, a0] : List Int))) else (if a0 < 32 then (class_spelling.j1 a0 true) else (class_spelling.j1 a0 (decide (a0 > 126))))
def class_spelling.f (K : Nat) (a0 : Int) : Option (ByteArray) := if a0 = 9 then (some (⟨#[92, 116]⟩ : ByteArray)) else (if a0 = 10 then (some (⟨#[92, 110]⟩ : ByteArray)) else (if a0 = 13 then (some (⟨#[92, 114]⟩ : ByteArray)) else (if a0 = 92 then (class_spelling.j0 a0 (a0 == 92)) else (if a0 = 93 then (class_spelling.j0 a0 (a0 == 93)) else (if a0 = 45 then (class_spelling.j0 a0 (a0 == 45)) else (class_spelling.j0 a0 (a0 == 94)))))))
def class_spelling.R (r : ByteArray) (w : World) : Ending → World → Prop := fun e w' => e = .returned (.string r) ∧ Kp No w w'
set_option maxRecDepth 20000 in
set_option maxHeartbeats 4000000 in
theorem class_spelling.j1.ok (K : Nat) (a0 : Int) (w : World) (r : ByteArray) {Q : Exit → Act → World → Prop}  (HR : ∀ a w', bodyPost Try.prog Try.f61 (class_spelling.R r w) .ret a w' → Q .ret a w')  (x487 : Bool) (u486 : Nat → Value) (w484 : World) (k485 : Kp No w w484)  (H : class_spelling.j1 a0 x487 = some r) : (cd Try.f61 [1, 1, 0, 1]).wp Try.prog (Exit.then (fun a w => (cd Try.f61 [1, 1, 1]).wp Try.prog Q a w) Q) ⟨class_spelling.j1F a0 x487 u486, []⟩ w484 := by
  unfold class_spelling.j1 at H
  refine w_cond (p := [1, 1, 0, 1]) (p0 := [1, 1, 0, 1, 0]) (p1 := [1, 1, 0, 1, 1]) (c := (Operand.tmp 23)) (b := x487) (by kernel_rfl) (by kernel_rfl) ?_ ?_
  · intro h_
    have h488 : x487 = true := h_
    clear h_
    rw [if_pos h488] at H
    refine w_seq (p := [1, 1, 0, 1, 0]) (p0 := [1, 1, 0, 1, 0, 0]) (p1 := [1, 1, 0, 1, 0, 1]) (by kernel_rfl) ?_
    refine p_split (0 ≤ (shv .shr .u8 a0 4)) (fun h489 => ?_) (fun h489 => ?_)
    · rw [if_pos h489] at H
      refine p_split ((shv .shr .u8 a0 4) < ((⟨#[48, 49, 50, 51, 52, 53, 54, 55, 56, 57, 97, 98, 99, 100, 101, 102]⟩ : ByteArray).size : Int)) (fun h490 => ?_) (fun h490 => ?_)
      · rw [if_pos h490] at H
        refine p_split (0 ≤ (bits .and .u8 a0 15)) (fun h491 => ?_) (fun h491 => ?_)
        · rw [if_pos h491] at H
          refine p_split ((bits .and .u8 a0 15) < ((⟨#[48, 49, 50, 51, 52, 53, 54, 55, 56, 57, 97, 98, 99, 100, 101, 102]⟩ : ByteArray).size : Int)) (fun h492 => ?_) (fun h492 => ?_)
          · rw [if_pos h492] at H
            refine w_drawk (p := [1, 1, 0, 1, 0, 0]) (id := 14) (by kernel_rfl) (by kernel_rfl) [0, 1, 3, 0, 8, 24, 63, 127, 255] 6 (by kernel_rfl) (J := (fun _ w_ => Kp No w484 w_)) (fun w_ h1 h2 h3 h4 => Kp.same h1 h2 h3 h4) ?_
            refine k_pure 2 [.int .u8 a0, .int .u8 (shv .shr .u8 a0 4)] (by kernel_rfl) (fun _ => by kernel_rfl) (fun _ _ _ _ _ h => h) ?_
            refine k_op (.int .u8 (bt (⟨#[48, 49, 50, 51, 52, 53, 54, 55, 56, 57, 97, 98, 99, 100, 101, 102]⟩ : ByteArray) (shv .shr .u8 a0 4))) (by kernel_rfl) (fun b_ w_ hJ hb_ hd_ he_ => og_sindex (T := 9) (x := (Operand.const (Value.string { data := #[48, 49, 50, 51, 52, 53, 54, 55, 56, 57, 97, 98, 99, 100, 101, 102] }))) (y := (Operand.tmp 25)) (k := .u8) (by kernel_rfl) (by kernel_rfl) (by kernel_rfl) (by kernel_rfl) h489 h490 ⟨rfl, hJ⟩) ?_
            refine k_pure 5 [.int .u8 a0, .int .u8 (bits .and .u8 a0 15)] (by kernel_rfl) (fun _ => by kernel_rfl) (fun _ _ _ _ _ h => h) ?_
            refine k_op (.int .u8 (bt (⟨#[48, 49, 50, 51, 52, 53, 54, 55, 56, 57, 97, 98, 99, 100, 101, 102]⟩ : ByteArray) (bits .and .u8 a0 15))) (by kernel_rfl) (fun b_ w_ hJ hb_ hd_ he_ => og_sindex (T := 9) (x := (Operand.const (Value.string { data := #[48, 49, 50, 51, 52, 53, 54, 55, 56, 57, 97, 98, 99, 100, 101, 102] }))) (y := (Operand.tmp 28)) (k := .u8) (by kernel_rfl) (by kernel_rfl) (by kernel_rfl) (by kernel_rfl) h491 h492 ⟨rfl, hJ⟩) ?_
            refine k_nil ?_
            rintro b_ w493 hall_ k_
            have k494 := k_
            have k495 := Kp.trans k485 k494 (fun _ h => h.elim)
            refine r_do 6 (by kernel_rfl) (ow_lit (K := (kInt .u8 5)) (w0 := w) (T := 110) (n := 4) (e := 5) (ps := #[(0, (Operand.const (Value.int IntKind.u8 92))), (1, (Operand.const (Value.int IntKind.u8 120))), (2, (Operand.tmp 26)), (3, (Operand.tmp 29))]) (cs := #[.int .u8 92, .int .u8 120, .int .u8 (bt (⟨#[48, 49, 50, 51, 52, 53, 54, 55, 56, 57, 97, 98, 99, 100, 101, 102]⟩ : ByteArray) (shv .shr .u8 a0 4)), .int .u8 (bt (⟨#[48, 49, 50, 51, 52, 53, 54, 55, 56, 57, 97, 98, 99, 100, 101, 102]⟩ : ByteArray) (bits .and .u8 a0 15))]) (parts := [(0, .int .u8 92), (1, .int .u8 120), (2, .int .u8 (bt (⟨#[48, 49, 50, 51, 52, 53, 54, 55, 56, 57, 97, 98, 99, 100, 101, 102]⟩ : ByteArray) (shv .shr .u8 a0 4))), (3, .int .u8 (bt (⟨#[48, 49, 50, 51, 52, 53, 54, 55, 56, 57, 97, 98, 99, 100, 101, 102]⟩ : ByteArray) (bits .and .u8 a0 15)))]) ([92, 120, bt (⟨#[48, 49, 50, 51, 52, 53, 54, 55, 56, 57, 97, 98, 99, 100, 101, 102]⟩ : ByteArray) (shv .shr .u8 a0 4), bt (⟨#[48, 49, 50, 51, 52, 53, 54, 55, 56, 57, 97, 98, 99, 100, 101, 102]⟩ : ByteArray) (bits .and .u8 a0 15)] : List Int) (by kernel_rfl) (by kernel_rfl) (by kernel_rfl) (by kernel_rfl) rfl rfl (by kernel_rfl) k495 ?_) 
            intro b499 w496 e500 ho498 k497
            clear e500
            have k502 := Kp.trans k495 k497 (fun _ h => h.elim)
            refine r_do 7 (by kernel_rfl) (og_bytesStr (src := 110) (dst := 9) (e := 5) (n := 4) (c := 4) (x := (Operand.tmp 30)) (A := (some ⟨b499, 0, none⟩)) (xs := ([92, 120, bt (⟨#[48, 49, 50, 51, 52, 53, 54, 55, 56, 57, 97, 98, 99, 100, 101, 102]⟩ : ByteArray) (shv .shr .u8 a0 4), bt (⟨#[48, 49, 50, 51, 52, 53, 54, 55, 56, 57, 97, 98, 99, 100, 101, 102]⟩ : ByteArray) (bits .and .u8 a0 15)] : List Int)) (by kernel_rfl) (by kernel_rfl) (by kernel_rfl) (Ow.rdNo ho498) (Ow.len ho498) ?_) 
            refine r_vals 8 9 [.string (strI ([92, 120, bt (⟨#[48, 49, 50, 51, 52, 53, 54, 55, 56, 57, 97, 98, 99, 100, 101, 102]⟩ : ByteArray) (shv .shr .u8 a0 4), bt (⟨#[48, 49, 50, 51, 52, 53, 54, 55, 56, 57, 97, 98, 99, 100, 101, 102]⟩ : ByteArray) (bits .and .u8 a0 15)] : List Int))] (by kernel_rfl) (by kernel_rfl) ?_
            refine r_fin 9 (by kernel_rfl) ?_
            refine q_then ?_
            refine w_ret (p := [1, 1, 0, 1, 0, 1]) (by kernel_rfl) ?_
            refine q_then_r ?_
            obtain rfl := Option.some.inj H
            refine HR _ _ (body_ret (vs := [.string (strI ([92, 120, bt (⟨#[48, 49, 50, 51, 52, 53, 54, 55, 56, 57, 97, 98, 99, 100, 101, 102]⟩ : ByteArray) (shv .shr .u8 a0 4), bt (⟨#[48, 49, 50, 51, 52, 53, 54, 55, 56, 57, 97, 98, 99, 100, 101, 102]⟩ : ByteArray) (bits .and .u8 a0 15)] : List Int))]) (rv_tmp (by kernel_rfl) rfl) rfl ?_)
            exact ⟨rfl, k502⟩
          · rw [if_neg h492] at H
            cases H
        · rw [if_neg h491] at H
          cases H
      · rw [if_neg h490] at H
        cases H
    · rw [if_neg h489] at H
      cases H
  · intro h_
    have h488 : ¬ (x487 = true) := by rw [h_]; decide
    clear h_
    rw [if_neg h488] at H
    refine w_skip (p := [1, 1, 0, 1, 1]) (by kernel_rfl) ?_
    refine q_then ?_
    refine w_seq (p := [1, 1, 1]) (p0 := [1, 1, 1, 0]) (p1 := [1, 1, 1, 1]) (by kernel_rfl) ?_
    refine w_region (p := [1, 1, 1, 0]) (id := 15) (by kernel_rfl) ?_
    refine r_vals 0 1 [.int .u8 a0] (by kernel_rfl) (by kernel_rfl) ?_
    refine r_do 1 (by kernel_rfl) (ow_lit (K := (kInt .u8 5)) (w0 := w) (T := 110) (n := 1) (e := 5) (ps := #[(0, (Operand.tmp 32))]) (cs := #[.int .u8 a0]) (parts := [(0, .int .u8 a0)]) ([a0] : List Int) (by kernel_rfl) (by kernel_rfl) (by kernel_rfl) (by kernel_rfl) rfl rfl (by kernel_rfl) k485 ?_) 
    intro b506 w503 e507 ho505 k504
    clear e507
    have k509 := Kp.trans k485 k504 (fun _ h => h.elim)
    refine r_do 2 (by kernel_rfl) (og_bytesStr (src := 110) (dst := 9) (e := 5) (n := 1) (c := 1) (x := (Operand.tmp 33)) (A := (some ⟨b506, 0, none⟩)) (xs := ([a0] : List Int)) (by kernel_rfl) (by kernel_rfl) (by kernel_rfl) (Ow.rdNo ho505) (Ow.len ho505) ?_) 
    refine r_vals 3 4 [.string (strI ([a0] : List Int))] (by kernel_rfl) (by kernel_rfl) ?_
    refine r_fin 4 (by kernel_rfl) ?_
    refine q_then ?_
    refine w_ret (p := [1, 1, 1, 1]) (by kernel_rfl) ?_
    obtain rfl := Option.some.inj H
    refine HR _ _ (body_ret (vs := [.string (strI ([a0] : List Int))]) (rv_tmp (by kernel_rfl) rfl) rfl ?_)
    exact ⟨rfl, k509⟩
set_option maxRecDepth 20000 in
set_option maxHeartbeats 4000000 in
theorem class_spelling.j0.ok (K : Nat) (a0 : Int) (w : World) (r : ByteArray) {Q : Exit → Act → World → Prop}  (HR : ∀ a w', bodyPost Try.prog Try.f61 (class_spelling.R r w) .ret a w' → Q .ret a w')  (x474 : Bool) (u473 : Nat → Value) (w471 : World) (k472 : Kp No w w471)  (H : class_spelling.j0 a0 x474 = some r) : (cd Try.f61 [1, 0, 1, 0, 1, 1, 1, 1, 1, 1, 1]).wp Try.prog (Exit.inBlock 0 (Exit.then (fun a w => (cd Try.f61 [1, 1]).wp Try.prog Q a w) Q)) ⟨class_spelling.j0F a0 x474 u473, []⟩ w471 := by
  unfold class_spelling.j0 at H
  refine w_cond (p := [1, 0, 1, 0, 1, 1, 1, 1, 1, 1, 1]) (p0 := [1, 0, 1, 0, 1, 1, 1, 1, 1, 1, 1, 0]) (p1 := [1, 0, 1, 0, 1, 1, 1, 1, 1, 1, 1, 1]) (c := (Operand.tmp 10)) (b := x474) (by kernel_rfl) (by kernel_rfl) ?_ ?_
  · intro h_
    have h475 : x474 = true := h_
    clear h_
    rw [if_pos h475] at H
    refine w_seq (p := [1, 0, 1, 0, 1, 1, 1, 1, 1, 1, 1, 0]) (p0 := [1, 0, 1, 0, 1, 1, 1, 1, 1, 1, 1, 0, 0]) (p1 := [1, 0, 1, 0, 1, 1, 1, 1, 1, 1, 1, 0, 1]) (by kernel_rfl) ?_
    refine w_region (p := [1, 0, 1, 0, 1, 1, 1, 1, 1, 1, 1, 0, 0]) (id := 12) (by kernel_rfl) ?_
    refine r_vals 0 1 [.int .u8 a0] (by kernel_rfl) (by kernel_rfl) ?_
    refine r_do 1 (by kernel_rfl) (ow_lit (K := (kInt .u8 5)) (w0 := w) (T := 110) (n := 2) (e := 5) (ps := #[(0, (Operand.const (Value.int IntKind.u8 92))), (1, (Operand.tmp 15))]) (cs := #[.int .u8 92, .int .u8 a0]) (parts := [(0, .int .u8 92), (1, .int .u8 a0)]) ([92, a0] : List Int) (by kernel_rfl) (by kernel_rfl) (by kernel_rfl) (by kernel_rfl) rfl rfl (by kernel_rfl) k472 ?_) 
    intro b479 w476 e480 ho478 k477
    clear e480
    have k482 := Kp.trans k472 k477 (fun _ h => h.elim)
    refine r_do 2 (by kernel_rfl) (og_bytesStr (src := 110) (dst := 9) (e := 5) (n := 2) (c := 2) (x := (Operand.tmp 16)) (A := (some ⟨b479, 0, none⟩)) (xs := ([92, a0] : List Int)) (by kernel_rfl) (by kernel_rfl) (by kernel_rfl) (Ow.rdNo ho478) (Ow.len ho478) ?_) 
    refine r_vals 3 4 [.string (strI ([92, a0] : List Int))] (by kernel_rfl) (by kernel_rfl) ?_
    refine r_fin 4 (by kernel_rfl) ?_
    refine q_then ?_
    refine w_ret (p := [1, 0, 1, 0, 1, 1, 1, 1, 1, 1, 1, 0, 1]) (by kernel_rfl) ?_
    refine q_in_r ?_
    refine q_then_r ?_
    obtain rfl := Option.some.inj H
    refine HR _ _ (body_ret (vs := [.string (strI ([92, a0] : List Int))]) (rv_tmp (by kernel_rfl) rfl) rfl ?_)
    exact ⟨rfl, k482⟩
  · intro h_
    have h475 : ¬ (x474 = true) := by rw [h_]; decide
    clear h_
    rw [if_neg h475] at H
    refine w_skip (p := [1, 0, 1, 0, 1, 1, 1, 1, 1, 1, 1, 1]) (by kernel_rfl) ?_
    refine q_in ?_
    refine q_then ?_
    refine w_seq (p := [1, 1]) (p0 := [1, 1, 0]) (p1 := [1, 1, 1]) (by kernel_rfl) ?_
    refine w_seq (p := [1, 1, 0]) (p0 := [1, 1, 0, 0]) (p1 := [1, 1, 0, 1]) (by kernel_rfl) ?_
    refine w_region (p := [1, 1, 0, 0]) (id := 13) (by kernel_rfl) ?_
    refine r_vals 0 3 [.int .u8 a0, .bool (decide (a0 < 32)), .bool (decide (a0 < 32))] (by kernel_rfl) (by kernel_rfl) ?_
    refine b_split (decide (a0 < 32)) (fun h_ => ?_) (fun h_ => ?_)
    · have h483 : a0 < 32 := by simpa using h_
      rw [if_pos h483] at H
      rw [h_]
      clear h_
      refine r_vals 3 6 [undef, undef, .bool true] (by kernel_rfl) (by kernel_rfl) ?_
      refine r_fin 6 (by kernel_rfl) ?_
      refine q_then ?_
      refine w_into (class_spelling.j1F a0 true) (by kernel_rfl) (fun u_ => ?_)
      exact class_spelling.j1.ok K a0 w r  HR  true u_ w471 k472  H
    · have h483 : ¬ (a0 < 32) := by simpa using h_
      rw [if_neg h483] at H
      rw [h_]
      clear h_
      refine r_vals 3 6 [.int .u8 a0, .bool (decide (a0 > 126)), .bool (decide (a0 > 126))] (by kernel_rfl) (by kernel_rfl) ?_
      refine r_fin 6 (by kernel_rfl) ?_
      refine q_then ?_
      refine w_into (class_spelling.j1F a0 (decide (a0 > 126))) (by kernel_rfl) (fun u_ => ?_)
      exact class_spelling.j1.ok K a0 w r  HR  (decide (a0 > 126)) u_ w471 k472  H
set_option maxRecDepth 20000 in
set_option maxHeartbeats 4000000 in
theorem class_spelling.ok (K : Nat) (a0 : Int) (w : World)  (r : ByteArray) (H : class_spelling.f K a0 = some r) : Calls Try.prog 61 #[.int .u8 a0] w (class_spelling.R r w) := by
  refine calls_cd (t := #[.int .u8 a0, undef, undef, undef, undef, undef, undef, undef, undef, undef, undef, undef, undef, undef, undef, undef, undef, undef, undef, undef, undef, undef, undef, undef, undef, undef, undef, undef, undef, undef, undef, undef, undef, undef, undef]) Try.func61 (by kernel_rfl) (by kernel_rfl) ?_
  unfold class_spelling.f at H
  have HR : ∀ a w', bodyPost Try.prog Try.f61 (class_spelling.R r w) .ret a w' → bodyPost Try.prog Try.f61 (class_spelling.R r w) .ret a w' := fun _ _ h => h
  refine w_seq (p := []) (p0 := [0]) (p1 := [1]) (by kernel_rfl) ?_
  refine w_region (p := [0]) (id := 0) (by kernel_rfl) ?_
  refine r_vals 0 1 [.string (⟨#[]⟩ : ByteArray)] (by kernel_rfl) (by kernel_rfl) ?_
  refine r_fin 1 (by kernel_rfl) ?_
  refine q_then ?_
  refine w_seq (p := [1]) (p0 := [1, 0]) (p1 := [1, 1]) (by kernel_rfl) ?_
  refine w_seq (p := [1, 0]) (p0 := [1, 0, 0]) (p1 := [1, 0, 1]) (by kernel_rfl) ?_
  refine w_region (p := [1, 0, 0]) (id := 1) (by kernel_rfl) ?_
  refine r_vals 0 1 [.int .u8 a0] (by kernel_rfl) (by kernel_rfl) ?_
  refine r_fin 1 (by kernel_rfl) ?_
  refine q_then ?_
  refine w_block (p := [1, 0, 1]) (p0 := [1, 0, 1, 0]) (id := 0) (by kernel_rfl) ?_
  refine w_seq (p := [1, 0, 1, 0]) (p0 := [1, 0, 1, 0, 0]) (p1 := [1, 0, 1, 0, 1]) (by kernel_rfl) ?_
  refine w_region (p := [1, 0, 1, 0, 0]) (id := 2) (by kernel_rfl) ?_
  refine r_vals 0 2 [.bool (a0 == 9), .bool (a0 == 9)] (by kernel_rfl) (by kernel_rfl) ?_
  refine r_fin 2 (by kernel_rfl) ?_
  refine q_then ?_
  refine w_cond (p := [1, 0, 1, 0, 1]) (p0 := [1, 0, 1, 0, 1, 0]) (p1 := [1, 0, 1, 0, 1, 1]) (c := (Operand.tmp 4)) (b := a0 == 9) (by kernel_rfl) (by kernel_rfl) ?_ ?_
  · intro h_
    have h465 : a0 = 9 := by simpa using h_
    clear h_
    rw [if_pos h465] at H
    refine w_seq (p := [1, 0, 1, 0, 1, 0]) (p0 := [1, 0, 1, 0, 1, 0, 0]) (p1 := [1, 0, 1, 0, 1, 0, 1]) (by kernel_rfl) ?_
    refine w_region (p := [1, 0, 1, 0, 1, 0, 0]) (id := 3) (by kernel_rfl) ?_
    refine r_vals 0 1 [.string (⟨#[92, 116]⟩ : ByteArray)] (by kernel_rfl) (by kernel_rfl) ?_
    refine r_fin 1 (by kernel_rfl) ?_
    refine q_then ?_
    refine w_ret (p := [1, 0, 1, 0, 1, 0, 1]) (by kernel_rfl) ?_
    refine q_in_r ?_
    refine q_then_r ?_
    obtain rfl := Option.some.inj H
    refine HR _ _ (body_ret (vs := [.string (⟨#[92, 116]⟩ : ByteArray)]) (rv_tmp (by kernel_rfl) rfl) rfl ?_)
    exact ⟨rfl, (Kp.refl No w)⟩
  · intro h_
    have h465 : ¬ (a0 = 9) := by simpa using h_
    clear h_
    rw [if_neg h465] at H
    refine w_seq (p := [1, 0, 1, 0, 1, 1]) (p0 := [1, 0, 1, 0, 1, 1, 0]) (p1 := [1, 0, 1, 0, 1, 1, 1]) (by kernel_rfl) ?_
    refine w_region (p := [1, 0, 1, 0, 1, 1, 0]) (id := 4) (by kernel_rfl) ?_
    refine r_vals 0 2 [.bool (a0 == 10), .bool (a0 == 10)] (by kernel_rfl) (by kernel_rfl) ?_
    refine r_fin 2 (by kernel_rfl) ?_
    refine q_then ?_
    refine w_cond (p := [1, 0, 1, 0, 1, 1, 1]) (p0 := [1, 0, 1, 0, 1, 1, 1, 0]) (p1 := [1, 0, 1, 0, 1, 1, 1, 1]) (c := (Operand.tmp 6)) (b := a0 == 10) (by kernel_rfl) (by kernel_rfl) ?_ ?_
    · intro h_
      have h466 : a0 = 10 := by simpa using h_
      clear h_
      rw [if_pos h466] at H
      refine w_seq (p := [1, 0, 1, 0, 1, 1, 1, 0]) (p0 := [1, 0, 1, 0, 1, 1, 1, 0, 0]) (p1 := [1, 0, 1, 0, 1, 1, 1, 0, 1]) (by kernel_rfl) ?_
      refine w_region (p := [1, 0, 1, 0, 1, 1, 1, 0, 0]) (id := 5) (by kernel_rfl) ?_
      refine r_vals 0 1 [.string (⟨#[92, 110]⟩ : ByteArray)] (by kernel_rfl) (by kernel_rfl) ?_
      refine r_fin 1 (by kernel_rfl) ?_
      refine q_then ?_
      refine w_ret (p := [1, 0, 1, 0, 1, 1, 1, 0, 1]) (by kernel_rfl) ?_
      refine q_in_r ?_
      refine q_then_r ?_
      obtain rfl := Option.some.inj H
      refine HR _ _ (body_ret (vs := [.string (⟨#[92, 110]⟩ : ByteArray)]) (rv_tmp (by kernel_rfl) rfl) rfl ?_)
      exact ⟨rfl, (Kp.refl No w)⟩
    · intro h_
      have h466 : ¬ (a0 = 10) := by simpa using h_
      clear h_
      rw [if_neg h466] at H
      refine w_seq (p := [1, 0, 1, 0, 1, 1, 1, 1]) (p0 := [1, 0, 1, 0, 1, 1, 1, 1, 0]) (p1 := [1, 0, 1, 0, 1, 1, 1, 1, 1]) (by kernel_rfl) ?_
      refine w_region (p := [1, 0, 1, 0, 1, 1, 1, 1, 0]) (id := 6) (by kernel_rfl) ?_
      refine r_vals 0 2 [.bool (a0 == 13), .bool (a0 == 13)] (by kernel_rfl) (by kernel_rfl) ?_
      refine r_fin 2 (by kernel_rfl) ?_
      refine q_then ?_
      refine w_cond (p := [1, 0, 1, 0, 1, 1, 1, 1, 1]) (p0 := [1, 0, 1, 0, 1, 1, 1, 1, 1, 0]) (p1 := [1, 0, 1, 0, 1, 1, 1, 1, 1, 1]) (c := (Operand.tmp 8)) (b := a0 == 13) (by kernel_rfl) (by kernel_rfl) ?_ ?_
      · intro h_
        have h467 : a0 = 13 := by simpa using h_
        clear h_
        rw [if_pos h467] at H
        refine w_seq (p := [1, 0, 1, 0, 1, 1, 1, 1, 1, 0]) (p0 := [1, 0, 1, 0, 1, 1, 1, 1, 1, 0, 0]) (p1 := [1, 0, 1, 0, 1, 1, 1, 1, 1, 0, 1]) (by kernel_rfl) ?_
        refine w_region (p := [1, 0, 1, 0, 1, 1, 1, 1, 1, 0, 0]) (id := 7) (by kernel_rfl) ?_
        refine r_vals 0 1 [.string (⟨#[92, 114]⟩ : ByteArray)] (by kernel_rfl) (by kernel_rfl) ?_
        refine r_fin 1 (by kernel_rfl) ?_
        refine q_then ?_
        refine w_ret (p := [1, 0, 1, 0, 1, 1, 1, 1, 1, 0, 1]) (by kernel_rfl) ?_
        refine q_in_r ?_
        refine q_then_r ?_
        obtain rfl := Option.some.inj H
        refine HR _ _ (body_ret (vs := [.string (⟨#[92, 114]⟩ : ByteArray)]) (rv_tmp (by kernel_rfl) rfl) rfl ?_)
        exact ⟨rfl, (Kp.refl No w)⟩
      · intro h_
        have h467 : ¬ (a0 = 13) := by simpa using h_
        clear h_
        rw [if_neg h467] at H
        refine w_seq (p := [1, 0, 1, 0, 1, 1, 1, 1, 1, 1]) (p0 := [1, 0, 1, 0, 1, 1, 1, 1, 1, 1, 0]) (p1 := [1, 0, 1, 0, 1, 1, 1, 1, 1, 1, 1]) (by kernel_rfl) ?_
        refine w_seq (p := [1, 0, 1, 0, 1, 1, 1, 1, 1, 1, 0]) (p0 := [1, 0, 1, 0, 1, 1, 1, 1, 1, 1, 0, 0]) (p1 := [1, 0, 1, 0, 1, 1, 1, 1, 1, 1, 0, 1]) (by kernel_rfl) ?_
        refine w_region (p := [1, 0, 1, 0, 1, 1, 1, 1, 1, 1, 0, 0]) (id := 8) (by kernel_rfl) ?_
        refine r_vals 0 2 [.bool (a0 == 92), .bool (a0 == 92)] (by kernel_rfl) (by kernel_rfl) ?_
        refine r_fin 2 (by kernel_rfl) ?_
        refine q_then ?_
        refine w_cond (p := [1, 0, 1, 0, 1, 1, 1, 1, 1, 1, 0, 1]) (p0 := [1, 0, 1, 0, 1, 1, 1, 1, 1, 1, 0, 1, 0]) (p1 := [1, 0, 1, 0, 1, 1, 1, 1, 1, 1, 0, 1, 1]) (c := (Operand.tmp 10)) (b := a0 == 92) (by kernel_rfl) (by kernel_rfl) ?_ ?_
        · intro h_
          have h468 : a0 = 92 := by simpa using h_
          clear h_
          rw [if_pos h468] at H
          refine w_skip (p := [1, 0, 1, 0, 1, 1, 1, 1, 1, 1, 0, 1, 0]) (by kernel_rfl) ?_
          refine q_then ?_
          refine w_into (class_spelling.j0F a0 (a0 == 92)) (by kernel_rfl) (fun u_ => ?_)
          exact class_spelling.j0.ok K a0 w r  HR  (a0 == 92) u_ w (Kp.refl No w)  H
        · intro h_
          have h468 : ¬ (a0 = 92) := by simpa using h_
          clear h_
          rw [if_neg h468] at H
          refine w_seq (p := [1, 0, 1, 0, 1, 1, 1, 1, 1, 1, 0, 1, 1]) (p0 := [1, 0, 1, 0, 1, 1, 1, 1, 1, 1, 0, 1, 1, 0]) (p1 := [1, 0, 1, 0, 1, 1, 1, 1, 1, 1, 0, 1, 1, 1]) (by kernel_rfl) ?_
          refine w_region (p := [1, 0, 1, 0, 1, 1, 1, 1, 1, 1, 0, 1, 1, 0]) (id := 9) (by kernel_rfl) ?_
          refine r_vals 0 2 [.bool (a0 == 93), .bool (a0 == 93)] (by kernel_rfl) (by kernel_rfl) ?_
          refine r_fin 2 (by kernel_rfl) ?_
          refine q_then ?_
          refine w_cond (p := [1, 0, 1, 0, 1, 1, 1, 1, 1, 1, 0, 1, 1, 1]) (p0 := [1, 0, 1, 0, 1, 1, 1, 1, 1, 1, 0, 1, 1, 1, 0]) (p1 := [1, 0, 1, 0, 1, 1, 1, 1, 1, 1, 0, 1, 1, 1, 1]) (c := (Operand.tmp 10)) (b := a0 == 93) (by kernel_rfl) (by kernel_rfl) ?_ ?_
          · intro h_
            have h469 : a0 = 93 := by simpa using h_
            clear h_
            rw [if_pos h469] at H
            refine w_skip (p := [1, 0, 1, 0, 1, 1, 1, 1, 1, 1, 0, 1, 1, 1, 0]) (by kernel_rfl) ?_
            refine q_then ?_
            refine w_into (class_spelling.j0F a0 (a0 == 93)) (by kernel_rfl) (fun u_ => ?_)
            exact class_spelling.j0.ok K a0 w r  HR  (a0 == 93) u_ w (Kp.refl No w)  H
          · intro h_
            have h469 : ¬ (a0 = 93) := by simpa using h_
            clear h_
            rw [if_neg h469] at H
            refine w_seq (p := [1, 0, 1, 0, 1, 1, 1, 1, 1, 1, 0, 1, 1, 1, 1]) (p0 := [1, 0, 1, 0, 1, 1, 1, 1, 1, 1, 0, 1, 1, 1, 1, 0]) (p1 := [1, 0, 1, 0, 1, 1, 1, 1, 1, 1, 0, 1, 1, 1, 1, 1]) (by kernel_rfl) ?_
            refine w_region (p := [1, 0, 1, 0, 1, 1, 1, 1, 1, 1, 0, 1, 1, 1, 1, 0]) (id := 10) (by kernel_rfl) ?_
            refine r_vals 0 2 [.bool (a0 == 45), .bool (a0 == 45)] (by kernel_rfl) (by kernel_rfl) ?_
            refine r_fin 2 (by kernel_rfl) ?_
            refine q_then ?_
            refine w_cond (p := [1, 0, 1, 0, 1, 1, 1, 1, 1, 1, 0, 1, 1, 1, 1, 1]) (p0 := [1, 0, 1, 0, 1, 1, 1, 1, 1, 1, 0, 1, 1, 1, 1, 1, 0]) (p1 := [1, 0, 1, 0, 1, 1, 1, 1, 1, 1, 0, 1, 1, 1, 1, 1, 1]) (c := (Operand.tmp 10)) (b := a0 == 45) (by kernel_rfl) (by kernel_rfl) ?_ ?_
            · intro h_
              have h470 : a0 = 45 := by simpa using h_
              clear h_
              rw [if_pos h470] at H
              refine w_skip (p := [1, 0, 1, 0, 1, 1, 1, 1, 1, 1, 0, 1, 1, 1, 1, 1, 0]) (by kernel_rfl) ?_
              refine q_then ?_
              refine w_into (class_spelling.j0F a0 (a0 == 45)) (by kernel_rfl) (fun u_ => ?_)
              exact class_spelling.j0.ok K a0 w r  HR  (a0 == 45) u_ w (Kp.refl No w)  H
            · intro h_
              have h470 : ¬ (a0 = 45) := by simpa using h_
              clear h_
              rw [if_neg h470] at H
              refine w_region (p := [1, 0, 1, 0, 1, 1, 1, 1, 1, 1, 0, 1, 1, 1, 1, 1, 1]) (id := 11) (by kernel_rfl) ?_
              refine r_vals 0 2 [.bool (a0 == 94), .bool (a0 == 94)] (by kernel_rfl) (by kernel_rfl) ?_
              refine r_fin 2 (by kernel_rfl) ?_
              refine q_then ?_
              refine w_into (class_spelling.j0F a0 (a0 == 94)) (by kernel_rfl) (fun u_ => ?_)
              exact class_spelling.j0.ok K a0 w r  HR  (a0 == 94) u_ w (Kp.refl No w)  H
/-! ### dowel/class.Text -/
def class_Text.F1 (A734 : Option Addr) (x733 : Nat) (c735 : Nat) (A592 : Option Addr) (t587 : List Tapi_Range) (c593 : Nat) (x736 : Int) (u_ : Nat → Value) : Array Value := #[u_ 0, u_ 1, u_ 2, .slice A734 x733 c735, u_ 4, u_ 5, u_ 6, u_ 7, u_ 8, u_ 9, u_ 10, u_ 11, u_ 12, u_ 13, u_ 14, u_ 15, .slice A592 t587.length c593, .int .i64 (t587.length : Int), .int .i64 x736, u_ 19, u_ 20, u_ 21, u_ 22, u_ 23, u_ 24, u_ 25, u_ 26, u_ 27, u_ 28, u_ 29, u_ 30, u_ 31, u_ 32, u_ 33, u_ 34, u_ 35, u_ 36, u_ 37, u_ 38, u_ 39, u_ 40, u_ 41, u_ 42, u_ 43, u_ 44, u_ 45, u_ 46, u_ 47, u_ 48, u_ 49, u_ 50]
def class_Text.F1_0 (A868 : Option Addr) (x867 : Nat) (c869 : Nat) (u_ : Nat → Value) : Array Value := #[u_ 0, u_ 1, u_ 2, .slice A868 x867 c869, u_ 4, u_ 5, u_ 6, u_ 7, u_ 8, u_ 9, u_ 10, u_ 11, u_ 12, u_ 13, u_ 14, u_ 15, u_ 16, u_ 17, u_ 18, u_ 19, u_ 20, u_ 21, u_ 22, u_ 23, u_ 24, u_ 25, u_ 26, u_ 27, u_ 28, u_ 29, u_ 30, u_ 31, u_ 32, u_ 33, u_ 34, u_ 35, u_ 36, u_ 37, u_ 38, u_ 39, u_ 40, u_ 41, u_ 42, u_ 43, u_ 44, u_ 45, u_ 46, u_ 47, u_ 48, u_ 49, u_ 50]
def class_Text.j2F (A819 : Option Addr) (x818 : List Int) (c820 : Nat) (b748 : Nat) (A592 : Option Addr) (t587 : List Tapi_Range) (c593 : Nat) (x736 : Int) (u_ : Nat → Value) : Array Value := #[u_ 0, u_ 1, u_ 2, .slice A819 x818.length c820, u_ 4, .pointer (some ⟨b748, 0, none⟩), u_ 6, u_ 7, u_ 8, u_ 9, u_ 10, u_ 11, u_ 12, u_ 13, u_ 14, u_ 15, .slice A592 t587.length c593, .int .i64 (t587.length : Int), .int .i64 x736, u_ 19, u_ 20, u_ 21, u_ 22, u_ 23, u_ 24, u_ 25, u_ 26, u_ 27, u_ 28, u_ 29, u_ 30, u_ 31, u_ 32, u_ 33, u_ 34, u_ 35, u_ 36, u_ 37, u_ 38, u_ 39, u_ 40, u_ 41, u_ 42, u_ 43, u_ 44, u_ 45, u_ 46, u_ 47, u_ 48, u_ 49, u_ 50]
def class_Text.j3F (A856 : Option Addr) (x855 : List Int) (c857 : Nat) (A592 : Option Addr) (t587 : List Tapi_Range) (c593 : Nat) (x736 : Int) (u_ : Nat → Value) : Array Value := #[u_ 0, u_ 1, u_ 2, .slice A856 x855.length c857, u_ 4, u_ 5, u_ 6, u_ 7, u_ 8, u_ 9, u_ 10, u_ 11, u_ 12, u_ 13, u_ 14, u_ 15, .slice A592 t587.length c593, .int .i64 (t587.length : Int), .int .i64 x736, u_ 19, u_ 20, u_ 21, u_ 22, u_ 23, u_ 24, u_ 25, u_ 26, u_ 27, u_ 28, u_ 29, u_ 30, u_ 31, u_ 32, u_ 33, u_ 34, u_ 35, u_ 36, u_ 37, u_ 38, u_ 39, u_ 40, u_ 41, u_ 42, u_ 43, u_ 44, u_ 45, u_ 46, u_ 47, u_ 48, u_ 49, u_ 50]
def class_Text.j3 (next1 : List Int → Nat → Int → Option (ByteArray)) (x736 : Int) (x855 : List Int) : Option (ByteArray) := next1 x855 x855.length (W (x736 + 1))
def class_Text.j2 (t587 : List Tapi_Range) (x736 : Int) (K : Nat) (next1 : List Int → Nat → Int → Option (ByteArray)) (x818 : List Int) : Option (ByteArray) := if (((rd zapi_Range t587 x736)).f1) > (((rd zapi_Range t587 x736)).f0) then ((class_spelling.f K (((rd zapi_Range t587 x736)).f1)).bind fun t829 => (if (x818.length + t829.size) * 2 ≤ 140737488355328 then (class_Text.j3 next1 x736 (x818 ++ (bytesI t829))) else none)) else (class_Text.j3 next1 x736 x818)
def class_Text.b1 (t587 : List Tapi_Range) (K : Nat) (next1 : List Int → Nat → Int → Option (ByteArray)) (brk1_0 : List Int → Nat → Option (ByteArray)) (x732 : List Int) (x733 : Nat) (x736 : Int) : Option (ByteArray) := if x736 < (t587.length : Int) then (if 0 ≤ x736 then ((class_spelling.f K (((rd zapi_Range t587 x736)).f0)).bind fun t762 => (if (x733 + t762.size) * 2 ≤ 140737488355328 then (if (W8 ((((rd zapi_Range t587 x736)).f1) - (((rd zapi_Range t587 x736)).f0))) > 1 then (if ((x732 ++ (bytesI t762)).length + 1) * 2 ≤ 140737488355328 then (class_Text.j2 t587 x736 K next1 ((x732 ++ (bytesI t762)) ++ ([45] : List Int))) else none) else (class_Text.j2 t587 x736 K next1 (x732 ++ (bytesI t762)))) else none)) else none) else (brk1_0 x732 x733)
def class_Text.l1 (t587 : List Tapi_Range) (K : Nat) (brk1_0 : List Int → Nat → Option (ByteArray)) : Nat → List Int → Nat → Int → Option (ByteArray)
  | 0, _, _, _ => none
  | n_ + 1, x732, x733, x736 => class_Text.b1 t587 K (class_Text.l1 t587 K brk1_0 n_) brk1_0 x732 x733 x736
def class_Text.j0F (b513 : Nat) (A578 : Option Addr) (x577 : Nat) (c579 : Nat) (u_ : Nat → Value) : Array Value := #[u_ 0, .pointer (some ⟨b513, 0, none⟩), u_ 2, .slice A578 x577 c579, u_ 4, u_ 5, u_ 6, u_ 7, u_ 8, u_ 9, u_ 10, u_ 11, u_ 12, u_ 13, u_ 14, u_ 15, u_ 16, u_ 17, u_ 18, u_ 19, u_ 20, u_ 21, u_ 22, u_ 23, u_ 24, u_ 25, u_ 26, u_ 27, u_ 28, u_ 29, u_ 30, u_ 31, u_ 32, u_ 33, u_ 34, u_ 35, u_ 36, u_ 37, u_ 38, u_ 39, u_ 40, u_ 41, u_ 42, u_ 43, u_ 44, u_ 45, u_ 46, u_ 47, u_ 48, u_ 49, u_ 50]
def class_Text.j0 (K : Nat) (y580 : Int) (y581 : Int) (y582 : Int) (y583 : Int) (x576 : List Int) (x577 : Nat) : Option (ByteArray) := (class_Ranges.f K (⟨y580, y581, y582, y583⟩ : Tapi_Class)).bind fun t587 => (class_Text.l1 t587 K (fun x866 x867 => if (x867 + 1) * 2 ≤ 140737488355328 then (some (strI (x866 ++ ([93] : List Int)))) else none) K x576 x577 0)
def class_Text.f (K : Nat) (a0 : Tapi_Class) : Option (ByteArray) := (class_Count.f K a0).bind fun t526 => (if t526 > 128 then ((class_Not.f K a0).bind fun t558 => (class_Text.j0 K t558.f0 t558.f1 t558.f2 t558.f3 (([91] : List Int) ++ ([94] : List Int)) ((([91] : List Int) ++ ([94] : List Int)).length))) else (class_Text.j0 K a0.f0 a0.f1 a0.f2 a0.f3 ([91] : List Int) 1))
def class_Text.R (r : ByteArray) (w : World) : Ending → World → Prop := fun e w' => e = .returned (.string r) ∧ Kp No w w'
set_option maxRecDepth 20000 in
set_option maxHeartbeats 4000000 in
theorem class_Text.j3.ok (K : Nat) (a0 : Tapi_Class) (w : World) (r : ByteArray) {Q : Exit → Act → World → Prop} (A592 : Option Addr) (t587 : List Tapi_Range) (c593 : Nat) (x736 : Int) (next1 : List Int → Nat → Int → Option (ByteArray)) (brk1_0 : List Int → Nat → Option (ByteArray)) (HR : ∀ a w', bodyPost Try.prog Try.f21 (class_Text.R r w) .ret a w' → Q .ret a w') (HN1 : ∀ (x732q : List Int) (x733q : Nat) (x736q : Int) (A734q : Option Addr) (c735q : Nat) (u729q : Nat → Value) (w730q : World) (k731q : Kp No w w730q) (ho740q : Ow w (kInt .u8 5) w730q A734q x733q c735q x732q) (ho741q : Ow w (Kapi_Range 44) w730q A592 t587.length c593 t587) (n742q : Dj (Ra A734q) (Ra A592)), next1 x732q x733q x736q = some r → Q .normal ⟨class_Text.F1 A734q x733q c735q A592 t587 c593 x736q u729q, []⟩ w730q) (HX1_0 : ∀ (x866q : List Int) (x867q : Nat) (A868q : Option Addr) (c869q : Nat) (u864q : Nat → Value) (w862q : World) (k863q : Kp No w w862q) (ho871q : Ow w (kInt .u8 5) w862q A868q x867q c869q x866q), brk1_0 x866q x867q = some r → Q (.exit 0) ⟨class_Text.F1_0 A868q x867q c869q u864q, []⟩ w862q) (x855 : List Int) (A856 : Option Addr) (c857 : Nat) (u853 : Nat → Value) (w851 : World) (k852 : Kp No w w851) (ho859 : Ow w (kInt .u8 5) w851 A856 x855.length c857 x855) (ho860 : Ow w (Kapi_Range 44) w851 A592 t587.length c593 t587) (n861 : Dj (Ra A856) (Ra A592)) (H : class_Text.j3 next1 x736 x855 = some r) : (Exit.then (fun a w => (cd Try.f21 [1, 1, 1, 0, 1, 0, 0, 1, 1, 1]).wp Try.prog Q a w) Q) .normal ⟨class_Text.j3F A856 x855 c857 A592 t587 c593 x736 u853, []⟩ w851 := by
  unfold class_Text.j3 at H
  refine q_then ?_
  refine w_region (p := [1, 1, 1, 0, 1, 0, 0, 1, 1, 1]) (id := 13) (by kernel_rfl) ?_
  refine r_vals 0 2 [.int .i64 (W (x736 + 1)), .int .i64 (W (x736 + 1))] (by kernel_rfl) (by kernel_rfl) ?_
  refine r_fin 2 (by kernel_rfl) ?_
  refine q_into (class_Text.F1 A856 x855.length c857 A592 t587 c593 (W (x736 + 1))) (by kernel_rfl) (fun u_ => ?_)
  exact HN1 x855 x855.length (W (x736 + 1)) A856 c857 u_ w851 k852 ho859 ho860 n861 H
set_option maxRecDepth 20000 in
set_option maxHeartbeats 4000000 in
theorem class_Text.j2.ok (K : Nat) (a0 : Tapi_Class) (w : World) (r : ByteArray) {Q : Exit → Act → World → Prop} (b748 : Nat) (A592 : Option Addr) (t587 : List Tapi_Range) (c593 : Nat) (x736 : Int) (next1 : List Int → Nat → Int → Option (ByteArray)) (brk1_0 : List Int → Nat → Option (ByteArray)) (HR : ∀ a w', bodyPost Try.prog Try.f21 (class_Text.R r w) .ret a w' → Q .ret a w') (HN1 : ∀ (x732q : List Int) (x733q : Nat) (x736q : Int) (A734q : Option Addr) (c735q : Nat) (u729q : Nat → Value) (w730q : World) (k731q : Kp No w w730q) (ho740q : Ow w (kInt .u8 5) w730q A734q x733q c735q x732q) (ho741q : Ow w (Kapi_Range 44) w730q A592 t587.length c593 t587) (n742q : Dj (Ra A734q) (Ra A592)), next1 x732q x733q x736q = some r → Q .normal ⟨class_Text.F1 A734q x733q c735q A592 t587 c593 x736q u729q, []⟩ w730q) (HX1_0 : ∀ (x866q : List Int) (x867q : Nat) (A868q : Option Addr) (c869q : Nat) (u864q : Nat → Value) (w862q : World) (k863q : Kp No w w862q) (ho871q : Ow w (kInt .u8 5) w862q A868q x867q c869q x866q), brk1_0 x866q x867q = some r → Q (.exit 0) ⟨class_Text.F1_0 A868q x867q c869q u864q, []⟩ w862q) (x818 : List Int) (A819 : Option Addr) (c820 : Nat) (u816 : Nat → Value) (w814 : World) (k815 : Kp No w w814) (hb822 : Blk w814 b748 #[.int .u8 (((rd zapi_Range t587 x736)).f0), .int .u8 (((rd zapi_Range t587 x736)).f1)] 44) (ghb822 : w.heap.size ≤ b748) (ho823 : Ow w (kInt .u8 5) w814 A819 x818.length c820 x818) (ho824 : Ow w (Kapi_Range 44) w814 A592 t587.length c593 t587) (n825 : Dj (One b748) (Ra A819)) (n826 : Dj (One b748) (Ra A592)) (n827 : Dj (Ra A819) (Ra A592)) (H : class_Text.j2 t587 x736 K next1 x818 = some r) : (cd Try.f21 [1, 1, 1, 0, 1, 0, 0, 1, 1, 0, 0, 1, 1, 1]).wp Try.prog (Exit.inBlock 1 (Exit.then (fun a w => (cd Try.f21 [1, 1, 1, 0, 1, 0, 0, 1, 1, 1]).wp Try.prog Q a w) Q)) ⟨class_Text.j2F A819 x818 c820 b748 A592 t587 c593 x736 u816, []⟩ w814 := by
  unfold class_Text.j2 at H
  refine w_seq (p := [1, 1, 1, 0, 1, 0, 0, 1, 1, 0, 0, 1, 1, 1]) (p0 := [1, 1, 1, 0, 1, 0, 0, 1, 1, 0, 0, 1, 1, 1, 0]) (p1 := [1, 1, 1, 0, 1, 0, 0, 1, 1, 0, 0, 1, 1, 1, 1]) (by kernel_rfl) ?_
  refine w_region (p := [1, 1, 1, 0, 1, 0, 0, 1, 1, 0, 0, 1, 1, 1, 0]) (id := 11) (by kernel_rfl) ?_
  refine r_vals 0 1 [.pointer (some ⟨b748, 1, none⟩)] (by kernel_rfl) (by kernel_rfl) ?_
  refine r_do 1 (by kernel_rfl) (og_load (T := 5) (x := (Operand.tmp 36)) (b := b748) (off := 1) (.int .u8 (((rd zapi_Range t587 x736)).f1)) (by kernel_rfl) (by kernel_rfl) hb822 (by kernel_rfl) ?_) 
  refine r_vals 2 3 [.pointer (some ⟨b748, 0, none⟩)] (by kernel_rfl) (by kernel_rfl) ?_
  refine r_do 3 (by kernel_rfl) (og_load (T := 5) (x := (Operand.tmp 38)) (b := b748) (off := 0) (.int .u8 (((rd zapi_Range t587 x736)).f0)) (by kernel_rfl) (by kernel_rfl) hb822 (by kernel_rfl) ?_) 
  refine r_vals 4 5 [.bool (decide ((((rd zapi_Range t587 x736)).f1) > (((rd zapi_Range t587 x736)).f0)))] (by kernel_rfl) (by kernel_rfl) ?_
  refine r_fin 5 (by kernel_rfl) ?_
  refine q_then ?_
  refine w_cond (p := [1, 1, 1, 0, 1, 0, 0, 1, 1, 0, 0, 1, 1, 1, 1]) (p0 := [1, 1, 1, 0, 1, 0, 0, 1, 1, 0, 0, 1, 1, 1, 1, 0]) (p1 := [1, 1, 1, 0, 1, 0, 0, 1, 1, 0, 0, 1, 1, 1, 1, 1]) (c := (Operand.tmp 40)) (b := decide ((((rd zapi_Range t587 x736)).f1) > (((rd zapi_Range t587 x736)).f0))) (by kernel_rfl) (by kernel_rfl) ?_ ?_
  · intro h_
    have h828 : (((rd zapi_Range t587 x736)).f1) > (((rd zapi_Range t587 x736)).f0) := by simpa using h_
    clear h_
    rw [if_pos h828] at H
    refine w_region (p := [1, 1, 1, 0, 1, 0, 0, 1, 1, 0, 0, 1, 1, 1, 1, 0]) (id := 12) (by kernel_rfl) ?_
    refine r_vals 0 2 [.slice A819 x818.length c820, .pointer (some ⟨b748, 1, none⟩)] (by kernel_rfl) (by kernel_rfl) ?_
    refine r_do 2 (by kernel_rfl) (og_load (T := 5) (x := (Operand.tmp 42)) (b := b748) (off := 1) (.int .u8 (((rd zapi_Range t587 x736)).f1)) (by kernel_rfl) (by kernel_rfl) hb822 (by kernel_rfl) ?_) 
    obtain ⟨t829, ht830, H⟩ := Option.bind_eq_some_iff.1 H
    refine r_do 3 (by kernel_rfl) (og_call (g := 61) (av := #[.int .u8 (((rd zapi_Range t587 x736)).f1)]) (by kernel_rfl) ?_) 
    refine (class_spelling.ok K (((rd zapi_Range t587 x736)).f1) w814 t829 ht830).mono ?_
    rintro e w831 ⟨rfl, k832⟩
    refine ⟨_, rfl, ?_⟩
    have k833 := Kp.trans k815 k832 (fun _ h => h.elim)
    have hb834 := Blk.kp hb822 k832 id
    have ho835 := Ow.kpNo ho823 k832
    have ho836 := Ow.kpNo ho824 k832
    refine p_split ((x818.length + t829.size) * 2 ≤ 140737488355328) (fun h837 => ?_) (fun h837 => ?_)
    · rw [if_pos h837] at H
      refine r_do 4 (by kernel_rfl) (ow_appendS (w0 := w) (T := 110) (U := 9) (e := 5) (n := x818.length) (c := c820) (sl := (Operand.tmp 41)) (x := (Operand.tmp 44)) (A := A819) (xs := x818) (s := t829) (by kernel_rfl) (by kernel_rfl) (by kernel_rfl) (by kernel_rfl) (by kernel_rfl) ho835 (by kernel_rfl) h837 (Kp.size k833) ?_) 
      intro A842 c843 w838 ho840 k839 hn841 ha845
      have n846 := blk_dj_app hb834 n825 hn841
      have n847 := Ow.dj_app ho836 (Dj.symm n827) hn841
      clear hn841 ha845
      have k848 := Kp.own ho835 k833 k839
      have hb849 := Blk.kpOne hb834 k839 n825
      have ho850 := Ow.kp ho836 k839 (Dj.symm n827)
      refine r_vals 5 6 [.slice A842 ((x818 ++ (bytesI t829)).length) c843] (by kernel_rfl) (by kernel_rfl) ?_
      refine r_fin 6 (by kernel_rfl) ?_
      refine q_in ?_
      refine q_into (class_Text.j3F A842 (x818 ++ (bytesI t829)) c843 A592 t587 c593 x736) (by kernel_rfl) (fun u_ => ?_)
      exact class_Text.j3.ok K a0 w r A592 t587 c593 x736 next1 brk1_0 HR HN1 HX1_0 (x818 ++ (bytesI t829)) A842 c843 u_ w838 k848 ho840 ho850 (Dj.symm n847) H
    · rw [if_neg h837] at H
      cases H
  · intro h_
    have h828 : ¬ ((((rd zapi_Range t587 x736)).f1) > (((rd zapi_Range t587 x736)).f0)) := by simpa using h_
    clear h_
    rw [if_neg h828] at H
    refine w_skip (p := [1, 1, 1, 0, 1, 0, 0, 1, 1, 0, 0, 1, 1, 1, 1, 1]) (by kernel_rfl) ?_
    refine q_in ?_
    refine q_into (class_Text.j3F A819 x818 c820 A592 t587 c593 x736) (by kernel_rfl) (fun u_ => ?_)
    exact class_Text.j3.ok K a0 w r A592 t587 c593 x736 next1 brk1_0 HR HN1 HX1_0 x818 A819 c820 u_ w814 k815 ho823 ho824 n827 H
set_option maxRecDepth 20000 in
set_option maxHeartbeats 4000000 in
theorem class_Text.b1.ok (K : Nat) (a0 : Tapi_Class) (w : World) (r : ByteArray) (A592 : Option Addr) (t587 : List Tapi_Range) (c593 : Nat) {Q : Exit → Act → World → Prop} (HR : ∀ a w', bodyPost Try.prog Try.f21 (class_Text.R r w) .ret a w' → Q .ret a w') {next1 : List Int → Nat → Int → Option (ByteArray)} {brk1_0 : List Int → Nat → Option (ByteArray)} (HN1 : ∀ (x732q : List Int) (x733q : Nat) (x736q : Int) (A734q : Option Addr) (c735q : Nat) (u729q : Nat → Value) (w730q : World) (k731q : Kp No w w730q) (ho740q : Ow w (kInt .u8 5) w730q A734q x733q c735q x732q) (ho741q : Ow w (Kapi_Range 44) w730q A592 t587.length c593 t587) (n742q : Dj (Ra A734q) (Ra A592)), next1 x732q x733q x736q = some r → Q .normal ⟨class_Text.F1 A734q x733q c735q A592 t587 c593 x736q u729q, []⟩ w730q) (HX1_0 : ∀ (x866q : List Int) (x867q : Nat) (A868q : Option Addr) (c869q : Nat) (u864q : Nat → Value) (w862q : World) (k863q : Kp No w w862q) (ho871q : Ow w (kInt .u8 5) w862q A868q x867q c869q x866q), brk1_0 x866q x867q = some r → Q (.exit 0) ⟨class_Text.F1_0 A868q x867q c869q u864q, []⟩ w862q) (x732 : List Int) (x733 : Nat) (x736 : Int) (A734 : Option Addr) (c735 : Nat) (u729 : Nat → Value) (w730 : World) (k731 : Kp No w w730) (ho740 : Ow w (kInt .u8 5) w730 A734 x733 c735 x732) (ho741 : Ow w (Kapi_Range 44) w730 A592 t587.length c593 t587) (n742 : Dj (Ra A734) (Ra A592)) (H : class_Text.b1 t587 K next1 brk1_0 x732 x733 x736 = some r) : (cd Try.f21 [1, 1, 1, 0, 1, 0, 0]).wp Try.prog Q ⟨class_Text.F1 A734 x733 c735 A592 t587 c593 x736 u729, []⟩ w730 := by
  unfold class_Text.b1 at H
  refine w_seq (p := [1, 1, 1, 0, 1, 0, 0]) (p0 := [1, 1, 1, 0, 1, 0, 0, 0]) (p1 := [1, 1, 1, 0, 1, 0, 0, 1]) (by kernel_rfl) ?_
  refine w_region (p := [1, 1, 1, 0, 1, 0, 0, 0]) (id := 6) (by kernel_rfl) ?_
  refine r_vals 0 1 [.bool (decide (x736 < (t587.length : Int)))] (by kernel_rfl) (by kernel_rfl) ?_
  refine r_fin 1 (by kernel_rfl) ?_
  refine q_then ?_
  refine w_seq (p := [1, 1, 1, 0, 1, 0, 0, 1]) (p0 := [1, 1, 1, 0, 1, 0, 0, 1, 0]) (p1 := [1, 1, 1, 0, 1, 0, 0, 1, 1]) (by kernel_rfl) ?_
  refine w_cond (p := [1, 1, 1, 0, 1, 0, 0, 1, 0]) (p0 := [1, 1, 1, 0, 1, 0, 0, 1, 0, 0]) (p1 := [1, 1, 1, 0, 1, 0, 0, 1, 0, 1]) (c := (Operand.tmp 19)) (b := decide (x736 < (t587.length : Int))) (by kernel_rfl) (by kernel_rfl) ?_ ?_
  · intro h_
    have h743 : x736 < (t587.length : Int) := by simpa using h_
    clear h_
    rw [if_pos h743] at H
    refine w_skip (p := [1, 1, 1, 0, 1, 0, 0, 1, 0, 0]) (by kernel_rfl) ?_
    refine q_then ?_
    refine w_seq (p := [1, 1, 1, 0, 1, 0, 0, 1, 1]) (p0 := [1, 1, 1, 0, 1, 0, 0, 1, 1, 0]) (p1 := [1, 1, 1, 0, 1, 0, 0, 1, 1, 1]) (by kernel_rfl) ?_
    refine w_block (p := [1, 1, 1, 0, 1, 0, 0, 1, 1, 0]) (p0 := [1, 1, 1, 0, 1, 0, 0, 1, 1, 0, 0]) (id := 1) (by kernel_rfl) ?_
    refine w_seq (p := [1, 1, 1, 0, 1, 0, 0, 1, 1, 0, 0]) (p0 := [1, 1, 1, 0, 1, 0, 0, 1, 1, 0, 0, 0]) (p1 := [1, 1, 1, 0, 1, 0, 0, 1, 1, 0, 0, 1]) (by kernel_rfl) ?_
    refine w_region (p := [1, 1, 1, 0, 1, 0, 0, 1, 1, 0, 0, 0]) (id := 7) (by kernel_rfl) ?_
    refine p_split (0 ≤ x736) (fun h744 => ?_) (fun h744 => ?_)
    · rw [if_pos h744] at H
      refine r_do 0 (by kernel_rfl) (ow_index (K := (Kapi_Range 44)) (T := 38) (e := 44) (sz := 2) (x := (Operand.tmp 16)) (y := (Operand.tmp 18)) (k := .i64) (n := t587.length) (c := c593) (A := A592) (xs := t587) (iv := x736) (by kernel_rfl) (by kernel_rfl) (by kernel_rfl) (by kernel_rfl) h744 h743 (Ow.rdNo ho741) (Ow.len ho741) (by kernel_rfl) ?_) 
      refine r_do 1 (by kernel_rfl) (ow_loadE (K := (Kapi_Range 44)) (T := 44) (x := (Operand.tmp 20)) (off := 0) (A := A592) (n := t587.length) (xs := t587) (iv := x736) zapi_Range (.agg #[.int .u8 (((rd zapi_Range t587 x736)).f0), .int .u8 (((rd zapi_Range t587 x736)).f1)]) (by kernel_rfl) (by kernel_rfl) (Ow.rdNo ho741) (Ow.len ho741) h744 h743 (by kernel_rfl) ?_) 
      refine r_do 2 (by kernel_rfl) (og_alloc (T := 44) (cs := #[.int .u8 0, .int .u8 0]) (by kernel_rfl) (by kernel_rfl) ?_) 
      intro b748 w745 e749 hb747 k746
      have n750 := Ow.dj_block ho740 e749
      have n751 := Ow.dj_block ho741 e749
      have g752 : w.heap.size ≤ b748 := by rw [e749]; exact Kp.size k731
      clear e749
      have k753 := Kp.trans k731 k746 (fun _ h => h.elim)
      have ho754 := Ow.kpNo ho740 k746
      have ho755 := Ow.kpNo ho741 k746
      refine r_do 3 (by kernel_rfl) (og_store (T := 44) (x := (Operand.tmp 5)) (y := (Operand.tmp 21)) (b := b748) (off := 0) (.agg #[.int .u8 (((rd zapi_Range t587 x736)).f0), .int .u8 (((rd zapi_Range t587 x736)).f1)]) (by kernel_rfl) (by kernel_rfl) (by kernel_rfl) hb747 (cs' := #[.int .u8 (((rd zapi_Range t587 x736)).f0), .int .u8 (((rd zapi_Range t587 x736)).f1)]) (by kernel_rfl) ?_) 
      intro w757 hb756 k758 _
      have k759 := Kp.trans k753 k758 (fun x hx => .inr (by rw [show x = _ from hx]; exact g752))
      have ho760 := Ow.kp ho754 k758 n750
      have ho761 := Ow.kp ho755 k758 n751
      refine r_fin 4 (by kernel_rfl) ?_
      refine q_then ?_
      refine w_seq (p := [1, 1, 1, 0, 1, 0, 0, 1, 1, 0, 0, 1]) (p0 := [1, 1, 1, 0, 1, 0, 0, 1, 1, 0, 0, 1, 0]) (p1 := [1, 1, 1, 0, 1, 0, 0, 1, 1, 0, 0, 1, 1]) (by kernel_rfl) ?_
      refine w_region (p := [1, 1, 1, 0, 1, 0, 0, 1, 1, 0, 0, 1, 0]) (id := 8) (by kernel_rfl) ?_
      refine r_vals 0 2 [.slice A734 x733 c735, .pointer (some ⟨b748, 0, none⟩)] (by kernel_rfl) (by kernel_rfl) ?_
      refine r_do 2 (by kernel_rfl) (og_load (T := 5) (x := (Operand.tmp 23)) (b := b748) (off := 0) (.int .u8 (((rd zapi_Range t587 x736)).f0)) (by kernel_rfl) (by kernel_rfl) hb756 (by kernel_rfl) ?_) 
      obtain ⟨t762, ht763, H⟩ := Option.bind_eq_some_iff.1 H
      refine r_do 3 (by kernel_rfl) (og_call (g := 61) (av := #[.int .u8 (((rd zapi_Range t587 x736)).f0)]) (by kernel_rfl) ?_) 
      refine (class_spelling.ok K (((rd zapi_Range t587 x736)).f0) w757 t762 ht763).mono ?_
      rintro e w764 ⟨rfl, k765⟩
      refine ⟨_, rfl, ?_⟩
      have k766 := Kp.trans k759 k765 (fun _ h => h.elim)
      have hb767 := Blk.kp hb756 k765 id
      have ho768 := Ow.kpNo ho760 k765
      have ho769 := Ow.kpNo ho761 k765
      refine p_split ((x733 + t762.size) * 2 ≤ 140737488355328) (fun h770 => ?_) (fun h770 => ?_)
      · rw [if_pos h770] at H
        refine r_do 4 (by kernel_rfl) (ow_appendS (w0 := w) (T := 110) (U := 9) (e := 5) (n := x733) (c := c735) (sl := (Operand.tmp 22)) (x := (Operand.tmp 25)) (A := A734) (xs := x732) (s := t762) (by kernel_rfl) (by kernel_rfl) (by kernel_rfl) (by kernel_rfl) (by kernel_rfl) ho768 (by kernel_rfl) h770 (Kp.size k766) ?_) 
        intro A775 c776 w771 ho773 k772 hn774 ha778
        have n779 := blk_dj_app hb767 (Dj.symm n750) hn774
        have n780 := Ow.dj_app ho769 (Dj.symm n742) hn774
        clear hn774 ha778
        have k781 := Kp.own ho768 k766 k772
        have hb782 := Blk.kpOne hb767 k772 (Dj.symm n750)
        have ho783 := Ow.kp ho769 k772 (Dj.symm n742)
        refine r_vals 5 6 [.slice A775 ((x732 ++ (bytesI t762)).length) c776] (by kernel_rfl) (by kernel_rfl) ?_
        refine r_fin 6 (by kernel_rfl) ?_
        refine q_then ?_
        refine w_seq (p := [1, 1, 1, 0, 1, 0, 0, 1, 1, 0, 0, 1, 1]) (p0 := [1, 1, 1, 0, 1, 0, 0, 1, 1, 0, 0, 1, 1, 0]) (p1 := [1, 1, 1, 0, 1, 0, 0, 1, 1, 0, 0, 1, 1, 1]) (by kernel_rfl) ?_
        refine w_seq (p := [1, 1, 1, 0, 1, 0, 0, 1, 1, 0, 0, 1, 1, 0]) (p0 := [1, 1, 1, 0, 1, 0, 0, 1, 1, 0, 0, 1, 1, 0, 0]) (p1 := [1, 1, 1, 0, 1, 0, 0, 1, 1, 0, 0, 1, 1, 0, 1]) (by kernel_rfl) ?_
        refine w_region (p := [1, 1, 1, 0, 1, 0, 0, 1, 1, 0, 0, 1, 1, 0, 0]) (id := 9) (by kernel_rfl) ?_
        refine r_vals 0 1 [.pointer (some ⟨b748, 1, none⟩)] (by kernel_rfl) (by kernel_rfl) ?_
        refine r_do 1 (by kernel_rfl) (og_load (T := 5) (x := (Operand.tmp 27)) (b := b748) (off := 1) (.int .u8 (((rd zapi_Range t587 x736)).f1)) (by kernel_rfl) (by kernel_rfl) hb782 (by kernel_rfl) ?_) 
        refine r_vals 2 3 [.pointer (some ⟨b748, 0, none⟩)] (by kernel_rfl) (by kernel_rfl) ?_
        refine r_do 3 (by kernel_rfl) (og_load (T := 5) (x := (Operand.tmp 29)) (b := b748) (off := 0) (.int .u8 (((rd zapi_Range t587 x736)).f0)) (by kernel_rfl) (by kernel_rfl) hb782 (by kernel_rfl) ?_) 
        refine r_vals 4 6 [.int .u8 (W8 ((((rd zapi_Range t587 x736)).f1) - (((rd zapi_Range t587 x736)).f0))), .bool (decide ((W8 ((((rd zapi_Range t587 x736)).f1) - (((rd zapi_Range t587 x736)).f0))) > 1))] (by kernel_rfl) (by kernel_rfl) ?_
        refine r_fin 6 (by kernel_rfl) ?_
        refine q_then ?_
        refine w_cond (p := [1, 1, 1, 0, 1, 0, 0, 1, 1, 0, 0, 1, 1, 0, 1]) (p0 := [1, 1, 1, 0, 1, 0, 0, 1, 1, 0, 0, 1, 1, 0, 1, 0]) (p1 := [1, 1, 1, 0, 1, 0, 0, 1, 1, 0, 0, 1, 1, 0, 1, 1]) (c := (Operand.tmp 32)) (b := decide ((W8 ((((rd zapi_Range t587 x736)).f1) - (((rd zapi_Range t587 x736)).f0))) > 1)) (by kernel_rfl) (by kernel_rfl) ?_ ?_
        · intro h_
          have h784 : (W8 ((((rd zapi_Range t587 x736)).f1) - (((rd zapi_Range t587 x736)).f0))) > 1 := by simpa using h_
          clear h_
          rw [if_pos h784] at H
          refine w_region (p := [1, 1, 1, 0, 1, 0, 0, 1, 1, 0, 0, 1, 1, 0, 1, 0]) (id := 10) (by kernel_rfl) ?_
          refine r_vals 0 1 [.slice A775 ((x732 ++ (bytesI t762)).length) c776] (by kernel_rfl) (by kernel_rfl) ?_
          refine r_do 1 (by kernel_rfl) (ow_lit (K := (kInt .u8 5)) (w0 := w) (T := 110) (n := 1) (e := 5) (ps := #[(0, (Operand.const (Value.int IntKind.u8 45)))]) (cs := #[.int .u8 45]) (parts := [(0, .int .u8 45)]) ([45] : List Int) (by kernel_rfl) (by kernel_rfl) (by kernel_rfl) (by kernel_rfl) rfl rfl (by kernel_rfl) k781 ?_) 
          intro b788 w785 e789 ho787 k786
          have n791 := blk_dj_row hb782 e789
          have n792 := Ow.dj_row ho783 e789
          have n793 := Ow.dj_row ho773 e789
          clear e789
          have k794 := Kp.trans k781 k786 (fun _ h => h.elim)
          have hb795 := Blk.kp hb782 k786 id
          have ho796 := Ow.kpNo ho783 k786
          have ho797 := Ow.kpNo ho773 k786
          refine p_split (((x732 ++ (bytesI t762)).length + 1) * 2 ≤ 140737488355328) (fun h798 => ?_) (fun h798 => ?_)
          · rw [if_pos h798] at H
            refine r_do 2 (by kernel_rfl) (ow_append2 (K := (kInt .u8 5)) (w0 := w) (T := 110) (n := ((x732 ++ (bytesI t762)).length)) (c := c776) (m := 1) (d := 1) (s := (Operand.tmp 33)) (x := (Operand.tmp 34)) (A := A775) (D := (some ⟨b788, 0, none⟩)) (xs := (x732 ++ (bytesI t762))) (ys := ([45] : List Int)) (.int .u8 0) 1 (by kernel_rfl) (by kernel_rfl) (by kernel_rfl) (by kernel_rfl) (by kernel_rfl) ho797 (by kernel_rfl) (Ow.len ho787) (Ow.rdNo ho787) h798 k794 ?_) 
            intro A803 c804 w799 ho801 k800 hn802 ha806
            have n807 := blk_dj_app hb795 n779 hn802
            have n808 := Ow.dj_app ho796 n780 hn802
            have n809 := Ow.dj_app ho787 (Dj.symm n793) hn802
            clear hn802 ha806
            have k810 := Kp.own ho797 k794 k800
            have hb811 := Blk.kpOne hb795 k800 n779
            have ho812 := Ow.kp ho796 k800 n780
            have ho813 := Ow.kp ho787 k800 (Dj.symm n793)
            refine r_vals 3 4 [.slice A803 (((x732 ++ (bytesI t762)) ++ ([45] : List Int)).length) c804] (by kernel_rfl) (by kernel_rfl) ?_
            refine r_fin 4 (by kernel_rfl) ?_
            refine q_then ?_
            refine w_into (class_Text.j2F A803 ((x732 ++ (bytesI t762)) ++ ([45] : List Int)) c804 b748 A592 t587 c593 x736) (by kernel_rfl) (fun u_ => ?_)
            exact class_Text.j2.ok K a0 w r b748 A592 t587 c593 x736 next1 brk1_0 HR HN1 HX1_0 ((x732 ++ (bytesI t762)) ++ ([45] : List Int)) A803 c804 u_ w799 k810 hb811 g752 ho801 ho812 n807 (Dj.symm n751) (Dj.symm n808) H
          · rw [if_neg h798] at H
            cases H
        · intro h_
          have h784 : ¬ ((W8 ((((rd zapi_Range t587 x736)).f1) - (((rd zapi_Range t587 x736)).f0))) > 1) := by simpa using h_
          clear h_
          rw [if_neg h784] at H
          refine w_skip (p := [1, 1, 1, 0, 1, 0, 0, 1, 1, 0, 0, 1, 1, 0, 1, 1]) (by kernel_rfl) ?_
          refine q_then ?_
          refine w_into (class_Text.j2F A775 (x732 ++ (bytesI t762)) c776 b748 A592 t587 c593 x736) (by kernel_rfl) (fun u_ => ?_)
          exact class_Text.j2.ok K a0 w r b748 A592 t587 c593 x736 next1 brk1_0 HR HN1 HX1_0 (x732 ++ (bytesI t762)) A775 c776 u_ w771 k781 hb782 g752 ho773 ho783 n779 (Dj.symm n751) (Dj.symm n780) H
      · rw [if_neg h770] at H
        cases H
    · rw [if_neg h744] at H
      cases H
  · intro h_
    have h743 : ¬ (x736 < (t587.length : Int)) := by simpa using h_
    clear h_
    rw [if_neg h743] at H
    refine w_exit (p := [1, 1, 1, 0, 1, 0, 0, 1, 0, 1]) (id := 0) (by kernel_rfl) ?_
    refine q_then_x ?_
    refine q_into (class_Text.F1_0 A734 x733 c735) (by kernel_rfl) (fun u_ => ?_)
    exact HX1_0 x732 x733 A734 c735 u_ w730 k731 ho740 H
set_option maxRecDepth 20000 in
set_option maxHeartbeats 4000000 in
theorem class_Text.l1.ok (K : Nat) (a0 : Tapi_Class) (w : World) (r : ByteArray) (A592 : Option Addr) (t587 : List Tapi_Range) (c593 : Nat) {Q : Exit → Act → World → Prop} (HR : ∀ a w', bodyPost Try.prog Try.f21 (class_Text.R r w) .ret a w' → Q .ret a w') {brk1_0 : List Int → Nat → Option (ByteArray)} (HX1_0 : ∀ (x866q : List Int) (x867q : Nat) (A868q : Option Addr) (c869q : Nat) (u864q : Nat → Value) (w862q : World) (k863q : Kp No w w862q) (ho871q : Ow w (kInt .u8 5) w862q A868q x867q c869q x866q), brk1_0 x866q x867q = some r → Q (.exit 0) ⟨class_Text.F1_0 A868q x867q c869q u864q, []⟩ w862q) : ∀ (n_ : Nat) (x732 : List Int) (x733 : Nat) (x736 : Int) (A734 : Option Addr) (c735 : Nat) (u729 : Nat → Value) (w730 : World) (k731 : Kp No w w730) (ho740 : Ow w (kInt .u8 5) w730 A734 x733 c735 x732) (ho741 : Ow w (Kapi_Range 44) w730 A592 t587.length c593 t587) (n742 : Dj (Ra A734) (Ra A592)) (H : class_Text.l1 t587 K brk1_0 n_ x732 x733 x736 = some r), Code.rounds Try.prog (cd Try.f21 [1, 1, 1, 0, 1, 0, 0]) Q n_ ⟨class_Text.F1 A734 x733 c735 A592 t587 c593 x736 u729, []⟩ w730
  | 0, _, _, _, _, _, _, _, _, _, _, _, H => by cases H
  | n_ + 1, x732, x733, x736, A734, c735, u729, w730, k731, ho740, ho741, n742, H =>
    class_Text.b1.ok K a0 w r A592 t587 c593 (Q := Exit.then (Code.rounds Try.prog (cd Try.f21 [1, 1, 1, 0, 1, 0, 0]) Q n_) Q) (fun a w' h_ => q_then_r (HR a w' h_)) (fun x0_ x1_ x2_ x3_ x4_ x5_ x6_ x7_ x8_ x9_ x10_ h_ => class_Text.l1.ok K a0 w r A592 t587 c593 HR HX1_0 n_ x0_ x1_ x2_ x3_ x4_ x5_ x6_ x7_ x8_ x9_ x10_ h_) (fun x0_ x1_ x2_ x3_ x4_ x5_ x6_ x7_ h_ => q_then_x (HX1_0 x0_ x1_ x2_ x3_ x4_ x5_ x6_ x7_ h_)) x732 x733 x736 A734 c735 u729 w730 k731 ho740 ho741 n742 H
set_option maxRecDepth 20000 in
set_option maxHeartbeats 4000000 in
theorem class_Text.j0.ok (K : Nat) (a0 : Tapi_Class) (w : World) (r : ByteArray) {Q : Exit → Act → World → Prop} (b513 : Nat) (HR : ∀ a w', bodyPost Try.prog Try.f21 (class_Text.R r w) .ret a w' → Q .ret a w')  (x576 : List Int) (x577 : Nat) (y580 : Int) (y581 : Int) (y582 : Int) (y583 : Int) (A578 : Option Addr) (c579 : Nat) (u574 : Nat → Value) (w572 : World) (k573 : Kp No w w572) (hb584 : Blk w572 b513 #[.int .u64 y580, .int .u64 y581, .int .u64 y582, .int .u64 y583] 37) (ghb584 : w.heap.size ≤ b513) (ho585 : Ow w (kInt .u8 5) w572 A578 x577 c579 x576) (n586 : Dj (One b513) (Ra A578)) (H : class_Text.j0 K y580 y581 y582 y583 x576 x577 = some r) : (cd Try.f21 [1, 1, 1]).wp Try.prog Q ⟨class_Text.j0F b513 A578 x577 c579 u574, []⟩ w572 := by
  unfold class_Text.j0 at H
  refine w_seq (p := [1, 1, 1]) (p0 := [1, 1, 1, 0]) (p1 := [1, 1, 1, 1]) (by kernel_rfl) ?_
  refine w_seq (p := [1, 1, 1, 0]) (p0 := [1, 1, 1, 0, 0]) (p1 := [1, 1, 1, 0, 1]) (by kernel_rfl) ?_
  refine w_region (p := [1, 1, 1, 0, 0]) (id := 5) (by kernel_rfl) ?_
  refine r_do 0 (by kernel_rfl) (og_load (T := 37) (x := (Operand.tmp 1)) (b := b513) (off := 0) (.agg #[.int .u64 y580, .int .u64 y581, .int .u64 y582, .int .u64 y583]) (by kernel_rfl) (by kernel_rfl) hb584 (by kernel_rfl) ?_) 
  obtain ⟨t587, ht588, H⟩ := Option.bind_eq_some_iff.1 H
  refine r_do 1 (by kernel_rfl) (og_call (g := 18) (av := #[.agg #[.int .u64 y580, .int .u64 y581, .int .u64 y582, .int .u64 y583]]) (by kernel_rfl) ?_) 
  refine (class_Ranges.ok K (⟨y580, y581, y582, y583⟩ : Tapi_Class) w572 t587 ht588).mono ?_
  rintro e w589 ⟨A592, n595, c593, rfl, k590, ho596⟩
  obtain rfl := ho596.len
  refine ⟨_, rfl, ?_⟩
  have n597 := blk_dj_call hb584 ho596
  have n598 := Ow.dj_call ho585 ho596
  have ho594 := Ow.base ho596 k573
  have k599 := Kp.trans k573 k590 (fun _ h => h.elim)
  have hb600 := Blk.kp hb584 k590 id
  have ho601 := Ow.kpNo ho585 k590
  refine r_vals 2 4 [.int .i64 (t587.length : Int), .int .i64 0] (by kernel_rfl) (by kernel_rfl) ?_
  refine r_fin 4 (by kernel_rfl) ?_
  refine q_then ?_
  refine w_block (p := [1, 1, 1, 0, 1]) (p0 := [1, 1, 1, 0, 1, 0]) (id := 0) (by kernel_rfl) ?_
  refine w_into (class_Text.F1 A578 x577 c579 A592 t587 c593 0) (by kernel_rfl) (fun u_ => ?_)
  refine w_loop (p := [1, 1, 1, 0, 1, 0]) (p0 := [1, 1, 1, 0, 1, 0, 0]) K (by kernel_rfl) ?_
  refine class_Text.l1.ok K a0 w r A592 t587 c593 (fun a w' h_ => q_in_r (q_then_r (HR a w' h_))) ?_ K x576 x577 0 A578 c579 u_ w589 k599 ho601 ho594 n598 H
  intro x866 x867 A868 c869 u864 w862 k863 ho871 H
  try dsimp only at H
  refine q_in_hit ?_
  refine q_then ?_
  refine w_seq (p := [1, 1, 1, 1]) (p0 := [1, 1, 1, 1, 0]) (p1 := [1, 1, 1, 1, 1]) (by kernel_rfl) ?_
  refine w_region (p := [1, 1, 1, 1, 0]) (id := 14) (by kernel_rfl) ?_
  refine r_vals 0 1 [.slice A868 x867 c869] (by kernel_rfl) (by kernel_rfl) ?_
  refine r_do 1 (by kernel_rfl) (ow_lit (K := (kInt .u8 5)) (w0 := w) (T := 110) (n := 1) (e := 5) (ps := #[(0, (Operand.const (Value.int IntKind.u8 93)))]) (cs := #[.int .u8 93]) (parts := [(0, .int .u8 93)]) ([93] : List Int) (by kernel_rfl) (by kernel_rfl) (by kernel_rfl) (by kernel_rfl) rfl rfl (by kernel_rfl) k863 ?_) 
  intro b875 w872 e876 ho874 k873
  have n878 := Ow.dj_row ho871 e876
  clear e876
  have k879 := Kp.trans k863 k873 (fun _ h => h.elim)
  have ho880 := Ow.kpNo ho871 k873
  refine p_split ((x867 + 1) * 2 ≤ 140737488355328) (fun h881 => ?_) (fun h881 => ?_)
  · rw [if_pos h881] at H
    refine r_do 2 (by kernel_rfl) (ow_append2 (K := (kInt .u8 5)) (w0 := w) (T := 110) (n := x867) (c := c869) (m := 1) (d := 1) (s := (Operand.tmp 47)) (x := (Operand.tmp 48)) (A := A868) (D := (some ⟨b875, 0, none⟩)) (xs := x866) (ys := ([93] : List Int)) (.int .u8 0) 1 (by kernel_rfl) (by kernel_rfl) (by kernel_rfl) (by kernel_rfl) (by kernel_rfl) ho880 (by kernel_rfl) (Ow.len ho874) (Ow.rdNo ho874) h881 k879 ?_) 
    intro A886 c887 w882 ho884 k883 hn885 ha889
    have n890 := Ow.dj_app ho874 (Dj.symm n878) hn885
    clear hn885 ha889
    have k891 := Kp.own ho880 k879 k883
    have ho892 := Ow.kp ho874 k883 (Dj.symm n878)
    refine r_do 3 (by kernel_rfl) (og_bytesStr (src := 110) (dst := 9) (e := 5) (n := ((x866 ++ ([93] : List Int)).length)) (c := c887) (x := (Operand.tmp 49)) (A := A886) (xs := (x866 ++ ([93] : List Int))) (by kernel_rfl) (by kernel_rfl) (by kernel_rfl) (Ow.rdNo ho884) (Ow.len ho884) ?_) 
    refine r_vals 4 5 [.string (strI (x866 ++ ([93] : List Int)))] (by kernel_rfl) (by kernel_rfl) ?_
    refine r_fin 5 (by kernel_rfl) ?_
    refine q_then ?_
    refine w_ret (p := [1, 1, 1, 1, 1]) (by kernel_rfl) ?_
    obtain rfl := Option.some.inj H
    refine HR _ _ (body_ret (vs := [.string (strI (x866 ++ ([93] : List Int)))]) (rv_tmp (by kernel_rfl) rfl) rfl ?_)
    exact ⟨rfl, k891⟩
  · rw [if_neg h881] at H
    cases H
end Go.Proofs.Ytampekcanmakkaa.G
