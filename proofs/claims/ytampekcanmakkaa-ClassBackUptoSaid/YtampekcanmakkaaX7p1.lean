/- What the functions compute, and that the calls come to it: printed by a program. -/
import Derived.Test.YtampekcanmakkaaBase20
import Derived.Test.YtampekcanmakkaaProg
set_option linter.unusedVariables false
namespace Go.Proofs.Ytampekcanmakkaa.G
open Go Go.RowKit Go.Proofs
structure Tapi_Class where
  f0 : Int
  f1 : Int
  f2 : Int
  f3 : Int
def zapi_Class : Tapi_Class := ⟨0, 0, 0, 0⟩
def Kapi_Class (e : TypeId) : Kn Tapi_Class := ⟨4, e, fun x => [.int .u64 x.f0, .int .u64 x.f1, .int .u64 x.f2, .int .u64 x.f3], fun _ => rfl, fun x u hu => by simp at hu; rcases hu with rfl | rfl | rfl | rfl <;> rfl⟩
structure Tapi_Range where
  f0 : Int
  f1 : Int
def zapi_Range : Tapi_Range := ⟨0, 0⟩
def Kapi_Range (e : TypeId) : Kn Tapi_Range := ⟨2, e, fun x => [.int .u8 x.f0, .int .u8 x.f1], fun _ => rfl, fun x u hu => by simp at hu; rcases hu with rfl | rfl <;> rfl⟩
structure Tclass_reader where
  f0 : ByteArray
  f1 : Int
  f2 : Int
def zclass_reader : Tclass_reader := ⟨(⟨#[]⟩ : ByteArray), 0, 0⟩
def Kclass_reader (e : TypeId) : Kn Tclass_reader := ⟨3, e, fun x => [.string x.f0, .int .i64 x.f1, .int .i64 x.f2], fun _ => rfl, fun x u hu => by simp at hu; rcases hu with rfl | rfl | rfl <;> rfl⟩
structure Tapi_Fault where
  f0 : Int
  f1 : Int
def zapi_Fault : Tapi_Fault := ⟨0, 0⟩
def Kapi_Fault (e : TypeId) : Kn Tapi_Fault := ⟨2, e, fun x => [.int .i64 x.f0, .int .i64 x.f1], fun _ => rfl, fun x u hu => by simp at hu; rcases hu with rfl | rfl <;> rfl⟩

/-! ### dowel/class.Has -/
def class_Has.f (K : Nat) (a0 : Tapi_Class) (a1 : Int) : Option (Bool) := if 0 ≤ (shv .shr .u8 a1 6) then (if (shv .shr .u8 a1 6) < 4 then (if 0 ≤ (bits .and .u8 a1 63) then (some ((bits .and .u64 (shv .shr .u64 (rd 0 [a0.f0, a0.f1, a0.f2, a0.f3] (shv .shr .u8 a1 6)) (bits .and .u8 a1 63)) 1) != 0)) else none) else none) else none
def class_Has.R (r : Bool) (w : World) : Ending → World → Prop := fun e w' => e = .returned (.bool r) ∧ Kp No w w'
set_option maxRecDepth 20000 in
set_option maxHeartbeats 4000000 in
theorem class_Has.ok (K : Nat) (a0 : Tapi_Class) (a1 : Int) (w : World)  (r : Bool) (H : class_Has.f K a0 a1 = some r) : Calls Try.prog 70 #[.agg #[.int .u64 a0.f0, .int .u64 a0.f1, .int .u64 a0.f2, .int .u64 a0.f3], .int .u8 a1] w (class_Has.R r w) := by
  refine calls_cd (t := #[.agg #[.int .u64 a0.f0, .int .u64 a0.f1, .int .u64 a0.f2, .int .u64 a0.f3], .int .u8 a1, undef, undef, undef, undef, undef, undef, undef, undef, undef, undef, undef, undef]) Try.func70 (by kernel_rfl) (by kernel_rfl) ?_
  unfold class_Has.f at H
  have HR : ∀ a w', bodyPost Try.prog Try.f70 (class_Has.R r w) .ret a w' → bodyPost Try.prog Try.f70 (class_Has.R r w) .ret a w' := fun _ _ h => h
  refine w_seq (p := []) (p0 := [0]) (p1 := [1]) (by kernel_rfl) ?_
  refine w_region (p := [0]) (id := 0) (by kernel_rfl) ?_
  refine r_do 0 (by kernel_rfl) (og_box (T := 37) (x := (Operand.tmp 0)) (cs := #[.int .u64 a0.f0, .int .u64 a0.f1, .int .u64 a0.f2, .int .u64 a0.f3]) (by kernel_rfl) (by kernel_rfl) ?_) 
  intro b4 w1 e5 hb3 k2
  have g6 : w.heap.size ≤ b4 := by rw [e5]; exact Kp.size (Kp.refl No w)
  clear e5
  have k7 := Kp.trans (Kp.refl No w) k2 (fun _ h => h.elim)
  refine r_vals 1 2 [.bool false] (by kernel_rfl) (by kernel_rfl) ?_
  refine r_fin 2 (by kernel_rfl) ?_
  refine q_then ?_
  refine w_seq (p := [1]) (p0 := [1, 0]) (p1 := [1, 1]) (by kernel_rfl) ?_
  refine w_region (p := [1, 0]) (id := 1) (by kernel_rfl) ?_
  refine r_vals 0 2 [.int .u8 a1, .int .u8 (shv .shr .u8 a1 6)] (by kernel_rfl) (by kernel_rfl) ?_
  refine p_split (0 ≤ (shv .shr .u8 a1 6)) (fun h8 => ?_) (fun h8 => ?_)
  · rw [if_pos h8] at H
    refine p_split ((shv .shr .u8 a1 6) < 4) (fun h9 => ?_) (fun h9 => ?_)
    · rw [if_pos h9] at H
      refine r_do 2 (by kernel_rfl) (og_indexA (T := 37) (n := 4) (e := 35) (sz := 1) (b := b4) (off := 0) (iv := (shv .shr .u8 a1 6)) (x := (Operand.tmp 2)) (y := (Operand.tmp 6)) (k := .u8) (by kernel_rfl) (by kernel_rfl) (by kernel_rfl) (by kernel_rfl) h8 h9 ?_) 
      refine r_do 3 (by kernel_rfl) (og_loadA (K := (kInt .u64 35)) (T := 35) (x := (Operand.tmp 7)) (b := b4) (base := 0) (off := 0) (xs := [a0.f0, a0.f1, a0.f2, a0.f3]) (iv := (shv .shr .u8 a1 6)) 0 (.int .u64 (rd 0 [a0.f0, a0.f1, a0.f2, a0.f3] (shv .shr .u8 a1 6))) (by kernel_rfl) (by kernel_rfl) hb3 (by kernel_rfl) h8 h9 (by kernel_rfl) ?_) 
      refine r_vals 4 6 [.int .u8 a1, .int .u8 (bits .and .u8 a1 63)] (by kernel_rfl) (by kernel_rfl) ?_
      refine p_split (0 ≤ (bits .and .u8 a1 63)) (fun h10 => ?_) (fun h10 => ?_)
      · rw [if_pos h10] at H
        refine r_do 6 (by kernel_rfl) (og_shift (op := .shr) (T := 35) (U := 5) (x := (Operand.tmp 8)) (y := (Operand.tmp 10)) (k := .u64) (k' := .u8) (a := (rd 0 [a0.f0, a0.f1, a0.f2, a0.f3] (shv .shr .u8 a1 6))) (b := (bits .and .u8 a1 63)) (by simp) (by kernel_rfl) (by kernel_rfl) (by kernel_rfl) h10 ?_) 
        refine r_vals 7 10 [.int .u64 (bits .and .u64 (shv .shr .u64 (rd 0 [a0.f0, a0.f1, a0.f2, a0.f3] (shv .shr .u8 a1 6)) (bits .and .u8 a1 63)) 1), .bool ((bits .and .u64 (shv .shr .u64 (rd 0 [a0.f0, a0.f1, a0.f2, a0.f3] (shv .shr .u8 a1 6)) (bits .and .u8 a1 63)) 1) != 0), .bool ((bits .and .u64 (shv .shr .u64 (rd 0 [a0.f0, a0.f1, a0.f2, a0.f3] (shv .shr .u8 a1 6)) (bits .and .u8 a1 63)) 1) != 0)] (by kernel_rfl) (by kernel_rfl) ?_
        refine r_fin 10 (by kernel_rfl) ?_
        refine q_then ?_
        refine w_ret (p := [1, 1]) (by kernel_rfl) ?_
        obtain rfl := Option.some.inj H
        refine HR _ _ (body_ret (vs := [.bool ((bits .and .u64 (shv .shr .u64 (rd 0 [a0.f0, a0.f1, a0.f2, a0.f3] (shv .shr .u8 a1 6)) (bits .and .u8 a1 63)) 1) != 0)]) (rv_tmp (by kernel_rfl) rfl) rfl ?_)
        exact ⟨rfl, k7⟩
      · rw [if_neg h10] at H
        cases H
    · rw [if_neg h9] at H
      cases H
  · rw [if_neg h8] at H
    cases H
/-! ### dowel/class.Ranges -/

def has (a : Tapi_Class) (b : Int) : Bool := (class_Has.f 0 a b).getD false
theorem byte_all {p : Int → Prop} (h : ∀ n : Nat, n < 256 → p (n : Int)) (b : Int) (h0 : 0 ≤ b) (h1 : b < 256) : p b := by
  have := h b.toNat (by omega)
  rwa [Int.toNat_of_nonneg h0] at this
theorem shr6 : ∀ b : Int, 0 ≤ b → b < 256 → 0 ≤ shv .shr .u8 b 6 ∧ shv .shr .u8 b 6 < 4 ∧ 0 ≤ bits .and .u8 b 63 ∧ bits .and .u8 b 63 < 64 ∧ shv .shr .u8 b 6 = b / 64 ∧ bits .and .u8 b 63 = b % 64 :=
  byte_all (by decide +kernel)
theorem has_some (K : Nat) (a : Tapi_Class) (b : Int) (h0 : 0 ≤ b) (h1 : b < 256) : class_Has.f K a b = some (has a b) := by
  obtain ⟨e1, e2, e3, _⟩ := shr6 b h0 h1
  have : (class_Has.f K a b).isSome = true := by
    unfold class_Has.f
    rw [if_pos e1, if_pos e2, if_pos e3]
    rfl
  obtain ⟨v, hv⟩ := Option.isSome_iff_exists.1 this
  have h2 : class_Has.f 0 a b = some v := hv
  unfold has
  rw [h2, hv]
  rfl
/-- The bytes of a class below a number, rising. -/
def upto (a : Tapi_Class) (k : Nat) : List Int := ((List.range k).filter fun b : Nat => has a (b : Int)).map Int.ofNat
def bytesOf (a : Tapi_Class) : List Int := upto a 256
theorem upto_succ (a : Tapi_Class) (k : Nat) : upto a (k + 1) = upto a k ++ if has a (k : Int) = true then [(k : Int)] else [] := by
  unfold upto
  rw [List.range_succ, List.filter_append, List.map_append]
  congr 1
  by_cases h : has a (k : Int) = true
  · simp [h]
  · simp [h]
theorem upto_prefix (a : Tapi_Class) : ∀ (d k : Nat), k + d = 256 → upto a k <+: bytesOf a
  | 0, k, h => by rw [show k = 256 by omega]; exact List.prefix_refl _
  | d + 1, k, h => by
    refine List.IsPrefix.trans ?_ (upto_prefix a d (k + 1) (by omega))
    rw [upto_succ]
    exact List.prefix_append _ _
theorem upto_len (a : Tapi_Class) (k : Nat) : (upto a k).length ≤ k := by
  unfold upto
  rw [List.length_map]
  exact Nat.le_trans (List.length_filter_le _ _) (by simp)
def EF (l Bn : Nat) (k : Int) (u : Nat → Value) : Array Value := #[.func (.yield l) #[] #[], .pointer (some ⟨Bn, 0, none⟩), u 2, u 3, .int .i64 k, u 5, u 6, u 7, u 8, u 9, u 10, u 11, u 12, u 13, u 14, u 15, u 16, u 17, u 18]
def cellsC (a : Tapi_Class) : Array Value := #[.int .u64 a.f0, .int .u64 a.f1, .int .u64 a.f2, .int .u64 a.f3]
theorem each_round (n : Nat) (a : Tapi_Class) (l Bn : Nat) (J Jx : List Int → World → Prop) {B : Nat} (hJ : AbidesFrom B J)
    (hY : ∀ pre x W1, J pre W1 → pre.length < 256 → YieldAt Fence.wide (n - 1) Try.prog l #[.int .u8 x] W1 fun e X' => (e = .returned (.bool true) ∧ J (pre ++ [x]) X' ∧ X'.heap[Bn]? = W1.heap[Bn]?) ∨ (e = .returned (.bool false) ∧ Jx (pre ++ [x]) X'))
    {Q : Exit → Act → World → Prop} (hQ : ∀ u X, J (bytesOf a) X → Q (.exit 0) ⟨u, []⟩ X) (hR : ∀ u pre X, pre <+: bytesOf a → Jx pre X → Q .ret ⟨u, []⟩ X) :
    ∀ (d k : Nat) (u : Nat → Value) (X : World), k + d = 256 → J (upto a k) X → Blk X Bn (cellsC a) 37 → Code.roundsIn Fence.wide n Try.prog (cd Try.f102 [1, 0, 0]) Q (d + 1) ⟨EF l Bn k u, []⟩ X := by
  intro d
  induction d with
  | zero =>
    intro k u X hk hj hb
    show (cd Try.f102 [1, 0, 0]).wpIn Fence.wide n Try.prog _ _ _
    refine v_seq (p0 := [1, 0, 0, 0]) (p1 := [1, 0, 0, 1]) (by kernel_rfl) ?_
    refine v_region (id := 1) (by kernel_rfl) ?_
    refine v_vals wd_wide 0 1 [.bool (decide ((k : Int) < 256))] (by kernel_rfl) (by kernel_rfl) ?_
    refine v_fin 1 (by kernel_rfl) ?_
    refine q_then ?_
    refine v_seq (p0 := [1, 0, 0, 1, 0]) (p1 := [1, 0, 0, 1, 1]) (by kernel_rfl) ?_
    refine v_cond (p0 := [1, 0, 0, 1, 0, 0]) (p1 := [1, 0, 0, 1, 0, 1]) (c := Operand.tmp 5) (b := decide ((k : Int) < 256)) (by kernel_rfl) (by kernel_rfl) (fun h => absurd (of_decide_eq_true h) (by omega)) (fun _ => ?_)
    refine v_exit (id := 0) (by kernel_rfl) ?_
    refine q_then_x ?_
    refine q_then_x ?_
    rw [show k = 256 by omega] at hj
    exact hQ _ _ hj
  | succ d ih =>
    intro k u X hk hj hb
    have hw8 : W8 (k : Int) = (k : Int) := by rw [W8_eq]; omega
    show (cd Try.f102 [1, 0, 0]).wpIn Fence.wide n Try.prog _ _ _
    refine v_seq (p0 := [1, 0, 0, 0]) (p1 := [1, 0, 0, 1]) (by kernel_rfl) ?_
    refine v_region (id := 1) (by kernel_rfl) ?_
    refine v_vals wd_wide 0 1 [.bool (decide ((k : Int) < 256))] (by kernel_rfl) (by kernel_rfl) ?_
    refine v_fin 1 (by kernel_rfl) ?_
    refine q_then ?_
    refine v_seq (p0 := [1, 0, 0, 1, 0]) (p1 := [1, 0, 0, 1, 1]) (by kernel_rfl) ?_
    refine v_cond (p0 := [1, 0, 0, 1, 0, 0]) (p1 := [1, 0, 0, 1, 0, 1]) (c := Operand.tmp 5) (b := decide ((k : Int) < 256)) (by kernel_rfl) (by kernel_rfl) (fun _ => ?_) (fun h => absurd (of_decide_eq_false h) (by omega))
    refine v_skip (by kernel_rfl) ?_
    refine q_then ?_
    refine v_seq (p0 := [1, 0, 0, 1, 1, 0]) (p1 := [1, 0, 0, 1, 1, 1]) (by kernel_rfl) ?_
    refine v_block (id := 1) (p0 := [1, 0, 0, 1, 1, 0, 0]) (by kernel_rfl) ?_
    refine v_seq (p0 := [1, 0, 0, 1, 1, 0, 0, 0]) (p1 := [1, 0, 0, 1, 1, 0, 0, 1]) (by kernel_rfl) ?_
    refine v_region (id := 2) (by kernel_rfl) ?_
    refine v_vals wd_wide 0 2 [.int .i64 k, .int .i64 k] (by kernel_rfl) (by kernel_rfl) ?_
    refine v_fin 2 (by kernel_rfl) ?_
    refine q_then ?_
    refine v_seq (p0 := [1, 0, 0, 1, 1, 0, 0, 1, 0]) (p1 := [1, 0, 0, 1, 1, 0, 0, 1, 1]) (by kernel_rfl) ?_
    refine v_region (id := 3) (by kernel_rfl) ?_
    refine v_do wd_wide 0 (by kernel_rfl) (og_load (T := 37) (x := Operand.tmp 1) (b := Bn) (off := 0) (.agg (cellsC a)) (by kernel_rfl) (by kernel_rfl) hb (by kernel_rfl) ?_)
    refine v_vals wd_wide 1 3 [.int .i64 k, .int .u8 (W8 k)] (by kernel_rfl) (by kernel_rfl) ?_
    refine v_do wd_wide 3 (by kernel_rfl) (og_call (g := 70) (av := #[.agg (cellsC a), .int .u8 (W8 k)]) (by kernel_rfl) ?_)
    have hh := has_some 0 a (W8 (k : Int)) (by rw [hw8]; omega) (by rw [hw8]; omega)
    refine (class_Has.ok 0 a (W8 (k : Int)) X _ hh).mono ?_
    rintro e W1 ⟨rfl, k1⟩
    refine ⟨_, rfl, ?_⟩
    have hj1 := abides_kp hJ hj k1
    have hb1 := Blk.kp hb k1 id
    rw [hw8]
    have nxt : ∀ (u : Nat → Value) (W2 : World), J (upto a (k + 1)) W2 → Blk W2 Bn (cellsC a) 37 →
        Exit.inBlock 1 (Exit.then (fun a w => (cd Try.f102 [1, 0, 0, 1, 1, 1]).wpIn Fence.wide n Try.prog (Exit.then (Code.roundsIn Fence.wide n Try.prog (cd Try.f102 [1, 0, 0]) Q (d + 1)) Q) a w) (Exit.then (Code.roundsIn Fence.wide n Try.prog (cd Try.f102 [1, 0, 0]) Q (d + 1)) Q)) .normal ⟨EF l Bn k u, []⟩ W2 := by
      intro u W2 hj2 hb2
      refine q_in ?_
      refine q_then ?_
      refine v_region (id := 4) (by kernel_rfl) ?_
      refine v_vals wd_wide 0 2 [.int .i64 (W (k + 1)), .int .i64 (W (k + 1))] (by kernel_rfl) (by kernel_rfl) ?_
      refine v_fin 2 (by kernel_rfl) ?_
      refine q_then ?_
      have e : W ((k : Int) + 1) = ((k + 1 : Nat) : Int) := by rw [W_id] <;> omega
      rw [e]
      refine v_rinto (EF l Bn ((k + 1 : Nat) : Int)) (by kernel_rfl) (fun u => ?_)
      exact ih (k + 1) u W2 (by omega) hj2 hb2
    by_cases hc : has a (k : Int) = true
    · rw [hc]
      refine v_vals wd_wide 4 8 [.bool true, .func (.yield l) #[] #[], .int .i64 k, .int .u8 (W8 k)] (by kernel_rfl) (by kernel_rfl) ?_
      rw [hw8]
      obtain ⟨fn, tmps, assign, body, hy, hR1⟩ := hY (upto a k) (k : Int) W1 hj1 (by have := upto_len a k; omega)
      refine v_yield2 wd_wide 8 (l := l) (fn := fn) (tmps := tmps) (assign := assign) (body := body) (args := #[.int .u8 k]) (by kernel_rfl) (by kernel_rfl) hy ?_
      refine hR1.mono ?_
      have hsucc : upto a (k + 1) = upto a k ++ [(k : Int)] := by rw [upto_succ, if_pos hc]
      rintro e W2 (⟨rfl, hj2, hk2⟩ | ⟨rfl, hx⟩)
      · refine ⟨_, rfl, ?_⟩
        refine v_vals wd_wide 9 11 [.bool false, .bool false] (by kernel_rfl) (by kernel_rfl) ?_
        refine v_fin 11 (by kernel_rfl) ?_
        refine q_then ?_
        refine v_cond (p0 := [1, 0, 0, 1, 1, 0, 0, 1, 1, 0]) (p1 := [1, 0, 0, 1, 1, 0, 0, 1, 1, 1]) (c := Operand.tmp 17) (b := false) (by kernel_rfl) (by kernel_rfl) (fun h => by cases h) (fun _ => ?_)
        refine v_skip (by kernel_rfl) ?_
        refine q_into (EF l Bn k) (by kernel_rfl) (fun u => ?_)
        exact nxt u W2 (by rw [hsucc]; exact hj2) (hk2.trans hb1)
      · refine ⟨_, rfl, ?_⟩
        refine v_vals wd_wide 9 11 [.bool true, .bool true] (by kernel_rfl) (by kernel_rfl) ?_
        refine v_fin 11 (by kernel_rfl) ?_
        refine q_then ?_
        refine v_cond (p0 := [1, 0, 0, 1, 1, 0, 0, 1, 1, 0]) (p1 := [1, 0, 0, 1, 1, 0, 0, 1, 1, 1]) (c := Operand.tmp 17) (b := true) (by kernel_rfl) (by kernel_rfl) (fun _ => ?_) (fun h => by cases h)
        refine v_ret (by kernel_rfl) ?_
        refine q_in_r ?_
        refine q_then_r ?_
        refine q_then_r ?_
        exact hR _ _ W2 (by rw [← hsucc]; exact upto_prefix a d (k + 1) (by omega)) hx
    · have hc' : has a (k : Int) = false := by simpa using hc
      rw [hc']
      refine v_vals wd_wide 4 11 [.bool false, undef, undef, undef, undef, undef, .bool false] (by kernel_rfl) (by kernel_rfl) ?_
      refine v_fin 11 (by kernel_rfl) ?_
      refine q_then ?_
      refine v_cond (p0 := [1, 0, 0, 1, 1, 0, 0, 1, 1, 0]) (p1 := [1, 0, 0, 1, 1, 0, 0, 1, 1, 1]) (c := Operand.tmp 17) (b := false) (by kernel_rfl) (by kernel_rfl) (fun h => by cases h) (fun _ => ?_)
      refine v_skip (by kernel_rfl) ?_
      refine q_into (EF l Bn k) (by kernel_rfl) (fun u => ?_)
      exact nxt u W1 (by rw [upto_succ, if_neg hc, List.append_nil]; exact hj1) hb1
/-- **The iterator.** -/
theorem each_stops (n : Nat) (a : Tapi_Class) (Bn : Nat) (w0 : World) (hb : Blk w0 Bn (cellsC a) 37) :
    SeqStopsK Fence.wide n Try.prog 102 #[.pointer (some ⟨Bn, 0, none⟩)] (fun x : Int => #[.int .u8 x]) (fun X X' => X'.heap[Bn]? = X.heap[Bn]?) (fun xs => xs = bytesOf a) (fun pre => pre <+: bytesOf a) 256 w0 := by
  intro l J Jx X hW hJ hJx hY h0
  have hb1 : Blk X Bn (cellsC a) 37 := hb.kp (Kp.of_below hW) id
  refine vcalls (t := EF l Bn 0 (fun _ => undef) |>.setIfInBounds 4 undef) Try.func102 (by kernel_rfl) (by kernel_rfl) ?_
  refine v_seq (p0 := [0]) (p1 := [1]) (by kernel_rfl) ?_
  refine v_region (id := 0) (by kernel_rfl) ?_
  refine v_vals wd_wide 0 1 [.int .i64 0] (by kernel_rfl) (by kernel_rfl) ?_
  refine v_fin 1 (by kernel_rfl) ?_
  refine q_then ?_
  refine v_block (id := 0) (p0 := [1, 0]) (by kernel_rfl) ?_
  refine v_into (EF l Bn 0) (by kernel_rfl) (fun u => ?_)
  refine v_loop (p0 := [1, 0, 0]) 257 (by kernel_rfl) ?_
  refine each_round n a l Bn J Jx hJ hY (fun u W1 hj => ?_) (fun u pre W1 hp hx => ?_) 256 0 u X rfl h0 hb1
  · refine q_in_hit ?_
    refine body_norm (vs := []) (v := .tuple #[]) rfl rfl ?_
    exact ⟨⟨_, rfl⟩, .inl ⟨_, rfl, hj⟩⟩
  · refine q_in_r ?_
    refine body_ret (vs := []) (v := .tuple #[]) rfl rfl ?_
    exact ⟨⟨_, rfl⟩, .inr ⟨_, hp, hx⟩⟩


def class_Each.R (a : Tapi_Class) (w : World) : Ending → World → Prop := fun e w' => ∃ Bn, e = .returned (.func (.func 102) #[] #[.pointer (some ⟨Bn, 0, none⟩)]) ∧ Kp No w w' ∧ Blk w' Bn (cellsC a) 37 ∧ w.heap.size ≤ Bn
theorem class_Each.ok (a : Tapi_Class) (w : World) : Calls Try.prog 58 #[.agg (cellsC a)] w (class_Each.R a w) := by
  refine calls_cd (t := #[.agg (cellsC a), undef, undef, undef]) Try.func58 (by kernel_rfl) (by kernel_rfl) ?_
  refine w_seq (p := []) (p0 := [0]) (p1 := [1]) (by kernel_rfl) ?_
  refine w_region (p := [0]) (id := 0) (by kernel_rfl) ?_
  refine r_do 0 (by kernel_rfl) (og_box (T := 37) (x := Operand.tmp 0) (cs := cellsC a) (by kernel_rfl) (by kernel_rfl) ?_)
  intro Bn w1 e1 hb k1
  have g : w.heap.size ≤ Bn := by rw [e1]; exact Nat.le_refl _
  refine r_vals 1 2 [Value.nilFunc] (by kernel_rfl) (by kernel_rfl) ?_
  refine r_fin 2 (by kernel_rfl) ?_
  refine q_then ?_
  refine w_seq (p := [1]) (p0 := [1, 0]) (p1 := [1, 1]) (by kernel_rfl) ?_
  refine w_region (p := [1, 0]) (id := 1) (by kernel_rfl) ?_
  refine r_vals 0 2 [.func (.func 102) #[] #[.pointer (some ⟨Bn, 0, none⟩)], .func (.func 102) #[] #[.pointer (some ⟨Bn, 0, none⟩)]] (by kernel_rfl) (by kernel_rfl) ?_
  refine r_fin 2 (by kernel_rfl) ?_
  refine q_then ?_
  refine w_ret (p := [1, 1]) (by kernel_rfl) ?_
  refine body_ret (vs := [.func (.func 102) #[] #[.pointer (some ⟨Bn, 0, none⟩)]]) (rv_tmp (by kernel_rfl) rfl) rfl ?_
  exact ⟨Bn, rfl, k1, hb, g⟩
/-- A byte more: the last range grows, or a new one begins. -/
def rgStep (l : List Tapi_Range) (b : Int) : List Tapi_Range :=
  if (l.length : Int) > 0 ∧ (W (W (rd zapi_Range l (W ((l.length : Int) - 1))).f1 + 1) == W b) = true then stored l (W ((l.length : Int) - 1)) ⟨(rd zapi_Range l (W ((l.length : Int) - 1))).f0, b⟩ else l ++ [⟨b, b⟩]
def rangesF (xs : List Int) : List Tapi_Range := xs.foldl rgStep []
theorem rangesF_snoc (xs : List Int) (x : Int) : rangesF (xs ++ [x]) = rgStep (rangesF xs) x := by unfold rangesF; rw [List.foldl_append]; rfl
theorem rgStep_len (l : List Tapi_Range) (b : Int) : (rgStep l b).length ≤ l.length + 1 := by
  unfold rgStep
  split
  · rw [stored_len]; omega
  · simp
theorem rangesF_len' (xs : List Int) : ∀ l : List Tapi_Range, (xs.foldl rgStep l).length ≤ l.length + xs.length := by
  induction xs with
  | nil => intro l; exact Nat.le_refl _
  | cons x xs ih =>
    intro l
    have h1 := ih (rgStep l x)
    have h2 := rgStep_len l x
    rw [List.foldl_cons]
    simp only [List.length_cons]
    omega
theorem rangesF_len (xs : List Int) : (rangesF xs).length ≤ xs.length := by
  have := rangesF_len' xs []
  simpa [rangesF] using this
def class_Ranges.f (K : Nat) (a0 : Tapi_Class) : Option (List Tapi_Range) := some (rangesF (bytesOf a0))
def class_Ranges.R (r : List Tapi_Range) (w : World) : Ending → World → Prop := fun e w' => ∃ (A0 : Option Addr) (n0 c0 : Nat), e = .returned (.slice A0 n0 c0) ∧ Kp No w w' ∧ Ow w (Kapi_Range 44) w' A0 n0 c0 r
def RG (b3 Bn : Nat) (x4 x8 : Value) (u : Nat → Value) : Array Value := #[u 0, u 1, .slice none 0 0, .pointer (some ⟨b3, 0, none⟩), x4, u 5, u 6, .func (.func 102) #[] #[.pointer (some ⟨Bn, 0, none⟩)], x8, u 9, u 10, u 11, u 12, u 13, u 14, u 15, u 16, u 17, u 18, u 19, u 20, u 21, u 22, u 23, u 24, u 25, u 26, u 27, u 28, u 29, u 30, u 31, u 32, u 33, u 34, u 35, u 36, u 37, u 38]
def RA (b3 : Nat) (x n : Int) (b : Bool) (u : Nat → Value) : Array Value := #[u 0, u 1, .slice none 0 0, .pointer (some ⟨b3, 0, none⟩), .int .u8 x, .int .i64 n, u 6, u 7, u 8, u 9, u 10, u 11, u 12, u 13, u 14, u 15, u 16, u 17, u 18, u 19, u 20, u 21, u 22, u 23, u 24, .bool b, u 26, u 27, u 28, u 29, u 30, u 31, u 32, u 33, u 34, u 35, u 36, u 37, u 38]
structure RgI (w : World) (a : Tapi_Class) (b3 Bn : Nat) (pre : List Int) (X : World) : Prop where
  kp : Kp No w X
  ge : w.heap.size ≤ b3
  hB : Blk X Bn (cellsC a) 37
  ne : b3 ≠ Bn
  row : ∃ A c, Blk X b3 #[.slice A (rangesF pre).length c] 38 ∧ Ow w (Kapi_Range 44) X A (rangesF pre).length c (rangesF pre) ∧ Dj (One b3) (Ra A) ∧ Dj (One Bn) (Ra A)
theorem RgI.own (w : World) (a : Tapi_Class) (b3 Bn B : Nat) (hB : w.heap.size ≤ B) : OwnFrom B (RgI w a b3 Bn) := fun pre X X' row h hg hr => by
  obtain ⟨kp, ge, hBn, ne, A, c, hb, ho, hd, hd2⟩ := h
  have hn := notCells_of hr
  exact ⟨kp.grow hg (fun r e => .inr (Nat.le_trans hB (hr r e).1)), ge, hBn.grow hg hn, ne, A, c, hb.grow hg hn, ho.grow hg hn, hd, hd2⟩
theorem ranges_body (w : World) (a : Tapi_Class) (b3 Bn B l : Nat) (u : Nat → Value) (pre : List Int) (x : Int) (X : World) (hI : RgI w a b3 Bn pre X) (hl : pre.length < 256) (m : Nat) :
    (cd Try.f18 [1, 1, 0, 1, 0, 1]).wpIn (Fence.wide.inRound l) m Try.prog (ownPostG B (fun X X' => X'.heap[Bn]? = X.heap[Bn]?) (RgI w a b3 Bn) (fun _ _ _ => False) (pre ++ [x]) X) ⟨RG b3 Bn (.int .u8 x) (.int .u8 x) u, []⟩ X := by
  obtain ⟨kp, ge, hBn, ne, A, c, hb, ho, hd, hd2⟩ := hI
  have hlen := rangesF_len pre
  have hF := wd_round l
  obtain ⟨xs, hxs⟩ : ∃ xs, rangesF pre = xs := ⟨_, rfl⟩
  have hsn : rangesF (pre ++ [x]) = rgStep xs x := by rw [rangesF_snoc, hxs]
  rw [hxs] at hb ho hlen
  obtain ⟨k, hk⟩ : ∃ k : Nat, xs.length = k := ⟨_, rfl⟩
  refine v_block (id := 1) (p0 := [1, 1, 0, 1, 0, 1, 0]) (by kernel_rfl) ?_
  refine v_seq (p0 := [1, 1, 0, 1, 0, 1, 0, 0]) (p1 := [1, 1, 0, 1, 0, 1, 0, 1]) (by kernel_rfl) ?_
  refine v_region (id := 4) (by kernel_rfl) ?_
  refine v_do hF 0 (by kernel_rfl) (og_load (T := 38) (x := Operand.tmp 3) (b := b3) (off := 0) (.slice A xs.length c) (by kernel_rfl) (by kernel_rfl) hb (by kernel_rfl) ?_)
  refine v_vals hF 1 3 [.int .i64 (xs.length : Int), .int .i64 (xs.length : Int)] (by kernel_rfl) (by kernel_rfl) ?_
  refine v_fin 3 (by kernel_rfl) ?_
  refine q_then ?_
  refine v_seq (p0 := [1, 1, 0, 1, 0, 1, 0, 1, 0]) (p1 := [1, 1, 0, 1, 0, 1, 0, 1, 1]) (by kernel_rfl) ?_
  refine v_region (id := 5) (by kernel_rfl) ?_
  refine v_vals hF 0 3 [.int .i64 (xs.length : Int), .bool (decide ((xs.length : Int) > 0)), .bool (decide ((xs.length : Int) > 0))] (by kernel_rfl) (by kernel_rfl) ?_
  have app : ∀ u, rgStep xs x = xs ++ [⟨x, x⟩] → (cd Try.f18 [1, 1, 0, 1, 0, 1, 0, 1, 1]).wpIn (Fence.wide.inRound l) m Try.prog (Exit.inBlock 1 (ownPostG B (fun X X' => X'.heap[Bn]? = X.heap[Bn]?) (RgI w a b3 Bn) (fun _ _ _ => False) (pre ++ [x]) X)) ⟨RA b3 x xs.length false u, []⟩ X := by
    intro u hst
    refine v_cond (p0 := [1, 1, 0, 1, 0, 1, 0, 1, 1, 0]) (p1 := [1, 1, 0, 1, 0, 1, 0, 1, 1, 1]) (c := Operand.tmp 25) (b := false) (by kernel_rfl) (by kernel_rfl) (fun h => by cases h) (fun _ => ?_)
    refine v_region (id := 7) (by kernel_rfl) ?_
    refine v_do hF 0 (by kernel_rfl) (og_load (T := 38) (x := Operand.tmp 3) (b := b3) (off := 0) (.slice A xs.length c) (by kernel_rfl) (by kernel_rfl) hb (by kernel_rfl) ?_)
    refine v_vals hF 1 4 [.int .u8 x, .int .u8 x, .agg #[.int .u8 x, .int .u8 x]] (by kernel_rfl) (by kernel_rfl) ?_
    refine v_do hF 4 (by kernel_rfl) (ow_lit (K := Kapi_Range 44) (w0 := X) (T := 38) (n := 1) (e := 44) (ps := #[(0, Operand.tmp 35)]) (cs := #[.int .u8 x, .int .u8 x]) (parts := [(0, .agg #[.int .u8 x, .int .u8 x])]) [(⟨x, x⟩ : Tapi_Range)] (by kernel_rfl) (by kernel_rfl) (by kernel_rfl) (by kernel_rfl) rfl rfl (by kernel_rfl) (Kp.refl No X) ?_)
    intro b4 X1 e4 ho4 k1
    have hb1 := Blk.kp hb k1 id
    have hB1 := Blk.kp hBn k1 id
    have hw0 : w.heap.size ≤ X.heap.size := kp.size
    have ho1 := ho.kpNo k1
    have ho4' := Ow.base ho4 (Kp.refl No X)
    refine v_do hF 5 (by kernel_rfl) (ow_append2 (K := Kapi_Range 44) (w0 := w) (T := 38) (n := xs.length) (c := c) (m := 1) (d := 1) (s := Operand.tmp 32) (x := Operand.tmp 36) (A := A) (D := some ⟨b4, 0, none⟩) (xs := xs) (ys := [(⟨x, x⟩ : Tapi_Range)]) (.agg #[.int .u8 0, .int .u8 0]) 2 (by kernel_rfl) (by kernel_rfl) (by kernel_rfl) (by kernel_rfl) (by kernel_rfl) ho1 (by kernel_rfl) rfl ho4.rdNo (by omega) (kp.trans k1 (fun _ h => h.elim)) ?_)
    intro A' c' X2 ho2 k2 hn _
    have hb2 := Blk.kpOne hb1 k2 hd
    have hB2 := Blk.kpOne hB1 k2 hd2
    refine v_do hF 6 (by kernel_rfl) (og_store (T := 38) (x := Operand.tmp 3) (y := Operand.tmp 37) (b := b3) (off := 0) (.slice A' (xs ++ [(⟨x, x⟩ : Tapi_Range)]).length c') (by kernel_rfl) (by kernel_rfl) (by kernel_rfl) hb2 (cs' := #[.slice A' (xs ++ [(⟨x, x⟩ : Tapi_Range)]).length c']) (by kernel_rfl) ?_)
    intro X3 hb3 k3 _
    have hd' : Dj (One b3) (Ra A') := blk_dj_app hb1 hd hn
    have hd2' : Dj (One Bn) (Ra A') := blk_dj_app hB1 hd2 hn
    refine v_fin 7 (by kernel_rfl) ?_
    refine q_in ?_
    have c1 : KeepsFrom B X X1 := keeps_kp k1 (fun x h => h.elim)
    have c2 : KeepsFrom B X1 X2 := keeps_kp k2 (fun x h => ho1.cellsAt h)
    have c3 : KeepsFrom B X2 X3 := keeps_kp k3 (fun x h => hb2.cellsAt h)
    have hB3 : Blk X3 Bn (cellsC a) 37 := Blk.kp hB2 k3 (fun e => ne e.symm)
    refine ⟨c1.trans (c2.trans c3), hB3.trans hBn.symm, ?_⟩
    refine ⟨((kp.trans k1 (fun _ h => h.elim)).trans k2 (fun k hk => .inr (ho1.ge k hk))).trans k3 (fun k hk => .inr (by rw [show k = b3 from hk]; exact ge)), ge, hB3, ne, A', c', ?_⟩
    rw [hsn, hst]
    exact ⟨hb3, ho2.kp k3 (fun k h1 h2 => hd' k h2 h1), hd', hd2'⟩
  by_cases hk0 : (xs.length : Int) > 0
  · rw [decide_eq_true hk0]
    refine v_do hF 3 (by kernel_rfl) (og_load (T := 38) (x := Operand.tmp 3) (b := b3) (off := 0) (.slice A xs.length c) (by kernel_rfl) (by kernel_rfl) hb (by kernel_rfl) ?_)
    refine v_vals hF 4 6 [.int .i64 (xs.length : Int), .int .i64 (W ((xs.length : Int) - 1))] (by kernel_rfl) (by kernel_rfl) ?_
    have e0 : W ((xs.length : Int) - 1) = (xs.length : Int) - 1 := W_id (by omega) (by omega)
    have h0 : 0 ≤ W ((xs.length : Int) - 1) := by omega
    have h1 : W ((xs.length : Int) - 1) < (xs.length : Int) := by omega
    refine v_do hF 6 (by kernel_rfl) (ow_index (K := Kapi_Range 44) (T := 38) (e := 44) (sz := 2) (x := Operand.tmp 14) (y := Operand.tmp 16) (k := .i64) (n := xs.length) (c := c) (A := A) (xs := xs) (iv := W ((xs.length : Int) - 1)) (by kernel_rfl) (by kernel_rfl) (by kernel_rfl) (by kernel_rfl) h0 h1 ho.rdNo rfl (by kernel_rfl) ?_)
    refine v_vals hF 7 8 [.pointer (some ((eaOf A ((W ((xs.length : Int) - 1)).toNat * 2)).add 1))] (by kernel_rfl) (by kernel_rfl) ?_
    refine v_do hF 8 (by kernel_rfl) (ow_loadE (K := Kapi_Range 44) (T := 5) (x := Operand.tmp 18) (off := 1) (A := A) (n := xs.length) (xs := xs) (iv := W ((xs.length : Int) - 1)) zapi_Range (.int .u8 (rd zapi_Range xs (W ((xs.length : Int) - 1))).f1) (by kernel_rfl) (by kernel_rfl) ho.rdNo rfl h0 h1 (by kernel_rfl) ?_)
    obtain ⟨hi, hhi⟩ : ∃ hi, (rd zapi_Range xs (W ((xs.length : Int) - 1))).f1 = hi := ⟨_, rfl⟩
    rw [hhi]
    refine v_vals hF 9 15 [.int .i64 (W hi), .int .i64 (W (W hi + 1)), .int .u8 x, .int .i64 (W x), .bool (W (W hi + 1) == W x), .bool (W (W hi + 1) == W x)] (by kernel_rfl) (by kernel_rfl) ?_
    refine v_fin 15 (by kernel_rfl) ?_
    refine q_then ?_
    by_cases hq : (W (W hi + 1) == W x) = true
    · rw [hq]
      refine v_into (RA b3 x xs.length true) (by kernel_rfl) (fun u => ?_)
      refine v_cond (p0 := [1, 1, 0, 1, 0, 1, 0, 1, 1, 0]) (p1 := [1, 1, 0, 1, 0, 1, 0, 1, 1, 1]) (c := Operand.tmp 25) (b := true) (by kernel_rfl) (by kernel_rfl) (fun _ => ?_) (fun h => by cases h)
      refine v_region (id := 6) (by kernel_rfl) ?_
      refine v_do hF 0 (by kernel_rfl) (og_load (T := 38) (x := Operand.tmp 3) (b := b3) (off := 0) (.slice A xs.length c) (by kernel_rfl) (by kernel_rfl) hb (by kernel_rfl) ?_)
      refine v_vals hF 1 4 [.int .i64 (xs.length : Int), .int .i64 (W ((xs.length : Int) - 1)), .int .u8 x] (by kernel_rfl) (by kernel_rfl) ?_
      refine v_do hF 4 (by kernel_rfl) (ow_index (K := Kapi_Range 44) (T := 38) (e := 44) (sz := 2) (x := Operand.tmp 26) (y := Operand.tmp 28) (k := .i64) (n := xs.length) (c := c) (A := A) (xs := xs) (iv := W ((xs.length : Int) - 1)) (by kernel_rfl) (by kernel_rfl) (by kernel_rfl) (by kernel_rfl) h0 h1 ho.rdNo rfl (by kernel_rfl) ?_)
      refine v_vals hF 5 6 [.pointer (some ((eaOf A ((W ((xs.length : Int) - 1)).toNat * 2)).add 1))] (by kernel_rfl) (by kernel_rfl) ?_
      refine v_do hF 6 (by kernel_rfl) (ow_storeE (K := Kapi_Range 44) (T := 5) (x := Operand.tmp 31) (y := Operand.tmp 29) (off := 1) (n := xs.length) (iv := W ((xs.length : Int) - 1)) (A := A) (c := c) (xs := xs) zapi_Range (⟨(rd zapi_Range xs (W ((xs.length : Int) - 1))).f0, x⟩ : Tapi_Range) (.int .u8 x) (by kernel_rfl) (by kernel_rfl) (by kernel_rfl) ho h0 h1 (by kernel_rfl) ?_)
      intro X1 ho1 k1
      refine v_fin 7 (by kernel_rfl) ?_
      refine q_in ?_
      have hb1 := Blk.kpOne hb k1 hd
      have hB1 := Blk.kpOne hBn k1 hd2
      have hst : rgStep xs x = stored xs (W ((xs.length : Int) - 1)) ⟨(rd zapi_Range xs (W ((xs.length : Int) - 1))).f0, x⟩ := by
        unfold rgStep
        rw [if_pos ⟨hk0, by rw [hhi]; exact hq⟩]
      refine ⟨keeps_kp k1 (fun x h => ho.cellsAt h), hB1.trans hBn.symm, ?_⟩
      refine ⟨kp.trans k1 (fun k hk => .inr (ho.ge k hk)), ge, hB1, ne, A, c, ?_⟩
      rw [hsn, hst, stored_len]
      exact ⟨hb1, ho1, hd, hd2⟩
    · have hq' : (W (W hi + 1) == W x) = false := by simpa using hq
      rw [hq']
      refine v_into (RA b3 x xs.length false) (by kernel_rfl) (fun u => ?_)
      refine app u ?_
      unfold rgStep
      rw [if_neg (fun h => hq (by rw [← hhi]; exact h.2))]
  · rw [decide_eq_false hk0]
    refine v_vals hF 3 15 [undef, undef, undef, undef, undef, undef, undef, undef, undef, undef, undef, .bool false] (by kernel_rfl) (by kernel_rfl) ?_
    refine v_fin 15 (by kernel_rfl) ?_
    refine q_then ?_
    refine v_into (RA b3 x xs.length false) (by kernel_rfl) (fun u => ?_)
    refine app u ?_
    unfold rgStep
    rw [if_neg (fun h => hk0 h.1)]
/-- A frame behind the loop. -/
def RZ (b3 : Nat) (u : Nat → Value) : Array Value := #[u 0, u 1, u 2, .pointer (some ⟨b3, 0, none⟩), u 4, u 5, u 6, u 7, u 8, u 9, u 10, u 11, u 12, u 13, u 14, u 15, u 16, u 17, u 18, u 19, u 20, u 21, u 22, u 23, u 24, u 25, u 26, u 27, u 28, u 29, u 30, u 31, u 32, u 33, u 34, u 35, u 36, u 37, u 38]
theorem class_Ranges.ok (K : Nat) (a0 : Tapi_Class) (w : World) (r : List Tapi_Range) (H : class_Ranges.f K a0 = some r) : Calls Try.prog 18 #[.agg #[.int .u64 a0.f0, .int .u64 a0.f1, .int .u64 a0.f2, .int .u64 a0.f3]] w (class_Ranges.R r w) := by
  obtain rfl := Option.some.inj H
  refine vcalls_marks (n := 5) (t := #[.agg (cellsC a0), undef, undef, undef, undef, undef, undef, undef, undef, undef, undef, undef, undef, undef, undef, undef, undef, undef, undef, undef, undef, undef, undef, undef, undef, undef, undef, undef, undef, undef, undef, undef, undef, undef, undef, undef, undef, undef, undef]) Try.func18 (by kernel_rfl) (by kernel_rfl) ?_
  refine v_seq (p0 := [0]) (p1 := [1]) (by kernel_rfl) ?_
  refine v_region (id := 0) (by kernel_rfl) ?_
  refine v_do wd_wide 0 (by kernel_rfl) (og_box (T := 37) (x := Operand.tmp 0) (cs := cellsC a0) (by kernel_rfl) (by kernel_rfl) ?_)
  intro b1 w1 e1 hb1 k1
  have g1 : w.heap.size ≤ b1 := by rw [e1]; exact Nat.le_refl _
  refine v_vals wd_wide 1 2 [.slice none 0 0] (by kernel_rfl) (by kernel_rfl) ?_
  refine v_fin 2 (by kernel_rfl) ?_
  refine q_then ?_
  refine v_seq (p0 := [1, 0]) (p1 := [1, 1]) (by kernel_rfl) ?_
  refine v_region (id := 1) (by kernel_rfl) ?_
  refine v_do wd_wide 0 (by kernel_rfl) (og_alloc (T := 38) (cs := #[.slice none 0 0]) (by kernel_rfl) (by kernel_rfl) ?_)
  intro b3 w3 e3 hb3 k3
  have kp3 : Kp No w w3 := k1.trans k3 (fun _ h => h.elim)
  have g3 : w.heap.size ≤ b3 := by rw [e3]; exact k1.size
  have hb1' := Blk.kp hb1 k3 id
  refine v_fin 1 (by kernel_rfl) ?_
  refine q_then ?_
  refine v_seq (p0 := [1, 1, 0]) (p1 := [1, 1, 1]) (by kernel_rfl) ?_
  refine v_seq (p0 := [1, 1, 0, 0]) (p1 := [1, 1, 0, 1]) (by kernel_rfl) ?_
  refine v_region (id := 2) (by kernel_rfl) ?_
  refine v_do wd_wide 0 (by kernel_rfl) (og_load (T := 37) (x := Operand.tmp 1) (b := b1) (off := 0) (.agg (cellsC a0)) (by kernel_rfl) (by kernel_rfl) hb1' (by kernel_rfl) ?_)
  refine v_do wd_wide 1 (by kernel_rfl) (og_call (g := 58) (av := #[.agg (cellsC a0)]) (by kernel_rfl) ?_)
  refine (class_Each.ok a0 w3).mono ?_
  rintro e w4 ⟨Bn, rfl, k4, hBn, gBn⟩
  refine ⟨_, rfl, ?_⟩
  have kp4 : Kp No w w4 := kp3.trans k4 (fun _ h => h.elim)
  have hb4 := Blk.kp hb3 k4 id
  have hne : b3 ≠ Bn := by have := hb3.lt; omega
  have hg4 : w.heap.size ≤ w4.heap.size := kp4.size
  refine v_fin 2 (by kernel_rfl) ?_
  refine q_then ?_
  refine v_block (id := 0) (p0 := [1, 1, 0, 1, 0]) (by kernel_rfl) ?_
  refine v_into (RG b3 Bn undef undef) (by kernel_rfl) (fun u => ?_)
  have hcode : cd Try.f18 [1, 1, 0, 1, 0] = .rangeFunc (.tmp 7) #[8] (cd Try.f18 [1, 1, 0, 1, 0, 0]) (cd Try.f18 [1, 1, 0, 1, 0, 1]) := by kernel_rfl
  rw [hcode]
  have hBlt : Bn < w4.heap.size := hBn.lt
  have hev : Act.eval ⟨RG b3 Bn undef undef u, []⟩ (.tmp 7) = .func (.func 102) #[] #[.pointer (some ⟨Bn, 0, none⟩)] := by kernel_rfl
  refine wpIn_rangeFunc_ownG (Kp := fun X X' => X'.heap[Bn]? = X.heap[Bn]?) (S := fun xs => xs = bytesOf a0) (Sp := fun pre => pre <+: bytesOf a0) (N := 256) (w0 := w4) (encs := fun x : Int => #[.int .u8 x]) rfl (by decide) hev trivial (enters_of Try.func102 (by kernel_rfl) rfl) (each_stops _ a0 Bn w4 hBn)
    (fun {A B C} h k => k.trans h) (fun X l o o' hl _ _ _ => by rw [World.putObj_heap_other (by omega)]) (Below.refl _ _) (fun _ => rfl)
    (RgI w a0 b3 Bn) (fun _ _ _ => False) (RgI.own w a0 b3 Bn _ hg4) (fun _ _ _ _ _ h _ _ => h) ?h0 (fun x => ⟨RG b3 Bn (.int .u8 x) (.int .u8 x) u, []⟩) ?assign ?body ?done ?stop
  case h0 =>
    refine ⟨kp4, g3, hBn, hne, none, 0, hb4, Ow.nil w (Kapi_Range 44) w4, dj_nil, dj_nil⟩
  case assign =>
    intro l x X K hK
    refine v_region (id := 3) (by kernel_rfl) ?_
    refine v_vals (wd_round l) 0 1 [.int .u8 x] (by kernel_rfl) (by kernel_rfl) ?_
    refine v_fin 1 (by kernel_rfl) ?_
    refine q_then ?_
    refine k_flat (t' := RG b3 Bn (.int .u8 x) (.int .u8 x) u) (by kernel_rfl) hK
  case body =>
    intro l pre x X hI hlen
    exact ranges_body w a0 b3 Bn _ l u pre x X hI hlen _
  case stop =>
    intro D c pre X _ _ h _
    exact h.elim
  case done =>
    rintro D xs X hD rfl hI hDef
    obtain ⟨kp, ge, hBx, _, A, c, hb, ho, hd, _⟩ := hI
    refine q_in ?_
    refine q_then ?_
    refine v_into (RZ b3) (by kernel_rfl) (fun u => ?_)
    refine v_seq (p0 := [1, 1, 1, 0]) (p1 := [1, 1, 1, 1]) (by kernel_rfl) ?_
    refine v_region (id := 8) (by kernel_rfl) ?_
    refine v_do wd_wide 0 (by kernel_rfl) (og_load (T := 38) (x := Operand.tmp 3) (b := b3) (off := 0) (.slice A (rangesF (bytesOf a0)).length c) (by kernel_rfl) (by kernel_rfl) hb (by kernel_rfl) ?_)
    refine v_vals wd_wide 1 2 [.slice A (rangesF (bytesOf a0)).length c] (by kernel_rfl) (by kernel_rfl) ?_
    refine v_fin 2 (by kernel_rfl) ?_
    refine q_then ?_
    refine v_ret (by kernel_rfl) ?_
    have hg := grownBy_putObj' X D (.deferred none)
    have hn : NotCells X (some D) := fun r e => by cases e; exact ⟨_, hDef, rfl⟩
    refine ⟨by simp, .inl ⟨_, _, rfl, run_takeDeferred hDef, ?_⟩⟩
    refine ⟨.slice A (rangesF (bytesOf a0)).length c, ?_, A, _, c, rfl, kp.grow hg (fun r e => by cases e; exact .inr (Nat.le_trans hg4 hD)), ho.grow hg hn⟩
    exact res_run (vs := [.slice A (rangesF (bytesOf a0)).length c]) (rv_tmp (by kernel_rfl) rfl) rfl

/-! ### math/bits.OnesCount64 -/
def bits_OnesCount64.f (K : Nat) (a0 : Int) : Option (Int) := some (bits .and .i64 (W (W64 ((W64 ((W64 ((bits .and .u64 (W64 ((shv .shr .u64 (W64 ((bits .and .u64 (shv .shr .u64 (W64 ((bits .and .u64 (shv .shr .u64 a0 1) 6148914691236517205) + (bits .and .u64 a0 6148914691236517205))) 2) 3689348814741910323) + (bits .and .u64 (W64 ((bits .and .u64 (shv .shr .u64 a0 1) 6148914691236517205) + (bits .and .u64 a0 6148914691236517205))) 3689348814741910323))) 4) + (W64 ((bits .and .u64 (shv .shr .u64 (W64 ((bits .and .u64 (shv .shr .u64 a0 1) 6148914691236517205) + (bits .and .u64 a0 6148914691236517205))) 2) 3689348814741910323) + (bits .and .u64 (W64 ((bits .and .u64 (shv .shr .u64 a0 1) 6148914691236517205) + (bits .and .u64 a0 6148914691236517205))) 3689348814741910323))))) 1085102592571150095) + (shv .shr .u64 (bits .and .u64 (W64 ((shv .shr .u64 (W64 ((bits .and .u64 (shv .shr .u64 (W64 ((bits .and .u64 (shv .shr .u64 a0 1) 6148914691236517205) + (bits .and .u64 a0 6148914691236517205))) 2) 3689348814741910323) + (bits .and .u64 (W64 ((bits .and .u64 (shv .shr .u64 a0 1) 6148914691236517205) + (bits .and .u64 a0 6148914691236517205))) 3689348814741910323))) 4) + (W64 ((bits .and .u64 (shv .shr .u64 (W64 ((bits .and .u64 (shv .shr .u64 a0 1) 6148914691236517205) + (bits .and .u64 a0 6148914691236517205))) 2) 3689348814741910323) + (bits .and .u64 (W64 ((bits .and .u64 (shv .shr .u64 a0 1) 6148914691236517205) + (bits .and .u64 a0 6148914691236517205))) 3689348814741910323))))) 1085102592571150095) 8))) + (shv .shr .u64 (W64 ((bits .and .u64 (W64 ((shv .shr .u64 (W64 ((bits .and .u64 (shv .shr .u64 (W64 ((bits .and .u64 (shv .shr .u64 a0 1) 6148914691236517205) + (bits .and .u64 a0 6148914691236517205))) 2) 3689348814741910323) + (bits .and .u64 (W64 ((bits .and .u64 (shv .shr .u64 a0 1) 6148914691236517205) + (bits .and .u64 a0 6148914691236517205))) 3689348814741910323))) 4) + (W64 ((bits .and .u64 (shv .shr .u64 (W64 ((bits .and .u64 (shv .shr .u64 a0 1) 6148914691236517205) + (bits .and .u64 a0 6148914691236517205))) 2) 3689348814741910323) + (bits .and .u64 (W64 ((bits .and .u64 (shv .shr .u64 a0 1) 6148914691236517205) + (bits .and .u64 a0 6148914691236517205))) 3689348814741910323))))) 1085102592571150095) + (shv .shr .u64 (bits .and .u64 (W64 ((shv .shr .u64 (W64 ((bits .and .u64 (shv .shr .u64 (W64 ((bits .and .u64 (shv .shr .u64 a0 1) 6148914691236517205) + (bits .and .u64 a0 6148914691236517205))) 2) 3689348814741910323) + (bits .and .u64 (W64 ((bits .and .u64 (shv .shr .u64 a0 1) 6148914691236517205) + (bits .and .u64 a0 6148914691236517205))) 3689348814741910323))) 4) + (W64 ((bits .and .u64 (shv .shr .u64 (W64 ((bits .and .u64 (shv .shr .u64 a0 1) 6148914691236517205) + (bits .and .u64 a0 6148914691236517205))) 2) 3689348814741910323) + (bits .and .u64 (W64 ((bits .and .u64 (shv .shr .u64 a0 1) 6148914691236517205) + (bits .and .u64 a0 6148914691236517205))) 3689348814741910323))))) 1085102592571150095) 8))) 16))) + (shv .shr .u64 (W64 ((W64 ((bits .and .u64 (W64 ((shv .shr .u64 (W64 ((bits .and .u64 (shv .shr .u64 (W64 ((bits .and .u64 (shv .shr .u64 a0 1) 6148914691236517205) + (bits .and .u64 a0 6148914691236517205))) 2) 3689348814741910323) + (bits .and .u64 (W64 ((bits .and .u64 (shv .shr .u64 a0 1) 6148914691236517205) + (bits .and .u64 a0 6148914691236517205))) 3689348814741910323))) 4) + (W64 ((bits .and .u64 (shv .shr .u64 (W64 ((bits .and .u64 (shv .shr .u64 a0 1) 6148914691236517205) + (bits .and .u64 a0 6148914691236517205))) 2) 3689348814741910323) + (bits .and .u64 (W64 ((bits .and .u64 (shv .shr .u64 a0 1) 6148914691236517205) + (bits .and .u64 a0 6148914691236517205))) 3689348814741910323))))) 1085102592571150095) + (shv .shr .u64 (bits .and .u64 (W64 ((shv .shr .u64 (W64 ((bits .and .u64 (shv .shr .u64 (W64 ((bits .and .u64 (shv .shr .u64 a0 1) 6148914691236517205) + (bits .and .u64 a0 6148914691236517205))) 2) 3689348814741910323) + (bits .and .u64 (W64 ((bits .and .u64 (shv .shr .u64 a0 1) 6148914691236517205) + (bits .and .u64 a0 6148914691236517205))) 3689348814741910323))) 4) + (W64 ((bits .and .u64 (shv .shr .u64 (W64 ((bits .and .u64 (shv .shr .u64 a0 1) 6148914691236517205) + (bits .and .u64 a0 6148914691236517205))) 2) 3689348814741910323) + (bits .and .u64 (W64 ((bits .and .u64 (shv .shr .u64 a0 1) 6148914691236517205) + (bits .and .u64 a0 6148914691236517205))) 3689348814741910323))))) 1085102592571150095) 8))) + (shv .shr .u64 (W64 ((bits .and .u64 (W64 ((shv .shr .u64 (W64 ((bits .and .u64 (shv .shr .u64 (W64 ((bits .and .u64 (shv .shr .u64 a0 1) 6148914691236517205) + (bits .and .u64 a0 6148914691236517205))) 2) 3689348814741910323) + (bits .and .u64 (W64 ((bits .and .u64 (shv .shr .u64 a0 1) 6148914691236517205) + (bits .and .u64 a0 6148914691236517205))) 3689348814741910323))) 4) + (W64 ((bits .and .u64 (shv .shr .u64 (W64 ((bits .and .u64 (shv .shr .u64 a0 1) 6148914691236517205) + (bits .and .u64 a0 6148914691236517205))) 2) 3689348814741910323) + (bits .and .u64 (W64 ((bits .and .u64 (shv .shr .u64 a0 1) 6148914691236517205) + (bits .and .u64 a0 6148914691236517205))) 3689348814741910323))))) 1085102592571150095) + (shv .shr .u64 (bits .and .u64 (W64 ((shv .shr .u64 (W64 ((bits .and .u64 (shv .shr .u64 (W64 ((bits .and .u64 (shv .shr .u64 a0 1) 6148914691236517205) + (bits .and .u64 a0 6148914691236517205))) 2) 3689348814741910323) + (bits .and .u64 (W64 ((bits .and .u64 (shv .shr .u64 a0 1) 6148914691236517205) + (bits .and .u64 a0 6148914691236517205))) 3689348814741910323))) 4) + (W64 ((bits .and .u64 (shv .shr .u64 (W64 ((bits .and .u64 (shv .shr .u64 a0 1) 6148914691236517205) + (bits .and .u64 a0 6148914691236517205))) 2) 3689348814741910323) + (bits .and .u64 (W64 ((bits .and .u64 (shv .shr .u64 a0 1) 6148914691236517205) + (bits .and .u64 a0 6148914691236517205))) 3689348814741910323))))) 1085102592571150095) 8))) 16))) 32)))) 127)
def bits_OnesCount64.R (r : Int) (w : World) : Ending → World → Prop := fun e w' => e = .returned (.int .i64 r) ∧ Kp No w w'
set_option maxRecDepth 20000 in
set_option maxHeartbeats 4000000 in
theorem bits_OnesCount64.ok (K : Nat) (a0 : Int) (w : World)  (r : Int) (H : bits_OnesCount64.f K a0 = some r) : Calls Try.prog 81 #[.int .u64 a0] w (bits_OnesCount64.R r w) := by
  refine calls_cd (t := #[.int .u64 a0, undef, undef, undef, undef, undef, undef, undef, undef, undef, undef, undef, undef, undef, undef, undef, undef, undef, undef, undef, undef, undef, undef, undef, undef, undef, undef, undef, undef, undef, undef, undef, undef, undef, undef]) Try.func81 (by kernel_rfl) (by kernel_rfl) ?_
  unfold bits_OnesCount64.f at H
  have HR : ∀ a w', bodyPost Try.prog Try.f81 (bits_OnesCount64.R r w) .ret a w' → bodyPost Try.prog Try.f81 (bits_OnesCount64.R r w) .ret a w' := fun _ _ h => h
  refine w_seq (p := []) (p0 := [0]) (p1 := [1]) (by kernel_rfl) ?_
  refine w_region (p := [0]) (id := 0) (by kernel_rfl) ?_
  refine r_vals 0 1 [.int .i64 0] (by kernel_rfl) (by kernel_rfl) ?_
  refine r_fin 1 (by kernel_rfl) ?_
  refine q_then ?_
  refine w_seq (p := [1]) (p0 := [1, 0]) (p1 := [1, 1]) (by kernel_rfl) ?_
  refine w_region (p := [1, 0]) (id := 1) (by kernel_rfl) ?_
  refine r_vals 0 7 [.int .u64 a0, .int .u64 (shv .shr .u64 a0 1), .int .u64 (bits .and .u64 (shv .shr .u64 a0 1) 6148914691236517205), .int .u64 a0, .int .u64 (bits .and .u64 a0 6148914691236517205), .int .u64 (W64 ((bits .and .u64 (shv .shr .u64 a0 1) 6148914691236517205) + (bits .and .u64 a0 6148914691236517205))), .int .u64 (W64 ((bits .and .u64 (shv .shr .u64 a0 1) 6148914691236517205) + (bits .and .u64 a0 6148914691236517205)))] (by kernel_rfl) (by kernel_rfl) ?_
  refine r_fin 7 (by kernel_rfl) ?_
  refine q_then ?_
  refine w_seq (p := [1, 1]) (p0 := [1, 1, 0]) (p1 := [1, 1, 1]) (by kernel_rfl) ?_
  refine w_region (p := [1, 1, 0]) (id := 2) (by kernel_rfl) ?_
  refine r_vals 0 7 [.int .u64 (W64 ((bits .and .u64 (shv .shr .u64 a0 1) 6148914691236517205) + (bits .and .u64 a0 6148914691236517205))), .int .u64 (shv .shr .u64 (W64 ((bits .and .u64 (shv .shr .u64 a0 1) 6148914691236517205) + (bits .and .u64 a0 6148914691236517205))) 2), .int .u64 (bits .and .u64 (shv .shr .u64 (W64 ((bits .and .u64 (shv .shr .u64 a0 1) 6148914691236517205) + (bits .and .u64 a0 6148914691236517205))) 2) 3689348814741910323), .int .u64 (W64 ((bits .and .u64 (shv .shr .u64 a0 1) 6148914691236517205) + (bits .and .u64 a0 6148914691236517205))), .int .u64 (bits .and .u64 (W64 ((bits .and .u64 (shv .shr .u64 a0 1) 6148914691236517205) + (bits .and .u64 a0 6148914691236517205))) 3689348814741910323), .int .u64 (W64 ((bits .and .u64 (shv .shr .u64 (W64 ((bits .and .u64 (shv .shr .u64 a0 1) 6148914691236517205) + (bits .and .u64 a0 6148914691236517205))) 2) 3689348814741910323) + (bits .and .u64 (W64 ((bits .and .u64 (shv .shr .u64 a0 1) 6148914691236517205) + (bits .and .u64 a0 6148914691236517205))) 3689348814741910323))), .int .u64 (W64 ((bits .and .u64 (shv .shr .u64 (W64 ((bits .and .u64 (shv .shr .u64 a0 1) 6148914691236517205) + (bits .and .u64 a0 6148914691236517205))) 2) 3689348814741910323) + (bits .and .u64 (W64 ((bits .and .u64 (shv .shr .u64 a0 1) 6148914691236517205) + (bits .and .u64 a0 6148914691236517205))) 3689348814741910323)))] (by kernel_rfl) (by kernel_rfl) ?_
  refine r_fin 7 (by kernel_rfl) ?_
  refine q_then ?_
  refine w_seq (p := [1, 1, 1]) (p0 := [1, 1, 1, 0]) (p1 := [1, 1, 1, 1]) (by kernel_rfl) ?_
  refine w_region (p := [1, 1, 1, 0]) (id := 3) (by kernel_rfl) ?_
  refine r_vals 0 6 [.int .u64 (W64 ((bits .and .u64 (shv .shr .u64 (W64 ((bits .and .u64 (shv .shr .u64 a0 1) 6148914691236517205) + (bits .and .u64 a0 6148914691236517205))) 2) 3689348814741910323) + (bits .and .u64 (W64 ((bits .and .u64 (shv .shr .u64 a0 1) 6148914691236517205) + (bits .and .u64 a0 6148914691236517205))) 3689348814741910323))), .int .u64 (shv .shr .u64 (W64 ((bits .and .u64 (shv .shr .u64 (W64 ((bits .and .u64 (shv .shr .u64 a0 1) 6148914691236517205) + (bits .and .u64 a0 6148914691236517205))) 2) 3689348814741910323) + (bits .and .u64 (W64 ((bits .and .u64 (shv .shr .u64 a0 1) 6148914691236517205) + (bits .and .u64 a0 6148914691236517205))) 3689348814741910323))) 4), .int .u64 (W64 ((bits .and .u64 (shv .shr .u64 (W64 ((bits .and .u64 (shv .shr .u64 a0 1) 6148914691236517205) + (bits .and .u64 a0 6148914691236517205))) 2) 3689348814741910323) + (bits .and .u64 (W64 ((bits .and .u64 (shv .shr .u64 a0 1) 6148914691236517205) + (bits .and .u64 a0 6148914691236517205))) 3689348814741910323))), .int .u64 (W64 ((shv .shr .u64 (W64 ((bits .and .u64 (shv .shr .u64 (W64 ((bits .and .u64 (shv .shr .u64 a0 1) 6148914691236517205) + (bits .and .u64 a0 6148914691236517205))) 2) 3689348814741910323) + (bits .and .u64 (W64 ((bits .and .u64 (shv .shr .u64 a0 1) 6148914691236517205) + (bits .and .u64 a0 6148914691236517205))) 3689348814741910323))) 4) + (W64 ((bits .and .u64 (shv .shr .u64 (W64 ((bits .and .u64 (shv .shr .u64 a0 1) 6148914691236517205) + (bits .and .u64 a0 6148914691236517205))) 2) 3689348814741910323) + (bits .and .u64 (W64 ((bits .and .u64 (shv .shr .u64 a0 1) 6148914691236517205) + (bits .and .u64 a0 6148914691236517205))) 3689348814741910323))))), .int .u64 (bits .and .u64 (W64 ((shv .shr .u64 (W64 ((bits .and .u64 (shv .shr .u64 (W64 ((bits .and .u64 (shv .shr .u64 a0 1) 6148914691236517205) + (bits .and .u64 a0 6148914691236517205))) 2) 3689348814741910323) + (bits .and .u64 (W64 ((bits .and .u64 (shv .shr .u64 a0 1) 6148914691236517205) + (bits .and .u64 a0 6148914691236517205))) 3689348814741910323))) 4) + (W64 ((bits .and .u64 (shv .shr .u64 (W64 ((bits .and .u64 (shv .shr .u64 a0 1) 6148914691236517205) + (bits .and .u64 a0 6148914691236517205))) 2) 3689348814741910323) + (bits .and .u64 (W64 ((bits .and .u64 (shv .shr .u64 a0 1) 6148914691236517205) + (bits .and .u64 a0 6148914691236517205))) 3689348814741910323))))) 1085102592571150095), .int .u64 (bits .and .u64 (W64 ((shv .shr .u64 (W64 ((bits .and .u64 (shv .shr .u64 (W64 ((bits .and .u64 (shv .shr .u64 a0 1) 6148914691236517205) + (bits .and .u64 a0 6148914691236517205))) 2) 3689348814741910323) + (bits .and .u64 (W64 ((bits .and .u64 (shv .shr .u64 a0 1) 6148914691236517205) + (bits .and .u64 a0 6148914691236517205))) 3689348814741910323))) 4) + (W64 ((bits .and .u64 (shv .shr .u64 (W64 ((bits .and .u64 (shv .shr .u64 a0 1) 6148914691236517205) + (bits .and .u64 a0 6148914691236517205))) 2) 3689348814741910323) + (bits .and .u64 (W64 ((bits .and .u64 (shv .shr .u64 a0 1) 6148914691236517205) + (bits .and .u64 a0 6148914691236517205))) 3689348814741910323))))) 1085102592571150095)] (by kernel_rfl) (by kernel_rfl) ?_
  refine r_fin 6 (by kernel_rfl) ?_
  refine q_then ?_
  refine w_seq (p := [1, 1, 1, 1]) (p0 := [1, 1, 1, 1, 0]) (p1 := [1, 1, 1, 1, 1]) (by kernel_rfl) ?_
  refine w_region (p := [1, 1, 1, 1, 0]) (id := 4) (by kernel_rfl) ?_
  refine r_vals 0 5 [.int .u64 (bits .and .u64 (W64 ((shv .shr .u64 (W64 ((bits .and .u64 (shv .shr .u64 (W64 ((bits .and .u64 (shv .shr .u64 a0 1) 6148914691236517205) + (bits .and .u64 a0 6148914691236517205))) 2) 3689348814741910323) + (bits .and .u64 (W64 ((bits .and .u64 (shv .shr .u64 a0 1) 6148914691236517205) + (bits .and .u64 a0 6148914691236517205))) 3689348814741910323))) 4) + (W64 ((bits .and .u64 (shv .shr .u64 (W64 ((bits .and .u64 (shv .shr .u64 a0 1) 6148914691236517205) + (bits .and .u64 a0 6148914691236517205))) 2) 3689348814741910323) + (bits .and .u64 (W64 ((bits .and .u64 (shv .shr .u64 a0 1) 6148914691236517205) + (bits .and .u64 a0 6148914691236517205))) 3689348814741910323))))) 1085102592571150095), .int .u64 (bits .and .u64 (W64 ((shv .shr .u64 (W64 ((bits .and .u64 (shv .shr .u64 (W64 ((bits .and .u64 (shv .shr .u64 a0 1) 6148914691236517205) + (bits .and .u64 a0 6148914691236517205))) 2) 3689348814741910323) + (bits .and .u64 (W64 ((bits .and .u64 (shv .shr .u64 a0 1) 6148914691236517205) + (bits .and .u64 a0 6148914691236517205))) 3689348814741910323))) 4) + (W64 ((bits .and .u64 (shv .shr .u64 (W64 ((bits .and .u64 (shv .shr .u64 a0 1) 6148914691236517205) + (bits .and .u64 a0 6148914691236517205))) 2) 3689348814741910323) + (bits .and .u64 (W64 ((bits .and .u64 (shv .shr .u64 a0 1) 6148914691236517205) + (bits .and .u64 a0 6148914691236517205))) 3689348814741910323))))) 1085102592571150095), .int .u64 (shv .shr .u64 (bits .and .u64 (W64 ((shv .shr .u64 (W64 ((bits .and .u64 (shv .shr .u64 (W64 ((bits .and .u64 (shv .shr .u64 a0 1) 6148914691236517205) + (bits .and .u64 a0 6148914691236517205))) 2) 3689348814741910323) + (bits .and .u64 (W64 ((bits .and .u64 (shv .shr .u64 a0 1) 6148914691236517205) + (bits .and .u64 a0 6148914691236517205))) 3689348814741910323))) 4) + (W64 ((bits .and .u64 (shv .shr .u64 (W64 ((bits .and .u64 (shv .shr .u64 a0 1) 6148914691236517205) + (bits .and .u64 a0 6148914691236517205))) 2) 3689348814741910323) + (bits .and .u64 (W64 ((bits .and .u64 (shv .shr .u64 a0 1) 6148914691236517205) + (bits .and .u64 a0 6148914691236517205))) 3689348814741910323))))) 1085102592571150095) 8), .int .u64 (W64 ((bits .and .u64 (W64 ((shv .shr .u64 (W64 ((bits .and .u64 (shv .shr .u64 (W64 ((bits .and .u64 (shv .shr .u64 a0 1) 6148914691236517205) + (bits .and .u64 a0 6148914691236517205))) 2) 3689348814741910323) + (bits .and .u64 (W64 ((bits .and .u64 (shv .shr .u64 a0 1) 6148914691236517205) + (bits .and .u64 a0 6148914691236517205))) 3689348814741910323))) 4) + (W64 ((bits .and .u64 (shv .shr .u64 (W64 ((bits .and .u64 (shv .shr .u64 a0 1) 6148914691236517205) + (bits .and .u64 a0 6148914691236517205))) 2) 3689348814741910323) + (bits .and .u64 (W64 ((bits .and .u64 (shv .shr .u64 a0 1) 6148914691236517205) + (bits .and .u64 a0 6148914691236517205))) 3689348814741910323))))) 1085102592571150095) + (shv .shr .u64 (bits .and .u64 (W64 ((shv .shr .u64 (W64 ((bits .and .u64 (shv .shr .u64 (W64 ((bits .and .u64 (shv .shr .u64 a0 1) 6148914691236517205) + (bits .and .u64 a0 6148914691236517205))) 2) 3689348814741910323) + (bits .and .u64 (W64 ((bits .and .u64 (shv .shr .u64 a0 1) 6148914691236517205) + (bits .and .u64 a0 6148914691236517205))) 3689348814741910323))) 4) + (W64 ((bits .and .u64 (shv .shr .u64 (W64 ((bits .and .u64 (shv .shr .u64 a0 1) 6148914691236517205) + (bits .and .u64 a0 6148914691236517205))) 2) 3689348814741910323) + (bits .and .u64 (W64 ((bits .and .u64 (shv .shr .u64 a0 1) 6148914691236517205) + (bits .and .u64 a0 6148914691236517205))) 3689348814741910323))))) 1085102592571150095) 8))), .int .u64 (W64 ((bits .and .u64 (W64 ((shv .shr .u64 (W64 ((bits .and .u64 (shv .shr .u64 (W64 ((bits .and .u64 (shv .shr .u64 a0 1) 6148914691236517205) + (bits .and .u64 a0 6148914691236517205))) 2) 3689348814741910323) + (bits .and .u64 (W64 ((bits .and .u64 (shv .shr .u64 a0 1) 6148914691236517205) + (bits .and .u64 a0 6148914691236517205))) 3689348814741910323))) 4) + (W64 ((bits .and .u64 (shv .shr .u64 (W64 ((bits .and .u64 (shv .shr .u64 a0 1) 6148914691236517205) + (bits .and .u64 a0 6148914691236517205))) 2) 3689348814741910323) + (bits .and .u64 (W64 ((bits .and .u64 (shv .shr .u64 a0 1) 6148914691236517205) + (bits .and .u64 a0 6148914691236517205))) 3689348814741910323))))) 1085102592571150095) + (shv .shr .u64 (bits .and .u64 (W64 ((shv .shr .u64 (W64 ((bits .and .u64 (shv .shr .u64 (W64 ((bits .and .u64 (shv .shr .u64 a0 1) 6148914691236517205) + (bits .and .u64 a0 6148914691236517205))) 2) 3689348814741910323) + (bits .and .u64 (W64 ((bits .and .u64 (shv .shr .u64 a0 1) 6148914691236517205) + (bits .and .u64 a0 6148914691236517205))) 3689348814741910323))) 4) + (W64 ((bits .and .u64 (shv .shr .u64 (W64 ((bits .and .u64 (shv .shr .u64 a0 1) 6148914691236517205) + (bits .and .u64 a0 6148914691236517205))) 2) 3689348814741910323) + (bits .and .u64 (W64 ((bits .and .u64 (shv .shr .u64 a0 1) 6148914691236517205) + (bits .and .u64 a0 6148914691236517205))) 3689348814741910323))))) 1085102592571150095) 8)))] (by kernel_rfl) (by kernel_rfl) ?_
  refine r_fin 5 (by kernel_rfl) ?_
  refine q_then ?_
  refine w_seq (p := [1, 1, 1, 1, 1]) (p0 := [1, 1, 1, 1, 1, 0]) (p1 := [1, 1, 1, 1, 1, 1]) (by kernel_rfl) ?_
  refine w_region (p := [1, 1, 1, 1, 1, 0]) (id := 5) (by kernel_rfl) ?_
  refine r_vals 0 5 [.int .u64 (W64 ((bits .and .u64 (W64 ((shv .shr .u64 (W64 ((bits .and .u64 (shv .shr .u64 (W64 ((bits .and .u64 (shv .shr .u64 a0 1) 6148914691236517205) + (bits .and .u64 a0 6148914691236517205))) 2) 3689348814741910323) + (bits .and .u64 (W64 ((bits .and .u64 (shv .shr .u64 a0 1) 6148914691236517205) + (bits .and .u64 a0 6148914691236517205))) 3689348814741910323))) 4) + (W64 ((bits .and .u64 (shv .shr .u64 (W64 ((bits .and .u64 (shv .shr .u64 a0 1) 6148914691236517205) + (bits .and .u64 a0 6148914691236517205))) 2) 3689348814741910323) + (bits .and .u64 (W64 ((bits .and .u64 (shv .shr .u64 a0 1) 6148914691236517205) + (bits .and .u64 a0 6148914691236517205))) 3689348814741910323))))) 1085102592571150095) + (shv .shr .u64 (bits .and .u64 (W64 ((shv .shr .u64 (W64 ((bits .and .u64 (shv .shr .u64 (W64 ((bits .and .u64 (shv .shr .u64 a0 1) 6148914691236517205) + (bits .and .u64 a0 6148914691236517205))) 2) 3689348814741910323) + (bits .and .u64 (W64 ((bits .and .u64 (shv .shr .u64 a0 1) 6148914691236517205) + (bits .and .u64 a0 6148914691236517205))) 3689348814741910323))) 4) + (W64 ((bits .and .u64 (shv .shr .u64 (W64 ((bits .and .u64 (shv .shr .u64 a0 1) 6148914691236517205) + (bits .and .u64 a0 6148914691236517205))) 2) 3689348814741910323) + (bits .and .u64 (W64 ((bits .and .u64 (shv .shr .u64 a0 1) 6148914691236517205) + (bits .and .u64 a0 6148914691236517205))) 3689348814741910323))))) 1085102592571150095) 8))), .int .u64 (W64 ((bits .and .u64 (W64 ((shv .shr .u64 (W64 ((bits .and .u64 (shv .shr .u64 (W64 ((bits .and .u64 (shv .shr .u64 a0 1) 6148914691236517205) + (bits .and .u64 a0 6148914691236517205))) 2) 3689348814741910323) + (bits .and .u64 (W64 ((bits .and .u64 (shv .shr .u64 a0 1) 6148914691236517205) + (bits .and .u64 a0 6148914691236517205))) 3689348814741910323))) 4) + (W64 ((bits .and .u64 (shv .shr .u64 (W64 ((bits .and .u64 (shv .shr .u64 a0 1) 6148914691236517205) + (bits .and .u64 a0 6148914691236517205))) 2) 3689348814741910323) + (bits .and .u64 (W64 ((bits .and .u64 (shv .shr .u64 a0 1) 6148914691236517205) + (bits .and .u64 a0 6148914691236517205))) 3689348814741910323))))) 1085102592571150095) + (shv .shr .u64 (bits .and .u64 (W64 ((shv .shr .u64 (W64 ((bits .and .u64 (shv .shr .u64 (W64 ((bits .and .u64 (shv .shr .u64 a0 1) 6148914691236517205) + (bits .and .u64 a0 6148914691236517205))) 2) 3689348814741910323) + (bits .and .u64 (W64 ((bits .and .u64 (shv .shr .u64 a0 1) 6148914691236517205) + (bits .and .u64 a0 6148914691236517205))) 3689348814741910323))) 4) + (W64 ((bits .and .u64 (shv .shr .u64 (W64 ((bits .and .u64 (shv .shr .u64 a0 1) 6148914691236517205) + (bits .and .u64 a0 6148914691236517205))) 2) 3689348814741910323) + (bits .and .u64 (W64 ((bits .and .u64 (shv .shr .u64 a0 1) 6148914691236517205) + (bits .and .u64 a0 6148914691236517205))) 3689348814741910323))))) 1085102592571150095) 8))), .int .u64 (shv .shr .u64 (W64 ((bits .and .u64 (W64 ((shv .shr .u64 (W64 ((bits .and .u64 (shv .shr .u64 (W64 ((bits .and .u64 (shv .shr .u64 a0 1) 6148914691236517205) + (bits .and .u64 a0 6148914691236517205))) 2) 3689348814741910323) + (bits .and .u64 (W64 ((bits .and .u64 (shv .shr .u64 a0 1) 6148914691236517205) + (bits .and .u64 a0 6148914691236517205))) 3689348814741910323))) 4) + (W64 ((bits .and .u64 (shv .shr .u64 (W64 ((bits .and .u64 (shv .shr .u64 a0 1) 6148914691236517205) + (bits .and .u64 a0 6148914691236517205))) 2) 3689348814741910323) + (bits .and .u64 (W64 ((bits .and .u64 (shv .shr .u64 a0 1) 6148914691236517205) + (bits .and .u64 a0 6148914691236517205))) 3689348814741910323))))) 1085102592571150095) + (shv .shr .u64 (bits .and .u64 (W64 ((shv .shr .u64 (W64 ((bits .and .u64 (shv .shr .u64 (W64 ((bits .and .u64 (shv .shr .u64 a0 1) 6148914691236517205) + (bits .and .u64 a0 6148914691236517205))) 2) 3689348814741910323) + (bits .and .u64 (W64 ((bits .and .u64 (shv .shr .u64 a0 1) 6148914691236517205) + (bits .and .u64 a0 6148914691236517205))) 3689348814741910323))) 4) + (W64 ((bits .and .u64 (shv .shr .u64 (W64 ((bits .and .u64 (shv .shr .u64 a0 1) 6148914691236517205) + (bits .and .u64 a0 6148914691236517205))) 2) 3689348814741910323) + (bits .and .u64 (W64 ((bits .and .u64 (shv .shr .u64 a0 1) 6148914691236517205) + (bits .and .u64 a0 6148914691236517205))) 3689348814741910323))))) 1085102592571150095) 8))) 16), .int .u64 (W64 ((W64 ((bits .and .u64 (W64 ((shv .shr .u64 (W64 ((bits .and .u64 (shv .shr .u64 (W64 ((bits .and .u64 (shv .shr .u64 a0 1) 6148914691236517205) + (bits .and .u64 a0 6148914691236517205))) 2) 3689348814741910323) + (bits .and .u64 (W64 ((bits .and .u64 (shv .shr .u64 a0 1) 6148914691236517205) + (bits .and .u64 a0 6148914691236517205))) 3689348814741910323))) 4) + (W64 ((bits .and .u64 (shv .shr .u64 (W64 ((bits .and .u64 (shv .shr .u64 a0 1) 6148914691236517205) + (bits .and .u64 a0 6148914691236517205))) 2) 3689348814741910323) + (bits .and .u64 (W64 ((bits .and .u64 (shv .shr .u64 a0 1) 6148914691236517205) + (bits .and .u64 a0 6148914691236517205))) 3689348814741910323))))) 1085102592571150095) + (shv .shr .u64 (bits .and .u64 (W64 ((shv .shr .u64 (W64 ((bits .and .u64 (shv .shr .u64 (W64 ((bits .and .u64 (shv .shr .u64 a0 1) 6148914691236517205) + (bits .and .u64 a0 6148914691236517205))) 2) 3689348814741910323) + (bits .and .u64 (W64 ((bits .and .u64 (shv .shr .u64 a0 1) 6148914691236517205) + (bits .and .u64 a0 6148914691236517205))) 3689348814741910323))) 4) + (W64 ((bits .and .u64 (shv .shr .u64 (W64 ((bits .and .u64 (shv .shr .u64 a0 1) 6148914691236517205) + (bits .and .u64 a0 6148914691236517205))) 2) 3689348814741910323) + (bits .and .u64 (W64 ((bits .and .u64 (shv .shr .u64 a0 1) 6148914691236517205) + (bits .and .u64 a0 6148914691236517205))) 3689348814741910323))))) 1085102592571150095) 8))) + (shv .shr .u64 (W64 ((bits .and .u64 (W64 ((shv .shr .u64 (W64 ((bits .and .u64 (shv .shr .u64 (W64 ((bits .and .u64 (shv .shr .u64 a0 1) 6148914691236517205) + (bits .and .u64 a0 6148914691236517205))) 2) 3689348814741910323) + (bits .and .u64 (W64 ((bits .and .u64 (shv .shr .u64 a0 1) 6148914691236517205) + (bits .and .u64 a0 6148914691236517205))) 3689348814741910323))) 4) + (W64 ((bits .and .u64 (shv .shr .u64 (W64 ((bits .and .u64 (shv .shr .u64 a0 1) 6148914691236517205) + (bits .and .u64 a0 6148914691236517205))) 2) 3689348814741910323) + (bits .and .u64 (W64 ((bits .and .u64 (shv .shr .u64 a0 1) 6148914691236517205) + (bits .and .u64 a0 6148914691236517205))) 3689348814741910323))))) 1085102592571150095) + (shv .shr .u64 (bits .and .u64 (W64 ((shv .shr .u64 (W64 ((bits .and .u64 (shv .shr .u64 (W64 ((bits .and .u64 (shv .shr .u64 a0 1) 6148914691236517205) + (bits .and .u64 a0 6148914691236517205))) 2) 3689348814741910323) + (bits .and .u64 (W64 ((bits .and .u64 (shv .shr .u64 a0 1) 6148914691236517205) + (bits .and .u64 a0 6148914691236517205))) 3689348814741910323))) 4) + (W64 ((bits .and .u64 (shv .shr .u64 (W64 ((bits .and .u64 (shv .shr .u64 a0 1) 6148914691236517205) + (bits .and .u64 a0 6148914691236517205))) 2) 3689348814741910323) + (bits .and .u64 (W64 ((bits .and .u64 (shv .shr .u64 a0 1) 6148914691236517205) + (bits .and .u64 a0 6148914691236517205))) 3689348814741910323))))) 1085102592571150095) 8))) 16))), .int .u64 (W64 ((W64 ((bits .and .u64 (W64 ((shv .shr .u64 (W64 ((bits .and .u64 (shv .shr .u64 (W64 ((bits .and .u64 (shv .shr .u64 a0 1) 6148914691236517205) + (bits .and .u64 a0 6148914691236517205))) 2) 3689348814741910323) + (bits .and .u64 (W64 ((bits .and .u64 (shv .shr .u64 a0 1) 6148914691236517205) + (bits .and .u64 a0 6148914691236517205))) 3689348814741910323))) 4) + (W64 ((bits .and .u64 (shv .shr .u64 (W64 ((bits .and .u64 (shv .shr .u64 a0 1) 6148914691236517205) + (bits .and .u64 a0 6148914691236517205))) 2) 3689348814741910323) + (bits .and .u64 (W64 ((bits .and .u64 (shv .shr .u64 a0 1) 6148914691236517205) + (bits .and .u64 a0 6148914691236517205))) 3689348814741910323))))) 1085102592571150095) + (shv .shr .u64 (bits .and .u64 (W64 ((shv .shr .u64 (W64 ((bits .and .u64 (shv .shr .u64 (W64 ((bits .and .u64 (shv .shr .u64 a0 1) 6148914691236517205) + (bits .and .u64 a0 6148914691236517205))) 2) 3689348814741910323) + (bits .and .u64 (W64 ((bits .and .u64 (shv .shr .u64 a0 1) 6148914691236517205) + (bits .and .u64 a0 6148914691236517205))) 3689348814741910323))) 4) + (W64 ((bits .and .u64 (shv .shr .u64 (W64 ((bits .and .u64 (shv .shr .u64 a0 1) 6148914691236517205) + (bits .and .u64 a0 6148914691236517205))) 2) 3689348814741910323) + (bits .and .u64 (W64 ((bits .and .u64 (shv .shr .u64 a0 1) 6148914691236517205) + (bits .and .u64 a0 6148914691236517205))) 3689348814741910323))))) 1085102592571150095) 8))) + (shv .shr .u64 (W64 ((bits .and .u64 (W64 ((shv .shr .u64 (W64 ((bits .and .u64 (shv .shr .u64 (W64 ((bits .and .u64 (shv .shr .u64 a0 1) 6148914691236517205) + (bits .and .u64 a0 6148914691236517205))) 2) 3689348814741910323) + (bits .and .u64 (W64 ((bits .and .u64 (shv .shr .u64 a0 1) 6148914691236517205) + (bits .and .u64 a0 6148914691236517205))) 3689348814741910323))) 4) + (W64 ((bits .and .u64 (shv .shr .u64 (W64 ((bits .and .u64 (shv .shr .u64 a0 1) 6148914691236517205) + (bits .and .u64 a0 6148914691236517205))) 2) 3689348814741910323) + (bits .and .u64 (W64 ((bits .and .u64 (shv .shr .u64 a0 1) 6148914691236517205) + (bits .and .u64 a0 6148914691236517205))) 3689348814741910323))))) 1085102592571150095) + (shv .shr .u64 (bits .and .u64 (W64 ((shv .shr .u64 (W64 ((bits .and .u64 (shv .shr .u64 (W64 ((bits .and .u64 (shv .shr .u64 a0 1) 6148914691236517205) + (bits .and .u64 a0 6148914691236517205))) 2) 3689348814741910323) + (bits .and .u64 (W64 ((bits .and .u64 (shv .shr .u64 a0 1) 6148914691236517205) + (bits .and .u64 a0 6148914691236517205))) 3689348814741910323))) 4) + (W64 ((bits .and .u64 (shv .shr .u64 (W64 ((bits .and .u64 (shv .shr .u64 a0 1) 6148914691236517205) + (bits .and .u64 a0 6148914691236517205))) 2) 3689348814741910323) + (bits .and .u64 (W64 ((bits .and .u64 (shv .shr .u64 a0 1) 6148914691236517205) + (bits .and .u64 a0 6148914691236517205))) 3689348814741910323))))) 1085102592571150095) 8))) 16)))] (by kernel_rfl) (by kernel_rfl) ?_
  refine r_fin 5 (by kernel_rfl) ?_
  refine q_then ?_
  refine w_seq (p := [1, 1, 1, 1, 1, 1]) (p0 := [1, 1, 1, 1, 1, 1, 0]) (p1 := [1, 1, 1, 1, 1, 1, 1]) (by kernel_rfl) ?_
  refine w_region (p := [1, 1, 1, 1, 1, 1, 0]) (id := 6) (by kernel_rfl) ?_
  refine r_vals 0 5 [.int .u64 (W64 ((W64 ((bits .and .u64 (W64 ((shv .shr .u64 (W64 ((bits .and .u64 (shv .shr .u64 (W64 ((bits .and .u64 (shv .shr .u64 a0 1) 6148914691236517205) + (bits .and .u64 a0 6148914691236517205))) 2) 3689348814741910323) + (bits .and .u64 (W64 ((bits .and .u64 (shv .shr .u64 a0 1) 6148914691236517205) + (bits .and .u64 a0 6148914691236517205))) 3689348814741910323))) 4) + (W64 ((bits .and .u64 (shv .shr .u64 (W64 ((bits .and .u64 (shv .shr .u64 a0 1) 6148914691236517205) + (bits .and .u64 a0 6148914691236517205))) 2) 3689348814741910323) + (bits .and .u64 (W64 ((bits .and .u64 (shv .shr .u64 a0 1) 6148914691236517205) + (bits .and .u64 a0 6148914691236517205))) 3689348814741910323))))) 1085102592571150095) + (shv .shr .u64 (bits .and .u64 (W64 ((shv .shr .u64 (W64 ((bits .and .u64 (shv .shr .u64 (W64 ((bits .and .u64 (shv .shr .u64 a0 1) 6148914691236517205) + (bits .and .u64 a0 6148914691236517205))) 2) 3689348814741910323) + (bits .and .u64 (W64 ((bits .and .u64 (shv .shr .u64 a0 1) 6148914691236517205) + (bits .and .u64 a0 6148914691236517205))) 3689348814741910323))) 4) + (W64 ((bits .and .u64 (shv .shr .u64 (W64 ((bits .and .u64 (shv .shr .u64 a0 1) 6148914691236517205) + (bits .and .u64 a0 6148914691236517205))) 2) 3689348814741910323) + (bits .and .u64 (W64 ((bits .and .u64 (shv .shr .u64 a0 1) 6148914691236517205) + (bits .and .u64 a0 6148914691236517205))) 3689348814741910323))))) 1085102592571150095) 8))) + (shv .shr .u64 (W64 ((bits .and .u64 (W64 ((shv .shr .u64 (W64 ((bits .and .u64 (shv .shr .u64 (W64 ((bits .and .u64 (shv .shr .u64 a0 1) 6148914691236517205) + (bits .and .u64 a0 6148914691236517205))) 2) 3689348814741910323) + (bits .and .u64 (W64 ((bits .and .u64 (shv .shr .u64 a0 1) 6148914691236517205) + (bits .and .u64 a0 6148914691236517205))) 3689348814741910323))) 4) + (W64 ((bits .and .u64 (shv .shr .u64 (W64 ((bits .and .u64 (shv .shr .u64 a0 1) 6148914691236517205) + (bits .and .u64 a0 6148914691236517205))) 2) 3689348814741910323) + (bits .and .u64 (W64 ((bits .and .u64 (shv .shr .u64 a0 1) 6148914691236517205) + (bits .and .u64 a0 6148914691236517205))) 3689348814741910323))))) 1085102592571150095) + (shv .shr .u64 (bits .and .u64 (W64 ((shv .shr .u64 (W64 ((bits .and .u64 (shv .shr .u64 (W64 ((bits .and .u64 (shv .shr .u64 a0 1) 6148914691236517205) + (bits .and .u64 a0 6148914691236517205))) 2) 3689348814741910323) + (bits .and .u64 (W64 ((bits .and .u64 (shv .shr .u64 a0 1) 6148914691236517205) + (bits .and .u64 a0 6148914691236517205))) 3689348814741910323))) 4) + (W64 ((bits .and .u64 (shv .shr .u64 (W64 ((bits .and .u64 (shv .shr .u64 a0 1) 6148914691236517205) + (bits .and .u64 a0 6148914691236517205))) 2) 3689348814741910323) + (bits .and .u64 (W64 ((bits .and .u64 (shv .shr .u64 a0 1) 6148914691236517205) + (bits .and .u64 a0 6148914691236517205))) 3689348814741910323))))) 1085102592571150095) 8))) 16))), .int .u64 (W64 ((W64 ((bits .and .u64 (W64 ((shv .shr .u64 (W64 ((bits .and .u64 (shv .shr .u64 (W64 ((bits .and .u64 (shv .shr .u64 a0 1) 6148914691236517205) + (bits .and .u64 a0 6148914691236517205))) 2) 3689348814741910323) + (bits .and .u64 (W64 ((bits .and .u64 (shv .shr .u64 a0 1) 6148914691236517205) + (bits .and .u64 a0 6148914691236517205))) 3689348814741910323))) 4) + (W64 ((bits .and .u64 (shv .shr .u64 (W64 ((bits .and .u64 (shv .shr .u64 a0 1) 6148914691236517205) + (bits .and .u64 a0 6148914691236517205))) 2) 3689348814741910323) + (bits .and .u64 (W64 ((bits .and .u64 (shv .shr .u64 a0 1) 6148914691236517205) + (bits .and .u64 a0 6148914691236517205))) 3689348814741910323))))) 1085102592571150095) + (shv .shr .u64 (bits .and .u64 (W64 ((shv .shr .u64 (W64 ((bits .and .u64 (shv .shr .u64 (W64 ((bits .and .u64 (shv .shr .u64 a0 1) 6148914691236517205) + (bits .and .u64 a0 6148914691236517205))) 2) 3689348814741910323) + (bits .and .u64 (W64 ((bits .and .u64 (shv .shr .u64 a0 1) 6148914691236517205) + (bits .and .u64 a0 6148914691236517205))) 3689348814741910323))) 4) + (W64 ((bits .and .u64 (shv .shr .u64 (W64 ((bits .and .u64 (shv .shr .u64 a0 1) 6148914691236517205) + (bits .and .u64 a0 6148914691236517205))) 2) 3689348814741910323) + (bits .and .u64 (W64 ((bits .and .u64 (shv .shr .u64 a0 1) 6148914691236517205) + (bits .and .u64 a0 6148914691236517205))) 3689348814741910323))))) 1085102592571150095) 8))) + (shv .shr .u64 (W64 ((bits .and .u64 (W64 ((shv .shr .u64 (W64 ((bits .and .u64 (shv .shr .u64 (W64 ((bits .and .u64 (shv .shr .u64 a0 1) 6148914691236517205) + (bits .and .u64 a0 6148914691236517205))) 2) 3689348814741910323) + (bits .and .u64 (W64 ((bits .and .u64 (shv .shr .u64 a0 1) 6148914691236517205) + (bits .and .u64 a0 6148914691236517205))) 3689348814741910323))) 4) + (W64 ((bits .and .u64 (shv .shr .u64 (W64 ((bits .and .u64 (shv .shr .u64 a0 1) 6148914691236517205) + (bits .and .u64 a0 6148914691236517205))) 2) 3689348814741910323) + (bits .and .u64 (W64 ((bits .and .u64 (shv .shr .u64 a0 1) 6148914691236517205) + (bits .and .u64 a0 6148914691236517205))) 3689348814741910323))))) 1085102592571150095) + (shv .shr .u64 (bits .and .u64 (W64 ((shv .shr .u64 (W64 ((bits .and .u64 (shv .shr .u64 (W64 ((bits .and .u64 (shv .shr .u64 a0 1) 6148914691236517205) + (bits .and .u64 a0 6148914691236517205))) 2) 3689348814741910323) + (bits .and .u64 (W64 ((bits .and .u64 (shv .shr .u64 a0 1) 6148914691236517205) + (bits .and .u64 a0 6148914691236517205))) 3689348814741910323))) 4) + (W64 ((bits .and .u64 (shv .shr .u64 (W64 ((bits .and .u64 (shv .shr .u64 a0 1) 6148914691236517205) + (bits .and .u64 a0 6148914691236517205))) 2) 3689348814741910323) + (bits .and .u64 (W64 ((bits .and .u64 (shv .shr .u64 a0 1) 6148914691236517205) + (bits .and .u64 a0 6148914691236517205))) 3689348814741910323))))) 1085102592571150095) 8))) 16))), .int .u64 (shv .shr .u64 (W64 ((W64 ((bits .and .u64 (W64 ((shv .shr .u64 (W64 ((bits .and .u64 (shv .shr .u64 (W64 ((bits .and .u64 (shv .shr .u64 a0 1) 6148914691236517205) + (bits .and .u64 a0 6148914691236517205))) 2) 3689348814741910323) + (bits .and .u64 (W64 ((bits .and .u64 (shv .shr .u64 a0 1) 6148914691236517205) + (bits .and .u64 a0 6148914691236517205))) 3689348814741910323))) 4) + (W64 ((bits .and .u64 (shv .shr .u64 (W64 ((bits .and .u64 (shv .shr .u64 a0 1) 6148914691236517205) + (bits .and .u64 a0 6148914691236517205))) 2) 3689348814741910323) + (bits .and .u64 (W64 ((bits .and .u64 (shv .shr .u64 a0 1) 6148914691236517205) + (bits .and .u64 a0 6148914691236517205))) 3689348814741910323))))) 1085102592571150095) + (shv .shr .u64 (bits .and .u64 (W64 ((shv .shr .u64 (W64 ((bits .and .u64 (shv .shr .u64 (W64 ((bits .and .u64 (shv .shr .u64 a0 1) 6148914691236517205) + (bits .and .u64 a0 6148914691236517205))) 2) 3689348814741910323) + (bits .and .u64 (W64 ((bits .and .u64 (shv .shr .u64 a0 1) 6148914691236517205) + (bits .and .u64 a0 6148914691236517205))) 3689348814741910323))) 4) + (W64 ((bits .and .u64 (shv .shr .u64 (W64 ((bits .and .u64 (shv .shr .u64 a0 1) 6148914691236517205) + (bits .and .u64 a0 6148914691236517205))) 2) 3689348814741910323) + (bits .and .u64 (W64 ((bits .and .u64 (shv .shr .u64 a0 1) 6148914691236517205) + (bits .and .u64 a0 6148914691236517205))) 3689348814741910323))))) 1085102592571150095) 8))) + (shv .shr .u64 (W64 ((bits .and .u64 (W64 ((shv .shr .u64 (W64 ((bits .and .u64 (shv .shr .u64 (W64 ((bits .and .u64 (shv .shr .u64 a0 1) 6148914691236517205) + (bits .and .u64 a0 6148914691236517205))) 2) 3689348814741910323) + (bits .and .u64 (W64 ((bits .and .u64 (shv .shr .u64 a0 1) 6148914691236517205) + (bits .and .u64 a0 6148914691236517205))) 3689348814741910323))) 4) + (W64 ((bits .and .u64 (shv .shr .u64 (W64 ((bits .and .u64 (shv .shr .u64 a0 1) 6148914691236517205) + (bits .and .u64 a0 6148914691236517205))) 2) 3689348814741910323) + (bits .and .u64 (W64 ((bits .and .u64 (shv .shr .u64 a0 1) 6148914691236517205) + (bits .and .u64 a0 6148914691236517205))) 3689348814741910323))))) 1085102592571150095) + (shv .shr .u64 (bits .and .u64 (W64 ((shv .shr .u64 (W64 ((bits .and .u64 (shv .shr .u64 (W64 ((bits .and .u64 (shv .shr .u64 a0 1) 6148914691236517205) + (bits .and .u64 a0 6148914691236517205))) 2) 3689348814741910323) + (bits .and .u64 (W64 ((bits .and .u64 (shv .shr .u64 a0 1) 6148914691236517205) + (bits .and .u64 a0 6148914691236517205))) 3689348814741910323))) 4) + (W64 ((bits .and .u64 (shv .shr .u64 (W64 ((bits .and .u64 (shv .shr .u64 a0 1) 6148914691236517205) + (bits .and .u64 a0 6148914691236517205))) 2) 3689348814741910323) + (bits .and .u64 (W64 ((bits .and .u64 (shv .shr .u64 a0 1) 6148914691236517205) + (bits .and .u64 a0 6148914691236517205))) 3689348814741910323))))) 1085102592571150095) 8))) 16))) 32), .int .u64 (W64 ((W64 ((W64 ((bits .and .u64 (W64 ((shv .shr .u64 (W64 ((bits .and .u64 (shv .shr .u64 (W64 ((bits .and .u64 (shv .shr .u64 a0 1) 6148914691236517205) + (bits .and .u64 a0 6148914691236517205))) 2) 3689348814741910323) + (bits .and .u64 (W64 ((bits .and .u64 (shv .shr .u64 a0 1) 6148914691236517205) + (bits .and .u64 a0 6148914691236517205))) 3689348814741910323))) 4) + (W64 ((bits .and .u64 (shv .shr .u64 (W64 ((bits .and .u64 (shv .shr .u64 a0 1) 6148914691236517205) + (bits .and .u64 a0 6148914691236517205))) 2) 3689348814741910323) + (bits .and .u64 (W64 ((bits .and .u64 (shv .shr .u64 a0 1) 6148914691236517205) + (bits .and .u64 a0 6148914691236517205))) 3689348814741910323))))) 1085102592571150095) + (shv .shr .u64 (bits .and .u64 (W64 ((shv .shr .u64 (W64 ((bits .and .u64 (shv .shr .u64 (W64 ((bits .and .u64 (shv .shr .u64 a0 1) 6148914691236517205) + (bits .and .u64 a0 6148914691236517205))) 2) 3689348814741910323) + (bits .and .u64 (W64 ((bits .and .u64 (shv .shr .u64 a0 1) 6148914691236517205) + (bits .and .u64 a0 6148914691236517205))) 3689348814741910323))) 4) + (W64 ((bits .and .u64 (shv .shr .u64 (W64 ((bits .and .u64 (shv .shr .u64 a0 1) 6148914691236517205) + (bits .and .u64 a0 6148914691236517205))) 2) 3689348814741910323) + (bits .and .u64 (W64 ((bits .and .u64 (shv .shr .u64 a0 1) 6148914691236517205) + (bits .and .u64 a0 6148914691236517205))) 3689348814741910323))))) 1085102592571150095) 8))) + (shv .shr .u64 (W64 ((bits .and .u64 (W64 ((shv .shr .u64 (W64 ((bits .and .u64 (shv .shr .u64 (W64 ((bits .and .u64 (shv .shr .u64 a0 1) 6148914691236517205) + (bits .and .u64 a0 6148914691236517205))) 2) 3689348814741910323) + (bits .and .u64 (W64 ((bits .and .u64 (shv .shr .u64 a0 1) 6148914691236517205) + (bits .and .u64 a0 6148914691236517205))) 3689348814741910323))) 4) + (W64 ((bits .and .u64 (shv .shr .u64 (W64 ((bits .and .u64 (shv .shr .u64 a0 1) 6148914691236517205) + (bits .and .u64 a0 6148914691236517205))) 2) 3689348814741910323) + (bits .and .u64 (W64 ((bits .and .u64 (shv .shr .u64 a0 1) 6148914691236517205) + (bits .and .u64 a0 6148914691236517205))) 3689348814741910323))))) 1085102592571150095) + (shv .shr .u64 (bits .and .u64 (W64 ((shv .shr .u64 (W64 ((bits .and .u64 (shv .shr .u64 (W64 ((bits .and .u64 (shv .shr .u64 a0 1) 6148914691236517205) + (bits .and .u64 a0 6148914691236517205))) 2) 3689348814741910323) + (bits .and .u64 (W64 ((bits .and .u64 (shv .shr .u64 a0 1) 6148914691236517205) + (bits .and .u64 a0 6148914691236517205))) 3689348814741910323))) 4) + (W64 ((bits .and .u64 (shv .shr .u64 (W64 ((bits .and .u64 (shv .shr .u64 a0 1) 6148914691236517205) + (bits .and .u64 a0 6148914691236517205))) 2) 3689348814741910323) + (bits .and .u64 (W64 ((bits .and .u64 (shv .shr .u64 a0 1) 6148914691236517205) + (bits .and .u64 a0 6148914691236517205))) 3689348814741910323))))) 1085102592571150095) 8))) 16))) + (shv .shr .u64 (W64 ((W64 ((bits .and .u64 (W64 ((shv .shr .u64 (W64 ((bits .and .u64 (shv .shr .u64 (W64 ((bits .and .u64 (shv .shr .u64 a0 1) 6148914691236517205) + (bits .and .u64 a0 6148914691236517205))) 2) 3689348814741910323) + (bits .and .u64 (W64 ((bits .and .u64 (shv .shr .u64 a0 1) 6148914691236517205) + (bits .and .u64 a0 6148914691236517205))) 3689348814741910323))) 4) + (W64 ((bits .and .u64 (shv .shr .u64 (W64 ((bits .and .u64 (shv .shr .u64 a0 1) 6148914691236517205) + (bits .and .u64 a0 6148914691236517205))) 2) 3689348814741910323) + (bits .and .u64 (W64 ((bits .and .u64 (shv .shr .u64 a0 1) 6148914691236517205) + (bits .and .u64 a0 6148914691236517205))) 3689348814741910323))))) 1085102592571150095) + (shv .shr .u64 (bits .and .u64 (W64 ((shv .shr .u64 (W64 ((bits .and .u64 (shv .shr .u64 (W64 ((bits .and .u64 (shv .shr .u64 a0 1) 6148914691236517205) + (bits .and .u64 a0 6148914691236517205))) 2) 3689348814741910323) + (bits .and .u64 (W64 ((bits .and .u64 (shv .shr .u64 a0 1) 6148914691236517205) + (bits .and .u64 a0 6148914691236517205))) 3689348814741910323))) 4) + (W64 ((bits .and .u64 (shv .shr .u64 (W64 ((bits .and .u64 (shv .shr .u64 a0 1) 6148914691236517205) + (bits .and .u64 a0 6148914691236517205))) 2) 3689348814741910323) + (bits .and .u64 (W64 ((bits .and .u64 (shv .shr .u64 a0 1) 6148914691236517205) + (bits .and .u64 a0 6148914691236517205))) 3689348814741910323))))) 1085102592571150095) 8))) + (shv .shr .u64 (W64 ((bits .and .u64 (W64 ((shv .shr .u64 (W64 ((bits .and .u64 (shv .shr .u64 (W64 ((bits .and .u64 (shv .shr .u64 a0 1) 6148914691236517205) + (bits .and .u64 a0 6148914691236517205))) 2) 3689348814741910323) + (bits .and .u64 (W64 ((bits .and .u64 (shv .shr .u64 a0 1) 6148914691236517205) + (bits .and .u64 a0 6148914691236517205))) 3689348814741910323))) 4) + (W64 ((bits .and .u64 (shv .shr .u64 (W64 ((bits .and .u64 (shv .shr .u64 a0 1) 6148914691236517205) + (bits .and .u64 a0 6148914691236517205))) 2) 3689348814741910323) + (bits .and .u64 (W64 ((bits .and .u64 (shv .shr .u64 a0 1) 6148914691236517205) + (bits .and .u64 a0 6148914691236517205))) 3689348814741910323))))) 1085102592571150095) + (shv .shr .u64 (bits .and .u64 (W64 ((shv .shr .u64 (W64 ((bits .and .u64 (shv .shr .u64 (W64 ((bits .and .u64 (shv .shr .u64 a0 1) 6148914691236517205) + (bits .and .u64 a0 6148914691236517205))) 2) 3689348814741910323) + (bits .and .u64 (W64 ((bits .and .u64 (shv .shr .u64 a0 1) 6148914691236517205) + (bits .and .u64 a0 6148914691236517205))) 3689348814741910323))) 4) + (W64 ((bits .and .u64 (shv .shr .u64 (W64 ((bits .and .u64 (shv .shr .u64 a0 1) 6148914691236517205) + (bits .and .u64 a0 6148914691236517205))) 2) 3689348814741910323) + (bits .and .u64 (W64 ((bits .and .u64 (shv .shr .u64 a0 1) 6148914691236517205) + (bits .and .u64 a0 6148914691236517205))) 3689348814741910323))))) 1085102592571150095) 8))) 16))) 32))), .int .u64 (W64 ((W64 ((W64 ((bits .and .u64 (W64 ((shv .shr .u64 (W64 ((bits .and .u64 (shv .shr .u64 (W64 ((bits .and .u64 (shv .shr .u64 a0 1) 6148914691236517205) + (bits .and .u64 a0 6148914691236517205))) 2) 3689348814741910323) + (bits .and .u64 (W64 ((bits .and .u64 (shv .shr .u64 a0 1) 6148914691236517205) + (bits .and .u64 a0 6148914691236517205))) 3689348814741910323))) 4) + (W64 ((bits .and .u64 (shv .shr .u64 (W64 ((bits .and .u64 (shv .shr .u64 a0 1) 6148914691236517205) + (bits .and .u64 a0 6148914691236517205))) 2) 3689348814741910323) + (bits .and .u64 (W64 ((bits .and .u64 (shv .shr .u64 a0 1) 6148914691236517205) + (bits .and .u64 a0 6148914691236517205))) 3689348814741910323))))) 1085102592571150095) + (shv .shr .u64 (bits .and .u64 (W64 ((shv .shr .u64 (W64 ((bits .and .u64 (shv .shr .u64 (W64 ((bits .and .u64 (shv .shr .u64 a0 1) 6148914691236517205) + (bits .and .u64 a0 6148914691236517205))) 2) 3689348814741910323) + (bits .and .u64 (W64 ((bits .and .u64 (shv .shr .u64 a0 1) 6148914691236517205) + (bits .and .u64 a0 6148914691236517205))) 3689348814741910323))) 4) + (W64 ((bits .and .u64 (shv .shr .u64 (W64 ((bits .and .u64 (shv .shr .u64 a0 1) 6148914691236517205) + (bits .and .u64 a0 6148914691236517205))) 2) 3689348814741910323) + (bits .and .u64 (W64 ((bits .and .u64 (shv .shr .u64 a0 1) 6148914691236517205) + (bits .and .u64 a0 6148914691236517205))) 3689348814741910323))))) 1085102592571150095) 8))) + (shv .shr .u64 (W64 ((bits .and .u64 (W64 ((shv .shr .u64 (W64 ((bits .and .u64 (shv .shr .u64 (W64 ((bits .and .u64 (shv .shr .u64 a0 1) 6148914691236517205) + (bits .and .u64 a0 6148914691236517205))) 2) 3689348814741910323) + (bits .and .u64 (W64 ((bits .and .u64 (shv .shr .u64 a0 1) 6148914691236517205) + (bits .and .u64 a0 6148914691236517205))) 3689348814741910323))) 4) + (W64 ((bits .and .u64 (shv .shr .u64 (W64 ((bits .and .u64 (shv .shr .u64 a0 1) 6148914691236517205) + (bits .and .u64 a0 6148914691236517205))) 2) 3689348814741910323) + (bits .and .u64 (W64 ((bits .and .u64 (shv .shr .u64 a0 1) 6148914691236517205) + (bits .and .u64 a0 6148914691236517205))) 3689348814741910323))))) 1085102592571150095) + (shv .shr .u64 (bits .and .u64 (W64 ((shv .shr .u64 (W64 ((bits .and .u64 (shv .shr .u64 (W64 ((bits .and .u64 (shv .shr .u64 a0 1) 6148914691236517205) + (bits .and .u64 a0 6148914691236517205))) 2) 3689348814741910323) + (bits .and .u64 (W64 ((bits .and .u64 (shv .shr .u64 a0 1) 6148914691236517205) + (bits .and .u64 a0 6148914691236517205))) 3689348814741910323))) 4) + (W64 ((bits .and .u64 (shv .shr .u64 (W64 ((bits .and .u64 (shv .shr .u64 a0 1) 6148914691236517205) + (bits .and .u64 a0 6148914691236517205))) 2) 3689348814741910323) + (bits .and .u64 (W64 ((bits .and .u64 (shv .shr .u64 a0 1) 6148914691236517205) + (bits .and .u64 a0 6148914691236517205))) 3689348814741910323))))) 1085102592571150095) 8))) 16))) + (shv .shr .u64 (W64 ((W64 ((bits .and .u64 (W64 ((shv .shr .u64 (W64 ((bits .and .u64 (shv .shr .u64 (W64 ((bits .and .u64 (shv .shr .u64 a0 1) 6148914691236517205) + (bits .and .u64 a0 6148914691236517205))) 2) 3689348814741910323) + (bits .and .u64 (W64 ((bits .and .u64 (shv .shr .u64 a0 1) 6148914691236517205) + (bits .and .u64 a0 6148914691236517205))) 3689348814741910323))) 4) + (W64 ((bits .and .u64 (shv .shr .u64 (W64 ((bits .and .u64 (shv .shr .u64 a0 1) 6148914691236517205) + (bits .and .u64 a0 6148914691236517205))) 2) 3689348814741910323) + (bits .and .u64 (W64 ((bits .and .u64 (shv .shr .u64 a0 1) 6148914691236517205) + (bits .and .u64 a0 6148914691236517205))) 3689348814741910323))))) 1085102592571150095) + (shv .shr .u64 (bits .and .u64 (W64 ((shv .shr .u64 (W64 ((bits .and .u64 (shv .shr .u64 (W64 ((bits .and .u64 (shv .shr .u64 a0 1) 6148914691236517205) + (bits .and .u64 a0 6148914691236517205))) 2) 3689348814741910323) + (bits .and .u64 (W64 ((bits .and .u64 (shv .shr .u64 a0 1) 6148914691236517205) + (bits .and .u64 a0 6148914691236517205))) 3689348814741910323))) 4) + (W64 ((bits .and .u64 (shv .shr .u64 (W64 ((bits .and .u64 (shv .shr .u64 a0 1) 6148914691236517205) + (bits .and .u64 a0 6148914691236517205))) 2) 3689348814741910323) + (bits .and .u64 (W64 ((bits .and .u64 (shv .shr .u64 a0 1) 6148914691236517205) + (bits .and .u64 a0 6148914691236517205))) 3689348814741910323))))) 1085102592571150095) 8))) + (shv .shr .u64 (W64 ((bits .and .u64 (W64 ((shv .shr .u64 (W64 ((bits .and .u64 (shv .shr .u64 (W64 ((bits .and .u64 (shv .shr .u64 a0 1) 6148914691236517205) + (bits .and .u64 a0 6148914691236517205))) 2) 3689348814741910323) + (bits .and .u64 (W64 ((bits .and .u64 (shv .shr .u64 a0 1) 6148914691236517205) + (bits .and .u64 a0 6148914691236517205))) 3689348814741910323))) 4) + (W64 ((bits .and .u64 (shv .shr .u64 (W64 ((bits .and .u64 (shv .shr .u64 a0 1) 6148914691236517205) + (bits .and .u64 a0 6148914691236517205))) 2) 3689348814741910323) + (bits .and .u64 (W64 ((bits .and .u64 (shv .shr .u64 a0 1) 6148914691236517205) + (bits .and .u64 a0 6148914691236517205))) 3689348814741910323))))) 1085102592571150095) + (shv .shr .u64 (bits .and .u64 (W64 ((shv .shr .u64 (W64 ((bits .and .u64 (shv .shr .u64 (W64 ((bits .and .u64 (shv .shr .u64 a0 1) 6148914691236517205) + (bits .and .u64 a0 6148914691236517205))) 2) 3689348814741910323) + (bits .and .u64 (W64 ((bits .and .u64 (shv .shr .u64 a0 1) 6148914691236517205) + (bits .and .u64 a0 6148914691236517205))) 3689348814741910323))) 4) + (W64 ((bits .and .u64 (shv .shr .u64 (W64 ((bits .and .u64 (shv .shr .u64 a0 1) 6148914691236517205) + (bits .and .u64 a0 6148914691236517205))) 2) 3689348814741910323) + (bits .and .u64 (W64 ((bits .and .u64 (shv .shr .u64 a0 1) 6148914691236517205) + (bits .and .u64 a0 6148914691236517205))) 3689348814741910323))))) 1085102592571150095) 8))) 16))) 32)))] (by kernel_rfl) (by kernel_rfl) ?_
  refine r_fin 5 (by kernel_rfl) ?_
  refine q_then ?_
  refine w_seq (p := [1, 1, 1, 1, 1, 1, 1]) (p0 := [1, 1, 1, 1, 1, 1, 1, 0]) (p1 := [1, 1, 1, 1, 1, 1, 1, 1]) (by kernel_rfl) ?_
  refine w_region (p := [1, 1, 1, 1, 1, 1, 1, 0]) (id := 7) (by kernel_rfl) ?_
  refine r_vals 0 4 [.int .u64 (W64 ((W64 ((W64 ((bits .and .u64 (W64 ((shv .shr .u64 (W64 ((bits .and .u64 (shv .shr .u64 (W64 ((bits .and .u64 (shv .shr .u64 a0 1) 6148914691236517205) + (bits .and .u64 a0 6148914691236517205))) 2) 3689348814741910323) + (bits .and .u64 (W64 ((bits .and .u64 (shv .shr .u64 a0 1) 6148914691236517205) + (bits .and .u64 a0 6148914691236517205))) 3689348814741910323))) 4) + (W64 ((bits .and .u64 (shv .shr .u64 (W64 ((bits .and .u64 (shv .shr .u64 a0 1) 6148914691236517205) + (bits .and .u64 a0 6148914691236517205))) 2) 3689348814741910323) + (bits .and .u64 (W64 ((bits .and .u64 (shv .shr .u64 a0 1) 6148914691236517205) + (bits .and .u64 a0 6148914691236517205))) 3689348814741910323))))) 1085102592571150095) + (shv .shr .u64 (bits .and .u64 (W64 ((shv .shr .u64 (W64 ((bits .and .u64 (shv .shr .u64 (W64 ((bits .and .u64 (shv .shr .u64 a0 1) 6148914691236517205) + (bits .and .u64 a0 6148914691236517205))) 2) 3689348814741910323) + (bits .and .u64 (W64 ((bits .and .u64 (shv .shr .u64 a0 1) 6148914691236517205) + (bits .and .u64 a0 6148914691236517205))) 3689348814741910323))) 4) + (W64 ((bits .and .u64 (shv .shr .u64 (W64 ((bits .and .u64 (shv .shr .u64 a0 1) 6148914691236517205) + (bits .and .u64 a0 6148914691236517205))) 2) 3689348814741910323) + (bits .and .u64 (W64 ((bits .and .u64 (shv .shr .u64 a0 1) 6148914691236517205) + (bits .and .u64 a0 6148914691236517205))) 3689348814741910323))))) 1085102592571150095) 8))) + (shv .shr .u64 (W64 ((bits .and .u64 (W64 ((shv .shr .u64 (W64 ((bits .and .u64 (shv .shr .u64 (W64 ((bits .and .u64 (shv .shr .u64 a0 1) 6148914691236517205) + (bits .and .u64 a0 6148914691236517205))) 2) 3689348814741910323) + (bits .and .u64 (W64 ((bits .and .u64 (shv .shr .u64 a0 1) 6148914691236517205) + (bits .and .u64 a0 6148914691236517205))) 3689348814741910323))) 4) + (W64 ((bits .and .u64 (shv .shr .u64 (W64 ((bits .and .u64 (shv .shr .u64 a0 1) 6148914691236517205) + (bits .and .u64 a0 6148914691236517205))) 2) 3689348814741910323) + (bits .and .u64 (W64 ((bits .and .u64 (shv .shr .u64 a0 1) 6148914691236517205) + (bits .and .u64 a0 6148914691236517205))) 3689348814741910323))))) 1085102592571150095) + (shv .shr .u64 (bits .and .u64 (W64 ((shv .shr .u64 (W64 ((bits .and .u64 (shv .shr .u64 (W64 ((bits .and .u64 (shv .shr .u64 a0 1) 6148914691236517205) + (bits .and .u64 a0 6148914691236517205))) 2) 3689348814741910323) + (bits .and .u64 (W64 ((bits .and .u64 (shv .shr .u64 a0 1) 6148914691236517205) + (bits .and .u64 a0 6148914691236517205))) 3689348814741910323))) 4) + (W64 ((bits .and .u64 (shv .shr .u64 (W64 ((bits .and .u64 (shv .shr .u64 a0 1) 6148914691236517205) + (bits .and .u64 a0 6148914691236517205))) 2) 3689348814741910323) + (bits .and .u64 (W64 ((bits .and .u64 (shv .shr .u64 a0 1) 6148914691236517205) + (bits .and .u64 a0 6148914691236517205))) 3689348814741910323))))) 1085102592571150095) 8))) 16))) + (shv .shr .u64 (W64 ((W64 ((bits .and .u64 (W64 ((shv .shr .u64 (W64 ((bits .and .u64 (shv .shr .u64 (W64 ((bits .and .u64 (shv .shr .u64 a0 1) 6148914691236517205) + (bits .and .u64 a0 6148914691236517205))) 2) 3689348814741910323) + (bits .and .u64 (W64 ((bits .and .u64 (shv .shr .u64 a0 1) 6148914691236517205) + (bits .and .u64 a0 6148914691236517205))) 3689348814741910323))) 4) + (W64 ((bits .and .u64 (shv .shr .u64 (W64 ((bits .and .u64 (shv .shr .u64 a0 1) 6148914691236517205) + (bits .and .u64 a0 6148914691236517205))) 2) 3689348814741910323) + (bits .and .u64 (W64 ((bits .and .u64 (shv .shr .u64 a0 1) 6148914691236517205) + (bits .and .u64 a0 6148914691236517205))) 3689348814741910323))))) 1085102592571150095) + (shv .shr .u64 (bits .and .u64 (W64 ((shv .shr .u64 (W64 ((bits .and .u64 (shv .shr .u64 (W64 ((bits .and .u64 (shv .shr .u64 a0 1) 6148914691236517205) + (bits .and .u64 a0 6148914691236517205))) 2) 3689348814741910323) + (bits .and .u64 (W64 ((bits .and .u64 (shv .shr .u64 a0 1) 6148914691236517205) + (bits .and .u64 a0 6148914691236517205))) 3689348814741910323))) 4) + (W64 ((bits .and .u64 (shv .shr .u64 (W64 ((bits .and .u64 (shv .shr .u64 a0 1) 6148914691236517205) + (bits .and .u64 a0 6148914691236517205))) 2) 3689348814741910323) + (bits .and .u64 (W64 ((bits .and .u64 (shv .shr .u64 a0 1) 6148914691236517205) + (bits .and .u64 a0 6148914691236517205))) 3689348814741910323))))) 1085102592571150095) 8))) + (shv .shr .u64 (W64 ((bits .and .u64 (W64 ((shv .shr .u64 (W64 ((bits .and .u64 (shv .shr .u64 (W64 ((bits .and .u64 (shv .shr .u64 a0 1) 6148914691236517205) + (bits .and .u64 a0 6148914691236517205))) 2) 3689348814741910323) + (bits .and .u64 (W64 ((bits .and .u64 (shv .shr .u64 a0 1) 6148914691236517205) + (bits .and .u64 a0 6148914691236517205))) 3689348814741910323))) 4) + (W64 ((bits .and .u64 (shv .shr .u64 (W64 ((bits .and .u64 (shv .shr .u64 a0 1) 6148914691236517205) + (bits .and .u64 a0 6148914691236517205))) 2) 3689348814741910323) + (bits .and .u64 (W64 ((bits .and .u64 (shv .shr .u64 a0 1) 6148914691236517205) + (bits .and .u64 a0 6148914691236517205))) 3689348814741910323))))) 1085102592571150095) + (shv .shr .u64 (bits .and .u64 (W64 ((shv .shr .u64 (W64 ((bits .and .u64 (shv .shr .u64 (W64 ((bits .and .u64 (shv .shr .u64 a0 1) 6148914691236517205) + (bits .and .u64 a0 6148914691236517205))) 2) 3689348814741910323) + (bits .and .u64 (W64 ((bits .and .u64 (shv .shr .u64 a0 1) 6148914691236517205) + (bits .and .u64 a0 6148914691236517205))) 3689348814741910323))) 4) + (W64 ((bits .and .u64 (shv .shr .u64 (W64 ((bits .and .u64 (shv .shr .u64 a0 1) 6148914691236517205) + (bits .and .u64 a0 6148914691236517205))) 2) 3689348814741910323) + (bits .and .u64 (W64 ((bits .and .u64 (shv .shr .u64 a0 1) 6148914691236517205) + (bits .and .u64 a0 6148914691236517205))) 3689348814741910323))))) 1085102592571150095) 8))) 16))) 32))), .int .i64 (W (W64 ((W64 ((W64 ((bits .and .u64 (W64 ((shv .shr .u64 (W64 ((bits .and .u64 (shv .shr .u64 (W64 ((bits .and .u64 (shv .shr .u64 a0 1) 6148914691236517205) + (bits .and .u64 a0 6148914691236517205))) 2) 3689348814741910323) + (bits .and .u64 (W64 ((bits .and .u64 (shv .shr .u64 a0 1) 6148914691236517205) + (bits .and .u64 a0 6148914691236517205))) 3689348814741910323))) 4) + (W64 ((bits .and .u64 (shv .shr .u64 (W64 ((bits .and .u64 (shv .shr .u64 a0 1) 6148914691236517205) + (bits .and .u64 a0 6148914691236517205))) 2) 3689348814741910323) + (bits .and .u64 (W64 ((bits .and .u64 (shv .shr .u64 a0 1) 6148914691236517205) + (bits .and .u64 a0 6148914691236517205))) 3689348814741910323))))) 1085102592571150095) + (shv .shr .u64 (bits .and .u64 (W64 ((shv .shr .u64 (W64 ((bits .and .u64 (shv .shr .u64 (W64 ((bits .and .u64 (shv .shr .u64 a0 1) 6148914691236517205) + (bits .and .u64 a0 6148914691236517205))) 2) 3689348814741910323) + (bits .and .u64 (W64 ((bits .and .u64 (shv .shr .u64 a0 1) 6148914691236517205) + (bits .and .u64 a0 6148914691236517205))) 3689348814741910323))) 4) + (W64 ((bits .and .u64 (shv .shr .u64 (W64 ((bits .and .u64 (shv .shr .u64 a0 1) 6148914691236517205) + (bits .and .u64 a0 6148914691236517205))) 2) 3689348814741910323) + (bits .and .u64 (W64 ((bits .and .u64 (shv .shr .u64 a0 1) 6148914691236517205) + (bits .and .u64 a0 6148914691236517205))) 3689348814741910323))))) 1085102592571150095) 8))) + (shv .shr .u64 (W64 ((bits .and .u64 (W64 ((shv .shr .u64 (W64 ((bits .and .u64 (shv .shr .u64 (W64 ((bits .and .u64 (shv .shr .u64 a0 1) 6148914691236517205) + (bits .and .u64 a0 6148914691236517205))) 2) 3689348814741910323) + (bits .and .u64 (W64 ((bits .and .u64 (shv .shr .u64 a0 1) 6148914691236517205) + (bits .and .u64 a0 6148914691236517205))) 3689348814741910323))) 4) + (W64 ((bits .and .u64 (shv .shr .u64 (W64 ((bits .and .u64 (shv .shr .u64 a0 1) 6148914691236517205) + (bits .and .u64 a0 6148914691236517205))) 2) 3689348814741910323) + (bits .and .u64 (W64 ((bits .and .u64 (shv .shr .u64 a0 1) 6148914691236517205) + (bits .and .u64 a0 6148914691236517205))) 3689348814741910323))))) 1085102592571150095) + (shv .shr .u64 (bits .and .u64 (W64 ((shv .shr .u64 (W64 ((bits .and .u64 (shv .shr .u64 (W64 ((bits .and .u64 (shv .shr .u64 a0 1) 6148914691236517205) + (bits .and .u64 a0 6148914691236517205))) 2) 3689348814741910323) + (bits .and .u64 (W64 ((bits .and .u64 (shv .shr .u64 a0 1) 6148914691236517205) + (bits .and .u64 a0 6148914691236517205))) 3689348814741910323))) 4) + (W64 ((bits .and .u64 (shv .shr .u64 (W64 ((bits .and .u64 (shv .shr .u64 a0 1) 6148914691236517205) + (bits .and .u64 a0 6148914691236517205))) 2) 3689348814741910323) + (bits .and .u64 (W64 ((bits .and .u64 (shv .shr .u64 a0 1) 6148914691236517205) + (bits .and .u64 a0 6148914691236517205))) 3689348814741910323))))) 1085102592571150095) 8))) 16))) + (shv .shr .u64 (W64 ((W64 ((bits .and .u64 (W64 ((shv .shr .u64 (W64 ((bits .and .u64 (shv .shr .u64 (W64 ((bits .and .u64 (shv .shr .u64 a0 1) 6148914691236517205) + (bits .and .u64 a0 6148914691236517205))) 2) 3689348814741910323) + (bits .and .u64 (W64 ((bits .and .u64 (shv .shr .u64 a0 1) 6148914691236517205) + (bits .and .u64 a0 6148914691236517205))) 3689348814741910323))) 4) + (W64 ((bits .and .u64 (shv .shr .u64 (W64 ((bits .and .u64 (shv .shr .u64 a0 1) 6148914691236517205) + (bits .and .u64 a0 6148914691236517205))) 2) 3689348814741910323) + (bits .and .u64 (W64 ((bits .and .u64 (shv .shr .u64 a0 1) 6148914691236517205) + (bits .and .u64 a0 6148914691236517205))) 3689348814741910323))))) 1085102592571150095) + (shv .shr .u64 (bits .and .u64 (W64 ((shv .shr .u64 (W64 ((bits .and .u64 (shv .shr .u64 (W64 ((bits .and .u64 (shv .shr .u64 a0 1) 6148914691236517205) + (bits .and .u64 a0 6148914691236517205))) 2) 3689348814741910323) + (bits .and .u64 (W64 ((bits .and .u64 (shv .shr .u64 a0 1) 6148914691236517205) + (bits .and .u64 a0 6148914691236517205))) 3689348814741910323))) 4) + (W64 ((bits .and .u64 (shv .shr .u64 (W64 ((bits .and .u64 (shv .shr .u64 a0 1) 6148914691236517205) + (bits .and .u64 a0 6148914691236517205))) 2) 3689348814741910323) + (bits .and .u64 (W64 ((bits .and .u64 (shv .shr .u64 a0 1) 6148914691236517205) + (bits .and .u64 a0 6148914691236517205))) 3689348814741910323))))) 1085102592571150095) 8))) + (shv .shr .u64 (W64 ((bits .and .u64 (W64 ((shv .shr .u64 (W64 ((bits .and .u64 (shv .shr .u64 (W64 ((bits .and .u64 (shv .shr .u64 a0 1) 6148914691236517205) + (bits .and .u64 a0 6148914691236517205))) 2) 3689348814741910323) + (bits .and .u64 (W64 ((bits .and .u64 (shv .shr .u64 a0 1) 6148914691236517205) + (bits .and .u64 a0 6148914691236517205))) 3689348814741910323))) 4) + (W64 ((bits .and .u64 (shv .shr .u64 (W64 ((bits .and .u64 (shv .shr .u64 a0 1) 6148914691236517205) + (bits .and .u64 a0 6148914691236517205))) 2) 3689348814741910323) + (bits .and .u64 (W64 ((bits .and .u64 (shv .shr .u64 a0 1) 6148914691236517205) + (bits .and .u64 a0 6148914691236517205))) 3689348814741910323))))) 1085102592571150095) + (shv .shr .u64 (bits .and .u64 (W64 ((shv .shr .u64 (W64 ((bits .and .u64 (shv .shr .u64 (W64 ((bits .and .u64 (shv .shr .u64 a0 1) 6148914691236517205) + (bits .and .u64 a0 6148914691236517205))) 2) 3689348814741910323) + (bits .and .u64 (W64 ((bits .and .u64 (shv .shr .u64 a0 1) 6148914691236517205) + (bits .and .u64 a0 6148914691236517205))) 3689348814741910323))) 4) + (W64 ((bits .and .u64 (shv .shr .u64 (W64 ((bits .and .u64 (shv .shr .u64 a0 1) 6148914691236517205) + (bits .and .u64 a0 6148914691236517205))) 2) 3689348814741910323) + (bits .and .u64 (W64 ((bits .and .u64 (shv .shr .u64 a0 1) 6148914691236517205) + (bits .and .u64 a0 6148914691236517205))) 3689348814741910323))))) 1085102592571150095) 8))) 16))) 32)))), .int .i64 (bits .and .i64 (W (W64 ((W64 ((W64 ((bits .and .u64 (W64 ((shv .shr .u64 (W64 ((bits .and .u64 (shv .shr .u64 (W64 ((bits .and .u64 (shv .shr .u64 a0 1) 6148914691236517205) + (bits .and .u64 a0 6148914691236517205))) 2) 3689348814741910323) + (bits .and .u64 (W64 ((bits .and .u64 (shv .shr .u64 a0 1) 6148914691236517205) + (bits .and .u64 a0 6148914691236517205))) 3689348814741910323))) 4) + (W64 ((bits .and .u64 (shv .shr .u64 (W64 ((bits .and .u64 (shv .shr .u64 a0 1) 6148914691236517205) + (bits .and .u64 a0 6148914691236517205))) 2) 3689348814741910323) + (bits .and .u64 (W64 ((bits .and .u64 (shv .shr .u64 a0 1) 6148914691236517205) + (bits .and .u64 a0 6148914691236517205))) 3689348814741910323))))) 1085102592571150095) + (shv .shr .u64 (bits .and .u64 (W64 ((shv .shr .u64 (W64 ((bits .and .u64 (shv .shr .u64 (W64 ((bits .and .u64 (shv .shr .u64 a0 1) 6148914691236517205) + (bits .and .u64 a0 6148914691236517205))) 2) 3689348814741910323) + (bits .and .u64 (W64 ((bits .and .u64 (shv .shr .u64 a0 1) 6148914691236517205) + (bits .and .u64 a0 6148914691236517205))) 3689348814741910323))) 4) + (W64 ((bits .and .u64 (shv .shr .u64 (W64 ((bits .and .u64 (shv .shr .u64 a0 1) 6148914691236517205) + (bits .and .u64 a0 6148914691236517205))) 2) 3689348814741910323) + (bits .and .u64 (W64 ((bits .and .u64 (shv .shr .u64 a0 1) 6148914691236517205) + (bits .and .u64 a0 6148914691236517205))) 3689348814741910323))))) 1085102592571150095) 8))) + (shv .shr .u64 (W64 ((bits .and .u64 (W64 ((shv .shr .u64 (W64 ((bits .and .u64 (shv .shr .u64 (W64 ((bits .and .u64 (shv .shr .u64 a0 1) 6148914691236517205) + (bits .and .u64 a0 6148914691236517205))) 2) 3689348814741910323) + (bits .and .u64 (W64 ((bits .and .u64 (shv .shr .u64 a0 1) 6148914691236517205) + (bits .and .u64 a0 6148914691236517205))) 3689348814741910323))) 4) + (W64 ((bits .and .u64 (shv .shr .u64 (W64 ((bits .and .u64 (shv .shr .u64 a0 1) 6148914691236517205) + (bits .and .u64 a0 6148914691236517205))) 2) 3689348814741910323) + (bits .and .u64 (W64 ((bits .and .u64 (shv .shr .u64 a0 1) 6148914691236517205) + (bits .and .u64 a0 6148914691236517205))) 3689348814741910323))))) 1085102592571150095) + (shv .shr .u64 (bits .and .u64 (W64 ((shv .shr .u64 (W64 ((bits .and .u64 (shv .shr .u64 (W64 ((bits .and .u64 (shv .shr .u64 a0 1) 6148914691236517205) + (bits .and .u64 a0 6148914691236517205))) 2) 3689348814741910323) + (bits .and .u64 (W64 ((bits .and .u64 (shv .shr .u64 a0 1) 6148914691236517205) + (bits .and .u64 a0 6148914691236517205))) 3689348814741910323))) 4) + (W64 ((bits .and .u64 (shv .shr .u64 (W64 ((bits .and .u64 (shv .shr .u64 a0 1) 6148914691236517205) + (bits .and .u64 a0 6148914691236517205))) 2) 3689348814741910323) + (bits .and .u64 (W64 ((bits .and .u64 (shv .shr .u64 a0 1) 6148914691236517205) + (bits .and .u64 a0 6148914691236517205))) 3689348814741910323))))) 1085102592571150095) 8))) 16))) + (shv .shr .u64 (W64 ((W64 ((bits .and .u64 (W64 ((shv .shr .u64 (W64 ((bits .and .u64 (shv .shr .u64 (W64 ((bits .and .u64 (shv .shr .u64 a0 1) 6148914691236517205) + (bits .and .u64 a0 6148914691236517205))) 2) 3689348814741910323) + (bits .and .u64 (W64 ((bits .and .u64 (shv .shr .u64 a0 1) 6148914691236517205) + (bits .and .u64 a0 6148914691236517205))) 3689348814741910323))) 4) + (W64 ((bits .and .u64 (shv .shr .u64 (W64 ((bits .and .u64 (shv .shr .u64 a0 1) 6148914691236517205) + (bits .and .u64 a0 6148914691236517205))) 2) 3689348814741910323) + (bits .and .u64 (W64 ((bits .and .u64 (shv .shr .u64 a0 1) 6148914691236517205) + (bits .and .u64 a0 6148914691236517205))) 3689348814741910323))))) 1085102592571150095) + (shv .shr .u64 (bits .and .u64 (W64 ((shv .shr .u64 (W64 ((bits .and .u64 (shv .shr .u64 (W64 ((bits .and .u64 (shv .shr .u64 a0 1) 6148914691236517205) + (bits .and .u64 a0 6148914691236517205))) 2) 3689348814741910323) + (bits .and .u64 (W64 ((bits .and .u64 (shv .shr .u64 a0 1) 6148914691236517205) + (bits .and .u64 a0 6148914691236517205))) 3689348814741910323))) 4) + (W64 ((bits .and .u64 (shv .shr .u64 (W64 ((bits .and .u64 (shv .shr .u64 a0 1) 6148914691236517205) + (bits .and .u64 a0 6148914691236517205))) 2) 3689348814741910323) + (bits .and .u64 (W64 ((bits .and .u64 (shv .shr .u64 a0 1) 6148914691236517205) + (bits .and .u64 a0 6148914691236517205))) 3689348814741910323))))) 1085102592571150095) 8))) + (shv .shr .u64 (W64 ((bits .and .u64 (W64 ((shv .shr .u64 (W64 ((bits .and .u64 (shv .shr .u64 (W64 ((bits .and .u64 (shv .shr .u64 a0 1) 6148914691236517205) + (bits .and .u64 a0 6148914691236517205))) 2) 3689348814741910323) + (bits .and .u64 (W64 ((bits .and .u64 (shv .shr .u64 a0 1) 6148914691236517205) + (bits .and .u64 a0 6148914691236517205))) 3689348814741910323))) 4) + (W64 ((bits .and .u64 (shv .shr .u64 (W64 ((bits .and .u64 (shv .shr .u64 a0 1) 6148914691236517205) + (bits .and .u64 a0 6148914691236517205))) 2) 3689348814741910323) + (bits .and .u64 (W64 ((bits .and .u64 (shv .shr .u64 a0 1) 6148914691236517205) + (bits .and .u64 a0 6148914691236517205))) 3689348814741910323))))) 1085102592571150095) + (shv .shr .u64 (bits .and .u64 (W64 ((shv .shr .u64 (W64 ((bits .and .u64 (shv .shr .u64 (W64 ((bits .and .u64 (shv .shr .u64 a0 1) 6148914691236517205) + (bits .and .u64 a0 6148914691236517205))) 2) 3689348814741910323) + (bits .and .u64 (W64 ((bits .and .u64 (shv .shr .u64 a0 1) 6148914691236517205) + (bits .and .u64 a0 6148914691236517205))) 3689348814741910323))) 4) + (W64 ((bits .and .u64 (shv .shr .u64 (W64 ((bits .and .u64 (shv .shr .u64 a0 1) 6148914691236517205) + (bits .and .u64 a0 6148914691236517205))) 2) 3689348814741910323) + (bits .and .u64 (W64 ((bits .and .u64 (shv .shr .u64 a0 1) 6148914691236517205) + (bits .and .u64 a0 6148914691236517205))) 3689348814741910323))))) 1085102592571150095) 8))) 16))) 32)))) 127), .int .i64 (bits .and .i64 (W (W64 ((W64 ((W64 ((bits .and .u64 (W64 ((shv .shr .u64 (W64 ((bits .and .u64 (shv .shr .u64 (W64 ((bits .and .u64 (shv .shr .u64 a0 1) 6148914691236517205) + (bits .and .u64 a0 6148914691236517205))) 2) 3689348814741910323) + (bits .and .u64 (W64 ((bits .and .u64 (shv .shr .u64 a0 1) 6148914691236517205) + (bits .and .u64 a0 6148914691236517205))) 3689348814741910323))) 4) + (W64 ((bits .and .u64 (shv .shr .u64 (W64 ((bits .and .u64 (shv .shr .u64 a0 1) 6148914691236517205) + (bits .and .u64 a0 6148914691236517205))) 2) 3689348814741910323) + (bits .and .u64 (W64 ((bits .and .u64 (shv .shr .u64 a0 1) 6148914691236517205) + (bits .and .u64 a0 6148914691236517205))) 3689348814741910323))))) 1085102592571150095) + (shv .shr .u64 (bits .and .u64 (W64 ((shv .shr .u64 (W64 ((bits .and .u64 (shv .shr .u64 (W64 ((bits .and .u64 (shv .shr .u64 a0 1) 6148914691236517205) + (bits .and .u64 a0 6148914691236517205))) 2) 3689348814741910323) + (bits .and .u64 (W64 ((bits .and .u64 (shv .shr .u64 a0 1) 6148914691236517205) + (bits .and .u64 a0 6148914691236517205))) 3689348814741910323))) 4) + (W64 ((bits .and .u64 (shv .shr .u64 (W64 ((bits .and .u64 (shv .shr .u64 a0 1) 6148914691236517205) + (bits .and .u64 a0 6148914691236517205))) 2) 3689348814741910323) + (bits .and .u64 (W64 ((bits .and .u64 (shv .shr .u64 a0 1) 6148914691236517205) + (bits .and .u64 a0 6148914691236517205))) 3689348814741910323))))) 1085102592571150095) 8))) + (shv .shr .u64 (W64 ((bits .and .u64 (W64 ((shv .shr .u64 (W64 ((bits .and .u64 (shv .shr .u64 (W64 ((bits .and .u64 (shv .shr .u64 a0 1) 6148914691236517205) + (bits .and .u64 a0 6148914691236517205))) 2) 3689348814741910323) + (bits .and .u64 (W64 ((bits .and .u64 (shv .shr .u64 a0 1) 6148914691236517205) + (bits .and .u64 a0 6148914691236517205))) 3689348814741910323))) 4) + (W64 ((bits .and .u64 (shv .shr .u64 (W64 ((bits .and .u64 (shv .shr .u64 a0 1) 6148914691236517205) + (bits .and .u64 a0 6148914691236517205))) 2) 3689348814741910323) + (bits .and .u64 (W64 ((bits .and .u64 (shv .shr .u64 a0 1) 6148914691236517205) + (bits .and .u64 a0 6148914691236517205))) 3689348814741910323))))) 1085102592571150095) + (shv .shr .u64 (bits .and .u64 (W64 ((shv .shr .u64 (W64 ((bits .and .u64 (shv .shr .u64 (W64 ((bits .and .u64 (shv .shr .u64 a0 1) 6148914691236517205) + (bits .and .u64 a0 6148914691236517205))) 2) 3689348814741910323) + (bits .and .u64 (W64 ((bits .and .u64 (shv .shr .u64 a0 1) 6148914691236517205) + (bits .and .u64 a0 6148914691236517205))) 3689348814741910323))) 4) + (W64 ((bits .and .u64 (shv .shr .u64 (W64 ((bits .and .u64 (shv .shr .u64 a0 1) 6148914691236517205) + (bits .and .u64 a0 6148914691236517205))) 2) 3689348814741910323) + (bits .and .u64 (W64 ((bits .and .u64 (shv .shr .u64 a0 1) 6148914691236517205) + (bits .and .u64 a0 6148914691236517205))) 3689348814741910323))))) 1085102592571150095) 8))) 16))) + (shv .shr .u64 (W64 ((W64 ((bits .and .u64 (W64 ((shv .shr .u64 (W64 ((bits .and .u64 (shv .shr .u64 (W64 ((bits .and .u64 (shv .shr .u64 a0 1) 6148914691236517205) + (bits .and .u64 a0 6148914691236517205))) 2) 3689348814741910323) + (bits .and .u64 (W64 ((bits .and .u64 (shv .shr .u64 a0 1) 6148914691236517205) + (bits .and .u64 a0 6148914691236517205))) 3689348814741910323))) 4) + (W64 ((bits .and .u64 (shv .shr .u64 (W64 ((bits .and .u64 (shv .shr .u64 a0 1) 6148914691236517205) + (bits .and .u64 a0 6148914691236517205))) 2) 3689348814741910323) + (bits .and .u64 (W64 ((bits .and .u64 (shv .shr .u64 a0 1) 6148914691236517205) + (bits .and .u64 a0 6148914691236517205))) 3689348814741910323))))) 1085102592571150095) + (shv .shr .u64 (bits .and .u64 (W64 ((shv .shr .u64 (W64 ((bits .and .u64 (shv .shr .u64 (W64 ((bits .and .u64 (shv .shr .u64 a0 1) 6148914691236517205) + (bits .and .u64 a0 6148914691236517205))) 2) 3689348814741910323) + (bits .and .u64 (W64 ((bits .and .u64 (shv .shr .u64 a0 1) 6148914691236517205) + (bits .and .u64 a0 6148914691236517205))) 3689348814741910323))) 4) + (W64 ((bits .and .u64 (shv .shr .u64 (W64 ((bits .and .u64 (shv .shr .u64 a0 1) 6148914691236517205) + (bits .and .u64 a0 6148914691236517205))) 2) 3689348814741910323) + (bits .and .u64 (W64 ((bits .and .u64 (shv .shr .u64 a0 1) 6148914691236517205) + (bits .and .u64 a0 6148914691236517205))) 3689348814741910323))))) 1085102592571150095) 8))) + (shv .shr .u64 (W64 ((bits .and .u64 (W64 ((shv .shr .u64 (W64 ((bits .and .u64 (shv .shr .u64 (W64 ((bits .and .u64 (shv .shr .u64 a0 1) 6148914691236517205) + (bits .and .u64 a0 6148914691236517205))) 2) 3689348814741910323) + (bits .and .u64 (W64 ((bits .and .u64 (shv .shr .u64 a0 1) 6148914691236517205) + (bits .and .u64 a0 6148914691236517205))) 3689348814741910323))) 4) + (W64 ((bits .and .u64 (shv .shr .u64 (W64 ((bits .and .u64 (shv .shr .u64 a0 1) 6148914691236517205) + (bits .and .u64 a0 6148914691236517205))) 2) 3689348814741910323) + (bits .and .u64 (W64 ((bits .and .u64 (shv .shr .u64 a0 1) 6148914691236517205) + (bits .and .u64 a0 6148914691236517205))) 3689348814741910323))))) 1085102592571150095) + (shv .shr .u64 (bits .and .u64 (W64 ((shv .shr .u64 (W64 ((bits .and .u64 (shv .shr .u64 (W64 ((bits .and .u64 (shv .shr .u64 a0 1) 6148914691236517205) + (bits .and .u64 a0 6148914691236517205))) 2) 3689348814741910323) + (bits .and .u64 (W64 ((bits .and .u64 (shv .shr .u64 a0 1) 6148914691236517205) + (bits .and .u64 a0 6148914691236517205))) 3689348814741910323))) 4) + (W64 ((bits .and .u64 (shv .shr .u64 (W64 ((bits .and .u64 (shv .shr .u64 a0 1) 6148914691236517205) + (bits .and .u64 a0 6148914691236517205))) 2) 3689348814741910323) + (bits .and .u64 (W64 ((bits .and .u64 (shv .shr .u64 a0 1) 6148914691236517205) + (bits .and .u64 a0 6148914691236517205))) 3689348814741910323))))) 1085102592571150095) 8))) 16))) 32)))) 127)] (by kernel_rfl) (by kernel_rfl) ?_
  refine r_fin 4 (by kernel_rfl) ?_
  refine q_then ?_
  refine w_ret (p := [1, 1, 1, 1, 1, 1, 1, 1]) (by kernel_rfl) ?_
  obtain rfl := Option.some.inj H
  refine HR _ _ (body_ret (vs := [.int .i64 (bits .and .i64 (W (W64 ((W64 ((W64 ((bits .and .u64 (W64 ((shv .shr .u64 (W64 ((bits .and .u64 (shv .shr .u64 (W64 ((bits .and .u64 (shv .shr .u64 a0 1) 6148914691236517205) + (bits .and .u64 a0 6148914691236517205))) 2) 3689348814741910323) + (bits .and .u64 (W64 ((bits .and .u64 (shv .shr .u64 a0 1) 6148914691236517205) + (bits .and .u64 a0 6148914691236517205))) 3689348814741910323))) 4) + (W64 ((bits .and .u64 (shv .shr .u64 (W64 ((bits .and .u64 (shv .shr .u64 a0 1) 6148914691236517205) + (bits .and .u64 a0 6148914691236517205))) 2) 3689348814741910323) + (bits .and .u64 (W64 ((bits .and .u64 (shv .shr .u64 a0 1) 6148914691236517205) + (bits .and .u64 a0 6148914691236517205))) 3689348814741910323))))) 1085102592571150095) + (shv .shr .u64 (bits .and .u64 (W64 ((shv .shr .u64 (W64 ((bits .and .u64 (shv .shr .u64 (W64 ((bits .and .u64 (shv .shr .u64 a0 1) 6148914691236517205) + (bits .and .u64 a0 6148914691236517205))) 2) 3689348814741910323) + (bits .and .u64 (W64 ((bits .and .u64 (shv .shr .u64 a0 1) 6148914691236517205) + (bits .and .u64 a0 6148914691236517205))) 3689348814741910323))) 4) + (W64 ((bits .and .u64 (shv .shr .u64 (W64 ((bits .and .u64 (shv .shr .u64 a0 1) 6148914691236517205) + (bits .and .u64 a0 6148914691236517205))) 2) 3689348814741910323) + (bits .and .u64 (W64 ((bits .and .u64 (shv .shr .u64 a0 1) 6148914691236517205) + (bits .and .u64 a0 6148914691236517205))) 3689348814741910323))))) 1085102592571150095) 8))) + (shv .shr .u64 (W64 ((bits .and .u64 (W64 ((shv .shr .u64 (W64 ((bits .and .u64 (shv .shr .u64 (W64 ((bits .and .u64 (shv .shr .u64 a0 1) 6148914691236517205) + (bits .and .u64 a0 6148914691236517205))) 2) 3689348814741910323) + (bits .and .u64 (W64 ((bits .and .u64 (shv .shr .u64 a0 1) 6148914691236517205) + (bits .and .u64 a0 6148914691236517205))) 3689348814741910323))) 4) + (W64 ((bits .and .u64 (shv .shr .u64 (W64 ((bits .and .u64 (shv .shr .u64 a0 1) 6148914691236517205) + (bits .and .u64 a0 6148914691236517205))) 2) 3689348814741910323) + (bits .and .u64 (W64 ((bits .and .u64 (shv .shr .u64 a0 1) 6148914691236517205) + (bits .and .u64 a0 6148914691236517205))) 3689348814741910323))))) 1085102592571150095) + (shv .shr .u64 (bits .and .u64 (W64 ((shv .shr .u64 (W64 ((bits .and .u64 (shv .shr .u64 (W64 ((bits .and .u64 (shv .shr .u64 a0 1) 6148914691236517205) + (bits .and .u64 a0 6148914691236517205))) 2) 3689348814741910323) + (bits .and .u64 (W64 ((bits .and .u64 (shv .shr .u64 a0 1) 6148914691236517205) + (bits .and .u64 a0 6148914691236517205))) 3689348814741910323))) 4) + (W64 ((bits .and .u64 (shv .shr .u64 (W64 ((bits .and .u64 (shv .shr .u64 a0 1) 6148914691236517205) + (bits .and .u64 a0 6148914691236517205))) 2) 3689348814741910323) + (bits .and .u64 (W64 ((bits .and .u64 (shv .shr .u64 a0 1) 6148914691236517205) + (bits .and .u64 a0 6148914691236517205))) 3689348814741910323))))) 1085102592571150095) 8))) 16))) + (shv .shr .u64 (W64 ((W64 ((bits .and .u64 (W64 ((shv .shr .u64 (W64 ((bits .and .u64 (shv .shr .u64 (W64 ((bits .and .u64 (shv .shr .u64 a0 1) 6148914691236517205) + (bits .and .u64 a0 6148914691236517205))) 2) 3689348814741910323) + (bits .and .u64 (W64 ((bits .and .u64 (shv .shr .u64 a0 1) 6148914691236517205) + (bits .and .u64 a0 6148914691236517205))) 3689348814741910323))) 4) + (W64 ((bits .and .u64 (shv .shr .u64 (W64 ((bits .and .u64 (shv .shr .u64 a0 1) 6148914691236517205) + (bits .and .u64 a0 6148914691236517205))) 2) 3689348814741910323) + (bits .and .u64 (W64 ((bits .and .u64 (shv .shr .u64 a0 1) 6148914691236517205) + (bits .and .u64 a0 6148914691236517205))) 3689348814741910323))))) 1085102592571150095) + (shv .shr .u64 (bits .and .u64 (W64 ((shv .shr .u64 (W64 ((bits .and .u64 (shv .shr .u64 (W64 ((bits .and .u64 (shv .shr .u64 a0 1) 6148914691236517205) + (bits .and .u64 a0 6148914691236517205))) 2) 3689348814741910323) + (bits .and .u64 (W64 ((bits .and .u64 (shv .shr .u64 a0 1) 6148914691236517205) + (bits .and .u64 a0 6148914691236517205))) 3689348814741910323))) 4) + (W64 ((bits .and .u64 (shv .shr .u64 (W64 ((bits .and .u64 (shv .shr .u64 a0 1) 6148914691236517205) + (bits .and .u64 a0 6148914691236517205))) 2) 3689348814741910323) + (bits .and .u64 (W64 ((bits .and .u64 (shv .shr .u64 a0 1) 6148914691236517205) + (bits .and .u64 a0 6148914691236517205))) 3689348814741910323))))) 1085102592571150095) 8))) + (shv .shr .u64 (W64 ((bits .and .u64 (W64 ((shv .shr .u64 (W64 ((bits .and .u64 (shv .shr .u64 (W64 ((bits .and .u64 (shv .shr .u64 a0 1) 6148914691236517205) + (bits .and .u64 a0 6148914691236517205))) 2) 3689348814741910323) + (bits .and .u64 (W64 ((bits .and .u64 (shv .shr .u64 a0 1) 6148914691236517205) + (bits .and .u64 a0 6148914691236517205))) 3689348814741910323))) 4) + (W64 ((bits .and .u64 (shv .shr .u64 (W64 ((bits .and .u64 (shv .shr .u64 a0 1) 6148914691236517205) + (bits .and .u64 a0 6148914691236517205))) 2) 3689348814741910323) + (bits .and .u64 (W64 ((bits .and .u64 (shv .shr .u64 a0 1) 6148914691236517205) + (bits .and .u64 a0 6148914691236517205))) 3689348814741910323))))) 1085102592571150095) + (shv .shr .u64 (bits .and .u64 (W64 ((shv .shr .u64 (W64 ((bits .and .u64 (shv .shr .u64 (W64 ((bits .and .u64 (shv .shr .u64 a0 1) 6148914691236517205) + (bits .and .u64 a0 6148914691236517205))) 2) 3689348814741910323) + (bits .and .u64 (W64 ((bits .and .u64 (shv .shr .u64 a0 1) 6148914691236517205) + (bits .and .u64 a0 6148914691236517205))) 3689348814741910323))) 4) + (W64 ((bits .and .u64 (shv .shr .u64 (W64 ((bits .and .u64 (shv .shr .u64 a0 1) 6148914691236517205) + (bits .and .u64 a0 6148914691236517205))) 2) 3689348814741910323) + (bits .and .u64 (W64 ((bits .and .u64 (shv .shr .u64 a0 1) 6148914691236517205) + (bits .and .u64 a0 6148914691236517205))) 3689348814741910323))))) 1085102592571150095) 8))) 16))) 32)))) 127)]) (rv_tmp (by kernel_rfl) rfl) rfl ?_)
  exact ⟨rfl, (Kp.refl No w)⟩
/-! ### dowel/class.Count -/
def class_Count.F0 (x29 : Int) (a0 : Tapi_Class) (x30 : Int) (u_ : Nat → Value) : Array Value := #[u_ 0, u_ 1, u_ 2, .int .i64 x29, u_ 4, u_ 5, .agg #[.int .u64 a0.f0, .int .u64 a0.f1, .int .u64 a0.f2, .int .u64 a0.f3], .int .i64 x30, u_ 8, u_ 9, u_ 10, u_ 11, u_ 12, u_ 13, u_ 14, u_ 15]
def class_Count.F0_0 (x41 : Int) (u_ : Nat → Value) : Array Value := #[u_ 0, u_ 1, u_ 2, .int .i64 x41, u_ 4, u_ 5, u_ 6, u_ 7, u_ 8, u_ 9, u_ 10, u_ 11, u_ 12, u_ 13, u_ 14, u_ 15]
def class_Count.b0 (K : Nat) (a0 : Tapi_Class) (next0 : Int → Int → Option (Int)) (brk0_0 : Int → Option (Int)) (x29 : Int) (x30 : Int) : Option (Int) := if x30 < 4 then (if 0 ≤ x30 then ((bits_OnesCount64.f K (rd 0 [a0.f0, a0.f1, a0.f2, a0.f3] x30)).bind fun t33 => (next0 (W (x29 + t33)) (W (x30 + 1)))) else none) else (brk0_0 x29)
def class_Count.l0 (K : Nat) (a0 : Tapi_Class) (brk0_0 : Int → Option (Int)) : Nat → Int → Int → Option (Int)
  | 0, _, _ => none
  | n_ + 1, x29, x30 => class_Count.b0 K a0 (class_Count.l0 K a0 brk0_0 n_) brk0_0 x29 x30
def class_Count.f (K : Nat) (a0 : Tapi_Class) : Option (Int) := class_Count.l0 K a0 (fun x41 => some x41) K 0 0
def class_Count.R (r : Int) (w : World) : Ending → World → Prop := fun e w' => e = .returned (.int .i64 r) ∧ Kp No w w'
set_option maxRecDepth 20000 in
set_option maxHeartbeats 4000000 in
theorem class_Count.b0.ok (K : Nat) (a0 : Tapi_Class) (w : World) (r : Int)  {Q : Exit → Act → World → Prop} (HR : ∀ a w', bodyPost Try.prog Try.f34 (class_Count.R r w) .ret a w' → Q .ret a w') {next0 : Int → Int → Option (Int)} {brk0_0 : Int → Option (Int)} (HN0 : ∀ (x29q : Int) (x30q : Int) (u26q : Nat → Value) (w27q : World) (k28q : Kp No w w27q) , next0 x29q x30q = some r → Q .normal ⟨class_Count.F0 x29q a0 x30q u26q, []⟩ w27q) (HX0_0 : ∀ (x41q : Int) (u40q : Nat → Value) (w38q : World) (k39q : Kp No w w38q) , brk0_0 x41q = some r → Q (.exit 0) ⟨class_Count.F0_0 x41q u40q, []⟩ w38q) (x29 : Int) (x30 : Int) (u26 : Nat → Value) (w27 : World) (k28 : Kp No w w27)  (H : class_Count.b0 K a0 next0 brk0_0 x29 x30 = some r) : (cd Try.f34 [1, 1, 0, 1, 0, 0]).wp Try.prog Q ⟨class_Count.F0 x29 a0 x30 u26, []⟩ w27 := by
  unfold class_Count.b0 at H
  refine w_seq (p := [1, 1, 0, 1, 0, 0]) (p0 := [1, 1, 0, 1, 0, 0, 0]) (p1 := [1, 1, 0, 1, 0, 0, 1]) (by kernel_rfl) ?_
  refine w_region (p := [1, 1, 0, 1, 0, 0, 0]) (id := 3) (by kernel_rfl) ?_
  refine r_vals 0 1 [.bool (decide (x30 < 4))] (by kernel_rfl) (by kernel_rfl) ?_
  refine r_fin 1 (by kernel_rfl) ?_
  refine q_then ?_
  refine w_seq (p := [1, 1, 0, 1, 0, 0, 1]) (p0 := [1, 1, 0, 1, 0, 0, 1, 0]) (p1 := [1, 1, 0, 1, 0, 0, 1, 1]) (by kernel_rfl) ?_
  refine w_cond (p := [1, 1, 0, 1, 0, 0, 1, 0]) (p0 := [1, 1, 0, 1, 0, 0, 1, 0, 0]) (p1 := [1, 1, 0, 1, 0, 0, 1, 0, 1]) (c := (Operand.tmp 8)) (b := decide (x30 < 4)) (by kernel_rfl) (by kernel_rfl) ?_ ?_
  · intro h_
    have h31 : x30 < 4 := by simpa using h_
    clear h_
    rw [if_pos h31] at H
    refine w_skip (p := [1, 1, 0, 1, 0, 0, 1, 0, 0]) (by kernel_rfl) ?_
    refine q_then ?_
    refine w_seq (p := [1, 1, 0, 1, 0, 0, 1, 1]) (p0 := [1, 1, 0, 1, 0, 0, 1, 1, 0]) (p1 := [1, 1, 0, 1, 0, 0, 1, 1, 1]) (by kernel_rfl) ?_
    refine w_block (p := [1, 1, 0, 1, 0, 0, 1, 1, 0]) (p0 := [1, 1, 0, 1, 0, 0, 1, 1, 0, 0]) (id := 1) (by kernel_rfl) ?_
    refine w_seq (p := [1, 1, 0, 1, 0, 0, 1, 1, 0, 0]) (p0 := [1, 1, 0, 1, 0, 0, 1, 1, 0, 0, 0]) (p1 := [1, 1, 0, 1, 0, 0, 1, 1, 0, 0, 1]) (by kernel_rfl) ?_
    refine w_region (p := [1, 1, 0, 1, 0, 0, 1, 1, 0, 0, 0]) (id := 4) (by kernel_rfl) ?_
    refine p_split (0 ≤ x30) (fun h32 => ?_) (fun h32 => ?_)
    · rw [if_pos h32] at H
      refine r_do 0 (by kernel_rfl) (ar_index (K := (kInt .u64 35)) (T := 37) (e := 35) (n := 4) (x := (Operand.tmp 6)) (y := (Operand.tmp 7)) (k := .i64) (iv := x30) (cs := #[.int .u64 a0.f0, .int .u64 a0.f1, .int .u64 a0.f2, .int .u64 a0.f3]) (xs := [a0.f0, a0.f1, a0.f2, a0.f3]) 0 (.int .u64 (rd 0 [a0.f0, a0.f1, a0.f2, a0.f3] x30)) (by kernel_rfl) (by kernel_rfl) (by kernel_rfl) (by kernel_rfl) (by kernel_rfl) (by kernel_rfl) h32 h31 (by kernel_rfl) ?_) 
      refine r_vals 1 2 [.int .u64 (rd 0 [a0.f0, a0.f1, a0.f2, a0.f3] x30)] (by kernel_rfl) (by kernel_rfl) ?_
      refine r_fin 2 (by kernel_rfl) ?_
      refine q_then ?_
      refine w_region (p := [1, 1, 0, 1, 0, 0, 1, 1, 0, 0, 1]) (id := 5) (by kernel_rfl) ?_
      refine r_vals 0 2 [.int .i64 x29, .int .u64 (rd 0 [a0.f0, a0.f1, a0.f2, a0.f3] x30)] (by kernel_rfl) (by kernel_rfl) ?_
      obtain ⟨t33, ht34, H⟩ := Option.bind_eq_some_iff.1 H
      refine r_do 2 (by kernel_rfl) (og_call (g := 81) (av := #[.int .u64 (rd 0 [a0.f0, a0.f1, a0.f2, a0.f3] x30)]) (by kernel_rfl) ?_) 
      refine (bits_OnesCount64.ok K (rd 0 [a0.f0, a0.f1, a0.f2, a0.f3] x30) w27 t33 ht34).mono ?_
      rintro e w35 ⟨rfl, k36⟩
      refine ⟨_, rfl, ?_⟩
      have k37 := Kp.trans k28 k36 (fun _ h => h.elim)
      refine r_vals 3 5 [.int .i64 (W (x29 + t33)), .int .i64 (W (x29 + t33))] (by kernel_rfl) (by kernel_rfl) ?_
      refine r_fin 5 (by kernel_rfl) ?_
      refine q_in ?_
      refine q_then ?_
      refine w_region (p := [1, 1, 0, 1, 0, 0, 1, 1, 1]) (id := 6) (by kernel_rfl) ?_
      refine r_vals 0 2 [.int .i64 (W (x30 + 1)), .int .i64 (W (x30 + 1))] (by kernel_rfl) (by kernel_rfl) ?_
      refine r_fin 2 (by kernel_rfl) ?_
      refine q_into (class_Count.F0 (W (x29 + t33)) a0 (W (x30 + 1))) (by kernel_rfl) (fun u_ => ?_)
      exact HN0 (W (x29 + t33)) (W (x30 + 1)) u_ w35 k37 H
    · rw [if_neg h32] at H
      cases H
  · intro h_
    have h31 : ¬ (x30 < 4) := by simpa using h_
    clear h_
    rw [if_neg h31] at H
    refine w_exit (p := [1, 1, 0, 1, 0, 0, 1, 0, 1]) (id := 0) (by kernel_rfl) ?_
    refine q_then_x ?_
    refine q_into (class_Count.F0_0 x29) (by kernel_rfl) (fun u_ => ?_)
    exact HX0_0 x29 u_ w27 k28 H
set_option maxRecDepth 20000 in
set_option maxHeartbeats 4000000 in
theorem class_Count.l0.ok (K : Nat) (a0 : Tapi_Class) (w : World) (r : Int)  {Q : Exit → Act → World → Prop} (HR : ∀ a w', bodyPost Try.prog Try.f34 (class_Count.R r w) .ret a w' → Q .ret a w') {brk0_0 : Int → Option (Int)} (HX0_0 : ∀ (x41q : Int) (u40q : Nat → Value) (w38q : World) (k39q : Kp No w w38q) , brk0_0 x41q = some r → Q (.exit 0) ⟨class_Count.F0_0 x41q u40q, []⟩ w38q) : ∀ (n_ : Nat) (x29 : Int) (x30 : Int) (u26 : Nat → Value) (w27 : World) (k28 : Kp No w w27)  (H : class_Count.l0 K a0 brk0_0 n_ x29 x30 = some r), Code.rounds Try.prog (cd Try.f34 [1, 1, 0, 1, 0, 0]) Q n_ ⟨class_Count.F0 x29 a0 x30 u26, []⟩ w27
  | 0, _, _, _, _, _, H => by cases H
  | n_ + 1, x29, x30, u26, w27, k28, H =>
    class_Count.b0.ok K a0 w r  (Q := Exit.then (Code.rounds Try.prog (cd Try.f34 [1, 1, 0, 1, 0, 0]) Q n_) Q) (fun a w' h_ => q_then_r (HR a w' h_)) (fun x0_ x1_ x2_ x3_ x4_ h_ => class_Count.l0.ok K a0 w r  HR HX0_0 n_ x0_ x1_ x2_ x3_ x4_ h_) (fun x0_ x1_ x2_ x3_ h_ => q_then_x (HX0_0 x0_ x1_ x2_ x3_ h_)) x29 x30 u26 w27 k28 H
set_option maxRecDepth 20000 in
set_option maxHeartbeats 4000000 in
theorem class_Count.ok (K : Nat) (a0 : Tapi_Class) (w : World)  (r : Int) (H : class_Count.f K a0 = some r) : Calls Try.prog 34 #[.agg #[.int .u64 a0.f0, .int .u64 a0.f1, .int .u64 a0.f2, .int .u64 a0.f3]] w (class_Count.R r w) := by
  refine calls_cd (t := #[.agg #[.int .u64 a0.f0, .int .u64 a0.f1, .int .u64 a0.f2, .int .u64 a0.f3], undef, undef, undef, undef, undef, undef, undef, undef, undef, undef, undef, undef, undef, undef, undef]) Try.func34 (by kernel_rfl) (by kernel_rfl) ?_
  unfold class_Count.f at H
  have HR : ∀ a w', bodyPost Try.prog Try.f34 (class_Count.R r w) .ret a w' → bodyPost Try.prog Try.f34 (class_Count.R r w) .ret a w' := fun _ _ h => h
  refine w_seq (p := []) (p0 := [0]) (p1 := [1]) (by kernel_rfl) ?_
  refine w_region (p := [0]) (id := 0) (by kernel_rfl) ?_
  refine r_do 0 (by kernel_rfl) (og_box (T := 37) (x := (Operand.tmp 0)) (cs := #[.int .u64 a0.f0, .int .u64 a0.f1, .int .u64 a0.f2, .int .u64 a0.f3]) (by kernel_rfl) (by kernel_rfl) ?_) 
  intro b14 w11 e15 hb13 k12
  have g16 : w.heap.size ≤ b14 := by rw [e15]; exact Kp.size (Kp.refl No w)
  clear e15
  have k17 := Kp.trans (Kp.refl No w) k12 (fun _ h => h.elim)
  refine r_vals 1 2 [.int .i64 0] (by kernel_rfl) (by kernel_rfl) ?_
  refine r_fin 2 (by kernel_rfl) ?_
  refine q_then ?_
  refine w_seq (p := [1]) (p0 := [1, 0]) (p1 := [1, 1]) (by kernel_rfl) ?_
  refine w_region (p := [1, 0]) (id := 1) (by kernel_rfl) ?_
  refine r_vals 0 1 [.int .i64 0] (by kernel_rfl) (by kernel_rfl) ?_
  refine r_fin 1 (by kernel_rfl) ?_
  refine q_then ?_
  refine w_seq (p := [1, 1]) (p0 := [1, 1, 0]) (p1 := [1, 1, 1]) (by kernel_rfl) ?_
  refine w_seq (p := [1, 1, 0]) (p0 := [1, 1, 0, 0]) (p1 := [1, 1, 0, 1]) (by kernel_rfl) ?_
  refine w_region (p := [1, 1, 0, 0]) (id := 2) (by kernel_rfl) ?_
  refine r_do 0 (by kernel_rfl) (og_load (T := 37) (x := (Operand.tmp 1)) (b := b14) (off := 0) (.agg #[.int .u64 a0.f0, .int .u64 a0.f1, .int .u64 a0.f2, .int .u64 a0.f3]) (by kernel_rfl) (by kernel_rfl) hb13 (by kernel_rfl) ?_) 
  refine r_vals 1 2 [.int .i64 0] (by kernel_rfl) (by kernel_rfl) ?_
  refine r_fin 2 (by kernel_rfl) ?_
  refine q_then ?_
  refine w_block (p := [1, 1, 0, 1]) (p0 := [1, 1, 0, 1, 0]) (id := 0) (by kernel_rfl) ?_
  refine w_into (class_Count.F0 0 a0 0) (by kernel_rfl) (fun u_ => ?_)
  refine w_loop (p := [1, 1, 0, 1, 0]) (p0 := [1, 1, 0, 1, 0, 0]) K (by kernel_rfl) ?_
  refine class_Count.l0.ok K a0 w r  (fun a w' h_ => q_in_r (q_then_r (HR a w' h_))) ?_ K 0 0 u_ w11 k17 H
  intro x41 u40 w38 k39 H
  try dsimp only at H
  refine q_in_hit ?_
  refine q_then ?_
  refine w_seq (p := [1, 1, 1]) (p0 := [1, 1, 1, 0]) (p1 := [1, 1, 1, 1]) (by kernel_rfl) ?_
  refine w_region (p := [1, 1, 1, 0]) (id := 7) (by kernel_rfl) ?_
  refine r_vals 0 2 [.int .i64 x41, .int .i64 x41] (by kernel_rfl) (by kernel_rfl) ?_
  refine r_fin 2 (by kernel_rfl) ?_
  refine q_then ?_
  refine w_ret (p := [1, 1, 1, 1]) (by kernel_rfl) ?_
  obtain rfl := Option.some.inj H
  refine HR _ _ (body_ret (vs := [.int .i64 x41]) (rv_tmp (by kernel_rfl) rfl) rfl ?_)
  exact ⟨rfl, k39⟩
/-! ### dowel/class.Not -/
def class_Not.F0 (b45 : Nat) (b52 : Nat) (x85 : Int) (u_ : Nat → Value) : Array Value := #[u_ 0, .pointer (some ⟨b45, 0, none⟩), .pointer (some ⟨b52, 0, none⟩), u_ 3, .int .i64 x85, u_ 5, u_ 6, u_ 7, u_ 8, u_ 9, u_ 10, u_ 11, u_ 12, u_ 13, u_ 14]
def class_Not.F0_0 (b45 : Nat) (b52 : Nat) (u_ : Nat → Value) : Array Value := #[u_ 0, .pointer (some ⟨b45, 0, none⟩), .pointer (some ⟨b52, 0, none⟩), u_ 3, u_ 4, u_ 5, u_ 6, u_ 7, u_ 8, u_ 9, u_ 10, u_ 11, u_ 12, u_ 13, u_ 14]
def class_Not.b0  (next0 : Int → Int → Int → Int → Int → Option (Tapi_Class)) (brk0_0 : Int → Int → Int → Int → Option (Tapi_Class)) (x85 : Int) (x86 : Int) (x87 : Int) (x88 : Int) (x89 : Int) : Option (Tapi_Class) := if x85 < 4 then (if 0 ≤ x85 then (next0 (W (x85 + 1)) (rd 0 (stored [x86, x87, x88, x89] x85 (bits .xor .u64 (IntKind.u64.max) (rd 0 [x86, x87, x88, x89] x85))) 0) (rd 0 (stored [x86, x87, x88, x89] x85 (bits .xor .u64 (IntKind.u64.max) (rd 0 [x86, x87, x88, x89] x85))) 1) (rd 0 (stored [x86, x87, x88, x89] x85 (bits .xor .u64 (IntKind.u64.max) (rd 0 [x86, x87, x88, x89] x85))) 2) (rd 0 (stored [x86, x87, x88, x89] x85 (bits .xor .u64 (IntKind.u64.max) (rd 0 [x86, x87, x88, x89] x85))) 3)) else none) else (brk0_0 x86 x87 x88 x89)
def class_Not.l0  (brk0_0 : Int → Int → Int → Int → Option (Tapi_Class)) : Nat → Int → Int → Int → Int → Int → Option (Tapi_Class)
  | 0, _, _, _, _, _ => none
  | n_ + 1, x85, x86, x87, x88, x89 => class_Not.b0  (class_Not.l0  brk0_0 n_) brk0_0 x85 x86 x87 x88 x89
def class_Not.f (K : Nat) (a0 : Tapi_Class) : Option (Tapi_Class) := class_Not.l0 (fun y102 y103 y104 y105 => some (⟨y102, y103, y104, y105⟩ : Tapi_Class)) K 0 a0.f0 a0.f1 a0.f2 a0.f3
def class_Not.R (r : Tapi_Class) (w : World) : Ending → World → Prop := fun e w' => e = .returned (.agg #[.int .u64 r.f0, .int .u64 r.f1, .int .u64 r.f2, .int .u64 r.f3]) ∧ Kp No w w'
set_option maxRecDepth 20000 in
set_option maxHeartbeats 4000000 in
theorem class_Not.b0.ok (K : Nat) (a0 : Tapi_Class) (w : World) (r : Tapi_Class) (b45 : Nat) (b52 : Nat) {Q : Exit → Act → World → Prop} (HR : ∀ a w', bodyPost Try.prog Try.f60 (class_Not.R r w) .ret a w' → Q .ret a w') {next0 : Int → Int → Int → Int → Int → Option (Tapi_Class)} {brk0_0 : Int → Int → Int → Int → Option (Tapi_Class)} (HN0 : ∀ (x85q : Int) (x86q : Int) (x87q : Int) (x88q : Int) (x89q : Int) (u82q : Nat → Value) (w83q : World) (k84q : Kp No w w83q) (hb90q : Blk w83q b45 #[.int .u64 x86q, .int .u64 x87q, .int .u64 x88q, .int .u64 x89q] 37) (hb91q : Blk w83q b52 #[.int .u64 0, .int .u64 0, .int .u64 0, .int .u64 0] 37) (ghb90q : w.heap.size ≤ b45) (ghb91q : w.heap.size ≤ b52) (nhb90hb91q : b45 ≠ b52), next0 x85q x86q x87q x88q x89q = some r → Q .normal ⟨class_Not.F0 b45 b52 x85q u82q, []⟩ w83q) (HX0_0 : ∀ (y102q : Int) (y103q : Int) (y104q : Int) (y105q : Int) (u101q : Nat → Value) (w99q : World) (k100q : Kp No w w99q) (hb106q : Blk w99q b45 #[.int .u64 y102q, .int .u64 y103q, .int .u64 y104q, .int .u64 y105q] 37) (hb107q : Blk w99q b52 #[.int .u64 0, .int .u64 0, .int .u64 0, .int .u64 0] 37) (ghb106q : w.heap.size ≤ b45) (ghb107q : w.heap.size ≤ b52) (nhb106hb107q : b45 ≠ b52), brk0_0 y102q y103q y104q y105q = some r → Q (.exit 0) ⟨class_Not.F0_0 b45 b52 u101q, []⟩ w99q) (x85 : Int) (x86 : Int) (x87 : Int) (x88 : Int) (x89 : Int) (u82 : Nat → Value) (w83 : World) (k84 : Kp No w w83) (hb90 : Blk w83 b45 #[.int .u64 x86, .int .u64 x87, .int .u64 x88, .int .u64 x89] 37) (hb91 : Blk w83 b52 #[.int .u64 0, .int .u64 0, .int .u64 0, .int .u64 0] 37) (ghb90 : w.heap.size ≤ b45) (ghb91 : w.heap.size ≤ b52) (nhb90hb91 : b45 ≠ b52) (H : class_Not.b0  next0 brk0_0 x85 x86 x87 x88 x89 = some r) : (cd Try.f60 [1, 0, 1, 0, 0]).wp Try.prog Q ⟨class_Not.F0 b45 b52 x85 u82, []⟩ w83 := by
  unfold class_Not.b0 at H
  refine w_seq (p := [1, 0, 1, 0, 0]) (p0 := [1, 0, 1, 0, 0, 0]) (p1 := [1, 0, 1, 0, 0, 1]) (by kernel_rfl) ?_
  refine w_region (p := [1, 0, 1, 0, 0, 0]) (id := 2) (by kernel_rfl) ?_
  refine r_vals 0 1 [.bool (decide (x85 < 4))] (by kernel_rfl) (by kernel_rfl) ?_
  refine r_fin 1 (by kernel_rfl) ?_
  refine q_then ?_
  refine w_seq (p := [1, 0, 1, 0, 0, 1]) (p0 := [1, 0, 1, 0, 0, 1, 0]) (p1 := [1, 0, 1, 0, 0, 1, 1]) (by kernel_rfl) ?_
  refine w_cond (p := [1, 0, 1, 0, 0, 1, 0]) (p0 := [1, 0, 1, 0, 0, 1, 0, 0]) (p1 := [1, 0, 1, 0, 0, 1, 0, 1]) (c := (Operand.tmp 5)) (b := decide (x85 < 4)) (by kernel_rfl) (by kernel_rfl) ?_ ?_
  · intro h_
    have h92 : x85 < 4 := by simpa using h_
    clear h_
    rw [if_pos h92] at H
    refine w_skip (p := [1, 0, 1, 0, 0, 1, 0, 0]) (by kernel_rfl) ?_
    refine q_then ?_
    refine w_seq (p := [1, 0, 1, 0, 0, 1, 1]) (p0 := [1, 0, 1, 0, 0, 1, 1, 0]) (p1 := [1, 0, 1, 0, 0, 1, 1, 1]) (by kernel_rfl) ?_
    refine w_block (p := [1, 0, 1, 0, 0, 1, 1, 0]) (p0 := [1, 0, 1, 0, 0, 1, 1, 0, 0]) (id := 1) (by kernel_rfl) ?_
    refine w_seq (p := [1, 0, 1, 0, 0, 1, 1, 0, 0]) (p0 := [1, 0, 1, 0, 0, 1, 1, 0, 0, 0]) (p1 := [1, 0, 1, 0, 0, 1, 1, 0, 0, 1]) (by kernel_rfl) ?_
    refine w_region (p := [1, 0, 1, 0, 0, 1, 1, 0, 0, 0]) (id := 3) (by kernel_rfl) ?_
    refine r_vals 0 2 [.int .i64 x85, .int .i64 x85] (by kernel_rfl) (by kernel_rfl) ?_
    refine r_fin 2 (by kernel_rfl) ?_
    refine q_then ?_
    refine w_region (p := [1, 0, 1, 0, 0, 1, 1, 0, 0, 1]) (id := 4) (by kernel_rfl) ?_
    refine r_vals 0 2 [.int .i64 x85, .int .i64 x85] (by kernel_rfl) (by kernel_rfl) ?_
    refine p_split (0 ≤ x85) (fun h93 => ?_) (fun h93 => ?_)
    · rw [if_pos h93] at H
      refine r_do 2 (by kernel_rfl) (og_indexA (T := 37) (n := 4) (e := 35) (sz := 1) (b := b45) (off := 0) (iv := x85) (x := (Operand.tmp 1)) (y := (Operand.tmp 8)) (k := .i64) (by kernel_rfl) (by kernel_rfl) (by kernel_rfl) (by kernel_rfl) h93 h92 ?_) 
      refine r_do 3 (by kernel_rfl) (og_loadA (K := (kInt .u64 35)) (T := 35) (x := (Operand.tmp 9)) (b := b45) (base := 0) (off := 0) (xs := [x86, x87, x88, x89]) (iv := x85) 0 (.int .u64 (rd 0 [x86, x87, x88, x89] x85)) (by kernel_rfl) (by kernel_rfl) hb90 (by kernel_rfl) h93 h92 (by kernel_rfl) ?_) 
      refine r_vals 4 5 [.int .u64 (bits .xor .u64 (IntKind.u64.max) (rd 0 [x86, x87, x88, x89] x85))] (by kernel_rfl) (by kernel_rfl) ?_
      refine r_do 5 (by kernel_rfl) (og_indexA (T := 37) (n := 4) (e := 35) (sz := 1) (b := b45) (off := 0) (iv := x85) (x := (Operand.tmp 1)) (y := (Operand.tmp 7)) (k := .i64) (by kernel_rfl) (by kernel_rfl) (by kernel_rfl) (by kernel_rfl) h93 h92 ?_) 
      refine r_do 6 (by kernel_rfl) (ar_storeS (K := (kInt .u64 35)) (T := 35) (b := b45) (off := 0) (n := 4) (x := (Operand.tmp 12)) (y := (Operand.tmp 11)) (xs := [x86, x87, x88, x89]) (iv := x85) (cs' := #[.int .u64 (rd 0 (stored [x86, x87, x88, x89] x85 (bits .xor .u64 (IntKind.u64.max) (rd 0 [x86, x87, x88, x89] x85))) 0), .int .u64 (rd 0 (stored [x86, x87, x88, x89] x85 (bits .xor .u64 (IntKind.u64.max) (rd 0 [x86, x87, x88, x89] x85))) 1), .int .u64 (rd 0 (stored [x86, x87, x88, x89] x85 (bits .xor .u64 (IntKind.u64.max) (rd 0 [x86, x87, x88, x89] x85))) 2), .int .u64 (rd 0 (stored [x86, x87, x88, x89] x85 (bits .xor .u64 (IntKind.u64.max) (rd 0 [x86, x87, x88, x89] x85))) 3)]) 0 (bits .xor .u64 (IntKind.u64.max) (rd 0 [x86, x87, x88, x89] x85)) (.int .u64 (bits .xor .u64 (IntKind.u64.max) (rd 0 [x86, x87, x88, x89] x85))) (by kernel_rfl) (by kernel_rfl) (by kernel_rfl) hb90 (by kernel_rfl) (by kernel_rfl) h93 h92 (by kernel_rfl) (by kernel_rfl) ?_) 
      intro w95 hb94 k96
      have k97 := Kp.trans k84 k96 (fun x hx => .inr (by rw [show x = _ from hx]; exact ghb90))
      have hb98 := Blk.kp hb91 k96 (show ¬ (b52 = b45) from (Ne.symm nhb90hb91))
      refine r_fin 7 (by kernel_rfl) ?_
      refine q_in ?_
      refine q_then ?_
      refine w_region (p := [1, 0, 1, 0, 0, 1, 1, 1]) (id := 5) (by kernel_rfl) ?_
      refine r_vals 0 2 [.int .i64 (W (x85 + 1)), .int .i64 (W (x85 + 1))] (by kernel_rfl) (by kernel_rfl) ?_
      refine r_fin 2 (by kernel_rfl) ?_
      refine q_into (class_Not.F0 b45 b52 (W (x85 + 1))) (by kernel_rfl) (fun u_ => ?_)
      exact HN0 (W (x85 + 1)) (rd 0 (stored [x86, x87, x88, x89] x85 (bits .xor .u64 (IntKind.u64.max) (rd 0 [x86, x87, x88, x89] x85))) 0) (rd 0 (stored [x86, x87, x88, x89] x85 (bits .xor .u64 (IntKind.u64.max) (rd 0 [x86, x87, x88, x89] x85))) 1) (rd 0 (stored [x86, x87, x88, x89] x85 (bits .xor .u64 (IntKind.u64.max) (rd 0 [x86, x87, x88, x89] x85))) 2) (rd 0 (stored [x86, x87, x88, x89] x85 (bits .xor .u64 (IntKind.u64.max) (rd 0 [x86, x87, x88, x89] x85))) 3) u_ w95 k97 hb94 hb98 ghb90 ghb91 nhb90hb91 H
    · rw [if_neg h93] at H
      cases H
  · intro h_
    have h92 : ¬ (x85 < 4) := by simpa using h_
    clear h_
    rw [if_neg h92] at H
    refine w_exit (p := [1, 0, 1, 0, 0, 1, 0, 1]) (id := 0) (by kernel_rfl) ?_
    refine q_then_x ?_
    refine q_into (class_Not.F0_0 b45 b52) (by kernel_rfl) (fun u_ => ?_)
    exact HX0_0 x86 x87 x88 x89 u_ w83 k84 hb90 hb91 ghb90 ghb91 nhb90hb91 H
set_option maxRecDepth 20000 in
set_option maxHeartbeats 4000000 in
theorem class_Not.l0.ok (K : Nat) (a0 : Tapi_Class) (w : World) (r : Tapi_Class) (b45 : Nat) (b52 : Nat) {Q : Exit → Act → World → Prop} (HR : ∀ a w', bodyPost Try.prog Try.f60 (class_Not.R r w) .ret a w' → Q .ret a w') {brk0_0 : Int → Int → Int → Int → Option (Tapi_Class)} (HX0_0 : ∀ (y102q : Int) (y103q : Int) (y104q : Int) (y105q : Int) (u101q : Nat → Value) (w99q : World) (k100q : Kp No w w99q) (hb106q : Blk w99q b45 #[.int .u64 y102q, .int .u64 y103q, .int .u64 y104q, .int .u64 y105q] 37) (hb107q : Blk w99q b52 #[.int .u64 0, .int .u64 0, .int .u64 0, .int .u64 0] 37) (ghb106q : w.heap.size ≤ b45) (ghb107q : w.heap.size ≤ b52) (nhb106hb107q : b45 ≠ b52), brk0_0 y102q y103q y104q y105q = some r → Q (.exit 0) ⟨class_Not.F0_0 b45 b52 u101q, []⟩ w99q) : ∀ (n_ : Nat) (x85 : Int) (x86 : Int) (x87 : Int) (x88 : Int) (x89 : Int) (u82 : Nat → Value) (w83 : World) (k84 : Kp No w w83) (hb90 : Blk w83 b45 #[.int .u64 x86, .int .u64 x87, .int .u64 x88, .int .u64 x89] 37) (hb91 : Blk w83 b52 #[.int .u64 0, .int .u64 0, .int .u64 0, .int .u64 0] 37) (ghb90 : w.heap.size ≤ b45) (ghb91 : w.heap.size ≤ b52) (nhb90hb91 : b45 ≠ b52) (H : class_Not.l0  brk0_0 n_ x85 x86 x87 x88 x89 = some r), Code.rounds Try.prog (cd Try.f60 [1, 0, 1, 0, 0]) Q n_ ⟨class_Not.F0 b45 b52 x85 u82, []⟩ w83
  | 0, _, _, _, _, _, _, _, _, _, _, _, _, _, H => by cases H
  | n_ + 1, x85, x86, x87, x88, x89, u82, w83, k84, hb90, hb91, ghb90, ghb91, nhb90hb91, H =>
    class_Not.b0.ok K a0 w r b45 b52 (Q := Exit.then (Code.rounds Try.prog (cd Try.f60 [1, 0, 1, 0, 0]) Q n_) Q) (fun a w' h_ => q_then_r (HR a w' h_)) (fun x0_ x1_ x2_ x3_ x4_ x5_ x6_ x7_ x8_ x9_ x10_ x11_ x12_ h_ => class_Not.l0.ok K a0 w r b45 b52 HR HX0_0 n_ x0_ x1_ x2_ x3_ x4_ x5_ x6_ x7_ x8_ x9_ x10_ x11_ x12_ h_) (fun x0_ x1_ x2_ x3_ x4_ x5_ x6_ x7_ x8_ x9_ x10_ x11_ h_ => q_then_x (HX0_0 x0_ x1_ x2_ x3_ x4_ x5_ x6_ x7_ x8_ x9_ x10_ x11_ h_)) x85 x86 x87 x88 x89 u82 w83 k84 hb90 hb91 ghb90 ghb91 nhb90hb91 H
set_option maxRecDepth 20000 in
set_option maxHeartbeats 4000000 in
theorem class_Not.ok (K : Nat) (a0 : Tapi_Class) (w : World)  (r : Tapi_Class) (H : class_Not.f K a0 = some r) : Calls Try.prog 60 #[.agg #[.int .u64 a0.f0, .int .u64 a0.f1, .int .u64 a0.f2, .int .u64 a0.f3]] w (class_Not.R r w) := by
  refine calls_cd (t := #[.agg #[.int .u64 a0.f0, .int .u64 a0.f1, .int .u64 a0.f2, .int .u64 a0.f3], undef, undef, undef, undef, undef, undef, undef, undef, undef, undef, undef, undef, undef, undef]) Try.func60 (by kernel_rfl) (by kernel_rfl) ?_
  unfold class_Not.f at H
  have HR : ∀ a w', bodyPost Try.prog Try.f60 (class_Not.R r w) .ret a w' → bodyPost Try.prog Try.f60 (class_Not.R r w) .ret a w' := fun _ _ h => h
  refine w_seq (p := []) (p0 := [0]) (p1 := [1]) (by kernel_rfl) ?_
  refine w_region (p := [0]) (id := 0) (by kernel_rfl) ?_
  refine r_do 0 (by kernel_rfl) (og_box (T := 37) (x := (Operand.tmp 0)) (cs := #[.int .u64 a0.f0, .int .u64 a0.f1, .int .u64 a0.f2, .int .u64 a0.f3]) (by kernel_rfl) (by kernel_rfl) ?_) 
  intro b45 w42 e46 hb44 k43
  have g47 : w.heap.size ≤ b45 := by rw [e46]; exact Kp.size (Kp.refl No w)
  clear e46
  have k48 := Kp.trans (Kp.refl No w) k43 (fun _ h => h.elim)
  refine r_do 1 (by kernel_rfl) (og_alloc (T := 37) (cs := #[.int .u64 0, .int .u64 0, .int .u64 0, .int .u64 0]) (by kernel_rfl) (by kernel_rfl) ?_) 
  intro b52 w49 e53 hb51 k50
  have n54 : b45 ≠ b52 := by rw [e53]; exact Nat.ne_of_lt hb44.lt
  have g55 : w.heap.size ≤ b52 := by rw [e53]; exact Kp.size k48
  clear e53
  have k56 := Kp.trans k48 k50 (fun _ h => h.elim)
  have hb57 := Blk.kp hb44 k50 id
  refine r_fin 2 (by kernel_rfl) ?_
  refine q_then ?_
  refine w_seq (p := [1]) (p0 := [1, 0]) (p1 := [1, 1]) (by kernel_rfl) ?_
  refine w_seq (p := [1, 0]) (p0 := [1, 0, 0]) (p1 := [1, 0, 1]) (by kernel_rfl) ?_
  refine w_region (p := [1, 0, 0]) (id := 1) (by kernel_rfl) ?_
  refine r_vals 0 1 [.int .i64 0] (by kernel_rfl) (by kernel_rfl) ?_
  refine r_fin 1 (by kernel_rfl) ?_
  refine q_then ?_
  refine w_block (p := [1, 0, 1]) (p0 := [1, 0, 1, 0]) (id := 0) (by kernel_rfl) ?_
  refine w_into (class_Not.F0 b45 b52 0) (by kernel_rfl) (fun u_ => ?_)
  refine w_loop (p := [1, 0, 1, 0]) (p0 := [1, 0, 1, 0, 0]) K (by kernel_rfl) ?_
  refine class_Not.l0.ok K a0 w r b45 b52 (fun a w' h_ => q_in_r (q_then_r (HR a w' h_))) ?_ K 0 a0.f0 a0.f1 a0.f2 a0.f3 u_ w49 k56 hb57 hb51 g47 g55 n54 H
  intro y102 y103 y104 y105 u101 w99 k100 hb106 hb107 ghb106 ghb107 nhb106hb107 H
  try dsimp only at H
  refine q_in_hit ?_
  refine q_then ?_
  refine w_seq (p := [1, 1]) (p0 := [1, 1, 0]) (p1 := [1, 1, 1]) (by kernel_rfl) ?_
  refine w_region (p := [1, 1, 0]) (id := 6) (by kernel_rfl) ?_
  refine r_do 0 (by kernel_rfl) (og_load (T := 37) (x := (Operand.tmp 1)) (b := b45) (off := 0) (.agg #[.int .u64 y102, .int .u64 y103, .int .u64 y104, .int .u64 y105]) (by kernel_rfl) (by kernel_rfl) hb106 (by kernel_rfl) ?_) 
  refine r_do 1 (by kernel_rfl) (og_store (T := 37) (x := (Operand.tmp 2)) (y := (Operand.tmp 14)) (b := b52) (off := 0) (.agg #[.int .u64 y102, .int .u64 y103, .int .u64 y104, .int .u64 y105]) (by kernel_rfl) (by kernel_rfl) (by kernel_rfl) hb107 (cs' := #[.int .u64 y102, .int .u64 y103, .int .u64 y104, .int .u64 y105]) (by kernel_rfl) ?_) 
  intro w109 hb108 k110 _
  have k111 := Kp.trans k100 k110 (fun x hx => .inr (by rw [show x = _ from hx]; exact ghb107))
  have hb112 := Blk.kp hb106 k110 (show ¬ (b45 = b52) from nhb106hb107)
  refine r_fin 2 (by kernel_rfl) ?_
  refine q_then ?_
  refine w_ret (p := [1, 1, 1]) (by kernel_rfl) ?_
  obtain rfl := Option.some.inj H
  refine HR _ _ (body_ret (vs := [.agg #[.int .u64 y102, .int .u64 y103, .int .u64 y104, .int .u64 y105]]) (rv_cell (off := 0) (v := .agg #[.int .u64 y102, .int .u64 y103, .int .u64 y104, .int .u64 y105]) (by kernel_rfl) hb108 (by kernel_rfl) rfl) rfl ?_)
  exact ⟨rfl, k111⟩
/-! ### dowel/class.spelling -/
def class_spelling.j0F (a0 : Int) (x122 : Bool) (u_ : Nat → Value) : Array Value := #[.int .u8 a0, u_ 1, u_ 2, u_ 3, u_ 4, u_ 5, u_ 6, u_ 7, u_ 8, u_ 9, .bool x122, u_ 11, u_ 12, u_ 13, u_ 14, u_ 15, u_ 16, u_ 17, u_ 18, u_ 19, u_ 20, u_ 21, u_ 22, u_ 23, u_ 24, u_ 25, u_ 26, u_ 27, u_ 28, u_ 29, u_ 30, u_ 31, u_ 32, u_ 33, u_ 34]
def class_spelling.j1F (a0 : Int) (x135 : Bool) (u_ : Nat → Value) : Array Value := #[.int .u8 a0, u_ 1, u_ 2, u_ 3, u_ 4, u_ 5, u_ 6, u_ 7, u_ 8, u_ 9, u_ 10, u_ 11, u_ 12, u_ 13, u_ 14, u_ 15, u_ 16, u_ 17, u_ 18, u_ 19, u_ 20, u_ 21, u_ 22, .bool x135, u_ 24, u_ 25, u_ 26, u_ 27, u_ 28, u_ 29, u_ 30, u_ 31, u_ 32, u_ 33, u_ 34]
def class_spelling.j1 (a0 : Int) (x135 : Bool) : Option (ByteArray) := if x135 = true then (if 0 ≤ (shv .shr .u8 a0 4) then (if (shv .shr .u8 a0 4) < ((⟨#[48, 49, 50, 51, 52, 53, 54, 55, 56, 57, 97, 98, 99, 100, 101, 102]⟩ : ByteArray).size : Int) then (if 0 ≤ (bits .and .u8 a0 15) then (if (bits .and .u8 a0 15) < ((⟨#[48, 49, 50, 51, 52, 53, 54, 55, 56, 57, 97, 98, 99, 100, 101, 102]⟩ : ByteArray).size : Int) then (some (strI ([92, 120, bt (⟨#[48, 49, 50, 51, 52, 53, 54, 55, 56, 57, 97, 98, 99, 100, 101, 102]⟩ : ByteArray) (shv .shr .u8 a0 4), bt (⟨#[48, 49, 50, 51, 52, 53, 54, 55, 56, 57, 97, 98, 99, 100, 101, 102]⟩ : ByteArray) (bits .and .u8 a0 15)] : List Int))) else none) else none) else none) else none) else (some (strI ([a0] : List Int)))
def class_spelling.j0 (a0 : Int) (x122 : Bool) : Option (ByteArray) := if x122 = true then (some (strI ([92, a0] : List Int))) else (if a0 < 32 then (class_spelling.j1 a0 true) else (class_spelling.j1 a0 (decide (a0 > 126))))
def class_spelling.f (K : Nat) (a0 : Int) : Option (ByteArray) := if a0 = 9 then (some (⟨#[92, 116]⟩ : ByteArray)) else (if a0 = 10 then (some (⟨#[92, 110]⟩ : ByteArray)) else (if a0 = 13 then (some (⟨#[92, 114]⟩ : ByteArray)) else (if a0 = 92 then (class_spelling.j0 a0 (a0 == 92)) else (if a0 = 93 then (class_spelling.j0 a0 (a0 == 93)) else (if a0 = 45 then (class_spelling.j0 a0 (a0 == 45)) else (class_spelling.j0 a0 (a0 == 94)))))))
def class_spelling.R (r : ByteArray) (w : World) : Ending → World → Prop := fun e w' => e = .returned (.string r) ∧ Kp No w w'
set_option maxRecDepth 20000 in
set_option maxHeartbeats 4000000 in
theorem class_spelling.j1.ok (K : Nat) (a0 : Int) (w : World) (r : ByteArray) {Q : Exit → Act → World → Prop}  (HR : ∀ a w', bodyPost Try.prog Try.f61 (class_spelling.R r w) .ret a w' → Q .ret a w')  (x135 : Bool) (u134 : Nat → Value) (w132 : World) (k133 : Kp No w w132)  (H : class_spelling.j1 a0 x135 = some r) : (cd Try.f61 [1, 1, 0, 1]).wp Try.prog (Exit.then (fun a w => (cd Try.f61 [1, 1, 1]).wp Try.prog Q a w) Q) ⟨class_spelling.j1F a0 x135 u134, []⟩ w132 := by
  unfold class_spelling.j1 at H
  refine w_cond (p := [1, 1, 0, 1]) (p0 := [1, 1, 0, 1, 0]) (p1 := [1, 1, 0, 1, 1]) (c := (Operand.tmp 23)) (b := x135) (by kernel_rfl) (by kernel_rfl) ?_ ?_
  · intro h_
    have h136 : x135 = true := h_
    clear h_
    rw [if_pos h136] at H
    refine w_seq (p := [1, 1, 0, 1, 0]) (p0 := [1, 1, 0, 1, 0, 0]) (p1 := [1, 1, 0, 1, 0, 1]) (by kernel_rfl) ?_
    refine p_split (0 ≤ (shv .shr .u8 a0 4)) (fun h137 => ?_) (fun h137 => ?_)
    · rw [if_pos h137] at H
      refine p_split ((shv .shr .u8 a0 4) < ((⟨#[48, 49, 50, 51, 52, 53, 54, 55, 56, 57, 97, 98, 99, 100, 101, 102]⟩ : ByteArray).size : Int)) (fun h138 => ?_) (fun h138 => ?_)
      · rw [if_pos h138] at H
        refine p_split (0 ≤ (bits .and .u8 a0 15)) (fun h139 => ?_) (fun h139 => ?_)
        · rw [if_pos h139] at H
          refine p_split ((bits .and .u8 a0 15) < ((⟨#[48, 49, 50, 51, 52, 53, 54, 55, 56, 57, 97, 98, 99, 100, 101, 102]⟩ : ByteArray).size : Int)) (fun h140 => ?_) (fun h140 => ?_)
          · rw [if_pos h140] at H
            refine w_drawk (p := [1, 1, 0, 1, 0, 0]) (id := 14) (by kernel_rfl) (by kernel_rfl) [0, 1, 3, 0, 8, 24, 63, 127, 255] 6 (by kernel_rfl) (J := (fun _ w_ => Kp No w132 w_)) (fun w_ h1 h2 h3 h4 => Kp.same h1 h2 h3 h4) ?_
            refine k_pure 2 [.int .u8 a0, .int .u8 (shv .shr .u8 a0 4)] (by kernel_rfl) (fun _ => by kernel_rfl) (fun _ _ _ _ _ h => h) ?_
            refine k_op (.int .u8 (bt (⟨#[48, 49, 50, 51, 52, 53, 54, 55, 56, 57, 97, 98, 99, 100, 101, 102]⟩ : ByteArray) (shv .shr .u8 a0 4))) (by kernel_rfl) (fun b_ w_ hJ hb_ hd_ he_ => og_sindex (T := 9) (x := (Operand.const (Value.string { data := #[48, 49, 50, 51, 52, 53, 54, 55, 56, 57, 97, 98, 99, 100, 101, 102] }))) (y := (Operand.tmp 25)) (k := .u8) (by kernel_rfl) (by kernel_rfl) (by kernel_rfl) (by kernel_rfl) h137 h138 ⟨rfl, hJ⟩) ?_
            refine k_pure 5 [.int .u8 a0, .int .u8 (bits .and .u8 a0 15)] (by kernel_rfl) (fun _ => by kernel_rfl) (fun _ _ _ _ _ h => h) ?_
            refine k_op (.int .u8 (bt (⟨#[48, 49, 50, 51, 52, 53, 54, 55, 56, 57, 97, 98, 99, 100, 101, 102]⟩ : ByteArray) (bits .and .u8 a0 15))) (by kernel_rfl) (fun b_ w_ hJ hb_ hd_ he_ => og_sindex (T := 9) (x := (Operand.const (Value.string { data := #[48, 49, 50, 51, 52, 53, 54, 55, 56, 57, 97, 98, 99, 100, 101, 102] }))) (y := (Operand.tmp 28)) (k := .u8) (by kernel_rfl) (by kernel_rfl) (by kernel_rfl) (by kernel_rfl) h139 h140 ⟨rfl, hJ⟩) ?_
            refine k_nil ?_
            rintro b_ w141 hall_ k_
            have k142 := k_
            have k143 := Kp.trans k133 k142 (fun _ h => h.elim)
            refine r_do 6 (by kernel_rfl) (ow_lit (K := (kInt .u8 5)) (w0 := w) (T := 110) (n := 4) (e := 5) (ps := #[(0, (Operand.const (Value.int IntKind.u8 92))), (1, (Operand.const (Value.int IntKind.u8 120))), (2, (Operand.tmp 26)), (3, (Operand.tmp 29))]) (cs := #[.int .u8 92, .int .u8 120, .int .u8 (bt (⟨#[48, 49, 50, 51, 52, 53, 54, 55, 56, 57, 97, 98, 99, 100, 101, 102]⟩ : ByteArray) (shv .shr .u8 a0 4)), .int .u8 (bt (⟨#[48, 49, 50, 51, 52, 53, 54, 55, 56, 57, 97, 98, 99, 100, 101, 102]⟩ : ByteArray) (bits .and .u8 a0 15))]) (parts := [(0, .int .u8 92), (1, .int .u8 120), (2, .int .u8 (bt (⟨#[48, 49, 50, 51, 52, 53, 54, 55, 56, 57, 97, 98, 99, 100, 101, 102]⟩ : ByteArray) (shv .shr .u8 a0 4))), (3, .int .u8 (bt (⟨#[48, 49, 50, 51, 52, 53, 54, 55, 56, 57, 97, 98, 99, 100, 101, 102]⟩ : ByteArray) (bits .and .u8 a0 15)))]) ([92, 120, bt (⟨#[48, 49, 50, 51, 52, 53, 54, 55, 56, 57, 97, 98, 99, 100, 101, 102]⟩ : ByteArray) (shv .shr .u8 a0 4), bt (⟨#[48, 49, 50, 51, 52, 53, 54, 55, 56, 57, 97, 98, 99, 100, 101, 102]⟩ : ByteArray) (bits .and .u8 a0 15)] : List Int) (by kernel_rfl) (by kernel_rfl) (by kernel_rfl) (by kernel_rfl) rfl rfl (by kernel_rfl) k143 ?_) 
            intro b147 w144 e148 ho146 k145
            clear e148
            have k150 := Kp.trans k143 k145 (fun _ h => h.elim)
            refine r_do 7 (by kernel_rfl) (og_bytesStr (src := 110) (dst := 9) (e := 5) (n := 4) (c := 4) (x := (Operand.tmp 30)) (A := (some ⟨b147, 0, none⟩)) (xs := ([92, 120, bt (⟨#[48, 49, 50, 51, 52, 53, 54, 55, 56, 57, 97, 98, 99, 100, 101, 102]⟩ : ByteArray) (shv .shr .u8 a0 4), bt (⟨#[48, 49, 50, 51, 52, 53, 54, 55, 56, 57, 97, 98, 99, 100, 101, 102]⟩ : ByteArray) (bits .and .u8 a0 15)] : List Int)) (by kernel_rfl) (by kernel_rfl) (by kernel_rfl) (Ow.rdNo ho146) (Ow.len ho146) ?_) 
            refine r_vals 8 9 [.string (strI ([92, 120, bt (⟨#[48, 49, 50, 51, 52, 53, 54, 55, 56, 57, 97, 98, 99, 100, 101, 102]⟩ : ByteArray) (shv .shr .u8 a0 4), bt (⟨#[48, 49, 50, 51, 52, 53, 54, 55, 56, 57, 97, 98, 99, 100, 101, 102]⟩ : ByteArray) (bits .and .u8 a0 15)] : List Int))] (by kernel_rfl) (by kernel_rfl) ?_
            refine r_fin 9 (by kernel_rfl) ?_
            refine q_then ?_
            refine w_ret (p := [1, 1, 0, 1, 0, 1]) (by kernel_rfl) ?_
            refine q_then_r ?_
            obtain rfl := Option.some.inj H
            refine HR _ _ (body_ret (vs := [.string (strI ([92, 120, bt (⟨#[48, 49, 50, 51, 52, 53, 54, 55, 56, 57, 97, 98, 99, 100, 101, 102]⟩ : ByteArray) (shv .shr .u8 a0 4), bt (⟨#[48, 49, 50, 51, 52, 53, 54, 55, 56, 57, 97, 98, 99, 100, 101, 102]⟩ : ByteArray) (bits .and .u8 a0 15)] : List Int))]) (rv_tmp (by kernel_rfl) rfl) rfl ?_)
            exact ⟨rfl, k150⟩
          · rw [if_neg h140] at H
            cases H
        · rw [if_neg h139] at H
          cases H
      · rw [if_neg h138] at H
        cases H
    · rw [if_neg h137] at H
      cases H
  · intro h_
    have h136 : ¬ (x135 = true) := by rw [h_]; decide
    clear h_
    rw [if_neg h136] at H
    refine w_skip (p := [1, 1, 0, 1, 1]) (by kernel_rfl) ?_
    refine q_then ?_
    refine w_seq (p := [1, 1, 1]) (p0 := [1, 1, 1, 0]) (p1 := [1, 1, 1, 1]) (by kernel_rfl) ?_
    refine w_region (p := [1, 1, 1, 0]) (id := 15) (by kernel_rfl) ?_
    refine r_vals 0 1 [.int .u8 a0] (by kernel_rfl) (by kernel_rfl) ?_
    refine r_do 1 (by kernel_rfl) (ow_lit (K := (kInt .u8 5)) (w0 := w) (T := 110) (n := 1) (e := 5) (ps := #[(0, (Operand.tmp 32))]) (cs := #[.int .u8 a0]) (parts := [(0, .int .u8 a0)]) ([a0] : List Int) (by kernel_rfl) (by kernel_rfl) (by kernel_rfl) (by kernel_rfl) rfl rfl (by kernel_rfl) k133 ?_) 
    intro b154 w151 e155 ho153 k152
    clear e155
    have k157 := Kp.trans k133 k152 (fun _ h => h.elim)
    refine r_do 2 (by kernel_rfl) (og_bytesStr (src := 110) (dst := 9) (e := 5) (n := 1) (c := 1) (x := (Operand.tmp 33)) (A := (some ⟨b154, 0, none⟩)) (xs := ([a0] : List Int)) (by kernel_rfl) (by kernel_rfl) (by kernel_rfl) (Ow.rdNo ho153) (Ow.len ho153) ?_) 
    refine r_vals 3 4 [.string (strI ([a0] : List Int))] (by kernel_rfl) (by kernel_rfl) ?_
    refine r_fin 4 (by kernel_rfl) ?_
    refine q_then ?_
    refine w_ret (p := [1, 1, 1, 1]) (by kernel_rfl) ?_
    obtain rfl := Option.some.inj H
    refine HR _ _ (body_ret (vs := [.string (strI ([a0] : List Int))]) (rv_tmp (by kernel_rfl) rfl) rfl ?_)
    exact ⟨rfl, k157⟩
set_option maxRecDepth 20000 in
set_option maxHeartbeats 4000000 in
theorem class_spelling.j0.ok (K : Nat) (a0 : Int) (w : World) (r : ByteArray) {Q : Exit → Act → World → Prop}  (HR : ∀ a w', bodyPost Try.prog Try.f61 (class_spelling.R r w) .ret a w' → Q .ret a w')  (x122 : Bool) (u121 : Nat → Value) (w119 : World) (k120 : Kp No w w119)  (H : class_spelling.j0 a0 x122 = some r) : (cd Try.f61 [1, 0, 1, 0, 1, 1, 1, 1, 1, 1, 1]).wp Try.prog (Exit.inBlock 0 (Exit.then (fun a w => (cd Try.f61 [1, 1]).wp Try.prog Q a w) Q)) ⟨class_spelling.j0F a0 x122 u121, []⟩ w119 := by
  unfold class_spelling.j0 at H
  refine w_cond (p := [1, 0, 1, 0, 1, 1, 1, 1, 1, 1, 1]) (p0 := [1, 0, 1, 0, 1, 1, 1, 1, 1, 1, 1, 0]) (p1 := [1, 0, 1, 0, 1, 1, 1, 1, 1, 1, 1, 1]) (c := (Operand.tmp 10)) (b := x122) (by kernel_rfl) (by kernel_rfl) ?_ ?_
  · intro h_
    have h123 : x122 = true := h_
    clear h_
    rw [if_pos h123] at H
    refine w_seq (p := [1, 0, 1, 0, 1, 1, 1, 1, 1, 1, 1, 0]) (p0 := [1, 0, 1, 0, 1, 1, 1, 1, 1, 1, 1, 0, 0]) (p1 := [1, 0, 1, 0, 1, 1, 1, 1, 1, 1, 1, 0, 1]) (by kernel_rfl) ?_
    refine w_region (p := [1, 0, 1, 0, 1, 1, 1, 1, 1, 1, 1, 0, 0]) (id := 12) (by kernel_rfl) ?_
    refine r_vals 0 1 [.int .u8 a0] (by kernel_rfl) (by kernel_rfl) ?_
    refine r_do 1 (by kernel_rfl) (ow_lit (K := (kInt .u8 5)) (w0 := w) (T := 110) (n := 2) (e := 5) (ps := #[(0, (Operand.const (Value.int IntKind.u8 92))), (1, (Operand.tmp 15))]) (cs := #[.int .u8 92, .int .u8 a0]) (parts := [(0, .int .u8 92), (1, .int .u8 a0)]) ([92, a0] : List Int) (by kernel_rfl) (by kernel_rfl) (by kernel_rfl) (by kernel_rfl) rfl rfl (by kernel_rfl) k120 ?_) 
    intro b127 w124 e128 ho126 k125
    clear e128
    have k130 := Kp.trans k120 k125 (fun _ h => h.elim)
    refine r_do 2 (by kernel_rfl) (og_bytesStr (src := 110) (dst := 9) (e := 5) (n := 2) (c := 2) (x := (Operand.tmp 16)) (A := (some ⟨b127, 0, none⟩)) (xs := ([92, a0] : List Int)) (by kernel_rfl) (by kernel_rfl) (by kernel_rfl) (Ow.rdNo ho126) (Ow.len ho126) ?_) 
    refine r_vals 3 4 [.string (strI ([92, a0] : List Int))] (by kernel_rfl) (by kernel_rfl) ?_
    refine r_fin 4 (by kernel_rfl) ?_
    refine q_then ?_
    refine w_ret (p := [1, 0, 1, 0, 1, 1, 1, 1, 1, 1, 1, 0, 1]) (by kernel_rfl) ?_
    refine q_in_r ?_
    refine q_then_r ?_
    obtain rfl := Option.some.inj H
    refine HR _ _ (body_ret (vs := [.string (strI ([92, a0] : List Int))]) (rv_tmp (by kernel_rfl) rfl) rfl ?_)
    exact ⟨rfl, k130⟩
  · intro h_
    have h123 : ¬ (x122 = true) := by rw [h_]; decide
    clear h_
    rw [if_neg h123] at H
    refine w_skip (p := [1, 0, 1, 0, 1, 1, 1, 1, 1, 1, 1, 1]) (by kernel_rfl) ?_
    refine q_in ?_
    refine q_then ?_
    refine w_seq (p := [1, 1]) (p0 := [1, 1, 0]) (p1 := [1, 1, 1]) (by kernel_rfl) ?_
    refine w_seq (p := [1, 1, 0]) (p0 := [1, 1, 0, 0]) (p1 := [1, 1, 0, 1]) (by kernel_rfl) ?_
    refine w_region (p := [1, 1, 0, 0]) (id := 13) (by kernel_rfl) ?_
    refine r_vals 0 3 [.int .u8 a0, .bool (decide (a0 < 32)), .bool (decide (a0 < 32))] (by kernel_rfl) (by kernel_rfl) ?_
    refine b_split (decide (a0 < 32)) (fun h_ => ?_) (fun h_ => ?_)
    · have h131 : a0 < 32 := by simpa using h_
      rw [if_pos h131] at H
      rw [h_]
      clear h_
      refine r_vals 3 6 [undef, undef, .bool true] (by kernel_rfl) (by kernel_rfl) ?_
      refine r_fin 6 (by kernel_rfl) ?_
      refine q_then ?_
      refine w_into (class_spelling.j1F a0 true) (by kernel_rfl) (fun u_ => ?_)
      exact class_spelling.j1.ok K a0 w r  HR  true u_ w119 k120  H
    · have h131 : ¬ (a0 < 32) := by simpa using h_
      rw [if_neg h131] at H
      rw [h_]
      clear h_
      refine r_vals 3 6 [.int .u8 a0, .bool (decide (a0 > 126)), .bool (decide (a0 > 126))] (by kernel_rfl) (by kernel_rfl) ?_
      refine r_fin 6 (by kernel_rfl) ?_
      refine q_then ?_
      refine w_into (class_spelling.j1F a0 (decide (a0 > 126))) (by kernel_rfl) (fun u_ => ?_)
      exact class_spelling.j1.ok K a0 w r  HR  (decide (a0 > 126)) u_ w119 k120  H
set_option maxRecDepth 20000 in
set_option maxHeartbeats 4000000 in
theorem class_spelling.ok (K : Nat) (a0 : Int) (w : World)  (r : ByteArray) (H : class_spelling.f K a0 = some r) : Calls Try.prog 61 #[.int .u8 a0] w (class_spelling.R r w) := by
  refine calls_cd (t := #[.int .u8 a0, undef, undef, undef, undef, undef, undef, undef, undef, undef, undef, undef, undef, undef, undef, undef, undef, undef, undef, undef, undef, undef, undef, undef, undef, undef, undef, undef, undef, undef, undef, undef, undef, undef, undef]) Try.func61 (by kernel_rfl) (by kernel_rfl) ?_
  unfold class_spelling.f at H
  have HR : ∀ a w', bodyPost Try.prog Try.f61 (class_spelling.R r w) .ret a w' → bodyPost Try.prog Try.f61 (class_spelling.R r w) .ret a w' := fun _ _ h => h
  refine w_seq (p := []) (p0 := [0]) (p1 := [1]) (by kernel_rfl) ?_
  refine w_region (p := [0]) (id := 0) (by kernel_rfl) ?_
  refine r_vals 0 1 [.string (⟨#[]⟩ : ByteArray)] (by kernel_rfl) (by kernel_rfl) ?_
  refine r_fin 1 (by kernel_rfl) ?_
  refine q_then ?_
  refine w_seq (p := [1]) (p0 := [1, 0]) (p1 := [1, 1]) (by kernel_rfl) ?_
  refine w_seq (p := [1, 0]) (p0 := [1, 0, 0]) (p1 := [1, 0, 1]) (by kernel_rfl) ?_
  refine w_region (p := [1, 0, 0]) (id := 1) (by kernel_rfl) ?_
  refine r_vals 0 1 [.int .u8 a0] (by kernel_rfl) (by kernel_rfl) ?_
  refine r_fin 1 (by kernel_rfl) ?_
  refine q_then ?_
  refine w_block (p := [1, 0, 1]) (p0 := [1, 0, 1, 0]) (id := 0) (by kernel_rfl) ?_
  refine w_seq (p := [1, 0, 1, 0]) (p0 := [1, 0, 1, 0, 0]) (p1 := [1, 0, 1, 0, 1]) (by kernel_rfl) ?_
  refine w_region (p := [1, 0, 1, 0, 0]) (id := 2) (by kernel_rfl) ?_
  refine r_vals 0 2 [.bool (a0 == 9), .bool (a0 == 9)] (by kernel_rfl) (by kernel_rfl) ?_
  refine r_fin 2 (by kernel_rfl) ?_
  refine q_then ?_
  refine w_cond (p := [1, 0, 1, 0, 1]) (p0 := [1, 0, 1, 0, 1, 0]) (p1 := [1, 0, 1, 0, 1, 1]) (c := (Operand.tmp 4)) (b := a0 == 9) (by kernel_rfl) (by kernel_rfl) ?_ ?_
  · intro h_
    have h113 : a0 = 9 := by simpa using h_
    clear h_
    rw [if_pos h113] at H
    refine w_seq (p := [1, 0, 1, 0, 1, 0]) (p0 := [1, 0, 1, 0, 1, 0, 0]) (p1 := [1, 0, 1, 0, 1, 0, 1]) (by kernel_rfl) ?_
    refine w_region (p := [1, 0, 1, 0, 1, 0, 0]) (id := 3) (by kernel_rfl) ?_
    refine r_vals 0 1 [.string (⟨#[92, 116]⟩ : ByteArray)] (by kernel_rfl) (by kernel_rfl) ?_
    refine r_fin 1 (by kernel_rfl) ?_
    refine q_then ?_
    refine w_ret (p := [1, 0, 1, 0, 1, 0, 1]) (by kernel_rfl) ?_
    refine q_in_r ?_
    refine q_then_r ?_
    obtain rfl := Option.some.inj H
    refine HR _ _ (body_ret (vs := [.string (⟨#[92, 116]⟩ : ByteArray)]) (rv_tmp (by kernel_rfl) rfl) rfl ?_)
    exact ⟨rfl, (Kp.refl No w)⟩
  · intro h_
    have h113 : ¬ (a0 = 9) := by simpa using h_
    clear h_
    rw [if_neg h113] at H
    refine w_seq (p := [1, 0, 1, 0, 1, 1]) (p0 := [1, 0, 1, 0, 1, 1, 0]) (p1 := [1, 0, 1, 0, 1, 1, 1]) (by kernel_rfl) ?_
    refine w_region (p := [1, 0, 1, 0, 1, 1, 0]) (id := 4) (by kernel_rfl) ?_
    refine r_vals 0 2 [.bool (a0 == 10), .bool (a0 == 10)] (by kernel_rfl) (by kernel_rfl) ?_
    refine r_fin 2 (by kernel_rfl) ?_
    refine q_then ?_
    refine w_cond (p := [1, 0, 1, 0, 1, 1, 1]) (p0 := [1, 0, 1, 0, 1, 1, 1, 0]) (p1 := [1, 0, 1, 0, 1, 1, 1, 1]) (c := (Operand.tmp 6)) (b := a0 == 10) (by kernel_rfl) (by kernel_rfl) ?_ ?_
    · intro h_
      have h114 : a0 = 10 := by simpa using h_
      clear h_
      rw [if_pos h114] at H
      refine w_seq (p := [1, 0, 1, 0, 1, 1, 1, 0]) (p0 := [1, 0, 1, 0, 1, 1, 1, 0, 0]) (p1 := [1, 0, 1, 0, 1, 1, 1, 0, 1]) (by kernel_rfl) ?_
      refine w_region (p := [1, 0, 1, 0, 1, 1, 1, 0, 0]) (id := 5) (by kernel_rfl) ?_
      refine r_vals 0 1 [.string (⟨#[92, 110]⟩ : ByteArray)] (by kernel_rfl) (by kernel_rfl) ?_
      refine r_fin 1 (by kernel_rfl) ?_
      refine q_then ?_
      refine w_ret (p := [1, 0, 1, 0, 1, 1, 1, 0, 1]) (by kernel_rfl) ?_
      refine q_in_r ?_
      refine q_then_r ?_
      obtain rfl := Option.some.inj H
      refine HR _ _ (body_ret (vs := [.string (⟨#[92, 110]⟩ : ByteArray)]) (rv_tmp (by kernel_rfl) rfl) rfl ?_)
      exact ⟨rfl, (Kp.refl No w)⟩
    · intro h_
      have h114 : ¬ (a0 = 10) := by simpa using h_
      clear h_
      rw [if_neg h114] at H
      refine w_seq (p := [1, 0, 1, 0, 1, 1, 1, 1]) (p0 := [1, 0, 1, 0, 1, 1, 1, 1, 0]) (p1 := [1, 0, 1, 0, 1, 1, 1, 1, 1]) (by kernel_rfl) ?_
      refine w_region (p := [1, 0, 1, 0, 1, 1, 1, 1, 0]) (id := 6) (by kernel_rfl) ?_
      refine r_vals 0 2 [.bool (a0 == 13), .bool (a0 == 13)] (by kernel_rfl) (by kernel_rfl) ?_
      refine r_fin 2 (by kernel_rfl) ?_
      refine q_then ?_
      refine w_cond (p := [1, 0, 1, 0, 1, 1, 1, 1, 1]) (p0 := [1, 0, 1, 0, 1, 1, 1, 1, 1, 0]) (p1 := [1, 0, 1, 0, 1, 1, 1, 1, 1, 1]) (c := (Operand.tmp 8)) (b := a0 == 13) (by kernel_rfl) (by kernel_rfl) ?_ ?_
      · intro h_
        have h115 : a0 = 13 := by simpa using h_
        clear h_
        rw [if_pos h115] at H
        refine w_seq (p := [1, 0, 1, 0, 1, 1, 1, 1, 1, 0]) (p0 := [1, 0, 1, 0, 1, 1, 1, 1, 1, 0, 0]) (p1 := [1, 0, 1, 0, 1, 1, 1, 1, 1, 0, 1]) (by kernel_rfl) ?_
        refine w_region (p := [1, 0, 1, 0, 1, 1, 1, 1, 1, 0, 0]) (id := 7) (by kernel_rfl) ?_
        refine r_vals 0 1 [.string (⟨#[92, 114]⟩ : ByteArray)] (by kernel_rfl) (by kernel_rfl) ?_
        refine r_fin 1 (by kernel_rfl) ?_
        refine q_then ?_
        refine w_ret (p := [1, 0, 1, 0, 1, 1, 1, 1, 1, 0, 1]) (by kernel_rfl) ?_
        refine q_in_r ?_
        refine q_then_r ?_
        obtain rfl := Option.some.inj H
        refine HR _ _ (body_ret (vs := [.string (⟨#[92, 114]⟩ : ByteArray)]) (rv_tmp (by kernel_rfl) rfl) rfl ?_)
        exact ⟨rfl, (Kp.refl No w)⟩
      · intro h_
        have h115 : ¬ (a0 = 13) := by simpa using h_
        clear h_
        rw [if_neg h115] at H
        refine w_seq (p := [1, 0, 1, 0, 1, 1, 1, 1, 1, 1]) (p0 := [1, 0, 1, 0, 1, 1, 1, 1, 1, 1, 0]) (p1 := [1, 0, 1, 0, 1, 1, 1, 1, 1, 1, 1]) (by kernel_rfl) ?_
        refine w_seq (p := [1, 0, 1, 0, 1, 1, 1, 1, 1, 1, 0]) (p0 := [1, 0, 1, 0, 1, 1, 1, 1, 1, 1, 0, 0]) (p1 := [1, 0, 1, 0, 1, 1, 1, 1, 1, 1, 0, 1]) (by kernel_rfl) ?_
        refine w_region (p := [1, 0, 1, 0, 1, 1, 1, 1, 1, 1, 0, 0]) (id := 8) (by kernel_rfl) ?_
        refine r_vals 0 2 [.bool (a0 == 92), .bool (a0 == 92)] (by kernel_rfl) (by kernel_rfl) ?_
        refine r_fin 2 (by kernel_rfl) ?_
        refine q_then ?_
        refine w_cond (p := [1, 0, 1, 0, 1, 1, 1, 1, 1, 1, 0, 1]) (p0 := [1, 0, 1, 0, 1, 1, 1, 1, 1, 1, 0, 1, 0]) (p1 := [1, 0, 1, 0, 1, 1, 1, 1, 1, 1, 0, 1, 1]) (c := (Operand.tmp 10)) (b := a0 == 92) (by kernel_rfl) (by kernel_rfl) ?_ ?_
        · intro h_
          have h116 : a0 = 92 := by simpa using h_
          clear h_
          rw [if_pos h116] at H
          refine w_skip (p := [1, 0, 1, 0, 1, 1, 1, 1, 1, 1, 0, 1, 0]) (by kernel_rfl) ?_
          refine q_then ?_
          refine w_into (class_spelling.j0F a0 (a0 == 92)) (by kernel_rfl) (fun u_ => ?_)
          exact class_spelling.j0.ok K a0 w r  HR  (a0 == 92) u_ w (Kp.refl No w)  H
        · intro h_
          have h116 : ¬ (a0 = 92) := by simpa using h_
          clear h_
          rw [if_neg h116] at H
          refine w_seq (p := [1, 0, 1, 0, 1, 1, 1, 1, 1, 1, 0, 1, 1]) (p0 := [1, 0, 1, 0, 1, 1, 1, 1, 1, 1, 0, 1, 1, 0]) (p1 := [1, 0, 1, 0, 1, 1, 1, 1, 1, 1, 0, 1, 1, 1]) (by kernel_rfl) ?_
          refine w_region (p := [1, 0, 1, 0, 1, 1, 1, 1, 1, 1, 0, 1, 1, 0]) (id := 9) (by kernel_rfl) ?_
          refine r_vals 0 2 [.bool (a0 == 93), .bool (a0 == 93)] (by kernel_rfl) (by kernel_rfl) ?_
          refine r_fin 2 (by kernel_rfl) ?_
          refine q_then ?_
          refine w_cond (p := [1, 0, 1, 0, 1, 1, 1, 1, 1, 1, 0, 1, 1, 1]) (p0 := [1, 0, 1, 0, 1, 1, 1, 1, 1, 1, 0, 1, 1, 1, 0]) (p1 := [1, 0, 1, 0, 1, 1, 1, 1, 1, 1, 0, 1, 1, 1, 1]) (c := (Operand.tmp 10)) (b := a0 == 93) (by kernel_rfl) (by kernel_rfl) ?_ ?_
          · intro h_
            have h117 : a0 = 93 := by simpa using h_
            clear h_
            rw [if_pos h117] at H
            refine w_skip (p := [1, 0, 1, 0, 1, 1, 1, 1, 1, 1, 0, 1, 1, 1, 0]) (by kernel_rfl) ?_
            refine q_then ?_
            refine w_into (class_spelling.j0F a0 (a0 == 93)) (by kernel_rfl) (fun u_ => ?_)
            exact class_spelling.j0.ok K a0 w r  HR  (a0 == 93) u_ w (Kp.refl No w)  H
          · intro h_
            have h117 : ¬ (a0 = 93) := by simpa using h_
            clear h_
            rw [if_neg h117] at H
            refine w_seq (p := [1, 0, 1, 0, 1, 1, 1, 1, 1, 1, 0, 1, 1, 1, 1]) (p0 := [1, 0, 1, 0, 1, 1, 1, 1, 1, 1, 0, 1, 1, 1, 1, 0]) (p1 := [1, 0, 1, 0, 1, 1, 1, 1, 1, 1, 0, 1, 1, 1, 1, 1]) (by kernel_rfl) ?_
            refine w_region (p := [1, 0, 1, 0, 1, 1, 1, 1, 1, 1, 0, 1, 1, 1, 1, 0]) (id := 10) (by kernel_rfl) ?_
            refine r_vals 0 2 [.bool (a0 == 45), .bool (a0 == 45)] (by kernel_rfl) (by kernel_rfl) ?_
            refine r_fin 2 (by kernel_rfl) ?_
            refine q_then ?_
            refine w_cond (p := [1, 0, 1, 0, 1, 1, 1, 1, 1, 1, 0, 1, 1, 1, 1, 1]) (p0 := [1, 0, 1, 0, 1, 1, 1, 1, 1, 1, 0, 1, 1, 1, 1, 1, 0]) (p1 := [1, 0, 1, 0, 1, 1, 1, 1, 1, 1, 0, 1, 1, 1, 1, 1, 1]) (c := (Operand.tmp 10)) (b := a0 == 45) (by kernel_rfl) (by kernel_rfl) ?_ ?_
            · intro h_
              have h118 : a0 = 45 := by simpa using h_
              clear h_
              rw [if_pos h118] at H
              refine w_skip (p := [1, 0, 1, 0, 1, 1, 1, 1, 1, 1, 0, 1, 1, 1, 1, 1, 0]) (by kernel_rfl) ?_
              refine q_then ?_
              refine w_into (class_spelling.j0F a0 (a0 == 45)) (by kernel_rfl) (fun u_ => ?_)
              exact class_spelling.j0.ok K a0 w r  HR  (a0 == 45) u_ w (Kp.refl No w)  H
            · intro h_
              have h118 : ¬ (a0 = 45) := by simpa using h_
              clear h_
              rw [if_neg h118] at H
              refine w_region (p := [1, 0, 1, 0, 1, 1, 1, 1, 1, 1, 0, 1, 1, 1, 1, 1, 1]) (id := 11) (by kernel_rfl) ?_
              refine r_vals 0 2 [.bool (a0 == 94), .bool (a0 == 94)] (by kernel_rfl) (by kernel_rfl) ?_
              refine r_fin 2 (by kernel_rfl) ?_
              refine q_then ?_
              refine w_into (class_spelling.j0F a0 (a0 == 94)) (by kernel_rfl) (fun u_ => ?_)
              exact class_spelling.j0.ok K a0 w r  HR  (a0 == 94) u_ w (Kp.refl No w)  H
/-! ### dowel/class.Text -/
def class_Text.F1 (A382 : Option Addr) (x381 : Nat) (c383 : Nat) (A240 : Option Addr) (t235 : List Tapi_Range) (c241 : Nat) (x384 : Int) (u_ : Nat → Value) : Array Value := #[u_ 0, u_ 1, u_ 2, .slice A382 x381 c383, u_ 4, u_ 5, u_ 6, u_ 7, u_ 8, u_ 9, u_ 10, u_ 11, u_ 12, u_ 13, u_ 14, u_ 15, .slice A240 t235.length c241, .int .i64 (t235.length : Int), .int .i64 x384, u_ 19, u_ 20, u_ 21, u_ 22, u_ 23, u_ 24, u_ 25, u_ 26, u_ 27, u_ 28, u_ 29, u_ 30, u_ 31, u_ 32, u_ 33, u_ 34, u_ 35, u_ 36, u_ 37, u_ 38, u_ 39, u_ 40, u_ 41, u_ 42, u_ 43, u_ 44, u_ 45, u_ 46, u_ 47, u_ 48, u_ 49, u_ 50]
def class_Text.F1_0 (A516 : Option Addr) (x515 : Nat) (c517 : Nat) (u_ : Nat → Value) : Array Value := #[u_ 0, u_ 1, u_ 2, .slice A516 x515 c517, u_ 4, u_ 5, u_ 6, u_ 7, u_ 8, u_ 9, u_ 10, u_ 11, u_ 12, u_ 13, u_ 14, u_ 15, u_ 16, u_ 17, u_ 18, u_ 19, u_ 20, u_ 21, u_ 22, u_ 23, u_ 24, u_ 25, u_ 26, u_ 27, u_ 28, u_ 29, u_ 30, u_ 31, u_ 32, u_ 33, u_ 34, u_ 35, u_ 36, u_ 37, u_ 38, u_ 39, u_ 40, u_ 41, u_ 42, u_ 43, u_ 44, u_ 45, u_ 46, u_ 47, u_ 48, u_ 49, u_ 50]
def class_Text.j2F (A467 : Option Addr) (x466 : List Int) (c468 : Nat) (b396 : Nat) (A240 : Option Addr) (t235 : List Tapi_Range) (c241 : Nat) (x384 : Int) (u_ : Nat → Value) : Array Value := #[u_ 0, u_ 1, u_ 2, .slice A467 x466.length c468, u_ 4, .pointer (some ⟨b396, 0, none⟩), u_ 6, u_ 7, u_ 8, u_ 9, u_ 10, u_ 11, u_ 12, u_ 13, u_ 14, u_ 15, .slice A240 t235.length c241, .int .i64 (t235.length : Int), .int .i64 x384, u_ 19, u_ 20, u_ 21, u_ 22, u_ 23, u_ 24, u_ 25, u_ 26, u_ 27, u_ 28, u_ 29, u_ 30, u_ 31, u_ 32, u_ 33, u_ 34, u_ 35, u_ 36, u_ 37, u_ 38, u_ 39, u_ 40, u_ 41, u_ 42, u_ 43, u_ 44, u_ 45, u_ 46, u_ 47, u_ 48, u_ 49, u_ 50]
def class_Text.j3F (A504 : Option Addr) (x503 : List Int) (c505 : Nat) (A240 : Option Addr) (t235 : List Tapi_Range) (c241 : Nat) (x384 : Int) (u_ : Nat → Value) : Array Value := #[u_ 0, u_ 1, u_ 2, .slice A504 x503.length c505, u_ 4, u_ 5, u_ 6, u_ 7, u_ 8, u_ 9, u_ 10, u_ 11, u_ 12, u_ 13, u_ 14, u_ 15, .slice A240 t235.length c241, .int .i64 (t235.length : Int), .int .i64 x384, u_ 19, u_ 20, u_ 21, u_ 22, u_ 23, u_ 24, u_ 25, u_ 26, u_ 27, u_ 28, u_ 29, u_ 30, u_ 31, u_ 32, u_ 33, u_ 34, u_ 35, u_ 36, u_ 37, u_ 38, u_ 39, u_ 40, u_ 41, u_ 42, u_ 43, u_ 44, u_ 45, u_ 46, u_ 47, u_ 48, u_ 49, u_ 50]
def class_Text.j3 (next1 : List Int → Nat → Int → Option (ByteArray)) (x384 : Int) (x503 : List Int) : Option (ByteArray) := next1 x503 x503.length (W (x384 + 1))
def class_Text.j2 (t235 : List Tapi_Range) (x384 : Int) (K : Nat) (next1 : List Int → Nat → Int → Option (ByteArray)) (x466 : List Int) : Option (ByteArray) := if (((rd zapi_Range t235 x384)).f1) > (((rd zapi_Range t235 x384)).f0) then ((class_spelling.f K (((rd zapi_Range t235 x384)).f1)).bind fun t477 => (if (x466.length + t477.size) * 2 ≤ 140737488355328 then (class_Text.j3 next1 x384 (x466 ++ (bytesI t477))) else none)) else (class_Text.j3 next1 x384 x466)
def class_Text.b1 (t235 : List Tapi_Range) (K : Nat) (next1 : List Int → Nat → Int → Option (ByteArray)) (brk1_0 : List Int → Nat → Option (ByteArray)) (x380 : List Int) (x381 : Nat) (x384 : Int) : Option (ByteArray) := if x384 < (t235.length : Int) then (if 0 ≤ x384 then ((class_spelling.f K (((rd zapi_Range t235 x384)).f0)).bind fun t410 => (if (x381 + t410.size) * 2 ≤ 140737488355328 then (if (W8 ((((rd zapi_Range t235 x384)).f1) - (((rd zapi_Range t235 x384)).f0))) > 1 then (if ((x380 ++ (bytesI t410)).length + 1) * 2 ≤ 140737488355328 then (class_Text.j2 t235 x384 K next1 ((x380 ++ (bytesI t410)) ++ ([45] : List Int))) else none) else (class_Text.j2 t235 x384 K next1 (x380 ++ (bytesI t410)))) else none)) else none) else (brk1_0 x380 x381)
def class_Text.l1 (t235 : List Tapi_Range) (K : Nat) (brk1_0 : List Int → Nat → Option (ByteArray)) : Nat → List Int → Nat → Int → Option (ByteArray)
  | 0, _, _, _ => none
  | n_ + 1, x380, x381, x384 => class_Text.b1 t235 K (class_Text.l1 t235 K brk1_0 n_) brk1_0 x380 x381 x384
def class_Text.j0F (b161 : Nat) (A226 : Option Addr) (x225 : Nat) (c227 : Nat) (u_ : Nat → Value) : Array Value := #[u_ 0, .pointer (some ⟨b161, 0, none⟩), u_ 2, .slice A226 x225 c227, u_ 4, u_ 5, u_ 6, u_ 7, u_ 8, u_ 9, u_ 10, u_ 11, u_ 12, u_ 13, u_ 14, u_ 15, u_ 16, u_ 17, u_ 18, u_ 19, u_ 20, u_ 21, u_ 22, u_ 23, u_ 24, u_ 25, u_ 26, u_ 27, u_ 28, u_ 29, u_ 30, u_ 31, u_ 32, u_ 33, u_ 34, u_ 35, u_ 36, u_ 37, u_ 38, u_ 39, u_ 40, u_ 41, u_ 42, u_ 43, u_ 44, u_ 45, u_ 46, u_ 47, u_ 48, u_ 49, u_ 50]
def class_Text.j0 (K : Nat) (y228 : Int) (y229 : Int) (y230 : Int) (y231 : Int) (x224 : List Int) (x225 : Nat) : Option (ByteArray) := (class_Ranges.f K (⟨y228, y229, y230, y231⟩ : Tapi_Class)).bind fun t235 => (class_Text.l1 t235 K (fun x514 x515 => if (x515 + 1) * 2 ≤ 140737488355328 then (some (strI (x514 ++ ([93] : List Int)))) else none) K x224 x225 0)
def class_Text.f (K : Nat) (a0 : Tapi_Class) : Option (ByteArray) := (class_Count.f K a0).bind fun t174 => (if t174 > 128 then ((class_Not.f K a0).bind fun t206 => (class_Text.j0 K t206.f0 t206.f1 t206.f2 t206.f3 (([91] : List Int) ++ ([94] : List Int)) ((([91] : List Int) ++ ([94] : List Int)).length))) else (class_Text.j0 K a0.f0 a0.f1 a0.f2 a0.f3 ([91] : List Int) 1))
def class_Text.R (r : ByteArray) (w : World) : Ending → World → Prop := fun e w' => e = .returned (.string r) ∧ Kp No w w'
set_option maxRecDepth 20000 in
set_option maxHeartbeats 4000000 in
theorem class_Text.j3.ok (K : Nat) (a0 : Tapi_Class) (w : World) (r : ByteArray) {Q : Exit → Act → World → Prop} (A240 : Option Addr) (t235 : List Tapi_Range) (c241 : Nat) (x384 : Int) (next1 : List Int → Nat → Int → Option (ByteArray)) (brk1_0 : List Int → Nat → Option (ByteArray)) (HR : ∀ a w', bodyPost Try.prog Try.f21 (class_Text.R r w) .ret a w' → Q .ret a w') (HN1 : ∀ (x380q : List Int) (x381q : Nat) (x384q : Int) (A382q : Option Addr) (c383q : Nat) (u377q : Nat → Value) (w378q : World) (k379q : Kp No w w378q) (ho388q : Ow w (kInt .u8 5) w378q A382q x381q c383q x380q) (ho389q : Ow w (Kapi_Range 44) w378q A240 t235.length c241 t235) (n390q : Dj (Ra A382q) (Ra A240)), next1 x380q x381q x384q = some r → Q .normal ⟨class_Text.F1 A382q x381q c383q A240 t235 c241 x384q u377q, []⟩ w378q) (HX1_0 : ∀ (x514q : List Int) (x515q : Nat) (A516q : Option Addr) (c517q : Nat) (u512q : Nat → Value) (w510q : World) (k511q : Kp No w w510q) (ho519q : Ow w (kInt .u8 5) w510q A516q x515q c517q x514q), brk1_0 x514q x515q = some r → Q (.exit 0) ⟨class_Text.F1_0 A516q x515q c517q u512q, []⟩ w510q) (x503 : List Int) (A504 : Option Addr) (c505 : Nat) (u501 : Nat → Value) (w499 : World) (k500 : Kp No w w499) (ho507 : Ow w (kInt .u8 5) w499 A504 x503.length c505 x503) (ho508 : Ow w (Kapi_Range 44) w499 A240 t235.length c241 t235) (n509 : Dj (Ra A504) (Ra A240)) (H : class_Text.j3 next1 x384 x503 = some r) : (Exit.then (fun a w => (cd Try.f21 [1, 1, 1, 0, 1, 0, 0, 1, 1, 1]).wp Try.prog Q a w) Q) .normal ⟨class_Text.j3F A504 x503 c505 A240 t235 c241 x384 u501, []⟩ w499 := by
  unfold class_Text.j3 at H
  refine q_then ?_
  refine w_region (p := [1, 1, 1, 0, 1, 0, 0, 1, 1, 1]) (id := 13) (by kernel_rfl) ?_
  refine r_vals 0 2 [.int .i64 (W (x384 + 1)), .int .i64 (W (x384 + 1))] (by kernel_rfl) (by kernel_rfl) ?_
  refine r_fin 2 (by kernel_rfl) ?_
  refine q_into (class_Text.F1 A504 x503.length c505 A240 t235 c241 (W (x384 + 1))) (by kernel_rfl) (fun u_ => ?_)
  exact HN1 x503 x503.length (W (x384 + 1)) A504 c505 u_ w499 k500 ho507 ho508 n509 H
set_option maxRecDepth 20000 in
set_option maxHeartbeats 4000000 in
theorem class_Text.j2.ok (K : Nat) (a0 : Tapi_Class) (w : World) (r : ByteArray) {Q : Exit → Act → World → Prop} (b396 : Nat) (A240 : Option Addr) (t235 : List Tapi_Range) (c241 : Nat) (x384 : Int) (next1 : List Int → Nat → Int → Option (ByteArray)) (brk1_0 : List Int → Nat → Option (ByteArray)) (HR : ∀ a w', bodyPost Try.prog Try.f21 (class_Text.R r w) .ret a w' → Q .ret a w') (HN1 : ∀ (x380q : List Int) (x381q : Nat) (x384q : Int) (A382q : Option Addr) (c383q : Nat) (u377q : Nat → Value) (w378q : World) (k379q : Kp No w w378q) (ho388q : Ow w (kInt .u8 5) w378q A382q x381q c383q x380q) (ho389q : Ow w (Kapi_Range 44) w378q A240 t235.length c241 t235) (n390q : Dj (Ra A382q) (Ra A240)), next1 x380q x381q x384q = some r → Q .normal ⟨class_Text.F1 A382q x381q c383q A240 t235 c241 x384q u377q, []⟩ w378q) (HX1_0 : ∀ (x514q : List Int) (x515q : Nat) (A516q : Option Addr) (c517q : Nat) (u512q : Nat → Value) (w510q : World) (k511q : Kp No w w510q) (ho519q : Ow w (kInt .u8 5) w510q A516q x515q c517q x514q), brk1_0 x514q x515q = some r → Q (.exit 0) ⟨class_Text.F1_0 A516q x515q c517q u512q, []⟩ w510q) (x466 : List Int) (A467 : Option Addr) (c468 : Nat) (u464 : Nat → Value) (w462 : World) (k463 : Kp No w w462) (hb470 : Blk w462 b396 #[.int .u8 (((rd zapi_Range t235 x384)).f0), .int .u8 (((rd zapi_Range t235 x384)).f1)] 44) (ghb470 : w.heap.size ≤ b396) (ho471 : Ow w (kInt .u8 5) w462 A467 x466.length c468 x466) (ho472 : Ow w (Kapi_Range 44) w462 A240 t235.length c241 t235) (n473 : Dj (One b396) (Ra A467)) (n474 : Dj (One b396) (Ra A240)) (n475 : Dj (Ra A467) (Ra A240)) (H : class_Text.j2 t235 x384 K next1 x466 = some r) : (cd Try.f21 [1, 1, 1, 0, 1, 0, 0, 1, 1, 0, 0, 1, 1, 1]).wp Try.prog (Exit.inBlock 1 (Exit.then (fun a w => (cd Try.f21 [1, 1, 1, 0, 1, 0, 0, 1, 1, 1]).wp Try.prog Q a w) Q)) ⟨class_Text.j2F A467 x466 c468 b396 A240 t235 c241 x384 u464, []⟩ w462 := by
  unfold class_Text.j2 at H
  refine w_seq (p := [1, 1, 1, 0, 1, 0, 0, 1, 1, 0, 0, 1, 1, 1]) (p0 := [1, 1, 1, 0, 1, 0, 0, 1, 1, 0, 0, 1, 1, 1, 0]) (p1 := [1, 1, 1, 0, 1, 0, 0, 1, 1, 0, 0, 1, 1, 1, 1]) (by kernel_rfl) ?_
  refine w_region (p := [1, 1, 1, 0, 1, 0, 0, 1, 1, 0, 0, 1, 1, 1, 0]) (id := 11) (by kernel_rfl) ?_
  refine r_vals 0 1 [.pointer (some ⟨b396, 1, none⟩)] (by kernel_rfl) (by kernel_rfl) ?_
  refine r_do 1 (by kernel_rfl) (og_load (T := 5) (x := (Operand.tmp 36)) (b := b396) (off := 1) (.int .u8 (((rd zapi_Range t235 x384)).f1)) (by kernel_rfl) (by kernel_rfl) hb470 (by kernel_rfl) ?_) 
  refine r_vals 2 3 [.pointer (some ⟨b396, 0, none⟩)] (by kernel_rfl) (by kernel_rfl) ?_
  refine r_do 3 (by kernel_rfl) (og_load (T := 5) (x := (Operand.tmp 38)) (b := b396) (off := 0) (.int .u8 (((rd zapi_Range t235 x384)).f0)) (by kernel_rfl) (by kernel_rfl) hb470 (by kernel_rfl) ?_) 
  refine r_vals 4 5 [.bool (decide ((((rd zapi_Range t235 x384)).f1) > (((rd zapi_Range t235 x384)).f0)))] (by kernel_rfl) (by kernel_rfl) ?_
  refine r_fin 5 (by kernel_rfl) ?_
  refine q_then ?_
  refine w_cond (p := [1, 1, 1, 0, 1, 0, 0, 1, 1, 0, 0, 1, 1, 1, 1]) (p0 := [1, 1, 1, 0, 1, 0, 0, 1, 1, 0, 0, 1, 1, 1, 1, 0]) (p1 := [1, 1, 1, 0, 1, 0, 0, 1, 1, 0, 0, 1, 1, 1, 1, 1]) (c := (Operand.tmp 40)) (b := decide ((((rd zapi_Range t235 x384)).f1) > (((rd zapi_Range t235 x384)).f0))) (by kernel_rfl) (by kernel_rfl) ?_ ?_
  · intro h_
    have h476 : (((rd zapi_Range t235 x384)).f1) > (((rd zapi_Range t235 x384)).f0) := by simpa using h_
    clear h_
    rw [if_pos h476] at H
    refine w_region (p := [1, 1, 1, 0, 1, 0, 0, 1, 1, 0, 0, 1, 1, 1, 1, 0]) (id := 12) (by kernel_rfl) ?_
    refine r_vals 0 2 [.slice A467 x466.length c468, .pointer (some ⟨b396, 1, none⟩)] (by kernel_rfl) (by kernel_rfl) ?_
    refine r_do 2 (by kernel_rfl) (og_load (T := 5) (x := (Operand.tmp 42)) (b := b396) (off := 1) (.int .u8 (((rd zapi_Range t235 x384)).f1)) (by kernel_rfl) (by kernel_rfl) hb470 (by kernel_rfl) ?_) 
    obtain ⟨t477, ht478, H⟩ := Option.bind_eq_some_iff.1 H
    refine r_do 3 (by kernel_rfl) (og_call (g := 61) (av := #[.int .u8 (((rd zapi_Range t235 x384)).f1)]) (by kernel_rfl) ?_) 
    refine (class_spelling.ok K (((rd zapi_Range t235 x384)).f1) w462 t477 ht478).mono ?_
    rintro e w479 ⟨rfl, k480⟩
    refine ⟨_, rfl, ?_⟩
    have k481 := Kp.trans k463 k480 (fun _ h => h.elim)
    have hb482 := Blk.kp hb470 k480 id
    have ho483 := Ow.kpNo ho471 k480
    have ho484 := Ow.kpNo ho472 k480
    refine p_split ((x466.length + t477.size) * 2 ≤ 140737488355328) (fun h485 => ?_) (fun h485 => ?_)
    · rw [if_pos h485] at H
      refine r_do 4 (by kernel_rfl) (ow_appendS (w0 := w) (T := 110) (U := 9) (e := 5) (n := x466.length) (c := c468) (sl := (Operand.tmp 41)) (x := (Operand.tmp 44)) (A := A467) (xs := x466) (s := t477) (by kernel_rfl) (by kernel_rfl) (by kernel_rfl) (by kernel_rfl) (by kernel_rfl) ho483 (by kernel_rfl) h485 (Kp.size k481) ?_) 
      intro A490 c491 w486 ho488 k487 hn489 ha493
      have n494 := blk_dj_app hb482 n473 hn489
      have n495 := Ow.dj_app ho484 (Dj.symm n475) hn489
      clear hn489 ha493
      have k496 := Kp.own ho483 k481 k487
      have hb497 := Blk.kpOne hb482 k487 n473
      have ho498 := Ow.kp ho484 k487 (Dj.symm n475)
      refine r_vals 5 6 [.slice A490 ((x466 ++ (bytesI t477)).length) c491] (by kernel_rfl) (by kernel_rfl) ?_
      refine r_fin 6 (by kernel_rfl) ?_
      refine q_in ?_
      refine q_into (class_Text.j3F A490 (x466 ++ (bytesI t477)) c491 A240 t235 c241 x384) (by kernel_rfl) (fun u_ => ?_)
      exact class_Text.j3.ok K a0 w r A240 t235 c241 x384 next1 brk1_0 HR HN1 HX1_0 (x466 ++ (bytesI t477)) A490 c491 u_ w486 k496 ho488 ho498 (Dj.symm n495) H
    · rw [if_neg h485] at H
      cases H
  · intro h_
    have h476 : ¬ ((((rd zapi_Range t235 x384)).f1) > (((rd zapi_Range t235 x384)).f0)) := by simpa using h_
    clear h_
    rw [if_neg h476] at H
    refine w_skip (p := [1, 1, 1, 0, 1, 0, 0, 1, 1, 0, 0, 1, 1, 1, 1, 1]) (by kernel_rfl) ?_
    refine q_in ?_
    refine q_into (class_Text.j3F A467 x466 c468 A240 t235 c241 x384) (by kernel_rfl) (fun u_ => ?_)
    exact class_Text.j3.ok K a0 w r A240 t235 c241 x384 next1 brk1_0 HR HN1 HX1_0 x466 A467 c468 u_ w462 k463 ho471 ho472 n475 H
set_option maxRecDepth 20000 in
set_option maxHeartbeats 4000000 in
theorem class_Text.b1.ok (K : Nat) (a0 : Tapi_Class) (w : World) (r : ByteArray) (A240 : Option Addr) (t235 : List Tapi_Range) (c241 : Nat) {Q : Exit → Act → World → Prop} (HR : ∀ a w', bodyPost Try.prog Try.f21 (class_Text.R r w) .ret a w' → Q .ret a w') {next1 : List Int → Nat → Int → Option (ByteArray)} {brk1_0 : List Int → Nat → Option (ByteArray)} (HN1 : ∀ (x380q : List Int) (x381q : Nat) (x384q : Int) (A382q : Option Addr) (c383q : Nat) (u377q : Nat → Value) (w378q : World) (k379q : Kp No w w378q) (ho388q : Ow w (kInt .u8 5) w378q A382q x381q c383q x380q) (ho389q : Ow w (Kapi_Range 44) w378q A240 t235.length c241 t235) (n390q : Dj (Ra A382q) (Ra A240)), next1 x380q x381q x384q = some r → Q .normal ⟨class_Text.F1 A382q x381q c383q A240 t235 c241 x384q u377q, []⟩ w378q) (HX1_0 : ∀ (x514q : List Int) (x515q : Nat) (A516q : Option Addr) (c517q : Nat) (u512q : Nat → Value) (w510q : World) (k511q : Kp No w w510q) (ho519q : Ow w (kInt .u8 5) w510q A516q x515q c517q x514q), brk1_0 x514q x515q = some r → Q (.exit 0) ⟨class_Text.F1_0 A516q x515q c517q u512q, []⟩ w510q) (x380 : List Int) (x381 : Nat) (x384 : Int) (A382 : Option Addr) (c383 : Nat) (u377 : Nat → Value) (w378 : World) (k379 : Kp No w w378) (ho388 : Ow w (kInt .u8 5) w378 A382 x381 c383 x380) (ho389 : Ow w (Kapi_Range 44) w378 A240 t235.length c241 t235) (n390 : Dj (Ra A382) (Ra A240)) (H : class_Text.b1 t235 K next1 brk1_0 x380 x381 x384 = some r) : (cd Try.f21 [1, 1, 1, 0, 1, 0, 0]).wp Try.prog Q ⟨class_Text.F1 A382 x381 c383 A240 t235 c241 x384 u377, []⟩ w378 := by
  unfold class_Text.b1 at H
  refine w_seq (p := [1, 1, 1, 0, 1, 0, 0]) (p0 := [1, 1, 1, 0, 1, 0, 0, 0]) (p1 := [1, 1, 1, 0, 1, 0, 0, 1]) (by kernel_rfl) ?_
  refine w_region (p := [1, 1, 1, 0, 1, 0, 0, 0]) (id := 6) (by kernel_rfl) ?_
  refine r_vals 0 1 [.bool (decide (x384 < (t235.length : Int)))] (by kernel_rfl) (by kernel_rfl) ?_
  refine r_fin 1 (by kernel_rfl) ?_
  refine q_then ?_
  refine w_seq (p := [1, 1, 1, 0, 1, 0, 0, 1]) (p0 := [1, 1, 1, 0, 1, 0, 0, 1, 0]) (p1 := [1, 1, 1, 0, 1, 0, 0, 1, 1]) (by kernel_rfl) ?_
  refine w_cond (p := [1, 1, 1, 0, 1, 0, 0, 1, 0]) (p0 := [1, 1, 1, 0, 1, 0, 0, 1, 0, 0]) (p1 := [1, 1, 1, 0, 1, 0, 0, 1, 0, 1]) (c := (Operand.tmp 19)) (b := decide (x384 < (t235.length : Int))) (by kernel_rfl) (by kernel_rfl) ?_ ?_
  · intro h_
    have h391 : x384 < (t235.length : Int) := by simpa using h_
    clear h_
    rw [if_pos h391] at H
    refine w_skip (p := [1, 1, 1, 0, 1, 0, 0, 1, 0, 0]) (by kernel_rfl) ?_
    refine q_then ?_
    refine w_seq (p := [1, 1, 1, 0, 1, 0, 0, 1, 1]) (p0 := [1, 1, 1, 0, 1, 0, 0, 1, 1, 0]) (p1 := [1, 1, 1, 0, 1, 0, 0, 1, 1, 1]) (by kernel_rfl) ?_
    refine w_block (p := [1, 1, 1, 0, 1, 0, 0, 1, 1, 0]) (p0 := [1, 1, 1, 0, 1, 0, 0, 1, 1, 0, 0]) (id := 1) (by kernel_rfl) ?_
    refine w_seq (p := [1, 1, 1, 0, 1, 0, 0, 1, 1, 0, 0]) (p0 := [1, 1, 1, 0, 1, 0, 0, 1, 1, 0, 0, 0]) (p1 := [1, 1, 1, 0, 1, 0, 0, 1, 1, 0, 0, 1]) (by kernel_rfl) ?_
    refine w_region (p := [1, 1, 1, 0, 1, 0, 0, 1, 1, 0, 0, 0]) (id := 7) (by kernel_rfl) ?_
    refine p_split (0 ≤ x384) (fun h392 => ?_) (fun h392 => ?_)
    · rw [if_pos h392] at H
      refine r_do 0 (by kernel_rfl) (ow_index (K := (Kapi_Range 44)) (T := 38) (e := 44) (sz := 2) (x := (Operand.tmp 16)) (y := (Operand.tmp 18)) (k := .i64) (n := t235.length) (c := c241) (A := A240) (xs := t235) (iv := x384) (by kernel_rfl) (by kernel_rfl) (by kernel_rfl) (by kernel_rfl) h392 h391 (Ow.rdNo ho389) (Ow.len ho389) (by kernel_rfl) ?_) 
      refine r_do 1 (by kernel_rfl) (ow_loadE (K := (Kapi_Range 44)) (T := 44) (x := (Operand.tmp 20)) (off := 0) (A := A240) (n := t235.length) (xs := t235) (iv := x384) zapi_Range (.agg #[.int .u8 (((rd zapi_Range t235 x384)).f0), .int .u8 (((rd zapi_Range t235 x384)).f1)]) (by kernel_rfl) (by kernel_rfl) (Ow.rdNo ho389) (Ow.len ho389) h392 h391 (by kernel_rfl) ?_) 
      refine r_do 2 (by kernel_rfl) (og_alloc (T := 44) (cs := #[.int .u8 0, .int .u8 0]) (by kernel_rfl) (by kernel_rfl) ?_) 
      intro b396 w393 e397 hb395 k394
      have n398 := Ow.dj_block ho388 e397
      have n399 := Ow.dj_block ho389 e397
      have g400 : w.heap.size ≤ b396 := by rw [e397]; exact Kp.size k379
      clear e397
      have k401 := Kp.trans k379 k394 (fun _ h => h.elim)
      have ho402 := Ow.kpNo ho388 k394
      have ho403 := Ow.kpNo ho389 k394
      refine r_do 3 (by kernel_rfl) (og_store (T := 44) (x := (Operand.tmp 5)) (y := (Operand.tmp 21)) (b := b396) (off := 0) (.agg #[.int .u8 (((rd zapi_Range t235 x384)).f0), .int .u8 (((rd zapi_Range t235 x384)).f1)]) (by kernel_rfl) (by kernel_rfl) (by kernel_rfl) hb395 (cs' := #[.int .u8 (((rd zapi_Range t235 x384)).f0), .int .u8 (((rd zapi_Range t235 x384)).f1)]) (by kernel_rfl) ?_) 
      intro w405 hb404 k406 _
      have k407 := Kp.trans k401 k406 (fun x hx => .inr (by rw [show x = _ from hx]; exact g400))
      have ho408 := Ow.kp ho402 k406 n398
      have ho409 := Ow.kp ho403 k406 n399
      refine r_fin 4 (by kernel_rfl) ?_
      refine q_then ?_
      refine w_seq (p := [1, 1, 1, 0, 1, 0, 0, 1, 1, 0, 0, 1]) (p0 := [1, 1, 1, 0, 1, 0, 0, 1, 1, 0, 0, 1, 0]) (p1 := [1, 1, 1, 0, 1, 0, 0, 1, 1, 0, 0, 1, 1]) (by kernel_rfl) ?_
      refine w_region (p := [1, 1, 1, 0, 1, 0, 0, 1, 1, 0, 0, 1, 0]) (id := 8) (by kernel_rfl) ?_
      refine r_vals 0 2 [.slice A382 x381 c383, .pointer (some ⟨b396, 0, none⟩)] (by kernel_rfl) (by kernel_rfl) ?_
      refine r_do 2 (by kernel_rfl) (og_load (T := 5) (x := (Operand.tmp 23)) (b := b396) (off := 0) (.int .u8 (((rd zapi_Range t235 x384)).f0)) (by kernel_rfl) (by kernel_rfl) hb404 (by kernel_rfl) ?_) 
      obtain ⟨t410, ht411, H⟩ := Option.bind_eq_some_iff.1 H
      refine r_do 3 (by kernel_rfl) (og_call (g := 61) (av := #[.int .u8 (((rd zapi_Range t235 x384)).f0)]) (by kernel_rfl) ?_) 
      refine (class_spelling.ok K (((rd zapi_Range t235 x384)).f0) w405 t410 ht411).mono ?_
      rintro e w412 ⟨rfl, k413⟩
      refine ⟨_, rfl, ?_⟩
      have k414 := Kp.trans k407 k413 (fun _ h => h.elim)
      have hb415 := Blk.kp hb404 k413 id
      have ho416 := Ow.kpNo ho408 k413
      have ho417 := Ow.kpNo ho409 k413
      refine p_split ((x381 + t410.size) * 2 ≤ 140737488355328) (fun h418 => ?_) (fun h418 => ?_)
      · rw [if_pos h418] at H
        refine r_do 4 (by kernel_rfl) (ow_appendS (w0 := w) (T := 110) (U := 9) (e := 5) (n := x381) (c := c383) (sl := (Operand.tmp 22)) (x := (Operand.tmp 25)) (A := A382) (xs := x380) (s := t410) (by kernel_rfl) (by kernel_rfl) (by kernel_rfl) (by kernel_rfl) (by kernel_rfl) ho416 (by kernel_rfl) h418 (Kp.size k414) ?_) 
        intro A423 c424 w419 ho421 k420 hn422 ha426
        have n427 := blk_dj_app hb415 (Dj.symm n398) hn422
        have n428 := Ow.dj_app ho417 (Dj.symm n390) hn422
        clear hn422 ha426
        have k429 := Kp.own ho416 k414 k420
        have hb430 := Blk.kpOne hb415 k420 (Dj.symm n398)
        have ho431 := Ow.kp ho417 k420 (Dj.symm n390)
        refine r_vals 5 6 [.slice A423 ((x380 ++ (bytesI t410)).length) c424] (by kernel_rfl) (by kernel_rfl) ?_
        refine r_fin 6 (by kernel_rfl) ?_
        refine q_then ?_
        refine w_seq (p := [1, 1, 1, 0, 1, 0, 0, 1, 1, 0, 0, 1, 1]) (p0 := [1, 1, 1, 0, 1, 0, 0, 1, 1, 0, 0, 1, 1, 0]) (p1 := [1, 1, 1, 0, 1, 0, 0, 1, 1, 0, 0, 1, 1, 1]) (by kernel_rfl) ?_
        refine w_seq (p := [1, 1, 1, 0, 1, 0, 0, 1, 1, 0, 0, 1, 1, 0]) (p0 := [1, 1, 1, 0, 1, 0, 0, 1, 1, 0, 0, 1, 1, 0, 0]) (p1 := [1, 1, 1, 0, 1, 0, 0, 1, 1, 0, 0, 1, 1, 0, 1]) (by kernel_rfl) ?_
        refine w_region (p := [1, 1, 1, 0, 1, 0, 0, 1, 1, 0, 0, 1, 1, 0, 0]) (id := 9) (by kernel_rfl) ?_
        refine r_vals 0 1 [.pointer (some ⟨b396, 1, none⟩)] (by kernel_rfl) (by kernel_rfl) ?_
        refine r_do 1 (by kernel_rfl) (og_load (T := 5) (x := (Operand.tmp 27)) (b := b396) (off := 1) (.int .u8 (((rd zapi_Range t235 x384)).f1)) (by kernel_rfl) (by kernel_rfl) hb430 (by kernel_rfl) ?_) 
        refine r_vals 2 3 [.pointer (some ⟨b396, 0, none⟩)] (by kernel_rfl) (by kernel_rfl) ?_
        refine r_do 3 (by kernel_rfl) (og_load (T := 5) (x := (Operand.tmp 29)) (b := b396) (off := 0) (.int .u8 (((rd zapi_Range t235 x384)).f0)) (by kernel_rfl) (by kernel_rfl) hb430 (by kernel_rfl) ?_) 
        refine r_vals 4 6 [.int .u8 (W8 ((((rd zapi_Range t235 x384)).f1) - (((rd zapi_Range t235 x384)).f0))), .bool (decide ((W8 ((((rd zapi_Range t235 x384)).f1) - (((rd zapi_Range t235 x384)).f0))) > 1))] (by kernel_rfl) (by kernel_rfl) ?_
        refine r_fin 6 (by kernel_rfl) ?_
        refine q_then ?_
        refine w_cond (p := [1, 1, 1, 0, 1, 0, 0, 1, 1, 0, 0, 1, 1, 0, 1]) (p0 := [1, 1, 1, 0, 1, 0, 0, 1, 1, 0, 0, 1, 1, 0, 1, 0]) (p1 := [1, 1, 1, 0, 1, 0, 0, 1, 1, 0, 0, 1, 1, 0, 1, 1]) (c := (Operand.tmp 32)) (b := decide ((W8 ((((rd zapi_Range t235 x384)).f1) - (((rd zapi_Range t235 x384)).f0))) > 1)) (by kernel_rfl) (by kernel_rfl) ?_ ?_
        · intro h_
          have h432 : (W8 ((((rd zapi_Range t235 x384)).f1) - (((rd zapi_Range t235 x384)).f0))) > 1 := by simpa using h_
          clear h_
          rw [if_pos h432] at H
          refine w_region (p := [1, 1, 1, 0, 1, 0, 0, 1, 1, 0, 0, 1, 1, 0, 1, 0]) (id := 10) (by kernel_rfl) ?_
          refine r_vals 0 1 [.slice A423 ((x380 ++ (bytesI t410)).length) c424] (by kernel_rfl) (by kernel_rfl) ?_
          refine r_do 1 (by kernel_rfl) (ow_lit (K := (kInt .u8 5)) (w0 := w) (T := 110) (n := 1) (e := 5) (ps := #[(0, (Operand.const (Value.int IntKind.u8 45)))]) (cs := #[.int .u8 45]) (parts := [(0, .int .u8 45)]) ([45] : List Int) (by kernel_rfl) (by kernel_rfl) (by kernel_rfl) (by kernel_rfl) rfl rfl (by kernel_rfl) k429 ?_) 
          intro b436 w433 e437 ho435 k434
          have n439 := blk_dj_row hb430 e437
          have n440 := Ow.dj_row ho431 e437
          have n441 := Ow.dj_row ho421 e437
          clear e437
          have k442 := Kp.trans k429 k434 (fun _ h => h.elim)
          have hb443 := Blk.kp hb430 k434 id
          have ho444 := Ow.kpNo ho431 k434
          have ho445 := Ow.kpNo ho421 k434
          refine p_split (((x380 ++ (bytesI t410)).length + 1) * 2 ≤ 140737488355328) (fun h446 => ?_) (fun h446 => ?_)
          · rw [if_pos h446] at H
            refine r_do 2 (by kernel_rfl) (ow_append2 (K := (kInt .u8 5)) (w0 := w) (T := 110) (n := ((x380 ++ (bytesI t410)).length)) (c := c424) (m := 1) (d := 1) (s := (Operand.tmp 33)) (x := (Operand.tmp 34)) (A := A423) (D := (some ⟨b436, 0, none⟩)) (xs := (x380 ++ (bytesI t410))) (ys := ([45] : List Int)) (.int .u8 0) 1 (by kernel_rfl) (by kernel_rfl) (by kernel_rfl) (by kernel_rfl) (by kernel_rfl) ho445 (by kernel_rfl) (Ow.len ho435) (Ow.rdNo ho435) h446 k442 ?_) 
            intro A451 c452 w447 ho449 k448 hn450 ha454
            have n455 := blk_dj_app hb443 n427 hn450
            have n456 := Ow.dj_app ho444 n428 hn450
            have n457 := Ow.dj_app ho435 (Dj.symm n441) hn450
            clear hn450 ha454
            have k458 := Kp.own ho445 k442 k448
            have hb459 := Blk.kpOne hb443 k448 n427
            have ho460 := Ow.kp ho444 k448 n428
            have ho461 := Ow.kp ho435 k448 (Dj.symm n441)
            refine r_vals 3 4 [.slice A451 (((x380 ++ (bytesI t410)) ++ ([45] : List Int)).length) c452] (by kernel_rfl) (by kernel_rfl) ?_
            refine r_fin 4 (by kernel_rfl) ?_
            refine q_then ?_
            refine w_into (class_Text.j2F A451 ((x380 ++ (bytesI t410)) ++ ([45] : List Int)) c452 b396 A240 t235 c241 x384) (by kernel_rfl) (fun u_ => ?_)
            exact class_Text.j2.ok K a0 w r b396 A240 t235 c241 x384 next1 brk1_0 HR HN1 HX1_0 ((x380 ++ (bytesI t410)) ++ ([45] : List Int)) A451 c452 u_ w447 k458 hb459 g400 ho449 ho460 n455 (Dj.symm n399) (Dj.symm n456) H
          · rw [if_neg h446] at H
            cases H
        · intro h_
          have h432 : ¬ ((W8 ((((rd zapi_Range t235 x384)).f1) - (((rd zapi_Range t235 x384)).f0))) > 1) := by simpa using h_
          clear h_
          rw [if_neg h432] at H
          refine w_skip (p := [1, 1, 1, 0, 1, 0, 0, 1, 1, 0, 0, 1, 1, 0, 1, 1]) (by kernel_rfl) ?_
          refine q_then ?_
          refine w_into (class_Text.j2F A423 (x380 ++ (bytesI t410)) c424 b396 A240 t235 c241 x384) (by kernel_rfl) (fun u_ => ?_)
          exact class_Text.j2.ok K a0 w r b396 A240 t235 c241 x384 next1 brk1_0 HR HN1 HX1_0 (x380 ++ (bytesI t410)) A423 c424 u_ w419 k429 hb430 g400 ho421 ho431 n427 (Dj.symm n399) (Dj.symm n428) H
      · rw [if_neg h418] at H
        cases H
    · rw [if_neg h392] at H
      cases H
  · intro h_
    have h391 : ¬ (x384 < (t235.length : Int)) := by simpa using h_
    clear h_
    rw [if_neg h391] at H
    refine w_exit (p := [1, 1, 1, 0, 1, 0, 0, 1, 0, 1]) (id := 0) (by kernel_rfl) ?_
    refine q_then_x ?_
    refine q_into (class_Text.F1_0 A382 x381 c383) (by kernel_rfl) (fun u_ => ?_)
    exact HX1_0 x380 x381 A382 c383 u_ w378 k379 ho388 H
set_option maxRecDepth 20000 in
set_option maxHeartbeats 4000000 in
theorem class_Text.l1.ok (K : Nat) (a0 : Tapi_Class) (w : World) (r : ByteArray) (A240 : Option Addr) (t235 : List Tapi_Range) (c241 : Nat) {Q : Exit → Act → World → Prop} (HR : ∀ a w', bodyPost Try.prog Try.f21 (class_Text.R r w) .ret a w' → Q .ret a w') {brk1_0 : List Int → Nat → Option (ByteArray)} (HX1_0 : ∀ (x514q : List Int) (x515q : Nat) (A516q : Option Addr) (c517q : Nat) (u512q : Nat → Value) (w510q : World) (k511q : Kp No w w510q) (ho519q : Ow w (kInt .u8 5) w510q A516q x515q c517q x514q), brk1_0 x514q x515q = some r → Q (.exit 0) ⟨class_Text.F1_0 A516q x515q c517q u512q, []⟩ w510q) : ∀ (n_ : Nat) (x380 : List Int) (x381 : Nat) (x384 : Int) (A382 : Option Addr) (c383 : Nat) (u377 : Nat → Value) (w378 : World) (k379 : Kp No w w378) (ho388 : Ow w (kInt .u8 5) w378 A382 x381 c383 x380) (ho389 : Ow w (Kapi_Range 44) w378 A240 t235.length c241 t235) (n390 : Dj (Ra A382) (Ra A240)) (H : class_Text.l1 t235 K brk1_0 n_ x380 x381 x384 = some r), Code.rounds Try.prog (cd Try.f21 [1, 1, 1, 0, 1, 0, 0]) Q n_ ⟨class_Text.F1 A382 x381 c383 A240 t235 c241 x384 u377, []⟩ w378
  | 0, _, _, _, _, _, _, _, _, _, _, _, H => by cases H
  | n_ + 1, x380, x381, x384, A382, c383, u377, w378, k379, ho388, ho389, n390, H =>
    class_Text.b1.ok K a0 w r A240 t235 c241 (Q := Exit.then (Code.rounds Try.prog (cd Try.f21 [1, 1, 1, 0, 1, 0, 0]) Q n_) Q) (fun a w' h_ => q_then_r (HR a w' h_)) (fun x0_ x1_ x2_ x3_ x4_ x5_ x6_ x7_ x8_ x9_ x10_ h_ => class_Text.l1.ok K a0 w r A240 t235 c241 HR HX1_0 n_ x0_ x1_ x2_ x3_ x4_ x5_ x6_ x7_ x8_ x9_ x10_ h_) (fun x0_ x1_ x2_ x3_ x4_ x5_ x6_ x7_ h_ => q_then_x (HX1_0 x0_ x1_ x2_ x3_ x4_ x5_ x6_ x7_ h_)) x380 x381 x384 A382 c383 u377 w378 k379 ho388 ho389 n390 H
set_option maxRecDepth 20000 in
set_option maxHeartbeats 4000000 in
theorem class_Text.j0.ok (K : Nat) (a0 : Tapi_Class) (w : World) (r : ByteArray) {Q : Exit → Act → World → Prop} (b161 : Nat) (HR : ∀ a w', bodyPost Try.prog Try.f21 (class_Text.R r w) .ret a w' → Q .ret a w')  (x224 : List Int) (x225 : Nat) (y228 : Int) (y229 : Int) (y230 : Int) (y231 : Int) (A226 : Option Addr) (c227 : Nat) (u222 : Nat → Value) (w220 : World) (k221 : Kp No w w220) (hb232 : Blk w220 b161 #[.int .u64 y228, .int .u64 y229, .int .u64 y230, .int .u64 y231] 37) (ghb232 : w.heap.size ≤ b161) (ho233 : Ow w (kInt .u8 5) w220 A226 x225 c227 x224) (n234 : Dj (One b161) (Ra A226)) (H : class_Text.j0 K y228 y229 y230 y231 x224 x225 = some r) : (cd Try.f21 [1, 1, 1]).wp Try.prog Q ⟨class_Text.j0F b161 A226 x225 c227 u222, []⟩ w220 := by
  unfold class_Text.j0 at H
  refine w_seq (p := [1, 1, 1]) (p0 := [1, 1, 1, 0]) (p1 := [1, 1, 1, 1]) (by kernel_rfl) ?_
  refine w_seq (p := [1, 1, 1, 0]) (p0 := [1, 1, 1, 0, 0]) (p1 := [1, 1, 1, 0, 1]) (by kernel_rfl) ?_
  refine w_region (p := [1, 1, 1, 0, 0]) (id := 5) (by kernel_rfl) ?_
  refine r_do 0 (by kernel_rfl) (og_load (T := 37) (x := (Operand.tmp 1)) (b := b161) (off := 0) (.agg #[.int .u64 y228, .int .u64 y229, .int .u64 y230, .int .u64 y231]) (by kernel_rfl) (by kernel_rfl) hb232 (by kernel_rfl) ?_) 
  obtain ⟨t235, ht236, H⟩ := Option.bind_eq_some_iff.1 H
  refine r_do 1 (by kernel_rfl) (og_call (g := 18) (av := #[.agg #[.int .u64 y228, .int .u64 y229, .int .u64 y230, .int .u64 y231]]) (by kernel_rfl) ?_) 
  refine (class_Ranges.ok K (⟨y228, y229, y230, y231⟩ : Tapi_Class) w220 t235 ht236).mono ?_
  rintro e w237 ⟨A240, n243, c241, rfl, k238, ho244⟩
  obtain rfl := ho244.len
  refine ⟨_, rfl, ?_⟩
  have n245 := blk_dj_call hb232 ho244
  have n246 := Ow.dj_call ho233 ho244
  have ho242 := Ow.base ho244 k221
  have k247 := Kp.trans k221 k238 (fun _ h => h.elim)
  have hb248 := Blk.kp hb232 k238 id
  have ho249 := Ow.kpNo ho233 k238
  refine r_vals 2 4 [.int .i64 (t235.length : Int), .int .i64 0] (by kernel_rfl) (by kernel_rfl) ?_
  refine r_fin 4 (by kernel_rfl) ?_
  refine q_then ?_
  refine w_block (p := [1, 1, 1, 0, 1]) (p0 := [1, 1, 1, 0, 1, 0]) (id := 0) (by kernel_rfl) ?_
  refine w_into (class_Text.F1 A226 x225 c227 A240 t235 c241 0) (by kernel_rfl) (fun u_ => ?_)
  refine w_loop (p := [1, 1, 1, 0, 1, 0]) (p0 := [1, 1, 1, 0, 1, 0, 0]) K (by kernel_rfl) ?_
  refine class_Text.l1.ok K a0 w r A240 t235 c241 (fun a w' h_ => q_in_r (q_then_r (HR a w' h_))) ?_ K x224 x225 0 A226 c227 u_ w237 k247 ho249 ho242 n246 H
  intro x514 x515 A516 c517 u512 w510 k511 ho519 H
  try dsimp only at H
  refine q_in_hit ?_
  refine q_then ?_
  refine w_seq (p := [1, 1, 1, 1]) (p0 := [1, 1, 1, 1, 0]) (p1 := [1, 1, 1, 1, 1]) (by kernel_rfl) ?_
  refine w_region (p := [1, 1, 1, 1, 0]) (id := 14) (by kernel_rfl) ?_
  refine r_vals 0 1 [.slice A516 x515 c517] (by kernel_rfl) (by kernel_rfl) ?_
  refine r_do 1 (by kernel_rfl) (ow_lit (K := (kInt .u8 5)) (w0 := w) (T := 110) (n := 1) (e := 5) (ps := #[(0, (Operand.const (Value.int IntKind.u8 93)))]) (cs := #[.int .u8 93]) (parts := [(0, .int .u8 93)]) ([93] : List Int) (by kernel_rfl) (by kernel_rfl) (by kernel_rfl) (by kernel_rfl) rfl rfl (by kernel_rfl) k511 ?_) 
  intro b523 w520 e524 ho522 k521
  have n526 := Ow.dj_row ho519 e524
  clear e524
  have k527 := Kp.trans k511 k521 (fun _ h => h.elim)
  have ho528 := Ow.kpNo ho519 k521
  refine p_split ((x515 + 1) * 2 ≤ 140737488355328) (fun h529 => ?_) (fun h529 => ?_)
  · rw [if_pos h529] at H
    refine r_do 2 (by kernel_rfl) (ow_append2 (K := (kInt .u8 5)) (w0 := w) (T := 110) (n := x515) (c := c517) (m := 1) (d := 1) (s := (Operand.tmp 47)) (x := (Operand.tmp 48)) (A := A516) (D := (some ⟨b523, 0, none⟩)) (xs := x514) (ys := ([93] : List Int)) (.int .u8 0) 1 (by kernel_rfl) (by kernel_rfl) (by kernel_rfl) (by kernel_rfl) (by kernel_rfl) ho528 (by kernel_rfl) (Ow.len ho522) (Ow.rdNo ho522) h529 k527 ?_) 
    intro A534 c535 w530 ho532 k531 hn533 ha537
    have n538 := Ow.dj_app ho522 (Dj.symm n526) hn533
    clear hn533 ha537
    have k539 := Kp.own ho528 k527 k531
    have ho540 := Ow.kp ho522 k531 (Dj.symm n526)
    refine r_do 3 (by kernel_rfl) (og_bytesStr (src := 110) (dst := 9) (e := 5) (n := ((x514 ++ ([93] : List Int)).length)) (c := c535) (x := (Operand.tmp 49)) (A := A534) (xs := (x514 ++ ([93] : List Int))) (by kernel_rfl) (by kernel_rfl) (by kernel_rfl) (Ow.rdNo ho532) (Ow.len ho532) ?_) 
    refine r_vals 4 5 [.string (strI (x514 ++ ([93] : List Int)))] (by kernel_rfl) (by kernel_rfl) ?_
    refine r_fin 5 (by kernel_rfl) ?_
    refine q_then ?_
    refine w_ret (p := [1, 1, 1, 1, 1]) (by kernel_rfl) ?_
    obtain rfl := Option.some.inj H
    refine HR _ _ (body_ret (vs := [.string (strI (x514 ++ ([93] : List Int)))]) (rv_tmp (by kernel_rfl) rfl) rfl ?_)
    exact ⟨rfl, k539⟩
  · rw [if_neg h529] at H
    cases H
set_option maxRecDepth 20000 in
set_option maxHeartbeats 4000000 in
theorem class_Text.ok (K : Nat) (a0 : Tapi_Class) (w : World)  (r : ByteArray) (H : class_Text.f K a0 = some r) : Calls Try.prog 21 #[.agg #[.int .u64 a0.f0, .int .u64 a0.f1, .int .u64 a0.f2, .int .u64 a0.f3]] w (class_Text.R r w) := by
  refine calls_cd (t := #[.agg #[.int .u64 a0.f0, .int .u64 a0.f1, .int .u64 a0.f2, .int .u64 a0.f3], undef, undef, undef, undef, undef, undef, undef, undef, undef, undef, undef, undef, undef, undef, undef, undef, undef, undef, undef, undef, undef, undef, undef, undef, undef, undef, undef, undef, undef, undef, undef, undef, undef, undef, undef, undef, undef, undef, undef, undef, undef, undef, undef, undef, undef, undef, undef, undef, undef, undef]) Try.func21 (by kernel_rfl) (by kernel_rfl) ?_
  unfold class_Text.f at H
  have HR : ∀ a w', bodyPost Try.prog Try.f21 (class_Text.R r w) .ret a w' → bodyPost Try.prog Try.f21 (class_Text.R r w) .ret a w' := fun _ _ h => h
  refine w_seq (p := []) (p0 := [0]) (p1 := [1]) (by kernel_rfl) ?_
  refine w_region (p := [0]) (id := 0) (by kernel_rfl) ?_
  refine r_do 0 (by kernel_rfl) (og_box (T := 37) (x := (Operand.tmp 0)) (cs := #[.int .u64 a0.f0, .int .u64 a0.f1, .int .u64 a0.f2, .int .u64 a0.f3]) (by kernel_rfl) (by kernel_rfl) ?_) 
  intro b161 w158 e162 hb160 k159
  have g163 : w.heap.size ≤ b161 := by rw [e162]; exact Kp.size (Kp.refl No w)
  clear e162
  have k164 := Kp.trans (Kp.refl No w) k159 (fun _ h => h.elim)
  refine r_vals 1 2 [.string (⟨#[]⟩ : ByteArray)] (by kernel_rfl) (by kernel_rfl) ?_
  refine r_fin 2 (by kernel_rfl) ?_
  refine q_then ?_
  refine w_seq (p := [1]) (p0 := [1, 0]) (p1 := [1, 1]) (by kernel_rfl) ?_
  refine w_region (p := [1, 0]) (id := 1) (by kernel_rfl) ?_
  refine r_do 0 (by kernel_rfl) (ow_lit (K := (kInt .u8 5)) (w0 := w) (T := 110) (n := 1) (e := 5) (ps := #[(0, (Operand.const (Value.int IntKind.u8 91)))]) (cs := #[.int .u8 91]) (parts := [(0, .int .u8 91)]) ([91] : List Int) (by kernel_rfl) (by kernel_rfl) (by kernel_rfl) (by kernel_rfl) rfl rfl (by kernel_rfl) k164 ?_) 
  intro b168 w165 e169 ho167 k166
  have n171 := blk_dj_row hb160 e169
  clear e169
  have k172 := Kp.trans k164 k166 (fun _ h => h.elim)
  have hb173 := Blk.kp hb160 k166 id
  refine r_vals 1 2 [.slice (some ⟨b168, 0, none⟩) 1 1] (by kernel_rfl) (by kernel_rfl) ?_
  refine r_fin 2 (by kernel_rfl) ?_
  refine q_then ?_
  refine w_seq (p := [1, 1]) (p0 := [1, 1, 0]) (p1 := [1, 1, 1]) (by kernel_rfl) ?_
  refine w_seq (p := [1, 1, 0]) (p0 := [1, 1, 0, 0]) (p1 := [1, 1, 0, 1]) (by kernel_rfl) ?_
  refine w_region (p := [1, 1, 0, 0]) (id := 2) (by kernel_rfl) ?_
  refine r_do 0 (by kernel_rfl) (og_load (T := 37) (x := (Operand.tmp 1)) (b := b161) (off := 0) (.agg #[.int .u64 a0.f0, .int .u64 a0.f1, .int .u64 a0.f2, .int .u64 a0.f3]) (by kernel_rfl) (by kernel_rfl) hb173 (by kernel_rfl) ?_) 
  obtain ⟨t174, ht175, H⟩ := Option.bind_eq_some_iff.1 H
  refine r_do 1 (by kernel_rfl) (og_call (g := 34) (av := #[.agg #[.int .u64 a0.f0, .int .u64 a0.f1, .int .u64 a0.f2, .int .u64 a0.f3]]) (by kernel_rfl) ?_) 
  refine (class_Count.ok K a0 w165 t174 ht175).mono ?_
  rintro e w176 ⟨rfl, k177⟩
  refine ⟨_, rfl, ?_⟩
  have k178 := Kp.trans k172 k177 (fun _ h => h.elim)
  have hb179 := Blk.kp hb173 k177 id
  have ho180 := Ow.kpNo ho167 k177
  refine r_vals 2 3 [.bool (decide (t174 > 128))] (by kernel_rfl) (by kernel_rfl) ?_
  refine r_fin 3 (by kernel_rfl) ?_
  refine q_then ?_
  refine w_cond (p := [1, 1, 0, 1]) (p0 := [1, 1, 0, 1, 0]) (p1 := [1, 1, 0, 1, 1]) (c := (Operand.tmp 9)) (b := decide (t174 > 128)) (by kernel_rfl) (by kernel_rfl) ?_ ?_
  · intro h_
    have h181 : t174 > 128 := by simpa using h_
    clear h_
    rw [if_pos h181] at H
    refine w_seq (p := [1, 1, 0, 1, 0]) (p0 := [1, 1, 0, 1, 0, 0]) (p1 := [1, 1, 0, 1, 0, 1]) (by kernel_rfl) ?_
    refine w_region (p := [1, 1, 0, 1, 0, 0]) (id := 3) (by kernel_rfl) ?_
    refine r_vals 0 1 [.slice (some ⟨b168, 0, none⟩) 1 1] (by kernel_rfl) (by kernel_rfl) ?_
    refine r_do 1 (by kernel_rfl) (ow_lit (K := (kInt .u8 5)) (w0 := w) (T := 110) (n := 1) (e := 5) (ps := #[(0, (Operand.const (Value.int IntKind.u8 94)))]) (cs := #[.int .u8 94]) (parts := [(0, .int .u8 94)]) ([94] : List Int) (by kernel_rfl) (by kernel_rfl) (by kernel_rfl) (by kernel_rfl) rfl rfl (by kernel_rfl) k178 ?_) 
    intro b185 w182 e186 ho184 k183
    have n188 := blk_dj_row hb179 e186
    have n189 := Ow.dj_row ho180 e186
    clear e186
    have k190 := Kp.trans k178 k183 (fun _ h => h.elim)
    have hb191 := Blk.kp hb179 k183 id
    have ho192 := Ow.kpNo ho180 k183
    refine r_do 2 (by kernel_rfl) (ow_append2 (K := (kInt .u8 5)) (w0 := w) (T := 110) (n := 1) (c := 1) (m := 1) (d := 1) (s := (Operand.tmp 10)) (x := (Operand.tmp 11)) (A := (some ⟨b168, 0, none⟩)) (D := (some ⟨b185, 0, none⟩)) (xs := ([91] : List Int)) (ys := ([94] : List Int)) (.int .u8 0) 1 (by kernel_rfl) (by kernel_rfl) (by kernel_rfl) (by kernel_rfl) (by kernel_rfl) ho192 (by kernel_rfl) (Ow.len ho184) (Ow.rdNo ho184) (by decide) k190 ?_) 
    intro A197 c198 w193 ho195 k194 hn196 ha200
    have n201 := blk_dj_app hb191 n171 hn196
    have n202 := Ow.dj_app ho184 (Dj.symm n189) hn196
    clear hn196 ha200
    have k203 := Kp.own ho192 k190 k194
    have hb204 := Blk.kpOne hb191 k194 n171
    have ho205 := Ow.kp ho184 k194 (Dj.symm n189)
    refine r_vals 3 4 [.slice A197 ((([91] : List Int) ++ ([94] : List Int)).length) c198] (by kernel_rfl) (by kernel_rfl) ?_
    refine r_fin 4 (by kernel_rfl) ?_
    refine q_then ?_
    refine w_region (p := [1, 1, 0, 1, 0, 1]) (id := 4) (by kernel_rfl) ?_
    refine r_do 0 (by kernel_rfl) (og_load (T := 37) (x := (Operand.tmp 1)) (b := b161) (off := 0) (.agg #[.int .u64 a0.f0, .int .u64 a0.f1, .int .u64 a0.f2, .int .u64 a0.f3]) (by kernel_rfl) (by kernel_rfl) hb204 (by kernel_rfl) ?_) 
    obtain ⟨t206, ht207, H⟩ := Option.bind_eq_some_iff.1 H
    refine r_do 1 (by kernel_rfl) (og_call (g := 60) (av := #[.agg #[.int .u64 a0.f0, .int .u64 a0.f1, .int .u64 a0.f2, .int .u64 a0.f3]]) (by kernel_rfl) ?_) 
    refine (class_Not.ok K a0 w193 t206 ht207).mono ?_
    rintro e w208 ⟨rfl, k209⟩
    refine ⟨_, rfl, ?_⟩
    have k210 := Kp.trans k203 k209 (fun _ h => h.elim)
    have hb211 := Blk.kp hb204 k209 id
    have ho212 := Ow.kpNo ho205 k209
    have ho213 := Ow.kpNo ho195 k209
    refine r_do 2 (by kernel_rfl) (og_store (T := 37) (x := (Operand.tmp 1)) (y := (Operand.tmp 14)) (b := b161) (off := 0) (.agg #[.int .u64 t206.f0, .int .u64 t206.f1, .int .u64 t206.f2, .int .u64 t206.f3]) (by kernel_rfl) (by kernel_rfl) (by kernel_rfl) hb211 (cs' := #[.int .u64 t206.f0, .int .u64 t206.f1, .int .u64 t206.f2, .int .u64 t206.f3]) (by kernel_rfl) ?_) 
    intro w215 hb214 k216 _
    have k217 := Kp.trans k210 k216 (fun x hx => .inr (by rw [show x = _ from hx]; exact g163))
    have ho218 := Ow.kp ho212 k216 (Dj.symm n188)
    have ho219 := Ow.kp ho213 k216 (Dj.symm n201)
    refine r_fin 3 (by kernel_rfl) ?_
    refine q_then ?_
    refine w_into (class_Text.j0F b161 A197 ((([91] : List Int) ++ ([94] : List Int)).length) c198) (by kernel_rfl) (fun u_ => ?_)
    exact class_Text.j0.ok K a0 w r b161 HR  (([91] : List Int) ++ ([94] : List Int)) ((([91] : List Int) ++ ([94] : List Int)).length) t206.f0 t206.f1 t206.f2 t206.f3 A197 c198 u_ w215 k217 hb214 g163 ho219 n201 H
  · intro h_
    have h181 : ¬ (t174 > 128) := by simpa using h_
    clear h_
    rw [if_neg h181] at H
    refine w_skip (p := [1, 1, 0, 1, 1]) (by kernel_rfl) ?_
    refine q_then ?_
    refine w_into (class_Text.j0F b161 (some ⟨b168, 0, none⟩) 1 1) (by kernel_rfl) (fun u_ => ?_)
    exact class_Text.j0.ok K a0 w r b161 HR  ([91] : List Int) 1 a0.f0 a0.f1 a0.f2 a0.f3 (some ⟨b168, 0, none⟩) 1 u_ w176 k178 hb179 g163 ho180 n171 H
/-! ### dowel/class.put -/
def class_put.f (K : Nat) (a0 : Tapi_Class) (a1 : Int) : Option (Tapi_Class) := if 0 ≤ (shv .shr .u8 a1 6) then (if (shv .shr .u8 a1 6) < 4 then (if 0 ≤ (bits .and .u8 a1 63) then (some (⟨(rd 0 (stored [a0.f0, a0.f1, a0.f2, a0.f3] (shv .shr .u8 a1 6) (bits .or .u64 (rd 0 [a0.f0, a0.f1, a0.f2, a0.f3] (shv .shr .u8 a1 6)) (shv .shl .u64 1 (bits .and .u8 a1 63)))) 0), (rd 0 (stored [a0.f0, a0.f1, a0.f2, a0.f3] (shv .shr .u8 a1 6) (bits .or .u64 (rd 0 [a0.f0, a0.f1, a0.f2, a0.f3] (shv .shr .u8 a1 6)) (shv .shl .u64 1 (bits .and .u8 a1 63)))) 1), (rd 0 (stored [a0.f0, a0.f1, a0.f2, a0.f3] (shv .shr .u8 a1 6) (bits .or .u64 (rd 0 [a0.f0, a0.f1, a0.f2, a0.f3] (shv .shr .u8 a1 6)) (shv .shl .u64 1 (bits .and .u8 a1 63)))) 2), (rd 0 (stored [a0.f0, a0.f1, a0.f2, a0.f3] (shv .shr .u8 a1 6) (bits .or .u64 (rd 0 [a0.f0, a0.f1, a0.f2, a0.f3] (shv .shr .u8 a1 6)) (shv .shl .u64 1 (bits .and .u8 a1 63)))) 3)⟩ : Tapi_Class)) else none) else none) else none
def class_put.R (a0b a0T : Nat) (r : Tapi_Class) (w : World) : Ending → World → Prop := fun e w' => e = .returned (.tuple #[]) ∧ Kp (One a0b) w w' ∧ Blk w' a0b #[.int .u64 r.f0, .int .u64 r.f1, .int .u64 r.f2, .int .u64 r.f3] a0T
set_option maxRecDepth 20000 in
set_option maxHeartbeats 4000000 in
theorem class_put.ok (K : Nat) (a0b : Nat) (a0T : Nat) (a0 : Tapi_Class) (a1 : Int) (w : World) (a0h : Blk w a0b #[.int .u64 a0.f0, .int .u64 a0.f1, .int .u64 a0.f2, .int .u64 a0.f3] a0T) (r : Tapi_Class) (H : class_put.f K a0 a1 = some r) : Calls Try.prog 80 #[.pointer (some ⟨a0b, 0, none⟩), .int .u8 a1] w (class_put.R a0b a0T r w) := by
  refine calls_cd (t := #[.pointer (some ⟨a0b, 0, none⟩), .int .u8 a1, undef, undef, undef, undef, undef, undef, undef, undef, undef, undef, undef, undef, undef, undef]) Try.func80 (by kernel_rfl) (by kernel_rfl) ?_
  unfold class_put.f at H
  have HR : ∀ a w', bodyPost Try.prog Try.f80 (class_put.R a0b a0T r w) .ret a w' → bodyPost Try.prog Try.f80 (class_put.R a0b a0T r w) .ret a w' := fun _ _ h => h
  have HRN : ∀ a w', bodyPost Try.prog Try.f80 (class_put.R a0b a0T r w) .ret a w' → bodyPost Try.prog Try.f80 (class_put.R a0b a0T r w) .normal a w' := fun _ _ h => h
  refine p_split (0 ≤ (shv .shr .u8 a1 6)) (fun h541 => ?_) (fun h541 => ?_)
  · rw [if_pos h541] at H
    refine p_split ((shv .shr .u8 a1 6) < 4) (fun h542 => ?_) (fun h542 => ?_)
    · rw [if_pos h542] at H
      refine p_split (0 ≤ (bits .and .u8 a1 63)) (fun h543 => ?_) (fun h543 => ?_)
      · rw [if_pos h543] at H
        refine w_drawk (p := []) (id := 0) (by kernel_rfl) (by kernel_rfl) [0, 0, 2, 1, 15, 31, 0, 64, 192, 511, 1, 2047, 4095] 12 (by kernel_rfl) (J := (fun _ w_ => Kp No w w_)) (fun w_ h1 h2 h3 h4 => Kp.same h1 h2 h3 h4) ?_
        refine k_pure 4 [.pointer (some ⟨a0b, 0, none⟩), .int .u8 a1, .int .u8 (shv .shr .u8 a1 6), .pointer (some ⟨a0b, 0, none⟩)] (by kernel_rfl) (fun _ => by kernel_rfl) (fun _ _ _ _ _ h => h) ?_
        refine k_op (.pointer (some ⟨a0b, 0 + (shv .shr .u8 a1 6).toNat * 1, none⟩)) (by kernel_rfl) (fun b_ w_ hJ hb_ hd_ he_ => og_indexA (T := 37) (n := 4) (e := 35) (sz := 1) (b := a0b) (off := 0) (x := (Operand.tmp 7)) (y := (Operand.tmp 6)) (k := .u8) (iv := (shv .shr .u8 a1 6)) (by kernel_rfl) (by kernel_rfl) (by kernel_rfl) (by kernel_rfl) h541 h542 ⟨rfl, hJ⟩) ?_
        refine k_op (.int .u64 (rd 0 [a0.f0, a0.f1, a0.f2, a0.f3] (shv .shr .u8 a1 6))) (by kernel_rfl) (fun b_ w_ hJ hb_ hd_ he_ => og_loadA (K := (kInt .u64 35)) (T := 35) (x := (Operand.tmp 8)) (b := a0b) (base := 0) (off := 0) (xs := [a0.f0, a0.f1, a0.f2, a0.f3]) (iv := (shv .shr .u8 a1 6)) 0 (.int .u64 (rd 0 [a0.f0, a0.f1, a0.f2, a0.f3] (shv .shr .u8 a1 6))) (by kernel_rfl) (by kernel_rfl) (Blk.kp a0h hJ id) (by kernel_rfl) h541 h542 (by kernel_rfl) ⟨rfl, hJ⟩) ?_
        refine k_pure 8 [.int .u8 a1, .int .u8 (bits .and .u8 a1 63)] (by kernel_rfl) (fun _ => by kernel_rfl) (fun _ _ _ _ _ h => h) ?_
        refine k_op (.int .u64 (shv .shl .u64 1 (bits .and .u8 a1 63))) (by kernel_rfl) (fun b_ w_ hJ hb_ hd_ he_ => og_shift (op := .shl) (T := 35) (U := 5) (x := (Operand.const (Value.int IntKind.u64 1))) (y := (Operand.tmp 11)) (k := .u64) (k' := .u8) (a := 1) (b := (bits .and .u8 a1 63)) (by simp) (by kernel_rfl) (by kernel_rfl) (by kernel_rfl) h543 ⟨rfl, hJ⟩) ?_
        refine k_pure 11 [.int .u64 (bits .or .u64 (rd 0 [a0.f0, a0.f1, a0.f2, a0.f3] (shv .shr .u8 a1 6)) (shv .shl .u64 1 (bits .and .u8 a1 63))), .pointer (some ⟨a0b, 0, none⟩)] (by kernel_rfl) (fun _ => by kernel_rfl) (fun _ _ _ _ _ h => h) ?_
        refine k_op (.pointer (some ⟨a0b, 0 + (shv .shr .u8 a1 6).toNat * 1, none⟩)) (by kernel_rfl) (fun b_ w_ hJ hb_ hd_ he_ => og_indexA (T := 37) (n := 4) (e := 35) (sz := 1) (b := a0b) (off := 0) (x := (Operand.tmp 14)) (y := (Operand.tmp 6)) (k := .u8) (iv := (shv .shr .u8 a1 6)) (by kernel_rfl) (by kernel_rfl) (by kernel_rfl) (by kernel_rfl) h541 h542 ⟨rfl, hJ⟩) ?_
        refine k_nil ?_
        rintro b_ w544 hall_ k_
        have k545 := k_
        have k546 := Kp.trans (Kp.refl (One a0b) w) k545 (fun _ h => h.elim)
        have hb547 := Blk.kp a0h k545 id
        refine r_do 12 (by kernel_rfl) (ar_storeS (K := (kInt .u64 35)) (T := 35) (b := a0b) (off := 0) (n := 4) (x := (Operand.tmp 15)) (y := (Operand.tmp 13)) (xs := [a0.f0, a0.f1, a0.f2, a0.f3]) (iv := (shv .shr .u8 a1 6)) (cs' := #[.int .u64 (rd 0 (stored [a0.f0, a0.f1, a0.f2, a0.f3] (shv .shr .u8 a1 6) (bits .or .u64 (rd 0 [a0.f0, a0.f1, a0.f2, a0.f3] (shv .shr .u8 a1 6)) (shv .shl .u64 1 (bits .and .u8 a1 63)))) 0), .int .u64 (rd 0 (stored [a0.f0, a0.f1, a0.f2, a0.f3] (shv .shr .u8 a1 6) (bits .or .u64 (rd 0 [a0.f0, a0.f1, a0.f2, a0.f3] (shv .shr .u8 a1 6)) (shv .shl .u64 1 (bits .and .u8 a1 63)))) 1), .int .u64 (rd 0 (stored [a0.f0, a0.f1, a0.f2, a0.f3] (shv .shr .u8 a1 6) (bits .or .u64 (rd 0 [a0.f0, a0.f1, a0.f2, a0.f3] (shv .shr .u8 a1 6)) (shv .shl .u64 1 (bits .and .u8 a1 63)))) 2), .int .u64 (rd 0 (stored [a0.f0, a0.f1, a0.f2, a0.f3] (shv .shr .u8 a1 6) (bits .or .u64 (rd 0 [a0.f0, a0.f1, a0.f2, a0.f3] (shv .shr .u8 a1 6)) (shv .shl .u64 1 (bits .and .u8 a1 63)))) 3)]) 0 (bits .or .u64 (rd 0 [a0.f0, a0.f1, a0.f2, a0.f3] (shv .shr .u8 a1 6)) (shv .shl .u64 1 (bits .and .u8 a1 63))) (.int .u64 (bits .or .u64 (rd 0 [a0.f0, a0.f1, a0.f2, a0.f3] (shv .shr .u8 a1 6)) (shv .shl .u64 1 (bits .and .u8 a1 63)))) (by kernel_rfl) (by kernel_rfl) (by kernel_rfl) hb547 (by kernel_rfl) (by kernel_rfl) h541 h542 (by kernel_rfl) (by kernel_rfl) ?_) 
        intro w549 hb548 k550
        have k551 := Kp.trans k546 k550 (fun x hx => .inl hx)
        refine r_fin 13 (by kernel_rfl) ?_
        obtain rfl := Option.some.inj H
        refine HRN _ _ (body_ret (vs := []) rfl rfl ?_)
        exact ⟨rfl, k551, hb548⟩
      · rw [if_neg h543] at H
        cases H
    · rw [if_neg h542] at H
      cases H
  · rw [if_neg h541] at H
    cases H
/-! ### dowel/class.Of -/
def class_Of.F1 (b555 : Nat) (b562 : Nat) (b650 : Nat) (x682 : Int) (a0A : Option Addr) (a0 : List Tapi_Range) (a0c : Nat) (x638 : Int) (u_ : Nat → Value) : Array Value := #[u_ 0, u_ 1, .pointer (some ⟨b555, 0, none⟩), .pointer (some ⟨b562, 0, none⟩), u_ 4, .pointer (some ⟨b650, 0, none⟩), .int .i64 x682, .slice a0A a0.length a0c, .int .i64 (a0.length : Int), .int .i64 x638, u_ 10, u_ 11, u_ 12, u_ 13, u_ 14, u_ 15, u_ 16, u_ 17, u_ 18, u_ 19, u_ 20, u_ 21, u_ 22, u_ 23, u_ 24, u_ 25, u_ 26, u_ 27]
def class_Of.F1_2 (b555 : Nat) (b562 : Nat) (a0A : Option Addr) (a0 : List Tapi_Range) (a0c : Nat) (x638 : Int) (u_ : Nat → Value) : Array Value := #[u_ 0, u_ 1, .pointer (some ⟨b555, 0, none⟩), .pointer (some ⟨b562, 0, none⟩), u_ 4, u_ 5, u_ 6, .slice a0A a0.length a0c, .int .i64 (a0.length : Int), .int .i64 x638, u_ 10, u_ 11, u_ 12, u_ 13, u_ 14, u_ 15, u_ 16, u_ 17, u_ 18, u_ 19, u_ 20, u_ 21, u_ 22, u_ 23, u_ 24, u_ 25, u_ 26, u_ 27]
def class_Of.b1 (a0 : List Tapi_Range) (x638 : Int) (K : Nat) (next1 : Int → Int → Int → Int → Int → Option (Tapi_Class)) (brk1_2 : Int → Int → Int → Int → Option (Tapi_Class)) (x682 : Int) (x684 : Int) (x685 : Int) (x686 : Int) (x687 : Int) : Option (Tapi_Class) := if x682 ≤ (W (((rd zapi_Range a0 x638)).f1)) then ((class_put.f K (⟨x684, x685, x686, x687⟩ : Tapi_Class) (W8 (x682))).bind fun t691 => (next1 (W (x682 + 1)) t691.f0 t691.f1 t691.f2 t691.f3)) else (brk1_2 x684 x685 x686 x687)
def class_Of.l1 (a0 : List Tapi_Range) (x638 : Int) (K : Nat) (brk1_2 : Int → Int → Int → Int → Option (Tapi_Class)) : Nat → Int → Int → Int → Int → Int → Option (Tapi_Class)
  | 0, _, _, _, _, _ => none
  | n_ + 1, x682, x684, x685, x686, x687 => class_Of.b1 a0 x638 K (class_Of.l1 a0 x638 K brk1_2 n_) brk1_2 x682 x684 x685 x686 x687
def class_Of.F0 (b555 : Nat) (b562 : Nat) (a0A : Option Addr) (a0 : List Tapi_Range) (a0c : Nat) (x638 : Int) (u_ : Nat → Value) : Array Value := #[u_ 0, u_ 1, .pointer (some ⟨b555, 0, none⟩), .pointer (some ⟨b562, 0, none⟩), u_ 4, u_ 5, u_ 6, .slice a0A a0.length a0c, .int .i64 (a0.length : Int), .int .i64 x638, u_ 10, u_ 11, u_ 12, u_ 13, u_ 14, u_ 15, u_ 16, u_ 17, u_ 18, u_ 19, u_ 20, u_ 21, u_ 22, u_ 23, u_ 24, u_ 25, u_ 26, u_ 27]
def class_Of.F0_0 (b555 : Nat) (b562 : Nat) (u_ : Nat → Value) : Array Value := #[u_ 0, u_ 1, .pointer (some ⟨b555, 0, none⟩), .pointer (some ⟨b562, 0, none⟩), u_ 4, u_ 5, u_ 6, u_ 7, u_ 8, u_ 9, u_ 10, u_ 11, u_ 12, u_ 13, u_ 14, u_ 15, u_ 16, u_ 17, u_ 18, u_ 19, u_ 20, u_ 21, u_ 22, u_ 23, u_ 24, u_ 25, u_ 26, u_ 27]
def class_Of.b0 (a0 : List Tapi_Range) (K : Nat) (next0 : Int → Int → Int → Int → Int → Option (Tapi_Class)) (brk0_0 : Int → Int → Int → Int → Option (Tapi_Class)) (x638 : Int) (x640 : Int) (x641 : Int) (x642 : Int) (x643 : Int) : Option (Tapi_Class) := if x638 < (a0.length : Int) then (if 0 ≤ x638 then (class_Of.l1 a0 x638 K (fun y703 y704 y705 y706 => next0 (W (x638 + 1)) y703 y704 y705 y706) K (W (((rd zapi_Range a0 x638)).f0)) x640 x641 x642 x643) else none) else (brk0_0 x640 x641 x642 x643)
def class_Of.l0 (a0 : List Tapi_Range) (K : Nat) (brk0_0 : Int → Int → Int → Int → Option (Tapi_Class)) : Nat → Int → Int → Int → Int → Int → Option (Tapi_Class)
  | 0, _, _, _, _, _ => none
  | n_ + 1, x638, x640, x641, x642, x643 => class_Of.b0 a0 K (class_Of.l0 a0 K brk0_0 n_) brk0_0 x638 x640 x641 x642 x643
def class_Of.f (K : Nat) (a0 : List Tapi_Range) : Option (Tapi_Class) := class_Of.l0 a0 K (fun y712 y713 y714 y715 => some (⟨y712, y713, y714, y715⟩ : Tapi_Class)) K 0 0 0 0 0
def class_Of.R (r : Tapi_Class) (w : World) : Ending → World → Prop := fun e w' => e = .returned (.agg #[.int .u64 r.f0, .int .u64 r.f1, .int .u64 r.f2, .int .u64 r.f3]) ∧ Kp No w w'
set_option maxRecDepth 20000 in
set_option maxHeartbeats 4000000 in
theorem class_Of.b1.ok (K : Nat) (a0A : Option Addr) (a0c : Nat) (a0 : List Tapi_Range) (w : World) (a0r : Rd No w a0A ((Kapi_Range 44).cells a0)) (a0l : a0.length ≤ a0c) (r : Tapi_Class) (b555 : Nat) (b562 : Nat) (b650 : Nat) (x638 : Int) {Q : Exit → Act → World → Prop} (HR : ∀ a w', bodyPost Try.prog Try.f33 (class_Of.R r w) .ret a w' → Q .ret a w') {next1 : Int → Int → Int → Int → Int → Option (Tapi_Class)} {brk1_2 : Int → Int → Int → Int → Option (Tapi_Class)} (HN1 : ∀ (x682q : Int) (x684q : Int) (x685q : Int) (x686q : Int) (x687q : Int) (u679q : Nat → Value) (w680q : World) (k681q : Kp No w w680q) (hb683q : Blk w680q b555 #[.int .u64 0, .int .u64 0, .int .u64 0, .int .u64 0] 37) (hb688q : Blk w680q b562 #[.int .u64 x684q, .int .u64 x685q, .int .u64 x686q, .int .u64 x687q] 37) (hb689q : Blk w680q b650 #[.int .u8 (((rd zapi_Range a0 x638)).f0), .int .u8 (((rd zapi_Range a0 x638)).f1)] 44) (ghb683q : w.heap.size ≤ b555) (ghb688q : w.heap.size ≤ b562) (ghb689q : w.heap.size ≤ b650) (nhb683hb688q : b555 ≠ b562) (nhb683hb689q : b555 ≠ b650) (nhb688hb689q : b562 ≠ b650), next1 x682q x684q x685q x686q x687q = some r → Q .normal ⟨class_Of.F1 b555 b562 b650 x682q a0A a0 a0c x638 u679q, []⟩ w680q) (HX1_2 : ∀ (y703q : Int) (y704q : Int) (y705q : Int) (y706q : Int) (u701q : Nat → Value) (w699q : World) (k700q : Kp No w w699q) (hb702q : Blk w699q b555 #[.int .u64 0, .int .u64 0, .int .u64 0, .int .u64 0] 37) (hb707q : Blk w699q b562 #[.int .u64 y703q, .int .u64 y704q, .int .u64 y705q, .int .u64 y706q] 37) (ghb702q : w.heap.size ≤ b555) (ghb707q : w.heap.size ≤ b562) (nhb702hb707q : b555 ≠ b562), brk1_2 y703q y704q y705q y706q = some r → Q (.exit 2) ⟨class_Of.F1_2 b555 b562 a0A a0 a0c x638 u701q, []⟩ w699q) (x682 : Int) (x684 : Int) (x685 : Int) (x686 : Int) (x687 : Int) (u679 : Nat → Value) (w680 : World) (k681 : Kp No w w680) (hb683 : Blk w680 b555 #[.int .u64 0, .int .u64 0, .int .u64 0, .int .u64 0] 37) (hb688 : Blk w680 b562 #[.int .u64 x684, .int .u64 x685, .int .u64 x686, .int .u64 x687] 37) (hb689 : Blk w680 b650 #[.int .u8 (((rd zapi_Range a0 x638)).f0), .int .u8 (((rd zapi_Range a0 x638)).f1)] 44) (ghb683 : w.heap.size ≤ b555) (ghb688 : w.heap.size ≤ b562) (ghb689 : w.heap.size ≤ b650) (nhb683hb688 : b555 ≠ b562) (nhb683hb689 : b555 ≠ b650) (nhb688hb689 : b562 ≠ b650) (H : class_Of.b1 a0 x638 K next1 brk1_2 x682 x684 x685 x686 x687 = some r) : (cd Try.f33 [1, 1, 0, 1, 0, 0, 1, 1, 0, 0, 1, 1, 0, 0]).wp Try.prog Q ⟨class_Of.F1 b555 b562 b650 x682 a0A a0 a0c x638 u679, []⟩ w680 := by
  unfold class_Of.b1 at H
  refine w_seq (p := [1, 1, 0, 1, 0, 0, 1, 1, 0, 0, 1, 1, 0, 0]) (p0 := [1, 1, 0, 1, 0, 0, 1, 1, 0, 0, 1, 1, 0, 0, 0]) (p1 := [1, 1, 0, 1, 0, 0, 1, 1, 0, 0, 1, 1, 0, 0, 1]) (by kernel_rfl) ?_
  refine w_seq (p := [1, 1, 0, 1, 0, 0, 1, 1, 0, 0, 1, 1, 0, 0, 0]) (p0 := [1, 1, 0, 1, 0, 0, 1, 1, 0, 0, 1, 1, 0, 0, 0, 0]) (p1 := [1, 1, 0, 1, 0, 0, 1, 1, 0, 0, 1, 1, 0, 0, 0, 1]) (by kernel_rfl) ?_
  refine w_region (p := [1, 1, 0, 1, 0, 0, 1, 1, 0, 0, 1, 1, 0, 0, 0, 0]) (id := 6) (by kernel_rfl) ?_
  refine r_vals 0 2 [.int .i64 x682, .pointer (some ⟨b650, 1, none⟩)] (by kernel_rfl) (by kernel_rfl) ?_
  refine r_do 2 (by kernel_rfl) (og_load (T := 5) (x := (Operand.tmp 17)) (b := b650) (off := 1) (.int .u8 (((rd zapi_Range a0 x638)).f1)) (by kernel_rfl) (by kernel_rfl) hb689 (by kernel_rfl) ?_) 
  refine r_vals 3 5 [.int .i64 (W (((rd zapi_Range a0 x638)).f1)), .bool (decide (x682 ≤ (W (((rd zapi_Range a0 x638)).f1))))] (by kernel_rfl) (by kernel_rfl) ?_
  refine r_fin 5 (by kernel_rfl) ?_
  refine q_then ?_
  refine w_cond (p := [1, 1, 0, 1, 0, 0, 1, 1, 0, 0, 1, 1, 0, 0, 0, 1]) (p0 := [1, 1, 0, 1, 0, 0, 1, 1, 0, 0, 1, 1, 0, 0, 0, 1, 0]) (p1 := [1, 1, 0, 1, 0, 0, 1, 1, 0, 0, 1, 1, 0, 0, 0, 1, 1]) (c := (Operand.tmp 20)) (b := decide (x682 ≤ (W (((rd zapi_Range a0 x638)).f1)))) (by kernel_rfl) (by kernel_rfl) ?_ ?_
  · intro h_
    have h690 : x682 ≤ (W (((rd zapi_Range a0 x638)).f1)) := by simpa using h_
    clear h_
    rw [if_pos h690] at H
    refine w_skip (p := [1, 1, 0, 1, 0, 0, 1, 1, 0, 0, 1, 1, 0, 0, 0, 1, 0]) (by kernel_rfl) ?_
    refine q_then ?_
    refine w_seq (p := [1, 1, 0, 1, 0, 0, 1, 1, 0, 0, 1, 1, 0, 0, 1]) (p0 := [1, 1, 0, 1, 0, 0, 1, 1, 0, 0, 1, 1, 0, 0, 1, 0]) (p1 := [1, 1, 0, 1, 0, 0, 1, 1, 0, 0, 1, 1, 0, 0, 1, 1]) (by kernel_rfl) ?_
    refine w_block (p := [1, 1, 0, 1, 0, 0, 1, 1, 0, 0, 1, 1, 0, 0, 1, 0]) (p0 := [1, 1, 0, 1, 0, 0, 1, 1, 0, 0, 1, 1, 0, 0, 1, 0, 0]) (id := 3) (by kernel_rfl) ?_
    refine w_region (p := [1, 1, 0, 1, 0, 0, 1, 1, 0, 0, 1, 1, 0, 0, 1, 0, 0]) (id := 8) (by kernel_rfl) ?_
    refine r_vals 0 2 [.int .i64 x682, .int .u8 (W8 (x682))] (by kernel_rfl) (by kernel_rfl) ?_
    obtain ⟨t691, ht692, H⟩ := Option.bind_eq_some_iff.1 H
    refine r_do 2 (by kernel_rfl) (og_call (g := 80) (av := #[.pointer (some ⟨b562, 0, none⟩), .int .u8 (W8 (x682))]) (by kernel_rfl) ?_) 
    refine (class_put.ok K b562 37 (⟨x684, x685, x686, x687⟩ : Tapi_Class) (W8 (x682)) w680 hb688 t691 ht692).mono ?_
    rintro e w693 ⟨rfl, k694, hb695⟩
    refine ⟨_, rfl, ?_⟩
    have k696 := Kp.trans k681 k694 (fun x hx => .inr (by rw [show x = _ from hx]; exact ghb688))
    have hb697 := Blk.kp hb683 k694 (show ¬ (b555 = b562) from nhb683hb688)
    have hb698 := Blk.kp hb689 k694 (show ¬ (b650 = b562) from (Ne.symm nhb688hb689))
    refine r_fin 3 (by kernel_rfl) ?_
    refine q_in ?_
    refine q_then ?_
    refine w_region (p := [1, 1, 0, 1, 0, 0, 1, 1, 0, 0, 1, 1, 0, 0, 1, 1]) (id := 7) (by kernel_rfl) ?_
    refine r_vals 0 3 [.int .i64 x682, .int .i64 (W (x682 + 1)), .int .i64 (W (x682 + 1))] (by kernel_rfl) (by kernel_rfl) ?_
    refine r_fin 3 (by kernel_rfl) ?_
    refine q_into (class_Of.F1 b555 b562 b650 (W (x682 + 1)) a0A a0 a0c x638) (by kernel_rfl) (fun u_ => ?_)
    exact HN1 (W (x682 + 1)) t691.f0 t691.f1 t691.f2 t691.f3 u_ w693 k696 hb697 hb695 hb698 ghb683 ghb688 ghb689 nhb683hb688 nhb683hb689 nhb688hb689 H
  · intro h_
    have h690 : ¬ (x682 ≤ (W (((rd zapi_Range a0 x638)).f1))) := by simpa using h_
    clear h_
    rw [if_neg h690] at H
    refine w_exit (p := [1, 1, 0, 1, 0, 0, 1, 1, 0, 0, 1, 1, 0, 0, 0, 1, 1]) (id := 2) (by kernel_rfl) ?_
    refine q_then_x ?_
    refine q_into (class_Of.F1_2 b555 b562 a0A a0 a0c x638) (by kernel_rfl) (fun u_ => ?_)
    exact HX1_2 x684 x685 x686 x687 u_ w680 k681 hb683 hb688 ghb683 ghb688 nhb683hb688 H
set_option maxRecDepth 20000 in
set_option maxHeartbeats 4000000 in
theorem class_Of.l1.ok (K : Nat) (a0A : Option Addr) (a0c : Nat) (a0 : List Tapi_Range) (w : World) (a0r : Rd No w a0A ((Kapi_Range 44).cells a0)) (a0l : a0.length ≤ a0c) (r : Tapi_Class) (b555 : Nat) (b562 : Nat) (b650 : Nat) (x638 : Int) {Q : Exit → Act → World → Prop} (HR : ∀ a w', bodyPost Try.prog Try.f33 (class_Of.R r w) .ret a w' → Q .ret a w') {brk1_2 : Int → Int → Int → Int → Option (Tapi_Class)} (HX1_2 : ∀ (y703q : Int) (y704q : Int) (y705q : Int) (y706q : Int) (u701q : Nat → Value) (w699q : World) (k700q : Kp No w w699q) (hb702q : Blk w699q b555 #[.int .u64 0, .int .u64 0, .int .u64 0, .int .u64 0] 37) (hb707q : Blk w699q b562 #[.int .u64 y703q, .int .u64 y704q, .int .u64 y705q, .int .u64 y706q] 37) (ghb702q : w.heap.size ≤ b555) (ghb707q : w.heap.size ≤ b562) (nhb702hb707q : b555 ≠ b562), brk1_2 y703q y704q y705q y706q = some r → Q (.exit 2) ⟨class_Of.F1_2 b555 b562 a0A a0 a0c x638 u701q, []⟩ w699q) : ∀ (n_ : Nat) (x682 : Int) (x684 : Int) (x685 : Int) (x686 : Int) (x687 : Int) (u679 : Nat → Value) (w680 : World) (k681 : Kp No w w680) (hb683 : Blk w680 b555 #[.int .u64 0, .int .u64 0, .int .u64 0, .int .u64 0] 37) (hb688 : Blk w680 b562 #[.int .u64 x684, .int .u64 x685, .int .u64 x686, .int .u64 x687] 37) (hb689 : Blk w680 b650 #[.int .u8 (((rd zapi_Range a0 x638)).f0), .int .u8 (((rd zapi_Range a0 x638)).f1)] 44) (ghb683 : w.heap.size ≤ b555) (ghb688 : w.heap.size ≤ b562) (ghb689 : w.heap.size ≤ b650) (nhb683hb688 : b555 ≠ b562) (nhb683hb689 : b555 ≠ b650) (nhb688hb689 : b562 ≠ b650) (H : class_Of.l1 a0 x638 K brk1_2 n_ x682 x684 x685 x686 x687 = some r), Code.rounds Try.prog (cd Try.f33 [1, 1, 0, 1, 0, 0, 1, 1, 0, 0, 1, 1, 0, 0]) Q n_ ⟨class_Of.F1 b555 b562 b650 x682 a0A a0 a0c x638 u679, []⟩ w680
  | 0, _, _, _, _, _, _, _, _, _, _, _, _, _, _, _, _, _, H => by cases H
  | n_ + 1, x682, x684, x685, x686, x687, u679, w680, k681, hb683, hb688, hb689, ghb683, ghb688, ghb689, nhb683hb688, nhb683hb689, nhb688hb689, H =>
    class_Of.b1.ok K a0A a0c a0 w a0r a0l r b555 b562 b650 x638 (Q := Exit.then (Code.rounds Try.prog (cd Try.f33 [1, 1, 0, 1, 0, 0, 1, 1, 0, 0, 1, 1, 0, 0]) Q n_) Q) (fun a w' h_ => q_then_r (HR a w' h_)) (fun x0_ x1_ x2_ x3_ x4_ x5_ x6_ x7_ x8_ x9_ x10_ x11_ x12_ x13_ x14_ x15_ x16_ h_ => class_Of.l1.ok K a0A a0c a0 w a0r a0l r b555 b562 b650 x638 HR HX1_2 n_ x0_ x1_ x2_ x3_ x4_ x5_ x6_ x7_ x8_ x9_ x10_ x11_ x12_ x13_ x14_ x15_ x16_ h_) (fun x0_ x1_ x2_ x3_ x4_ x5_ x6_ x7_ x8_ x9_ x10_ x11_ h_ => q_then_x (HX1_2 x0_ x1_ x2_ x3_ x4_ x5_ x6_ x7_ x8_ x9_ x10_ x11_ h_)) x682 x684 x685 x686 x687 u679 w680 k681 hb683 hb688 hb689 ghb683 ghb688 ghb689 nhb683hb688 nhb683hb689 nhb688hb689 H
set_option maxRecDepth 20000 in
set_option maxHeartbeats 4000000 in
theorem class_Of.b0.ok (K : Nat) (a0A : Option Addr) (a0c : Nat) (a0 : List Tapi_Range) (w : World) (a0r : Rd No w a0A ((Kapi_Range 44).cells a0)) (a0l : a0.length ≤ a0c) (r : Tapi_Class) (b555 : Nat) (b562 : Nat) {Q : Exit → Act → World → Prop} (HR : ∀ a w', bodyPost Try.prog Try.f33 (class_Of.R r w) .ret a w' → Q .ret a w') {next0 : Int → Int → Int → Int → Int → Option (Tapi_Class)} {brk0_0 : Int → Int → Int → Int → Option (Tapi_Class)} (HN0 : ∀ (x638q : Int) (x640q : Int) (x641q : Int) (x642q : Int) (x643q : Int) (u635q : Nat → Value) (w636q : World) (k637q : Kp No w w636q) (hb639q : Blk w636q b555 #[.int .u64 0, .int .u64 0, .int .u64 0, .int .u64 0] 37) (hb644q : Blk w636q b562 #[.int .u64 x640q, .int .u64 x641q, .int .u64 x642q, .int .u64 x643q] 37) (ghb639q : w.heap.size ≤ b555) (ghb644q : w.heap.size ≤ b562) (nhb639hb644q : b555 ≠ b562), next0 x638q x640q x641q x642q x643q = some r → Q .normal ⟨class_Of.F0 b555 b562 a0A a0 a0c x638q u635q, []⟩ w636q) (HX0_0 : ∀ (y712q : Int) (y713q : Int) (y714q : Int) (y715q : Int) (u710q : Nat → Value) (w708q : World) (k709q : Kp No w w708q) (hb711q : Blk w708q b555 #[.int .u64 0, .int .u64 0, .int .u64 0, .int .u64 0] 37) (hb716q : Blk w708q b562 #[.int .u64 y712q, .int .u64 y713q, .int .u64 y714q, .int .u64 y715q] 37) (ghb711q : w.heap.size ≤ b555) (ghb716q : w.heap.size ≤ b562) (nhb711hb716q : b555 ≠ b562), brk0_0 y712q y713q y714q y715q = some r → Q (.exit 0) ⟨class_Of.F0_0 b555 b562 u710q, []⟩ w708q) (x638 : Int) (x640 : Int) (x641 : Int) (x642 : Int) (x643 : Int) (u635 : Nat → Value) (w636 : World) (k637 : Kp No w w636) (hb639 : Blk w636 b555 #[.int .u64 0, .int .u64 0, .int .u64 0, .int .u64 0] 37) (hb644 : Blk w636 b562 #[.int .u64 x640, .int .u64 x641, .int .u64 x642, .int .u64 x643] 37) (ghb639 : w.heap.size ≤ b555) (ghb644 : w.heap.size ≤ b562) (nhb639hb644 : b555 ≠ b562) (H : class_Of.b0 a0 K next0 brk0_0 x638 x640 x641 x642 x643 = some r) : (cd Try.f33 [1, 1, 0, 1, 0, 0]).wp Try.prog Q ⟨class_Of.F0 b555 b562 a0A a0 a0c x638 u635, []⟩ w636 := by
  unfold class_Of.b0 at H
  refine w_seq (p := [1, 1, 0, 1, 0, 0]) (p0 := [1, 1, 0, 1, 0, 0, 0]) (p1 := [1, 1, 0, 1, 0, 0, 1]) (by kernel_rfl) ?_
  refine w_region (p := [1, 1, 0, 1, 0, 0, 0]) (id := 3) (by kernel_rfl) ?_
  refine r_vals 0 1 [.bool (decide (x638 < (a0.length : Int)))] (by kernel_rfl) (by kernel_rfl) ?_
  refine r_fin 1 (by kernel_rfl) ?_
  refine q_then ?_
  refine w_seq (p := [1, 1, 0, 1, 0, 0, 1]) (p0 := [1, 1, 0, 1, 0, 0, 1, 0]) (p1 := [1, 1, 0, 1, 0, 0, 1, 1]) (by kernel_rfl) ?_
  refine w_cond (p := [1, 1, 0, 1, 0, 0, 1, 0]) (p0 := [1, 1, 0, 1, 0, 0, 1, 0, 0]) (p1 := [1, 1, 0, 1, 0, 0, 1, 0, 1]) (c := (Operand.tmp 10)) (b := decide (x638 < (a0.length : Int))) (by kernel_rfl) (by kernel_rfl) ?_ ?_
  · intro h_
    have h645 : x638 < (a0.length : Int) := by simpa using h_
    clear h_
    rw [if_pos h645] at H
    refine w_skip (p := [1, 1, 0, 1, 0, 0, 1, 0, 0]) (by kernel_rfl) ?_
    refine q_then ?_
    refine w_seq (p := [1, 1, 0, 1, 0, 0, 1, 1]) (p0 := [1, 1, 0, 1, 0, 0, 1, 1, 0]) (p1 := [1, 1, 0, 1, 0, 0, 1, 1, 1]) (by kernel_rfl) ?_
    refine w_block (p := [1, 1, 0, 1, 0, 0, 1, 1, 0]) (p0 := [1, 1, 0, 1, 0, 0, 1, 1, 0, 0]) (id := 1) (by kernel_rfl) ?_
    refine w_seq (p := [1, 1, 0, 1, 0, 0, 1, 1, 0, 0]) (p0 := [1, 1, 0, 1, 0, 0, 1, 1, 0, 0, 0]) (p1 := [1, 1, 0, 1, 0, 0, 1, 1, 0, 0, 1]) (by kernel_rfl) ?_
    refine w_region (p := [1, 1, 0, 1, 0, 0, 1, 1, 0, 0, 0]) (id := 4) (by kernel_rfl) ?_
    refine p_split (0 ≤ x638) (fun h646 => ?_) (fun h646 => ?_)
    · rw [if_pos h646] at H
      refine r_do 0 (by kernel_rfl) (ow_index (K := (Kapi_Range 44)) (T := 38) (e := 44) (sz := 2) (x := (Operand.tmp 7)) (y := (Operand.tmp 9)) (k := .i64) (n := a0.length) (c := a0c) (A := a0A) (xs := a0) (iv := x638) (by kernel_rfl) (by kernel_rfl) (by kernel_rfl) (by kernel_rfl) h646 h645 (Rd.kp a0r k637 (fun _ _ h => h)) rfl (by kernel_rfl) ?_) 
      refine r_do 1 (by kernel_rfl) (ow_loadE (K := (Kapi_Range 44)) (T := 44) (x := (Operand.tmp 11)) (off := 0) (A := a0A) (n := a0.length) (xs := a0) (iv := x638) zapi_Range (.agg #[.int .u8 (((rd zapi_Range a0 x638)).f0), .int .u8 (((rd zapi_Range a0 x638)).f1)]) (by kernel_rfl) (by kernel_rfl) (Rd.kp a0r k637 (fun _ _ h => h)) rfl h646 h645 (by kernel_rfl) ?_) 
      refine r_do 2 (by kernel_rfl) (og_alloc (T := 44) (cs := #[.int .u8 0, .int .u8 0]) (by kernel_rfl) (by kernel_rfl) ?_) 
      intro b650 w647 e651 hb649 k648
      have n652 : b555 ≠ b650 := by rw [e651]; exact Nat.ne_of_lt hb639.lt
      have n653 : b562 ≠ b650 := by rw [e651]; exact Nat.ne_of_lt hb644.lt
      have g654 : w.heap.size ≤ b650 := by rw [e651]; exact Kp.size k637
      clear e651
      have k655 := Kp.trans k637 k648 (fun _ h => h.elim)
      have hb656 := Blk.kp hb639 k648 id
      have hb657 := Blk.kp hb644 k648 id
      refine r_do 3 (by kernel_rfl) (og_store (T := 44) (x := (Operand.tmp 5)) (y := (Operand.tmp 12)) (b := b650) (off := 0) (.agg #[.int .u8 (((rd zapi_Range a0 x638)).f0), .int .u8 (((rd zapi_Range a0 x638)).f1)]) (by kernel_rfl) (by kernel_rfl) (by kernel_rfl) hb649 (cs' := #[.int .u8 (((rd zapi_Range a0 x638)).f0), .int .u8 (((rd zapi_Range a0 x638)).f1)]) (by kernel_rfl) ?_) 
      intro w659 hb658 k660 _
      have k661 := Kp.trans k655 k660 (fun x hx => .inr (by rw [show x = _ from hx]; exact g654))
      have hb662 := Blk.kp hb656 k660 (show ¬ (b555 = b650) from n652)
      have hb663 := Blk.kp hb657 k660 (show ¬ (b562 = b650) from n653)
      refine r_fin 4 (by kernel_rfl) ?_
      refine q_then ?_
      refine w_seq (p := [1, 1, 0, 1, 0, 0, 1, 1, 0, 0, 1]) (p0 := [1, 1, 0, 1, 0, 0, 1, 1, 0, 0, 1, 0]) (p1 := [1, 1, 0, 1, 0, 0, 1, 1, 0, 0, 1, 1]) (by kernel_rfl) ?_
      refine w_region (p := [1, 1, 0, 1, 0, 0, 1, 1, 0, 0, 1, 0]) (id := 5) (by kernel_rfl) ?_
      refine r_vals 0 1 [.pointer (some ⟨b650, 0, none⟩)] (by kernel_rfl) (by kernel_rfl) ?_
      refine r_do 1 (by kernel_rfl) (og_load (T := 5) (x := (Operand.tmp 13)) (b := b650) (off := 0) (.int .u8 (((rd zapi_Range a0 x638)).f0)) (by kernel_rfl) (by kernel_rfl) hb658 (by kernel_rfl) ?_) 
      refine r_vals 2 4 [.int .i64 (W (((rd zapi_Range a0 x638)).f0)), .int .i64 (W (((rd zapi_Range a0 x638)).f0))] (by kernel_rfl) (by kernel_rfl) ?_
      refine r_fin 4 (by kernel_rfl) ?_
      refine q_then ?_
      refine w_block (p := [1, 1, 0, 1, 0, 0, 1, 1, 0, 0, 1, 1]) (p0 := [1, 1, 0, 1, 0, 0, 1, 1, 0, 0, 1, 1, 0]) (id := 2) (by kernel_rfl) ?_
      refine w_into (class_Of.F1 b555 b562 b650 (W (((rd zapi_Range a0 x638)).f0)) a0A a0 a0c x638) (by kernel_rfl) (fun u_ => ?_)
      refine w_loop (p := [1, 1, 0, 1, 0, 0, 1, 1, 0, 0, 1, 1, 0]) (p0 := [1, 1, 0, 1, 0, 0, 1, 1, 0, 0, 1, 1, 0, 0]) K (by kernel_rfl) ?_
      refine class_Of.l1.ok K a0A a0c a0 w a0r a0l r b555 b562 b650 x638 (fun a w' h_ => q_in_r (q_in_r (q_then_r (HR a w' h_)))) ?_ K (W (((rd zapi_Range a0 x638)).f0)) x640 x641 x642 x643 u_ w659 k661 hb662 hb663 hb658 ghb639 ghb644 g654 nhb639hb644 n652 n653 H
      intro y703 y704 y705 y706 u701 w699 k700 hb702 hb707 ghb702 ghb707 nhb702hb707 H
      try dsimp only at H
      refine q_in_hit ?_
      refine q_in ?_
      refine q_then ?_
      refine w_region (p := [1, 1, 0, 1, 0, 0, 1, 1, 1]) (id := 9) (by kernel_rfl) ?_
      refine r_vals 0 2 [.int .i64 (W (x638 + 1)), .int .i64 (W (x638 + 1))] (by kernel_rfl) (by kernel_rfl) ?_
      refine r_fin 2 (by kernel_rfl) ?_
      refine q_into (class_Of.F0 b555 b562 a0A a0 a0c (W (x638 + 1))) (by kernel_rfl) (fun u_ => ?_)
      exact HN0 (W (x638 + 1)) y703 y704 y705 y706 u_ w699 k700 hb702 hb707 ghb702 ghb707 nhb702hb707 H
    · rw [if_neg h646] at H
      cases H
  · intro h_
    have h645 : ¬ (x638 < (a0.length : Int)) := by simpa using h_
    clear h_
    rw [if_neg h645] at H
    refine w_exit (p := [1, 1, 0, 1, 0, 0, 1, 0, 1]) (id := 0) (by kernel_rfl) ?_
    refine q_then_x ?_
    refine q_into (class_Of.F0_0 b555 b562) (by kernel_rfl) (fun u_ => ?_)
    exact HX0_0 x640 x641 x642 x643 u_ w636 k637 hb639 hb644 ghb639 ghb644 nhb639hb644 H
set_option maxRecDepth 20000 in
set_option maxHeartbeats 4000000 in
theorem class_Of.l0.ok (K : Nat) (a0A : Option Addr) (a0c : Nat) (a0 : List Tapi_Range) (w : World) (a0r : Rd No w a0A ((Kapi_Range 44).cells a0)) (a0l : a0.length ≤ a0c) (r : Tapi_Class) (b555 : Nat) (b562 : Nat) {Q : Exit → Act → World → Prop} (HR : ∀ a w', bodyPost Try.prog Try.f33 (class_Of.R r w) .ret a w' → Q .ret a w') {brk0_0 : Int → Int → Int → Int → Option (Tapi_Class)} (HX0_0 : ∀ (y712q : Int) (y713q : Int) (y714q : Int) (y715q : Int) (u710q : Nat → Value) (w708q : World) (k709q : Kp No w w708q) (hb711q : Blk w708q b555 #[.int .u64 0, .int .u64 0, .int .u64 0, .int .u64 0] 37) (hb716q : Blk w708q b562 #[.int .u64 y712q, .int .u64 y713q, .int .u64 y714q, .int .u64 y715q] 37) (ghb711q : w.heap.size ≤ b555) (ghb716q : w.heap.size ≤ b562) (nhb711hb716q : b555 ≠ b562), brk0_0 y712q y713q y714q y715q = some r → Q (.exit 0) ⟨class_Of.F0_0 b555 b562 u710q, []⟩ w708q) : ∀ (n_ : Nat) (x638 : Int) (x640 : Int) (x641 : Int) (x642 : Int) (x643 : Int) (u635 : Nat → Value) (w636 : World) (k637 : Kp No w w636) (hb639 : Blk w636 b555 #[.int .u64 0, .int .u64 0, .int .u64 0, .int .u64 0] 37) (hb644 : Blk w636 b562 #[.int .u64 x640, .int .u64 x641, .int .u64 x642, .int .u64 x643] 37) (ghb639 : w.heap.size ≤ b555) (ghb644 : w.heap.size ≤ b562) (nhb639hb644 : b555 ≠ b562) (H : class_Of.l0 a0 K brk0_0 n_ x638 x640 x641 x642 x643 = some r), Code.rounds Try.prog (cd Try.f33 [1, 1, 0, 1, 0, 0]) Q n_ ⟨class_Of.F0 b555 b562 a0A a0 a0c x638 u635, []⟩ w636
  | 0, _, _, _, _, _, _, _, _, _, _, _, _, _, H => by cases H
  | n_ + 1, x638, x640, x641, x642, x643, u635, w636, k637, hb639, hb644, ghb639, ghb644, nhb639hb644, H =>
    class_Of.b0.ok K a0A a0c a0 w a0r a0l r b555 b562 (Q := Exit.then (Code.rounds Try.prog (cd Try.f33 [1, 1, 0, 1, 0, 0]) Q n_) Q) (fun a w' h_ => q_then_r (HR a w' h_)) (fun x0_ x1_ x2_ x3_ x4_ x5_ x6_ x7_ x8_ x9_ x10_ x11_ x12_ h_ => class_Of.l0.ok K a0A a0c a0 w a0r a0l r b555 b562 HR HX0_0 n_ x0_ x1_ x2_ x3_ x4_ x5_ x6_ x7_ x8_ x9_ x10_ x11_ x12_ h_) (fun x0_ x1_ x2_ x3_ x4_ x5_ x6_ x7_ x8_ x9_ x10_ x11_ h_ => q_then_x (HX0_0 x0_ x1_ x2_ x3_ x4_ x5_ x6_ x7_ x8_ x9_ x10_ x11_ h_)) x638 x640 x641 x642 x643 u635 w636 k637 hb639 hb644 ghb639 ghb644 nhb639hb644 H
set_option maxRecDepth 20000 in
set_option maxHeartbeats 4000000 in
theorem class_Of.ok (K : Nat) (a0A : Option Addr) (a0c : Nat) (a0 : List Tapi_Range) (a0n : Nat) (w : World) (a0r : Rd No w a0A ((Kapi_Range 44).cells a0)) (a0l : a0n ≤ a0c) (a0e : a0.length = a0n) (r : Tapi_Class) (H : class_Of.f K a0 = some r) : Calls Try.prog 33 #[.slice a0A a0n a0c] w (class_Of.R r w) := by
  subst a0e
  refine calls_cd (t := #[.slice a0A a0.length a0c, undef, undef, undef, undef, undef, undef, undef, undef, undef, undef, undef, undef, undef, undef, undef, undef, undef, undef, undef, undef, undef, undef, undef, undef, undef, undef, undef]) Try.func33 (by kernel_rfl) (by kernel_rfl) ?_
  unfold class_Of.f at H
  have HR : ∀ a w', bodyPost Try.prog Try.f33 (class_Of.R r w) .ret a w' → bodyPost Try.prog Try.f33 (class_Of.R r w) .ret a w' := fun _ _ h => h
  refine w_seq (p := []) (p0 := [0]) (p1 := [1]) (by kernel_rfl) ?_
  refine w_region (p := [0]) (id := 0) (by kernel_rfl) ?_
  refine r_do 0 (by kernel_rfl) (og_alloc (T := 37) (cs := #[.int .u64 0, .int .u64 0, .int .u64 0, .int .u64 0]) (by kernel_rfl) (by kernel_rfl) ?_) 
  intro b555 w552 e556 hb554 k553
  have g557 : w.heap.size ≤ b555 := by rw [e556]; exact Kp.size (Kp.refl No w)
  clear e556
  have k558 := Kp.trans (Kp.refl No w) k553 (fun _ h => h.elim)
  refine r_fin 1 (by kernel_rfl) ?_
  refine q_then ?_
  refine w_seq (p := [1]) (p0 := [1, 0]) (p1 := [1, 1]) (by kernel_rfl) ?_
  refine w_region (p := [1, 0]) (id := 1) (by kernel_rfl) ?_
  refine r_do 0 (by kernel_rfl) (og_alloc (T := 37) (cs := #[.int .u64 0, .int .u64 0, .int .u64 0, .int .u64 0]) (by kernel_rfl) (by kernel_rfl) ?_) 
  intro b562 w559 e563 hb561 k560
  have n564 : b555 ≠ b562 := by rw [e563]; exact Nat.ne_of_lt hb554.lt
  have g565 : w.heap.size ≤ b562 := by rw [e563]; exact Kp.size k558
  clear e563
  have k566 := Kp.trans k558 k560 (fun _ h => h.elim)
  have hb567 := Blk.kp hb554 k560 id
  refine r_fin 1 (by kernel_rfl) ?_
  refine q_then ?_
  refine w_seq (p := [1, 1]) (p0 := [1, 1, 0]) (p1 := [1, 1, 1]) (by kernel_rfl) ?_
  refine w_seq (p := [1, 1, 0]) (p0 := [1, 1, 0, 0]) (p1 := [1, 1, 0, 1]) (by kernel_rfl) ?_
  refine w_region (p := [1, 1, 0, 0]) (id := 2) (by kernel_rfl) ?_
  refine r_vals 0 3 [.slice a0A a0.length a0c, .int .i64 (a0.length : Int), .int .i64 0] (by kernel_rfl) (by kernel_rfl) ?_
  refine r_fin 3 (by kernel_rfl) ?_
  refine q_then ?_
  refine w_block (p := [1, 1, 0, 1]) (p0 := [1, 1, 0, 1, 0]) (id := 0) (by kernel_rfl) ?_
  refine w_into (class_Of.F0 b555 b562 a0A a0 a0c 0) (by kernel_rfl) (fun u_ => ?_)
  refine w_loop (p := [1, 1, 0, 1, 0]) (p0 := [1, 1, 0, 1, 0, 0]) K (by kernel_rfl) ?_
  refine class_Of.l0.ok K a0A a0c a0 w a0r a0l r b555 b562 (fun a w' h_ => q_in_r (q_then_r (HR a w' h_))) ?_ K 0 0 0 0 0 u_ w559 k566 hb567 hb561 g557 g565 n564 H
  intro y712 y713 y714 y715 u710 w708 k709 hb711 hb716 ghb711 ghb716 nhb711hb716 H
  try dsimp only at H
  refine q_in_hit ?_
  refine q_then ?_
  refine w_seq (p := [1, 1, 1]) (p0 := [1, 1, 1, 0]) (p1 := [1, 1, 1, 1]) (by kernel_rfl) ?_
  refine w_region (p := [1, 1, 1, 0]) (id := 10) (by kernel_rfl) ?_
  refine r_do 0 (by kernel_rfl) (og_load (T := 37) (x := (Operand.tmp 3)) (b := b562) (off := 0) (.agg #[.int .u64 y712, .int .u64 y713, .int .u64 y714, .int .u64 y715]) (by kernel_rfl) (by kernel_rfl) hb716 (by kernel_rfl) ?_) 
  refine r_do 1 (by kernel_rfl) (og_store (T := 37) (x := (Operand.tmp 2)) (y := (Operand.tmp 27)) (b := b555) (off := 0) (.agg #[.int .u64 y712, .int .u64 y713, .int .u64 y714, .int .u64 y715]) (by kernel_rfl) (by kernel_rfl) (by kernel_rfl) hb711 (cs' := #[.int .u64 y712, .int .u64 y713, .int .u64 y714, .int .u64 y715]) (by kernel_rfl) ?_) 
  intro w718 hb717 k719 _
  have k720 := Kp.trans k709 k719 (fun x hx => .inr (by rw [show x = _ from hx]; exact ghb711))
  have hb721 := Blk.kp hb716 k719 (show ¬ (b562 = b555) from (Ne.symm nhb711hb716))
  refine r_fin 2 (by kernel_rfl) ?_
  refine q_then ?_
  refine w_ret (p := [1, 1, 1, 1]) (by kernel_rfl) ?_
  obtain rfl := Option.some.inj H
  refine HR _ _ (body_ret (vs := [.agg #[.int .u64 y712, .int .u64 y713, .int .u64 y714, .int .u64 y715]]) (rv_cell (off := 0) (v := .agg #[.int .u64 y712, .int .u64 y713, .int .u64 y714, .int .u64 y715]) (by kernel_rfl) hb717 (by kernel_rfl) rfl) rfl ?_)
  exact ⟨rfl, k720⟩
/-! ### (*dowel/class.reader).skip -/
def class_reader_skip.j0F (a0b : Nat) (x736 : Bool) (u_ : Nat → Value) : Array Value := #[.pointer (some ⟨a0b, 0, none⟩), u_ 1, u_ 2, u_ 3, u_ 4, u_ 5, u_ 6, u_ 7, u_ 8, u_ 9, u_ 10, u_ 11, u_ 12, u_ 13, u_ 14, u_ 15, u_ 16, u_ 17, u_ 18, u_ 19, u_ 20, u_ 21, u_ 22, u_ 23, u_ 24, u_ 25, u_ 26, .bool x736, u_ 28, u_ 29, u_ 30, u_ 31, u_ 32, u_ 33, u_ 34]
def class_reader_skip.j0 (a0 : Tclass_reader) (x736 : Bool) : Option (Bool × Tclass_reader) := if x736 = true then (some (true, (⟨a0.f0, a0.f1, W (a0.f2 + 1)⟩ : Tclass_reader))) else (some (false, a0))
def class_reader_skip.f (K : Nat) (a0 : Tclass_reader) (a1 : Int) : Option (Bool × Tclass_reader) := if a0.f2 < (a0.f0.size : Int) then (if 0 ≤ a0.f2 then (class_reader_skip.j0 a0 ((bt a0.f0 a0.f2) == a1)) else none) else (class_reader_skip.j0 a0 false)
def class_reader_skip.R (a0b a0T : Nat) (r : Bool × Tclass_reader) (w : World) : Ending → World → Prop := fun e w' => e = .returned (.bool r.1) ∧ Kp (One a0b) w w' ∧ Blk w' a0b #[.string r.2.f0, .int .i64 r.2.f1, .int .i64 r.2.f2] a0T
set_option maxRecDepth 20000 in
set_option maxHeartbeats 4000000 in
theorem class_reader_skip.j0.ok (K : Nat) (a0b : Nat) (a0T : Nat) (a0 : Tclass_reader) (a1 : Int) (w : World) (r : Bool × Tclass_reader) {Q : Exit → Act → World → Prop}  (HR : ∀ a w', bodyPost Try.prog Try.f78 (class_reader_skip.R a0b a0T r w) .ret a w' → Q .ret a w')  (x736 : Bool) (u735 : Nat → Value) (w733 : World) (k734 : Kp (One a0b) w w733) (hb737 : Blk w733 a0b #[.string a0.f0, .int .i64 a0.f1, .int .i64 a0.f2] a0T) (H : class_reader_skip.j0 a0 x736 = some r) : (cd Try.f78 [1, 0, 1]).wp Try.prog (Exit.then (fun a w => (cd Try.f78 [1, 1]).wp Try.prog Q a w) Q) ⟨class_reader_skip.j0F a0b x736 u735, []⟩ w733 := by
  unfold class_reader_skip.j0 at H
  refine w_cond (p := [1, 0, 1]) (p0 := [1, 0, 1, 0]) (p1 := [1, 0, 1, 1]) (c := (Operand.tmp 27)) (b := x736) (by kernel_rfl) (by kernel_rfl) ?_ ?_
  · intro h_
    have h738 : x736 = true := h_
    clear h_
    rw [if_pos h738] at H
    refine w_seq (p := [1, 0, 1, 0]) (p0 := [1, 0, 1, 0, 0]) (p1 := [1, 0, 1, 0, 1]) (by kernel_rfl) ?_
    refine w_region (p := [1, 0, 1, 0, 0]) (id := 2) (by kernel_rfl) ?_
    refine r_vals 0 3 [.pointer (some ⟨a0b, 0, none⟩), .pointer (some ⟨a0b, 0, none⟩), .pointer (some ⟨a0b, 2, none⟩)] (by kernel_rfl) (by kernel_rfl) ?_
    refine r_do 3 (by kernel_rfl) (og_load (T := 3) (x := (Operand.tmp 30)) (b := a0b) (off := 2) (.int .i64 a0.f2) (by kernel_rfl) (by kernel_rfl) hb737 (by kernel_rfl) ?_) 
    refine r_vals 4 7 [.int .i64 (W (a0.f2 + 1)), .pointer (some ⟨a0b, 0, none⟩), .pointer (some ⟨a0b, 2, none⟩)] (by kernel_rfl) (by kernel_rfl) ?_
    refine r_do 7 (by kernel_rfl) (og_store (T := 3) (x := (Operand.tmp 34)) (y := (Operand.tmp 32)) (b := a0b) (off := 2) (.int .i64 (W (a0.f2 + 1))) (by kernel_rfl) (by kernel_rfl) (by kernel_rfl) hb737 (cs' := #[.string a0.f0, .int .i64 a0.f1, .int .i64 (W (a0.f2 + 1))]) (by kernel_rfl) ?_) 
    intro w740 hb739 k741 _
    have k742 := Kp.trans k734 k741 (fun x hx => .inl hx)
    refine r_fin 8 (by kernel_rfl) ?_
    refine q_then ?_
    refine w_seq (p := [1, 0, 1, 0, 1]) (p0 := [1, 0, 1, 0, 1, 0]) (p1 := [1, 0, 1, 0, 1, 1]) (by kernel_rfl) ?_
    refine w_region (p := [1, 0, 1, 0, 1, 0]) (id := 3) (by kernel_rfl) ?_
    refine r_vals 0 1 [.bool true] (by kernel_rfl) (by kernel_rfl) ?_
    refine r_fin 1 (by kernel_rfl) ?_
    refine q_then ?_
    refine w_ret (p := [1, 0, 1, 0, 1, 1]) (by kernel_rfl) ?_
    refine q_then_r ?_
    obtain rfl := Option.some.inj H
    refine HR _ _ (body_ret (vs := [.bool true]) (rv_tmp (by kernel_rfl) rfl) rfl ?_)
    exact ⟨rfl, k742, hb739⟩
  · intro h_
    have h738 : ¬ (x736 = true) := by rw [h_]; decide
    clear h_
    rw [if_neg h738] at H
    refine w_skip (p := [1, 0, 1, 1]) (by kernel_rfl) ?_
    refine q_then ?_
    refine w_seq (p := [1, 1]) (p0 := [1, 1, 0]) (p1 := [1, 1, 1]) (by kernel_rfl) ?_
    refine w_region (p := [1, 1, 0]) (id := 4) (by kernel_rfl) ?_
    refine r_vals 0 1 [.bool false] (by kernel_rfl) (by kernel_rfl) ?_
    refine r_fin 1 (by kernel_rfl) ?_
    refine q_then ?_
    refine w_ret (p := [1, 1, 1]) (by kernel_rfl) ?_
    obtain rfl := Option.some.inj H
    refine HR _ _ (body_ret (vs := [.bool false]) (rv_tmp (by kernel_rfl) rfl) rfl ?_)
    exact ⟨rfl, k734, hb737⟩
set_option maxRecDepth 20000 in
set_option maxHeartbeats 4000000 in
theorem class_reader_skip.ok (K : Nat) (a0b : Nat) (a0T : Nat) (a0 : Tclass_reader) (a1 : Int) (w : World) (a0h : Blk w a0b #[.string a0.f0, .int .i64 a0.f1, .int .i64 a0.f2] a0T) (r : Bool × Tclass_reader) (H : class_reader_skip.f K a0 a1 = some r) : Calls Try.prog 78 #[.pointer (some ⟨a0b, 0, none⟩), .int .u8 a1] w (class_reader_skip.R a0b a0T r w) := by
  refine calls_cd (t := #[.pointer (some ⟨a0b, 0, none⟩), .int .u8 a1, undef, undef, undef, undef, undef, undef, undef, undef, undef, undef, undef, undef, undef, undef, undef, undef, undef, undef, undef, undef, undef, undef, undef, undef, undef, undef, undef, undef, undef, undef, undef, undef, undef]) Try.func78 (by kernel_rfl) (by kernel_rfl) ?_
  unfold class_reader_skip.f at H
  have HR : ∀ a w', bodyPost Try.prog Try.f78 (class_reader_skip.R a0b a0T r w) .ret a w' → bodyPost Try.prog Try.f78 (class_reader_skip.R a0b a0T r w) .ret a w' := fun _ _ h => h
  refine w_seq (p := []) (p0 := [0]) (p1 := [1]) (by kernel_rfl) ?_
  refine w_region (p := [0]) (id := 0) (by kernel_rfl) ?_
  refine r_vals 0 1 [.bool false] (by kernel_rfl) (by kernel_rfl) ?_
  refine r_fin 1 (by kernel_rfl) ?_
  refine q_then ?_
  refine w_seq (p := [1]) (p0 := [1, 0]) (p1 := [1, 1]) (by kernel_rfl) ?_
  refine w_seq (p := [1, 0]) (p0 := [1, 0, 0]) (p1 := [1, 0, 1]) (by kernel_rfl) ?_
  refine b_split (decide (a0.f2 < (a0.f0.size : Int))) (fun h723 => ?_) (fun h723 => ?_)
  · have h722 : a0.f2 < (a0.f0.size : Int) := by simpa using h723
    rw [if_pos h722] at H
    refine p_split (0 ≤ a0.f2) (fun h724 => ?_) (fun h724 => ?_)
    · rw [if_pos h724] at H
      refine w_drawk (p := [1, 0, 0]) (id := 1) (by kernel_rfl) (by kernel_rfl) [0, 1, 3, 7, 0, 16, 48, 112, 240, 511, 1023, 2047, 4095, 8191, 16383, 2047, 34815, 100351, 231423, 524287, 2047, 2097151, 4194303] 23 (by kernel_rfl) (J := (fun _ w_ => Kp No w w_)) (fun w_ h1 h2 h3 h4 => Kp.same h1 h2 h3 h4) ?_
      refine k_pure 3 [.pointer (some ⟨a0b, 0, none⟩), .pointer (some ⟨a0b, 0, none⟩), .pointer (some ⟨a0b, 2, none⟩)] (by kernel_rfl) (fun _ => by kernel_rfl) (fun _ _ _ _ _ h => h) ?_
      refine k_op (.int .i64 a0.f2) (by kernel_rfl) (fun b_ w_ hJ hb_ hd_ he_ => og_load (T := 3) (x := (Operand.tmp 7)) (b := a0b) (off := 2) (.int .i64 a0.f2) (by kernel_rfl) (by kernel_rfl) (Blk.kp a0h hJ id) (by kernel_rfl) ⟨rfl, hJ⟩) ?_
      refine k_pure 7 [.pointer (some ⟨a0b, 0, none⟩), .pointer (some ⟨a0b, 0, none⟩), .pointer (some ⟨a0b, 0, none⟩)] (by kernel_rfl) (fun _ => by kernel_rfl) (fun _ _ _ _ _ h => h) ?_
      refine k_op (.string a0.f0) (by kernel_rfl) (fun b_ w_ hJ hb_ hd_ he_ => og_load (T := 9) (x := (Operand.tmp 11)) (b := a0b) (off := 0) (.string a0.f0) (by kernel_rfl) (by kernel_rfl) (Blk.kp a0h hJ id) (by kernel_rfl) ⟨rfl, hJ⟩) ?_
      refine k_pure 10 [.int .i64 (a0.f0.size : Int), .bool (decide (a0.f2 < (a0.f0.size : Int)))] (by kernel_rfl) (fun _ => by kernel_rfl) (fun _ _ _ _ _ h => h) ?_
      refine k_op (.bool true) (by kernel_rfl) (fun b_ w_ hJ hb_ hd_ he_ => og_run (v := .bool (decide (a0.f2 < (a0.f0.size : Int)))) (by kernel_rfl) ⟨by rw [h723], hJ⟩) ?_
      refine k_pure 14 [.pointer (some ⟨a0b, 0, none⟩), .pointer (some ⟨a0b, 0, none⟩), .pointer (some ⟨a0b, 0, none⟩)] (by kernel_rfl) (fun _ => by kernel_rfl) (fun _ _ _ _ _ h => h) ?_
      refine k_op (.string a0.f0) (by kernel_rfl) (fun b_ w_ hJ hb_ hd_ he_ => og_load (T := 9) (x := (Operand.tmp 18)) (b := a0b) (off := 0) (.string a0.f0) (by kernel_rfl) (by kernel_rfl) (Blk.kp a0h hJ id) (by kernel_rfl) ⟨rfl, hJ⟩) ?_
      refine k_pure 18 [.pointer (some ⟨a0b, 0, none⟩), .pointer (some ⟨a0b, 0, none⟩), .pointer (some ⟨a0b, 2, none⟩)] (by kernel_rfl) (fun _ => by kernel_rfl) (fun _ _ _ _ _ h => h) ?_
      refine k_op (.int .i64 a0.f2) (by kernel_rfl) (fun b_ w_ hJ hb_ hd_ he_ => og_load (T := 3) (x := (Operand.tmp 22)) (b := a0b) (off := 2) (.int .i64 a0.f2) (by kernel_rfl) (by kernel_rfl) (Blk.kp a0h hJ id) (by kernel_rfl) ⟨rfl, hJ⟩) ?_
      refine k_op (.int .u8 (bt a0.f0 a0.f2)) (by kernel_rfl) (fun b_ w_ hJ hb_ hd_ he_ => og_sindex (T := 9) (x := (Operand.tmp 19)) (y := (Operand.tmp 23)) (k := .i64) (by kernel_rfl) (by kernel_rfl) (by kernel_rfl) (by kernel_rfl) h724 h722 ⟨rfl, hJ⟩) ?_
      refine k_pure 23 [.int .u8 a1, .bool ((bt a0.f0 a0.f2) == a1), .bool ((bt a0.f0 a0.f2) == a1)] (by kernel_rfl) (fun _ => by kernel_rfl) (fun _ _ _ _ _ h => h) ?_
      refine k_nil ?_
      rintro b_ w725 hall_ k_
      have k726 := k_
      have k727 := Kp.trans (Kp.refl (One a0b) w) k726 (fun _ h => h.elim)
      have hb728 := Blk.kp a0h k726 id
      refine r_fin 23 (by kernel_rfl) ?_
      refine q_then ?_
      refine w_into (class_reader_skip.j0F a0b ((bt a0.f0 a0.f2) == a1)) (by kernel_rfl) (fun u_ => ?_)
      exact class_reader_skip.j0.ok K a0b a0T a0 a1 w r  HR  ((bt a0.f0 a0.f2) == a1) u_ w725 k727 hb728 H
    · rw [if_neg h724] at H
      cases H
  · have h722 : ¬ (a0.f2 < (a0.f0.size : Int)) := by simpa using h723
    rw [if_neg h722] at H
    refine w_drawk (p := [1, 0, 0]) (id := 1) (by kernel_rfl) (by kernel_rfl) [0, 1, 3, 7, 0, 16, 48, 112, 240, 511, 1023, 2047, 4095, 8191, 16383, 2047, 34815, 100351, 231423, 524287, 2047, 2097151, 4194303] 23 (by kernel_rfl) (J := (fun _ w_ => Kp No w w_)) (fun w_ h1 h2 h3 h4 => Kp.same h1 h2 h3 h4) ?_
    refine k_pure 3 [.pointer (some ⟨a0b, 0, none⟩), .pointer (some ⟨a0b, 0, none⟩), .pointer (some ⟨a0b, 2, none⟩)] (by kernel_rfl) (fun _ => by kernel_rfl) (fun _ _ _ _ _ h => h) ?_
    refine k_op (.int .i64 a0.f2) (by kernel_rfl) (fun b_ w_ hJ hb_ hd_ he_ => og_load (T := 3) (x := (Operand.tmp 7)) (b := a0b) (off := 2) (.int .i64 a0.f2) (by kernel_rfl) (by kernel_rfl) (Blk.kp a0h hJ id) (by kernel_rfl) ⟨rfl, hJ⟩) ?_
    refine k_pure 7 [.pointer (some ⟨a0b, 0, none⟩), .pointer (some ⟨a0b, 0, none⟩), .pointer (some ⟨a0b, 0, none⟩)] (by kernel_rfl) (fun _ => by kernel_rfl) (fun _ _ _ _ _ h => h) ?_
    refine k_op (.string a0.f0) (by kernel_rfl) (fun b_ w_ hJ hb_ hd_ he_ => og_load (T := 9) (x := (Operand.tmp 11)) (b := a0b) (off := 0) (.string a0.f0) (by kernel_rfl) (by kernel_rfl) (Blk.kp a0h hJ id) (by kernel_rfl) ⟨rfl, hJ⟩) ?_
    refine k_pure 10 [.int .i64 (a0.f0.size : Int), .bool (decide (a0.f2 < (a0.f0.size : Int)))] (by kernel_rfl) (fun _ => by kernel_rfl) (fun _ _ _ _ _ h => h) ?_
    refine k_op (.bool false) (by kernel_rfl) (fun b_ w_ hJ hb_ hd_ he_ => og_run (v := .bool (decide (a0.f2 < (a0.f0.size : Int)))) (by kernel_rfl) ⟨by rw [h723], hJ⟩) ?_
    refine k_pure 23 [undef, undef, undef, undef, undef, undef, undef, undef, undef, undef, undef, .bool false] (by kernel_rfl) (fun _ => by kernel_rfl) (fun _ _ _ _ _ h => h) ?_
    refine k_nil ?_
    rintro b_ w729 hall_ k_
    have k730 := k_
    have k731 := Kp.trans (Kp.refl (One a0b) w) k730 (fun _ h => h.elim)
    have hb732 := Blk.kp a0h k730 id
    refine r_fin 23 (by kernel_rfl) ?_
    refine q_then ?_
    refine w_into (class_reader_skip.j0F a0b false) (by kernel_rfl) (fun u_ => ?_)
    exact class_reader_skip.j0.ok K a0b a0T a0 a1 w r  HR  false u_ w729 k731 hb732 H
/-! ### dowel/class.digit -/
def class_digit.j0F (a0 : Int) (x747 : Bool) (u_ : Nat → Value) : Array Value := #[.int .u8 a0, u_ 1, u_ 2, .bool x747, u_ 4, u_ 5, u_ 6, u_ 7, u_ 8, u_ 9, u_ 10, u_ 11, u_ 12, u_ 13, u_ 14, u_ 15, u_ 16, u_ 17, u_ 18, u_ 19, u_ 20, u_ 21, u_ 22, u_ 23, u_ 24, u_ 25, u_ 26]
def class_digit.j1F (a0 : Int) (x753 : Bool) (u_ : Nat → Value) : Array Value := #[.int .u8 a0, u_ 1, u_ 2, u_ 3, u_ 4, u_ 5, u_ 6, u_ 7, u_ 8, u_ 9, u_ 10, u_ 11, u_ 12, .bool x753, u_ 14, u_ 15, u_ 16, u_ 17, u_ 18, u_ 19, u_ 20, u_ 21, u_ 22, u_ 23, u_ 24, u_ 25, u_ 26]
def class_digit.j1 (a0 : Int) (x753 : Bool) : Option (Int) := if x753 = true then (some (W ((W (W8 ((bits .or .u8 a0 32) - 97))) + 10))) else (some (-1))
def class_digit.j0 (a0 : Int) (x747 : Bool) : Option (Int) := if x747 = true then (some (W (W8 (a0 - 48)))) else (if (bits .or .u8 a0 32) ≥ 97 then (class_digit.j1 a0 (decide ((bits .or .u8 a0 32) ≤ 102))) else (class_digit.j1 a0 false))
def class_digit.f (K : Nat) (a0 : Int) : Option (Int) := if a0 ≥ 48 then (class_digit.j0 a0 (decide (a0 ≤ 57))) else (class_digit.j0 a0 false)
def class_digit.R (r : Int) (w : World) : Ending → World → Prop := fun e w' => e = .returned (.int .i64 r) ∧ Kp No w w'
set_option maxRecDepth 20000 in
set_option maxHeartbeats 4000000 in
theorem class_digit.j1.ok (K : Nat) (a0 : Int) (w : World) (r : Int) {Q : Exit → Act → World → Prop}  (HR : ∀ a w', bodyPost Try.prog Try.f171 (class_digit.R r w) .ret a w' → Q .ret a w')  (x753 : Bool) (u752 : Nat → Value) (w750 : World) (k751 : Kp No w w750)  (H : class_digit.j1 a0 x753 = some r) : (cd Try.f171 [1, 0, 0, 1, 1, 1]).wp Try.prog (Exit.inBlock 0 (Exit.then (fun a w => (cd Try.f171 [1, 1]).wp Try.prog Q a w) Q)) ⟨class_digit.j1F a0 x753 u752, []⟩ w750 := by
  unfold class_digit.j1 at H
  refine w_cond (p := [1, 0, 0, 1, 1, 1]) (p0 := [1, 0, 0, 1, 1, 1, 0]) (p1 := [1, 0, 0, 1, 1, 1, 1]) (c := (Operand.tmp 13)) (b := x753) (by kernel_rfl) (by kernel_rfl) ?_ ?_
  · intro h_
    have h754 : x753 = true := h_
    clear h_
    rw [if_pos h754] at H
    refine w_seq (p := [1, 0, 0, 1, 1, 1, 0]) (p0 := [1, 0, 0, 1, 1, 1, 0, 0]) (p1 := [1, 0, 0, 1, 1, 1, 0, 1]) (by kernel_rfl) ?_
    refine w_region (p := [1, 0, 0, 1, 1, 1, 0, 0]) (id := 4) (by kernel_rfl) ?_
    refine r_vals 0 6 [.int .u8 a0, .int .u8 (bits .or .u8 a0 32), .int .u8 (W8 ((bits .or .u8 a0 32) - 97)), .int .i64 (W (W8 ((bits .or .u8 a0 32) - 97))), .int .i64 (W ((W (W8 ((bits .or .u8 a0 32) - 97))) + 10)), .int .i64 (W ((W (W8 ((bits .or .u8 a0 32) - 97))) + 10))] (by kernel_rfl) (by kernel_rfl) ?_
    refine r_fin 6 (by kernel_rfl) ?_
    refine q_then ?_
    refine w_ret (p := [1, 0, 0, 1, 1, 1, 0, 1]) (by kernel_rfl) ?_
    refine q_in_r ?_
    refine q_then_r ?_
    obtain rfl := Option.some.inj H
    refine HR _ _ (body_ret (vs := [.int .i64 (W ((W (W8 ((bits .or .u8 a0 32) - 97))) + 10))]) (rv_tmp (by kernel_rfl) rfl) rfl ?_)
    exact ⟨rfl, k751⟩
  · intro h_
    have h754 : ¬ (x753 = true) := by rw [h_]; decide
    clear h_
    rw [if_neg h754] at H
    refine w_skip (p := [1, 0, 0, 1, 1, 1, 1]) (by kernel_rfl) ?_
    refine q_in ?_
    refine q_then ?_
    refine w_seq (p := [1, 1]) (p0 := [1, 1, 0]) (p1 := [1, 1, 1]) (by kernel_rfl) ?_
    refine w_region (p := [1, 1, 0]) (id := 5) (by kernel_rfl) ?_
    refine r_vals 0 1 [.int .i64 (-1)] (by kernel_rfl) (by kernel_rfl) ?_
    refine r_fin 1 (by kernel_rfl) ?_
    refine q_then ?_
    refine w_ret (p := [1, 1, 1]) (by kernel_rfl) ?_
    obtain rfl := Option.some.inj H
    refine HR _ _ (body_ret (vs := [.int .i64 (-1)]) (rv_tmp (by kernel_rfl) rfl) rfl ?_)
    exact ⟨rfl, k751⟩
set_option maxRecDepth 20000 in
set_option maxHeartbeats 4000000 in
theorem class_digit.j0.ok (K : Nat) (a0 : Int) (w : World) (r : Int) {Q : Exit → Act → World → Prop}  (HR : ∀ a w', bodyPost Try.prog Try.f171 (class_digit.R r w) .ret a w' → Q .ret a w')  (x747 : Bool) (u746 : Nat → Value) (w744 : World) (k745 : Kp No w w744)  (H : class_digit.j0 a0 x747 = some r) : (cd Try.f171 [1, 0, 0, 1]).wp Try.prog (Exit.inBlock 0 (Exit.then (fun a w => (cd Try.f171 [1, 1]).wp Try.prog Q a w) Q)) ⟨class_digit.j0F a0 x747 u746, []⟩ w744 := by
  unfold class_digit.j0 at H
  refine w_cond (p := [1, 0, 0, 1]) (p0 := [1, 0, 0, 1, 0]) (p1 := [1, 0, 0, 1, 1]) (c := (Operand.tmp 3)) (b := x747) (by kernel_rfl) (by kernel_rfl) ?_ ?_
  · intro h_
    have h748 : x747 = true := h_
    clear h_
    rw [if_pos h748] at H
    refine w_seq (p := [1, 0, 0, 1, 0]) (p0 := [1, 0, 0, 1, 0, 0]) (p1 := [1, 0, 0, 1, 0, 1]) (by kernel_rfl) ?_
    refine w_region (p := [1, 0, 0, 1, 0, 0]) (id := 2) (by kernel_rfl) ?_
    refine r_vals 0 4 [.int .u8 a0, .int .u8 (W8 (a0 - 48)), .int .i64 (W (W8 (a0 - 48))), .int .i64 (W (W8 (a0 - 48)))] (by kernel_rfl) (by kernel_rfl) ?_
    refine r_fin 4 (by kernel_rfl) ?_
    refine q_then ?_
    refine w_ret (p := [1, 0, 0, 1, 0, 1]) (by kernel_rfl) ?_
    refine q_in_r ?_
    refine q_then_r ?_
    obtain rfl := Option.some.inj H
    refine HR _ _ (body_ret (vs := [.int .i64 (W (W8 (a0 - 48)))]) (rv_tmp (by kernel_rfl) rfl) rfl ?_)
    exact ⟨rfl, k745⟩
  · intro h_
    have h748 : ¬ (x747 = true) := by rw [h_]; decide
    clear h_
    rw [if_neg h748] at H
    refine w_seq (p := [1, 0, 0, 1, 1]) (p0 := [1, 0, 0, 1, 1, 0]) (p1 := [1, 0, 0, 1, 1, 1]) (by kernel_rfl) ?_
    refine w_region (p := [1, 0, 0, 1, 1, 0]) (id := 3) (by kernel_rfl) ?_
    refine r_vals 0 4 [.int .u8 a0, .int .u8 (bits .or .u8 a0 32), .bool (decide ((bits .or .u8 a0 32) ≥ 97)), .bool (decide ((bits .or .u8 a0 32) ≥ 97))] (by kernel_rfl) (by kernel_rfl) ?_
    refine b_split (decide ((bits .or .u8 a0 32) ≥ 97)) (fun h_ => ?_) (fun h_ => ?_)
    · have h749 : (bits .or .u8 a0 32) ≥ 97 := by simpa using h_
      rw [if_pos h749] at H
      rw [h_]
      clear h_
      refine r_vals 4 9 [.int .u8 a0, .int .u8 (bits .or .u8 a0 32), .bool (decide ((bits .or .u8 a0 32) ≤ 102)), .bool (decide ((bits .or .u8 a0 32) ≤ 102)), .bool (decide ((bits .or .u8 a0 32) ≤ 102))] (by kernel_rfl) (by kernel_rfl) ?_
      refine r_fin 9 (by kernel_rfl) ?_
      refine q_then ?_
      refine w_into (class_digit.j1F a0 (decide ((bits .or .u8 a0 32) ≤ 102))) (by kernel_rfl) (fun u_ => ?_)
      exact class_digit.j1.ok K a0 w r  HR  (decide ((bits .or .u8 a0 32) ≤ 102)) u_ w744 k745  H
    · have h749 : ¬ ((bits .or .u8 a0 32) ≥ 97) := by simpa using h_
      rw [if_neg h749] at H
      rw [h_]
      clear h_
      refine r_vals 4 9 [undef, undef, undef, .bool false, .bool false] (by kernel_rfl) (by kernel_rfl) ?_
      refine r_fin 9 (by kernel_rfl) ?_
      refine q_then ?_
      refine w_into (class_digit.j1F a0 false) (by kernel_rfl) (fun u_ => ?_)
      exact class_digit.j1.ok K a0 w r  HR  false u_ w744 k745  H
set_option maxRecDepth 20000 in
set_option maxHeartbeats 4000000 in
theorem class_digit.ok (K : Nat) (a0 : Int) (w : World)  (r : Int) (H : class_digit.f K a0 = some r) : Calls Try.prog 171 #[.int .u8 a0] w (class_digit.R r w) := by
  refine calls_cd (t := #[.int .u8 a0, undef, undef, undef, undef, undef, undef, undef, undef, undef, undef, undef, undef, undef, undef, undef, undef, undef, undef, undef, undef, undef, undef, undef, undef, undef, undef]) Try.func171 (by kernel_rfl) (by kernel_rfl) ?_
  unfold class_digit.f at H
  have HR : ∀ a w', bodyPost Try.prog Try.f171 (class_digit.R r w) .ret a w' → bodyPost Try.prog Try.f171 (class_digit.R r w) .ret a w' := fun _ _ h => h
  refine w_seq (p := []) (p0 := [0]) (p1 := [1]) (by kernel_rfl) ?_
  refine w_region (p := [0]) (id := 0) (by kernel_rfl) ?_
  refine r_vals 0 1 [.int .i64 0] (by kernel_rfl) (by kernel_rfl) ?_
  refine r_fin 1 (by kernel_rfl) ?_
  refine q_then ?_
  refine w_seq (p := [1]) (p0 := [1, 0]) (p1 := [1, 1]) (by kernel_rfl) ?_
  refine w_block (p := [1, 0]) (p0 := [1, 0, 0]) (id := 0) (by kernel_rfl) ?_
  refine w_seq (p := [1, 0, 0]) (p0 := [1, 0, 0, 0]) (p1 := [1, 0, 0, 1]) (by kernel_rfl) ?_
  refine w_region (p := [1, 0, 0, 0]) (id := 1) (by kernel_rfl) ?_
  refine r_vals 0 3 [.int .u8 a0, .bool (decide (a0 ≥ 48)), .bool (decide (a0 ≥ 48))] (by kernel_rfl) (by kernel_rfl) ?_
  refine b_split (decide (a0 ≥ 48)) (fun h_ => ?_) (fun h_ => ?_)
  · have h743 : a0 ≥ 48 := by simpa using h_
    rw [if_pos h743] at H
    rw [h_]
    clear h_
    refine r_vals 3 7 [.int .u8 a0, .bool (decide (a0 ≤ 57)), .bool (decide (a0 ≤ 57)), .bool (decide (a0 ≤ 57))] (by kernel_rfl) (by kernel_rfl) ?_
    refine r_fin 7 (by kernel_rfl) ?_
    refine q_then ?_
    refine w_into (class_digit.j0F a0 (decide (a0 ≤ 57))) (by kernel_rfl) (fun u_ => ?_)
    exact class_digit.j0.ok K a0 w r  HR  (decide (a0 ≤ 57)) u_ w (Kp.refl No w)  H
  · have h743 : ¬ (a0 ≥ 48) := by simpa using h_
    rw [if_neg h743] at H
    rw [h_]
    clear h_
    refine r_vals 3 7 [undef, undef, .bool false, .bool false] (by kernel_rfl) (by kernel_rfl) ?_
    refine r_fin 7 (by kernel_rfl) ?_
    refine q_then ?_
    refine w_into (class_digit.j0F a0 false) (by kernel_rfl) (fun u_ => ?_)
    exact class_digit.j0.ok K a0 w r  HR  false u_ w (Kp.refl No w)  H
/-! ### (*dowel/class.reader).escape -/
def class_reader_escape.j2F (a0b : Nat) (b758 : Nat) (x882 : Int) (u_ : Nat → Value) : Array Value := #[.pointer (some ⟨a0b, 0, none⟩), u_ 1, u_ 2, .pointer (some ⟨b758, 0, none⟩), u_ 4, .int .u8 x882, u_ 6, u_ 7, u_ 8, u_ 9, u_ 10, u_ 11, u_ 12, u_ 13, u_ 14, u_ 15, u_ 16, u_ 17, u_ 18, u_ 19, u_ 20, u_ 21, u_ 22, u_ 23, u_ 24, u_ 25, u_ 26, u_ 27, u_ 28, u_ 29, u_ 30, u_ 31, u_ 32, u_ 33, u_ 34, u_ 35, u_ 36, u_ 37, u_ 38, u_ 39, u_ 40, u_ 41, u_ 42, u_ 43, u_ 44, u_ 45, u_ 46, u_ 47, u_ 48, u_ 49, u_ 50, u_ 51, u_ 52, u_ 53, u_ 54, u_ 55, u_ 56, u_ 57, u_ 58, u_ 59, u_ 60, u_ 61, u_ 62, u_ 63, u_ 64, u_ 65, u_ 66, u_ 67, u_ 68, u_ 69, u_ 70, u_ 71, u_ 72, u_ 73, u_ 74, u_ 75, u_ 76, u_ 77, u_ 78, u_ 79, u_ 80, u_ 81, u_ 82, u_ 83, u_ 84, u_ 85, u_ 86, u_ 87, u_ 88, u_ 89, u_ 90, u_ 91, u_ 92, u_ 93, u_ 94, u_ 95, u_ 96, u_ 97, u_ 98, u_ 99, u_ 100, u_ 101, u_ 102, u_ 103, u_ 104, u_ 105, u_ 106, u_ 107, u_ 108, u_ 109, u_ 110, u_ 111, u_ 112, u_ 113, u_ 114]
def class_reader_escape.j2 (a0 : Tclass_reader) (x882 : Int) : Option (Int × Tapi_Fault × Tclass_reader) := some (x882, zapi_Fault, (⟨a0.f0, a0.f1, W (a0.f2 + 2)⟩ : Tclass_reader))
def class_reader_escape.j0F (a0b : Nat) (b758 : Nat) (b767 : Nat) (a0 : Tclass_reader) (x813 : Bool) (u_ : Nat → Value) : Array Value := #[.pointer (some ⟨a0b, 0, none⟩), u_ 1, u_ 2, .pointer (some ⟨b758, 0, none⟩), .pointer (some ⟨b767, 0, none⟩), .int .u8 (bt a0.f0 (W (a0.f2 + 1))), u_ 6, u_ 7, u_ 8, u_ 9, u_ 10, u_ 11, u_ 12, u_ 13, u_ 14, u_ 15, u_ 16, u_ 17, u_ 18, u_ 19, u_ 20, u_ 21, u_ 22, u_ 23, u_ 24, u_ 25, u_ 26, u_ 27, u_ 28, u_ 29, u_ 30, u_ 31, u_ 32, u_ 33, u_ 34, .int .u8 (bt a0.f0 (W (a0.f2 + 1))), u_ 36, u_ 37, u_ 38, u_ 39, u_ 40, u_ 41, u_ 42, .bool x813, u_ 44, u_ 45, u_ 46, u_ 47, u_ 48, u_ 49, u_ 50, u_ 51, u_ 52, u_ 53, u_ 54, u_ 55, u_ 56, u_ 57, u_ 58, u_ 59, u_ 60, u_ 61, u_ 62, u_ 63, u_ 64, u_ 65, u_ 66, u_ 67, u_ 68, u_ 69, u_ 70, u_ 71, u_ 72, u_ 73, u_ 74, u_ 75, u_ 76, u_ 77, u_ 78, u_ 79, u_ 80, u_ 81, u_ 82, u_ 83, u_ 84, u_ 85, u_ 86, u_ 87, u_ 88, u_ 89, u_ 90, u_ 91, u_ 92, u_ 93, u_ 94, u_ 95, u_ 96, u_ 97, u_ 98, u_ 99, u_ 100, u_ 101, u_ 102, u_ 103, u_ 104, u_ 105, u_ 106, u_ 107, u_ 108, u_ 109, u_ 110, u_ 111, u_ 112, u_ 113, u_ 114]
def class_reader_escape.j1F (a0b : Nat) (b758 : Nat) (b767 : Nat) (t834 : Int) (t838 : Int) (x850 : Bool) (u_ : Nat → Value) : Array Value := #[.pointer (some ⟨a0b, 0, none⟩), u_ 1, u_ 2, .pointer (some ⟨b758, 0, none⟩), .pointer (some ⟨b767, 0, none⟩), u_ 5, .int .i64 t834, .int .i64 t838, u_ 8, u_ 9, u_ 10, u_ 11, u_ 12, u_ 13, u_ 14, u_ 15, u_ 16, u_ 17, u_ 18, u_ 19, u_ 20, u_ 21, u_ 22, u_ 23, u_ 24, u_ 25, u_ 26, u_ 27, u_ 28, u_ 29, u_ 30, u_ 31, u_ 32, u_ 33, u_ 34, u_ 35, u_ 36, u_ 37, u_ 38, u_ 39, u_ 40, u_ 41, u_ 42, u_ 43, u_ 44, u_ 45, u_ 46, u_ 47, u_ 48, u_ 49, u_ 50, u_ 51, u_ 52, u_ 53, u_ 54, u_ 55, u_ 56, u_ 57, u_ 58, u_ 59, u_ 60, u_ 61, u_ 62, u_ 63, u_ 64, u_ 65, u_ 66, u_ 67, u_ 68, u_ 69, u_ 70, u_ 71, u_ 72, u_ 73, u_ 74, u_ 75, u_ 76, u_ 77, u_ 78, u_ 79, u_ 80, u_ 81, u_ 82, u_ 83, u_ 84, u_ 85, u_ 86, u_ 87, u_ 88, u_ 89, u_ 90, .bool x850, u_ 92, u_ 93, u_ 94, u_ 95, u_ 96, u_ 97, u_ 98, u_ 99, u_ 100, u_ 101, u_ 102, u_ 103, u_ 104, u_ 105, u_ 106, u_ 107, u_ 108, u_ 109, u_ 110, u_ 111, u_ 112, u_ 113, u_ 114]
def class_reader_escape.j1 (a0 : Tclass_reader) (t834 : Int) (t838 : Int) (x850 : Bool) : Option (Int × Tapi_Fault × Tclass_reader) := if x850 = true then (some (0, (⟨a0.f2, 42⟩ : Tapi_Fault), a0)) else (some (W8 (bits .or .i64 (shv .shl .i64 t834 4) t838), zapi_Fault, (⟨a0.f0, a0.f1, W (a0.f2 + 4)⟩ : Tclass_reader)))
def class_reader_escape.j0 (a0 : Tclass_reader) (K : Nat) (x813 : Bool) : Option (Int × Tapi_Fault × Tclass_reader) := if x813 = true then (class_reader_escape.j2 a0 (bt a0.f0 (W (a0.f2 + 1)))) else (if (bt a0.f0 (W (a0.f2 + 1))) = 120 then (if (W (a0.f2 + 3)) ≥ (a0.f0.size : Int) then (some (0, (⟨a0.f2, 42⟩ : Tapi_Fault), a0)) else (if 0 ≤ (W (a0.f2 + 2)) then (if (W (a0.f2 + 2)) < (a0.f0.size : Int) then ((class_digit.f K (bt a0.f0 (W (a0.f2 + 2)))).bind fun t834 => (if 0 ≤ (W (a0.f2 + 3)) then (if (W (a0.f2 + 3)) < (a0.f0.size : Int) then ((class_digit.f K (bt a0.f0 (W (a0.f2 + 3)))).bind fun t838 => (if t834 < 0 then (class_reader_escape.j1 a0 t834 t838 true) else (class_reader_escape.j1 a0 t834 t838 (decide (t838 < 0))))) else none) else none)) else none) else none)) else (some (0, (⟨a0.f2, 42⟩ : Tapi_Fault), a0)))
def class_reader_escape.f (K : Nat) (a0 : Tclass_reader) : Option (Int × Tapi_Fault × Tclass_reader) := if (W (a0.f2 + 1)) ≥ (a0.f0.size : Int) then (some (0, (⟨a0.f2, 42⟩ : Tapi_Fault), a0)) else (if 0 ≤ (W (a0.f2 + 1)) then (if (W (a0.f2 + 1)) < (a0.f0.size : Int) then (if (bt a0.f0 (W (a0.f2 + 1))) = 116 then (class_reader_escape.j2 a0 9) else (if (bt a0.f0 (W (a0.f2 + 1))) = 110 then (class_reader_escape.j2 a0 10) else (if (bt a0.f0 (W (a0.f2 + 1))) = 114 then (class_reader_escape.j2 a0 13) else (if (bt a0.f0 (W (a0.f2 + 1))) = 92 then (class_reader_escape.j0 a0 K ((bt a0.f0 (W (a0.f2 + 1))) == 92)) else (if (bt a0.f0 (W (a0.f2 + 1))) = 93 then (class_reader_escape.j0 a0 K ((bt a0.f0 (W (a0.f2 + 1))) == 93)) else (if (bt a0.f0 (W (a0.f2 + 1))) = 45 then (class_reader_escape.j0 a0 K ((bt a0.f0 (W (a0.f2 + 1))) == 45)) else (if (bt a0.f0 (W (a0.f2 + 1))) = 94 then (class_reader_escape.j0 a0 K ((bt a0.f0 (W (a0.f2 + 1))) == 94)) else (if (bt a0.f0 (W (a0.f2 + 1))) = 39 then (class_reader_escape.j0 a0 K ((bt a0.f0 (W (a0.f2 + 1))) == 39)) else (class_reader_escape.j0 a0 K ((bt a0.f0 (W (a0.f2 + 1))) == 34)))))))))) else none) else none)
def class_reader_escape.R (a0b a0T : Nat) (r : Int × Tapi_Fault × Tclass_reader) (w : World) : Ending → World → Prop := fun e w' => e = .returned (.tuple #[.int .u8 r.1, .agg #[.int .i64 r.2.1.f0, .int .i64 r.2.1.f1]]) ∧ Kp (One a0b) w w' ∧ Blk w' a0b #[.string r.2.2.f0, .int .i64 r.2.2.f1, .int .i64 r.2.2.f2] a0T
set_option maxRecDepth 20000 in
set_option maxHeartbeats 4000000 in
theorem class_reader_escape.j2.ok (K : Nat) (a0b : Nat) (a0T : Nat) (a0 : Tclass_reader) (w : World) (r : Int × Tapi_Fault × Tclass_reader) {Q : Exit → Act → World → Prop} (b758 : Nat) (HR : ∀ a w', bodyPost Try.prog Try.f145 (class_reader_escape.R a0b a0T r w) .ret a w' → Q .ret a w')  (x882 : Int) (u881 : Nat → Value) (w879 : World) (k880 : Kp (One a0b) w w879) (hb883 : Blk w879 a0b #[.string a0.f0, .int .i64 a0.f1, .int .i64 a0.f2] a0T) (hb884 : Blk w879 b758 #[.int .i64 0, .int .i64 0] 65) (ghb884 : w.heap.size ≤ b758) (nhb883hb884 : a0b ≠ b758) (H : class_reader_escape.j2 a0 x882 = some r) : (Exit.then (fun a w => (cd Try.f145 [1, 1, 1, 1, 1]).wp Try.prog Q a w) Q) .normal ⟨class_reader_escape.j2F a0b b758 x882 u881, []⟩ w879 := by
  unfold class_reader_escape.j2 at H
  refine q_then ?_
  refine w_seq (p := [1, 1, 1, 1, 1]) (p0 := [1, 1, 1, 1, 1, 0]) (p1 := [1, 1, 1, 1, 1, 1]) (by kernel_rfl) ?_
  refine w_region (p := [1, 1, 1, 1, 1, 0]) (id := 27) (by kernel_rfl) ?_
  refine r_vals 0 3 [.pointer (some ⟨a0b, 0, none⟩), .pointer (some ⟨a0b, 0, none⟩), .pointer (some ⟨a0b, 2, none⟩)] (by kernel_rfl) (by kernel_rfl) ?_
  refine r_do 3 (by kernel_rfl) (og_load (T := 3) (x := (Operand.tmp 108)) (b := a0b) (off := 2) (.int .i64 a0.f2) (by kernel_rfl) (by kernel_rfl) hb883 (by kernel_rfl) ?_) 
  refine r_vals 4 7 [.int .i64 (W (a0.f2 + 2)), .pointer (some ⟨a0b, 0, none⟩), .pointer (some ⟨a0b, 2, none⟩)] (by kernel_rfl) (by kernel_rfl) ?_
  refine r_do 7 (by kernel_rfl) (og_store (T := 3) (x := (Operand.tmp 112)) (y := (Operand.tmp 110)) (b := a0b) (off := 2) (.int .i64 (W (a0.f2 + 2))) (by kernel_rfl) (by kernel_rfl) (by kernel_rfl) hb883 (cs' := #[.string a0.f0, .int .i64 a0.f1, .int .i64 (W (a0.f2 + 2))]) (by kernel_rfl) ?_) 
  intro w886 hb885 k887 _
  have k888 := Kp.trans k880 k887 (fun x hx => .inl hx)
  have hb889 := Blk.kp hb884 k887 (show ¬ (b758 = a0b) from (Ne.symm nhb883hb884))
  refine r_fin 8 (by kernel_rfl) ?_
  refine q_then ?_
  refine w_seq (p := [1, 1, 1, 1, 1, 1]) (p0 := [1, 1, 1, 1, 1, 1, 0]) (p1 := [1, 1, 1, 1, 1, 1, 1]) (by kernel_rfl) ?_
  refine w_region (p := [1, 1, 1, 1, 1, 1, 0]) (id := 28) (by kernel_rfl) ?_
  refine r_vals 0 3 [.int .u8 x882, .agg #[.int .i64 0, .int .i64 0], .int .u8 x882] (by kernel_rfl) (by kernel_rfl) ?_
  refine r_do 3 (by kernel_rfl) (og_store (T := 65) (x := (Operand.tmp 3)) (y := (Operand.tmp 114)) (b := b758) (off := 0) (.agg #[.int .i64 0, .int .i64 0]) (by kernel_rfl) (by kernel_rfl) (by kernel_rfl) hb889 (cs' := #[.int .i64 0, .int .i64 0]) (by kernel_rfl) ?_) 
  intro w891 hb890 k892 _
  have k893 := Kp.trans k888 k892 (fun x hx => .inr (by rw [show x = _ from hx]; exact ghb884))
  have hb894 := Blk.kp hb885 k892 (show ¬ (a0b = b758) from nhb883hb884)
  refine r_fin 4 (by kernel_rfl) ?_
  refine q_then ?_
  refine w_ret (p := [1, 1, 1, 1, 1, 1, 1]) (by kernel_rfl) ?_
  obtain rfl := Option.some.inj H
  refine HR _ _ (body_ret (vs := [.int .u8 x882, .agg #[.int .i64 0, .int .i64 0]]) (rv_tmp (by kernel_rfl) (rv_cell (off := 0) (v := .agg #[.int .i64 0, .int .i64 0]) (by kernel_rfl) hb890 (by kernel_rfl) rfl)) rfl ?_)
  exact ⟨rfl, k893, hb894⟩
set_option maxRecDepth 20000 in
set_option maxHeartbeats 4000000 in
theorem class_reader_escape.j1.ok (K : Nat) (a0b : Nat) (a0T : Nat) (a0 : Tclass_reader) (w : World) (r : Int × Tapi_Fault × Tclass_reader) {Q : Exit → Act → World → Prop} (b758 : Nat) (b767 : Nat) (t834 : Int) (t838 : Int) (HR : ∀ a w', bodyPost Try.prog Try.f145 (class_reader_escape.R a0b a0T r w) .ret a w' → Q .ret a w')  (x850 : Bool) (u849 : Nat → Value) (w847 : World) (k848 : Kp (One a0b) w w847) (hb851 : Blk w847 a0b #[.string a0.f0, .int .i64 a0.f1, .int .i64 a0.f2] a0T) (hb852 : Blk w847 b758 #[.int .i64 0, .int .i64 0] 65) (hb853 : Blk w847 b767 #[.int .i64 a0.f2, .int .i64 42] 65) (ghb852 : w.heap.size ≤ b758) (ghb853 : w.heap.size ≤ b767) (nhb851hb852 : a0b ≠ b758) (nhb851hb853 : a0b ≠ b767) (nhb852hb853 : b758 ≠ b767) (H : class_reader_escape.j1 a0 t834 t838 x850 = some r) : (cd Try.f145 [1, 1, 1, 1, 0, 1, 0, 1, 1, 1, 1, 1, 1, 1, 1, 1, 0, 1, 1, 0, 1]).wp Try.prog (Exit.then (fun a w => (cd Try.f145 [1, 1, 1, 1, 0, 1, 0, 1, 1, 1, 1, 1, 1, 1, 1, 1, 0, 1, 1, 1]).wp Try.prog (Exit.inBlock 0 (Exit.then (fun a w => (cd Try.f145 [1, 1, 1, 1, 1]).wp Try.prog Q a w) Q)) a w) (Exit.inBlock 0 (Exit.then (fun a w => (cd Try.f145 [1, 1, 1, 1, 1]).wp Try.prog Q a w) Q))) ⟨class_reader_escape.j1F a0b b758 b767 t834 t838 x850 u849, []⟩ w847 := by
  unfold class_reader_escape.j1 at H
  refine w_cond (p := [1, 1, 1, 1, 0, 1, 0, 1, 1, 1, 1, 1, 1, 1, 1, 1, 0, 1, 1, 0, 1]) (p0 := [1, 1, 1, 1, 0, 1, 0, 1, 1, 1, 1, 1, 1, 1, 1, 1, 0, 1, 1, 0, 1, 0]) (p1 := [1, 1, 1, 1, 0, 1, 0, 1, 1, 1, 1, 1, 1, 1, 1, 1, 0, 1, 1, 0, 1, 1]) (c := (Operand.tmp 91)) (b := x850) (by kernel_rfl) (by kernel_rfl) ?_ ?_
  · intro h_
    have h854 : x850 = true := h_
    clear h_
    rw [if_pos h854] at H
    refine w_seq (p := [1, 1, 1, 1, 0, 1, 0, 1, 1, 1, 1, 1, 1, 1, 1, 1, 0, 1, 1, 0, 1, 0]) (p0 := [1, 1, 1, 1, 0, 1, 0, 1, 1, 1, 1, 1, 1, 1, 1, 1, 0, 1, 1, 0, 1, 0, 0]) (p1 := [1, 1, 1, 1, 0, 1, 0, 1, 1, 1, 1, 1, 1, 1, 1, 1, 0, 1, 1, 0, 1, 0, 1]) (by kernel_rfl) ?_
    refine w_drawk (p := [1, 1, 1, 1, 0, 1, 0, 1, 1, 1, 1, 1, 1, 1, 1, 1, 0, 1, 1, 0, 1, 0, 0]) (id := 24) (by kernel_rfl) (by kernel_rfl) [0, 0, 3] 3 (by kernel_rfl) (J := (fun b_ w_ => Kp (fun k => k = b758) w847 w_ ∧ Blk w_ b758 (if b_ 2 = true then #[.int .i64 a0.f2, .int .i64 42] else #[.int .i64 0, .int .i64 0]) 65)) (fun w_ h1 h2 h3 h4 => ⟨Kp.same h1 h2 h3 h4, by simpa using hb852.same h1⟩) ?_
    refine k_op (.agg #[.int .i64 a0.f2, .int .i64 42]) (by kernel_rfl) (fun b_ w_ hJ hb_ hd_ he_ => og_load (T := 65) (x := (Operand.tmp 4)) (b := b767) (off := 0) (.agg #[.int .i64 a0.f2, .int .i64 42]) (by kernel_rfl) (by kernel_rfl) (Blk.kp hb853 hJ.1 (Ne.symm nhb852hb853)) (by kernel_rfl) ⟨rfl, by simpa [up] using hJ⟩) ?_
    refine k_pure 2 [.int .u8 0] (by kernel_rfl) (fun _ => by kernel_rfl) (fun k h1 h2 b w h => by simpa [up, show ¬ (2 = k) by omega] using h) ?_
    refine k_op (undef) (by kernel_rfl) (fun b_ w_ hJ hb_ hd_ he_ => og_store (T := 65) (x := (Operand.tmp 3)) (y := (Operand.tmp 92)) (b := b758) (off := 0) (.agg #[.int .i64 a0.f2, .int .i64 42]) (by kernel_rfl) (by kernel_rfl) (by kernel_rfl) (by have h_ := hJ.2; rw [if_neg (by rw [hb_]; decide)] at h_; exact h_) (cs' := #[.int .i64 a0.f2, .int .i64 42]) (by kernel_rfl) (fun w2_ h2_ k2_ _ => ⟨rfl, Kp.trans hJ.1 k2_ (fun x hx => .inl (by rw [show x = _ from hx] <;> simp)), by rw [if_pos (by simp [up])]; exact h2_⟩)) ?_
    refine k_nil ?_
    rintro b_ w855 hall_ k_
    obtain ⟨k856, hb857⟩ := k_
    rw [if_pos (hall_ 2 (by decide))] at hb857
    have k858 := Kp.trans k848 k856 (fun x hx => by rcases hx with rfl <;> first | exact .inr ghb852)
    have hb859 := Blk.kp hb851 k856 nhb851hb852
    have hb860 := Blk.kp hb853 k856 (Ne.symm nhb852hb853)
    refine r_fin 3 (by kernel_rfl) ?_
    refine q_then ?_
    refine w_ret (p := [1, 1, 1, 1, 0, 1, 0, 1, 1, 1, 1, 1, 1, 1, 1, 1, 0, 1, 1, 0, 1, 0, 1]) (by kernel_rfl) ?_
    refine q_then_r ?_
    refine q_in_r ?_
    refine q_then_r ?_
    obtain rfl := Option.some.inj H
    refine HR _ _ (body_ret (vs := [.int .u8 0, .agg #[.int .i64 a0.f2, .int .i64 42]]) (rv_tmp (by kernel_rfl) (rv_cell (off := 0) (v := .agg #[.int .i64 a0.f2, .int .i64 42]) (by kernel_rfl) hb857 (by kernel_rfl) rfl)) rfl ?_)
    exact ⟨rfl, k858, hb859⟩
  · intro h_
    have h854 : ¬ (x850 = true) := by rw [h_]; decide
    clear h_
    rw [if_neg h854] at H
    refine w_skip (p := [1, 1, 1, 1, 0, 1, 0, 1, 1, 1, 1, 1, 1, 1, 1, 1, 0, 1, 1, 0, 1, 1]) (by kernel_rfl) ?_
    refine q_then ?_
    refine w_seq (p := [1, 1, 1, 1, 0, 1, 0, 1, 1, 1, 1, 1, 1, 1, 1, 1, 0, 1, 1, 1]) (p0 := [1, 1, 1, 1, 0, 1, 0, 1, 1, 1, 1, 1, 1, 1, 1, 1, 0, 1, 1, 1, 0]) (p1 := [1, 1, 1, 1, 0, 1, 0, 1, 1, 1, 1, 1, 1, 1, 1, 1, 0, 1, 1, 1, 1]) (by kernel_rfl) ?_
    refine w_region (p := [1, 1, 1, 1, 0, 1, 0, 1, 1, 1, 1, 1, 1, 1, 1, 1, 0, 1, 1, 1, 0]) (id := 25) (by kernel_rfl) ?_
    refine r_vals 0 3 [.pointer (some ⟨a0b, 0, none⟩), .pointer (some ⟨a0b, 0, none⟩), .pointer (some ⟨a0b, 2, none⟩)] (by kernel_rfl) (by kernel_rfl) ?_
    refine r_do 3 (by kernel_rfl) (og_load (T := 3) (x := (Operand.tmp 95)) (b := a0b) (off := 2) (.int .i64 a0.f2) (by kernel_rfl) (by kernel_rfl) hb851 (by kernel_rfl) ?_) 
    refine r_vals 4 7 [.int .i64 (W (a0.f2 + 4)), .pointer (some ⟨a0b, 0, none⟩), .pointer (some ⟨a0b, 2, none⟩)] (by kernel_rfl) (by kernel_rfl) ?_
    refine r_do 7 (by kernel_rfl) (og_store (T := 3) (x := (Operand.tmp 99)) (y := (Operand.tmp 97)) (b := a0b) (off := 2) (.int .i64 (W (a0.f2 + 4))) (by kernel_rfl) (by kernel_rfl) (by kernel_rfl) hb851 (cs' := #[.string a0.f0, .int .i64 a0.f1, .int .i64 (W (a0.f2 + 4))]) (by kernel_rfl) ?_) 
    intro w862 hb861 k863 _
    have k864 := Kp.trans k848 k863 (fun x hx => .inl hx)
    have hb865 := Blk.kp hb852 k863 (show ¬ (b758 = a0b) from (Ne.symm nhb851hb852))
    have hb866 := Blk.kp hb853 k863 (show ¬ (b767 = a0b) from (Ne.symm nhb851hb853))
    refine r_fin 8 (by kernel_rfl) ?_
    refine q_then ?_
    refine w_seq (p := [1, 1, 1, 1, 0, 1, 0, 1, 1, 1, 1, 1, 1, 1, 1, 1, 0, 1, 1, 1, 1]) (p0 := [1, 1, 1, 1, 0, 1, 0, 1, 1, 1, 1, 1, 1, 1, 1, 1, 0, 1, 1, 1, 1, 0]) (p1 := [1, 1, 1, 1, 0, 1, 0, 1, 1, 1, 1, 1, 1, 1, 1, 1, 0, 1, 1, 1, 1, 1]) (by kernel_rfl) ?_
    refine w_region (p := [1, 1, 1, 1, 0, 1, 0, 1, 1, 1, 1, 1, 1, 1, 1, 1, 0, 1, 1, 1, 1, 0]) (id := 26) (by kernel_rfl) ?_
    refine r_vals 0 7 [.int .i64 t834, .int .i64 (shv .shl .i64 t834 4), .int .i64 t838, .int .i64 (bits .or .i64 (shv .shl .i64 t834 4) t838), .int .u8 (W8 (bits .or .i64 (shv .shl .i64 t834 4) t838)), .agg #[.int .i64 0, .int .i64 0], .int .u8 (W8 (bits .or .i64 (shv .shl .i64 t834 4) t838))] (by kernel_rfl) (by kernel_rfl) ?_
    refine r_do 7 (by kernel_rfl) (og_store (T := 65) (x := (Operand.tmp 3)) (y := (Operand.tmp 105)) (b := b758) (off := 0) (.agg #[.int .i64 0, .int .i64 0]) (by kernel_rfl) (by kernel_rfl) (by kernel_rfl) hb865 (cs' := #[.int .i64 0, .int .i64 0]) (by kernel_rfl) ?_) 
    intro w868 hb867 k869 _
    have k870 := Kp.trans k864 k869 (fun x hx => .inr (by rw [show x = _ from hx]; exact ghb852))
    have hb871 := Blk.kp hb861 k869 (show ¬ (a0b = b758) from nhb851hb852)
    have hb872 := Blk.kp hb866 k869 (show ¬ (b767 = b758) from (Ne.symm nhb852hb853))
    refine r_fin 8 (by kernel_rfl) ?_
    refine q_then ?_
    refine w_ret (p := [1, 1, 1, 1, 0, 1, 0, 1, 1, 1, 1, 1, 1, 1, 1, 1, 0, 1, 1, 1, 1, 1]) (by kernel_rfl) ?_
    refine q_in_r ?_
    refine q_then_r ?_
    obtain rfl := Option.some.inj H
    refine HR _ _ (body_ret (vs := [.int .u8 (W8 (bits .or .i64 (shv .shl .i64 t834 4) t838)), .agg #[.int .i64 0, .int .i64 0]]) (rv_tmp (by kernel_rfl) (rv_cell (off := 0) (v := .agg #[.int .i64 0, .int .i64 0]) (by kernel_rfl) hb867 (by kernel_rfl) rfl)) rfl ?_)
    exact ⟨rfl, k870, hb871⟩
end Go.Proofs.Ytampekcanmakkaa.G
