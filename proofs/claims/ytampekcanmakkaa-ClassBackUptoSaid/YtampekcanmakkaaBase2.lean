/- A region of open order, in the text's order: each operation is shown once, in the frame that the text's order gives it, for whatever was done before it. -/
import Derived.Test.YtampekcanmakkaaBase1
set_option linter.unusedVariables false
namespace Go.Proofs.Ytampekcanmakkaa.G
open Go.RowKit
def og (ops : Array Oper) (i : Nat) : Oper := ops.getD i default
def nds (o : Oper) : List Nat := (o.after.toList.filter (Region.binds .any)).map (·.on)
/-- B's bits: what each operation waits for, at last. -/
def bitsOk (ops : Array Oper) (B : List Nat) : Bool := (List.range ops.size).all fun d =>
  ((nds (og ops d)).all fun m => decide (m < d)) && (List.range d).all fun j => !(B.getD d 0).testBit j || (nds (og ops d)).any fun m => m == j || (decide (j < m) && (B.getD m 0).testBit j)
/-- Two operations: one waits for the other, or they have nothing to do with each other. -/
def detOk (ops : Array Oper) (B : List Nat) : Bool := (List.range ops.size).all fun i => (List.range i).all fun j =>
  (B.getD i 0).testBit j || ((og ops i).apart ops (og ops j) && (og ops j).apart ops (og ops i))
def noSel (ops : Array Oper) : Bool := ops.all fun o => match o.op with | .select .. => false | _ => true
/-- From m on each operation waits for all ahead of it. -/
def tailOk (ops : Array Oper) (B : List Nat) (m : Nat) : Bool := (List.range ops.size).all fun i => decide (i < m) || (List.range i).all fun j => (B.getD i 0).testBit j
def drawOk (ops : Array Oper) (B : List Nat) (m : Nat) : Bool := bitsOk ops B && detOk ops B && noSel ops && tailOk ops B m && decide (m ≤ ops.size)

def up (b : Nat → Bool) (i : Nat) : Nat → Bool := fun j => if j = i then true else b j
abbrev Listed := Array Bool
def ls (l : Listed) : Nat → Bool := fun j => l.getD j false
theorem ls_set {l : Listed} {i : Nat} (h : i < l.size) : ls (l.setIfInBounds i true) = up (ls l) i := by
  funext j
  unfold ls up
  simp only [Array.getD_eq_getD_getElem?, Array.getElem?_setIfInBounds]
  by_cases e : i = j
  · subst e; simp [h]
  · rw [if_neg e, if_neg (Ne.symm e)]

/-- What one operation does, whatever was done before it. -/
def StepOk (P : Program) (ops : Array Oper) (B : List Nat) (J : (Nat → Bool) → World → Prop) (i : Nat) (t : Array Value) (v : Value) : Prop :=
  ∀ b w, J b w → b i = false → (∀ j, j < i → (B.getD i 0).testBit j = true → b j = true) → (∀ d, i < d → d < ops.size → (B.getD d 0).testBit i = true → b d = false) →
    if Region.wanted (og ops i) (yielded ops t) = true then OpG P (og ops i) t [] w (fun u w' => u = v ∧ J (up b i) w') else v = undef ∧ J (up b i) w
inductive DSteps (P : Program) (ops : Array Oper) (B : List Nat) (J : (Nat → Bool) → World → Prop) (m : Nat) : Nat → Array Value → Array Value → Prop
  | nil {t : Array Value} : DSteps P ops B J m m t t
  | cons {i : Nat} {t t' : Array Value} {v : Value} : i < m → StepOk P ops B J i t v → DSteps P ops B J m (i + 1) (putv t (og ops i).dst v) t' → DSteps P ops B J m i t t'

/-- The frame: listed operations' values, in the text's order, up to n. -/
def fr (ops : Array Oper) (t0 : Array Value) (V : Nat → Value) (b : Nat → Bool) : Nat → Array Value
  | 0 => t0
  | n + 1 => if b n = true then putv (fr ops t0 V b n) (og ops n).dst (V n) else fr ops t0 V b n
def all (_ : Nat) : Bool := true

section
variable {P : Program} {ops : Array Oper} {B : List Nat} {J : (Nat → Bool) → World → Prop} {m : Nat}
theorem dsteps_vals : ∀ {i : Nat} {t t' : Array Value}, DSteps P ops B J m i t t' → ∀ (t0 : Array Value) (V : Nat → Value), fr ops t0 V all i = t →
    ∃ V' : Nat → Value, (∀ j, j < i → V' j = V j) ∧ fr ops t0 V' all m = t' ∧ ∀ j, i ≤ j → j < m → StepOk P ops B J j (fr ops t0 V' all j) (V' j) := by
  intro i t t' h
  induction h with
  | nil => intro t0 V ht; exact ⟨V, fun _ _ => rfl, ht, fun j h1 h2 => by omega⟩
  | @cons i t t' v him hs hd ih =>
    intro t0 V ht
    have hcong : ∀ (V1 V2 : Nat → Value) n, (∀ j, j < n → V1 j = V2 j) → fr ops t0 V1 all n = fr ops t0 V2 all n := by
      intro V1 V2 n
      induction n with
      | zero => intro _; rfl
      | succ n ihn => intro hv; simp only [fr, all, if_true]; rw [ihn (fun j hj => hv j (by omega)), hv n (by omega)]
    obtain ⟨V', h1, h2, h3⟩ := ih t0 (fun j => if j = i then v else V j) (by
      simp only [fr, all, if_true]
      rw [hcong _ V i (fun j hj => by simp; omega), ht])
    refine ⟨V', fun j hj => by rw [h1 j (by omega)]; simp; omega, h2, fun j hj hjm => ?_⟩
    by_cases e : j = i
    · subst e
      have hv : V' j = v := by rw [h1 j (by omega)]; simp
      rw [hcong V' V j (fun k hk => by rw [h1 k (by omega)]; simp; omega), ht, hv]
      exact hs
    · exact h3 j (by omega) hjm

theorem getD_opt {i : Nat} {o : Oper} (h : ops[i]? = some o) : og ops i = o := by simp [og, Array.getD_eq_getD_getElem?, h]
theorem nds_all {o : Oper} {p : Nat → Bool} (h : (o.after.all fun e => !Region.binds .any e || p e.on) = true) : ∀ n ∈ nds o, p n = true := by
  intro n hn
  unfold nds at hn
  obtain ⟨e, he, rfl⟩ := List.mem_map.1 hn
  obtain ⟨he1, he2⟩ := List.mem_filter.1 he
  rw [← Array.all_toList, List.all_eq_true] at h
  have := h e he1
  rw [he2] at this
  simpa using this
def Closed (ops : Array Oper) (b : Nat → Bool) : Prop := ∀ d, d < ops.size → b d = true → ∀ n ∈ nds (og ops d), b n = true
theorem bits_of_needs (hB : bitsOk ops B = true) {b : Nat → Bool} (hc : Closed ops b) : ∀ (n d : Nat), d ≤ n → d < ops.size → (∀ k ∈ nds (og ops d), b k = true) → ∀ j, j < d → (B.getD d 0).testBit j = true → b j = true := by
  intro n
  induction n with
  | zero => intro d hd _ _ j hj; omega
  | succ n ih =>
    intro d hd hds hn j hj hb
    have h1 := List.all_eq_true.1 hB d (List.mem_range.2 hds)
    rw [Bool.and_eq_true] at h1
    obtain ⟨h2, h3⟩ := h1
    have h4 := List.all_eq_true.1 h3 j (List.mem_range.2 hj)
    rw [hb] at h4
    rw [Bool.not_true, Bool.false_or, List.any_eq_true] at h4
    obtain ⟨k, hk, h5⟩ := h4
    have hkd : k < d := by simpa using List.all_eq_true.1 h2 k hk
    rw [Bool.or_eq_true] at h5
    rcases h5 with h5 | h5
    · have e : k = j := by simpa using h5
      rw [← e]; exact hn _ hk
    · rw [Bool.and_eq_true] at h5
      exact ih k (by omega) (by omega) (hc k (by omega) (hn k hk)) j (by simpa using h5.1) h5.2
theorem putv_size (t : Array Value) (d : Option Tmp) (v : Value) : (putv t d v).size = t.size := by cases d <;> simp [putv]
theorem putv_get (t : Array Value) (d : Option Tmp) (v : Value) (x : Nat) : (putv t d v)[x]? = if d = some x then (if x < t.size then some v else none) else t[x]? := by
  cases d with
  | none => simp [putv]
  | some d =>
    simp only [putv, Array.getElem?_setIfInBounds, Option.some.injEq]
    by_cases e : d = x
    · subst e; simp
    · simp [e]
theorem fr_size (t0 : Array Value) (V : Nat → Value) (b : Nat → Bool) : ∀ n, (fr ops t0 V b n).size = t0.size
  | 0 => rfl
  | n + 1 => by
    simp only [fr]
    split
    · rw [putv_size, fr_size t0 V b n]
    · exact fr_size t0 V b n
theorem det_at (hD : detOk ops B = true) {i j : Nat} (hi : i < ops.size) (hj : j < i) : (B.getD i 0).testBit j = true ∨ ((og ops i).apart ops (og ops j) = true ∧ (og ops j).apart ops (og ops i) = true) := by
  have h1 := List.all_eq_true.1 (List.all_eq_true.1 hD i (List.mem_range.2 hi)) j (List.mem_range.2 hj)
  simpa using h1
theorem fr_agree (hD : detOk ops B = true) {t0 : Array Value} {V : Nat → Value} {b : Nat → Bool} {i : Nat} (hi : i < ops.size) (hbi : b i = false) (h1 : ∀ j, j < i → (B.getD i 0).testBit j = true → b j = true)
    (h2 : ∀ d, i < d → d < ops.size → (B.getD d 0).testBit i = true → b d = false) {x : Nat} (hx : x ∈ (og ops i).looksAt ops) :
    ∀ n, n ≤ ops.size → (fr ops t0 V b n)[x]? = (fr ops t0 V all (min n i))[x]? := by
  intro n
  induction n with
  | zero => intro _; simp [fr]
  | succ n ih =>
    intro hn
    have ih := ih (by omega)
    rcases Nat.lt_trichotomy n i with hlt | rfl | hgt
    · rw [show min (n + 1) i = n + 1 by omega, show min n i = n by omega] at *
      simp only [fr, all, if_true]
      rcases det_at hD hi hlt with hb | ⟨ha1, ha2⟩
      · rw [if_pos (h1 n hlt hb), putv_get, putv_get, ih, fr_size, fr_size]
      · have hne : (og ops n).dst ≠ some x := fun e => (Oper.apart_spec ha2).1 x e hx
        split
        · rw [putv_get, putv_get, if_neg hne, if_neg hne, ih]
        · rw [putv_get, if_neg hne, ih]
    · rw [show min (n + 1) n = n by omega, show min n n = n by omega] at *
      simp only [fr, hbi]
      exact ih
    · rw [show min (n + 1) i = i by omega, show min n i = i by omega] at *
      simp only [fr]
      split
      · rename_i hbn
        rcases det_at hD (i := n) (by omega) hgt with hb | ⟨ha1, ha2⟩
        · rw [h2 n hgt (by omega) hb] at hbn; cases hbn
        · have hne : (og ops n).dst ≠ some x := fun e => (Oper.apart_spec ha1).1 x e hx
          rw [putv_get, if_neg hne, ih]
      · exact ih
theorem fr_below {t0 : Array Value} {V : Nat → Value} {b : Nat → Bool} {i : Nat} : ∀ n, n ≤ i → fr ops t0 V (up b i) n = fr ops t0 V b n
  | 0, _ => rfl
  | n + 1, h => by
    simp only [fr]
    rw [fr_below n (by omega), show up b i n = b n by simp [up]; omega]
theorem putv_comm (t : Array Value) {x y : Option Tmp} (v u : Value) (h : ∀ d, x = some d → y ≠ some d) : putv (putv t x v) y u = putv (putv t y u) x v := by
  have := Act.put_comm ⟨t, []⟩ v u h
  simp only [put_putv, Act.mk.injEq] at this
  exact this.1
theorem fr_up (hD : detOk ops B = true) {t0 : Array Value} {V : Nat → Value} {b : Nat → Bool} {i : Nat} (hi : i < ops.size) (hbi : b i = false)
    (h2 : ∀ d, i < d → d < ops.size → (B.getD d 0).testBit i = true → b d = false) : ∀ n, i < n → n ≤ ops.size → fr ops t0 V (up b i) n = putv (fr ops t0 V b n) (og ops i).dst (V i) := by
  intro n
  induction n with
  | zero => intro h; omega
  | succ n ih =>
    intro h1 hn
    by_cases e : n = i
    · subst e
      simp only [fr, hbi]
      rw [fr_below n (Nat.le_refl _)]
      simp [up]
    · have ih := ih (by omega) (by omega)
      simp only [fr]
      rw [show up b i n = b n by simp [up, e], ih]
      split
      · rename_i hbn
        rcases det_at hD (i := n) (j := i) (by omega) (by omega) with hb | ⟨ha1, ha2⟩
        · rw [h2 n (by omega) (by omega) hb] at hbn; cases hbn
        · exact putv_comm _ _ _ (Oper.apart_spec ha2).2.1
      · rfl
theorem fr_all {t0 : Array Value} {V : Nat → Value} {b : Nat → Bool} : ∀ n, (∀ j, j < n → b j = true) → fr ops t0 V b n = fr ops t0 V all n
  | 0, _ => rfl
  | n + 1, h => by
    simp only [fr, all, h n (by omega), if_true]
    rw [fr_all n (fun j hj => h j (by omega))]
theorem fr_none {t0 : Array Value} {V : Nat → Value} {b : Nat → Bool} : ∀ n m, m ≤ n → (∀ j, m ≤ j → b j = false) → fr ops t0 V b n = fr ops t0 V b m
  | 0, m, hm, _ => by rw [show m = 0 by omega]
  | n + 1, m, hm, h => by
    by_cases e : m = n + 1
    · rw [e]
    · simp only [fr, h n (by omega)]
      exact fr_none n m (by omega) h

theorem wanted_agree {o : Oper} {t t' : Array Value} (h : ∀ x ∈ o.looksAt ops, t[x]? = t'[x]?) : Region.wanted o (yielded ops t) = Region.wanted o (yielded ops t') := by
  unfold Region.wanted
  cases hg : o.guard with
  | none => rfl
  | some gw =>
    obtain ⟨g, want⟩ := gw
    have hy : yielded ops t g = yielded ops t' g := by
      unfold yielded
      cases ht : (ops[g]?).bind (·.dst) with
      | none => rfl
      | some x =>
        have hx : x ∈ o.looksAt ops := by simp [Oper.looksAt, hg, ht]
        simp only [Option.bind_some, h x hx]
    simp only [hy]
theorem exec_agree {o : Oper} (hs : ∀ cs b, o.op ≠ .select cs b) {t t' : Array Value} (h : ∀ x ∈ o.looksAt ops, t[x]? = t'[x]?) : execOp (Act.eval ⟨t, []⟩) o = execOp (Act.eval ⟨t', []⟩) o :=
  execOp_congr o hs fun y hy => by
    cases y with
    | tmp x =>
      have hx : x ∈ o.looksAt ops := List.mem_append_left _ (List.mem_filterMap.2 ⟨.tmp x, by simpa using hy, rfl⟩)
      have h1 := h x hx
      simp only [Act.eval, Array.getD_eq_getD_getElem?, h1]
    | _ => rfl
theorem noSel_at (hN : noSel ops = true) (i : Nat) : ∀ cs b, (og ops i).op ≠ .select cs b := by
  intro cs b h
  by_cases hi : i < ops.size
  · have h1 := (Array.all_eq_true.1 hN) i hi
    have h2 : og ops i = ops[i] := by simp [og, Array.getD_eq_getD_getElem?, hi]
    rw [← h2] at h1
    rw [h] at h1
    cases h1
  · have h2 : og ops i = default := by simp [og, Array.getD_eq_getD_getElem?, hi]
    rw [h2] at h
    cases h
theorem ready_iff {l : Listed} (hl : l.size = ops.size) {i : Nat} : i ∈ Region.ready .any ops l ↔ i < ops.size ∧ ls l i = false ∧ ∀ n ∈ nds (og ops i), ls l n = true := by
  unfold Region.ready
  rw [List.mem_filter, List.mem_range]
  constructor
  · rintro ⟨hi, h⟩
    rw [Bool.and_eq_true] at h
    obtain ⟨h1, h2⟩ := h
    refine ⟨hi, ?_, ?_⟩
    · have : l.getD i true = false := by simpa using h1
      simp only [ls, Array.getD_eq_getD_getElem?, Array.getElem?_eq_getElem (show i < l.size by omega), Option.getD_some] at this ⊢
      exact this
    · rw [Array.getElem?_eq_getElem hi] at h2
      have h3 := nds_all (p := ls l) (o := ops[i]) (by simpa [ls] using h2)
      have h4 : og ops i = ops[i] := by simp [og, Array.getD_eq_getD_getElem?, hi]
      rw [h4]; exact h3
  · rintro ⟨hi, h1, h2⟩
    refine ⟨hi, ?_⟩
    have h4 : og ops i = ops[i] := by simp [og, Array.getD_eq_getD_getElem?, hi]
    rw [h4] at h2
    rw [Bool.and_eq_true]
    constructor
    · have : l.getD i true = false := by
        simp only [ls, Array.getD_eq_getD_getElem?, Array.getElem?_eq_getElem (show i < l.size by omega), Option.getD_some] at h1 ⊢
        exact h1
      simp [this]
    · rw [Array.getElem?_eq_getElem hi]
      simp only [Option.map_some, Option.getD_some]
      rw [← Array.all_toList, List.all_eq_true]
      intro e he
      rw [Bool.or_eq_true]
      by_cases hbd : Region.binds .any e = true
      · right
        exact h2 e.on (List.mem_map.2 ⟨e, List.mem_filter.2 ⟨he, hbd⟩, rfl⟩)
      · left; simpa using hbd
theorem needs_lt (hB : bitsOk ops B = true) {d : Nat} (hd : d < ops.size) : ∀ n ∈ nds (og ops d), n < d := by
  intro n hn
  have h1 := List.all_eq_true.1 hB d (List.mem_range.2 hd)
  rw [Bool.and_eq_true] at h1
  simpa using List.all_eq_true.1 h1.1 n hn
/-- Something is ready, as long as something is left. -/
theorem ready_some (hB : bitsOk ops B = true) {l : Listed} (hl : l.size = ops.size) : ∀ k, k < ops.size → ls l k = false → ∃ i, i ≤ k ∧ i ∈ Region.ready .any ops l := by
  intro k
  induction k using Nat.strongRecOn with
  | _ k ih =>
    intro hk hu
    by_cases h : ∀ n ∈ nds (og ops k), ls l n = true
    · exact ⟨k, Nat.le_refl _, (ready_iff hl).2 ⟨hk, hu, h⟩⟩
    · obtain ⟨n, hn⟩ := Classical.not_forall.1 h
      obtain ⟨hn1, hn2⟩ := Classical.not_imp.1 hn
      have hlt := needs_lt hB hk n hn1
      obtain ⟨i, hi, hr⟩ := ih n hlt (by omega) (by simpa using hn2)
      exact ⟨i, by omega, hr⟩
theorem closed_set {l : Listed} (hl : l.size = ops.size) (hc : Closed ops (ls l)) {i : Nat} (hr : i ∈ Region.ready .any ops l) : Closed ops (ls (l.setIfInBounds i true)) := by
  obtain ⟨hi, hu, hn⟩ := (ready_iff hl).1 hr
  rw [ls_set (by omega)]
  intro d hd hb n hnn
  unfold up at hb ⊢
  split at hb
  · rename_i e; subst e
    split
    · rfl
    · exact hn n hnn
  · split
    · rfl
    · exact hc d hd hb n hnn
theorem wpOp_of {Q : Exit → Act → World → Prop} {i : Nat} (hi : i < ops.size) {t : Array Value} {w : World} {K : Act → World → Prop}
    (h : if Region.wanted (og ops i) (yielded ops t) = true then OpG P (og ops i) t [] w (fun u w' => K ⟨putv t (og ops i).dst u, []⟩ w') else K ⟨putv t (og ops i).dst undef, []⟩ w) : wpOp P ops Q i K ⟨t, []⟩ w := by
  unfold wpOp
  have h4 : og ops i = ops[i] := by simp [og, Array.getD_eq_getD_getElem?, hi]
  rw [h4] at h
  rw [Array.getElem?_eq_getElem hi]
  simp only
  split
  · rename_i hw
    rw [if_pos hw] at h
    exact .inl (OpG.wp h)
  · rename_i hw
    rw [if_neg hw] at h
    rw [put_putv]; exact h

/-- The tail: one after the other. -/
theorem tail_any (hB : bitsOk ops B = true) (hT : tailOk ops B m = true) {Q : Exit → Act → World → Prop} : ∀ (fuel k : Nat) (l : Listed) (a : Act) (w : World), l.size = ops.size → m ≤ k → k ≤ ops.size → ops.size - k ≤ fuel →
    (∀ j, j < k → ls l j = true) → (∀ j, k ≤ j → ls l j = false) → Closed ops (ls l) → wpList P ops Q (ops.toList.drop k) a w → wpAny P .any ops Q fuel l a w := by
  intro fuel
  have only : ∀ (l : Listed) (k : Nat), l.size = ops.size → m ≤ k → (∀ j, j < k → ls l j = true) → Closed ops (ls l) → ∀ i ∈ Region.ready .any ops l, k ≤ i → i ≤ k ∨ ls l k = true := by
    intro l k hl hmk h1 hc i hr hki
    obtain ⟨hi, hu, hn⟩ := (ready_iff hl).1 hr
    by_cases e : i ≤ k
    · exact .inl e
    · right
      have h2 := List.all_eq_true.1 hT i (List.mem_range.2 hi)
      rw [Bool.or_eq_true] at h2
      rcases h2 with h2 | h2
      · have : i < m := by simpa using h2
        omega
      · exact bits_of_needs hB hc i i (Nat.le_refl _) hi hn k (by omega) (List.all_eq_true.1 h2 k (List.mem_range.2 (by omega)))
  induction fuel with
  | zero =>
    intro k l a w hl hmk hk hf h1 h2 hc h
    have hke : k = ops.size := by omega
    subst hke
    refine ⟨?_, ?_⟩
    · rw [List.eq_nil_iff_forall_not_mem]
      intro i hr
      obtain ⟨hi, hu, _⟩ := (ready_iff hl).1 hr
      rw [h1 i hi] at hu; cases hu
    · rw [List.drop_of_length_le (by simp)] at h
      exact h
  | succ fuel ih =>
    intro k l a w hl hmk hk hf h1 h2 hc h
    refine ⟨fun hr => ?_, fun i hr => ?_⟩
    · by_cases hke : k = ops.size
      · subst hke
        rw [List.drop_of_length_le (by simp)] at h
        exact h
      · obtain ⟨i, _, hi⟩ := ready_some hB hl k (by omega) (h2 k (Nat.le_refl _))
        rw [hr] at hi; cases hi
    · obtain ⟨hi, hu, hn⟩ := (ready_iff hl).1 hr
      have hki : k ≤ i := by
        rcases Nat.lt_or_ge i k with h3 | h3
        · rw [h1 i h3] at hu; cases hu
        · exact h3
      have hik : i = k := by
        rcases only l k hl hmk h1 hc i hr hki with h3 | h3
        · omega
        · rw [h2 k (Nat.le_refl _)] at h3; cases h3
      subst hik
      have hd : ops.toList.drop i = og ops i :: ops.toList.drop (i + 1) := by
        rw [List.drop_eq_getElem_cons (by simpa using hi)]
        congr 1
        simp [og, Array.getD_eq_getD_getElem?, hi]
      rw [hd] at h
      have hset := ls_set (l := l) (i := i) (by omega)
      have nxt : ∀ a' w', wpList P ops Q (ops.toList.drop (i + 1)) a' w' → wpAny P .any ops Q fuel (l.setIfInBounds i true) a' w' := by
        intro a' w' h'
        refine ih (i + 1) _ a' w' (by simpa using hl) (by omega) (by omega) (by omega) (fun j hj => ?_) (fun j hj => ?_) (closed_set hl hc hr) h'
        · rw [hset]
          unfold up
          split
          · rfl
          · exact h1 j (by omega)
        · rw [hset]
          unfold up
          rw [if_neg (by omega)]
          exact h2 j (by omega)
      unfold wpOp
      rw [Array.getElem?_eq_getElem hi]
      have h4 : og ops i = ops[i] := by simp [og, Array.getD_eq_getD_getElem?, hi]
      rw [h4] at h
      unfold wpList at h
      simp only
      split
      · rename_i hw
        rw [if_pos hw] at h
        rcases h with h | h
        · exact .inl (Oper.wp_mono nxt h)
        · exact .inr h
      · rename_i hw
        rw [if_neg hw] at h
        exact nxt _ _ h
/-- The region up to m in any order, then its tail. -/
theorem draw_any (hB : bitsOk ops B = true) (hD : detOk ops B = true) (hN : noSel ops = true) (hT : tailOk ops B m = true) (hm : m ≤ ops.size) {Q : Exit → Act → World → Prop} {t0 tm : Array Value} {V : Nat → Value}
    (hV : fr ops t0 V all m = tm) (hS : ∀ j, j < m → StepOk P ops B J j (fr ops t0 V all j) (V j))
    (hend : ∀ b w, (∀ j, j < m → b j = true) → J b w → wpList P ops Q (ops.toList.drop m) ⟨tm, []⟩ w) :
    ∀ (fuel : Nat) (l : Listed) (w : World), l.size = ops.size → Closed ops (ls l) → (∀ j, m ≤ j → ls l j = false) → ((List.range ops.size).filter fun j => !ls l j).length ≤ fuel → J (ls l) w → wpAny P .any ops Q fuel l ⟨fr ops t0 V (ls l) ops.size, []⟩ w := by
  have done : ∀ (fuel : Nat) (l : Listed) (w : World), l.size = ops.size → Closed ops (ls l) → (∀ j, m ≤ j → ls l j = false) → ((List.range ops.size).filter fun j => !ls l j).length ≤ fuel → J (ls l) w → (∀ j, j < m → ls l j = true) → wpAny P .any ops Q fuel l ⟨fr ops t0 V (ls l) ops.size, []⟩ w := by
    intro fuel l w hl hc h2 hf hJ h1
    refine tail_any hB hT fuel m l _ w hl (Nat.le_refl _) hm ?_ h1 h2 hc ?_
    · refine Nat.le_trans ?_ hf
      have : ((List.range ops.size).filter fun j => !ls l j) = (List.range ops.size).filter fun j => decide (m ≤ j) := by
        refine List.filter_congr fun j hj => ?_
        rcases Nat.lt_or_ge j m with h3 | h3
        · rw [h1 j h3]; simp; omega
        · rw [h2 j h3]; simp; omega
      rw [this]
      have h5 : ∀ n, ((List.range n).filter fun j => decide (m ≤ j)).length = n - m := by
        intro n
        induction n with
        | zero => simp
        | succ n ih =>
          rw [List.range_succ, List.filter_append, List.length_append, ih]
          by_cases h6 : m ≤ n
          · simp [h6]; omega
          · simp [h6]; omega
      rw [h5]
      exact Nat.le_refl _
    · rw [fr_none _ m hm h2, fr_all m h1, hV]
      exact hend _ w h1 hJ
  intro fuel
  induction fuel with
  | zero =>
    intro l w hl hc h2 hf hJ
    refine done 0 l w hl hc h2 hf hJ fun j hj => ?_
    have h3 : ((List.range ops.size).filter fun j => !ls l j) = [] := List.length_eq_zero_iff.1 (by omega)
    rw [List.filter_eq_nil_iff] at h3
    have := h3 j (List.mem_range.2 (by omega))
    simpa using this
  | succ fuel ih =>
    intro l w hl hc h2 hf hJ
    by_cases hall : ∀ j, j < m → ls l j = true
    · exact done _ l w hl hc h2 hf hJ hall
    · obtain ⟨k, hk⟩ := Classical.not_forall.1 hall
      obtain ⟨hkm, hku⟩ := Classical.not_imp.1 hk
      have hku : ls l k = false := by simpa using hku
      refine ⟨fun hr => ?_, fun i hr => ?_⟩
      · obtain ⟨i, _, hi⟩ := ready_some hB hl k (by omega) hku
        rw [hr] at hi; cases hi
      · obtain ⟨hi, hu, hn⟩ := (ready_iff hl).1 hr
        have him : i < m := by
          rcases Nat.lt_or_ge i m with h3 | h3
          · exact h3
          · exfalso
            have h4 := List.all_eq_true.1 hT i (List.mem_range.2 hi)
            rw [Bool.or_eq_true] at h4
            rcases h4 with h4 | h4
            · have : i < m := by simpa using h4
              omega
            · have := bits_of_needs hB hc i i (Nat.le_refl _) hi hn k (by omega) (List.all_eq_true.1 h4 k (List.mem_range.2 (by omega)))
              rw [hku] at this; cases this
        have hb1 := bits_of_needs hB hc i i (Nat.le_refl _) hi hn
        have hb2 : ∀ d, i < d → d < ops.size → (B.getD d 0).testBit i = true → ls l d = false := by
          intro d hid hd hbit
          by_cases e : ls l d = true
          · have := bits_of_needs hB hc d d (Nat.le_refl _) hd (hc d hd e) i hid hbit
            rw [hu] at this; cases this
          · simpa using e
        have hag := fun x hx => fr_agree hD (t0 := t0) (V := V) hi hu hb1 hb2 (x := x) hx ops.size (Nat.le_refl _)
        rw [show min ops.size i = i by omega] at hag
        have hset := ls_set (l := l) (i := i) (by omega)
        have nxt : ∀ w', J (up (ls l) i) w' → wpAny P .any ops Q fuel (l.setIfInBounds i true) ⟨putv (fr ops t0 V (ls l) ops.size) (og ops i).dst (V i), []⟩ w' := by
          intro w' hJ'
          have h6 := ih (l.setIfInBounds i true) w' (by simpa using hl) (closed_set hl hc hr) (fun j hj => by
            rw [hset]; unfold up; rw [if_neg (by omega)]; exact h2 j hj) (by
            have h7 : ((List.range ops.size).filter fun j => !ls (l.setIfInBounds i true) j).length < ((List.range ops.size).filter fun j => !ls l j).length := by
              rw [hset]
              have hsub : ((List.range ops.size).filter fun j => !up (ls l) i j) = (((List.range ops.size).filter fun j => !ls l j).filter fun j => !(j == i)) := by
                rw [List.filter_filter]
                refine List.filter_congr fun j _ => ?_
                unfold up
                by_cases e : j = i
                · subst e; simp
                · simp [e]
              rw [hsub]
              have hmem : i ∈ (List.range ops.size).filter fun j => !ls l j := List.mem_filter.2 ⟨List.mem_range.2 hi, by rw [hu]; rfl⟩
              rcases Nat.lt_or_ge ((((List.range ops.size).filter fun j => !ls l j).filter fun j => !(j == i)).length) (((List.range ops.size).filter fun j => !ls l j).length) with h8 | h8
              · exact h8
              · exfalso
                have h9 := List.length_filter_eq_length_iff.1 (Nat.le_antisymm (List.length_filter_le _ _) h8) i hmem
                simp at h9
            omega) (by rw [hset]; exact hJ')
          rw [hset, fr_up hD hi hu hb2 ops.size hi (Nat.le_refl _)] at h6
          exact h6
        have hs := hS i him (ls l) w hJ hu hb1 hb2
        refine wpOp_of hi ?_
        rw [wanted_agree (t' := fr ops t0 V all i) hag]
        by_cases hw : Region.wanted (og ops i) (yielded ops (fr ops t0 V all i)) = true
        · rw [if_pos hw] at hs ⊢
          refine (hs.mono ?_).congr (exec_agree (noSel_at hN i) hag)
          rintro v w' ⟨rfl, hJ'⟩
          exact nxt w' hJ'
        · rw [if_neg hw] at hs ⊢
          obtain ⟨h3, h4⟩ := hs
          have := nxt w h4
          rw [h3] at this
          exact this
end
section
variable {P : Program} {f : Func} {p : List Nat} {Q : Exit → Act → World → Prop}
/-- A region of open order, in the text's order. -/
theorem w_draw {id : Nat} (h : cd f p = .region id (ro f p) true) (hmx : P.follows .mixedOrders = true) (B : List Nat) (m : Nat) (hok : drawOk (ro f p) B m = true) {J : (Nat → Bool) → World → Prop} {t tm : Array Value} {w : World}
    (h0 : ∀ w', w'.heap = w.heap → w'.os = w.os → w'.tape = w.tape → w'.output = w.output → J (fun _ => false) w') (hs : DSteps P (ro f p) B J m 0 t tm)
    (hend : ∀ b w', (∀ j, j < m → b j = true) → J b w' → RL P f p m Q ⟨tm, []⟩ w') : (cd f p).wp P Q ⟨t, []⟩ w := by
  simp only [drawOk, Bool.and_eq_true, decide_eq_true_eq] at hok
  obtain ⟨⟨⟨⟨hB, hD⟩, hN⟩, hT⟩, hm⟩ := hok
  rw [h]
  refine wp_region_any hmx ?_
  obtain ⟨V, _, hV, hS⟩ := dsteps_vals hs t (fun _ => undef) rfl
  have hz : ls (Array.replicate (ro f p).size false) = fun _ => false := by
    funext j
    unfold ls
    simp only [Array.getD_eq_getD_getElem?, Array.getElem?_replicate]
    split <;> rfl
  have := draw_any hB hD hN hT hm hV (fun j hj => hS j (Nat.zero_le _) hj) (fun b w' h1 h2 => (hend b w' h1 h2).out) (ro f p).size (Array.replicate (ro f p).size false) { w with drawn := w.drawn + 1 } (by simp) (by
    rw [hz]; intro d _ hb; cases hb) (fun j _ => by rw [hz]) (Nat.le_trans (List.length_filter_le _ _) (by simp)) (by rw [hz]; exact h0 _ rfl rfl rfl rfl)
  rw [hz, fr_none _ 0 (Nat.zero_le _) (fun _ _ => rfl)] at this
  exact this
/-- One operation in it. -/
theorem d_op {ops : Array Oper} {B : List Nat} {J : (Nat → Bool) → World → Prop} {m i : Nat} {t t' : Array Value} (v : Value) (him : i < m) (hw : Region.wanted (og ops i) (yielded ops t) = true)
    (h : ∀ b w, J b w → b i = false → (∀ j, j < i → (B.getD i 0).testBit j = true → b j = true) → (∀ d, i < d → d < ops.size → (B.getD d 0).testBit i = true → b d = false) → OpG P (og ops i) t [] w fun u w' => u = v ∧ J (up b i) w') (hn : DSteps P ops B J m (i + 1) (putv t (og ops i).dst v) t') : DSteps P ops B J m i t t' :=
  .cons him (fun b w hJ hb hd he => by rw [if_pos hw]; exact h b w hJ hb hd he) hn
theorem d_nil {ops : Array Oper} {B : List Nat} {J : (Nat → Bool) → World → Prop} {m : Nat} {t t' : Array Value} (h : t = t') : DSteps P ops B J m m t t' := by rw [h]; exact .nil
theorem d_skip {ops : Array Oper} {B : List Nat} {J : (Nat → Bool) → World → Prop} {m i : Nat} {t t' : Array Value} (him : i < m) (hw : Region.wanted (og ops i) (yielded ops t) = false)
    (hJ : ∀ b w, J b w → J (up b i) w) (hn : DSteps P ops B J m (i + 1) (putv t (og ops i).dst undef) t') : DSteps P ops B J m i t t' :=
  .cons him (fun b w h _ _ _ => by rw [if_neg (by rw [hw]; simp)]; exact ⟨rfl, hJ b w h⟩) hn
/-- Pure operations' runs, the values being given. -/
def runs (P : Program) (ops : Array Oper) : List Oper → List Value → Array Value → World → List (Result Next)
  | o :: l, v :: vs, t, w => (if Region.wanted o (yielded ops t) then (execOp (Act.eval ⟨t, []⟩) o).run P w else .ok (.value undef) w) :: runs P ops l vs (putv t o.dst v) w
  | _, _, _, _ => []
def puts : List Oper → List Value → Array Value → Array Value
  | o :: l, v :: vs, t => puts l vs (putv t o.dst v)
  | _, _, t => t
theorem d_pure_list {ops : Array Oper} {B : List Nat} {J : (Nat → Bool) → World → Prop} {m : Nat} {t' : Array Value} : ∀ (l : List Oper) (vs : List Value) (i j : Nat) (t : Array Value), j = i + l.length → l.length = vs.length → j ≤ m → (∀ k, (hk : k < l.length) → og ops (i + k) = l[k]) →
    (∀ w, runs P ops l vs t w = vs.map fun v => .ok (.value v) w) → (∀ k, i ≤ k → k < j → ∀ b w, J b w → J (up b k) w) → DSteps P ops B J m j (puts l vs t) t' → DSteps P ops B J m i t t'
  | [], vs, i, j, t, hj, hl, hm, ho, h, hJ, hn => by
    simp only [List.length_nil, Nat.add_zero] at hj
    subst hj; exact hn
  | o :: l, [], i, j, t, hj, hl, hm, ho, h, hJ, hn => by simp at hl
  | o :: l, v :: vs, i, j, t, hj, hl, hm, ho, h, hJ, hn => by
    have hoi : og ops i = o := by have := ho 0 (by simp); simpa using this
    simp only [List.length_cons] at hj hl
    have h1 : ∀ w, (if Region.wanted o (yielded ops t) then (execOp (Act.eval ⟨t, []⟩) o).run P w else .ok (.value undef) w) = .ok (.value v) w := fun w => by
      have := h w
      simp only [runs, List.map_cons, List.cons.injEq] at this
      exact this.1
    have h2 : ∀ w, runs P ops l vs (putv t o.dst v) w = vs.map fun v => .ok (.value v) w := fun w => by
      have := h w
      simp only [runs, List.map_cons, List.cons.injEq] at this
      exact this.2
    have rest : DSteps P ops B J m (i + 1) (putv t (og ops i).dst v) t' := by
      rw [hoi]
      exact d_pure_list l vs (i + 1) j _ (by omega) (by omega) hm (fun k hk => by
        have := ho (k + 1) (by simp; omega)
        rw [show i + 1 + k = i + (k + 1) by omega, this]; rfl) h2 (fun k h1 h2 => hJ k (by omega) h2) hn
    by_cases hw : Region.wanted o (yielded ops t) = true
    · refine d_op v (by omega) (by rw [hoi]; exact hw) (fun b w hb _ _ _ => ?_) rest
      rw [hoi]
      have h3 := h1 w
      rw [if_pos hw] at h3
      exact OpG.of_run h3 ⟨rfl, hJ i (Nat.le_refl _) (by omega) b w hb⟩
    · have hw' : Region.wanted o (yielded ops t) = false := by simpa using hw
      have h3 := h1 default
      rw [if_neg hw] at h3
      injection h3 with h4
      injection h4 with h5
      subst h5
      exact d_skip (by omega) (by rw [hoi]; exact hw') (hJ i (Nat.le_refl _) (by omega)) rest
theorem d_pure {f : Func} {p : List Nat} {B : List Nat} {J : (Nat → Bool) → World → Prop} {m i : Nat} {t t2 t' : Array Value} (j : Nat) (vs : List Value) (hok : (decide (i ≤ j) && decide (j ≤ m) && decide (j ≤ (ro f p).size) && decide (vs.length = j - i)) = true)
    (h : ∀ w, runs P (ro f p) (seg f p i j) vs t w = vs.map fun v => .ok (.value v) w) (ht : puts (seg f p i j) vs t = t2) (hJ : ∀ k, i ≤ k → k < j → ∀ b w, J b w → J (up b k) w) (hn : DSteps P (ro f p) B J m j t2 t') : DSteps P (ro f p) B J m i t t' := by
  simp only [Bool.and_eq_true, decide_eq_true_eq] at hok
  obtain ⟨⟨⟨h1, h2⟩, h3⟩, h4⟩ := hok
  subst ht
  have hlen : (seg f p i j).length = j - i := by simp [seg]; omega
  refine d_pure_list (seg f p i j) vs i j t (by omega) (by omega) h2 (fun k hk => ?_) h hJ hn
  simp only [seg, List.getElem_take, List.getElem_drop, Array.getElem_toList, og]
  rw [Array.getD_eq_getD_getElem?, Array.getElem?_eq_getElem (by omega)]
  rfl
end
end Go.Proofs.Ytampekcanmakkaa.G
