/- A region of open order in which what only reads stands beside a chain of operations: the readers first, then the chain. -/
import Derived.Test.YtampekcanmakkaaBase18
set_option linter.unusedVariables false
namespace Go.Proofs.Ytampekcanmakkaa.G
open Go.RowKit
/-- A plan: an order of the text's that goes by what waits for what; each operation waits for the last of the chain ahead of it. -/
def planOk (ops : Array Oper) (B : List Nat) (M : Nat) : Nat → Option Nat → List Nat → Bool
  | s, _, [] => (List.range ops.size).all fun j => s.testBit j
  | s, last, i :: is => decide (i < ops.size) && !s.testBit i && ((List.range i).all fun j => !(B.getD i 0).testBit j || s.testBit j) && (match last with | some r => (B.getD i 0).testBit r && decide (r < i) | none => true) && planOk ops B M (s ||| (1 <<< i)) (if M.testBit i then some i else last) is
def drawcOk (ops : Array Oper) (B : List Nat) (M : Nat) (plan : List Nat) : Bool := bitsOk ops B && detOk ops B && noSel ops && planOk ops B M 0 none plan
def StepQ (P : Program) (ops : Array Oper) (G : World → Prop) (i : Nat) (t : Array Value) (v : Value) : Prop :=
  ∀ w, G w → if Region.wanted (og ops i) (yielded ops t) = true then OpG P (og ops i) t [] w (fun u w' => u = v ∧ w' = w) else v = undef
def CL0 (P : Program) (ops : Array Oper) (M : Nat) (G : World → Prop) (Q : Exit → Act → World → Prop) : List Nat → Array Value → World → Prop
  | [], t, w => Q .normal ⟨t, []⟩ w
  | i :: is, t, w => if M.testBit i = true then (if Region.wanted (og ops i) (yielded ops t) = true then OpG P (og ops i) t [] w fun v w' => G w' ∧ CL0 P ops M G Q is (putv t (og ops i).dst v) w' else CL0 P ops M G Q is (putv t (og ops i).dst undef) w)
    else ∃ v, StepQ P ops G i t v ∧ CL0 P ops M G Q is (putv t (og ops i).dst v) w
structure CL (P : Program) (ops : Array Oper) (M : Nat) (G : World → Prop) (Q : Exit → Act → World → Prop) (is : List Nat) (t : Array Value) (w : World) : Prop where mk :: (out : CL0 P ops M G Q is t w)
section
variable {P : Program} {ops : Array Oper} {B : List Nat} {M : Nat} {G : World → Prop}
theorem fr_agree2 (hD : detOk ops B = true) {t0 : Array Value} {V V' : Nat → Value} {b b' : Nat → Bool} {i : Nat} (hi : i < ops.size) (hbi : b i = false) (hbi' : b' i = false)
    (h1 : ∀ j, j < i → (B.getD i 0).testBit j = true → b j = true ∧ b' j = true ∧ V j = V' j) (h2 : ∀ d, i < d → d < ops.size → (B.getD d 0).testBit i = true → b d = false ∧ b' d = false) {x : Nat} (hx : x ∈ (og ops i).looksAt ops) :
    ∀ n, n ≤ ops.size → (fr ops t0 V b n)[x]? = (fr ops t0 V' b' n)[x]? := by
  intro n
  induction n with
  | zero => intro _; rfl
  | succ n ih =>
    intro hn
    have ih := ih (by omega)
    have miss : (og ops n).dst ≠ some x → (fr ops t0 V b (n + 1))[x]? = (fr ops t0 V' b' (n + 1))[x]? := by
      intro hne
      simp only [fr]
      split <;> split <;> (try rw [putv_get, if_neg hne]) <;> (try rw [putv_get, if_neg hne]) <;> exact ih
    rcases Nat.lt_trichotomy n i with hlt | rfl | hgt
    · rcases det_at hD hi hlt with hb | ⟨ha1, ha2⟩
      · obtain ⟨e1, e2, e3⟩ := h1 n hlt hb
        simp only [fr, e1, e2, if_true]
        rw [putv_get, putv_get, ih, fr_size, fr_size, e3]
      · exact miss fun e => (Oper.apart_spec ha2).1 x e hx
    · simp only [fr, hbi, hbi']
      exact ih
    · rcases det_at hD (i := n) (by omega) hgt with hb | ⟨ha1, ha2⟩
      · obtain ⟨e1, e2⟩ := h2 n hgt (by omega) hb
        simp only [fr, e1, e2]
        exact ih
      · exact miss fun e => (Oper.apart_spec ha1).1 x e hx
theorem fr_congr {t0 : Array Value} {V V' : Nat → Value} {b b' : Nat → Bool} : ∀ n, (∀ j, j < n → b j = b' j ∧ (b j = true → V j = V' j)) → fr ops t0 V b n = fr ops t0 V' b' n
  | 0, _ => rfl
  | n + 1, h => by
    simp only [fr]
    rw [fr_congr n (fun j hj => h j (by omega))]
    obtain ⟨e1, e2⟩ := h n (by omega)
    rw [← e1]
    split
    · rename_i hb; rw [e2 hb]
    · rfl
def dep (B : List Nat) (i : Nat) : Nat → Bool := fun j => decide (j < i) && (B.getD i 0).testBit j
theorem stepQ_congr (hN : noSel ops = true) {i : Nat} {t t' : Array Value} {v : Value} (h : StepQ P ops G i t v) (hag : ∀ x ∈ (og ops i).looksAt ops, t'[x]? = t[x]?) : StepQ P ops G i t' v := fun w hG => by
  have := h w hG
  rw [wanted_agree hag]
  split
  · rename_i hw
    rw [if_pos hw] at this
    exact this.congr (exec_agree (noSel_at hN i) hag)
  · rename_i hw
    rw [if_neg hw] at this
    exact this
/-- What is planned, by a set. -/
def PlanP (ops : Array Oper) (B : List Nat) (M : Nat) : (Nat → Bool) → Option Nat → List Nat → Prop
  | s, _, [] => ∀ j, j < ops.size → s j = true
  | s, last, i :: is => i < ops.size ∧ s i = false ∧ (∀ j, j < i → (B.getD i 0).testBit j = true → s j = true) ∧ (∀ r, last = some r → r < i ∧ (B.getD i 0).testBit r = true) ∧ PlanP ops B M (up s i) (if M.testBit i then some i else last) is
theorem up_bits (s i : Nat) : (fun j => (s ||| (1 <<< i)).testBit j) = up (fun j => s.testBit j) i := by
  funext j
  unfold up
  rw [Nat.testBit_or, Nat.shiftLeft_eq, Nat.one_mul, Nat.testBit_two_pow]
  by_cases e : j = i
  · subst e; simp
  · rw [if_neg e]
    have : ¬ i = j := fun h => e h.symm
    simp [this]
theorem planP_of : ∀ (plan : List Nat) (s : Nat) (last : Option Nat), planOk ops B M s last plan = true → PlanP ops B M (fun j => s.testBit j) last plan
  | [], s, last, h => fun j hj => List.all_eq_true.1 h j (List.mem_range.2 hj)
  | i :: is, s, last, h => by
    unfold planOk at h
    simp only [Bool.and_eq_true, decide_eq_true_eq] at h
    obtain ⟨⟨⟨⟨h1, h2⟩, h3⟩, h4⟩, h5⟩ := h
    refine ⟨h1, by simpa using h2, fun j hj hb => ?_, fun r hr => ?_, ?_⟩
    · have := List.all_eq_true.1 h3 j (List.mem_range.2 hj)
      rw [hb] at this
      simpa using this
    · subst hr
      simp only [Bool.and_eq_true, decide_eq_true_eq] at h4
      exact ⟨h4.2, h4.1⟩
    · have := planP_of is _ _ h5
      rwa [up_bits] at this
/-- An operation of the plan's rest waits for one of the rest's chain, or is its head. -/
theorem rest_waits : ∀ (is : List Nat) (s : Nat → Bool) (r : Nat), PlanP ops B M s (some r) is → ∀ i ∈ is, ∃ r', (r' = r ∨ r' ∈ is) ∧ r' < i ∧ (B.getD i 0).testBit r' = true
  | [], _, _, _, i, hi => by cases hi
  | j :: is, s, r, h, i, hi => by
    obtain ⟨h1, h2, h3, h4, h5⟩ := h
    rcases List.mem_cons.1 hi with rfl | hi
    · obtain ⟨h6, h7⟩ := h4 r rfl
      exact ⟨r, .inl rfl, h6, h7⟩
    · by_cases hm : M.testBit j = true
      · rw [if_pos hm] at h5
        obtain ⟨r', hr, hlt, hb⟩ := rest_waits is _ j h5 i hi
        exact ⟨r', .inr (by rcases hr with rfl | hr; exact List.mem_cons_self; exact List.mem_cons_of_mem _ hr), hlt, hb⟩
      · rw [if_neg hm] at h5
        obtain ⟨r', hr, hlt, hb⟩ := rest_waits is _ r h5 i hi
        exact ⟨r', hr.imp id (List.mem_cons_of_mem _), hlt, hb⟩
/-- The plan's state: what is planned already (s), what it gave (V). -/
structure PSt (P : Program) (ops : Array Oper) (B : List Nat) (M : Nat) (G : World → Prop) (Q : Exit → Act → World → Prop) (t0 : Array Value) (l : Nat → Bool) (s : Nat → Bool) (V : Nat → Value) (rest : List Nat) (w : World) : Prop where
  clo : ∀ d, d < ops.size → s d = true → ∀ j, j < d → (B.getD d 0).testBit j = true → s j = true
  don : ∀ j, j < ops.size → l j = true → s j = true
  cha : ∀ j, j < ops.size → s j = true → M.testBit j = true → l j = true
  mem : ∀ j, j < ops.size → s j = false → j ∈ rest
  unl : ∀ j ∈ rest, s j = false
  lt : ∀ j ∈ rest, j < ops.size
  qui : ∀ i, i < ops.size → s i = true → M.testBit i = false → StepQ P ops G i (fr ops t0 V (dep B i) ops.size) (V i)
  run : CL0 P ops M G Q rest (fr ops t0 V s ops.size) w
theorem dep_self (i : Nat) : dep B i i = false := by simp [dep]
theorem dep_up (hB : bitsOk ops B = true) {i d : Nat} (h : i < d) : dep B i d = false := by unfold dep; simp; omega
/-- The readers at the head of the rest are planned at once. -/
theorem advance (hB : bitsOk ops B = true) (hD : detOk ops B = true) (hN : noSel ops = true) {Q : Exit → Act → World → Prop} {t0 : Array Value} {l : Nat → Bool} {w : World} : ∀ (rest : List Nat) (s : Nat → Bool) (V : Nat → Value) (last : Option Nat), PlanP ops B M s last rest → PSt P ops B M G Q t0 l s V rest w →
    ∃ s' V' rest' last', PlanP ops B M s' last' rest' ∧ PSt P ops B M G Q t0 l s' V' rest' w ∧ (∀ i is, rest' = i :: is → M.testBit i = true) ∧ (∀ j, s j = true → V' j = V j)
  | [], s, V, last, hp, h => ⟨s, V, [], last, hp, h, (fun _ _ e => by cases e), fun _ _ => rfl⟩
  | i :: is, s, V, last, hp, h => by
    by_cases hm : M.testBit i = true
    · exact ⟨s, V, i :: is, last, hp, h, (fun _ _ e => by injection e with e; subst e; exact hm), fun _ _ => rfl⟩
    · have hm' : M.testBit i = false := by simpa using hm
      obtain ⟨h1, h2, h3, h4, h5⟩ := hp
      rw [if_neg hm] at h5
      have hrun := h.run
      unfold CL0 at hrun
      rw [if_neg hm] at hrun
      obtain ⟨v, hsQ, hrest⟩ := hrun
      have hVeq : ∀ b : Nat → Bool, b i = false → fr ops t0 (fun j => if j = i then v else V j) b ops.size = fr ops t0 V b ops.size := fun b hb => fr_congr _ fun j hj => ⟨rfl, fun hbj => by
        by_cases e : j = i
        · subst e; rw [hb] at hbj; cases hbj
        · simp [e]⟩
      have hdeps : ∀ d, i < d → d < ops.size → (B.getD d 0).testBit i = true → s d = false := fun d hid hd hbit => by
        by_cases e : s d = true
        · have := h.clo d hd e i hid hbit
          rw [h2] at this; cases this
        · simpa using e
      have hup : fr ops t0 (fun j => if j = i then v else V j) (up s i) ops.size = putv (fr ops t0 V s ops.size) (og ops i).dst v := by
        rw [fr_up hD h1 h2 hdeps ops.size h1 (Nat.le_refl _), hVeq s h2]
        simp
      have hnew : PSt P ops B M G Q t0 l (up s i) (fun j => if j = i then v else V j) is w := by
        refine ⟨fun d hd hsd j hj hb => ?_, fun j hj hl => ?_, fun j hj hs hmj => ?_, fun j hj hs => ?_, fun j hj => ?_, fun j hj => h.lt j (List.mem_cons_of_mem _ hj), fun j hj hs hmj => ?_, by rw [hup]; exact hrest⟩
        · unfold up at hsd ⊢
          split
          · rfl
          · split at hsd
            · rename_i e; subst e; exact h3 j hj hb
            · exact h.clo d hd hsd j hj hb
        · unfold up; split
          · rfl
          · exact h.don j hj hl
        · unfold up at hs
          split at hs
          · rename_i e; subst e; rw [hm'] at hmj; cases hmj
          · exact h.cha j hj hs hmj
        · unfold up at hs
          split at hs
          · cases hs
          · rename_i e
            rcases List.mem_cons.1 (h.mem j hj hs) with h6 | h6
            · exact absurd h6 e
            · exact h6
        · have hjs := h.unl j (List.mem_cons_of_mem _ hj)
          unfold up
          split
          · rename_i e; subst e
            exfalso
            -- i is not twice in the plan
            have key : ∀ (is : List Nat) (s : Nat → Bool) (last : Option Nat), PlanP ops B M s last is → ∀ k ∈ is, s k = false := by
              intro is
              induction is with
              | nil => intro s last _ k hk; cases hk
              | cons a is ih =>
                intro s last hp k hk
                obtain ⟨g1, g2, g3, g4, g5⟩ := hp
                rcases List.mem_cons.1 hk with rfl | hk
                · exact g2
                · have := ih _ _ g5 k hk
                  unfold up at this
                  split at this
                  · cases this
                  · exact this
            have := key is _ _ h5 j hj
            simp [up] at this
          · exact hjs
        · unfold up at hs
          split at hs
          · rename_i e; subst e
            rw [if_pos rfl, hVeq _ (dep_self j)]
            refine stepQ_congr hN hsQ fun x hx => ?_
            exact (fr_agree2 hD h1 h2 (dep_self j) (fun k hk hb => ⟨h3 k hk hb, by unfold dep; rw [decide_eq_true hk, hb]; rfl, rfl⟩) (fun d hjd hd hb => ⟨hdeps d hjd hd hb, dep_up hB hjd⟩) hx ops.size (Nat.le_refl _)).symm
          · rename_i e
            have := h.qui j hj hs hmj
            rw [if_neg e]
            have e2 : fr ops t0 (fun k => if k = i then v else V k) (dep B j) ops.size = fr ops t0 V (dep B j) ops.size := fr_congr _ fun k hk => ⟨rfl, fun hbk => by
              have hne : k ≠ i := fun e' => by
                subst e'
                unfold dep at hbk
                simp only [Bool.and_eq_true, decide_eq_true_eq] at hbk
                have := h.clo j hj hs k hbk.1 hbk.2
                rw [h2] at this; cases this
              simp [hne]⟩
            rw [e2]
            exact this
      obtain ⟨s', V', rest', last', g1, g2, g3, g4⟩ := advance hB hD hN is (up s i) (fun j => if j = i then v else V j) last h5 hnew
      refine ⟨s', V', rest', last', g1, g2, g3, fun j hj => ?_⟩
      have hne : j ≠ i := fun e => by subst e; rw [h2] at hj; cases hj
      rw [g4 j (by unfold up; rw [if_neg hne]; exact hj)]
      simp [hne]
theorem drawc_any (hB : bitsOk ops B = true) (hD : detOk ops B = true) (hN : noSel ops = true) {Q : Exit → Act → World → Prop} {t0 : Array Value} :
    ∀ (fuel : Nat) (l : Listed) (s : Nat → Bool) (V : Nat → Value) (last : Option Nat) (rest : List Nat) (w : World), l.size = ops.size → Closed ops (ls l) → ((List.range ops.size).filter fun j => !ls l j).length ≤ fuel → G w →
      PlanP ops B M s last rest → (∀ i is, rest = i :: is → M.testBit i = true) → PSt P ops B M G Q t0 (ls l) s V rest w → wpAny P .any ops Q fuel l ⟨fr ops t0 V (ls l) ops.size, []⟩ w := by
  have fin : ∀ (l : Listed) (s : Nat → Bool) (V : Nat → Value) (rest : List Nat) (w : World), (∀ j, j < ops.size → ls l j = true) → PSt P ops B M G Q t0 (ls l) s V rest w → Q .normal ⟨fr ops t0 V (ls l) ops.size, []⟩ w := by
    intro l s V rest w h1 h
    have hr : rest = [] := by
      rw [List.eq_nil_iff_forall_not_mem]
      intro j hj
      have := h.don j (h.lt j hj) (h1 j (h.lt j hj))
      rw [h.unl j hj] at this; cases this
    subst hr
    have := h.run
    have he : fr ops t0 V s ops.size = fr ops t0 V (ls l) ops.size := fr_congr _ fun j hj => ⟨by rw [h1 j hj, h.don j hj (h1 j hj)], fun _ => rfl⟩
    rw [he] at this
    exact this
  have allof : ∀ (l : Listed), l.size = ops.size → (∀ i, i ∈ Region.ready .any ops l → False) → ∀ j, j < ops.size → ls l j = true := by
    intro l hl hr j hj
    by_cases e : ls l j = true
    · exact e
    · obtain ⟨i, _, hi⟩ := ready_some hB hl j hj (by simpa using e)
      exact (hr i hi).elim
  intro fuel
  induction fuel with
  | zero =>
    intro l s V last rest w hl hc hf hG hp hh h
    have h3 : ((List.range ops.size).filter fun j => !ls l j) = [] := List.length_eq_zero_iff.1 (by omega)
    have h1 : ∀ j, j < ops.size → ls l j = true := fun j hj => by
      rw [List.filter_eq_nil_iff] at h3
      have := h3 j (List.mem_range.2 hj)
      simpa using this
    refine ⟨?_, fin l s V rest w h1 h⟩
    rw [List.eq_nil_iff_forall_not_mem]
    intro i hr
    obtain ⟨hi, hu, _⟩ := (ready_iff hl).1 hr
    rw [h1 i hi] at hu; cases hu
  | succ fuel ih =>
    intro l s V last rest w hl hc hf hG hp hh h
    refine ⟨fun hr => fin l s V rest w (allof l hl (fun i hi => by rw [hr] at hi; cases hi)) h, fun i hr => ?_⟩
    obtain ⟨hi, hu, hn⟩ := (ready_iff hl).1 hr
    have hb1 := bits_of_needs hB hc i i (Nat.le_refl _) hi hn
    have hb2 : ∀ d, i < d → d < ops.size → (B.getD d 0).testBit i = true → ls l d = false := by
      intro d hid hd hbit
      by_cases e : ls l d = true
      · have := bits_of_needs hB hc d d (Nat.le_refl _) hd (hc d hd e) i hid hbit
        rw [hu] at this; cases this
      · simpa using e
    have hset := ls_set (l := l) (i := i) (by omega)
    have hcnt : ((List.range ops.size).filter fun j => !ls (l.setIfInBounds i true) j).length ≤ fuel := by
      have h7 : ((List.range ops.size).filter fun j => !ls (l.setIfInBounds i true) j).length < ((List.range ops.size).filter fun j => !ls l j).length := by
        rw [hset]
        have hsub : ((List.range ops.size).filter fun j => !up (ls l) i j) = (((List.range ops.size).filter fun j => !ls l j).filter fun j => !(j == i)) := by
          rw [List.filter_filter]
          refine List.filter_congr fun j _ => ?_
          unfold up
          by_cases e : j = i
          · subst e; simp
          · simp [e]
        rw [hsub]
        have hmem : i ∈ (List.range ops.size).filter fun j => !ls l j := List.mem_filter.2 ⟨List.mem_range.2 hi, by rw [hu]; rfl⟩
        rcases Nat.lt_or_ge ((((List.range ops.size).filter fun j => !ls l j).filter fun j => !(j == i)).length) (((List.range ops.size).filter fun j => !ls l j).length) with h8 | h8
        · exact h8
        · exfalso
          have h9 := List.length_filter_eq_length_iff.1 (Nat.le_antisymm (List.length_filter_le _ _) h8) i hmem
          simp at h9
      omega
    have hcl := closed_set hl hc hr
    refine wpOp_of hi ?_
    by_cases hsi : s i = true
    · -- it is planned, so it only reads
      have hM' : M.testBit i = false := by
        by_cases e : M.testBit i = true
        · have := h.cha i hi hsi e
          rw [hu] at this; cases this
        · simpa using e
      have hag : ∀ x ∈ (og ops i).looksAt ops, (fr ops t0 V (ls l) ops.size)[x]? = (fr ops t0 V (dep B i) ops.size)[x]? := fun x hx =>
        fr_agree2 hD hi hu (dep_self i) (fun j hj hbit => ⟨hb1 j hj hbit, by unfold dep; rw [decide_eq_true hj, hbit]; rfl, rfl⟩) (fun d hid hd hbit => ⟨hb2 d hid hd hbit, dep_up hB hid⟩) hx ops.size (Nat.le_refl _)
      have hs := stepQ_congr hN (h.qui i hi hsi hM') hag w hG
      have nxt : wpAny P .any ops Q fuel (l.setIfInBounds i true) ⟨putv (fr ops t0 V (ls l) ops.size) (og ops i).dst (V i), []⟩ w := by
        have := ih (l.setIfInBounds i true) s V last rest w (by simpa using hl) hcl hcnt hG hp hh (by
          rw [hset]
          refine ⟨h.clo, fun j hj hlj => ?_, fun j hj hs hm => ?_, h.mem, h.unl, h.lt, h.qui, h.run⟩
          · unfold up at hlj
            split at hlj
            · rename_i e; subst e; exact hsi
            · exact h.don j hj hlj
          · unfold up
            split
            · rfl
            · exact h.cha j hj hs hm)
        rw [hset, fr_up hD hi hu hb2 ops.size hi (Nat.le_refl _)] at this
        exact this
      split
      · rename_i hw
        rw [if_pos hw] at hs
        refine hs.mono ?_
        rintro v w' ⟨rfl, rfl⟩
        exact nxt
      · rename_i hw
        rw [if_neg hw] at hs
        rw [← hs]
        exact nxt
    · -- the chain's next
      have hsi' : s i = false := by simpa using hsi
      have hmem := h.mem i hi hsi'
      obtain ⟨r, is, hrest⟩ : ∃ r is, rest = r :: is := by
        cases rest with
        | nil => cases hmem
        | cons r is => exact ⟨r, is, rfl⟩
      subst hrest
      have hrM := hh r is rfl
      have hir : i = r := by
        rcases List.mem_cons.1 hmem with e | hin
        · exact e
        · exfalso
          obtain ⟨g1, g2, g3, g4, g5⟩ := hp
          rw [if_pos hrM] at g5
          obtain ⟨r', hr', hlt, hb⟩ := rest_waits is _ r g5 i hin
          have hl' := hb1 r' hlt hb
          have hr'mem : r' ∈ r :: is := by
            rcases hr' with rfl | hr'
            · exact List.mem_cons_self
            · exact List.mem_cons_of_mem _ hr'
          have := h.don r' (h.lt r' hr'mem) hl'
          rw [h.unl r' hr'mem] at this; cases this
      subst hir
      obtain ⟨g1, g2, g3, g4, g5⟩ := hp
      rw [if_pos hrM] at g5
      have hrun := h.run
      unfold CL0 at hrun
      rw [if_pos hrM] at hrun
      have hdeps : ∀ d, i < d → d < ops.size → (B.getD d 0).testBit i = true → s d = false := fun d hid hd hbit => by
        by_cases e : s d = true
        · have := h.clo d hd e i hid hbit
          rw [hsi'] at this; cases this
        · simpa using e
      have hag : ∀ x ∈ (og ops i).looksAt ops, (fr ops t0 V (ls l) ops.size)[x]? = (fr ops t0 V s ops.size)[x]? := fun x hx =>
        fr_agree2 hD hi hu hsi' (fun j hj hbit => ⟨hb1 j hj hbit, g3 j hj hbit, rfl⟩) (fun d hid hd hbit => ⟨hb2 d hid hd hbit, hdeps d hid hd hbit⟩) hx ops.size (Nat.le_refl _)
      rw [wanted_agree hag]
      have nxt : ∀ v w', G w' → CL0 P ops M G Q is (putv (fr ops t0 V s ops.size) (og ops i).dst v) w' → wpAny P .any ops Q fuel (l.setIfInBounds i true) ⟨putv (fr ops t0 V (ls l) ops.size) (og ops i).dst v, []⟩ w' := by
        intro v w' hG' h'
        have e0 : ∀ b : Nat → Bool, b i = false → fr ops t0 (fun j => if j = i then v else V j) b ops.size = fr ops t0 V b ops.size := fun b hb => fr_congr _ fun j hj => ⟨rfl, fun hbj => by
          by_cases e : j = i
          · subst e; rw [hb] at hbj; cases hbj
          · simp [e]⟩
        have e1 : fr ops t0 (fun j => if j = i then v else V j) (up (ls l) i) ops.size = putv (fr ops t0 V (ls l) ops.size) (og ops i).dst v := by
          rw [fr_up hD hi hu hb2 ops.size hi (Nat.le_refl _), e0 _ hu]
          simp
        have e2 : fr ops t0 (fun j => if j = i then v else V j) (up s i) ops.size = putv (fr ops t0 V s ops.size) (og ops i).dst v := by
          rw [fr_up hD hi hsi' hdeps ops.size hi (Nat.le_refl _), e0 _ hsi']
          simp
        have hnew : PSt P ops B M G Q t0 (up (ls l) i) (up s i) (fun j => if j = i then v else V j) is w' := by
          refine ⟨fun d hd hsd j hj hb => ?_, fun j hj hlj => ?_, fun j hj hs hmj => ?_, fun j hj hs => ?_, fun j hj => ?_, fun j hj => h.lt j (List.mem_cons_of_mem _ hj), fun j hj hs hmj => ?_, by rw [e2]; exact h'⟩
          · unfold up at hsd ⊢
            split
            · rfl
            · split at hsd
              · rename_i e; subst e; exact g3 j hj hb
              · exact h.clo d hd hsd j hj hb
          · unfold up at hlj ⊢
            split
            · rfl
            · rename_i e
              rw [if_neg e] at hlj
              exact h.don j hj hlj
          · unfold up at hs ⊢
            split
            · rfl
            · rename_i e
              rw [if_neg e] at hs
              exact h.cha j hj hs hmj
          · unfold up at hs
            split at hs
            · cases hs
            · rename_i e
              rcases List.mem_cons.1 (h.mem j hj hs) with h6 | h6
              · exact absurd h6 e
              · exact h6
          · have key : ∀ (is : List Nat) (s : Nat → Bool) (last : Option Nat), PlanP ops B M s last is → ∀ k ∈ is, s k = false := by
              intro is
              induction is with
              | nil => intro s last _ k hk; cases hk
              | cons a is ih =>
                intro s last hp k hk
                obtain ⟨g1, g2, g3, g4, g5⟩ := hp
                rcases List.mem_cons.1 hk with rfl | hk
                · exact g2
                · have := ih _ _ g5 k hk
                  unfold up at this
                  split at this
                  · cases this
                  · exact this
            exact key is _ _ g5 j hj
          · unfold up at hs
            split at hs
            · rename_i e; subst e; rw [hrM] at hmj; cases hmj
            · rename_i e
              have := h.qui j hj hs hmj
              rw [if_neg e]
              have e4 : fr ops t0 (fun k => if k = i then v else V k) (dep B j) ops.size = fr ops t0 V (dep B j) ops.size := fr_congr _ fun k hk => ⟨rfl, fun hbk => by
                have hne : k ≠ i := fun e' => by
                  subst e'
                  unfold dep at hbk
                  simp only [Bool.and_eq_true, decide_eq_true_eq] at hbk
                  have := h.clo j hj hs k hbk.1 hbk.2
                  rw [hsi'] at this; cases this
                simp [hne]⟩
              rw [e4]
              exact this
        obtain ⟨s', V', rest', last', k1, k2, k3, k4⟩ := advance hB hD hN is (up s i) _ (some i) g5 hnew
        rw [← hset] at k2
        have hgo := ih (l.setIfInBounds i true) s' V' last' rest' w' (by simpa using hl) hcl hcnt hG' k1 k3 k2
        have e5 : fr ops t0 V' (ls (l.setIfInBounds i true)) ops.size = fr ops t0 (fun j => if j = i then v else V j) (ls (l.setIfInBounds i true)) ops.size := fr_congr _ fun j hj => ⟨rfl, fun hlj => k4 j (by
          rw [hset] at hlj
          exact hnew.don j hj hlj)⟩
        rw [e5, hset, e1] at hgo
        exact hgo
      by_cases hw : Region.wanted (og ops i) (yielded ops (fr ops t0 V s ops.size)) = true
      · rw [if_pos hw] at hrun ⊢
        refine (hrun.mono ?_).congr (exec_agree (noSel_at hN i) hag)
        rintro v w' ⟨hG', h'⟩
        exact nxt v w' hG' h'
      · rw [if_neg hw] at hrun ⊢
        exact nxt undef w hG hrun
end
section
variable {P : Program} {f : Func} {p : List Nat} {Q : Exit → Act → World → Prop} {M : Nat} {G : World → Prop} {t : Array Value} {w : World} {is : List Nat}
theorem w_drawc {id : Nat} (h : cd f p = .region id (ro f p) true) (hmx : P.follows .mixedOrders = true) (B : List Nat) (M : Nat) (plan : List Nat) (hok : drawcOk (ro f p) B M plan = true)
    (h0 : ∀ w', w'.heap = w.heap → G w') (hs : ∀ w', Kp No w w' → w'.heap = w.heap → CL P (ro f p) M G Q plan t w') : (cd f p).wp P Q ⟨t, []⟩ w := by
  simp only [drawcOk, Bool.and_eq_true] at hok
  obtain ⟨⟨⟨hB, hD⟩, hN⟩, hP⟩ := hok
  rw [h]
  refine wp_region_any hmx ?_
  have hz : ls (Array.replicate (ro f p).size false) = fun _ => false := by
    funext j
    unfold ls
    simp only [Array.getD_eq_getD_getElem?, Array.getElem?_replicate]
    split <;> rfl
  have hz0 : (fun j => (0 : Nat).testBit j) = fun _ => false := by funext j; simp
  have hp := planP_of plan 0 none hP
  rw [hz0] at hp
  have hmem : ∀ (is : List Nat) (s : Nat → Bool) (last : Option Nat), PlanP (ro f p) B M s last is → (∀ k ∈ is, s k = false ∧ k < (ro f p).size) ∧ ∀ j, j < (ro f p).size → s j = false → j ∈ is := by
    intro is
    induction is with
    | nil => intro s last h; exact ⟨(fun k hk => by cases hk), (fun j hj hs => by rw [h j hj] at hs; cases hs)⟩
    | cons a is ih =>
      intro s last hp
      obtain ⟨g1, g2, g3, g4, g5⟩ := hp
      obtain ⟨i1, i2⟩ := ih _ _ g5
      refine ⟨fun k hk => ?_, fun j hj hs => ?_⟩
      · rcases List.mem_cons.1 hk with rfl | hk
        · exact ⟨g2, g1⟩
        · obtain ⟨h1, h2⟩ := i1 k hk
          unfold up at h1
          split at h1
          · cases h1
          · exact ⟨h1, h2⟩
      · by_cases e : j = a
        · subst e; exact List.mem_cons_self
        · exact List.mem_cons_of_mem _ (i2 j hj (by unfold up; rw [if_neg e]; exact hs))
  obtain ⟨m1, m2⟩ := hmem plan _ _ hp
  have hst : PSt P (ro f p) B M G Q t (fun _ => false) (fun _ => false) (fun _ => undef) plan { w with drawn := w.drawn + 1 } := by
    refine ⟨(fun d _ h => by cases h), (fun j _ h => by cases h), (fun j _ h => by cases h), m2, fun j hj => (m1 j hj).1, fun j hj => (m1 j hj).2, (fun i _ h => by cases h), ?_⟩
    rw [fr_none _ 0 (Nat.zero_le _) (fun _ _ => rfl)]
    exact (hs { w with drawn := w.drawn + 1 } (Kp.same rfl rfl rfl rfl) rfl).out
  obtain ⟨s', V', rest', last', k1, k2, k3, k4⟩ := advance hB hD hN plan _ _ none hp hst
  have := drawc_any (t0 := t) (Q := Q) hB hD hN (ro f p).size (Array.replicate (ro f p).size false) s' V' last' rest' { w with drawn := w.drawn + 1 } (by simp) (by
    rw [hz]; intro d _ hb; cases hb) (Nat.le_trans (List.length_filter_le _ _) (by simp)) (h0 _ rfl) k1 k3 (by rw [hz]; exact k2)
  rw [hz, fr_none _ 0 (Nat.zero_le _) (fun _ _ => rfl)] at this
  exact this
theorem c_nil (h : Q .normal ⟨t, []⟩ w) : CL P (ro f p) M G Q [] t w := ⟨h⟩
theorem c_do (i : Nat) (h : (M.testBit i && wnt f p i t) = true) (hh : OpG P (opAt f p i) t [] w fun v w' => G w' ∧ CL P (ro f p) M G Q is (putv t (opAt f p i).dst v) w') : CL P (ro f p) M G Q (i :: is) t w := by
  rw [Bool.and_eq_true] at h
  refine ⟨?_⟩
  unfold CL0
  rw [if_pos h.1, if_pos (show Region.wanted (og (ro f p) i) (yielded (ro f p) t) = true from h.2)]
  exact hh.mono fun v w' h => ⟨h.1, h.2.out⟩
theorem c_skip (i : Nat) (h : (M.testBit i && !wnt f p i t) = true) (hh : CL P (ro f p) M G Q is (putv t (opAt f p i).dst undef) w) : CL P (ro f p) M G Q (i :: is) t w := by
  rw [Bool.and_eq_true] at h
  refine ⟨?_⟩
  unfold CL0
  have h2 : ¬ Region.wanted (og (ro f p) i) (yielded (ro f p) t) = true := by
    have := h.2
    unfold wnt at this
    intro e
    have e' : Region.wanted (opAt f p i) (yielded (ro f p) t) = true := e
    rw [e'] at this
    cases this
  rw [if_pos h.1, if_neg h2]
  exact hh.out
/-- What only reads. -/
theorem c_q (i : Nat) (v : Value) (h : (!M.testBit i && wnt f p i t) = true) (hh : ∀ w, G w → OpG P (opAt f p i) t [] w fun u w' => u = v ∧ w' = w) (hn : CL P (ro f p) M G Q is (putv t (opAt f p i).dst v) w) : CL P (ro f p) M G Q (i :: is) t w := by
  rw [Bool.and_eq_true] at h
  refine ⟨?_⟩
  unfold CL0
  rw [if_neg (by have := h.1; intro e; rw [e] at this; cases this)]
  exact ⟨v, fun w hG => by rw [if_pos (show Region.wanted (og (ro f p) i) (yielded (ro f p) t) = true from h.2)]; exact hh w hG, hn.out⟩
theorem c_val (i : Nat) (v : Value) (h : M.testBit i = false) (hh : ∀ w, (if Region.wanted (og (ro f p) i) (yielded (ro f p) t) then (execOp (Act.eval ⟨t, []⟩) (og (ro f p) i)).run P w else .ok (.value undef) w) = .ok (.value v) w) (hn : CL P (ro f p) M G Q is (putv t (opAt f p i).dst v) w) : CL P (ro f p) M G Q (i :: is) t w := by
  refine ⟨?_⟩
  unfold CL0
  rw [if_neg (by rw [h]; exact Bool.false_ne_true)]
  refine ⟨v, fun w hG => ?_, hn.out⟩
  have := hh w
  split
  · rename_i hw
    rw [if_pos hw] at this
    exact OpG.of_run this ⟨rfl, rfl⟩
  · rename_i hw
    rw [if_neg hw] at this
    injection this with h3
    injection h3 with h3
    exact h3.symm
end
end Go.Proofs.Ytampekcanmakkaa.G
