/-
  Contracts: derivations and loops.
-/
import Derived.Test.YtokdinonifchaaaGreatXe
import Derived.Test.YtokdinonifchaaaGreatYb
section
set_option linter.unusedVariables false
set_option linter.unusedSimpArgs false
set_option maxRecDepth 100000
namespace Go.Dw
def cPp (p : List Int) : List V := [encP p]
abbrev encPs (l : List (List Int)) : V := encL cPp 1 l
theorem cPp_0 (p : List Int) : (cPp p)[0]? = some (encP p) := rfl
theorem cPp_len (p : List Int) : (cPp p).length = 1 := rfl
attribute [push_cast] cPp_0 cPp_len
theorem flatten_take_succ {l : List (List Int)} {k : Nat} (h : k < l.length) : (l.take (k + 1)).flatten = (l.take k).flatten ++ l.getD k default := by
  rw [take_succ_getD h]; simp
theorem flatten_take_le (l : List (List Int)) (k : Nat) : (l.take k).flatten.length ≤ l.flatten.length := by
  conv => rhs; rw [← List.take_append_drop k l]
  rw [List.flatten_append, List.length_append]; omega
theorem slices_Concat_s (l : List (List Int)) (hl : l.length < 2 ^ 40) (hs : l.flatten.length < 2 ^ 40) : PF n_slices_Concat_s_int_int [encPs l] (encP l.flatten) := by
  refine pf_of slices_Concat_s_int_int.ok rfl ?_
  push_cast
  refine loop_up (n := l.length) (R := fun k => slices_Concat_s_int_int.L7 (encPs l) (.int .i64 (l.take k).flatten.length) (encPs l) (.int .i64 l.length) (.int .i64 k) 0 [] _) ?_ ?_ 0 (by omega)
  · intro k hk ih
    have h1 := flatten_take_le l (k + 1)
    rw [flatten_take_succ hk, List.length_append] at h1
    have h2 : IntKind.i64.wrap (((l.take k).flatten.length : Int) + ((l.getD k default).length : Int)) = ((l.take (k + 1)).flatten.length : Int) := by
      rw [wrap64 (by omega) (by omega), flatten_take_succ hk, List.length_append]; omega
    have h3 : (((l.take (k + 1)).flatten.length : Int) < 0) = False := eq_false (by omega)
    refine slices_Concat_s_int_int.G7 ?_
    push_cast [ilt hk, h2, h3, w64 (show k < 2 ^ 62 by omega)]
    exact ih
  · refine slices_Concat_s_int_int.G7 ?_
    push_cast [inlt (Nat.le_refl _), List.take_length]
    refine callG_new (grow_row _ hs) ?_
    push_cast [List.map_cons, List.map_nil]
    refine loop_up (n := l.length) (R := fun k => slices_Concat_s_int_int.L3 (ownL cI 0 1 (l.take k).flatten) (encPs l) (.int .i64 l.length) (.int .i64 k) 0 [.arr t_int 1 (l.take k).flatten.length] _) ?_ ?_ 0 (by omega)
    · intro k hk ih
      have h1 := flatten_take_le l (k + 1)
      rw [flatten_take_succ hk, List.length_append] at h1
      rw [flatten_take_succ hk] at ih
      refine slices_Concat_s_int_int.G3 ?_
      push_cast [ilt hk, w64 (show k < 2 ^ 62 by omega)]
      rw [List.length_map]
      refine ⟨Nat.le_trans (Nat.mul_le_mul_right 8 (show _ ≤ 2 ^ 40 by omega)) (by unfold maxEls; decide), ?_⟩
      rw [List.length_append] at ih
      exact ih
    · refine slices_Concat_s_int_int.G3 ?_
      push_cast [inlt (Nat.le_refl _), List.take_length]
      refine pf_ret ?_
      push_cast [slices_Concat_s_int_int.rs]
theorem doE_none {r : List ARule} {t : Term} {s : AStep} {e : Int} (h : doE r t s = (none, e)) : e ≠ 0 := by
  unfold doE at h
  split at h
  · rename_i h1; cases h; exact h1
  · split at h
    · split at h
      · cases h
      · cases h; decide
    · cases h; decide
theorem derive_Run_s (r : List ARule) (c : AChain) (hr : rbs r < 2 ^ 28) (hrs : ∀ x ∈ r, short x.right = true) (hc : tb c.start < 2 ^ 28) (hl : c.steps.length < 2 ^ 40) (hp : ∀ s ∈ c.steps, s.pos.length < 2 ^ 40) :
    PF n_derive_Run [encRs r, encC c] (.tup [encTs (chainE r c).1, .int .i64 (chainE r c).2]) := by
  have hst := size_le_tb c.start
  refine pf_of derive_Run.ok rfl ?_
  unfold chainE
  by_cases h1 : 4096 < c.steps.length
  · have hi : ((4096 : Int) < (c.steps.length : Int)) = True := eq_true (by omega)
    rw [if_pos h1]
    push_cast [hi]
    exact pf_ret (by push_cast [derive_Run.rs]; rfl)
  · have hi : ((4096 : Int) < (c.steps.length : Int)) = False := eq_false (by omega)
    rw [if_neg h1]
    push_cast [hi]
    refine .of (term_Check_s c.start (by omega)) ?_
    by_cases h2 : check c.start = 0
    · rw [if_neg (by simpa using h2)]
      push_cast [h2]
      refine .of (term_Own_s c.start (by omega)) ?_
      push_cast
      have hg := check_good h2
      generalize hres : addE [c.start] (runE r c.start c.steps) = res
      rw [show (V.own 0 3 [cT c.start] : V) = ownL cT 0 3 ([] ++ [c.start]) from rfl]
      refine loop_up (n := c.steps.length) (R := fun k => ∀ pre t, pre.length = k → good t → addE (pre ++ [t]) (runE r t (c.steps.drop k)) = res →
        derive_Run.L3 (encRs r) (ownL cT 0 3 (pre ++ [t])) (encSts c.steps) (.int .i64 c.steps.length) (.int .i64 k) 0 [.arr t_Term 3 (k + 1)] (Ends 0 derive_Run.rs fun x' H' => x' = .tup [encTs res.1, .int .i64 res.2] ∧ H' = [])) ?_ ?_ 0 (by omega) [] c.start rfl hg hres
      · intro k hk ih pre t hpre ht hq
        rw [drop_getD hk] at hq
        have hm := getD_mem hk
        generalize hs : c.steps.getD k default = s at hm hq
        have hget : (pre ++ [t]).getD k default = t := by rw [List.getD_eq_getElem?_getD, List.getElem?_append_right (by omega), hpre]; simp
        have hlen : (pre ++ [t]).length = k + 1 := by simp [hpre]
        have hlt : ((k : Int) < ((k + 1 : Nat) : Int)) = True := eq_true (by omega)
        have htb := good_tb ht
        refine derive_Run.G3 ?_
        push_cast [ilt hk, hs, hget, hlen, hlt]
        refine ⟨by omega, ?_⟩
        refine .of (rewrite_Do_s r t s hr htb (hp s hm) fun x hx => by have := setT_size s.pos t x; have := fits_size hx; have := ht.2; omega) ?_
        cases hd : doE r t s with
        | mk o e =>
        cases o with
        | none =>
          rw [runE_none hd] at hq
          have he := doE_none hd
          simp only [addE, he, if_false] at hq
          push_cast [encTE, he]
          refine pf_ret ?_
          push_cast [derive_Run.rs, ← hq]
          rfl
        | some u =>
          obtain ⟨hu, rfl⟩ := doE_good hrs ht.1 hd
          rw [runE_some hd, addE_addE] at hq
          push_cast [encTE, w64 (show k < 2 ^ 62 by omega)]
          refine ⟨⟨by omega, Nat.le_trans (Nat.mul_le_mul_right 48 (show _ ≤ 2 ^ 41 by omega)) (by unfold maxEls; decide)⟩, ?_⟩
          have := ih (pre ++ [t]) u (by simp [hpre]) hu hq
          push_cast at this
          rw [hpre]
          exact this
      · intro pre t hpre ht hq
        rw [drop_map_none] at hq
        refine derive_Run.G3 ?_
        push_cast [inlt (Nat.le_refl _)]
        refine pf_ret ?_
        push_cast [derive_Run.rs, ← hq]
        simp [addE, runE]
    · rw [if_pos (by simpa using h2)]
      push_cast [h2]
      exact pf_ret (by push_cast [derive_Run.rs]; rfl)
end Go.Dw
end
section
set_option linter.unusedVariables false
set_option linter.unusedSimpArgs false
set_option maxRecDepth 100000
namespace Go.Dw
/-! names of systems -/
mutual
theorem visit_name : ∀ (t : Term) (p : List Int), ∀ x ∈ visit t p, x.2.name.length < tb t
  | .mk n v l, p, x, hx => by
    rw [visit_eq] at hx
    simp only [tb]
    rcases List.mem_cons.1 hx with rfl | hx
    · simp only [Term.name]; omega
    · have := visits_name l p 0 x hx; simp only [tbs] at this; omega
theorem visits_name : ∀ (l : List Term) (p : List Int) (i : Nat), ∀ x ∈ visits l p i, x.2.name.length < tbs l
  | [], p, i, x, hx => by simp [visits] at hx
  | a :: l, p, i, x, hx => by
    simp only [visits, List.mem_append] at hx
    simp only [tbs, tb.tbs]
    rcases hx with hx | hx
    · have := visit_name a _ x hx; omega
    · have := visits_name l _ _ x hx; simp only [tbs] at this; omega
end
theorem arAll_name {M : Nat} : ∀ (l : List (List Int × Term)) {m m' : Ars}, arAll m l = some m' → (∀ x ∈ l, x.2.name.length < M) → (∀ p ∈ m, p.1.length < M) → ∀ p ∈ m', p.1.length < M
  | [], m, m', h, _, hm => by cases h; exact hm
  | x :: l, m, m', h, hl, hm => by
    simp only [arAll] at h
    cases hs : arStep m x.2 with
    | none => rw [hs] at h; cases h
    | some m1 =>
      rw [hs, Option.bind_some] at h
      refine arAll_name l h (fun y hy => hl y (by simp [hy])) ?_
      unfold arStep at hs
      split at hs
      · cases hs; exact hm
      · split at hs
        · split at hs
          · cases hs; exact hm
          · cases hs
        · cases hs
          intro p hp
          rcases List.mem_append.1 hp with hp | hp
          · exact hm p hp
          · simp only [List.mem_singleton] at hp; subst hp; exact hl x (by simp)
theorem arRules_name {M : Nat} : ∀ (r : List ARule) {m m' : Ars}, arRules m r = some m' → rbs r ≤ M → (∀ p ∈ m, p.1.length < M) → ∀ p ∈ m', p.1.length < M
  | [], m, m', h, _, hm => by cases h; exact hm
  | x :: r, m, m', h, hM, hm => by
    simp only [arRules] at h
    simp only [rbs] at hM
    cases ha : arAll m (visit x.left []) with
    | none => rw [ha] at h; cases h
    | some m1 =>
      rw [ha, Option.bind_some] at h
      cases hb : arAll m1 (visit x.right []) with
      | none => rw [hb] at h; cases h
      | some m2 =>
        rw [hb, Option.bind_some] at h
        exact arRules_name r h (by omega) (arAll_name _ hb (fun y hy => by have := visit_name _ _ y hy; omega) (arAll_name _ ha (fun y hy => by have := visit_name _ _ y hy; omega) hm))
theorem term_CheckSystem_t (r : List ARule) (hs : rbs r < 2 ^ 38) : PF n_term_CheckSystem [encRs r] (.int .i64 (checkSystem r)) :=
  term_CheckSystem_s r hs fun m hm p hp => by have := arRules_name r hm (Nat.le_refl _) (by simp) p hp; omega
theorem checkPairs_ok : ∀ {r : List ARule}, checkPairs r = 0 → ∀ x ∈ r, check x.left = 0 ∧ check x.right = 0
  | [], _, x, hx => by cases hx
  | y :: r, h, x, hx => by
    simp only [checkPairs] at h
    split at h
    · omega
    · rename_i h1
      rcases List.mem_cons.1 hx with rfl | hx
      · simp only [checks, ne_eq, Classical.not_not] at h1
        split at h1
        · omega
        · rename_i h2
          split at h1
          · omega
          · rename_i h3
            exact ⟨by simpa using h2, by simpa using h3⟩
      · exact checkPairs_ok h x hx
theorem checkSystem_good {r : List ARule} (h : checkSystem r = 0) : ∀ x ∈ r, good x.left ∧ good x.right := by
  have h1 : checkRules r = 0 := by
    unfold checkSystem at h
    split at h
    · rename_i h1; exact absurd h h1
    · rename_i h1; simpa using h1
  unfold checkRules at h1
  split at h1
  · omega
  · intro x hx
    have := checkPairs_ok h1 x hx
    exact ⟨check_good this.1, check_good this.2⟩
theorem encTs_nil : (V.sl 3 [] : V) = encTs [] := rfl
theorem derive_Terms_s (r : List ARule) (c : AChain) (hr : rbs r < 2 ^ 28) (hc : tb c.start < 2 ^ 28) (hl : c.steps.length < 2 ^ 40) (hp : ∀ s ∈ c.steps, s.pos.length < 2 ^ 40) :
    PF n_derive_Terms [encRs r, encC c] (.tup [encTs (termsE r c).1, .int .i64 (termsE r c).2]) := by
  refine pf_of derive_Terms.ok rfl ?_
  push_cast
  refine .of (term_CheckSystem_t r (by omega)) ?_
  unfold termsE
  by_cases h : checkSystem r = 0
  · rw [if_neg (by simpa using h)]
    push_cast [h]
    refine .of (derive_Run_s r c hr (fun x hx => (checkSystem_good h x hx).2.1) hc hl hp) ?_
    push_cast
    exact pf_ret (by push_cast [derive_Terms.rs])
  · rw [if_pos (by simpa using h)]
    push_cast [h]
    exact pf_ret (by push_cast [derive_Terms.rs]; rfl)
theorem runE_good {r : List ARule} (hr : ∀ x ∈ r, short x.right = true) : ∀ (l : List AStep) (t : Term), short t = true → ∀ u ∈ (runE r t l).1, good u
  | [], t, _, u, hu => by simp [runE] at hu
  | s :: l, t, ht, u, hu => by
    cases hd : doE r t s with
    | mk o e =>
    cases o with
    | none => rw [runE_none hd] at hu; cases hu
    | some v =>
      have hv := (doE_good hr ht hd).1
      rw [runE_some hd] at hu
      unfold addE at hu
      split at hu
      · rcases List.mem_cons.1 hu with rfl | hu
        · exact hv
        · exact runE_good hr l v hv.1 u hu
      · cases hu
theorem termsE_good {r : List ARule} {c : AChain} (h : (termsE r c).2 = 0) : checkSystem r = 0 ∧ c.steps.length ≤ 4096 ∧ good c.start ∧ (termsE r c).1 ≠ [] ∧ ∀ u ∈ (termsE r c).1, good u := by
  unfold termsE at h ⊢
  split at h
  · rename_i h1; exact absurd h h1
  · rename_i h1
    have h1 : checkSystem r = 0 := by simpa using h1
    rw [if_neg (by simpa using h1)]
    unfold chainE at h ⊢
    split at h
    · simp at h
    · rename_i h2
      rw [if_neg h2]
      split at h
      · rename_i h3; exact absurd h h3
      · rename_i h3
        have h3 : check c.start = 0 := by simpa using h3
        have hg := check_good h3
        rw [if_neg (by simpa using h3)]
        unfold addE at h ⊢
        split at h
        · rename_i h4
          rw [if_pos h4]
          refine ⟨h1, by omega, hg, by simp, fun u hu => ?_⟩
          rcases List.mem_cons.1 hu with rfl | hu
          · exact hg
          · exact runE_good (fun x hx => (checkSystem_good h1 x hx).2.1) _ _ hg.1 u hu
        · rename_i h4; exact absurd h h4
theorem runE_len {r : List ARule} : ∀ (l : List AStep) (t : Term), (runE r t l).1.length ≤ l.length
  | [], t => by simp [runE]
  | s :: l, t => by
    cases hd : doE r t s with
    | mk o e =>
    cases o with
    | none => rw [runE_none hd]; simp
    | some v =>
      rw [runE_some hd]
      have := runE_len l v (r := r)
      unfold addE
      split <;> simp <;> omega
theorem termsE_len {r : List ARule} {c : AChain} : (termsE r c).1.length ≤ c.steps.length + 1 := by
  have := runE_len c.steps c.start (r := r)
  unfold termsE chainE addE
  split
  · simp
  · split
    · simp
    · split
      · simp
      · split <;> simp <;> omega
def applyE (s : List ABind) (t : Term) : Option Term × Int :=
  if checkSubst s ≠ 0 then (none, checkSubst s) else if check t ≠ 0 then (none, check t) else if fits (inst s t) then (some (inst s t), 0) else (none, 3)
theorem applyT_eq (s : List ABind) (t : Term) : applyT s t = encTE (applyE s t).1 (applyE s t).2 := by
  unfold applyT applyE
  split
  · rfl
  · split
    · rfl
    · split <;> rfl
theorem applyE_none {s : List ABind} {t : Term} {e : Int} (h : applyE s t = (none, e)) : e ≠ 0 := by
  unfold applyE at h
  split at h
  · rename_i h1; cases h; exact h1
  · split at h
    · rename_i h1; cases h; exact h1
    · split at h
      · cases h
      · cases h; decide
theorem applyE_some {s : List ABind} {t u : Term} {e : Int} (h : applyE s t = (some u, e)) : e = 0 := by
  unfold applyE at h
  split at h
  · cases h
  · split at h
    · cases h
    · split at h
      · cases h; rfl
      · cases h
def lastT (l : List Term) : Term := l.getD (l.length - 1) default
/-- Whether a loop is one. -/
def loopE (r : List ARule) (l : ALoop) : Int :=
  if (termsE r l.chain).2 ≠ 0 then (termsE r l.chain).2 else if l.chain.steps.length = 0 then 11 else match subT (lastT (termsE r l.chain).1) l.pos with
    | none => 8
    | some x => match applyE l.subst l.chain.start with
      | (some y, _) => if x = y then 0 else 11
      | (none, e) => e
theorem loop_Check_s (r : List ARule) (l : ALoop) (hr : rbs r < 2 ^ 28) (hc : tb l.chain.start < 2 ^ 28) (hl : l.chain.steps.length < 2 ^ 40) (hp : ∀ s ∈ l.chain.steps, s.pos.length < 2 ^ 40) (hpos : l.pos.length < 2 ^ 40) (hs : bbs l.subst < 2 ^ 28) :
    PF n_loop_Check [encRs r, encLo l] (.int .i64 (loopE r l)) := by
  refine pf_of loop_Check.ok rfl ?_
  push_cast
  refine .of (derive_Terms_s r l.chain hr hc hl hp) ?_
  unfold loopE
  by_cases h1 : (termsE r l.chain).2 = 0
  · rw [if_neg (by simpa using h1)]
    push_cast [h1]
    obtain ⟨_, _, _, hne, hg⟩ := termsE_good h1
    generalize hts : (termsE r l.chain).1 = ts at hne hg ⊢
    by_cases h2 : l.chain.steps.length = 0
    · rw [if_pos h2]
      push_cast [h2]
      exact pf_ret (by push_cast [loop_Check.rs])
    · rw [if_neg h2]
      have hpl : 0 < ts.length := List.length_pos_iff.2 hne
      have hlast : lastT ts ∈ ts := getD_mem (by omega)
      have hi : ((l.chain.steps.length : Int) = 0) = False := eq_false (by omega)
      have htl := termsE_len (r := r) (c := l.chain)
      rw [hts] at htl
      have hsub : IntKind.i64.wrap ((ts.length : Int) - 1) = ((ts.length - 1 : Nat) : Int) := sub1 (by omega) hpl
      have hlt : (((ts.length - 1 : Nat) : Int) < (ts.length : Int)) = True := eq_true (by omega)
      have hle : ((0 : Int) ≤ ((ts.length - 1 : Nat) : Int)) = True := eq_true (by omega)
      have hl1 : ts.getD (ts.length - 1) default = lastT ts := rfl
      push_cast [hi, hsub, hlt, hle, hl1]
      refine .of (term_Sub_s (lastT ts) l.pos (by omega)) ?_
      cases hx : subT (lastT ts) l.pos with
      | none =>
        push_cast [encOT]
        exact pf_ret (by push_cast [loop_Check.rs])
      | some x =>
        push_cast [encOT]
        refine .of (term_Apply_s l.subst (by omega) l.chain.start (by omega)) ?_
        rw [applyT_eq]
        have hxs := subT_size _ _ _ hx
        have hgl := (hg _ hlast).2
        cases ha : applyE l.subst l.chain.start with
        | mk o e =>
        cases o with
        | none =>
          have he := applyE_none ha
          push_cast [encTE, he]
          exact pf_ret (by push_cast [loop_Check.rs])
        | some y =>
          have he := applyE_some ha
          subst he
          push_cast [encTE]
          refine .of (term_Equal_s x y (by omega)) ?_
          by_cases hxy : x = y
          · push_cast [hxy]
            exact pf_ret (by push_cast [loop_Check.rs])
          · push_cast [hxy]
            exact pf_ret (by push_cast [loop_Check.rs])
  · rw [if_pos (by simpa using h1)]
    push_cast [h1]
    exact pf_ret (by push_cast [loop_Check.rs])
def preAt (l : ALoop) (k : Nat) : List Int := (List.replicate k l.pos).flatten
def passAt (l : ALoop) (k : Nat) : List AStep := l.chain.steps.map fun s => ⟨s.rule, preAt l k ++ s.pos⟩
def stepsTo (l : ALoop) (k : Nat) : List AStep := (List.range k).flatMap (passAt l)
/-- The derivation that repeats a loop. -/
def unrollC (l : ALoop) (n : Nat) : AChain := ⟨l.chain.start, stepsTo l n⟩
def noC : AChain := ⟨noT, []⟩
def unrollE (r : List ARule) (l : ALoop) (times : Int) : AChain × Int :=
  if loopE r l ≠ 0 then (noC, loopE r l) else if times < 0 ∨ 4096 < times then (noC, 2) else if 4096 < times * l.chain.steps.length then (noC, 3) else
    if (chainE r (unrollC l times.toNat)).2 ≠ 0 then (noC, (chainE r (unrollC l times.toNat)).2) else (unrollC l times.toNat, 0)
theorem preAt_succ (l : ALoop) (k : Nat) : preAt l (k + 1) = preAt l k ++ l.pos := by
  unfold preAt; rw [List.replicate_succ']; simp
theorem preAt_len (l : ALoop) (k : Nat) : (preAt l k).length = k * l.pos.length := by
  unfold preAt; simp
theorem stepsTo_succ (l : ALoop) (k : Nat) : stepsTo l (k + 1) = stepsTo l k ++ passAt l k := by
  unfold stepsTo; rw [List.range_succ]; simp
theorem stepsTo_len (l : ALoop) (k : Nat) : (stepsTo l k).length = k * l.chain.steps.length := by
  induction k with
  | zero => simp [stepsTo]
  | succ k ih => rw [stepsTo_succ, List.length_append, ih, Nat.succ_mul]; simp [passAt]
theorem loopE_ok {r : List ARule} {l : ALoop} (h : loopE r l = 0) : (termsE r l.chain).2 = 0 ∧ l.chain.steps.length ≠ 0 := by
  unfold loopE at h
  split at h
  · rename_i h1; exact absurd h h1
  · rename_i h1
    split at h
    · omega
    · rename_i h2; exact ⟨by simpa using h1, h2⟩
theorem concat2 (a b : List Int) (h : a.length + b.length < 2 ^ 40) : PF n_slices_Concat_s_int_int [.sl 1 [[encP a], [encP b]]] (encP (a ++ b)) := by
  have := slices_Concat_s [a, b] (by simp) (by simpa using h)
  simp only [List.flatten_cons, List.flatten_nil, List.append_nil] at this
  exact this
theorem putC_all (t : Term) (x a b c d : V) : put 0 (cT t ++ [x]) [a, b, c, d] = cT t ++ [x] := by
  unfold put; simp [cT_len]
theorem putC_3 (t : Term) (x y : V) : put 3 [y] (cT t ++ [x]) = cT t ++ [y] := rfl
theorem getC_3 (t : Term) (x : V) : (cT t ++ [x])[3]? = some x := rfl
theorem subC_3 (t : Term) (x : V) : sub 0 4 (cT t ++ [x]) = cT t ++ [x] := rfl
theorem rensC {σ : Nat → Option Nat} (t : Term) (x : V) : rens σ (cT t ++ [x]) = cT t ++ [ren σ x] := rfl
theorem own_step {i : Nat} {l : List AStep} {k : Int} {p : List Int} : (.own i 2 (l.map cSt ++ [[V.int .i64 k, encL cI 1 p]]) : V) = ownL cSt i 2 (l ++ [⟨k, p⟩]) := by simp [ownL, cSt]
theorem stepsTo_pos {l : ALoop} {M n : Nat} (h : ∀ k, k ≤ n → (preAt l k).length < M) (hp : ∀ s ∈ l.chain.steps, s.pos.length < M) : ∀ s ∈ stepsTo l n, s.pos.length < M + M := by
  intro s hs
  unfold stepsTo at hs
  obtain ⟨k, hk, hs⟩ := List.mem_flatMap.1 hs
  obtain ⟨s0, hs0, rfl⟩ := List.mem_map.1 hs
  have := h k (by have := List.mem_range.1 hk; omega)
  have := hp s0 hs0
  simp only [List.length_append]; omega
abbrev unH (l : ALoop) (S : List AStep) : List Ob := [.cells t_Chain [.str [], .bool false, .sl 3 [], .sl 2 []], .cells t_Chain (cT l.chain.start ++ [ownL cSt 2 2 S]), .arr t_Step 2 S.length]
theorem loop_Unroll_s (r : List ARule) (l : ALoop) (times : Int) (hr : rbs r < 2 ^ 28) (hc : tb l.chain.start < 2 ^ 28) (hl : l.chain.steps.length < 2 ^ 24) (hp : ∀ s ∈ l.chain.steps, s.pos.length < 2 ^ 24) (hpos : l.pos.length < 2 ^ 24) (hs : bbs l.subst < 2 ^ 28)
    (ht1 : -2 ^ 63 ≤ times) (ht2 : times < 2 ^ 63) : PF n_loop_Unroll [encRs r, encLo l, .int .i64 times] (.tup [encC (unrollE r l times).1, .int .i64 (unrollE r l times).2]) := by
  have hsz := size_le_tb l.chain.start
  refine pf_of loop_Unroll.ok rfl ?_
  push_cast
  refine .of (loop_Check_s r l hr hc (by omega) (fun s h => by have := hp s h; omega) (by omega) hs) ?_
  unfold unrollE
  by_cases h1 : loopE r l = 0
  · rw [if_neg (by simpa using h1)]
    obtain ⟨hte, hne⟩ := loopE_ok h1
    obtain ⟨hsys, hlen, hgood, _, _⟩ := termsE_good hte
    by_cases h2 : times < 0
    · rw [if_pos (.inl h2)]
      push_cast [h1, h2]
      exact pf_ret (by push_cast [loop_Unroll.rs]; rfl)
    · by_cases h3 : 4096 < times
      · rw [if_pos (.inr h3)]
        push_cast [h1, h2, h3]
        exact pf_ret (by push_cast [loop_Unroll.rs]; rfl)
      · rw [if_neg (by omega)]
        obtain ⟨n, rfl⟩ : ∃ n : Nat, times = n := ⟨times.toNat, by omega⟩
        have hn : n ≤ 4096 := by omega
        have hmul : n * l.chain.steps.length ≤ 4096 * 4096 := Nat.mul_le_mul hn hlen
        have hmi : (n : Int) * (l.chain.steps.length : Int) = ((n * l.chain.steps.length : Nat) : Int) := by rw [Int.natCast_mul]
        have hw : IntKind.i64.wrap ((n : Int) * (l.chain.steps.length : Int)) = (n : Int) * (l.chain.steps.length : Int) := wrap64 (by omega) (by omega)
        rw [Int.toNat_natCast]
        by_cases h4 : 4096 < n * l.chain.steps.length
        · have h4' : ((4096 : Int) < (n : Int) * (l.chain.steps.length : Int)) = True := eq_true (by omega)
          rw [if_pos (by omega)]
          push_cast [h1, h2, h3, hw, h4']
          exact pf_ret (by push_cast [loop_Unroll.rs]; rfl)
        · have h4' : ((4096 : Int) < (n : Int) * (l.chain.steps.length : Int)) = False := eq_false (by omega)
          rw [if_neg (by omega)]
          generalize hres : (if (chainE r (unrollC l n)).2 ≠ 0 then (noC, (chainE r (unrollC l n)).2) else (unrollC l n, (0 : Int))) = res
          push_cast [h1, h2, h3, hw, h4']
          refine .of (term_Own_s l.chain.start (by omega)) ?_
          push_cast [putC_all, putC_3, getC_3]
          have hposk : ∀ k, k ≤ n → (preAt l k).length < 2 ^ 38 := fun k hk => by
            rw [preAt_len]
            have : k * l.pos.length ≤ 4096 * 2 ^ 24 := Nat.mul_le_mul (by omega) (by omega)
            omega
          refine loop_up (n := n) (R := fun k => loop_Unroll.L7 (encRs r) (.ro (cL l) 0) (.ptr 0 0) (.ptr 1 0) (encP (preAt l k)) (.int .i64 n) (.int .i64 k) 0 (unH l (stepsTo l k)) _) ?_ ?_ 0 (by omega)
          · intro k hk ih
            have hkm : (k + 1) * l.chain.steps.length ≤ n * l.chain.steps.length := Nat.mul_le_mul_right _ (by omega)
            rw [Nat.succ_mul] at hkm
            refine loop_Unroll.G7 ?_
            push_cast [ilt hk, rensC]
            rw [show stepsTo l k = stepsTo l k ++ (passAt l k).take 0 by simp]
            refine loop_up (n := l.chain.steps.length) (R := fun j => loop_Unroll.L5 (encRs r) (.ro (cL l) 0) (.ptr 0 0) (.ptr 1 0) (encP (preAt l k)) (.int .i64 n) (.int .i64 k) (encSts l.chain.steps) (.int .i64 l.chain.steps.length) (.int .i64 j) 0 (unH l (stepsTo l k ++ (passAt l k).take j)) _) ?_ ?_ 0 (by omega)
            · intro j hj ih2
              have hm := getD_mem hj
              have hpl : (passAt l k).length = l.chain.steps.length := by simp [passAt]
              have hget : (passAt l k).getD j default = ⟨(l.chain.steps.getD j default).rule, preAt l k ++ (l.chain.steps.getD j default).pos⟩ := by
                unfold passAt; simp [List.getD_eq_getElem?_getD, hj]
              rw [take_succ_getD (by omega), hget] at ih2
              have hlen : (stepsTo l k ++ (passAt l k).take j).length = k * l.chain.steps.length + j := by
                rw [List.length_append, stepsTo_len, List.length_take, hpl, Nat.min_eq_left (by omega)]
              generalize hs : l.chain.steps.getD j default = s at hm ih2
              refine loop_Unroll.G5 ?_
              push_cast [ilt hj, hs, getC_3]
              refine .of (concat2 _ _ (by have := hposk k (by omega); have := hp s hm; omega)) ?_
              push_cast [putC_3, rensC, own_step, w64 (show j < 2 ^ 62 by omega)]
              rw [List.length_append] at hlen
              refine ⟨Nat.le_trans (Nat.mul_le_mul_right 32 (show _ ≤ 2 ^ 41 by omega)) (by unfold maxEls; decide), ?_⟩
              simp only [unH] at ih2
              push_cast at ih2
              exact ih2
            · refine loop_Unroll.G5 ?_
              push_cast [inlt (Nat.le_refl _)]
              refine .of (concat2 _ _ (by have := hposk k (by omega); omega)) ?_
              rw [List.take_of_length_le (by simp [passAt])]
              push_cast [rensC, w64 (show k < 2 ^ 62 by omega)]
              rw [stepsTo_succ, preAt_succ] at ih
              simp only [unH] at ih
              push_cast at ih
              exact ih
          · refine loop_Unroll.G7 ?_
            push_cast [inlt (Nat.le_refl _), subC_3, rensC]
            have hRun := derive_Run_s r (unrollC l n) hr (fun x hx => (checkSystem_good hsys x hx).2.1) hc (by show (stepsTo l n).length < _; rw [stepsTo_len]; omega) fun s h => by
              have := stepsTo_pos (M := 2 ^ 38) hposk (fun s h => by have := hp s h; omega) s h; omega
            refine .of hRun ?_
            by_cases h5 : (chainE r (unrollC l n)).2 = 0
            · rw [if_neg (by simpa using h5)] at hres
              push_cast [h5, subC_3, putC_all]
              refine pf_ret ?_
              push_cast [loop_Unroll.rs, subC_3, rensC, ← hres]
              try rfl
            · rw [if_pos (by simpa using h5)] at hres
              push_cast [h5]
              refine pf_ret ?_
              push_cast [loop_Unroll.rs, ← hres]
              rfl
  · rw [if_pos (by simpa using h1)]
    push_cast [h1]
    exact pf_ret (by push_cast [loop_Unroll.rs]; rfl)
end Go.Dw
end
section
set_option linter.unusedVariables false
set_option linter.unusedSimpArgs false
set_option maxRecDepth 100000
namespace Go.Dw
/-- The steps at a position, by the first k rules. -/
def atK (r : List ARule) (p : List Int) (s : Term) : Nat → List AStep
  | 0 => []
  | k + 1 => atK r p s k ++ (if (matchT [] (r.getD k default).left s).2 then [⟨k, p⟩] else [])
def atE (r : List ARule) (p : List Int) (s : Term) : List AStep := if s.var then [] else atK r p s r.length
theorem atK_len (r : List ARule) (p : List Int) (s : Term) : ∀ k, (atK r p s k).length ≤ k
  | 0 => by simp [atK]
  | k + 1 => by have := atK_len r p s k; simp only [atK, List.length_append]; split <;> simp <;> omega
theorem atE_len (r : List ARule) (p : List Int) (s : Term) : (atE r p s).length ≤ r.length := by
  unfold atE
  split
  · simp
  · exact atK_len _ _ _ _
theorem encSts_nil : (V.sl 2 [] : V) = encSts [] := rfl
theorem rewrite_at_s (r : List ARule) (p : List Int) (s : Term) (hl : r.length < 2 ^ 38) (hr : ∀ x ∈ r, size x.left < 2 ^ 38) (hs : size s < 2 ^ 62) (hp : p.length < 2 ^ 40) : PF n_rewrite_at [encRs r, encP p, encT s] (encSts (atE r p s)) := by
  refine pf_of rewrite_at.ok rfl ?_
  unfold atE
  push_cast
  cases hv : s.var with
  | true =>
    rw [if_pos rfl]
    by_cases h0 : r.length = 0
    · have hi : ((0 : Int) < (r.length : Int)) = False := eq_false (by omega)
      refine rewrite_at.G4 ?_
      push_cast [hi]
      exact pf_ret (by push_cast [rewrite_at.rs]; rfl)
    · have hi : ((0 : Int) < (r.length : Int)) = True := eq_true (by omega)
      refine rewrite_at.G4 ?_
      push_cast [hi, hv]
      exact pf_ret (by push_cast [rewrite_at.rs]; rfl)
  | false =>
    rw [if_neg (by simp)]
    rw [show (V.own 0 2 [] : V) = ownL cSt 0 2 (atK r p s 0) from rfl]
    refine loop_up (n := r.length) (R := fun k => rewrite_at.L4 (encP p) (.ro (cT s) 0) (ownL cSt 0 2 (atK r p s k)) (encRs r) (.int .i64 r.length) (.int .i64 k) 0 [.arr t_Step 2 (atK r p s k).length] _) ?_ ?_ 0 (by omega)
    · intro k hk ih
      have hm := getD_mem hk
      have hal := atK_len r p s k
      simp only [atK] at ih
      refine rewrite_at.G4 ?_
      push_cast [ilt hk, hv]
      refine .of (unify_Find_s _ s (hr _ hm) hs) ?_
      cases hb : (matchT [] (r.getD k default).left s).2 with
      | false =>
        rw [hb, if_neg (by simp), List.append_nil] at ih
        push_cast [w64 (show k < 2 ^ 62 by omega)]
        exact ih
      | true =>
        rw [hb, if_pos rfl] at ih
        push_cast
        refine callG_new (slices_Clone_int_s p hp) ?_
        push_cast [List.map_cons, List.map_nil, own_step, w64 (show k < 2 ^ 62 by omega)]
        refine ⟨Nat.le_trans (Nat.mul_le_mul_right 32 (show _ ≤ 2 ^ 41 by omega)) (by unfold maxEls; decide), ?_⟩
        push_cast at ih
        exact ih
    · refine rewrite_at.G4 ?_
      push_cast [inlt (Nat.le_refl _)]
      exact pf_ret (by push_cast [rewrite_at.rs])
def allL (r : List ARule) (l : List (List Int × Term)) : List AStep := l.flatMap fun x => atE r x.1 x.2
def allE (r : List ARule) (t : Term) : List AStep := allL r (visit t [])
theorem allL_len (r : List ARule) : ∀ l, (allL r l).length ≤ l.length * r.length
  | [] => by simp [allL]
  | x :: l => by
    have h1 := allL_len r l
    have h2 := atE_len r x.1 x.2
    unfold allL at h1 ⊢
    rw [List.flatMap_cons, List.length_append, List.length_cons, Nat.succ_mul]
    omega
theorem allL_snoc (r : List ARule) (l : List (List Int × Term)) (x : List Int × Term) : allL r (l ++ [x]) = allL r l ++ atE r x.1 x.2 := by simp [allL]
mutual
theorem visit_sub : ∀ (t : Term) (p : List Int), ∀ x ∈ visit t p, size x.2 ≤ size t ∧ x.1.length ≤ p.length + size t
  | .mk n v l, p, x, hx => by
    rw [visit_eq] at hx
    rcases List.mem_cons.1 hx with rfl | hx
    · exact ⟨Nat.le_refl _, Nat.le_add_right _ _⟩
    · have := visits_sub l p 0 x hx
      simp only [size]
      omega
theorem visits_sub : ∀ (l : List Term) (p : List Int) (i : Nat), ∀ x ∈ visits l p i, size x.2 ≤ sizes l ∧ x.1.length ≤ p.length + 1 + sizes l
  | [], p, i, x, hx => by simp [visits] at hx
  | a :: l, p, i, x, hx => by
    simp only [visits, List.mem_append] at hx
    simp only [sizes]
    rcases hx with hx | hx
    · have := visit_sub a _ x hx
      simp only [List.length_append, List.length_singleton] at this
      omega
    · have := visits_sub l _ _ x hx; omega
end
theorem rewrite_All_s (r : List ARule) (t : Term) (hl : r.length < 2 ^ 38) (hr : ∀ x ∈ r, size x.left < 2 ^ 38) (hs : size t < 2 ^ 38) (hm : size t * r.length < 2 ^ 38) : PF n_rewrite_All [encRs r, encT t] (encSts (allE r t)) := by
  have hvl : (visit t []).length = size t := visit_len t []
  refine pf_of rewrite_All.ok rfl ?_
  push_cast
  refine .of (term_Walk_s _) ?_
  push_cast
  refine Run.rf n_term_Walk_1 [] [.ro (cT t) 0] ((visit t []).map encIt) (fun j H1 => H1 = [.cells t_s_Step [ownL cSt 1 2 (allL r ((visit t []).take j))], .arr t_Step 2 (allL r ((visit t []).take j)).length]) (fun _ _ => False) rfl (term_Walk_iter t (by omega)) ?_ (by rfl) ?_ ?_ (fun _ _ h => h.elim) ?_ ?_ (fun _ _ h => h.elim)
  · intro it hit
    obtain ⟨x, _, rfl⟩ := List.mem_map.1 hit
    rfl
  · push_cast
  · rintro j H1 rfl
    refine ⟨rfl, ?_⟩
    push_cast
  · rintro lo rr j it H1 hit rfl
    rw [List.getElem?_map] at hit
    cases hx : (visit t [])[j]? with
    | none => rw [hx] at hit; cases hit
    | some x =>
    rw [hx] at hit
    have hit : it = encIt x := by simpa using hit.symm
    subst hit
    have hj : j < (visit t []).length := (List.getElem?_eq_some_iff.1 hx).1
    have hxj : (visit t [])[j] = x := (List.getElem?_eq_some_iff.1 hx).2
    have hxm : x ∈ visit t [] := hxj ▸ List.getElem_mem hj
    have htk : (visit t []).take (j + 1) = (visit t []).take j ++ [x] := by rw [List.take_succ_eq_append_getElem hj, hxj]
    have hsub := visit_sub t [] x hxm
    have hal := allL_len r ((visit t []).take (j + 1))
    rw [List.length_take, Nat.min_eq_left (by omega)] at hal
    have hmul : (j + 1) * r.length ≤ size t * r.length := Nat.mul_le_mul_right _ (by omega)
    rw [htk, allL_snoc, List.length_append] at hal
    rw [htk, allL_snoc]
    push_cast [setPs, encIt]
    refine run_m.2 ?_
    push_cast
    refine .of (rewrite_at_s r x.1 x.2 hl hr (by omega) (by simp at hsub; omega)) ?_
    push_cast
    refine ⟨Nat.le_trans (Nat.mul_le_mul_right 32 (show _ ≤ 2 ^ 41 by rw [List.length_map]; omega)) (by unfold maxEls; decide), rfl, ?_⟩
    push_cast [cut]
    rw [List.length_map]
  · rintro H1 rfl
    have : (visit t []).take ((visit t []).map encIt).length = visit t [] := by rw [List.length_map, List.take_length]
    rw [this]
    push_cast
    exact pf_ret (by push_cast [rewrite_All.rs]; rfl)
/-- The first instance of a pattern. -/
def instF (p : Term) : List (List Int × Term) → Option (List Int × List ABind)
  | [] => none
  | x :: l => if (matchT [] p x.2).2 then some (x.1, (matchT [] p x.2).1) else instF p l
def instV : Option (List Int × List ABind) → V
  | none => .tup [encP [], encBs [], .bool false]
  | some q => .tup [encP q.1, encBs q.2, .bool true]
theorem own_bnd {i : Nat} {l : List ABind} {n : Str} {t : Term} : (.own i 4 (l.map cB ++ [V.str n :: cT t]) : V) = ownL cB i 4 (l ++ [⟨n, t⟩]) := by simp [ownL, cB]
abbrev inH (q : List Int) (s : List ABind) (b : Bool) : List Ob := [.cells t_s_int [encP q], .cells t_s_Bind [encBs s], .cells t_bool [.bool b]]
theorem loop_instance_s (p t : Term) (hp : size p < 2 ^ 37) (ht : size t < 2 ^ 37) : PF n_loop_instance [encT p, encT t] (instV (instF p (visit t []))) := by
  have hvl : (visit t []).length = size t := visit_len t []
  refine pf_of loop_instance.ok rfl ?_
  push_cast
  refine .of (term_Walk_s _) ?_
  push_cast
  refine Run.rf n_term_Walk_1 [] [.ro (cT t) 0] ((visit t []).map encIt) (fun j H1 => H1 = inH [] [] false ∧ instF p ((visit t []).drop j) = instF p (visit t [])) (fun e H1 => e = .ret ∧ ∃ q, instF p (visit t []) = some q ∧ H1 = inH q.1 q.2 true) rfl (term_Walk_iter t (by omega)) ?_ ⟨rfl, rfl⟩ ?_ ?_ ?_ ?_ ?_ ?_
  · intro it hit
    obtain ⟨x, _, rfl⟩ := List.mem_map.1 hit
    rfl
  · push_cast
  · rintro j H1 ⟨rfl, _⟩
    refine ⟨rfl, ?_⟩
    push_cast
  · rintro e H1 ⟨_, q, _, rfl⟩
    refine ⟨rfl, ?_⟩
    push_cast
  · rintro lo rr j it H1 hit ⟨rfl, hq⟩
    rw [List.getElem?_map] at hit
    cases hx : (visit t [])[j]? with
    | none => rw [hx] at hit; cases hit
    | some x =>
    rw [hx] at hit
    have hit : it = encIt x := by simpa using hit.symm
    subst hit
    have hj : j < (visit t []).length := (List.getElem?_eq_some_iff.1 hx).1
    have hxj : (visit t []).getD j default = x := by rw [List.getD_eq_getElem?_getD, hx]; rfl
    have hxm : x ∈ visit t [] := hxj ▸ getD_mem hj
    have hsub := visit_sub t [] x hxm
    have hok := matchT_ok (M := 2 ^ 38) p [] x.2 (by simp [Sorted]) (by simp) (by omega)
    rw [drop_getD hj, hxj] at hq
    simp only [instF] at hq
    push_cast [setPs, encIt]
    refine run_m.2 ?_
    push_cast
    refine .of (unify_Find_s p x.2 (by omega) (by omega)) ?_
    cases hb : (matchT [] p x.2).2 with
    | false =>
      rw [hb, if_neg (by simp)] at hq
      push_cast
      refine ⟨rfl, ?_⟩
      push_cast [cut]
      exact hq
    | true =>
      rw [hb, if_pos rfl] at hq
      generalize (matchT [] p x.2).1 = s at hok hq ⊢
      have hsl := hok.len
      simp only [List.length_nil, Nat.zero_add] at hsl
      push_cast
      rw [show (V.own 5 4 [] : V) = ownL cB 5 4 (s.take 0) from rfl]
      generalize hts : ([(15, V.fn (Fn.func n_term_Walk_1) [] [V.ro (cT t) 0]), (14, encT t), (6, V.ptr 2 0), (5, V.ptr 1 0), (4, V.ptr 0 0), (3, V.ro (cT t) 0), (2, V.ro (cT p) 0), (0, encT p), (1, encT t)] : T) = ts
      have hrts : (ts.map fun p => (p.1, ren (clip 6) p.2)) = ts := by subst hts; push_cast
      refine loop_up (n := s.length) (R := fun k => loop_instance.L4 (.ptr 0 0) (.ptr 1 0) (.ptr 2 0) (encP x.1) (ownL cB 5 4 (s.take k)) (encBs s) (.int .i64 s.length) (.int .i64 k) 4 [.cells t_s_int [encP []], .cells t_s_Bind [encBs []], .cells t_bool [.bool false], .lp lo .busy rr ts, .dead, .arr t_Bind 4 k] _) ?_ ?_ 0 (by omega)
      · intro k hk ih
        have hm := getD_mem hk
        have hsm := hok.small _ hm
        have hlen : (s.take k).length = k := by simp; omega
        rw [take_succ_getD hk] at ih
        refine loop_instance.G4 ?_
        push_cast [ilt hk]
        refine .of (term_Own_s _ (by omega)) ?_
        push_cast [own_bnd, hlen, hrts, w64 (show k < 2 ^ 62 by omega)]
        exact ⟨room (by omega) (by omega), ih⟩
      · refine loop_instance.G4 ?_
        rw [List.take_length]
        push_cast [inlt (Nat.le_refl _)]
        refine callG_new (slices_Clone_int_s x.1 (by simp at hsub; omega)) ?_
        push_cast [List.map_cons, List.map_nil]
        refine ⟨rfl, rfl, _, hq.symm, ?_⟩
        push_cast [cut]
  · rintro H1 ⟨rfl, hq⟩
    rw [List.length_map, drop_map_none] at hq
    push_cast
    refine pf_ret ?_
    push_cast [loop_instance.rs, ← hq]
    rfl
  · rintro e H1 ⟨rfl, q, hq, rfl⟩
    simp only [jumpC]
    push_cast
    refine pf_ret ?_
    push_cast [loop_instance.rs, hq]
    rfl
end Go.Dw
end
