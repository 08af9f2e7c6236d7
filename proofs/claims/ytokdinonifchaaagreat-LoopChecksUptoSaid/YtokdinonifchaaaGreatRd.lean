/-
  Contracts: the repeated derivation and the law as a whole.
-/
import Derived.Test.YtokdinonifchaaaGreatRc
section
set_option linter.unusedVariables false
set_option linter.unusedSimpArgs false
set_option maxRecDepth 100000
namespace Go.Dw
theorem own_ints {i : Nat} {l m : List Int} : (.own i 1 (l.map cI ++ m.map cI) : V) = ownL cI i 1 (l ++ m) := by simp [ownL]
def unR (r : List ARule) (l : ALoop) (n : Nat) : AChain × Int :=
  if 4096 < n * l.chain.steps.length then (noC, 3) else if (chainE r (unrollC l n)).2 ≠ 0 then (noC, (chainE r (unrollC l n)).2) else (unrollC l n, 0)
theorem r14_Unroll_s (r : List ARule) (l : ALoop) (n : Nat) (hr : rbs r < 2 ^ 28) (hrg : ∀ x ∈ r, good x.left ∧ good x.right) (hc : tb l.chain.start < 2 ^ 28) (hlen : l.chain.steps.length ≤ 4096) (hp : ∀ s ∈ l.chain.steps, s.pos.length < 2 ^ 24) (hpos : l.pos.length < 2 ^ 24)
    (hn : n ≤ 4096) : PF n_r14_Unroll [encRs r, encLo l, .int .i64 n] (.tup [encC (unR r l n).1, .int .i64 (unR r l n).2]) := by
  have hmul : n * l.chain.steps.length ≤ 4096 * 4096 := Nat.mul_le_mul hn hlen
  refine pf_of r14_Unroll.ok rfl ?_
  unfold unR
  have hmi : (n : Int) * (l.chain.steps.length : Int) = ((n * l.chain.steps.length : Nat) : Int) := by rw [Int.natCast_mul]
  have hw : IntKind.i64.wrap ((n : Int) * (l.chain.steps.length : Int)) = (n : Int) * (l.chain.steps.length : Int) := wrap64 (by omega) (by omega)
  by_cases h4 : 4096 < n * l.chain.steps.length
  · have h4' : ((4096 : Int) < (n : Int) * (l.chain.steps.length : Int)) = True := eq_true (by omega)
    rw [if_pos (by omega)]
    push_cast [hw, h4']
    exact pf_ret (by push_cast [r14_Unroll.rs]; rfl)
  · have h4' : ((4096 : Int) < (n : Int) * (l.chain.steps.length : Int)) = False := eq_false (by omega)
    rw [if_neg (by omega)]
    generalize hres : (if (chainE r (unrollC l n)).2 ≠ 0 then (noC, (chainE r (unrollC l n)).2) else (unrollC l n, (0 : Int))) = res
    push_cast [hw, h4', putC_all, putC_3, getC_3]
    have hposk : ∀ k, k ≤ n → (preAt l k).length < 2 ^ 38 := fun k hk => by
      rw [preAt_len]
      have : k * l.pos.length ≤ 4096 * 2 ^ 24 := Nat.mul_le_mul (by omega) (by omega)
      omega
    refine loop_up (n := n) (R := fun k => r14_Unroll.L7 (encRs r) (.ro (cL l) 0) (.ptr 0 0) (.ptr 1 0) (encP (preAt l k)) (.int .i64 n) (.int .i64 k) 0 (unH l (stepsTo l k)) _) ?_ ?_ 0 (by omega)
    · intro k hk ih
      have hkm : (k + 1) * l.chain.steps.length ≤ n * l.chain.steps.length := Nat.mul_le_mul_right _ (by omega)
      rw [Nat.succ_mul] at hkm
      refine r14_Unroll.G7 ?_
      push_cast [ilt hk, rensC]
      rw [show stepsTo l k = stepsTo l k ++ (passAt l k).take 0 by simp]
      refine loop_up (n := l.chain.steps.length) (R := fun j => r14_Unroll.L5 (encRs r) (.ro (cL l) 0) (.ptr 0 0) (.ptr 1 0) (encP (preAt l k)) (.int .i64 n) (.int .i64 k) (encSts l.chain.steps) (.int .i64 l.chain.steps.length) (.int .i64 j) 0 (unH l (stepsTo l k ++ (passAt l k).take j)) _) ?_ ?_ 0 (by omega)
      · intro j hj ih2
        have hm := getD_mem hj
        have hpl : (passAt l k).length = l.chain.steps.length := by simp [passAt]
        have hget : (passAt l k).getD j default = ⟨(l.chain.steps.getD j default).rule, preAt l k ++ (l.chain.steps.getD j default).pos⟩ := by
          unfold passAt; simp [List.getD_eq_getElem?_getD, hj]
        rw [take_succ_getD (by omega), hget] at ih2
        have hlen : (stepsTo l k ++ (passAt l k).take j).length = k * l.chain.steps.length + j := by
          rw [List.length_append, stepsTo_len, List.length_take, hpl, Nat.min_eq_left (by omega)]
        generalize hs : l.chain.steps.getD j default = s at hm ih2
        refine r14_Unroll.G5 ?_
        push_cast [ilt hj, hs, getC_3, putC_3, rensC, own_step, own_ints, List.nil_append, w64 (show j < 2 ^ 62 by omega)]
        rw [List.length_append] at hlen
        refine ⟨Nat.le_trans (Nat.mul_le_mul_right 8 (show _ ≤ 2 ^ 41 by rw [List.length_map]; have := hposk k (by omega); omega)) (by unfold maxEls; decide), Nat.le_trans (Nat.mul_le_mul_right 8 (show _ ≤ 2 ^ 41 by rw [List.length_map, List.length_map]; have := hposk k (by omega); have := hp s hm; omega)) (by unfold maxEls; decide), Nat.le_trans (Nat.mul_le_mul_right 32 (show _ ≤ 2 ^ 41 by omega)) (by unfold maxEls; decide), ?_⟩
        simp only [unH] at ih2
        push_cast at ih2
        exact ih2
      · refine r14_Unroll.G5 ?_
        rw [List.take_of_length_le (by simp [passAt])]
        push_cast [inlt (Nat.le_refl _), rensC, own_ints, List.nil_append, w64 (show k < 2 ^ 62 by omega)]
        refine ⟨Nat.le_trans (Nat.mul_le_mul_right 8 (show _ ≤ 2 ^ 41 by rw [List.length_map]; have := hposk k (by omega); omega)) (by unfold maxEls; decide), Nat.le_trans (Nat.mul_le_mul_right 8 (show _ ≤ 2 ^ 41 by rw [List.length_map, List.length_map]; have := hposk k (by omega); omega)) (by unfold maxEls; decide), ?_⟩
        rw [stepsTo_succ, preAt_succ] at ih
        simp only [unH] at ih
        push_cast at ih
        exact ih
    · refine r14_Unroll.G7 ?_
      push_cast [inlt (Nat.le_refl _), subC_3, rensC]
      have hRun := r05_Terms_s r (unrollC l n) hr hrg hc (by show (stepsTo l n).length < _; rw [stepsTo_len]; omega) fun s h => by
        have := stepsTo_pos (M := 2 ^ 38) hposk (fun s h => by have := hp s h; omega) s h; omega
      refine .of hRun ?_
      by_cases h5 : (chainE r (unrollC l n)).2 = 0
      · rw [if_neg (by simpa using h5)] at hres
        push_cast [h5, subC_3, putC_all]
        refine pf_ret ?_
        push_cast [r14_Unroll.rs, subC_3, rensC, ← hres]
        try rfl
      · rw [if_pos (by simpa using h5)] at hres
        push_cast [h5]
        refine pf_ret ?_
        push_cast [r14_Unroll.rs, ← hres]
        rfl
end Go.Dw
end
section
set_option linter.unusedVariables false
set_option linter.unusedSimpArgs false
set_option maxRecDepth 100000
namespace Go.Dw
theorem encC_no : V.agg [.str [], .bool false, .sl 3 [], .sl 2 []] = encC noC := rfl
theorem l14_chain_bad (e : Int) (w : AChain) (he : e ≠ 0) : PF n_l14_chain [encC noC, .int .i64 e, encC w, .int .i64 e] (.bool true) := by
  refine pf_of l14_chain.ok rfl ?_
  push_cast [he, encC_no]
  refine .of (r04_SameChain_s noC (by decide) (by decide) (fun s h => by cases h)) ?_
  push_cast
  exact pf_ret (by push_cast [l14_chain.rs])
theorem l14_chain_good (c : AChain) (ht : tb c.start < 2 ^ 62) (hl : c.steps.length < 2 ^ 62) (hp : ∀ s ∈ c.steps, s.pos.length < 2 ^ 62) : PF n_l14_chain [encC c, .int .i64 0, encC c, .int .i64 0] (.bool true) := by
  refine pf_of l14_chain.ok rfl ?_
  push_cast
  refine .of (r04_SameChain_s c ht hl hp) ?_
  push_cast
  exact pf_ret (by push_cast [l14_chain.rs])
theorem put_C (c : AChain) (a b d e : V) : put 0 (cC c) [a, b, d, e] = cC c := by
  unfold put; rw [cC_len]; simp
theorem LoopChecks_s (halive : PF n_l14_alive [] (.bool true)) (r : List ARule) (l : ALoop) (times : Int) (hr : rbs r < 2 ^ 28) (hc : tb l.chain.start < 2 ^ 28) (hl : l.chain.steps.length < 2 ^ 24) (hp : ∀ s ∈ l.chain.steps, s.pos.length < 2 ^ 24) (hpos : l.pos.length < 2 ^ 24) (hs : bbs l.subst < 2 ^ 28)
    (ht1 : -2 ^ 63 ≤ times) (ht2 : times < 2 ^ 63) : SpecE prog n_l14_LoopChecks [encRs r, encLo l, .int .i64 times] [] (fun x' H' => x' = .bool true ∧ H' = []) := by
  have hU := loop_Unroll_s r l times hr hc hl hp hpos hs ht1 ht2
  refine spece_of_run mixed l14_LoopChecks.ok rfl ?_
  push_cast
  refine .of (r14_Check_s r l hr hc (by omega) (fun s h => by have := hp s h; omega) (by omega) hs) ?_
  push_cast
  refine .of (loop_Check_s r l hr hc (by omega) (fun s h => by have := hp s h; omega) (by omega) hs) ?_
  push_cast
  refine .of hU ?_
  unfold unrollE
  by_cases h1 : loopE r l = 0
  · obtain ⟨hte, hne⟩ := loopE_ok h1
    obtain ⟨hsys, hlen, hgood, _, _⟩ := termsE_good hte
    rw [if_neg (by simpa using h1)]
    by_cases h2 : times < 0
    · rw [if_pos (.inl h2)]
      push_cast [h1, h2]
      refine .of (l14_chain_bad 2 noC (by decide)) ?_
      push_cast
      refine .of halive ?_
      push_cast
      exact pf_ret (by push_cast [l14_LoopChecks.rs])
    · by_cases h3 : 4096 < times
      · rw [if_pos (.inr h3)]
        push_cast [h1, h2, h3]
        refine .of (l14_chain_bad 2 noC (by decide)) ?_
        push_cast
        refine .of halive ?_
        push_cast
        exact pf_ret (by push_cast [l14_LoopChecks.rs])
      · rw [if_neg (by omega)]
        obtain ⟨n, rfl⟩ : ∃ n : Nat, times = n := ⟨times.toNat, by omega⟩
        have hR := r14_Unroll_s r l n hr (checkSystem_good hsys) hc hlen hp hpos (by omega)
        rw [Int.toNat_natCast]
        unfold unR at hR
        by_cases h4 : 4096 < n * l.chain.steps.length
        · have hmi : (n : Int) * (l.chain.steps.length : Int) = ((n * l.chain.steps.length : Nat) : Int) := by rw [Int.natCast_mul]
          rw [if_pos (by omega)]
          rw [if_pos h4] at hR
          push_cast [h1, h2, h3]
          refine .of hR ?_
          push_cast [put_C]
          refine .of (l14_chain_bad 3 noC (by decide)) ?_
          push_cast
          refine .of halive ?_
          push_cast
          exact pf_ret (by push_cast [l14_LoopChecks.rs])
        · have hmi : (n : Int) * (l.chain.steps.length : Int) = ((n * l.chain.steps.length : Nat) : Int) := by rw [Int.natCast_mul]
          rw [if_neg (by omega)]
          rw [if_neg h4] at hR
          by_cases h5 : (chainE r (unrollC l n)).2 = 0
          · rw [if_neg (by simpa using h5)]
            rw [if_neg (by simpa using h5)] at hR
            push_cast [h1, h2, h3]
            have hposk : ∀ k, k ≤ n → (preAt l k).length < 2 ^ 38 := fun k hk => by
              rw [preAt_len]
              have : k * l.pos.length ≤ 4096 * 2 ^ 24 := Nat.mul_le_mul (by omega) (by omega)
              omega
            have hsl : (unrollC l n).steps.length = n * l.chain.steps.length := stepsTo_len l n
            have hsp : ∀ s ∈ (unrollC l n).steps, s.pos.length < 2 ^ 40 := fun s h => by
              have := stepsTo_pos (M := 2 ^ 38) hposk (fun s h => by have := hp s h; omega) s h; omega
            have hD := r05_Check_s r (unrollC l n) hr hc (by omega) hsp
            have hz : (termsE r (unrollC l n)).2 = 0 := by unfold termsE; rw [if_neg (by simpa using hsys)]; exact h5
            rw [hz] at hD
            refine .of hR ?_
            push_cast [put_C]
            refine .of (l14_chain_good (unrollC l n) (by show tb l.chain.start < _; omega) (by omega) fun s h => by have := hsp s h; omega) ?_
            have hw : IntKind.i64.wrap ((n : Int) * (l.chain.steps.length : Int)) = ((unrollC l n).steps.length : Int) := by rw [hmi, wrap64 (by omega) (by omega), hsl]
            push_cast [hw]
            refine .of hD ?_
            push_cast
            refine .of halive ?_
            push_cast
            exact pf_ret (by push_cast [l14_LoopChecks.rs])
          · rw [if_pos (by simpa using h5)]
            rw [if_pos (by simpa using h5)] at hR
            push_cast [h1, h2, h3]
            refine .of hR ?_
            push_cast [put_C, h5]
            refine .of (l14_chain_bad _ noC h5) ?_
            push_cast [h5]
            refine .of halive ?_
            push_cast
            exact pf_ret (by push_cast [l14_LoopChecks.rs])
  · rw [if_pos (by simpa using h1)]
    push_cast [h1]
    refine .of (l14_chain_bad _ noC h1) ?_
    push_cast [h1]
    refine .of halive ?_
    push_cast
    exact pf_ret (by push_cast [l14_LoopChecks.rs])
end Go.Dw
end
