/-
  Contracts: the reference, steps and loops.
-/
import Derived.Test.YtokdinonifchaaaGreatXe
import Derived.Test.YtokdinonifchaaaGreatRb
import Derived.Test.YtokdinonifchaaaGreatXf
section
set_option linter.unusedVariables false
set_option linter.unusedSimpArgs false
set_option maxRecDepth 100000
namespace Go.Dw
mutual
/-- The order of terms. -/
def cmpT : Term → Term → Int
  | .mk n v l, t => if v ≠ t.var then (if v then -1 else 1) else if cmpS n t.name ≠ 0 then cmpS n t.name else if cmpI l.length t.args.length ≠ 0 then cmpI l.length t.args.length else cmpTs l t.args
def cmpTs : List Term → List Term → Int
  | [], _ => 0
  | _ :: _, [] => 0
  | a :: l, b :: m => if cmpT a b ≠ 0 then cmpT a b else cmpTs l m
end
theorem cmpT_eq (a t : Term) : cmpT a t = if a.var ≠ t.var then (if a.var then -1 else 1) else if cmpS a.name t.name ≠ 0 then cmpS a.name t.name else if cmpI a.args.length t.args.length ≠ 0 then cmpI a.args.length t.args.length else cmpTs a.args t.args := by
  cases a; simp only [cmpT]; rfl
theorem cmpI_zero {a b : Int} : cmpI a b = 0 ↔ a = b := by unfold cmpI; split <;> (try split) <;> omega
theorem cmpTs_zero : ∀ (l m : List Term), l.length = m.length → (∀ a ∈ l, ∀ b, cmpT a b = 0 ↔ a = b) → (cmpTs l m = 0 ↔ l = m)
  | [], [], _, _ => by simp [cmpTs]
  | [], _ :: _, h, _ => by simp at h
  | _ :: _, [], h, _ => by simp at h
  | a :: l, b :: m, h, hc => by
    have ih := cmpTs_zero l m (by simpa using h) fun x hx => hc x (by simp [hx])
    have h1 := hc a (by simp) b
    simp only [cmpTs]
    by_cases he : a = b
    · rw [if_neg (by simpa using h1.2 he), ih]
      simp [he]
    · have : ¬ cmpT a b = 0 := fun e => he (h1.1 e)
      rw [if_pos this]
      simp [this, he]
theorem cmpT_zero (a : Term) : ∀ b, cmpT a b = 0 ↔ a = b := by
  induction a using term_ind with
  | h a ih =>
  intro b
  rw [cmpT_eq, term_eq_iff]
  by_cases h1 : a.var = b.var
  · rw [if_neg (by simpa using h1)]
    by_cases h2 : a.name = b.name
    · rw [if_neg (by simpa using cmpS_zero.2 h2)]
      by_cases h3 : a.args.length = b.args.length
      · rw [if_neg (by simpa using cmpI_zero.2 (by omega)), cmpTs_zero _ _ h3 ih]
        simp [h1, h2]
      · have : ¬ cmpI a.args.length b.args.length = 0 := fun e => h3 (by have := cmpI_zero.1 e; omega)
        rw [if_pos this]
        simp only [this, false_iff, not_and]
        intro _ _ e; exact h3 (by rw [e])
    · have : ¬ cmpS a.name b.name = 0 := fun e => h2 (cmpS_zero.1 e)
      rw [if_pos this]
      simp [this, h2]
  · rw [if_pos h1]
    simp only [h1, false_and, and_false, iff_false]
    split <;> decide
theorem r01_Compare_s (a : Term) : ∀ b, tb a < 2 ^ 62 → tb b < 2 ^ 62 → PF n_r01_Compare [encT a, encT b] (.int .i64 (cmpT a b)) := by
  induction a using term_ind with
  | h a ih =>
  intro b ha hb
  have ha2 := tb_args a
  have hb2 := tb_args b
  have hla := length_le_tbs a.args
  rw [cmpT_eq]
  refine pf_of r01_Compare.ok rfl ?_
  by_cases h1 : a.var = b.var
  · rw [if_neg (by simpa using h1)]
    push_cast [h1, show ∀ x y : Bool, (x != y) = !decide (x = y) from fun x y => by cases x <;> cases y <;> rfl]
    refine .of (r01_CompareNames_s _ _ (by omega) (by omega)) ?_
    by_cases h2 : cmpS a.name b.name = 0
    · rw [if_neg (by simpa using h2)]
      push_cast [h2]
      refine .of (r01_CompareInts_s _ _) ?_
      by_cases h3 : cmpI a.args.length b.args.length = 0
      · have hll : a.args.length = b.args.length := by have := cmpI_zero.1 h3; omega
        rw [if_neg (by simpa using h3)]
        push_cast [h3]
        refine loop_up (n := a.args.length) (R := fun k => cmpTs (a.args.drop k) (b.args.drop k) = cmpTs a.args b.args → r01_Compare.L3 (.ro (cT a) 0) (.ro (cT b) 0) (.int .i64 a.args.length) (.int .i64 k) 0 [] _) ?_ ?_ 0 (by omega) rfl
        · intro k hk ih2 hq
          have hkb : k < b.args.length := by omega
          rw [drop_getD hk, drop_getD hkb] at hq
          simp only [cmpTs] at hq
          have hm := getD_mem hk
          have hmb := getD_mem hkb
          refine r01_Compare.G3 ?_
          push_cast [ilt hk, ilt hkb]
          refine .of (ih _ hm _ (by have := tb_mem hm; omega) (by have := tb_mem hmb; omega)) ?_
          push_cast [w64 (show k < 2 ^ 62 by omega)]
          refine ⟨fun h => pf_ret ?_, fun h => ih2 ?_⟩
          · push_cast [r01_Compare.rs]
            rw [← hq, if_pos (by simpa using h)]
          · rw [← hq, if_neg (by simpa using h)]
        · intro hq
          refine r01_Compare.G3 ?_
          push_cast [inlt (Nat.le_refl _)]
          refine pf_ret ?_
          push_cast [r01_Compare.rs]
          rw [← hq, drop_map_none]; rfl
      · rw [if_pos h3]
        push_cast [h3]
        exact pf_ret (by push_cast [r01_Compare.rs])
    · rw [if_pos h2]
      push_cast [h2]
      exact pf_ret (by push_cast [r01_Compare.rs])
  · rw [if_pos h1]
    have e : ∀ x y : Bool, (x != y) = !decide (x = y) := fun x y => by cases x <;> cases y <;> rfl
    cases hv : a.var <;> cases hv2 : b.var
    · exact absurd (hv.trans hv2.symm) h1
    · push_cast [hv, hv2, e]
      exact pf_ret (by push_cast [r01_Compare.rs])
    · push_cast [hv, hv2, e]
      exact pf_ret (by push_cast [r01_Compare.rs])
    · exact absurd (hv.trans hv2.symm) h1
theorem r01_Equal_s (a b : Term) (ha : tb a < 2 ^ 62) (hb : tb b < 2 ^ 62) : PF n_r01_Equal [encT a, encT b] (.bool (decide (a = b))) := by
  refine pf_of r01_Equal.ok rfl ?_
  push_cast
  refine .of (r01_Compare_s a b ha hb) ?_
  push_cast
  refine pf_ret ?_
  push_cast [r01_Equal.rs, cmpT_zero]
theorem r01_SamePos_s (p : List Int) (hp : p.length < 2 ^ 62) : PF n_r01_SamePos [encP p, encP p] (.bool true) := by
  refine pf_of r01_SamePos.ok rfl ?_
  push_cast
  refine loop_up (n := p.length) (R := fun k => r01_SamePos.L3 (encP p) (encP p) (.int .i64 p.length) (.int .i64 k) 0 [] _) ?_ ?_ 0 (by omega)
  · intro k hk ih
    refine r01_SamePos.G3 ?_
    push_cast [ilt hk, w64 (show k < 2 ^ 62 by omega)]
    exact ih
  · refine r01_SamePos.G3 ?_
    push_cast [inlt (Nat.le_refl _)]
    exact pf_ret (by push_cast [r01_SamePos.rs])
theorem r04_SameSteps_s (l : List AStep) (hl : l.length < 2 ^ 62) (hp : ∀ s ∈ l, s.pos.length < 2 ^ 62) : PF n_r04_SameSteps [encSts l, encSts l] (.bool true) := by
  refine pf_of r04_SameSteps.ok rfl ?_
  push_cast
  refine loop_up (n := l.length) (R := fun k => r04_SameSteps.L3 (encSts l) (encSts l) (.int .i64 l.length) (.int .i64 k) 0 [] _) ?_ ?_ 0 (by omega)
  · intro k hk ih
    refine r04_SameSteps.G3 ?_
    push_cast [ilt hk]
    refine .of (r01_SamePos_s _ (hp _ (getD_mem hk))) ?_
    push_cast [w64 (show k < 2 ^ 62 by omega)]
    exact ih
  · refine r04_SameSteps.G3 ?_
    push_cast [inlt (Nat.le_refl _)]
    exact pf_ret (by push_cast [r04_SameSteps.rs])
theorem r04_SameChain_s (c : AChain) (ht : tb c.start < 2 ^ 62) (hl : c.steps.length < 2 ^ 62) (hp : ∀ s ∈ c.steps, s.pos.length < 2 ^ 62) : PF n_r04_SameChain [encC c, encC c] (.bool true) := by
  refine pf_of r04_SameChain.ok rfl ?_
  push_cast
  refine .of (r01_Equal_s _ _ ht ht) ?_
  push_cast
  refine .of (r04_SameSteps_s _ hl hp) ?_
  push_cast
  exact pf_ret (by push_cast [r04_SameChain.rs])
end Go.Dw
end
section
set_option linter.unusedVariables false
set_option linter.unusedSimpArgs false
set_option maxRecDepth 100000
namespace Go.Dw
theorem encBs_nil : (V.sl 4 [] : V) = encBs [] := rfl
theorem r03_match_s (p : Term) : ∀ (s : List ABind) (t : Term) (m : Nat), tb p ≤ 2 ^ 38 → tb t < 2 ^ 38 → Bs (2 ^ 38) m s → m + size p < 2 ^ 38 →
    PF n_r03_match [encBs s, encT p, encT t] (.tup [encBs (matchR s p t).1, .bool (matchR s p t).2]) := by
  induction p using term_ind with
  | h p ih =>
  intro s t m hp ht hb hm
  have h1 := tb_args p
  have h2 := tb_args t
  have h3 := size_args p
  have hlt := length_le_tbs t.args
  have hsl := hb.len
  rw [matchR_eq]
  refine pf_of r03_match.ok rfl ?_
  cases hv : p.var with
  | true =>
    rw [if_pos rfl]
    push_cast [hv]
    refine .of (r03_Bound_s s p.name (by omega)) ?_
    cases hx : image s p.name with
    | some x =>
      push_cast [show bound s p.name = true by simp [bound, hx]]
      refine .of (r01_Image_s s p.name (by omega)) ?_
      push_cast [hx, Option.getD_some]
      obtain ⟨b, hbm, _, rfl⟩ := image_mem hx
      refine .of (r01_Equal_s b.term t (by have := hb.tm b hbm; omega) (by omega)) ?_
      push_cast
      exact pf_ret (by push_cast [r03_match.rs])
    | none =>
      push_cast [show bound s p.name = false by simp [bound, hx]]
      refine .of (r03_with_s s p.name t (by omega) (fun b hbm => by have := hb.nm b hbm; omega) (by omega)) ?_
      push_cast
      exact pf_ret (by push_cast [r03_match.rs])
  | false =>
    rw [if_neg (show ¬ (false = true) by simp)]
    push_cast [hv]
    by_cases c1 : t.var = true
    · rw [if_pos (show t.var = true ∨ t.name ≠ p.name ∨ t.args.length ≠ p.args.length from .inl c1)]
      push_cast [c1]
      exact pf_ret (by push_cast [r03_match.rs]; rfl)
    · have c1' : t.var = false := by simpa using c1
      by_cases c2 : t.name = p.name
      · by_cases c3 : t.args.length = p.args.length
        · rw [if_neg (show ¬ (t.var = true ∨ t.name ≠ p.name ∨ t.args.length ≠ p.args.length) by simp [c1', c2, c3])]
          have c3' : ((t.args.length : Int) = (p.args.length : Int)) = True := eq_true (by omega)
          push_cast [c1', c2, c3']
          have key : ∀ (l q : List Term) (s : List ABind) (k : Nat), p.args.drop k = l → t.args.drop k = q → k + q.length = t.args.length → ∀ m, Bs (2 ^ 38) m s → m + sizes l < 2 ^ 38 →
              ∀ res, matchRs s l q = res → r03_match.L3 (encBs s) (.ro (cT p) 0) (.ro (cT t) 0) (.int .i64 t.args.length) (.int .i64 k) 0 [] (Ends 0 r03_match.rs fun x' H' => x' = .tup [encBs res.1, .bool res.2] ∧ H' = []) := by
            intro l
            induction l with
            | nil =>
              intro q s k hl hq hk m hb hm res hr
              have hkl : t.args.length ≤ k := by
                have := congrArg List.length hl
                simp at this; omega
              refine r03_match.G3 ?_
              push_cast [inlt hkl]
              refine pf_ret ?_
              push_cast [r03_match.rs, ← hr]
              simp [matchRs]
            | cons a l ihl =>
              intro q s k hl hq hk m hb hm res hr
              have hkp : k < p.args.length := by
                rcases Nat.lt_or_ge k p.args.length with h | h
                · exact h
                · rw [List.drop_eq_nil_of_le h] at hl; cases hl
              have hkt : k < t.args.length := by omega
              rw [drop_getD hkp] at hl
              rw [drop_getD hkt] at hq
              cases hl
              subst hq
              have hmp := getD_mem hkp
              have hmt := getD_mem hkt
              have hbp := tb_mem hmp
              have hbt := tb_mem hmt
              simp only [sizes] at hm
              simp only [matchRs] at hr
              refine r03_match.G3 ?_
              push_cast [ilt hkt, ilt hkp]
              refine .of (ih _ hmp s _ m (by omega) (by omega) hb (by omega)) ?_
              cases hq2 : (matchR s (p.args.getD k default) (t.args.getD k default)).2 with
              | false =>
                rw [if_neg (by rw [hq2]; simp)] at hr
                push_cast
                refine pf_ret ?_
                push_cast [r03_match.rs, ← hr]
                rfl
              | true =>
                rw [if_pos hq2] at hr
                push_cast [w64 (show k < 2 ^ 62 by omega)]
                have := ihl _ _ (k + 1) rfl rfl (by simp; omega) _ (matchR_Bs _ s _ m (by omega) (by omega) hb) (by omega) res hr
                push_cast at this
                exact this
          have := key p.args t.args s 0 rfl rfl (by simp) m hb (by omega) _ rfl
          push_cast [c3'] at this
          exact this
        · rw [if_pos (show t.var = true ∨ t.name ≠ p.name ∨ t.args.length ≠ p.args.length from .inr (.inr c3))]
          have c3' : ((t.args.length : Int) = (p.args.length : Int)) = False := eq_false (by omega)
          push_cast [c1', c2, c3']
          exact pf_ret (by push_cast [r03_match.rs]; rfl)
      · rw [if_pos (show t.var = true ∨ t.name ≠ p.name ∨ t.args.length ≠ p.args.length from .inr (.inl c2))]
        push_cast [c1', c2]
        exact pf_ret (by push_cast [r03_match.rs]; rfl)
theorem r03_Match_s (p t : Term) (hp : tb p < 2 ^ 37) (ht : tb t < 2 ^ 37) : PF n_r03_Match [encT p, encT t] (.tup [encBs (matchR [] p t).1, .bool (matchR [] p t).2]) := by
  have := size_le_tb p
  refine pf_of r03_Match.ok rfl ?_
  push_cast
  refine .of (r03_match_s p [] t 0 (by omega) (by omega) Bs.nil (by omega)) ?_
  push_cast
  exact pf_ret (by push_cast [r03_Match.rs])
theorem r04_Subst_s (r : List ARule) (t : Term) (s : AStep) (hr : rbs r < 2 ^ 37) (ht : tb t < 2 ^ 37) (hp : s.pos.length < 2 ^ 62) : PF n_r04_Subst [encRs r, encT t, encSt s] (.tup [encBs (findE r t s).1, .int .i64 (findE r t s).2]) := by
  have hst := size_le_tb t
  have hlr := length_le_rbs r
  refine pf_of r04_Subst.ok rfl ?_
  push_cast
  refine .of (r01_At_s t s.pos hp (by omega)) ?_
  unfold findE
  by_cases h1 : s.rule < 0
  · rw [if_pos (.inl h1)]
    cases subT t s.pos with
    | none =>
      push_cast [encOT, h1]
      exact pf_ret (by push_cast [r04_Subst.rs]; rfl)
    | some x =>
      push_cast [encOT, h1]
      exact pf_ret (by push_cast [r04_Subst.rs]; rfl)
  · by_cases h2 : (r.length : Int) ≤ s.rule
    · rw [if_pos (.inr h2)]
      cases subT t s.pos with
      | none =>
        push_cast [encOT, h1, h2]
        exact pf_ret (by push_cast [r04_Subst.rs]; rfl)
      | some x =>
        push_cast [encOT, h1, h2]
        exact pf_ret (by push_cast [r04_Subst.rs]; rfl)
    · rw [if_neg (by omega)]
      cases hx : subT t s.pos with
      | none =>
        push_cast [encOT, h1, h2]
        exact pf_ret (by push_cast [r04_Subst.rs]; rfl)
      | some x =>
        have hxt := subT_tb _ _ _ hx
        have hi : s.rule.toNat < r.length := by omega
        have hm := rbs_mem (getD_mem hi)
        push_cast [encOT, h1, h2]
        refine ⟨by omega, .of (r03_Match_s _ x (by omega) (by omega)) ?_⟩
        obtain ⟨q1, q2⟩ := matchR_T (r.getD s.rule.toNat default).left [] x
        cases hb : (matchT [] (r.getD s.rule.toNat default).left x).2 with
        | false =>
          rw [hb] at q1
          push_cast [q1]
          exact pf_ret (by push_cast [r04_Subst.rs]; rfl)
        | true =>
          rw [hb] at q1
          rw [q2 hb]
          push_cast [q1]
          exact pf_ret (by push_cast [r04_Subst.rs])
end Go.Dw
end
section
set_option linter.unusedVariables false
set_option linter.unusedSimpArgs false
set_option maxRecDepth 100000
namespace Go.Dw
theorem row_T {l : List Term} {k : Nat} (h : k < l.length) : (l.map cT)[k]? = some (cT (l.getD k default)) := by
  rw [List.getElem?_map]; simp [List.getD_eq_getElem?_getD, h]
theorem rens_cTs {σ : Nat → Option Nat} {l : List Term} : (l.map cT).map (rens σ) = l.map cT := by rw [List.map_map]; rfl
theorem r01_Put_s (p : List Int) : ∀ (t x y : Term), short t = true → subT t p = some y → size t < 2 ^ 40 → p.length < 2 ^ 40 → PF n_r01_Put [encT t, encP p, encT x] (encT (setT t p x)) := by
  induction p with
  | nil =>
    intro t x y _ _ _ _
    refine pf_of r01_Put.ok rfl ?_
    push_cast
    exact pf_ret (by push_cast [r01_Put.rs]; rfl)
  | cons i p ih =>
    intro t x y ht hy hs hp
    simp only [subT] at hy
    split at hy
    case isFalse => cases hy
    rename_i hi
    have hst := size_args t
    have hll := length_le_sizes t.args
    have hk : i.toNat < t.args.length := by omega
    have hm := getD_mem hk
    have hm2 := size_mem hm
    have hne : ¬ (((i :: p).length : Nat) : Int) = 0 := by rw [List.length_cons]; omega
    have hsub := ih _ x y ((short_iff.1 ht).2.2 _ hm) hy (by omega) (by simp at hp; omega)
    refine pf_of r01_Put.ok rfl ?_
    have hv : t.var = false := by
      cases h : t.var with
      | false => rfl
      | true => have := (short_iff.1 ht).2.1 h; rw [this] at hk; simp at hk
    have hres : setT t (i :: p) x = .mk t.name false (t.args.set i.toNat (setT (t.args.getD i.toNat default) p x)) := by
      simp only [setT]; rw [if_pos hi, hv]
    rw [hres]
    have e1 : ((i :: p).drop 1).take ((i :: p).length - 1) = p := by simp
    have e2 : (i :: p).getD 0 default = i := rfl
    have e3 : ((0 : Int) < (((i :: p).length : Nat) : Int)) = True := eq_true (by rw [List.length_cons]; omega)
    have e4 : (1 : Nat) ≤ (i :: p).length := by simp
    generalize (i :: p) = q at hne e1 e2 e3 e4
    have hi0 : (0 ≤ i) = True := eq_true hi.1
    have hi1 : (i < (t.args.length : Int)) = True := eq_true hi.2
    have hroom : t.args.length * 48 ≤ maxEls := Nat.le_trans (Nat.mul_le_mul_right 48 (show _ ≤ 2 ^ 41 by omega)) (by unfold maxEls; decide)
    have hsetC : (t.args.map cT).set i.toNat (put 0 (cT (setT (t.args.getD i.toNat default) p x)) ((t.args.map cT).getD i.toNat [])) = (t.args.set i.toNat (setT (t.args.getD i.toNat default) p x)).map cT := by
      have e5 : (t.args.map cT).getD i.toNat [] = cT (t.args.getD i.toNat default) := by
        rw [List.getD_eq_getElem?_getD (l := t.args.map cT), row_T hk]; rfl
      rw [List.map_set, e5, put_cT']
    push_cast [hne, row_T hk, e1, e2, e3, e4, hi0, hi1, List.length_map, hroom]
    refine .of hsub ?_
    push_cast [hi0, hi1, List.length_map, hk, hsetC, List.length_set, rens_cTs]
    refine pf_ret ?_
    push_cast [r01_Put.rs]
    unfold encT
    rw [cT_eq]; rfl
theorem sizes_take_get {l m : List Term} {k : Nat} (hk : k < m.length) : sizes (m.take (k + 1)) = sizes (m.take k) + size (m.getD k default) := sizes_take_succ m k hk
theorem r04_replaced_s (p : List Int) : ∀ (t x : Term), size t < 2 ^ 40 → size x < 2 ^ 40 → p.length < 2 ^ 40 →
    PF n_r04_replaced [encT t, encP p, .int .i64 (size x), .int .i64 (depth x)] (.tup [.int .i64 (size (setT t p x)), .int .i64 (depth (setT t p x))]) := by
  induction p with
  | nil =>
    intro t x _ _ _
    refine pf_of r04_replaced.ok rfl ?_
    push_cast
    exact pf_ret (by push_cast [r04_replaced.rs]; exact ⟨rfl, rfl⟩)
  | cons i p ih =>
    intro t x hs hx hp
    have hst := size_args t
    have hll := length_le_sizes t.args
    have hlu : (setT t (i :: p) x).args.length = t.args.length := setT_args_len
    have hget := fun k (hk : k < t.args.length) => setT_args_get (x := x) (i := i) (p := p) hk
    have hsu : size (setT t (i :: p) x) = 1 + sizes (setT t (i :: p) x).args := size_args _
    have hdu : depth (setT t (i :: p) x) = depths (setT t (i :: p) x).args + 1 := depth_args _
    have hsz := setT_size (i :: p) t x
    have hdd := depths_le_sizes (setT t (i :: p) x).args
    rw [hsu] at hsz ⊢
    rw [hdu]
    generalize (setT t (i :: p) x).args = u at *
    have hne : ¬ (((i :: p).length : Nat) : Int) = 0 := by rw [List.length_cons]; omega
    have e1 : ((i :: p).drop 1).take ((i :: p).length - 1) = p := by simp
    have e2 : (i :: p).getD 0 default = i := rfl
    have e3 : ((0 : Int) < (((i :: p).length : Nat) : Int)) = True := eq_true (by rw [List.length_cons]; omega)
    have e4 : (1 : Nat) ≤ (i :: p).length := by simp
    have hpl : p.length < 2 ^ 40 := by simp at hp; omega
    generalize (i :: p) = q at hne e1 e2 e3 e4
    refine pf_of r04_replaced.ok rfl ?_
    push_cast [hne]
    refine loop_up (n := t.args.length) (R := fun k => r04_replaced.L3 (encP q) (.int .i64 (size x)) (.int .i64 (depth x)) (.int .i64 (1 + sizes (u.take k) : Nat)) (.int .i64 (depths (u.take k) : Nat)) (encTs t.args) (.int .i64 t.args.length) (.int .i64 k) 0 [] _) ?_ ?_ 0 (by omega)
    · intro k hk ih2
      have hm := getD_mem hk
      have hm2 := size_mem hm
      have hsk := sizes_take_succ u k (by omega)
      have hdk := depths_take_succ u k (by omega)
      have hsl := sizes_take_le u (k + 1)
      have hgk := hget k hk
      have hdl := depth_le_size (t.args.getD k default)
      rw [hsk, hdk, hgk] at ih2
      rw [hsk, hgk] at hsl
      refine r04_replaced.G3 ?_
      push_cast [ilt hk]
      refine .of (r01_Size_s _ (by omega)) ?_
      push_cast
      refine .of (r01_Depth_s _ (by omega)) ?_
      by_cases hik : (k : Int) = i
      · rw [if_pos hik] at ih2 hsl
        subst hik
        push_cast [e1, e2, e3, e4]
        refine .of (ih _ x (by omega) hx hpl) ?_
        push_cast [w64 (show k < 2 ^ 62 by omega)]
        rw [wrap64 (by omega) (by omega)]
        push_cast at ih2
        simpa [Int.add_assoc] using ih2
      · rw [if_neg hik] at ih2 hsl
        push_cast [e1, e2, e3, e4, hik, w64 (show k < 2 ^ 62 by omega)]
        rw [wrap64 (by omega) (by omega)]
        push_cast at ih2
        simpa [Int.add_assoc] using ih2
    · refine r04_replaced.G3 ?_
      rw [List.take_of_length_le (by omega)]
      push_cast [inlt (Nat.le_refl _)]
      rw [wrap64 (by omega) (by omega)]
      refine pf_ret ?_
      push_cast [r04_replaced.rs]
end Go.Dw
end
section
set_option linter.unusedVariables false
set_option linter.unusedSimpArgs false
set_option maxRecDepth 100000
namespace Go.Dw
theorem subT_setT : ∀ (p : List Int) (t x y : Term), subT t p = some y → subT (setT t p x) p = some x
  | [], t, x, y, _ => rfl
  | i :: p, t, x, y, h => by
    simp only [subT] at h
    split at h
    case isFalse => cases h
    rename_i hi
    have hk : i.toNat < t.args.length := by omega
    have hl : (setT t (i :: p) x).args.length = t.args.length := setT_args_len
    simp only [subT]
    rw [if_pos (by omega), setT_args_get hk, if_pos (by omega)]
    exact subT_setT p _ x y h
theorem depth_mem {l : List Term} {a : Term} (h : a ∈ l) : depth a ≤ depths l := by
  induction l with
  | nil => cases h
  | cons x xs ih => rcases List.mem_cons.1 h with rfl | h <;> simp only [depths]; omega; have := ih h; omega
theorem subT_depth : ∀ (p : List Int) (t x : Term), subT t p = some x → depth x ≤ depth t
  | [], t, x, h => by cases h; exact Nat.le_refl _
  | i :: p, t, x, h => by
    simp only [subT] at h
    split at h
    case isFalse => cases h
    rename_i hi
    have h1 := subT_depth p _ x h
    have h2 := depth_mem (getD_mem (show i.toNat < t.args.length by omega))
    have h3 := depth_args t
    omega
theorem fits_sub {t x y : Term} {p : List Int} (h : subT t p = some y) (hf : fits (setT t p x) = true) : fits x = true := by
  have h1 := subT_setT p t x y h
  have h2 := subT_size _ _ _ h1
  have h3 := subT_depth _ _ _ h1
  simp only [fits, Bool.and_eq_true, decide_eq_true_eq] at hf ⊢
  omega
theorem r04_Step_s (r : List ARule) (t : Term) (s : AStep) (hr : rbs r < 2 ^ 28) (hg : ∀ x ∈ r, good x.left ∧ good x.right) (ht : good t) (hp : s.pos.length < 2 ^ 40) : PF n_r04_Step [encRs r, encT t, encSt s] (encTE (doE r t s).1 (doE r t s).2) := by
  have htb := tb_short t ht.1
  have hts := ht.2
  refine pf_of r04_Step.ok rfl ?_
  push_cast
  refine .of (r04_Subst_s r t s (by omega) (by omega) (by omega)) ?_
  unfold doE
  by_cases h1 : (findE r t s).2 = 0
  · rw [if_neg (by simpa using h1)]
    obtain ⟨k1, k2, _, y, k3, k4⟩ := findE_ok h1
    have hm := getD_mem k2
    have hgl := hg _ hm
    have hyt := subT_tb _ _ _ k3
    have hlt := tb_short _ hgl.1.1
    have hrt := tb_short _ hgl.2.1
    have hls := hgl.1.2
    have hrs := hgl.2.2
    have hbl := length_le_bbs (findE r t s).1
    have hsz := inst_size (findE r t s).1 (r.getD s.rule.toNat default).right
    have hlr := length_le_rbs r
    generalize (findE r t s).1 = u at k4 hbl hsz ⊢
    have hmul : size (r.getD s.rule.toNat default).right * (1 + bbs u) ≤ 4000 * 200001 := Nat.mul_le_mul hrs (by omega)
    have hin : ((s.rule : Int) < (r.length : Int)) = True := eq_true (by omega)
    have hi0 : ((0 : Int) ≤ s.rule) = True := eq_true k1
    have hst := setT_size s.pos t (inst u (r.getD s.rule.toNat default).right)
    push_cast [h1, hin, hi0]
    refine .of (r01_Grown_s u (by omega) (by omega) _ (by omega)) ?_
    push_cast
    refine .of (r04_replaced_s s.pos t (inst u (r.getD s.rule.toNat default).right) (by omega) (by omega) hp) ?_
    have hR := r01_Apply_s u (by omega) (r.getD s.rule.toNat default).right (by omega)
    have hP := r01_Put_s s.pos t (inst u (r.getD s.rule.toNat default).right) y ht.1 k3 (by omega) hp
    generalize hv : setT t s.pos (inst u (r.getD s.rule.toNat default).right) = v at hP hst ⊢
    have hff : fits v = true → fits (inst u (r.getD s.rule.toNat default).right) = true := fun h => by subst hv; exact fits_sub k3 h
    by_cases h2 : size v ≤ 4000
    · have c2 : ((4000 : Int) < (size v : Int)) = False := eq_false (by omega)
      by_cases h3 : depth v ≤ 200
      · have c3 : ((200 : Int) < (depth v : Int)) = False := eq_false (by omega)
        have hf : fits v = true := by simp [fits, h2, h3]
        rw [if_pos (hff hf), if_pos hf]
        push_cast [c2, c3, hin, hi0]
        refine .of hR ?_
        push_cast
        refine .of hP ?_
        push_cast
        exact pf_ret (by push_cast [r04_Step.rs, encTE])
      · have c3 : ((200 : Int) < (depth v : Int)) = True := eq_true (by omega)
        have hf : fits v = false := by simp [fits, h3]
        push_cast [c2, c3, hf, ite_self]
        exact pf_ret (by push_cast [r04_Step.rs, encTE]; rfl)
    · have c2 : ((4000 : Int) < (size v : Int)) = True := eq_true (by omega)
      have hf : fits v = false := by simp [fits, h2]
      push_cast [c2, hf, ite_self]
      exact pf_ret (by push_cast [r04_Step.rs, encTE]; rfl)
  · rw [if_pos (by simpa using h1)]
    push_cast [h1]
    exact pf_ret (by push_cast [r04_Step.rs, encTE]; rfl)
theorem r01_CheckSubst_s (s : List ABind) (hs : bbs s < 2 ^ 61) : PF n_r01_CheckSubst [encBs s] (.int .i64 (checkSubst s)) := by
  have hl := length_le_bbs s
  refine pf_of r01_CheckSubst.ok rfl ?_
  push_cast
  refine loop_up (n := s.length) (R := fun k => namesOk (prevAt s k) (s.drop k) = namesOk none s → r01_CheckSubst.L7 (encBs s) (encBs s) (.int .i64 s.length) (.int .i64 k) 0 [] _) ?_ ?_ 0 (by omega) rfl
  · intro k hk ih hq
    have hm := bbs_mem (getD_mem hk)
    refine r01_CheckSubst.G7 ?_
    push_cast [ilt hk]
    refine .of (r01_IsName_s _ false (by omega)) ?_
    rw [drop_getD hk] at hq
    simp only [namesOk] at hq
    cases hn : isName (s.getD k default).name false with
    | false =>
      push_cast [hn]
      refine pf_ret ?_
      push_cast [r01_CheckSubst.rs]
      rw [hn] at hq
      simp only [Bool.false_and] at hq
      rw [checkSubst, ← hq]; rfl
    | true =>
      rw [hn] at hq
      simp only [Bool.true_and] at hq
      by_cases h0 : k = 0
      · subst h0
        push_cast [hn]
        refine ih ?_
        rw [← hq]
        simp [prevAt]
      · have hp : ((0 : Int) < (k : Int)) = True := eq_true (by omega)
        have hm2 := bbs_mem (getD_mem (show k - 1 < s.length by omega))
        push_cast [hn, hp, sub1 (show k < 2 ^ 62 by omega) (by omega), ilt (show k - 1 < s.length by omega)]
        have hpv : prevAt s k = some (s.getD (k - 1) default).name := by unfold prevAt; rw [if_neg h0]
        have hpn : prevAt s (k + 1) = some (s.getD k default).name := by unfold prevAt; rw [if_neg (by omega)]; rfl
        rw [hpv] at hq
        rw [hpn] at ih
        simp only at hq
        refine .of (r01_CompareNames_s _ _ (by omega) (by omega)) ?_
        by_cases hlt : (s.getD (k - 1) default).name < (s.getD k default).name
        · have hc : (0 ≤ cmpS (s.getD (k - 1) default).name (s.getD k default).name) = False := eq_false (by have := cmpS_neg.2 hlt; omega)
          push_cast [hc, w64 (show k < 2 ^ 62 by omega)]
          refine ih ?_
          rw [← hq, decide_eq_true hlt, Bool.true_and]
        · have hc : (0 ≤ cmpS (s.getD (k - 1) default).name (s.getD k default).name) = True := eq_true (Int.not_lt.1 fun h => hlt (cmpS_neg.1 h))
          push_cast [hc]
          refine pf_ret ?_
          push_cast [r01_CheckSubst.rs]
          rw [checkSubst, ← hq, decide_eq_false hlt, Bool.false_and]; rfl
  · intro hq
    refine r01_CheckSubst.G7 ?_
    push_cast [inlt (Nat.le_refl _)]
    have hn : namesOk none s = true := by rw [← hq, drop_map_none]; rfl
    have hcs : checkSubst s = checks (s.map ABind.term) := by unfold checkSubst; rw [if_pos hn]
    rw [hcs]
    refine loop_up (n := s.length) (R := fun k => checks ((s.drop k).map ABind.term) = checks (s.map ABind.term) → r01_CheckSubst.L3 (encBs s) (.int .i64 s.length) (.int .i64 k) 0 [] _) ?_ ?_ 0 (by omega) rfl
    · intro k hk ih hq
      have hm := bbs_mem (getD_mem hk)
      refine r01_CheckSubst.G3 ?_
      push_cast [ilt hk]
      refine .of (r01_Check_s _ (by omega)) ?_
      rw [drop_getD hk] at hq
      simp only [checks, List.map_cons] at hq
      push_cast [w64 (show k < 2 ^ 62 by omega)]
      refine ⟨fun h => pf_ret ?_, fun h => ih ?_⟩
      · push_cast [r01_CheckSubst.rs]
        rw [← hq, if_pos h]
      · rw [← hq, if_neg h]
    · intro hq
      refine r01_CheckSubst.G3 ?_
      push_cast [inlt (Nat.le_refl _)]
      refine pf_ret ?_
      push_cast [r01_CheckSubst.rs]
      rw [← hq, drop_map_none]; rfl
theorem r05_Terms_s (r : List ARule) (c : AChain) (hr : rbs r < 2 ^ 28) (hrg : ∀ x ∈ r, good x.left ∧ good x.right) (hc : tb c.start < 2 ^ 28) (hl : c.steps.length < 2 ^ 40) (hp : ∀ s ∈ c.steps, s.pos.length < 2 ^ 40) :
    PF n_r05_Terms [encRs r, encC c] (.tup [encTs (chainE r c).1, .int .i64 (chainE r c).2]) := by
  have hst := size_le_tb c.start
  refine pf_of r05_Terms.ok rfl ?_
  unfold chainE
  by_cases h1 : 4096 < c.steps.length
  · have hi : ((4096 : Int) < (c.steps.length : Int)) = True := eq_true (by omega)
    rw [if_pos h1]
    push_cast [hi]
    exact pf_ret (by push_cast [r05_Terms.rs]; rfl)
  · have hi : ((4096 : Int) < (c.steps.length : Int)) = False := eq_false (by omega)
    rw [if_neg h1]
    push_cast [hi]
    refine .of (r01_Check_s c.start (by omega)) ?_
    by_cases h2 : check c.start = 0
    · rw [if_neg (by simpa using h2)]
      push_cast [h2]
      have hg := check_good h2
      generalize hres : addE [c.start] (runE r c.start c.steps) = res
      rw [show (V.own 0 3 [cT c.start] : V) = ownL cT 0 3 ([] ++ [c.start]) from rfl]
      refine loop_up (n := c.steps.length) (R := fun k => ∀ pre t, pre.length = k → good t → addE (pre ++ [t]) (runE r t (c.steps.drop k)) = res →
        r05_Terms.L3 (encRs r) (ownL cT 0 3 (pre ++ [t])) (encSts c.steps) (.int .i64 c.steps.length) (.int .i64 k) 0 [.arr t_Term 3 (k + 1)] (Ends 0 r05_Terms.rs fun x' H' => x' = .tup [encTs res.1, .int .i64 res.2] ∧ H' = [])) ?_ ?_ 0 (by omega) [] c.start rfl hg hres
      · intro k hk ih pre t hpre ht hq
        rw [drop_getD hk] at hq
        have hm := getD_mem hk
        generalize hs : c.steps.getD k default = s at hm hq
        have hget : (pre ++ [t]).getD k default = t := by rw [List.getD_eq_getElem?_getD, List.getElem?_append_right (by omega), hpre]; simp
        have hlen : (pre ++ [t]).length = k + 1 := by simp [hpre]
        have hlt : ((k : Int) < (k : Int) + 1) = True := eq_true (by omega)
        have hwk : IntKind.i64.wrap ((k : Int) + 1 - 1) = (k : Int) := by rw [wrap64 (by omega) (by omega)]; omega
        have htb := good_tb ht
        refine r05_Terms.G3 ?_
        push_cast [ilt hk, hs, hlen, hwk, hlt, hget]
        refine .of (r04_Step_s r t s hr hrg ht (hp s hm)) ?_
        cases hd : doE r t s with
        | mk o e =>
        cases o with
        | none =>
          rw [runE_none hd] at hq
          have he := doE_none hd
          simp only [addE, he, if_false] at hq
          push_cast [encTE, he]
          refine pf_ret ?_
          push_cast [r05_Terms.rs, ← hq]
          rfl
        | some u =>
          obtain ⟨hu, rfl⟩ := doE_good (fun x hx => (hrg x hx).2.1) ht.1 hd
          rw [runE_some hd, addE_addE] at hq
          push_cast [encTE, w64 (show k < 2 ^ 62 by omega)]
          refine ⟨⟨by omega, Nat.le_trans (Nat.mul_le_mul_right 48 (show _ ≤ 2 ^ 41 by omega)) (by unfold maxEls; decide)⟩, ?_⟩
          have := ih (pre ++ [t]) u (by simp [hpre]) hu hq
          push_cast at this
          rw [hpre]
          exact this
      · intro pre t hpre ht hq
        rw [drop_map_none] at hq
        refine r05_Terms.G3 ?_
        push_cast [inlt (Nat.le_refl _)]
        refine pf_ret ?_
        push_cast [r05_Terms.rs, ← hq]
        simp [addE, runE]
    · rw [if_pos (by simpa using h2)]
      push_cast [h2]
      exact pf_ret (by push_cast [r05_Terms.rs]; rfl)
theorem r05_Check_s (r : List ARule) (c : AChain) (hr : rbs r < 2 ^ 28) (hc : tb c.start < 2 ^ 28) (hl : c.steps.length < 2 ^ 40) (hp : ∀ s ∈ c.steps, s.pos.length < 2 ^ 40) :
    PF n_r05_Check [encRs r, encL cC 4 [c]] (.int .i64 (termsE r c).2) := by
  refine pf_of r05_Check.ok rfl ?_
  push_cast
  refine .of (r01_CheckSystem_s r (by omega)) ?_
  unfold termsE
  by_cases h : checkSystem r = 0
  · rw [if_neg (by simpa using h)]
    push_cast [h]
    refine r05_Check.G3 ?_
    push_cast
    refine .of (r05_Terms_s r c hr (checkSystem_good h) hc hl hp) ?_
    have hw1 : IntKind.i64.wrap 1 = 1 := wrap64 (by omega) (by omega)
    by_cases h2 : (chainE r c).2 = 0
    · push_cast [h2, hw1]
      refine r05_Check.G3 ?_
      push_cast
      exact pf_ret (by push_cast [r05_Check.rs])
    · push_cast [h2]
      exact pf_ret (by push_cast [r05_Check.rs])
  · rw [if_pos (by simpa using h)]
    push_cast [h]
    exact pf_ret (by push_cast [r05_Check.rs])
theorem r05_Last_s (r : List ARule) (c : AChain) (hr : rbs r < 2 ^ 28) (hc : tb c.start < 2 ^ 28) (hl : c.steps.length < 2 ^ 40) (hp : ∀ s ∈ c.steps, s.pos.length < 2 ^ 40) (hok : (termsE r c).2 = 0) :
    PF n_r05_Last [encRs r, encC c] (encT (lastT (termsE r c).1)) := by
  obtain ⟨hsys, _, _, hne, _⟩ := termsE_good hok
  have hlen := termsE_len (r := r) (c := c)
  have hce : termsE r c = chainE r c := by unfold termsE; rw [if_neg (by simpa using hsys)]
  refine pf_of r05_Last.ok rfl ?_
  push_cast
  refine .of (r05_Terms_s r c hr (checkSystem_good hsys) hc hl hp) ?_
  rw [← hce]
  generalize (termsE r c).1 = ts at hne hlen ⊢
  have hpl : 0 < ts.length := List.length_pos_iff.2 hne
  have hsub : IntKind.i64.wrap ((ts.length : Int) - 1) = ((ts.length - 1 : Nat) : Int) := sub1 (by omega) hpl
  have hlt : (((ts.length - 1 : Nat) : Int) < (ts.length : Int)) = True := eq_true (by omega)
  have hl1 : ts.getD (ts.length - 1) default = lastT ts := rfl
  push_cast [hsub, hlt, hl1]
  refine pf_ret ?_
  push_cast [r05_Last.rs]
theorem checks_ok : ∀ {l : List Term}, checks l = 0 → ∀ t ∈ l, check t = 0
  | [], _, t, ht => by cases ht
  | a :: l, h, t, ht => by
    simp only [checks] at h
    split at h
    · rename_i h1; exact absurd h h1
    · rename_i h1
      rcases List.mem_cons.1 ht with rfl | ht
      · simpa using h1
      · exact checks_ok h t ht
theorem checkSubst_terms {s : List ABind} (h : checkSubst s = 0) : ∀ b ∈ s, check b.term = 0 := by
  unfold checkSubst at h
  split at h
  · intro b hb; exact checks_ok h _ (List.mem_map.2 ⟨b, hb, rfl⟩)
  · omega
theorem r14_Check_s (r : List ARule) (l : ALoop) (hr : rbs r < 2 ^ 28) (hc : tb l.chain.start < 2 ^ 28) (hl : l.chain.steps.length < 2 ^ 40) (hp : ∀ s ∈ l.chain.steps, s.pos.length < 2 ^ 40) (hpos : l.pos.length < 2 ^ 40) (hs : bbs l.subst < 2 ^ 28) :
    PF n_r14_Check [encRs r, encLo l] (.int .i64 (loopE r l)) := by
  have hbl := length_le_bbs l.subst
  refine pf_of r14_Check.ok rfl ?_
  push_cast
  refine .of (r05_Check_s r l.chain hr hc hl hp) ?_
  unfold loopE
  by_cases h1 : (termsE r l.chain).2 = 0
  · rw [if_neg (by simpa using h1)]
    push_cast [h1]
    obtain ⟨_, _, hgs, hne, hg⟩ := termsE_good h1
    have hLast := r05_Last_s r l.chain hr hc hl hp h1
    have hck : check l.chain.start = 0 := by
      unfold termsE at h1
      split at h1
      · rename_i h; exact absurd h1 h
      · unfold chainE at h1
        split at h1
        · simp at h1
        · split at h1
          · rename_i h; exact absurd h1 h
          · rename_i h; simpa using h
    by_cases h2 : l.chain.steps.length = 0
    · rw [if_pos h2]
      push_cast [h2]
      exact pf_ret (by push_cast [r14_Check.rs])
    · rw [if_neg h2]
      have hpl : 0 < (termsE r l.chain).1.length := List.length_pos_iff.2 hne
      have hlast : lastT (termsE r l.chain).1 ∈ (termsE r l.chain).1 := getD_mem (by omega)
      have hgl := hg _ hlast
      have hi : ((l.chain.steps.length : Int) = 0) = False := eq_false (by omega)
      push_cast [hi]
      refine .of hLast ?_
      push_cast
      refine .of (r01_At_s _ l.pos (by omega) (by have := hgl.2; omega)) ?_
      generalize lastT (termsE r l.chain).1 = u at hgl ⊢
      cases hx : subT u l.pos with
      | none =>
        push_cast [encOT]
        exact pf_ret (by push_cast [r14_Check.rs])
      | some x =>
        have hxs := subT_tb _ _ _ hx
        have hxt := good_tb hgl
        push_cast [encOT]
        refine .of (r01_CheckSubst_s l.subst (by omega)) ?_
        unfold applyE
        by_cases h3 : checkSubst l.subst = 0
        · rw [if_neg (by simpa using h3), if_neg (by simpa using hck)]
          push_cast [h3]
          refine .of (r01_Fits_s l.subst (by omega) (by omega) l.chain.start (by omega)) ?_
          have hsz := inst_size l.subst l.chain.start
          have hmul : size l.chain.start * (1 + bbs l.subst) ≤ 4000 * (1 + bbs l.subst) := Nat.mul_le_mul_right _ hgs.2
          cases hf : fits (inst l.subst l.chain.start) with
          | false =>
            push_cast
            exact pf_ret (by push_cast [r14_Check.rs])
          | true =>
            push_cast
            refine .of (r01_Apply_s l.subst (by omega) l.chain.start (by have := hgs.2; omega)) ?_
            push_cast
            have hbi : tb (inst l.subst l.chain.start) < 2 ^ 62 := by
              have hb : ∀ b ∈ l.subst, short b.term = true := fun b hb => (check_good (checkSubst_terms h3 b hb)).1
              have := tb_short _ (inst_short hb _ hgs.1)
              have := fits_size hf
              omega
            refine .of (r01_Equal_s _ x hbi (by omega)) ?_
            by_cases hxy : x = inst l.subst l.chain.start
            · push_cast [hxy]
              exact pf_ret (by push_cast [r14_Check.rs])
            · have hyx : ¬ inst l.subst l.chain.start = x := fun e => hxy e.symm
              push_cast [hxy, hyx]
              exact pf_ret (by push_cast [r14_Check.rs])
        · rw [if_pos (by simpa using h3)]
          push_cast [h3]
          exact pf_ret (by push_cast [r14_Check.rs])
  · rw [if_pos (by simpa using h1)]
    push_cast [h1]
    exact pf_ret (by push_cast [r14_Check.rs])
end Go.Dw
end
