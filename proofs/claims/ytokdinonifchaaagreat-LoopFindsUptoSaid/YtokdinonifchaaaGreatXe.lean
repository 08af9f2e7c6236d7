/-
  Contracts: the reference, first part.
-/
import Derived.Test.YtokdinonifchaaaGreatXd
section
set_option linter.unusedVariables false
set_option linter.unusedSimpArgs false
namespace Go.Dw
theorem bbs_append (a b : List ABind) : bbs (a ++ b) = bbs a + bbs b := by
  induction a with
  | nil => simp [bbs]
  | cons x xs ih => simp only [List.cons_append, bbs, ih]; omega
theorem bindT_bbs (s : List ABind) (v : Str) (t : Term) : bbs (bindT s v t) = bbs s + (1 + v.length + tb t) := by
  unfold bindT
  have : bbs s = bbs (s.take (lbd v s)) + bbs (s.drop (lbd v s)) := by rw [← bbs_append, List.take_append_drop]
  rw [bbs_append, this]; simp only [bbs]; omega
theorem matchT_bbs (p : Term) : ∀ (s : List ABind) (t : Term), bbs (matchT s p t).1 ≤ bbs s + tb p + tb t := by
  induction p using term_ind with
  | h p ih =>
  intro s t
  have h1 := tb_args p
  have h2 := tb_args t
  rw [matchT_eq]
  cases hv : p.var with
  | true =>
    rw [if_pos rfl]
    cases hx : image s p.name with
    | some x => exact Nat.le_trans (Nat.le_add_right _ _) (Nat.le_add_right _ _)
    | none => show bbs (bindT s p.name t) ≤ _; rw [bindT_bbs]; omega
  | false =>
    rw [if_neg (by simp)]
    by_cases hc : t.var ∨ p.name ≠ t.name ∨ p.args.length ≠ t.args.length
    · rw [if_pos hc]; exact Nat.le_trans (Nat.le_add_right _ _) (Nat.le_add_right _ _)
    · rw [if_neg hc]
      have key : ∀ (l m : List Term) (s : List ABind), (∀ a ∈ l, a ∈ p.args) → bbs (matchTs s l m).1 ≤ bbs s + tbs l + tbs m := by
        intro l
        induction l with
        | nil => intro m s _; exact Nat.le_trans (Nat.le_add_right _ _) (Nat.le_add_right _ _)
        | cons a l ihl =>
          intro m s hl
          cases m with
          | nil => exact Nat.le_trans (Nat.le_add_right _ _) (Nat.le_add_right _ _)
          | cons b m =>
            have h3 := ih a (hl a (by simp)) s b
            have e1 : tbs (a :: l) = tb a + tbs l := rfl
            have e2 : tbs (b :: m) = tb b + tbs m := rfl
            simp only [matchTs]
            split
            · have h4 := ihl m (matchT s a b).1 (fun x hx => hl x (by simp [hx]))
              omega
            · show bbs (matchT s a b).1 ≤ _; omega
      have h5 := key p.args t.args s (fun _ h => h)
      omega
end Go.Dw
end
section
set_option linter.unusedVariables false
set_option linter.unusedSimpArgs false
set_option maxRecDepth 100000
namespace Go.Dw
/-- What a step gives. -/
def doE (r : List ARule) (t : Term) (s : AStep) : Option Term × Int :=
  if (findE r t s).2 ≠ 0 then (none, (findE r t s).2) else
    if fits (inst (findE r t s).1 (r.getD s.rule.toNat default).right) then
      (if fits (setT t s.pos (inst (findE r t s).1 (r.getD s.rule.toNat default).right)) then (some (setT t s.pos (inst (findE r t s).1 (r.getD s.rule.toNat default).right)), 0) else (none, 3))
    else (none, 3)
theorem findE_ok {r : List ARule} {t : Term} {s : AStep} (h : (findE r t s).2 = 0) : 0 ≤ s.rule ∧ s.rule.toNat < r.length ∧ Sorted (findE r t s).1 ∧ ∃ x, subT t s.pos = some x ∧ bbs (findE r t s).1 ≤ tb (r.getD s.rule.toNat default).left + tb x := by
  unfold findE at h ⊢
  split at h
  · simp at h
  · rename_i hc
    rw [if_neg hc]
    cases hx : subT t s.pos with
    | none => rw [hx] at h; simp at h
    | some x =>
      rw [hx] at h
      simp only at h ⊢
      split at h
      · rename_i hm
        rw [if_pos hm]
        have h1 := matchT_ok (M := size x + 1) (r.getD s.rule.toNat default).left [] x List.Pairwise.nil (by simp) (by omega)
        have h2 := matchT_bbs (r.getD s.rule.toNat default).left [] x
        refine ⟨by omega, by omega, h1.sorted, x, rfl, ?_⟩
        simp only [bbs] at h2
        show bbs (matchT [] (r.getD s.rule.toNat default).left x).1 ≤ _
        omega
      · simp at h
theorem subT_tb : ∀ (p : List Int) (t x : Term), subT t p = some x → tb x ≤ tb t
  | [], t, x, h => by cases h; exact Nat.le_refl _
  | i :: p, t, x, h => by
    simp only [subT] at h
    split at h
    · rename_i hc
      have h1 := subT_tb p _ x h
      have h2 := tb_mem (getD_mem (l := t.args) (k := i.toNat) (by omega))
      have h3 := tb_args t
      omega
    · cases h
theorem rewrite_Do_s (r : List ARule) (t : Term) (s : AStep) (hr : rbs r < 2 ^ 28) (ht : tb t < 2 ^ 28) (hp : s.pos.length < 2 ^ 40) (hset : ∀ x, fits x = true → size (setT t s.pos x) < 2 ^ 62) : PF n_rewrite_Do [encRs r, encT t, encSt s] (encTE (doE r t s).1 (doE r t s).2) := by
  have hts := size_le_tb t
  have hF := rewrite_find_s r t s (fun x hx => by have := rbs_mem hx; have := size_le_tb x.left; omega) (by omega) (by omega)
  refine pf_of rewrite_Do.ok rfl ?_
  push_cast
  refine .of hF ?_
  unfold doE
  by_cases he : (findE r t s).2 = 0
  · obtain ⟨h0, h1, h2, x, hx, hbb⟩ := findE_ok he
    have hxt := subT_tb _ _ _ hx
    have hm := rbs_mem (getD_mem h1)
    rw [if_neg (by simpa using he)]
    have hge : (0 ≤ s.rule) = True := eq_true h0
    have hlt : (s.rule < (r.length : Int)) = True := eq_true (by omega)
    push_cast [he, hge, hlt]
    refine .of (term_Instance_s _ h2 (by omega) (r.getD s.rule.toNat default).right (by omega)) ?_
    cases hf : fits (inst (findE r t s).1 (r.getD s.rule.toNat default).right) with
    | false =>
      push_cast [encTE]
      refine pf_ret ?_
      push_cast [rewrite_Do.rs]
      rfl
    | true =>
      have hfs : size (inst (findE r t s).1 (r.getD s.rule.toNat default).right) ≤ 4000 := by
        unfold fits at hf; simp at hf; exact hf.1
      push_cast [encTE]
      refine .of (term_Set_s _ t _ (by omega) (by omega) hp) ?_
      push_cast
      refine .of (term_Fit_s _ (hset _ hf)) ?_
      cases hg : fits (setT t s.pos (inst (findE r t s).1 (r.getD s.rule.toNat default).right)) <;> push_cast [encTE] <;> refine pf_ret ?_ <;> push_cast [rewrite_Do.rs] <;> rfl
  · rw [if_pos he]
    push_cast [he]
    refine pf_ret ?_
    push_cast [rewrite_Do.rs]
    rfl
end Go.Dw
end
section
set_option linter.unusedVariables false
set_option linter.unusedSimpArgs false
set_option maxRecDepth 100000
namespace Go.Dw
theorem r01_Letters_s (s : Str) (h1 : s.length < 2 ^ 62) : PF n_r01_Letters [.str s] (.bool (s.all letter)) := by
  refine pf_of r01_Letters.ok rfl ?_
  push_cast
  refine loop_up (n := s.length) (R := fun k => (s.drop k).all letter = s.all letter → r01_Letters.L3 (.str s) (.int .i64 s.length) (.int .i64 k) 0 [] _) ?_ ?_ 0 (by omega) rfl
  · intro k hk ih hq
    rw [drop_getD hk] at hq
    simp only [List.all_cons] at hq
    refine r01_Letters.G3 ?_
    have hb : btV s k = ((s.getD k default).toNat : Int) := rfl
    push_cast [ilt hk, hb]
    refine .of (r01_letter_s _) ?_
    push_cast [w64 (show k < 2 ^ 62 by omega)]
    refine ⟨fun h => pf_ret ?_, fun h => ih ?_⟩
    · push_cast [r01_Letters.rs]
      rw [← hq]; simp_all
    · rw [← hq]; simp_all
  · intro hq
    refine r01_Letters.G3 ?_
    push_cast [inlt (Nat.le_refl _)]
    refine pf_ret ?_
    push_cast [r01_Letters.rs]
    rw [← hq, drop_map_none]; rfl
theorem hasSuf_last {s : Str} (h : s ≠ []) : hasSuf s [35] = decide (btV s (s.length - 1) = 35) := by
  have hl : 0 < s.length := List.length_pos_iff.2 h
  have e : s.drop (s.length - 1) = [s.getD (s.length - 1) default] := by
    rw [drop_getD (show s.length - 1 < s.length by omega), show s.length - 1 + 1 = s.length by omega, drop_map_none]
  have e2 : btV s (s.length - 1) = ((s.getD (s.length - 1) default).toNat : Int) := rfl
  unfold hasSuf
  rw [e2]
  simp only [List.length_singleton]
  rw [decide_eq_true (show 1 ≤ s.length by omega), Bool.true_and, decide_eq_decide, e]
  generalize s.getD (s.length - 1) default = c
  constructor
  · intro h; simp only [List.cons.injEq, and_true] at h; rw [h]; rfl
  · intro h; simp only [List.cons.injEq, and_true]; exact UInt8.toNat_inj.1 (show c.toNat = 35 by omega)
theorem r01_Marked_s (s : Str) (h1 : s.length < 2 ^ 62) : PF n_r01_Marked [.str s] (.bool (hasSuf s [35])) := by
  refine pf_of r01_Marked.ok rfl ?_
  by_cases h : s = []
  · subst h
    push_cast
    refine pf_ret ?_
    push_cast [r01_Marked.rs]
    rfl
  · have hl : 0 < s.length := List.length_pos_iff.2 h
    have hlt : (((s.length - 1 : Nat) : Int) < (s.length : Int)) = True := eq_true (by omega)
    push_cast [h, sub1 h1 hl, hlt]
    refine pf_ret ?_
    push_cast [r01_Marked.rs, hasSuf_last h]
theorem r01_IsName_s (s : Str) (m : Bool) (h1 : s.length < 2 ^ 62) : PF n_r01_IsName [.str s, .bool m] (.bool (isName s m)) := by
  refine pf_of r01_IsName.ok rfl ?_
  push_cast
  refine ⟨fun h => pf_ret ?_, fun h => ?_⟩
  · push_cast [r01_IsName.rs, isName]
    rw [show decide (s.length ≤ 24) = false from decide_eq_false (by omega)]; rfl
  · have hlen : s.length ≤ 24 := by omega
    have hu : isName s m = (!decide (nameOf s m = []) && (nameOf s m).all letter) := by simp [isName, hlen]
    rw [hu]
    have hnl := nameOf_len s m
    have hL := r01_Letters_s (nameOf s m) (by omega)
    have fin2 : ∀ u : Str, u = nameOf s m → PF n_r01_Letters [.str u] (.bool ((nameOf s m).all letter)) := fun u hu => hu ▸ hL
    cases m with
    | false =>
      have hn : s = nameOf s false := rfl
      push_cast
      rw [← hn]
      by_cases h0 : s = []
      · push_cast [h0]
        exact pf_ret (by push_cast [r01_IsName.rs])
      · push_cast [h0]
        refine .of (fin2 s hn) ?_
        push_cast
        exact pf_ret (by push_cast [r01_IsName.rs]; rw [← hn])
    | true =>
      push_cast
      refine .of (r01_Marked_s s h1) ?_
      cases hm : hasSuf s [35] with
      | false =>
        have hn : s = nameOf s true := by simp [nameOf, trimSuf, hm]
        push_cast
        rw [← hn]
        by_cases h0 : s = []
        · push_cast [h0]
          exact pf_ret (by push_cast [r01_IsName.rs])
        · push_cast [h0]
          refine .of (fin2 s hn) ?_
          push_cast
          exact pf_ret (by push_cast [r01_IsName.rs]; rw [← hn])
      | true =>
        have hn : (s.drop 0).take (s.length - 1 - 0) = nameOf s true := by simp [nameOf, trimSuf, hm]
        have hl : 0 < s.length := by
          unfold hasSuf at hm; simp only [Bool.and_eq_true, decide_eq_true_eq, List.length_singleton] at hm; omega
        have hle : s.length - 1 ≤ s.length := by omega
        by_cases h0 : nameOf s true = []
        · push_cast [sub1 h1 hl, hn, hle, h0]
          refine ⟨by omega, ?_⟩
          exact pf_ret (by push_cast [r01_IsName.rs, h0])
        · push_cast [sub1 h1 hl, hn, hle, h0]
          refine ⟨by omega, .of hL ?_⟩
          push_cast
          exact pf_ret (by push_cast [r01_IsName.rs, h0])
end Go.Dw
end
section
set_option linter.unusedVariables false
set_option linter.unusedSimpArgs false
set_option maxRecDepth 100000
namespace Go.Dw
theorem r01_Size_s (t : Term) (hs : size t < 2 ^ 62) : PF n_r01_Size [encT t] (.int .i64 (size t)) := by
  induction t using term_ind with
  | h t ih =>
  refine pf_of r01_Size.ok rfl ?_
  have hst := size_args t
  have hl := length_le_sizes t.args
  push_cast
  refine loop_up (n := t.args.length) (R := fun k => r01_Size.L3 (.int .i64 ((1 + sizes (t.args.take k) : Nat) : Int)) (encTs t.args) (.int .i64 t.args.length) (.int .i64 k) 0 [] _) ?_ ?_ 0 (by omega)
  · intro k hk ih2
    have h1 := sizes_take_succ _ _ hk
    have h2 := sizes_take_le t.args (k+1)
    have hm := getD_mem hk
    refine r01_Size.G3 ?_
    push_cast [ilt hk]
    refine .of (ih _ hm (by omega)) ?_
    push_cast [w64 (show k < 2 ^ 62 by omega)]
    rw [wrap64 (by omega) (by omega)]
    rw [h1] at ih2
    simpa [Int.add_assoc] using ih2
  · refine r01_Size.G3 ?_
    push_cast [inlt (Nat.le_refl _)]
    refine pf_ret ?_
    push_cast [r01_Size.rs, List.take_length, hst]
theorem r01_Depth_s (t : Term) (hs : size t < 2 ^ 62) : PF n_r01_Depth [encT t] (.int .i64 (depth t)) := by
  induction t using term_ind with
  | h t ih =>
  refine pf_of r01_Depth.ok rfl ?_
  have hst := size_args t
  have hl := length_le_sizes t.args
  have hd := depths_le_sizes t.args
  push_cast
  refine loop_up (n := t.args.length) (R := fun k => r01_Depth.L3 (.int .i64 (depths (t.args.take k) : Nat)) (encTs t.args) (.int .i64 t.args.length) (.int .i64 k) 0 [] _) ?_ ?_ 0 (by omega)
  · intro k hk ih2
    have h1 := depths_take_succ _ _ hk
    have hm := getD_mem hk
    have := size_mem hm
    refine r01_Depth.G3 ?_
    push_cast [ilt hk]
    refine .of (ih _ hm (by omega)) ?_
    push_cast [w64 (show k < 2 ^ 62 by omega)]
    rw [h1] at ih2
    exact ih2
  · refine r01_Depth.G3 ?_
    push_cast [inlt (Nat.le_refl _)]
    rw [wrap64 (by have := depths_take_le t.args t.args.length; omega) (by have := depths_take_le t.args t.args.length; omega)]
    refine pf_ret ?_
    push_cast [r01_Depth.rs, List.take_length, depth_args t]
theorem r01_Formed_s (t : Term) (hs : tb t < 2 ^ 62) : PF n_r01_Formed [encT t] (.bool (formed t)) := by
  induction t using term_ind with
  | h t ih =>
  have htb := tb_args t
  have hl := length_le_tbs t.args
  have hI : ∀ m, PF n_r01_IsName [.str t.name, .bool m] (.bool (isName t.name m)) := fun m => r01_IsName_s _ m (by omega)
  refine pf_of r01_Formed.ok rfl ?_
  cases hv : t.var with
  | true =>
    push_cast [hv]
    refine .of (hI false) ?_
    cases hn : isName t.name false
    · push_cast
      exact pf_ret (by push_cast [r01_Formed.rs, formed_eq t, hv, hn])
    · push_cast
      exact pf_ret (by push_cast [r01_Formed.rs, formed_eq t, hv, hn]; simp)
  | false =>
    push_cast [hv]
    refine .of (hI true) ?_
    have hf : formed t = (decide (t.args.length ≤ 8) && (isName t.name true && t.args.all formed)) := by rw [formed_eq, hv]; rfl
    rw [hf]
    cases hn : isName t.name true
    · push_cast
      exact pf_ret (by push_cast [r01_Formed.rs])
    · by_cases h0 : t.args.length ≤ 8
      · have hi : ((8 : Int) < (t.args.length : Int)) = False := eq_false (by omega)
        push_cast [hi, h0]
        refine loop_up (n := t.args.length) (R := fun k => (t.args.drop k).all formed = t.args.all formed → r01_Formed.L3 (encTs t.args) (.int .i64 t.args.length) (.int .i64 k) 0 [] _) ?_ ?_ 0 (by omega) rfl
        · intro k hk ih2 hq
          rw [drop_getD hk] at hq
          simp only [List.all_cons] at hq
          have hm := getD_mem hk
          refine r01_Formed.G3 ?_
          push_cast [ilt hk]
          refine .of (ih _ hm (by have := tb_mem hm; omega)) ?_
          push_cast [w64 (show k < 2 ^ 62 by omega)]
          refine ⟨fun h => pf_ret ?_, fun h => ih2 ?_⟩
          · push_cast [r01_Formed.rs]
            rw [← hq]; simp_all
          · rw [← hq]; simp_all
        · intro hq
          refine r01_Formed.G3 ?_
          push_cast [inlt (Nat.le_refl _)]
          refine pf_ret ?_
          push_cast [r01_Formed.rs]
          rw [← hq, drop_map_none]; rfl
      · have hi : ((8 : Int) < (t.args.length : Int)) = True := eq_true (by omega)
        push_cast [hi, h0]
        exact pf_ret (by push_cast [r01_Formed.rs])
theorem r01_Check_s (t : Term) (hs : tb t < 2 ^ 62) : PF n_r01_Check [encT t] (.int .i64 (check t)) := by
  have hst := size_le_tb t
  refine pf_of r01_Check.ok rfl ?_
  push_cast
  refine .of (r01_Formed_s t hs) ?_
  cases hf : formed t
  · push_cast
    exact pf_ret (by push_cast [r01_Check.rs, check, hf])
  · push_cast
    refine .of (r01_Size_s t (by omega)) ?_
    by_cases h : size t ≤ 4000
    · have hi : ((4000 : Int) < (size t : Int)) = False := eq_false (by omega)
      push_cast [hi]
      refine .of (r01_Depth_s t (by omega)) ?_
      by_cases hd : depth t ≤ 200
      · have hi2 : ((200 : Int) < (depth t : Int)) = False := eq_false (by omega)
        push_cast [hi2]
        exact pf_ret (by push_cast [r01_Check.rs, check, hf, fits, h, hd])
      · have hi2 : ((200 : Int) < (depth t : Int)) = True := eq_true (by omega)
        push_cast [hi2]
        exact pf_ret (by push_cast [r01_Check.rs, check, hf, fits, h, hd])
    · have hi : ((4000 : Int) < (size t : Int)) = True := eq_true (by omega)
      push_cast [hi]
      exact pf_ret (by push_cast [r01_Check.rs, check, hf, fits, h])
theorem r01_CheckAll_s (l : List Term) (hl : l.length < 2 ^ 62) (hs : ∀ t ∈ l, tb t < 2 ^ 62) : PF n_r01_CheckAll [encTs l] (.int .i64 (checks l)) := by
  refine pf_of r01_CheckAll.ok rfl ?_
  push_cast
  refine loop_up (n := l.length) (R := fun k => checks (l.drop k) = checks l → r01_CheckAll.L3 (encTs l) (.int .i64 l.length) (.int .i64 k) 0 [] _) ?_ ?_ 0 (by omega) rfl
  · intro k hk ih hq
    rw [drop_getD hk] at hq
    simp only [checks] at hq
    refine r01_CheckAll.G3 ?_
    push_cast [ilt hk]
    refine .of (r01_Check_s _ (hs _ (getD_mem hk))) ?_
    push_cast [w64 (show k < 2 ^ 62 by omega)]
    refine ⟨fun h => pf_ret ?_, fun h => ih ?_⟩
    · push_cast [r01_CheckAll.rs]
      rw [← hq, if_pos (by simpa using h)]
    · rw [← hq, if_neg (by simpa using h)]
  · intro hq
    refine r01_CheckAll.G3 ?_
    push_cast [inlt (Nat.le_refl _)]
    refine pf_ret ?_
    push_cast [r01_CheckAll.rs]
    rw [← hq, drop_map_none]; rfl
def cmpI (a b : Int) : Int := if a < b then -1 else if b < a then 1 else 0
theorem r01_CompareInts_s (a b : Int) : PF n_r01_CompareInts [.int .i64 a, .int .i64 b] (.int .i64 (cmpI a b)) := by
  refine pf_of r01_CompareInts.ok rfl ?_
  push_cast
  refine ⟨fun h => pf_ret ?_, fun h => ⟨fun h2 => pf_ret ?_, fun h2 => pf_ret ?_⟩⟩ <;> push_cast [r01_CompareInts.rs, cmpI, h]
  · simp_all
  · simp_all
/-- Two strings, byte by byte. -/
def cmpB : Str → Str → Int
  | [], [] => 0
  | [], _ :: _ => -1
  | _ :: _, [] => 1
  | a :: s, b :: u => if a = b then cmpB s u else cmpI a.toNat b.toNat
theorem cmpB_eq : ∀ a b : Str, cmpB a b = cmpS a b := by
  intro a b
  rw [cmpS_eq]
  induction a generalizing b with
  | nil => cases b <;> simp [cmpB]
  | cons x a ih =>
    cases b with
    | nil => simp [cmpB]
    | cons y b =>
      simp only [cmpB, List.cons_lt_cons_iff]
      by_cases h : x = y
      · subst h
        rw [if_pos rfl, ih]
        have : ¬ x < x := UInt8.lt_irrefl x
        simp [this]
      · rw [if_neg h]
        have h' : ¬ y = x := fun e => h e.symm
        simp only [h, h', false_and, or_false, cmpI, UInt8.lt_iff_toNat_lt]
        norm_cast
theorem r01_CompareNames_s (a b : Str) (ha : a.length < 2 ^ 62) (hb : b.length < 2 ^ 62) : PF n_r01_CompareNames [.str a, .str b] (.int .i64 (cmpS a b)) := by
  rw [← cmpB_eq]
  refine pf_of r01_CompareNames.ok rfl ?_
  have hmn : (if (b.length : Int) < (a.length : Int) then (b.length : Int) else (a.length : Int)) = ((min a.length b.length : Nat) : Int) := by split <;> omega
  push_cast [hmn]
  refine loop_up (n := min a.length b.length) (R := fun k => cmpB (a.drop k) (b.drop k) = cmpB a b → r01_CompareNames.L3 (.str a) (.str b) (.int .i64 (min a.length b.length : Nat)) (.int .i64 k) 0 [] _) ?_ ?_ 0 (by omega) rfl
  · intro k hk ih hq
    have hka : k < a.length := by omega
    have hkb : k < b.length := by omega
    rw [drop_getD hka, drop_getD hkb] at hq
    simp only [cmpB] at hq
    have h1 : btV a k = ((a.getD k default).toNat : Int) := rfl
    have h2 : btV b k = ((b.getD k default).toNat : Int) := rfl
    have hr : ∀ c : UInt8, IntKind.i64.wrap (c.toNat : Int) = c.toNat := fun c => wrap64 (by omega) (by have := UInt8.toNat_lt c; omega)
    refine r01_CompareNames.G3 ?_
    push_cast [ilt hk, ilt hka, ilt hkb, h1, h2, hr, w64 (show k < 2 ^ 62 by omega)]
    refine ⟨fun h => .of (r01_CompareInts_s _ _) ?_, fun h => ih ?_⟩
    · push_cast
      refine pf_ret ?_
      push_cast [r01_CompareNames.rs]
      rw [← hq, if_neg]
      intro e; rw [e] at h; exact h rfl
    · rw [← hq, if_pos]
      exact UInt8.toNat_inj.1 (Int.ofNat.inj (by simpa using h))
  · intro hq
    refine r01_CompareNames.G3 ?_
    push_cast [inlt (Nat.le_refl _)]
    refine .of (r01_CompareInts_s _ _) ?_
    push_cast
    refine pf_ret ?_
    push_cast [r01_CompareNames.rs]
    rw [← hq]
    rcases Nat.lt_or_ge a.length b.length with h | h
    · rw [Nat.min_eq_left (by omega), drop_map_none, drop_getD h]
      simp [cmpB, cmpI]; omega
    · rw [Nat.min_eq_right (by omega), drop_map_none]
      rcases Nat.lt_or_ge b.length a.length with h2 | h2
      · rw [drop_getD h2]
        simp [cmpB, cmpI]; omega
      · rw [show b.length = a.length by omega, drop_map_none]
        simp [cmpB, cmpI]
end Go.Dw
end
section
set_option linter.unusedVariables false
set_option linter.unusedSimpArgs false
set_option maxRecDepth 100000
namespace Go.Dw
/-! how often a variable occurs -/
mutual
def count (v : Str) : Term → Nat
  | .mk n b l => (if b && decide (n = v) then 1 else 0) + counts v l
def counts (v : Str) : List Term → Nat
  | [] => 0
  | a :: l => count v a + counts v l
end
theorem count_eq (v : Str) (t : Term) : count v t = (if t.var && decide (t.name = v) then 1 else 0) + counts v t.args := by cases t; rfl
theorem counts_append (v : Str) (a b : List Term) : counts v (a ++ b) = counts v a + counts v b := by
  induction a with
  | nil => simp [counts]
  | cons x xs ih => simp [counts, ih]; omega
theorem counts_take_succ (v : Str) (l : List Term) (k : Nat) (h : k < l.length) : counts v (l.take (k+1)) = counts v (l.take k) + count v (l.getD k default) := by
  rw [take_succ_getD h, counts_append]; simp [counts]
theorem counts_take_le (v : Str) (l : List Term) (k : Nat) : counts v (l.take k) ≤ counts v l := by
  conv => rhs; rw [← List.take_append_drop k l]
  rw [counts_append]; omega
mutual
theorem count_le (v : Str) : ∀ t, count v t ≤ size t
  | .mk n b l => by simp only [count, size]; have := counts_le v l; split <;> omega
theorem counts_le (v : Str) : ∀ l, counts v l ≤ sizes l
  | [] => by simp [counts, sizes]
  | a :: l => by simp only [counts, sizes]; have := count_le v a; have := counts_le v l; omega
end
theorem r01_Count_s (t : Term) (v : Str) (hs : size t < 2 ^ 62) : PF n_r01_Count [encT t, .str v] (.int .i64 (count v t)) := by
  induction t using term_ind with
  | h t ih =>
  have hst := size_args t
  have hl := length_le_sizes t.args
  have hce := count_eq v t
  have hcl := counts_le v t.args
  have fin : ∀ c : Nat, c ≤ 1 → count v t = c + counts v t.args → r01_Count.L3 (.str v) (.int .i64 c) (encTs t.args) (.int .i64 t.args.length) (.int .i64 0) 0 [] (Ends 0 r01_Count.rs fun x' H' => x' = .int .i64 (count v t) ∧ H' = []) := by
    intro c hc hcv
    refine loop_up (n := t.args.length) (R := fun k => r01_Count.L3 (.str v) (.int .i64 ((c + counts v (t.args.take k) : Nat) : Int)) (encTs t.args) (.int .i64 t.args.length) (.int .i64 k) 0 [] _) ?_ ?_ 0 (by omega)
    · intro k hk ih2
      have h1 := counts_take_succ v _ _ hk
      have h2 := counts_take_le v t.args (k+1)
      have hm := getD_mem hk
      have hm2 := size_mem hm
      refine r01_Count.G3 ?_
      push_cast [ilt hk]
      refine .of (ih _ hm (by omega)) ?_
      push_cast [w64 (show k < 2 ^ 62 by omega)]
      rw [wrap64 (by omega) (by omega)]
      rw [h1] at ih2
      simpa [Int.add_assoc] using ih2
    · refine r01_Count.G3 ?_
      push_cast [inlt (Nat.le_refl _)]
      refine pf_ret ?_
      push_cast [r01_Count.rs, List.take_length, hcv]
  refine pf_of r01_Count.ok rfl ?_
  cases hv : t.var with
  | true =>
    by_cases hn : t.name = v
    · push_cast [hv, hn]
      exact fin 1 (by omega) (by rw [hce]; simp [hv, hn])
    · push_cast [hv, hn]
      exact fin 0 (by omega) (by rw [hce]; simp [hv, hn])
  | false =>
    push_cast [hv]
    exact fin 0 (by omega) (by rw [hce]; simp [hv])
/-! a place in a sorted row -/
def lbg {α : Type} (p : α → Bool) : List α → Nat
  | [] => 0
  | x :: l => if p x then lbg p l + 1 else 0
theorem lbg_le {α : Type} (p : α → Bool) : ∀ l : List α, lbg p l ≤ l.length
  | [] => Nat.le_refl _
  | x :: l => by simp only [lbg]; have := lbg_le p l; split <;> simp <;> omega
theorem lbg_lt {α : Type} [Inhabited α] {p : α → Bool} : ∀ {l : List α} {j : Nat}, j < lbg p l → p (l.getD j default) = true
  | [], j, h => by simp [lbg] at h
  | x :: l, j, h => by
    simp only [lbg] at h
    split at h
    · rename_i hx
      cases j with
      | zero => simpa using hx
      | succ j => simpa using lbg_lt (l := l) (j := j) (by omega)
    · omega
theorem lbg_ge {α : Type} [Inhabited α] {p : α → Bool} : ∀ {l : List α}, lbg p l < l.length → p (l.getD (lbg p l) default) = false
  | [], h => by simp at h
  | x :: l, h => by
    simp only [lbg] at h ⊢
    split
    · rename_i hx
      rw [if_pos hx] at h
      simpa using lbg_ge (l := l) (by simpa using h)
    · rename_i hx
      simpa using hx
/-- A name put into a sorted row. -/
def insS (l : List Str) (s : Str) : List Str := if lbg (fun x => decide (x < s)) l < l.length ∧ l.getD (lbg (fun x => decide (x < s)) l) default = s then l else l.take (lbg (fun x => decide (x < s)) l) ++ s :: l.drop (lbg (fun x => decide (x < s)) l)
theorem mem_insS {l : List Str} {s v : Str} : v ∈ insS l s ↔ v ∈ l ∨ v = s := by
  unfold insS
  split
  · rename_i h
    constructor
    · exact .inl
    · rintro (h2 | rfl)
      · exact h2
      · rw [← h.2]; exact getD_mem h.1
  · generalize lbg (fun x => decide (x < s)) l = k
    have := List.take_append_drop k l
    constructor
    · intro h
      simp only [List.mem_append, List.mem_cons] at h
      rcases h with h | h | h
      · exact .inl (List.mem_of_mem_take h)
      · exact .inr h
      · exact .inl (List.mem_of_mem_drop h)
    · rintro (h | rfl)
      · rw [← this] at h
        simp only [List.mem_append, List.mem_cons] at h ⊢
        rcases h with h | h
        · exact .inl h
        · exact .inr (.inr h)
      · simp
theorem insS_len (l : List Str) (s : Str) : (insS l s).length ≤ l.length + 1 := by
  unfold insS
  have := lbg_le (fun x => decide (x < s)) l
  split <;> simp <;> omega
theorem r01_Insert_s (l : List Str) (s : Str) (hl : l.length < 2 ^ 40) (hn : ∀ x ∈ l, x.length < 2 ^ 62) (hs : s.length < 2 ^ 62) : PF n_r01_Insert [encSs l, .str s] (encSs (insS l s)) := by
  have hle := lbg_le (fun x => decide (x < s)) l
  have hge := @lbg_ge _ _ (fun x => decide (x < s)) l
  have hlt := fun j => @lbg_lt _ _ (fun x => decide (x < s)) l j
  unfold insS
  generalize lbg (fun x => decide (x < s)) l = a at hle hge hlt
  refine pf_of r01_Insert.ok rfl ?_
  push_cast
  refine loop_up (n := a) (R := fun k => r01_Insert.L4 (encSs l) (.str s) (.int .i64 k) 0 [] _) ?_ ?_ 0 (by omega)
  · intro k hk ih
    have hkl : k < l.length := by omega
    have h1 : cmpS (l.getD k default) s < 0 := cmpS_neg.2 (by simpa using hlt k hk)
    refine r01_Insert.G4 ?_
    push_cast [ilt hkl]
    refine .of (r01_CompareNames_s _ _ (hn _ (getD_mem hkl)) hs) ?_
    push_cast [h1, w64 (show k < 2 ^ 62 by omega)]
    exact ih
  · refine r01_Insert.G4 ?_
    have tail : ∀ m : Nat, m ≤ 2 ^ 40 → ∀ b, b ≤ 64 → m * b ≤ maxEls := fun m hm b hb => Nat.le_trans (Nat.mul_le_mul hm hb) (by unfold maxEls; decide)
    rcases Nat.lt_or_ge a l.length with h | h
    · have h2 : ¬ cmpS (l.getD a default) s < 0 := fun hc => by have := cmpS_neg.1 hc; have := hge h; simp_all
      push_cast [ilt h]
      refine .of (r01_CompareNames_s _ _ (hn _ (getD_mem h)) hs) ?_
      by_cases he : l.getD a default = s
      · rw [he] at h2
        push_cast [h2, ilt h, he, h]
        exact pf_ret (by push_cast [r01_Insert.rs])
      · push_cast [h2, ilt h, he, h]
        refine ⟨⟨by omega, hle⟩, tail _ (by simp; omega) _ (by omega), tail _ (by simp; omega) _ (by omega), hle, tail _ (by simp; omega) _ (by omega), pf_ret ?_⟩
        push_cast [r01_Insert.rs]
        simp [encL, cS, List.take_of_length_le]
    · push_cast [inlt h]
      rw [if_neg (by omega)]
      refine ⟨⟨by omega, hle⟩, tail _ (by simp; omega) _ (by omega), tail _ (by simp; omega) _ (by omega), hle, tail _ (by simp; omega) _ (by omega), pf_ret ?_⟩
      push_cast [r01_Insert.rs]
      simp [encL, cS, List.take_of_length_le]
/-! variables in order -/
mutual
def collectT (l : List Str) : Term → List Str
  | .mk n b ar => collectTs (if b then insS l n else l) ar
def collectTs (l : List Str) : List Term → List Str
  | [] => l
  | a :: ar => collectTs (collectT l a) ar
end
theorem collectT_eq (l : List Str) (t : Term) : collectT l t = collectTs (if t.var then insS l t.name else l) t.args := by cases t; rfl
theorem collectTs_append (a b : List Term) : ∀ l : List Str, collectTs l (a ++ b) = collectTs (collectTs l a) b := by
  induction a with
  | nil => intro l; simp [collectTs]
  | cons x xs ih => intro l; simp [collectTs, ih]
theorem collectTs_take_succ (s : List Str) (l : List Term) (k : Nat) (h : k < l.length) : collectTs s (l.take (k+1)) = collectT (collectTs s (l.take k)) (l.getD k default) := by
  rw [take_succ_getD h, collectTs_append]; simp [collectTs]
mutual
theorem collectT_len : ∀ (t : Term) (l : List Str), (collectT l t).length ≤ l.length + size t
  | .mk n b ar, l => by
    simp only [collectT, size]
    have := collectTs_len ar (if b then insS l n else l)
    have := insS_len l n
    cases b <;> simp at * <;> omega
theorem collectTs_len : ∀ (ar : List Term) (l : List Str), (collectTs l ar).length ≤ l.length + sizes ar
  | [], l => by simp [collectTs, sizes]
  | a :: ar, l => by simp only [collectTs, sizes]; have := collectT_len a l; have := collectTs_len ar (collectT l a); omega
end
mutual
def occ (v : Str) : Term → Bool
  | .mk n b ar => (b && decide (n = v)) || occs v ar
def occs (v : Str) : List Term → Bool
  | [] => false
  | a :: ar => occ v a || occs v ar
end
mutual
theorem mem_collectT (v : Str) : ∀ (t : Term) (l : List Str), v ∈ collectT l t ↔ v ∈ l ∨ occ v t = true
  | .mk n b ar, l => by
    simp only [collectT, occ, mem_collectTs v ar]
    cases b
    · simp
    · simp only [if_true, mem_insS, Bool.true_and, Bool.or_eq_true, decide_eq_true_eq, or_assoc]
      constructor
      · rintro (h | h | h)
        · exact .inl h
        · exact .inr (.inl h.symm)
        · exact .inr (.inr h)
      · rintro (h | h | h)
        · exact .inl h
        · exact .inr (.inl h.symm)
        · exact .inr (.inr h)
theorem mem_collectTs (v : Str) : ∀ (ar : List Term) (l : List Str), v ∈ collectTs l ar ↔ v ∈ l ∨ occs v ar = true
  | [], l => by simp [collectTs, occs]
  | a :: ar, l => by simp only [collectTs, occs, mem_collectTs v ar, mem_collectT v a, Bool.or_eq_true, or_assoc]
end
mutual
theorem occ_len (v : Str) : ∀ t, occ v t = true → v.length < tb t
  | .mk n b ar, h => by
    simp only [occ, Bool.or_eq_true, Bool.and_eq_true, decide_eq_true_eq] at h
    simp only [tb]
    rcases h with ⟨_, rfl⟩ | h
    · omega
    · have := occs_len v ar h; simp only [tbs] at this; omega
theorem occs_len (v : Str) : ∀ l, occs v l = true → v.length < tbs l
  | [], h => by simp [occs] at h
  | a :: ar, h => by
    simp only [occs, Bool.or_eq_true] at h
    simp only [tbs, tb.tbs]
    rcases h with h | h
    · have := occ_len v a h; omega
    · have := occs_len v ar h; simp only [tbs] at this; omega
end
mutual
theorem count_occ (v : Str) : ∀ t, decide (count v t = 0) = !occ v t
  | .mk n b ar => by
    simp only [count, occ]
    have := counts_occ v ar
    cases b <;> by_cases h : n = v <;> simp_all
theorem counts_occ (v : Str) : ∀ l, decide (counts v l = 0) = !occs v l
  | [] => by simp [counts, occs]
  | a :: ar => by
    have h1 := count_occ v a
    have h2 := counts_occ v ar
    have e : counts v (a :: ar) = count v a + counts v ar := rfl
    have e2 : occs v (a :: ar) = (occ v a || occs v ar) := rfl
    rw [e2, Bool.not_or, ← h1, ← h2]
    by_cases c1 : count v a = 0 <;> by_cases c2 : counts v ar = 0 <;> simp [e, c1, c2]
end
theorem tbs_take_le (l : List Term) (k : Nat) : tbs (l.take k) ≤ tbs l := by
  induction l generalizing k with
  | nil => simp
  | cons a l ih => cases k with
    | zero => simp [tbs, tb.tbs]
    | succ k => simp only [List.take_succ_cons, tbs, tb.tbs]; have := ih k; simp only [tbs] at this; omega
theorem r01_collect_s (t : Term) : ∀ (l : List Str), tb t < 2 ^ 39 → l.length + size t < 2 ^ 39 → (∀ x ∈ l, x.length < 2 ^ 62) → PF n_r01_collect [encT t, encSs l] (encSs (collectT l t)) := by
  induction t using term_ind with
  | h t ih =>
  intro l htb hls hn
  have hst := size_args t
  have htb2 := tb_args t
  have hll := length_le_sizes t.args
  have hce := collectT_eq l t
  have fin : ∀ s : List Str, s = (if t.var then insS l t.name else l) → r01_collect.L3 (encSs s) (encTs t.args) (.int .i64 t.args.length) (.int .i64 0) 0 [] (Ends 0 r01_collect.rs fun x' H' => x' = encSs (collectT l t) ∧ H' = []) := by
    intro s hs
    have hsl : s.length ≤ l.length + 1 := by rw [hs]; have := insS_len l t.name; split <;> omega
    have hsn : ∀ x ∈ s, x.length < 2 ^ 62 := by
      intro x hx
      rw [hs] at hx
      split at hx
      · rcases mem_insS.1 hx with h | rfl
        · exact hn x h
        · omega
      · exact hn x hx
    rw [← hs] at hce
    refine loop_up (n := t.args.length) (R := fun k => r01_collect.L3 (encSs (collectTs s (t.args.take k))) (encTs t.args) (.int .i64 t.args.length) (.int .i64 k) 0 [] _) ?_ ?_ 0 (by omega)
    · intro k hk ih2
      have h1 := collectTs_take_succ s _ _ hk
      have h2 := collectTs_len (t.args.take k) s
      have h3 := sizes_take_le t.args (k+1)
      rw [sizes_take_succ _ _ hk] at h3
      have hm := getD_mem hk
      have hm3 := tb_mem hm
      refine r01_collect.G3 ?_
      push_cast [ilt hk]
      refine .of (ih _ hm _ (by omega) (by omega) fun x hx => ?_) ?_
      · rcases (mem_collectTs x _ _).1 hx with h | h
        · exact hsn x h
        · have := occs_len x _ h
          have h4 := tbs_take_le t.args k
          omega
      push_cast [w64 (show k < 2 ^ 62 by omega)]
      rw [h1] at ih2
      exact ih2
    · refine r01_collect.G3 ?_
      push_cast [inlt (Nat.le_refl _)]
      refine pf_ret ?_
      push_cast [r01_collect.rs, List.take_length, hce]
  refine pf_of r01_collect.ok rfl ?_
  cases hv : t.var with
  | true =>
    push_cast [hv]
    refine .of (r01_Insert_s l t.name (by omega) hn (by omega)) ?_
    push_cast
    exact fin _ (by rw [hv]; rfl)
  | false =>
    push_cast [hv]
    exact fin _ (by rw [hv]; rfl)
def varsT (t : Term) : List Str := collectT [] t
theorem r01_Vars_s (t : Term) (ht : tb t < 2 ^ 39) : PF n_r01_Vars [encTs [t]] (encSs (varsT t)) := by
  have := size_le_tb t
  refine pf_of r01_Vars.ok rfl ?_
  push_cast
  rw [show (V.sl 1 [] : V) = encSs (collectTs [] ([t].take 0)) from rfl]
  refine loop_up (n := 1) (R := fun k => r01_Vars.L3 (encSs (collectTs [] ([t].take k))) (encTs [t]) (.int .i64 1) (.int .i64 k) 0 [] _) ?_ ?_ 0 (by omega)
  · intro k hk ih2
    obtain rfl : k = 0 := by omega
    refine r01_Vars.G3 ?_
    push_cast
    refine .of (r01_collect_s t [] ht (by simpa using by omega) (by simp)) ?_
    push_cast
    exact ih2
  · refine r01_Vars.G3 ?_
    push_cast
    refine pf_ret ?_
    push_cast [r01_Vars.rs]
    rfl
/-- Every variable of a occurs in b. -/
def within (a b : Term) : Bool := (varsT a).all fun v => occ v b
theorem r01_Within_s (a b : Term) (ha : tb a < 2 ^ 39) (hb : tb b < 2 ^ 39) : PF n_r01_Within [encT a, encT b] (.bool (within a b)) := by
  have hsa := size_le_tb a
  have hsb := size_le_tb b
  have hvl := collectT_len a []
  have hV := r01_Vars_s a ha
  unfold within
  have e1 : (.sl 3 [cT a] : V) = encTs [a] := rfl
  have hcl : (varsT a).length < 2 ^ 62 := by unfold varsT; simp at hvl; omega
  generalize varsT a = l at hV hcl
  refine pf_of r01_Within.ok rfl ?_
  push_cast [e1]
  refine .of hV ?_
  push_cast
  refine loop_up (n := l.length) (R := fun k => ((l.drop k).all fun v => occ v b) = (l.all fun v => occ v b) → r01_Within.L3 (.ro (cT b) 0) (encSs l) (.int .i64 l.length) (.int .i64 k) 0 [] _) ?_ ?_ 0 (by omega) rfl
  · intro k hk ih hq
    rw [drop_getD hk] at hq
    simp only [List.all_cons] at hq
    refine r01_Within.G3 ?_
    push_cast [ilt hk]
    refine .of (r01_Count_s _ _ (by omega)) ?_
    have hc := count_occ (l.getD k default) b
    push_cast [w64 (show k < 2 ^ 62 by omega)]
    refine ⟨fun h => pf_ret ?_, fun h => ih ?_⟩
    · push_cast [r01_Within.rs]
      rw [← hq]
      have h0 : count (l.getD k default) b = 0 := by omega
      rw [decide_eq_true h0] at hc
      simp_all
    · rw [← hq]
      have h0 : ¬ count (l.getD k default) b = 0 := by omega
      rw [decide_eq_false h0] at hc
      simp_all
  · intro hq
    refine r01_Within.G3 ?_
    push_cast [inlt (Nat.le_refl _)]
    refine pf_ret ?_
    push_cast [r01_Within.rs]
    rw [← hq, drop_map_none]; rfl
theorem r01_Rules_s (r : List ARule) (hs : rbs r < 2 ^ 61) : PF n_r01_Rules [encRs r] (.int .i64 (checkRules r)) := by
  have hl := length_le_rbs r
  refine pf_of r01_Rules.ok rfl ?_
  by_cases h64 : 64 < r.length
  · have hi : ((64 : Int) < (r.length : Int)) = True := eq_true (by omega)
    push_cast [hi]
    refine pf_ret ?_
    push_cast [r01_Rules.rs, checkRules, h64]
  · have hi : ((64 : Int) < (r.length : Int)) = False := eq_false (by omega)
    push_cast [hi, checkRules, h64]
    refine loop_up (n := r.length) (R := fun k => checkPairs (r.drop k) = checkPairs r → r01_Rules.L3 (encRs r) (.int .i64 r.length) (.int .i64 k) 0 [] _) ?_ ?_ 0 (by omega) rfl
    · intro k hk ih hq
      have hm := rbs_mem (getD_mem hk)
      refine r01_Rules.G3 ?_
      rw [drop_getD hk] at hq
      simp only [checkPairs] at hq
      generalize hx : r.getD k default = x at hm hq
      have hA := r01_CheckAll_s [x.left, x.right] (by simp) (by simp; omega)
      push_cast [ilt hk, hx, encTs_two]
      refine .of hA ?_
      push_cast [w64 (show k < 2 ^ 62 by omega)]
      refine ⟨fun h => pf_ret ?_, fun h => ih ?_⟩
      · push_cast [r01_Rules.rs]
        rw [← hq, if_pos h]
      · rw [← hq, if_neg h]
    · intro hq
      refine r01_Rules.G3 ?_
      push_cast [inlt (Nat.le_refl _)]
      refine pf_ret ?_
      push_cast [r01_Rules.rs]
      rw [← hq, drop_map_none]; rfl
end Go.Dw
end
section
set_option linter.unusedVariables false
set_option linter.unusedSimpArgs false
namespace Go.Dw
mutual
/-- All names are short; variables have no arguments. -/
def short : Term → Bool
  | .mk n v l => decide (n.length ≤ 24) && ((!v || l.isEmpty) && shorts l)
def shorts : List Term → Bool
  | [] => true
  | a :: l => short a && shorts l
end
theorem shorts_iff {l : List Term} : shorts l = true ↔ ∀ a ∈ l, short a = true := by
  induction l with
  | nil => simp [shorts]
  | cons a l ih => simp [shorts, ih]
theorem short_iff {t : Term} : short t = true ↔ t.name.length ≤ 24 ∧ (t.var = true → t.args = []) ∧ ∀ a ∈ t.args, short a = true := by
  cases t with | mk n v l => cases v <;> simp [short, shorts_iff, Term.name, Term.var, Term.args]
theorem formed_short (t : Term) : formed t = true → short t = true := by
  induction t using term_ind with
  | h t ih =>
  intro h
  rw [formed_eq] at h
  rw [short_iff]
  split at h
  · simp only [Bool.and_eq_true, decide_eq_true_eq, isName] at h
    refine ⟨h.2.1, fun _ => List.length_eq_zero_iff.1 h.1, fun a ha => ?_⟩
    rw [List.length_eq_zero_iff.1 h.1] at ha; cases ha
  · rename_i hv
    simp only [Bool.and_eq_true, decide_eq_true_eq, isName, List.all_eq_true] at h
    exact ⟨h.2.1.1, fun hv2 => absurd hv2 hv, fun a ha => ih a ha (h.2.2 a ha)⟩
mutual
theorem tb_short : ∀ t, short t = true → tb t ≤ 25 * size t
  | .mk n v l, h => by
    simp only [short, Bool.and_eq_true, decide_eq_true_eq] at h
    have := tbs_short l h.2.2
    simp only [tb, size]
    simp only [tbs] at this
    omega
theorem tbs_short : ∀ l, shorts l = true → tbs l ≤ 25 * sizes l
  | [], _ => by simp [tbs, tb.tbs, sizes]
  | a :: l, h => by
    simp only [shorts, Bool.and_eq_true] at h
    have h1 := tb_short a h.1
    have h2 := tbs_short l h.2
    simp only [tbs, tb.tbs, sizes] at h2 ⊢
    omega
end
theorem subT_short : ∀ (p : List Int) (t x : Term), subT t p = some x → short t = true → short x = true
  | [], t, x, h, ht => by cases h; exact ht
  | i :: p, t, x, h, ht => by
    simp only [subT] at h
    split at h
    · rename_i hi
      exact subT_short p _ x h ((short_iff.1 ht).2.2 _ (getD_mem (by omega)))
    · cases h
theorem inst_short {s : List ABind} (hs : ∀ b ∈ s, short b.term = true) (t : Term) : short t = true → short (inst s t) = true := by
  induction t using term_ind with
  | h t ih =>
  intro ht
  rw [inst_eq]
  have h := short_iff.1 ht
  split
  · cases hx : image s t.name with
    | none => exact short_iff.2 ⟨h.1, fun _ => rfl, fun a ha => by simp [Term.args] at ha⟩
    | some x =>
      obtain ⟨b, hb, _, rfl⟩ := image_mem hx
      exact hs b hb
  · refine short_iff.2 ⟨h.1, fun hv => by simp [Term.var] at hv, fun a ha => ?_⟩
    simp only [Term.args, List.mem_map] at ha
    obtain ⟨y, hy, rfl⟩ := ha
    exact ih y hy (h.2.2 y hy)
theorem matchT_short (p : Term) : ∀ (s : List ABind) (t : Term), (∀ b ∈ s, short b.term = true) → short t = true → ∀ b ∈ (matchT s p t).1, short b.term = true := by
  induction p using term_ind with
  | h p ih =>
  intro s t hb ht
  rw [matchT_eq]
  cases hv : p.var with
  | true =>
    rw [if_pos rfl]
    cases hx : image s p.name with
    | some x => exact hb
    | none =>
      intro b h
      rcases bindT_mem h with h | rfl
      · exact hb b h
      · exact ht
  | false =>
    rw [if_neg (by simp)]
    by_cases hc : t.var ∨ p.name ≠ t.name ∨ p.args.length ≠ t.args.length
    · rw [if_pos hc]; exact hb
    · rw [if_neg hc]
      have key : ∀ (l m : List Term) (s : List ABind), (∀ a ∈ l, a ∈ p.args) → (∀ a ∈ m, short a = true) → (∀ b ∈ s, short b.term = true) → ∀ b ∈ (matchTs s l m).1, short b.term = true := by
        intro l
        induction l with
        | nil => intro m s _ _ h2; exact h2
        | cons a l ihl =>
          intro m s hl hm h2
          cases m with
          | nil => exact h2
          | cons b m =>
            have h3 := ih a (hl a (by simp)) s b h2 (hm b (by simp))
            simp only [matchTs]
            split
            · exact ihl m _ (fun x hx => hl x (by simp [hx])) (fun x hx => hm x (by simp [hx])) h3
            · exact h3
      exact key p.args t.args s (fun _ h => h) (short_iff.1 ht).2.2 hb
theorem setT_short : ∀ (p : List Int) (t x : Term), short t = true → short x = true → short (setT t p x) = true
  | [], t, x, _, hx => hx
  | i :: p, t, x, ht, hx => by
    have h := short_iff.1 ht
    refine short_iff.2 ⟨h.1, fun hv => ?_, fun a ha => ?_⟩
    · have h0 : t.args = [] := h.2.1 hv
      rw [setT_args, h0, if_neg (by simp)]
    rw [setT_args] at ha
    split at ha
    · rename_i hi
      rcases List.mem_or_eq_of_mem_set ha with ha | rfl
      · exact h.2.2 a ha
      · exact setT_short p _ x (h.2.2 _ (getD_mem (by omega))) hx
    · exact h.2.2 a ha
theorem sizes_set {l : List Term} {k : Nat} {x : Term} (hk : k < l.length) : sizes (l.set k x) + size (l.getD k default) = sizes l + size x := by
  induction l generalizing k with
  | nil => simp at hk
  | cons a l ih =>
    cases k with
    | zero => simp [sizes]; omega
    | succ k =>
      have := ih (k := k) (by simpa using hk)
      simp only [List.set_cons_succ, sizes, List.getD_cons_succ]
      omega
theorem setT_size : ∀ (p : List Int) (t x : Term), size (setT t p x) ≤ size t + size x
  | [], t, x => by simp only [setT]; omega
  | i :: p, t, x => by
    have h1 := size_args t
    have h2 := size_args (setT t (i :: p) x)
    rw [h2, setT_args]
    split
    · rename_i hi
      have hk : i.toNat < t.args.length := by omega
      have h3 := sizes_set (x := setT (t.args.getD i.toNat default) p x) hk
      have h4 := setT_size p (t.args.getD i.toNat default) x
      omega
    · omega
theorem fits_size {t : Term} (h : fits t = true) : size t ≤ 4000 := by
  simp only [fits, Bool.and_eq_true, decide_eq_true_eq] at h; exact h.1
/-- A term that a step hands on. -/
def good (t : Term) : Prop := short t = true ∧ size t ≤ 4000
theorem good_tb {t : Term} (h : good t) : tb t < 2 ^ 28 := by have := tb_short t h.1; have := h.2; omega
theorem check_good {t : Term} (h : check t = 0) : good t := by
  unfold check at h
  split at h
  · rename_i h1
    split at h
    · rename_i h2; exact ⟨formed_short t h1, fits_size h2⟩
    · omega
  · omega
theorem doE_good {r : List ARule} {t u : Term} {s : AStep} {e : Int} (hr : ∀ x ∈ r, short x.right = true) (ht : short t = true) (h : doE r t s = (some u, e)) : good u ∧ e = 0 := by
  unfold doE at h
  split at h
  · cases h
  · rename_i h1
    have h1 : (findE r t s).2 = 0 := by simpa using h1
    obtain ⟨k1, k2, _, _⟩ := findE_ok h1
    split at h
    · split at h
      · rename_i hf
        simp only [Prod.mk.injEq, Option.some.injEq] at h
        obtain ⟨rfl, rfl⟩ := h
        refine ⟨⟨setT_short _ _ _ ht (inst_short ?_ _ (hr _ (getD_mem k2))), fits_size hf⟩, rfl⟩
        intro b hb
        unfold findE at hb
        split at hb
        · cases hb
        · split at hb
          · cases hb
          · rename_i x hx
            split at hb
            · exact matchT_short _ _ _ (by simp) (subT_short _ _ _ hx ht) b hb
            · cases hb
      · cases h
    · cases h
def addE (pre : List Term) (x : List Term × Int) : List Term × Int := if x.2 = 0 then (pre ++ x.1, 0) else ([], x.2)
theorem addE_addE (a b : List Term) (x : List Term × Int) : addE a (addE b x) = addE (a ++ b) x := by
  unfold addE
  by_cases h : x.2 = 0
  · simp [h]
  · simp [h]
/-- The terms of a derivation after t, or the error. -/
def runE (r : List ARule) (t : Term) : List AStep → List Term × Int
  | [] => ([], 0)
  | s :: l => match doE r t s with
    | (some u, _) => addE [u] (runE r u l)
    | (none, e) => ([], e)
theorem runE_none {r : List ARule} {t : Term} {s : AStep} {l : List AStep} {e : Int} (h : doE r t s = (none, e)) : runE r t (s :: l) = ([], e) := by simp only [runE]; rw [h]
theorem runE_some {r : List ARule} {t u : Term} {s : AStep} {l : List AStep} {e : Int} (h : doE r t s = (some u, e)) : runE r t (s :: l) = addE [u] (runE r u l) := by simp only [runE]; rw [h]
def chainE (r : List ARule) (c : AChain) : List Term × Int :=
  if 4096 < c.steps.length then ([], 3) else if check c.start ≠ 0 then ([], check c.start) else addE [c.start] (runE r c.start c.steps)
def termsE (r : List ARule) (c : AChain) : List Term × Int := if checkSystem r ≠ 0 then ([], checkSystem r) else chainE r c
end Go.Dw
end
