/-
  The reference finds; a loop that is found is one; the law as a whole.
-/
import Derived.Test.YtokdinonifchaaaGreatFc
section
set_option linter.unusedVariables false
set_option linter.unusedSimpArgs false
set_option maxRecDepth 100000
namespace Go.Dw
theorem backP_fuel {g : AGraph} (htr : Tree g) : ∀ (m c n : Nat), c ≤ m → c ≤ n → c < g.terms.length → backP g n c = backP g c c
  | 0, c, n, hm, _, _ => by
    obtain rfl : c = 0 := by omega
    cases n <;> simp [backP]
  | m + 1, c, n, hm, hn, hl => by
    cases c with
    | zero => cases n <;> simp [backP]
    | succ c =>
      obtain ⟨n, rfl⟩ : ∃ n', n = n' + 1 := ⟨n - 1, by omega⟩
      obtain ⟨k, h1, h2, h3⟩ := htr (c + 1) (by omega) hl
      have hp : ¬ ((c + 1 : Nat) : Int) ≤ 0 := by omega
      simp only [backP, if_neg hp, h1]
      generalize (g.edges.getD k default) = ed at h2 h3
      obtain ⟨d, hd⟩ : ∃ d : Nat, ed.src = d := ⟨ed.src.toNat, by omega⟩
      rw [hd, backP_fuel htr m d n (by omega) (by omega) (by omega), backP_fuel htr m d c (by omega) (by omega) (by omega)]
theorem pathG_zero (g : AGraph) : pathG g 0 = [] := rfl
theorem pathG_step {g : AGraph} (htr : Tree g) {a k d : Nat} (ha : 0 < a) (hl : a < g.terms.length) (hk : idxD a g.edges = some k) (hd : (g.edges.getD k default).src = d) (hda : d < a) : pathG g a = pathG g d ++ [(g.edges.getD k default).step] := by
  obtain ⟨b, rfl⟩ : ∃ b, a = b + 1 := ⟨a - 1, by omega⟩
  have hp : ¬ ((b + 1 : Nat) : Int) ≤ 0 := by omega
  unfold pathG
  simp only [backP, if_neg hp, hk, List.reverse_cons]
  rw [hd, backP_fuel htr b d b (by omega) (by omega) (by omega)]
theorem r05_Path_s (g : AGraph) (htr : Tree g) (hgl : g.terms.length ≤ 4096) (hel : g.edges.length < 2 ^ 40) : ∀ (n a : Nat), a ≤ n → a < g.terms.length →
    Spec prog n_r05_Path [encG g, .int .i64 a] [] fun x H' => x = ownL cSt 0 2 (pathG g a) ∧ H' = [.arr t_Step 2 (pathG g a).length] := by
  have zero : Spec prog n_r05_Path [encG g, .int .i64 (0 : Nat)] [] fun x H' => x = ownL cSt 0 2 (pathG g 0) ∧ H' = [.arr t_Step 2 (pathG g 0).length] := by
    refine spec_of_run mixed r05_Path.ok rfl ?_
    push_cast
    exact ends_one 1 (x := .own 1 2 []) (o := .arr t_Step 2 0) rfl rfl ⟨rfl, rfl⟩
  intro n
  induction n with
  | zero =>
    intro a ha hl
    obtain rfl : a = 0 := by omega
    exact zero
  | succ n ih =>
    intro a ha hl
    by_cases h0 : a = 0
    · subst h0; exact zero
    · refine spec_of_run mixed r05_Path.ok rfl ?_
      have h0i : ((a : Int) = 0) = False := eq_false (by omega)
      push_cast [h0i]
      refine loop_up (n := g.edges.length) (R := fun k => (∀ e ∈ g.edges.take k, e.dst ≠ a) → r05_Path.L3 (.int .i64 a) (.ro (cG g) 0) (encEds g.edges) (.int .i64 g.edges.length) (.int .i64 k) 0 [.arr t_Step 2 0] (Ends 0 r05_Path.rs fun x H => x = ownL cSt 0 2 (pathG g a) ∧ H = [.arr t_Step 2 (pathG g a).length])) ?_ ?_ 0 (Nat.zero_le _) (by simp)
      · intro k hk ih2 hn
        have htk : g.edges.take (k + 1) = g.edges.take k ++ [g.edges.getD k default] := by rw [List.take_succ_eq_append_getElem hk]; simp [List.getD_eq_getElem?_getD, hk]
        have hix := idxD_app a g.edges k hn
        rw [drop_getD hk] at hix
        refine r05_Path.G3 ?_
        by_cases he : (g.edges.getD k default).dst = a
        · simp only [idxD, if_pos he, Option.map_some, Nat.zero_add] at hix
          obtain ⟨k', e1, e2, e3⟩ := htr a (by omega) hl
          obtain rfl : k = k' := by rw [hix] at e1; simpa using e1
          obtain ⟨d, hd⟩ : ∃ d : Nat, (g.edges.getD k default).src = d := ⟨(g.edges.getD k default).src.toNat, by omega⟩
          have hda : d < a := by omega
          have hps := pathG_step htr (by omega) hl hix hd hda
          have hpl := pathG_len g d
          have hC := ih d (by omega) (by omega)
          generalize hee : g.edges.getD k default = e at he hd hps
          push_cast [ilt hk, hee, eq_true he, hd]
          rw [hps]
          generalize pathG g d = P at hC hpl ⊢
          have hC' : Spec prog n_r05_Path (rens (fun _ => none) [encG g, .int .i64 d]) [] fun x H' => x = ownL cSt 0 2 P ∧ H' = [.arr t_Step 2 P.length] := hC
          refine ⟨callG_new (x := ownL cSt 0 2 P) (H1 := [.arr t_Step 2 P.length]) hC' ?_, callG_new (x := ownL cSt 0 2 P) (H1 := [.arr t_Step 2 P.length]) hC' ?_, callG_new (x := ownL cSt 0 2 P) (H1 := [.arr t_Step 2 P.length]) hC' ?_⟩ <;>
          · push_cast [own_stp]
            refine ⟨by unfold maxEls; omega, ?_⟩
            exact ends_one 2 (x := ownL cSt 2 2 (P ++ [e.step])) (o := .arr t_Step 2 (P.length + 1)) rfl rfl ⟨rfl, rfl⟩
        · generalize hee : g.edges.getD k default = e at he htk
          push_cast [ilt hk, hee, eq_false he, w64 (show k < 2 ^ 62 by omega)]
          push_cast at ih2
          refine ih2 ?_
          rw [htk]
          intro y hy
          rcases List.mem_append.1 hy with hy | hy
          · exact hn y hy
          · rw [List.mem_singleton.1 hy]; exact he
      · intro hn
        obtain ⟨k', e1, _⟩ := htr a (by omega) hl
        have hix := idxD_app a g.edges g.edges.length hn
        simp only [List.drop_length, idxD, Option.map_none] at hix
        rw [hix] at e1; cases e1
/-- The pairs of a term's places and subterms. -/
theorem instF_take (p : Term) : ∀ (l : List (List Int × Term)) (k : Nat), (∀ x ∈ l.take k, (matchT [] p x.2).2 = false) → instF p l = instF p (l.drop k)
  | [], k, _ => by simp
  | x :: l, 0, _ => by simp
  | x :: l, k + 1, h => by
    have h1 := h x (by simp)
    simp only [instF, h1, Bool.false_eq_true, if_false, List.drop_succ_cons]
    exact instF_take p l k fun y hy => h y (by simp [hy])
theorem r14_instance_s (p t : Term) (hp : tb p < 2 ^ 37) (ht : tb t < 2 ^ 37) : PF n_r14_instance [encT p, encT t] (instV (instF p (visit t []))) := by
  have hst := size_le_tb t
  have hpl := posT_len t
  have hvl : (visit t []).length = size t := visit_len t []
  refine pf_of r14_instance.ok rfl ?_
  push_cast
  refine .of (r01_Positions_s t (by omega)) ?_
  push_cast
  refine loop_up (n := (posT t).length) (R := fun k => (∀ x ∈ (visit t []).take k, (matchT [] p x.2).2 = false) → r14_instance.L3 (.ro (cT p) 0) (.ro (cT t) 0) (encPs (posT t)) (.int .i64 (posT t).length) (.int .i64 k) 0 [] (Ends 0 r14_instance.rs fun x H => x = instV (instF p (visit t [])) ∧ H = [])) ?_ ?_ 0 (Nat.zero_le _) (by simp)
  · intro k hk ih hn
    have hkv : k < (visit t []).length := by omega
    obtain ⟨hv1, hv2⟩ := visit_get t hk
    have hix := instF_take p (visit t []) k hn
    have htk : (visit t []).take (k + 1) = (visit t []).take k ++ [(visit t []).getD k default] := by rw [List.take_succ_eq_append_getElem hkv]; simp [List.getD_eq_getElem?_getD, hkv]
    have hps := posT_short t _ (getD_mem hk)
    rw [drop_getD hkv] at hix
    refine r14_instance.G3 ?_
    generalize hx : (visit t []).getD k default = x at hv1 hv2 htk hix
    generalize hq : (posT t).getD k default = q at hv1 hv2 hps
    have hM := matchR_T p [] x.2
    push_cast [ilt hk, hq]
    refine .of (r01_At_s t q (by omega) (by omega)) ?_
    rw [hv1]
    push_cast [encOT]
    refine .of (r03_Match_s p x.2 hp (by have := subT_tb _ _ _ hv1; omega)) ?_
    rw [hM.1]
    cases hb : (matchT [] p x.2).2 with
    | true =>
      rw [hM.2 hb]
      simp only [instF, hb, if_true] at hix
      rw [hix]
      push_cast
      exact pf_ret (by push_cast [r14_instance.rs, instV, hv2])
    | false =>
      push_cast [w64 (show k < 2 ^ 62 by omega)]
      push_cast at ih
      refine ih ?_
      rw [htk]
      intro y hy
      rcases List.mem_append.1 hy with hy | hy
      · exact hn y hy
      · rw [List.mem_singleton.1 hy]; exact hb
  · intro hn
    have hix := instF_take p (visit t []) (posT t).length hn
    rw [List.drop_eq_nil_of_le (by omega)] at hix
    refine r14_instance.G3 ?_
    push_cast [inlt (Nat.le_refl _)]
    rw [hix]
    exact pf_ret (by push_cast [r14_instance.rs, instF, instV]; exact ⟨rfl, rfl⟩)
end Go.Dw
end
section
set_option linter.unusedVariables false
set_option linter.unusedSimpArgs false
set_option maxRecDepth 100000
namespace Go.Dw
theorem checkSystem_nv {r : List ARule} (h : checkSystem r = 0) : ∀ x ∈ r, x.left.var = false := by
  unfold checkSystem at h
  split at h
  · rename_i h1; exact absurd h h1
  · split at h
    · cases h
    · split at h
      · cases h
      · split at h
        · cases h
        · rename_i h3
          intro x hx
          have h4 : extra x = false := by
            cases he : extra x with
            | false => rfl
            | true => exact absurd (List.any_eq_true.2 ⟨x, hx, he⟩) h3
          unfold extra at h4
          simp only [Bool.or_eq_false_iff] at h4
          exact h4.1
theorem r14_Find_s (r : List ARule) (t : Term) (most : Nat) (hr : rbs r < 2 ^ 28) (hc1 : checkSystem r = 0) (hc2 : check t = 0) (hm1 : 1 ≤ most) (hm2 : most ≤ 4096) : PF n_r14_Find [encRs r, encT t, .int .i64 most] (encF (findL r t most)) := by
  have hEE : ExploreE r t most = exploreE r t most := by
    have hb : bothE r t = 0 := by unfold bothE; rw [if_neg (by simpa using hc1)]; exact hc2
    unfold ExploreE
    rw [if_neg (by simpa using hb), if_neg (by omega)]; rfl
  refine pf_of r14_Find.ok rfl ?_
  push_cast
  refine .of (r05_Explore_s r t most hr (checkSystem_len hc1) (checkSystem_sides hc1) (checkSystem_nv hc1) hc2 hm1 hm2) ?_
  unfold findL
  rw [hEE]
  have hgt := check_good hc2
  have htb := good_tb hgt
  by_cases h : (exploreE r t most).2 = 0
  · obtain ⟨hX, hel⟩ := exploreE_inv (checkSystem_len hc1) (checkSystem_sides hc1) hc2 hm1 h
    rw [if_neg (by simpa using h)]
    push_cast [h]
    generalize (exploreE r t most).1 = g at hX hel ⊢
    refine loop_up (n := g.edges.length) (R := fun k => firstL t g (g.edges.drop k) = firstL t g g.edges → r14_Find.L3 (.ro (cT t) 0) (.ptr 0 0) (.ro (cG g) 0) (encEds g.edges) (.int .i64 g.edges.length) (.int .i64 k) 0 [Ob.cells t_Loop [V.str [], V.bool false, V.sl 3 [], V.sl 2 [], V.sl 1 [], V.sl 4 []], Ob.dead] (Ends 0 r14_Find.rs fun x' H' => x' = encF (firstL t g g.edges) ∧ H' = [])) ?_ ?_ 0 (Nat.zero_le _) rfl
    · intro k hk ih hq
      rw [drop_getD hk] at hq
      have hm := getD_mem hk
      generalize hee : g.edges.getD k default = e at hm hq
      obtain ⟨a, b, x, y, h1, h2, h3, h4, h5, h6⟩ := hX.edges e hm
      have hal := (List.getElem?_eq_some_iff.1 h3).1
      have hbl := (List.getElem?_eq_some_iff.1 h4).1
      have hyc := hX.ok.check y (List.mem_of_getElem? h4)
      have hgy := good_tb (check_good hyc)
      have hyd : g.terms.getD b default = y := by simp [List.getD_eq_getElem?_getD, h4]
      have hbi : ((b : Int) < (g.terms.length : Int)) = True := eq_true (by omega)
      have hln := hX.ok.len
      refine r14_Find.G3 ?_
      push_cast [ilt hk, hee, h2, hbi, hyd]
      refine .of (r14_instance_s t y (by omega) (by omega)) ?_
      simp only [firstL, h1, h2, Int.toNat_natCast, hyd] at hq
      cases hi : instF t (visit y []) with
      | none =>
        rw [hi] at hq
        push_cast [instV, w64 (show k < 2 ^ 62 by omega)]
        have := ih hq
        push_cast at this
        exact this
      | some q =>
        rw [hi] at hq
        have hpl := pathG_len g a
        have hC := r05_Path_s g hX.tree (by omega) (by omega) a a (Nat.le_refl _) hal
        simp only at hq
        generalize hP : pathG g a = P at hpl hC hq
        have hC' : Spec prog n_r05_Path (rens (fun _ => none) [encG g, .int .i64 a]) [] fun x H' => x = ownL cSt 0 2 P ∧ H' = [.arr t_Step 2 P.length] := hC
        push_cast [instV, h1]
        have hp6 : (P.map cSt ++ [cSt e.step]) = (P ++ [e.step]).map cSt := by rw [List.map_append]; rfl
        have hp7 : ∀ x, put 0 (cT t ++ [x]) [V.str [], V.bool false, V.sl 3 [], V.sl 2 [], V.sl 1 [], V.sl 4 []] = cT t ++ [x, V.sl 1 [], V.sl 4 []] := fun _ => rfl
        have hp8 : ∀ x y, put 4 [y] (cT t ++ [x, V.sl 1 [], V.sl 4 []]) = cT t ++ [x, y, V.sl 4 []] := fun _ _ => rfl
        have hp9 : ∀ x y z, put 5 [z] (cT t ++ [x, y, V.sl 4 []]) = cT t ++ [x, y, z] := fun _ _ _ => rfl
        have hpl6 : ∀ x y z : V, (cT t ++ [x, y, z]).length = 6 := fun _ _ _ => rfl
        have hpa : ∀ x y z, put 0 (cT t ++ [x, y, z]) [V.str [], V.bool false, V.sl 3 [], V.sl 2 [], V.sl 1 [], V.sl 4 []] = cT t ++ [x, y, z] := fun _ _ _ => rfl
        have hPl : (P.map cSt).length = P.length := by simp
        repeat' apply And.intro
        all_goals
          refine callG_new (x := ownL cSt 0 2 P) (H1 := [.arr t_Step 2 P.length]) hC' ?_
          push_cast [own_stp, hp7, hp8, hp9, hpl6, hpa, hPl]
          refine ⟨by unfold maxEls; omega, by unfold maxEls; omega, ?_⟩
          rw [← hq]
          exact pf_ret (by push_cast [r14_Find.rs, encF]; rfl)
    · intro hq
      rw [drop_map_none] at hq
      refine r14_Find.G3 ?_
      push_cast [inlt (Nat.le_refl _)]
      rw [← hq]
      exact pf_ret (by push_cast [r14_Find.rs, encF, firstL]; rfl)
  · rw [if_pos (by simpa using h)]
    push_cast [h]
    exact pf_ret (by push_cast [r14_Find.rs, encF]; rfl)
end Go.Dw
end
section
set_option linter.unusedVariables false
set_option linter.unusedSimpArgs false
set_option maxRecDepth 100000
namespace Go.Dw
theorem r01_SameSubst_s (l : List ABind) (hs : bbs l < 2 ^ 60) : PF n_r01_SameSubst [encBs l, encBs l] (.bool true) := by
  have hl := length_le_bbs l
  refine pf_of r01_SameSubst.ok rfl ?_
  push_cast
  refine loop_up (n := l.length) (R := fun k => r01_SameSubst.L3 (encBs l) (encBs l) (.int .i64 l.length) (.int .i64 k) 0 [] (Ends 0 r01_SameSubst.rs fun x H => x = .bool true ∧ H = [])) ?_ ?_ 0 (Nat.zero_le _)
  · intro k hk ih
    have hm := bbs_mem (getD_mem hk)
    refine r01_SameSubst.G3 ?_
    generalize hx : l.getD k default = b at hm
    push_cast [ilt hk, hx]
    refine .of (r01_Equal_s b.term b.term (by omega) (by omega)) ?_
    push_cast [w64 (show k < 2 ^ 62 by omega)]
    push_cast at ih
    exact ih
  · refine r01_SameSubst.G3 ?_
    push_cast [inlt (Nat.le_refl _)]
    exact pf_ret (by push_cast [r01_SameSubst.rs])
theorem r14_Same_s (l : ALoop) (hc : tb l.chain.start < 2 ^ 60) (hl : l.chain.steps.length < 2 ^ 60) (hp : ∀ s ∈ l.chain.steps, s.pos.length < 2 ^ 60) (hpos : l.pos.length < 2 ^ 60) (hs : bbs l.subst < 2 ^ 60) : PF n_r14_Same [encLo l, encLo l] (.bool true) := by
  refine pf_of r14_Same.ok rfl ?_
  push_cast
  refine .of (r01_Equal_s _ _ (by omega) (by omega)) ?_
  push_cast
  refine .of (r01_SamePos_s _ (by omega)) ?_
  push_cast
  refine .of (r01_SameSubst_s _ hs) ?_
  push_cast
  refine loop_up (n := l.chain.steps.length) (R := fun k => r14_Same.L3 (.ro (cL l) 0) (encSts l.chain.steps) (.int .i64 l.chain.steps.length) (.int .i64 k) 0 [] (Ends 0 r14_Same.rs fun x H => x = .bool true ∧ H = [])) ?_ ?_ 0 (Nat.zero_le _)
  · intro k hk ih
    have hm := hp _ (getD_mem hk)
    refine r14_Same.G3 ?_
    generalize hx : l.chain.steps.getD k default = s at hm
    push_cast [ilt hk, hx]
    refine .of (r01_SamePos_s _ (by omega)) ?_
    push_cast [w64 (show k < 2 ^ 62 by omega)]
    push_cast at ih
    exact ih
  · refine r14_Same.G3 ?_
    push_cast [inlt (Nat.le_refl _)]
    exact pf_ret (by push_cast [r14_Same.rs])
theorem r04_Check_s (r : List ARule) (t : Term) (hr : rbs r < 2 ^ 38) (ht : tb t < 2 ^ 38) : PF n_r04_Check [encRs r, encT t] (.int .i64 (bothE r t)) := by
  refine pf_of r04_Check.ok rfl ?_
  unfold bothE
  push_cast
  refine .of (r01_CheckSystem_s r hr) ?_
  by_cases h : checkSystem r = 0
  · rw [if_neg (by simpa using h)]
    push_cast [h]
    refine .of (r01_Check_s t (by omega)) ?_
    push_cast
    exact pf_ret (by push_cast [r04_Check.rs])
  · rw [if_pos (by simpa using h)]
    push_cast [h]
    exact pf_ret (by push_cast [r04_Check.rs])
end Go.Dw
end
section
set_option linter.unusedVariables false
set_option linter.unusedSimpArgs false
namespace Go.Dw
theorem image_append (a b : List ABind) (n : Str) : image (a ++ b) n = match image a n with | some x => some x | none => image b n := by
  induction a with
  | nil => rfl
  | cons x a ih =>
    simp only [List.cons_append, image]
    split
    · rfl
    · exact ih
theorem image_bindT {s : List ABind} {v : Str} {t : Term} (h : image s v = none) (n : Str) : image (bindT s v t) n = if v = n then some t else image s n := by
  unfold bindT
  have h0 := image_append (s.take (lbd v s)) (s.drop (lbd v s)) n
  rw [List.take_append_drop] at h0
  rw [image_append]
  by_cases hv : v = n
  · subst hv
    rw [h] at h0
    rw [if_pos rfl]
    cases ha : image (s.take (lbd v s)) v with
    | some x => rw [ha] at h0; cases h0
    | none => simp only [image, if_true]
  · rw [if_neg hv, h0]
    cases image (s.take (lbd v s)) n with
    | some x => rfl
    | none => simp only [image, if_neg hv]
def ExtB (a b : List ABind) : Prop := ∀ n x, image a n = some x → image b n = some x
theorem ExtB.refl (a : List ABind) : ExtB a a := fun _ _ h => h
theorem ExtB.trans {a b c : List ABind} (h : ExtB a b) (h2 : ExtB b c) : ExtB a c := fun n x hx => h2 n x (h n x hx)
theorem ext_bindT {s : List ABind} {v : Str} {t : Term} (h : image s v = none) : ExtB s (bindT s v t) := fun n x hx => by
  rw [image_bindT h]
  split
  · rename_i e; subst e; rw [h] at hx; cases hx
  · exact hx
theorem term_mk (t : Term) : t = .mk t.name t.var t.args := by cases t; rfl
/-- A match's substitution yields the subject. -/
theorem matchT_sound (p : Term) : ∀ (s : List ABind) (t : Term), (matchT s p t).2 = true → ExtB s (matchT s p t).1 ∧ ∀ s2, ExtB (matchT s p t).1 s2 → inst s2 p = t := by
  induction p using term_ind with
  | h p ih =>
  intro s t
  rw [matchT_eq]
  cases hv : p.var with
  | true =>
    rw [if_pos rfl]
    cases hx : image s p.name with
    | some x =>
      intro h
      have h : x = t := by simpa using h
      subst h
      refine ⟨.refl s, fun s2 h2 => ?_⟩
      rw [inst_eq, hv, if_pos rfl, h2 _ _ hx]; rfl
    | none =>
      intro _
      refine ⟨ext_bindT hx, fun s2 h2 => ?_⟩
      rw [inst_eq, hv, if_pos rfl, h2 p.name t (by rw [image_bindT hx, if_pos rfl])]; rfl
  | false =>
    rw [if_neg (by simp)]
    by_cases hc : t.var ∨ p.name ≠ t.name ∨ p.args.length ≠ t.args.length
    · rw [if_pos hc]; intro h; cases h
    · rw [if_neg hc]
      simp only [not_or, Classical.not_not] at hc
      have key : ∀ (l m : List Term) (s : List ABind), (∀ a ∈ l, a ∈ p.args) → l.length = m.length → (matchTs s l m).2 = true → ExtB s (matchTs s l m).1 ∧ ∀ s2, ExtB (matchTs s l m).1 s2 → l.map (inst s2) = m := by
        intro l
        induction l with
        | nil =>
          intro m s _ hl _
          cases m with
          | nil => exact ⟨.refl s, fun _ _ => rfl⟩
          | cons b m => cases hl
        | cons a l ihl =>
          intro m s hm hl h
          cases m with
          | nil => cases hl
          | cons b m =>
            simp only [matchTs] at h ⊢
            by_cases hab : (matchT s a b).2 = true
            · rw [if_pos hab] at h ⊢
              obtain ⟨h1, h2⟩ := ih a (hm a (by simp)) s b hab
              obtain ⟨h3, h4⟩ := ihl m _ (fun x hx => hm x (by simp [hx])) (by simpa using hl) h
              refine ⟨h1.trans h3, fun s2 hs2 => ?_⟩
              rw [List.map_cons, h2 s2 (h3.trans hs2), h4 s2 hs2]
            · rw [if_neg hab] at h; cases h
      intro h
      obtain ⟨h1, h2⟩ := key p.args t.args s (fun _ h => h) hc.2.2 h
      refine ⟨h1, fun s2 hs2 => ?_⟩
      rw [inst_eq, hv, if_neg (by simp), h2 s2 hs2, hc.2.1]
      rw [term_mk t]
      have : t.var = false := by simpa using hc.1
      simp only [Term.name, Term.args, this]
theorem match_inst {p t : Term} (h : (matchT [] p t).2 = true) : inst (matchT [] p t).1 p = t := (matchT_sound p [] t h).2 _ (.refl _)
/-! the substitution of a match is valid -/
theorem depths_mem {l : List Term} {a : Term} (h : a ∈ l) : depth a ≤ depths l := by
  induction l with
  | nil => cases h
  | cons x l ih =>
    simp only [depths]
    rcases List.mem_cons.1 h with rfl | h
    · omega
    · have := ih h; omega
theorem check_args {t : Term} (h : check t = 0) : ∀ a ∈ t.args, check a = 0 := by
  intro a ha
  have h1 := check_iff.1 h
  refine check_iff.2 ⟨(formed_iff.1 h1.1).2 a ha, ?_⟩
  have h2 := h1.2
  simp only [fits, Bool.and_eq_true, decide_eq_true_eq] at h2 ⊢
  have := size_args t
  have := size_mem ha
  have := depth_args t
  have := depths_mem ha
  omega
theorem subT_check : ∀ (p : List Int) (t x : Term), subT t p = some x → check t = 0 → check x = 0
  | [], t, x, h, ht => by cases h; exact ht
  | i :: p, t, x, h, ht => by
    simp only [subT] at h
    split at h
    · rename_i hi
      exact subT_check p _ x h (check_args ht _ (getD_mem (by omega)))
    · cases h
/-- A valid binding. -/
def bindOk (b : ABind) : Prop := isName b.name false = true ∧ check b.term = 0
theorem matchT_binds (p : Term) : ∀ (s : List ABind) (t : Term), formed p = true → (∀ b ∈ s, bindOk b) → check t = 0 → ∀ b ∈ (matchT s p t).1, bindOk b := by
  induction p using term_ind with
  | h p ih =>
  intro s t hp hb ht
  have hpf := formed_iff.1 hp
  rw [matchT_eq]
  cases hv : p.var with
  | true =>
    rw [if_pos rfl]
    cases hx : image s p.name with
    | some x => exact hb
    | none =>
      intro b h
      rcases bindT_mem h with h | rfl
      · exact hb b h
      · refine ⟨?_, ht⟩
        have h1 := hpf.1
        rw [hv] at h1
        simp only [nodeOk, if_true, Bool.and_eq_true] at h1
        exact h1.2
  | false =>
    rw [if_neg (by simp)]
    by_cases hc : t.var ∨ p.name ≠ t.name ∨ p.args.length ≠ t.args.length
    · rw [if_pos hc]; exact hb
    · rw [if_neg hc]
      have key : ∀ (l m : List Term) (s : List ABind), (∀ a ∈ l, a ∈ p.args) → (∀ a ∈ m, check a = 0) → (∀ b ∈ s, bindOk b) → ∀ b ∈ (matchTs s l m).1, bindOk b := by
        intro l
        induction l with
        | nil => intro m s _ _ h2; exact h2
        | cons a l ihl =>
          intro m s hl hm h2
          cases m with
          | nil => exact h2
          | cons b m =>
            have h3 := ih a (hl a (by simp)) s b (hpf.2 a (hl a (by simp))) h2 (hm b (by simp))
            simp only [matchTs]
            split
            · exact ihl m _ (fun x hx => hl x (by simp [hx])) (fun x hx => hm x (by simp [hx])) h3
            · exact h3
      exact key p.args t.args s (fun _ h => h) (check_args ht) hb
theorem namesOk_of : ∀ {s : List ABind} {q : Option Str}, Sorted s → (∀ b ∈ s, isName b.name false = true) → (∀ p, q = some p → ∀ b ∈ s, p < b.name) → namesOk q s = true
  | [], _, _, _, _ => rfl
  | b :: s, q, hs, hn, hq => by
    have h1 := List.pairwise_cons.1 hs
    simp only [namesOk, Bool.and_eq_true]
    refine ⟨⟨hn b (by simp), ?_⟩, namesOk_of h1.2 (fun c hc => hn c (by simp [hc])) fun p hp c hc => by cases hp; exact h1.1 c hc⟩
    cases q with
    | none => rfl
    | some p => exact decide_eq_true (hq p rfl b (by simp))
theorem checks_of : ∀ {l : List Term}, (∀ a ∈ l, check a = 0) → checks l = 0
  | [], _ => rfl
  | a :: l, h => by
    simp only [checks]
    rw [if_neg (by simpa using h a (by simp))]
    exact checks_of fun b hb => h b (by simp [hb])
theorem match_subst {p t : Term} (hp : formed p = true) (ht : check t = 0) : checkSubst (matchT [] p t).1 = 0 := by
  have hs := (matchT_ok (M := size t + 1) p [] t List.Pairwise.nil (by simp) (by omega)).sorted
  have hb := matchT_binds p [] t hp (by simp) ht
  unfold checkSubst
  rw [namesOk_of hs (fun b h => (hb b h).1) (fun p hp => by cases hp), if_pos rfl]
  refine checks_of fun a ha => ?_
  obtain ⟨b, h1, rfl⟩ := List.mem_map.1 ha
  exact (hb b h1).2
/-! the path -/
theorem runE_snoc {r : List ARule} {s : AStep} {v : Term} : ∀ (l : List AStep) (t : Term) (ts : List Term), runE r t l = (ts, 0) → doE r (lastT (t :: ts)) s = (some v, 0) → runE r t (l ++ [s]) = (ts ++ [v], 0)
  | [], t, ts, h, hd => by
    simp only [runE, Prod.mk.injEq] at h
    obtain ⟨rfl, _⟩ := h
    have hd : doE r t s = (some v, 0) := hd
    rw [List.nil_append, runE_some hd]; rfl
  | x :: l, t, ts, h, hd => by
    cases hx : doE r t x with
    | mk o e =>
    cases o with
    | none =>
      rw [runE_none hx] at h
      have := doE_none hx
      simp only [Prod.mk.injEq] at h
      exact absurd h.2 this
    | some u =>
      rw [runE_some hx] at h
      unfold addE at h
      by_cases h2 : (runE r u l).2 = 0
      · rw [if_pos h2] at h
        simp only [Prod.mk.injEq, and_true] at h
        have h3 : runE r u l = ((runE r u l).1, 0) := by rw [← h2]
        have hl : lastT (t :: ts) = lastT (u :: (runE r u l).1) := by
          rw [← h]
          simp [lastT, List.getD_eq_getElem?_getD]
        rw [hl] at hd
        have h4 := runE_snoc l u _ h3 hd
        rw [List.cons_append, runE_some hx, h4, ← h]
        rfl
      · rw [if_neg h2] at h
        simp only [Prod.mk.injEq] at h
        exact absurd h.2 h2
theorem lastT_snoc (l : List Term) (v : Term) : lastT (l ++ [v]) = v := by simp [lastT, List.getD_eq_getElem?_getD]
theorem path_run {r : List ARule} {t : Term} {most : Nat} {g : AGraph} (h : XInv r t most g) : ∀ (n a : Nat) (x : Term), a ≤ n → g.terms[a]? = some x → ∃ ts, runE r t (pathG g a) = (ts, 0) ∧ lastT (t :: ts) = x := by
  intro n
  induction n with
  | zero =>
    intro a x ha hx
    obtain rfl : a = 0 := by omega
    rw [h.first] at hx
    cases hx
    exact ⟨[], rfl, rfl⟩
  | succ n ih =>
    intro a x ha hx
    by_cases h0 : a = 0
    · subst h0
      rw [h.first] at hx
      cases hx
      exact ⟨[], rfl, rfl⟩
    · have hal := (List.getElem?_eq_some_iff.1 hx).1
      obtain ⟨k, e1, e2, e3⟩ := h.tree a (by omega) hal
      have hkl := idxD_lt e1
      have hmem := getD_mem hkl
      have hdst : (g.edges.getD k default).dst = a := by
        have : ∀ (l : List AEdge) (k : Nat), idxD a l = some k → (l.getD k default).dst = a := by
          intro l
          induction l with
          | nil => intro k hk; cases hk
          | cons y l ihl =>
            intro k hk
            simp only [idxD] at hk
            split at hk
            · rename_i hy; cases hk; simpa using hy
            · cases hi : idxD a l with
              | none => rw [hi] at hk; cases hk
              | some j => rw [hi] at hk; cases hk; simpa using ihl j hi
        exact this _ _ e1
      obtain ⟨c, b, y, z, q1, q2, q3, q4, q5, q6⟩ := h.edges _ hmem
      have hb : b = a := by rw [q2] at hdst; exact_mod_cast hdst
      subst hb
      rw [hx] at q4
      cases q4
      obtain ⟨ts, r1, r2⟩ := ih c y (by omega) q3
      have hstep := pathG_step h.tree (by omega) hal e1 q1 (by omega)
      refine ⟨ts ++ [x], ?_, ?_⟩
      · rw [hstep]
        exact runE_snoc _ _ _ r1 (by rw [r2]; exact q5)
      · rw [← List.cons_append]; exact lastT_snoc _ _
theorem instF_some {p : Term} : ∀ {l : List (List Int × Term)} {q : List Int × List ABind}, instF p l = some q → ∃ x ∈ l, q.1 = x.1 ∧ q.2 = (matchT [] p x.2).1 ∧ (matchT [] p x.2).2 = true
  | [], q, h => by cases h
  | x :: l, q, h => by
    simp only [instF] at h
    split at h
    · rename_i hm; cases h; exact ⟨x, by simp, rfl, rfl, hm⟩
    · obtain ⟨y, h1, h2⟩ := instF_some h
      exact ⟨y, by simp [h1], h2⟩
/-- What a loop that is found is like. -/
theorem firstL_ok {r : List ARule} {t : Term} {most : Nat} {g : AGraph} (hsys : checkSystem r = 0) (htc : check t = 0) (hm : most ≤ 4096) (h : XInv r t most g) : ∀ l : List AEdge, (∀ e ∈ l, e ∈ g.edges) → (firstL t g l).2.1 = true →
    (firstL t g l).2.2 = 0 ∧ loopE r (firstL t g l).1 = 0
  | [], _, hf => by cases hf
  | e :: l, hl, hf => by
    simp only [firstL] at hf ⊢
    cases hi : instF t (visit (g.terms.getD e.dst.toNat default) []) with
    | none =>
      rw [hi] at hf
      simp only at hf ⊢
      exact firstL_ok hsys htc hm h l (fun x hx => hl x (by simp [hx])) hf
    | some q =>
      simp only
      refine ⟨trivial, ?_⟩
      obtain ⟨a, b, x, y, q1, q2, q3, q4, q5, q6⟩ := h.edges e (hl e (by simp))
      have hyd : g.terms.getD e.dst.toNat default = y := by rw [q2]; simp [List.getD_eq_getElem?_getD, q4]
      rw [hyd] at hi
      have hyc := h.ok.check y (List.mem_of_getElem? q4)
      obtain ⟨z, z1, z2, z3, z4⟩ := instF_some hi
      obtain ⟨pos, p1, p2⟩ := visit_at y [] z z1
      have hpos : q.1 = pos := by rw [z2, p1, List.nil_append]
      have hzc := subT_check _ _ _ p2 hyc
      obtain ⟨ts, r1, r2⟩ := path_run h a a x (Nat.le_refl _) q3
      have hrun := runE_snoc _ _ _ r1 (show doE r (lastT (t :: ts)) e.step = (some y, 0) by rw [r2]; exact q5)
      have hlen := pathG_len g a
      have hal := (List.getElem?_eq_some_iff.1 q3).1
      have hml := h.ok.len
      rw [q1, Int.toNat_natCast]
      have hterms : termsE r ⟨t, pathG g a ++ [e.step]⟩ = (t :: (ts ++ [y]), 0) := by
        unfold termsE chainE
        rw [if_neg (by simpa using hsys)]
        simp only
        rw [if_neg (by simp; omega), if_neg (by simpa using htc), hrun]
        rfl
      unfold loopE
      rw [hterms]
      simp only
      rw [if_neg (by simp), if_neg (by simp), show (t :: (ts ++ [y])) = (t :: ts) ++ [y] from rfl, lastT_snoc, hpos, p2]
      have happ : applyE q.2 t = (some z.2, 0) := by
        unfold applyE
        rw [z3, match_subst (check_iff.1 htc).1 hzc, if_neg (by simp), if_neg (by simpa using htc), match_inst z4, if_pos (check_iff.1 hzc).2]
      rw [happ]
      simp
end Go.Dw
end
section
set_option linter.unusedVariables false
set_option linter.unusedSimpArgs false
set_option maxRecDepth 100000
namespace Go.Dw
/-- A loop that Find gives, in size. -/
structure LSmall (l : ALoop) : Prop where
  start : tb l.chain.start < 2 ^ 28
  len : l.chain.steps.length ≤ 4096
  steps : ∀ s ∈ l.chain.steps, s.pos.length ≤ 4000
  pos : l.pos.length ≤ 4000
  subst : bbs l.subst < 2 ^ 28
theorem backP_mem {g : AGraph} : ∀ (n : Nat) (a : Int), ∀ s ∈ backP g n a, ∃ e ∈ g.edges, s = e.step
  | 0, a, s, h => by cases h
  | n + 1, a, s, h => by
    simp only [backP] at h
    split at h
    · cases h
    · split at h
      · cases h
      · rename_i k hk
        rcases List.mem_cons.1 h with rfl | h
        · exact ⟨_, getD_mem (idxD_lt hk), rfl⟩
        · exact backP_mem n _ s h
theorem noLo_small : LSmall noLo := ⟨by decide, by decide, by simp [noLo], by decide, by decide⟩
theorem firstL_small {r : List ARule} {t : Term} {most : Nat} {g : AGraph} (htc : check t = 0) (hm : most ≤ 4096) (h : XInv r t most g) : ∀ l : List AEdge, (∀ e ∈ l, e ∈ g.edges) → LSmall (firstL t g l).1
  | [], _ => noLo_small
  | e :: l, hl => by
    simp only [firstL]
    cases hi : instF t (visit (g.terms.getD e.dst.toNat default) []) with
    | none => exact firstL_small htc hm h l fun x hx => hl x (by simp [hx])
    | some q =>
      simp only
      have hes : ∀ e ∈ g.edges, e.step.pos.length ≤ 4000 := fun e he => by
        obtain ⟨a, b, x, y, q1, q2, q3, q4, q5, q6⟩ := h.edges e he
        have h1 := allE_pos q6
        have h2 := (check_good (h.ok.check x (List.mem_of_getElem? q3))).2
        omega
      obtain ⟨a, b, x, y, q1, q2, q3, q4, q5, q6⟩ := h.edges e (hl e (by simp))
      have hyd : g.terms.getD e.dst.toNat default = y := by rw [q2]; simp [List.getD_eq_getElem?_getD, q4]
      rw [hyd] at hi
      have hyc := h.ok.check y (List.mem_of_getElem? q4)
      have hgy := check_good hyc
      have hgt := check_good htc
      obtain ⟨z, z1, z2, z3, z4⟩ := instF_some hi
      obtain ⟨pos, p1, p2⟩ := visit_at y [] z z1
      have hvs := visit_sub y [] z z1
      have hzb := subT_tb _ _ _ p2
      have h5 := tb_short y hgy.1
      have h6 := tb_short t hgt.1
      have h7 := hgy.2
      have h8 := hgt.2
      have hlen := pathG_len g a
      have hal := (List.getElem?_eq_some_iff.1 q3).1
      have hml := h.ok.len
      rw [q1, Int.toNat_natCast]
      refine ⟨good_tb hgt, by simp only [List.length_append, List.length_singleton]; omega, fun s hs => ?_, ?_, ?_⟩
      · rcases List.mem_append.1 hs with hs | hs
        · obtain ⟨e2, he2, rfl⟩ := backP_mem _ _ s (by simpa [pathG] using hs)
          exact hes e2 he2
        · rw [List.mem_singleton.1 hs]; exact hes e (hl e (by simp))
      · show q.1.length ≤ 4000
        rw [z2]; simp only [List.length_nil] at hvs; omega
      · show bbs q.2 < 2 ^ 28
        rw [z3]
        have := matchT_bbs t [] z.2
        simp only [bbs] at this
        omega
theorem findL_small {r : List ARule} {t : Term} {most : Int} : LSmall (findL r t most).1 := by
  unfold findL
  split
  · exact noLo_small
  · rename_i h
    have h : (ExploreE r t most).2 = 0 := by simpa using h
    obtain ⟨h1, h2, h3, h4, h5, _⟩ := ExploreE_inv h
    exact firstL_small h2 (by omega) h5 _ fun _ he => he
theorem findL_loop {r : List ARule} {t : Term} {most : Int} (hf : (findL r t most).2.1 = true) : loopE r (findL r t most).1 = 0 := by
  unfold findL at hf ⊢
  split at hf
  · cases hf
  · rename_i h
    rw [if_neg h]
    have h : (ExploreE r t most).2 = 0 := by simpa using h
    obtain ⟨h1, h2, h3, h4, h5, _⟩ := ExploreE_inv h
    exact (firstL_ok h1 h2 (by omega) h5 _ (fun _ he => he) hf).2
theorem findL_bad {r : List ARule} {t : Term} {most : Int} (h : bothE r t ≠ 0) : findL r t most = (noLo, false, bothE r t) := by
  have : ExploreE r t most = (noG, bothE r t) := by unfold ExploreE; rw [if_pos h]
  unfold findL; rw [this, if_pos h]
theorem findL_range {r : List ARule} {t : Term} {most : Int} (h : bothE r t = 0) (h2 : most < 1 ∨ 4096 < most) : findL r t most = (noLo, false, 2) := by
  have : ExploreE r t most = (noG, 2) := by unfold ExploreE; rw [if_neg (by simpa using h), if_pos h2]
  unfold findL; rw [this, if_pos (by decide)]
theorem cL_no : V.agg [.str [], .bool false, .sl 3 [], .sl 2 [], .sl 1 [], .sl 4 []] = encLo noLo := rfl
theorem LoopFinds_s (halive : PF n_l14_alive [] (.bool true)) (r : List ARule) (t : Term) (most : Int) (hr : rbs r < 2 ^ 28) (ht : tb t < 2 ^ 28) (ht1 : -2 ^ 63 ≤ most) (ht2 : most < 2 ^ 63) :
    SpecE prog n_l14_LoopFinds [encRs r, encT t, .int .i64 most] [] (fun x' H' => x' = .bool true ∧ H' = []) := by
  have hsm := findL_small (r := r) (t := t) (most := most)
  have hS := r14_Same_s (findL r t most).1 (by have := hsm.start; omega) (by have := hsm.len; omega) (fun s h => by have := hsm.steps s h; omega) (by have := hsm.pos; omega) (by have := hsm.subst; omega)
  have hC := loop_Check_s r (findL r t most).1 hr hsm.start (by have := hsm.len; omega) (fun s h => by have := hsm.steps s h; omega) (by have := hsm.pos; omega) hsm.subst
  refine spece_of_run mixed l14_LoopFinds.ok rfl ?_
  push_cast
  refine .of (loop_Find_s r t most hr ht) ?_
  push_cast [encF]
  refine .of (r04_Check_s r t (by omega) (by omega)) ?_
  have hput : ∀ l : ALoop, put 0 (cL l) [V.str [], V.bool false, V.sl 3 [], V.sl 2 [], V.sl 1 [], V.sl 4 []] = cL l := fun _ => rfl
  by_cases hb : bothE r t = 0
  · by_cases h1 : most < 1
    · rw [findL_range hb (.inl h1)] at hS hC ⊢
      push_cast [hb, eq_true h1, bne_self_eq_false]
      refine .of (show PF n_r14_Same [encLo noLo, V.agg [.str [], .bool false, .sl 3 [], .sl 2 [], .sl 1 [], .sl 4 []]] _ from hS) ?_
      push_cast
      refine .of halive ?_
      push_cast
      exact pf_ret (by push_cast [l14_LoopFinds.rs])
    · by_cases h2 : 4096 < most
      · rw [findL_range hb (.inr h2)] at hS hC ⊢
        push_cast [hb, eq_false h1, eq_true h2, bne_self_eq_false]
        refine .of (show PF n_r14_Same [encLo noLo, V.agg [.str [], .bool false, .sl 3 [], .sl 2 [], .sl 1 [], .sl 4 []]] _ from hS) ?_
        push_cast
        refine .of halive ?_
        push_cast
        exact pf_ret (by push_cast [l14_LoopFinds.rs])
      · obtain ⟨n, rfl⟩ : ∃ n : Nat, most = n := ⟨most.toNat, by omega⟩
        have hc : checkSystem r = 0 ∧ check t = 0 := by
          unfold bothE at hb
          split at hb
          · rename_i h3; exact absurd hb h3
          · rename_i h3; exact ⟨by simpa using h3, hb⟩
        have hF := r14_Find_s r t n hr hc.1 hc.2 (by omega) (by omega)
        have hloop := findL_loop (r := r) (t := t) (most := n)
        generalize findL r t n = f at hS hC hF hloop hsm ⊢
        obtain ⟨l, ok, e⟩ := f
        simp only at hS hC hF hloop
        push_cast [hb, eq_false h1, eq_false h2]
        refine .of hF ?_
        push_cast [encF, hput, bne_self_eq_false]
        refine .of hS ?_
        cases ok with
        | false =>
          push_cast
          refine .of halive ?_
          push_cast
          exact pf_ret (by push_cast [l14_LoopFinds.rs])
        | true =>
          rw [hloop rfl] at hC
          push_cast
          refine .of hC ?_
          push_cast
          refine .of halive ?_
          push_cast
          exact pf_ret (by push_cast [l14_LoopFinds.rs])
  · rw [findL_bad hb] at hS hC ⊢
    push_cast [hb, bne_self_eq_false]
    refine .of (show PF n_r14_Same [encLo noLo, V.agg [.str [], .bool false, .sl 3 [], .sl 2 [], .sl 1 [], .sl 4 []]] _ from hS) ?_
    push_cast
    refine .of halive ?_
    push_cast
    exact pf_ret (by push_cast [l14_LoopFinds.rs])
end Go.Dw
end
