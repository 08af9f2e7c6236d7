/-
  Contracts: the reference, the system and the matching.
-/
import Derived.Test.YtokdinonifchaaaGreatRa
import Derived.Test.YtokdinonifchaaaGreatXe
section
set_option linter.unusedVariables false
set_option linter.unusedSimpArgs false
set_option maxRecDepth 100000
namespace Go.Dw
open Go.Proofs (sortS)
def symRs (l : List ASym) : List ARule → List ASym × Bool
  | [] => (l, true)
  | x :: r => if (symT l x.left).2 then if (symT (symT l x.left).1 x.right).2 then symRs (symT (symT l x.left).1 x.right).1 r else ([], false) else ([], false)
theorem r01_Symbols_s (r : List ARule) (hs : rbs r < 2 ^ 38) : PF n_r01_Symbols [encRs r] (.tup [encSys (symRs [] r).1, .bool (symRs [] r).2]) := by
  have hl := length_le_rbs r
  have hw1 : IntKind.i64.wrap 1 = 1 := wrap64 (by omega) (by omega)
  have hw2 : IntKind.i64.wrap 2 = 2 := wrap64 (by omega) (by omega)
  refine pf_of r01_Symbols.ok rfl ?_
  push_cast
  rw [show (V.sl 2 [] : V) = encSys [] from rfl]
  refine loop_up (n := r.length) (R := fun k => ∀ l m, Few (2 ^ 39) m l → m + rbs (r.drop k) < 2 ^ 38 → symRs l (r.drop k) = symRs [] r → r01_Symbols.L6 (encSys l) (encRs r) (.int .i64 r.length) (.int .i64 k) 0 [] (Ends 0 r01_Symbols.rs fun x' H' => x' = .tup [encSys (symRs [] r).1, .bool (symRs [] r).2] ∧ H' = [])) ?_ ?_ 0 (by omega) [] 0 ⟨by simp, by simp⟩ (by simpa using hs) rfl
  · intro k hk ih l m hf hm hq
    have hr := rbs_mem (getD_mem hk)
    rw [drop_getD hk] at hm hq
    simp only [rbs, symRs] at hm hq
    generalize hx : r.getD k default = x at hm hq hr
    have s1 := size_le_tb x.left
    have s2 := size_le_tb x.right
    have hf1 := few_symT x.left m l hf (by omega)
    have hf2 := few_symT x.right _ _ hf1 (by omega)
    refine r01_Symbols.G6 ?_
    push_cast [ilt hk, hx, encTs_two]
    refine r01_Symbols.G4 ?_
    push_cast
    refine .of (r01_symbols_s x.left m l (by omega) (by omega) hf) ?_
    cases h1 : (symT l x.left).2 with
    | false =>
      rw [if_neg (by simp [h1])] at hq
      push_cast
      refine pf_ret ?_
      push_cast [r01_Symbols.rs, ← hq]
      rfl
    | true =>
      rw [if_pos h1] at hq
      push_cast [hw1]
      refine r01_Symbols.G4 ?_
      push_cast
      refine .of (r01_symbols_s x.right _ _ (by omega) (by omega) hf1) ?_
      cases h2 : (symT (symT l x.left).1 x.right).2 with
      | false =>
        rw [if_neg (by simp [h2])] at hq
        push_cast
        refine pf_ret ?_
        push_cast [r01_Symbols.rs, ← hq]
        rfl
      | true =>
        rw [if_pos h2] at hq
        push_cast [hw2]
        refine r01_Symbols.G4 ?_
        push_cast [w64 (show k < 2 ^ 62 by omega)]
        exact ih _ _ hf2 (by omega) hq
  · intro l m hf hm hq
    refine r01_Symbols.G6 ?_
    push_cast [inlt (Nat.le_refl _)]
    refine pf_ret ?_
    rw [drop_map_none] at hq
    push_cast [r01_Symbols.rs, ← hq]
    exact ⟨rfl, rfl⟩
/-- A variable on the left, or one on the right alone. -/
def extraR (x : ARule) : Bool := x.left.var || !within x.right x.left
def checkSystemR (r : List ARule) : Int := if checkRules r ≠ 0 then checkRules r else if (symRs [] r).2 then (if r.any extraR then 7 else 0) else 6
theorem r01_CheckSystem_sR (r : List ARule) (hs : rbs r < 2 ^ 38) : PF n_r01_CheckSystem [encRs r] (.int .i64 (checkSystemR r)) := by
  have hl := length_le_rbs r
  refine pf_of r01_CheckSystem.ok rfl ?_
  push_cast
  refine .of (r01_Rules_s r (by omega)) ?_
  unfold checkSystemR
  by_cases h1 : checkRules r = 0
  · rw [if_neg (by simpa using h1)]
    push_cast [h1]
    refine .of (r01_Symbols_s r hs) ?_
    cases h2 : (symRs [] r).2 with
    | false =>
      push_cast
      refine pf_ret ?_
      push_cast [r01_CheckSystem.rs]
    | true =>
      push_cast
      refine loop_up (n := r.length) (R := fun k => (r.drop k).any extraR = r.any extraR → r01_CheckSystem.L3 (encRs r) (.int .i64 r.length) (.int .i64 k) 0 [] _) ?_ ?_ 0 (by omega) rfl
      · intro k hk ih hq
        have hr := rbs_mem (getD_mem hk)
        rw [drop_getD hk] at hq
        simp only [List.any_cons] at hq
        generalize hx : r.getD k default = x at hq hr
        refine r01_CheckSystem.G3 ?_
        cases hv : x.left.var with
        | true =>
          push_cast [ilt hk, hx, hv]
          refine pf_ret ?_
          push_cast [r01_CheckSystem.rs, ← hq, extraR, hv]
          simp
        | false =>
          push_cast [ilt hk, hx, hv]
          refine .of (r01_Within_s _ _ (by omega) (by omega)) ?_
          cases hw : within x.right x.left with
          | false =>
            push_cast
            refine pf_ret ?_
            push_cast [r01_CheckSystem.rs, ← hq, extraR, hv, hw]
            rfl
          | true =>
            push_cast [w64 (show k < 2 ^ 62 by omega)]
            exact ih (by rw [← hq]; simp [extraR, hv, hw])
      · intro hq
        rw [drop_map_none] at hq
        refine r01_CheckSystem.G3 ?_
        push_cast [inlt (Nat.le_refl _)]
        refine pf_ret ?_
        push_cast [r01_CheckSystem.rs, ← hq]
        rfl
  · rw [if_pos h1]
    push_cast [h1]
    refine pf_ret ?_
    push_cast [r01_CheckSystem.rs]
/-! ### the same errors -/
theorem mem_foldl_addS (v : Str) : ∀ (l ks : List Str), v ∈ l.foldl addS ks ↔ v ∈ ks ∨ v ∈ l
  | [], ks => by simp
  | x :: l, ks => by
    rw [List.foldl_cons, mem_foldl_addS v l]
    unfold addS
    split
    · rename_i h
      simp only [List.mem_cons]
      constructor
      · rintro (h1 | h1)
        · exact .inl h1
        · exact .inr (.inr h1)
      · rintro (h1 | rfl | h1)
        · exact .inl h1
        · exact .inl h
        · exact .inr h1
    · simp [or_assoc]
theorem varsIn_cons (x : List Int × Term) (l : List (List Int × Term)) : varsIn (x :: l) = if x.2.var then x.2.name :: varsIn l else varsIn l := by
  unfold varsIn; rw [List.filter_cons]; split <;> rfl
theorem varsIn_append (a b : List (List Int × Term)) : varsIn (a ++ b) = varsIn a ++ varsIn b := by
  unfold varsIn; rw [List.filter_append, List.map_append]
mutual
theorem mem_varsIn (v : Str) : ∀ (t : Term) (p : List Int), v ∈ varsIn (visit t p) ↔ occ v t = true
  | .mk n b ar, p => by
    have h := mem_varsIns v ar p 0
    rw [visit_eq, varsIn_cons]
    cases b
    · rw [if_neg (by simp [Term.var])]
      simpa [occ, Term.args] using h
    · rw [if_pos (by simp [Term.var])]
      simp only [occ, Bool.true_and, Bool.or_eq_true, decide_eq_true_eq, List.mem_cons, ← h]
      exact ⟨fun h => h.imp (fun e => e.symm) id, fun h => h.imp (fun e => e.symm) id⟩
theorem mem_varsIns (v : Str) : ∀ (ar : List Term) (p : List Int) (i : Nat), v ∈ varsIn (visits ar p i) ↔ occs v ar = true
  | [], p, i => by simp [visits, varsIn, occs]
  | a :: ar, p, i => by
    have h1 := mem_varsIn v a (p ++ [(i : Int)])
    have h2 := mem_varsIns v ar p (i + 1)
    simp only [visits, varsIn_append, List.mem_append, h1, h2, occs, Bool.or_eq_true]
end
theorem mem_varsOf (v : Str) (t : Term) : v ∈ varsOf [t] ↔ occ v t = true := by
  unfold varsOf
  rw [show (v ∈ sortS (vsetT [] [t])) ↔ v ∈ vsetT [] [t] from (List.mergeSort_perm _ _).mem_iff]
  simp only [vsetT, List.foldl_cons, List.foldl_nil, vset, mem_foldl_addS, mem_varsIn, List.not_mem_nil, false_or]
theorem extra_eq (x : ARule) : extra x = extraR x := by
  unfold extra extraR within
  congr 1
  rw [Bool.eq_iff_iff]
  simp only [List.any_eq_true, Bool.not_eq_true', decide_eq_false_iff_not, mem_varsOf, List.all_eq_false, varsT, mem_collectT, List.not_mem_nil, false_or]
theorem getA_append (m : Ars) (n v : Str) (k : Nat) : getA (m ++ [(n, k)]) v = match getA m v with | some a => some a | none => if n = v then some k else none := by
  induction m with
  | nil => simp [getA]
  | cons p m ih =>
    simp only [List.cons_append, getA]
    split
    · rfl
    · exact ih
def getSy : List ASym → Str → Option Int
  | [], _ => none
  | x :: l, n => if x.name = n then some x.arity else getSy l n
abbrev SySorted (l : List ASym) : Prop := l.Pairwise fun a b => a.name < b.name
theorem getSy_none {l : List ASym} {n : Str} (h : ∀ x ∈ l, x.name ≠ n) : getSy l n = none := by
  induction l with
  | nil => rfl
  | cons x l ih => simp only [getSy]; rw [if_neg (h x (by simp))]; exact ih fun y hy => h y (by simp [hy])
theorem getSy_at {n : Str} : ∀ {l : List ASym}, SySorted l → getSy l n = if syAt l n < l.length ∧ (l.getD (syAt l n) default).name = n then some (l.getD (syAt l n) default).arity else none
  | [], _ => by simp [getSy]
  | x :: l, hs => by
    obtain ⟨h1, h2⟩ := List.pairwise_cons.1 hs
    have ih := getSy_at (n := n) h2
    by_cases hx : x.name < n
    · have e : syAt (x :: l) n = syAt l n + 1 := by simp [syAt, lbg, hx]
      simp only [getSy, e]
      rw [if_neg (fun e2 : x.name = n => slt_irrefl n (by rw [e2] at hx; exact hx)), ih]
      simp
    · have e : syAt (x :: l) n = 0 := by simp only [syAt, lbg]; rw [if_neg (by simpa using hx)]
      simp only [getSy, e]
      by_cases he : x.name = n
      · simp [he]
      · rw [if_neg he]
        simp only [List.length_cons, Nat.zero_lt_succ, true_and, List.getD_cons_zero, he, if_false]
        refine getSy_none fun y hy e => ?_
        have := h1 y hy
        rw [e] at this
        exact hx this
/-- The symbols put in order. -/
def insR (n : Str) (k : Int) : List ASym → List ASym
  | [] => [⟨n, k⟩]
  | x :: l => if x.name < n then x :: insR n k l else ⟨n, k⟩ :: x :: l
theorem insR_eq (n : Str) (k : Int) : ∀ l : List ASym, l.take (syAt l n) ++ ⟨n, k⟩ :: l.drop (syAt l n) = insR n k l
  | [] => rfl
  | x :: l => by
    have ih := insR_eq n k l
    by_cases hx : x.name < n
    · have e : syAt (x :: l) n = syAt l n + 1 := by simp [syAt, lbg, hx]
      simp only [insR]
      rw [if_pos hx, e, List.take_succ_cons, List.drop_succ_cons, List.cons_append, ih]
    · have e : syAt (x :: l) n = 0 := by simp only [syAt, lbg]; rw [if_neg (by simpa using hx)]
      simp only [insR]
      rw [if_neg hx, e]; rfl
theorem mem_insR {n : Str} {k : Int} {x : ASym} : ∀ {l : List ASym}, x ∈ insR n k l ↔ x = ⟨n, k⟩ ∨ x ∈ l
  | [] => by simp [insR]
  | y :: l => by
    simp only [insR]
    split
    · simp only [List.mem_cons, mem_insR (l := l)]
      constructor
      · rintro (h | h | h)
        · exact .inr (.inl h)
        · exact .inl h
        · exact .inr (.inr h)
      · rintro (h | h | h)
        · exact .inr (.inl h)
        · exact .inl h
        · exact .inr (.inr h)
    · simp
theorem insR_sorted {n : Str} {k : Int} : ∀ {l : List ASym}, SySorted l → (∀ x ∈ l, x.name ≠ n) → SySorted (insR n k l)
  | [], _, _ => by simp [insR, SySorted]
  | x :: l, hs, hn => by
    obtain ⟨h1, h2⟩ := List.pairwise_cons.1 hs
    simp only [insR]
    split
    · rename_i hx
      refine List.pairwise_cons.2 ⟨fun y hy => ?_, insR_sorted h2 fun y hy => hn y (by simp [hy])⟩
      rcases mem_insR.1 hy with rfl | h
      · exact hx
      · exact h1 y h
    · rename_i hx
      have hlt : n < x.name := by
        rcases Classical.em (n < x.name) with h | h
        · exact h
        · exact absurd (slt_eq hx h) (hn x (by simp))
      refine List.pairwise_cons.2 ⟨fun y hy => ?_, hs⟩
      rcases List.mem_cons.1 hy with rfl | h
      · exact hlt
      · exact slt_trans hlt (h1 y h)
theorem getSy_insR {n v : Str} {k : Int} : ∀ {l : List ASym}, (∀ x ∈ l, x.name ≠ n) → getSy (insR n k l) v = if n = v then some k else getSy l v
  | [], _ => by simp [insR, getSy]
  | x :: l, hn => by
    simp only [insR]
    split
    · simp only [getSy]
      rw [getSy_insR fun y hy => hn y (by simp [hy])]
      by_cases h : x.name = v
      · rw [if_pos h, if_pos h, if_neg (fun e => hn x (by simp) (h.trans e.symm))]
      · rw [if_neg h, if_neg h]
    · simp only [getSy]
theorem getSy_some {l : List ASym} {n : Str} {x : ASym} (hx : x ∈ l) (hn : x.name = n) : getSy l n ≠ none := by
  induction l with
  | nil => cases hx
  | cons y l ih =>
    simp only [getSy]
    split
    · simp
    · rename_i h
      rcases List.mem_cons.1 hx with rfl | hx
      · exact absurd hn h
      · exact ih hx
def mk (m : Ars) : Bool := m.any fun p => marked p.1
/-- The same symbols. -/
def Rel (l : List ASym) (m : Ars) : Prop := SySorted l ∧ (∀ n, getSy l n = (getA m n).map fun k : Nat => (k : Int)) ∧ mk m = false
theorem mk_getA {m : Ars} {n : Str} {k : Nat} (h : getA m n = some k) (hm : mk m = false) : marked n = false := by
  induction m with
  | nil => cases h
  | cons p m ih =>
    simp only [mk, List.any_cons, Bool.or_eq_false_iff] at hm
    simp only [getA] at h
    split at h
    · rename_i e; rw [← e]; exact hm.1
    · exact ih h hm.2
theorem arStep_mk {m m' : Ars} {u : Term} (h : arStep m u = some m') (hm : mk m = true) : mk m' = true := by
  unfold arStep at h
  split at h
  · cases h; exact hm
  · split at h
    · split at h
      · cases h; exact hm
      · cases h
    · cases h
      simp only [mk, List.any_append, Bool.or_eq_true] at hm ⊢
      exact .inl hm
theorem arAll_mk : ∀ (l : List (List Int × Term)) {m m' : Ars}, arAll m l = some m' → mk m = true → mk m' = true
  | [], m, m', h, hm => by cases h; exact hm
  | x :: l, m, m', h, hm => by
    simp only [arAll] at h
    cases hs : arStep m x.2 with
    | none => rw [hs] at h; cases h
    | some m1 =>
      rw [hs, Option.bind_some] at h
      exact arAll_mk l h (arStep_mk hs hm)
/-- What the reference says against what the program collects. -/
def Says (o : Option Ars) (s : List ASym × Bool) : Prop := match o with
  | none => s.2 = false
  | some m => if mk m then s.2 = false else s.2 = true ∧ Rel s.1 m
theorem insSy_eq (l : List ASym) (n : Str) (k : Int) (hs : SySorted l) : insSy l n k = if getSy l n = none then insR n k l else l := by
  unfold insSy
  rw [getSy_at hs, insR_eq]
  split
  · simp
  · simp
theorem sy_new {l : List ASym} {n : Str} {k : Int} : (l.take (syAt l n) ++ ⟨n, k⟩ :: l.drop (syAt l n)).getD (syAt l n) default = ⟨n, k⟩ := by
  have hle : syAt l n ≤ l.length := lbg_le (fun x : ASym => decide (x.name < n)) l
  rw [List.getD_eq_getElem?_getD, List.getElem?_append_right (by simp; omega), List.length_take, Nat.min_eq_left hle]
  simp
mutual
theorem says_T : ∀ (t : Term) (p : List Int) (l : List ASym) (m : Ars), Rel l m → formed t = true → Says (arAll m (visit t p)) (symT l t)
  | .mk n b ar, p, l, m, hR, hf => by
    have ht := formed_eq (.mk n b ar)
    rw [hf] at ht
    simp only [Term.var, Term.args, Term.name] at ht
    simp only [visit_eq, arAll, symT, Term.args]
    cases b with
    | true =>
      simp only [if_true] at ht
      have har : ar = [] := by
        have := ht.symm
        simp only [Bool.and_eq_true, decide_eq_true_eq] at this
        exact List.length_eq_zero_iff.1 (of_decide_eq_true this.1)
      subst har
      simp only [arStep, Term.var, if_true, visits, arAll, Option.bind_some, Says, hR.2.2, Bool.false_eq_true, if_false]
      exact ⟨trivial, hR⟩
    | false =>
      have hfs : formeds ar = true := by
        rw [formeds_all]
        have := ht.symm
        simp only [Bool.false_eq_true, if_false, Bool.and_eq_true] at this
        exact this.2.2
      simp only [Bool.false_eq_true, if_false]
      by_cases hmk : marked n = true
      · rw [if_pos hmk]
        have hg : getA m n = none := by
          cases hg : getA m n with
          | none => rfl
          | some k => rw [mk_getA hg hR.2.2] at hmk; cases hmk
        have hst : arStep m (.mk n false ar) = some (m ++ [(n, ar.length)]) := by simp [arStep, Term.var, Term.name, Term.args, hg]
        rw [hst, Option.bind_some]
        have hm1 : mk (m ++ [(n, ar.length)]) = true := by simp [mk, hmk]
        cases hr : arAll (m ++ [(n, ar.length)]) (visits ar p 0) with
        | none => rfl
        | some m' => simp only [Says, arAll_mk _ hr hm1, if_true]
      · rw [if_neg hmk]
        have hg2 := hR.2.1 n
        have hat := getSy_at (n := n) hR.1
        cases hg : getA m n with
        | some k =>
          rw [hg] at hg2
          have hne : ¬ getSy l n = none := by rw [hg2]; simp
          have hins : insSy l n ar.length = l := by rw [insSy_eq _ _ _ hR.1, if_neg hne]
          have har : (l.getD (syAt l n) default).arity = k := by
            rw [hg2] at hat
            split at hat
            · simpa using hat.symm
            · cases hat
          rw [hins, har]
          by_cases hk : k = ar.length
          · have hst : arStep m (.mk n false ar) = some m := by simp [arStep, Term.var, Term.name, Term.args, hg, hk]
            rw [hst, Option.bind_some, if_neg (by simp [hk])]
            exact says_Ts ar p 0 l m hR hfs
          · have hst : arStep m (.mk n false ar) = none := by simp [arStep, Term.var, Term.name, Term.args, hg, hk]
            rw [hst, if_pos (by simp; omega)]
            rfl
        | none =>
          rw [hg] at hg2
          have hg2' : getSy l n = none := hg2
          have hnm : ∀ x ∈ l, x.name ≠ n := fun x hx e => getSy_some hx e hg2'
          have hst : arStep m (.mk n false ar) = some (m ++ [(n, ar.length)]) := by simp [arStep, Term.var, Term.name, Term.args, hg]
          have hins : insSy l n ar.length = insR n ar.length l := by rw [insSy_eq _ _ _ hR.1, if_pos hg2']
          have hnew : ((insR n ar.length l).getD (syAt l n) default).arity = ar.length := by rw [← insR_eq, sy_new]
          rw [hst, Option.bind_some, hins, hnew, if_neg (by simp)]
          refine says_Ts ar p 0 _ _ ⟨insR_sorted hR.1 hnm, fun v => ?_, ?_⟩ hfs
          · rw [getSy_insR hnm, getA_append, hR.2.1 v]
            by_cases e : n = v
            · subst e; rw [if_pos rfl, if_pos rfl, hg]; rfl
            · rw [if_neg e, if_neg e]; cases getA m v <;> rfl
          · have := hR.2.2
            simp only [mk] at this ⊢
            rw [List.any_append, this]
            simpa using hmk
theorem says_Ts : ∀ (ar : List Term) (p : List Int) (i : Nat) (l : List ASym) (m : Ars), Rel l m → formeds ar = true → Says (arAll m (visits ar p i)) (symTs l ar)
  | [], p, i, l, m, hR, _ => by
    simp only [visits, arAll, symTs, Says, hR.2.2, Bool.false_eq_true, if_false]
    exact ⟨trivial, hR⟩
  | a :: ar, p, i, l, m, hR, hf => by
    simp only [formeds, Bool.and_eq_true] at hf
    have h1 := says_T a (p ++ [(i : Int)]) l m hR hf.1
    simp only [visits, arAll_append, symTs]
    cases hr : arAll m (visit a (p ++ [(i : Int)])) with
    | none =>
      rw [hr] at h1
      rw [if_neg (by rw [show (symT l a).2 = false from h1]; simp)]
      rfl
    | some m1 =>
      rw [hr] at h1
      rw [Option.bind_some]
      simp only [Says] at h1
      by_cases hm1 : mk m1 = true
      · rw [if_pos hm1] at h1
        rw [if_neg (by rw [h1]; simp)]
        cases hr2 : arAll m1 (visits ar p (i + 1)) with
        | none => rfl
        | some m' => simp only [Says, arAll_mk _ hr2 hm1, if_true]
      · rw [if_neg hm1] at h1
        rw [if_pos h1.1]
        exact says_Ts ar p (i + 1) _ _ h1.2 hf.2
end
theorem says_Rs : ∀ (r : List ARule) (l : List ASym) (m : Ars), Rel l m → (∀ x ∈ r, formed x.left = true ∧ formed x.right = true) → match arRules m r with
    | none => (symRs l r).2 = false
    | some m => (symRs l r).2 = !mk m
  | [], l, m, hR, _ => by simp only [arRules, symRs, hR.2.2]; rfl
  | x :: r, l, m, hR, hf => by
    obtain ⟨hf1, hf2⟩ := hf x (by simp)
    have h1 := says_T x.left [] l m hR hf1
    have mono : ∀ (r : List ARule) {m m' : Ars}, arRules m r = some m' → mk m = true → mk m' = true := by
      intro r
      induction r with
      | nil => intro m m' h hm; cases h; exact hm
      | cons y r ih =>
        intro m m' h hm
        simp only [arRules] at h
        cases ha : arAll m (visit y.left []) with
        | none => rw [ha] at h; cases h
        | some m1 =>
          rw [ha, Option.bind_some] at h
          cases hb : arAll m1 (visit y.right []) with
          | none => rw [hb] at h; cases h
          | some m2 =>
            rw [hb, Option.bind_some] at h
            exact ih h (arAll_mk _ hb (arAll_mk _ ha hm))
    simp only [arRules, symRs]
    cases ha : arAll m (visit x.left []) with
    | none =>
      rw [ha] at h1
      have : (symT l x.left).2 = false := h1
      simp [this]
    | some m1 =>
      rw [ha] at h1
      simp only [Says] at h1
      rw [Option.bind_some]
      by_cases hm1 : mk m1 = true
      · rw [if_pos hm1] at h1
        rw [if_neg (by rw [h1]; simp)]
        cases hr : (arAll m1 (visit x.right [])).bind fun m2 => arRules m2 r with
        | none => rfl
        | some m' =>
          have : mk m' = true := by
            cases hb : arAll m1 (visit x.right []) with
            | none => rw [hb] at hr; cases hr
            | some m2 => rw [hb, Option.bind_some] at hr; exact mono r hr (arAll_mk _ hb hm1)
          simp [this]
      · rw [if_neg hm1] at h1
        rw [if_pos h1.1]
        have h2 := says_T x.right [] _ m1 h1.2 hf2
        cases hb : arAll m1 (visit x.right []) with
        | none =>
          rw [hb] at h2
          have : (symT (symT l x.left).1 x.right).2 = false := h2
          simp [this]
        | some m2 =>
          rw [hb] at h2
          simp only [Says] at h2
          rw [Option.bind_some]
          by_cases hm2 : mk m2 = true
          · rw [if_pos hm2] at h2
            rw [if_neg (by rw [h2]; simp)]
            cases hr : arRules m2 r with
            | none => rfl
            | some m' => simp [mono r hr hm2]
          · rw [if_neg hm2] at h2
            rw [if_pos h2.1]
            exact says_Rs r _ _ h2.2 fun y hy => hf y (by simp [hy])
theorem check_formed {t : Term} (h : check t = 0) : formed t = true := by
  unfold check at h
  split at h
  · assumption
  · omega
theorem checkPairs_formed : ∀ {r : List ARule}, checkPairs r = 0 → ∀ x ∈ r, check x.left = 0 ∧ check x.right = 0
  | [], _, x, hx => by cases hx
  | y :: r, h, x, hx => by
    simp only [checkPairs] at h
    split at h
    · omega
    · rename_i h1
      rcases List.mem_cons.1 hx with rfl | hx
      · simp only [checks, ne_eq, Classical.not_not] at h1
        split at h1
        · omega
        · rename_i h2
          split at h1
          · omega
          · rename_i h3
            exact ⟨by simpa using h2, by simpa using h3⟩
      · exact checkPairs_formed h x hx
theorem checkRules_formed {r : List ARule} (h : checkRules r = 0) : ∀ x ∈ r, check x.left = 0 ∧ check x.right = 0 := by
  unfold checkRules at h
  split at h
  · omega
  · exact checkPairs_formed h
theorem checkSystemR_eq (r : List ARule) : checkSystemR r = checkSystem r := by
  unfold checkSystemR checkSystem
  by_cases h1 : checkRules r = 0
  · rw [h1, if_neg (show ¬ ((0 : Int) ≠ 0) by simp), if_neg (show ¬ ((0 : Int) ≠ 0) by simp)]
    have hf := checkRules_formed h1
    have := says_Rs r [] [] ⟨by simp [SySorted], fun n => rfl, rfl⟩ fun x hx => ⟨check_formed (hf x hx).1, check_formed (hf x hx).2⟩
    rw [show r.any extra = r.any extraR from by congr 1; funext x; exact extra_eq x]
    cases ha : arRules [] r with
    | none => rw [ha] at this; simp only at this; simp [this]
    | some m =>
      rw [ha] at this
      simp only at this
      rw [this]
      by_cases hk : (m.any fun p => marked p.1) = true
      · simp [mk, hk]
      · simp [mk, hk]
  · rw [if_pos (by simpa using h1), if_pos (by simpa using h1)]
theorem r01_CheckSystem_s (r : List ARule) (hs : rbs r < 2 ^ 38) : PF n_r01_CheckSystem [encRs r] (.int .i64 (checkSystem r)) := checkSystemR_eq r ▸ r01_CheckSystem_sR r hs
end Go.Dw
end
section
set_option linter.unusedVariables false
set_option linter.unusedSimpArgs false
set_option maxRecDepth 100000
namespace Go.Dw
theorem r01_At_s (t : Term) (p : List Int) (hp : p.length < 2 ^ 62) (ht : size t < 2 ^ 62) : PF n_r01_At [encT t, encP p] (encOT (subT t p)) := by
  refine pf_of r01_At.ok rfl ?_
  push_cast
  refine loop_up (n := p.length) (R := fun k => ∀ u, subT u (p.drop k) = subT t p → size u < 2 ^ 62 → r01_At.L3 (.ptr 0 0) (.ptr 1 0) (encP p) (.int .i64 p.length) (.int .i64 k) 0 [.cells t_Term (cT u), .cells t_Term [.str [], .bool false, .sl 3 []]] _) ?_ ?_ 0 (by omega) t rfl ht
  · intro k hk ih u hu hsu
    rw [drop_getD hk] at hu
    simp only [subT] at hu
    generalize hgi : p.getD k default = i at hu
    have hl := length_le_sizes u.args
    have hst := size_args u
    refine r01_At.G3 ?_
    by_cases hi : i < 0
    · rw [if_neg (by omega)] at hu
      push_cast [ilt hk, hgi, hi]
      refine pf_ret ?_
      push_cast [r01_At.rs, ← hu]
      rfl
    · by_cases hi2 : (u.args.length : Int) ≤ i
      · rw [if_neg (by omega)] at hu
        push_cast [ilt hk, hgi, hi, hi2]
        refine pf_ret ?_
        push_cast [r01_At.rs, ← hu]
        rfl
      · rw [if_pos (by omega)] at hu
        push_cast [ilt hk, hgi, hi, hi2, w64 (show k < 2 ^ 62 by omega)]
        have hm : u.args.getD i.toNat default ∈ u.args := getD_mem (by omega)
        exact ⟨by omega, ih _ hu (by have := size_mem hm; omega)⟩
  · intro u hu hsu
    rw [drop_map_none] at hu
    refine r01_At.G3 ?_
    push_cast [inlt (Nat.le_refl _)]
    refine pf_ret ?_
    push_cast [r01_At.rs, ← hu]
    rfl
theorem r01_Image_s (s : List ABind) (v : Str) (hl : s.length < 2 ^ 62) : PF n_r01_Image [encBs s, .str v] (encT ((image s v).getD (.mk v true []))) := by
  refine pf_of r01_Image.ok rfl ?_
  push_cast
  refine loop_up (n := s.length) (R := fun k => image (s.drop k) v = image s v → r01_Image.L3 (.str v) (.ptr 0 0) (encBs s) (.int .i64 s.length) (.int .i64 k) 0 [.cells t_Term [.str [], .bool false, .sl 3 []]] _) ?_ ?_ 0 (by omega) rfl
  · intro k hk ih hq
    rw [drop_getD hk] at hq
    simp only [image] at hq
    generalize hgi : s.getD k default = b at hq
    refine r01_Image.G3 ?_
    by_cases h : b.name = v
    · rw [if_pos h] at hq
      push_cast [ilt hk, hgi, h]
      refine pf_ret ?_
      push_cast [r01_Image.rs, ← hq]
      rfl
    · rw [if_neg h] at hq
      push_cast [ilt hk, hgi, h, w64 (show k < 2 ^ 62 by omega)]
      exact ih hq
  · intro hq
    rw [drop_map_none] at hq
    refine r01_Image.G3 ?_
    push_cast [inlt (Nat.le_refl _)]
    refine pf_ret ?_
    push_cast [r01_Image.rs, ← hq]
    rfl
theorem r01_Apply_s (s : List ABind) (hl : s.length < 2 ^ 62) (t : Term) (ht : size t < 2 ^ 40) : PF n_r01_Apply [encBs s, encT t] (encT (inst s t)) := by
  induction t using term_ind with
  | h t ih =>
  have hst := size_args t
  have hll := length_le_sizes t.args
  refine pf_of r01_Apply.ok rfl ?_
  rw [inst_eq]
  cases hv : t.var with
  | true =>
    push_cast [hv]
    refine .of (r01_Image_s s t.name hl) ?_
    push_cast
    exact pf_ret (by push_cast [r01_Apply.rs])
  | false =>
    push_cast [hv]
    refine loop_up (n := t.args.length) (R := fun k => r01_Apply.L3 (encBs s) (.ptr 0 0) (.ptr 1 0) (encTs t.args) (.int .i64 t.args.length) (.int .i64 k) 0 [.cells t_Term [.str [], .bool false, .sl 3 []], .cells t_Term [.str t.name, .bool false, ownL cT 2 3 ((t.args.take k).map (inst s))], .arr t_Term 3 k] _) ?_ ?_ 0 (by omega)
    · intro k hk ih2
      have hm := getD_mem hk
      have hm2 := size_mem hm
      have hlen : ((t.args.take k).map (inst s)).length = k := by simp; omega
      rw [take_succ_getD hk, List.map_append, List.map_singleton] at ih2
      refine r01_Apply.G3 ?_
      push_cast [ilt hk]
      refine .of (ih _ hm (by omega)) ?_
      push_cast [hlen, w64 (show k < 2 ^ 62 by omega)]
      exact ⟨Nat.le_trans (Nat.mul_le_mul_right 48 (show _ ≤ 2 ^ 41 by omega)) (by unfold maxEls; decide), ih2⟩
    · refine r01_Apply.G3 ?_
      push_cast [inlt (Nat.le_refl _)]
      refine pf_ret ?_
      push_cast [r01_Apply.rs, List.take_length]
      unfold encT
      rw [cT_eq]; rfl
theorem r01_Grown_s (s : List ABind) (hl : s.length < 2 ^ 62) (hs : bbs s < 2 ^ 29) (t : Term) (ht : tb t < 2 ^ 30) : PF n_r01_Grown [encBs s, encT t] (.tup [.int .i64 (size (inst s t)), .int .i64 (depth (inst s t))]) := by
  induction t using term_ind with
  | h t ih =>
  have hst := size_args t
  have htb := tb_args t
  have hll := length_le_sizes t.args
  have hz := size_le_tb t
  have hsm := inst_small ht hs
  refine pf_of r01_Grown.ok rfl ?_
  cases hv : t.var with
  | true =>
    have he : inst s t = (image s t.name).getD (.mk t.name true []) := by rw [inst_eq, if_pos hv]
    rw [he] at hsm ⊢
    push_cast [hv]
    refine .of (r01_Image_s s t.name hl) ?_
    push_cast
    refine .of (r01_Size_s _ (by omega)) ?_
    push_cast
    refine .of (r01_Depth_s _ (by omega)) ?_
    push_cast
    exact pf_ret (by push_cast [r01_Grown.rs])
  | false =>
    have he : inst s t = .mk t.name false (t.args.map (inst s)) := by rw [inst_eq, hv]; rfl
    rw [he] at hsm ⊢
    have hs1 : size (Term.mk t.name false (t.args.map (inst s))) = 1 + sizes (t.args.map (inst s)) := by simp [size]
    have hd1 : depth (Term.mk t.name false (t.args.map (inst s))) = depths (t.args.map (inst s)) + 1 := by simp [depth]
    have hds := depths_le_sizes (t.args.map (inst s))
    rw [hs1] at hsm
    rw [hs1, hd1]
    push_cast [hv]
    refine loop_up (n := t.args.length) (R := fun k => r01_Grown.L3 (encBs s) (.int .i64 (1 + sizes ((t.args.take k).map (inst s)) : Nat)) (.int .i64 (depths ((t.args.take k).map (inst s)) : Nat)) (encTs t.args) (.int .i64 t.args.length) (.int .i64 k) 0 [] _) ?_ ?_ 0 (by omega)
    · intro k hk ih2
      have hm := getD_mem hk
      have hm2 := tb_mem hm
      have hsum : sizes ((t.args.take k).map (inst s)) + size (inst s (t.args.getD k default)) ≤ sizes (t.args.map (inst s)) := by
        have : sizes ((t.args.take (k + 1)).map (inst s)) ≤ sizes (t.args.map (inst s)) := by rw [List.map_take]; exact sizes_take_le _ _
        rw [take_succ_getD hk, List.map_append, sizes_append] at this
        simpa [sizes] using this
      rw [take_succ_getD hk, List.map_append, List.map_singleton, sizes_append, depths_append] at ih2
      simp only [sizes, depths, Nat.add_zero, Nat.max_zero] at ih2
      refine r01_Grown.G3 ?_
      push_cast [ilt hk]
      refine .of (ih _ hm (by omega)) ?_
      push_cast [w64 (show k < 2 ^ 62 by omega)]
      rw [wrap64 (by omega) (by omega)]
      push_cast at ih2
      simpa [Int.add_assoc] using ih2
    · refine r01_Grown.G3 ?_
      push_cast [inlt (Nat.le_refl _), List.take_length]
      rw [wrap64 (by omega) (by omega)]
      refine pf_ret ?_
      push_cast [r01_Grown.rs]
theorem r01_Fits_s (s : List ABind) (hl : s.length < 2 ^ 62) (hs : bbs s < 2 ^ 29) (t : Term) (ht : tb t < 2 ^ 30) : PF n_r01_Fits [encBs s, encT t] (.bool (fits (inst s t))) := by
  refine pf_of r01_Fits.ok rfl ?_
  push_cast
  refine .of (r01_Grown_s s hl hs t ht) ?_
  by_cases h : size (inst s t) ≤ 4000
  · have hi : ((size (inst s t) : Int) ≤ 4000) = True := eq_true (by omega)
    push_cast [hi]
    exact pf_ret (by push_cast [r01_Fits.rs, fits, h]; simp; omega)
  · have hi : ((size (inst s t) : Int) ≤ 4000) = False := eq_false (by omega)
    push_cast [hi]
    exact pf_ret (by push_cast [r01_Fits.rs, fits, h])
theorem r03_Bound_s (s : List ABind) (v : Str) (hl : s.length < 2 ^ 62) : PF n_r03_Bound [encBs s, .str v] (.bool (bound s v)) := by
  refine pf_of r03_Bound.ok rfl ?_
  unfold bound
  push_cast
  refine loop_up (n := s.length) (R := fun k => image (s.drop k) v = image s v → r03_Bound.L3 (.str v) (encBs s) (.int .i64 s.length) (.int .i64 k) 0 [] _) ?_ ?_ 0 (by omega) rfl
  · intro k hk ih hq
    rw [drop_getD hk] at hq
    simp only [image] at hq
    generalize hgi : s.getD k default = b at hq
    refine r03_Bound.G3 ?_
    by_cases h : b.name = v
    · rw [if_pos h] at hq
      push_cast [ilt hk, hgi, h]
      refine pf_ret ?_
      push_cast [r03_Bound.rs, ← hq]
      rfl
    · rw [if_neg h] at hq
      push_cast [ilt hk, hgi, h, w64 (show k < 2 ^ 62 by omega)]
      exact ih hq
  · intro hq
    rw [drop_map_none] at hq
    refine r03_Bound.G3 ?_
    push_cast [inlt (Nat.le_refl _)]
    refine pf_ret ?_
    push_cast [r03_Bound.rs, ← hq]
    rfl
theorem lbd_stop {v : Str} : ∀ {s : List ABind}, lbd v s < s.length → ¬ (s.getD (lbd v s) default).name < v
  | [], h => by simp at h
  | b :: s, h => by
    simp only [lbd] at h ⊢
    split
    · rename_i hx
      rw [if_pos hx] at h
      simpa using lbd_stop (s := s) (by simpa using h)
    · rename_i hx
      simpa using hx
theorem own_bind {i : Nat} {l : List ABind} {n : Str} {t : Term} : (.own i 4 (l.map cB ++ [V.str n :: cT t]) : V) = ownL cB i 4 (l ++ [⟨n, t⟩]) := by simp [ownL, cB]
theorem r03_with_s (s : List ABind) (v : Str) (t : Term) (hl : s.length < 2 ^ 40) (hn : ∀ b ∈ s, b.name.length < 2 ^ 62) (hv : v.length < 2 ^ 62) : PF n_r03_with [encBs s, .str v, encT t] (encBs (bindT s v t)) := by
  have hle := lbd_le v s
  have hge := @lbd_stop v s
  have hlt := fun j => @lbd_lt v s j
  have tail : ∀ m : Nat, m ≤ 2 ^ 40 → ∀ b, b ≤ 64 → m * b ≤ maxEls := fun m hm b hb => Nat.le_trans (Nat.mul_le_mul hm hb) (by unfold maxEls; decide)
  unfold bindT
  generalize lbd v s = a at hle hge hlt
  have e1 : (s.drop 0).take (a - 0) = s.take a := by simp
  have e2 : (s.drop a).take (s.length - a) = s.drop a := by rw [List.take_of_length_le]; simp
  refine pf_of r03_with.ok rfl ?_
  push_cast
  refine loop_up (n := a) (R := fun k => r03_with.L3 (encBs s) (.str v) (.ro (cT t) 0) (.int .i64 k) 0 [] _) ?_ ?_ 0 (by omega)
  · intro k hk ih
    have hkl : k < s.length := by omega
    have h1 : cmpS (s.getD k default).name v < 0 := cmpS_neg.2 (hlt k hk)
    refine r03_with.G3 ?_
    push_cast [ilt hkl]
    refine .of (r01_CompareNames_s _ _ (hn _ (getD_mem hkl)) hv) ?_
    push_cast [h1, w64 (show k < 2 ^ 62 by omega)]
    exact ih
  · refine r03_with.G3 ?_
    rcases Nat.lt_or_ge a s.length with h | h
    · have h2 : ¬ cmpS (s.getD a default).name v < 0 := fun hc => hge h (cmpS_neg.1 hc)
      push_cast [ilt h]
      refine .of (r01_CompareNames_s _ _ (hn _ (getD_mem h)) hv) ?_
      push_cast [h2, e1, e2, own_bind, List.cons_append, List.nil_append]
      refine ⟨⟨by omega, hle⟩, tail _ (by simp; omega) _ (by omega), tail _ (by simp; omega) _ (by omega), hle, ⟨by simp, tail _ (by simp; omega) _ (by omega)⟩, pf_ret ?_⟩
      push_cast [r03_with.rs]
    · push_cast [inlt h, e1, e2, own_bind, List.cons_append, List.nil_append]
      refine ⟨⟨by omega, hle⟩, tail _ (by simp; omega) _ (by omega), tail _ (by simp; omega) _ (by omega), hle, ⟨by simp, tail _ (by simp; omega) _ (by omega)⟩, pf_ret ?_⟩
      push_cast [r03_with.rs]
mutual
/-- The reference's matching. -/
def matchR (s : List ABind) : Term → Term → List ABind × Bool
  | .mk n v l, t => if v then (match image s n with | some x => (s, decide (x = t)) | none => (bindT s n t, true)) else
    if t.var ∨ t.name ≠ n ∨ t.args.length ≠ l.length then ([], false) else matchRs s l t.args
def matchRs (s : List ABind) : List Term → List Term → List ABind × Bool
  | [], _ => (s, true)
  | _ :: _, [] => (s, true)
  | a :: l, b :: m => if (matchR s a b).2 then matchRs (matchR s a b).1 l m else ([], false)
end
theorem matchR_eq (s : List ABind) (p t : Term) : matchR s p t = if p.var then (match image s p.name with | some x => (s, decide (x = t)) | none => (bindT s p.name t, true)) else
    if t.var ∨ t.name ≠ p.name ∨ t.args.length ≠ p.args.length then ([], false) else matchRs s p.args t.args := by
  cases p with | mk n v l => simp only [matchR, Term.var, Term.name, Term.args]; rfl
/-- What is matched stands as the program has it. -/
def SameM (a b : List ABind × Bool) : Prop := a.2 = b.2 ∧ (b.2 = true → a.1 = b.1)
theorem matchR_T (p : Term) : ∀ (s : List ABind) (t : Term), SameM (matchR s p t) (matchT s p t) := by
  induction p using term_ind with
  | h p ih =>
  intro s t
  rw [matchR_eq, matchT_eq]
  cases hv : p.var with
  | true => rw [if_pos rfl, if_pos rfl]; exact ⟨rfl, fun _ => rfl⟩
  | false =>
    have hf : ¬ (false = true) := by simp
    rw [if_neg hf, if_neg hf]
    by_cases hc : t.var ∨ p.name ≠ t.name ∨ p.args.length ≠ t.args.length
    · have hc' : t.var ∨ t.name ≠ p.name ∨ t.args.length ≠ p.args.length := by
        rcases hc with h | h | h
        · exact .inl h
        · exact .inr (.inl (Ne.symm h))
        · exact .inr (.inr (Ne.symm h))
      rw [if_pos hc, if_pos hc']; exact ⟨rfl, fun h => by cases h⟩
    · have hc' : ¬ (t.var ∨ t.name ≠ p.name ∨ t.args.length ≠ p.args.length) := by
        rintro (h | h | h)
        · exact hc (.inl h)
        · exact hc (.inr (.inl (Ne.symm h)))
        · exact hc (.inr (.inr (Ne.symm h)))
      rw [if_neg hc, if_neg hc']
      have hlen : p.args.length = t.args.length := Classical.byContradiction fun h => hc (.inr (.inr h))
      have key : ∀ (l m : List Term) (s : List ABind), (∀ a ∈ l, a ∈ p.args) → l.length = m.length → SameM (matchRs s l m) (matchTs s l m) := by
        intro l
        induction l with
        | nil => intro m s _ _; exact ⟨rfl, fun _ => rfl⟩
        | cons a l ihl =>
          intro m s hl hm
          cases m with
          | nil => simp at hm
          | cons b m =>
            obtain ⟨h1, h2⟩ := ih a (hl a (by simp)) s b
            simp only [matchRs, matchTs]
            cases h3 : (matchT s a b).2 with
            | false =>
              rw [h3] at h1
              rw [if_neg (by rw [h1]; simp), if_neg (by simp)]
              exact ⟨rfl, fun h => by cases h⟩
            | true =>
              rw [h3] at h1
              rw [if_pos h1, if_pos rfl, h2 h3]
              exact ihl m _ (fun x hx => hl x (by simp [hx])) (by simpa using hm)
      exact key p.args t.args s (fun _ h => h) hlen
/-- Bindings that are small. -/
structure Bs (M m : Nat) (s : List ABind) : Prop where
  len : s.length ≤ m
  nm : ∀ b ∈ s, b.name.length < M
  tm : ∀ b ∈ s, tb b.term < M
theorem Bs.mono {M m m' : Nat} {s : List ABind} (h : Bs M m s) (hm : m ≤ m') : Bs M m' s := ⟨Nat.le_trans h.len hm, h.nm, h.tm⟩
theorem Bs.nil {M m : Nat} : Bs M m [] := ⟨by simp, by simp, by simp⟩
theorem matchR_Bs {M : Nat} (p : Term) : ∀ (s : List ABind) (t : Term) (m : Nat), tb p ≤ M → tb t < M → Bs M m s → Bs M (m + size p) (matchR s p t).1 := by
  induction p using term_ind with
  | h p ih =>
  intro s t m hp ht hb
  have h1 := tb_args p
  have h2 := tb_args t
  have h3 := size_args p
  rw [matchR_eq]
  cases hv : p.var with
  | true =>
    rw [if_pos rfl]
    cases hx : image s p.name with
    | some x => exact hb.mono (by omega)
    | none =>
      refine ⟨by show (bindT s p.name t).length ≤ _; rw [bindT_len]; have := hb.len; omega, fun b h => ?_, fun b h => ?_⟩
      · rcases bindT_mem h with h | rfl
        · exact hb.nm b h
        · show p.name.length < M; omega
      · rcases bindT_mem h with h | rfl
        · exact hb.tm b h
        · exact ht
  | false =>
    rw [if_neg (by simp)]
    split
    · exact Bs.nil
    · have key : ∀ (l q : List Term) (s : List ABind) (m : Nat), (∀ a ∈ l, a ∈ p.args) → tbs l ≤ M → tbs q < M → Bs M m s → Bs M (m + sizes l) (matchRs s l q).1 := by
        intro l
        induction l with
        | nil => intro q s m _ _ _ hb; exact hb
        | cons a l ihl =>
          intro q s m hl hM hq hb
          cases q with
          | nil => exact hb.mono (by omega)
          | cons b q =>
            have e1 : tbs (a :: l) = tb a + tbs l := rfl
            have e2 : tbs (b :: q) = tb b + tbs q := rfl
            have h4 := ih a (hl a (by simp)) s b m (by omega) (by omega) hb
            simp only [matchRs]
            split
            · have h5 := ihl q _ _ (fun x hx => hl x (by simp [hx])) (by omega) (by omega) h4
              exact h5.mono (by simp only [sizes]; omega)
            · exact Bs.nil
      have := key p.args t.args s m (fun _ h => h) (by omega) (by omega) hb
      exact this.mono (by omega)
end Go.Dw
end
