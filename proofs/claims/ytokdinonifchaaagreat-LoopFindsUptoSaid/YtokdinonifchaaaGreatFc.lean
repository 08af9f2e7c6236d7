/-
  Contracts: the reference explores.
-/
import Derived.Test.YtokdinonifchaaaGreatRc
import Derived.Test.YtokdinonifchaaaGreatFb
section
set_option linter.unusedVariables false
set_option linter.unusedSimpArgs false
set_option maxRecDepth 100000
namespace Go.Dw
mutual
def posT : Term → List (List Int)
  | .mk n v l => [] :: posTs l 0
def posTs : List Term → Nat → List (List Int)
  | [], _ => []
  | a :: l, i => (posT a).map ((i : Int) :: ·) ++ posTs l (i + 1)
end
theorem posT_eq (t : Term) : posT t = [] :: posTs t.args 0 := by cases t; simp [posT, Term.args]
mutual
theorem visit_pos : ∀ (t : Term) (p : List Int), (visit t p).map Prod.fst = (posT t).map (p ++ ·)
  | .mk n v l, p => by
    simp only [visit, posT, List.map_cons, List.append_nil, visits_pos l p 0]
theorem visits_pos : ∀ (l : List Term) (p : List Int) (i : Nat), (visits l p i).map Prod.fst = (posTs l i).map (p ++ ·)
  | [], p, i => rfl
  | a :: l, p, i => by
    simp only [visits, posTs, List.map_append, visit_pos a, visits_pos l p (i + 1), List.map_map]
    congr 1
    apply List.map_congr_left
    intro q _; simp
end
theorem posTs_append (a b : List Term) (i : Nat) : posTs (a ++ b) i = posTs a i ++ posTs b (i + a.length) := by
  induction a generalizing i with
  | nil => simp [posTs]
  | cons x xs ih => simp only [List.cons_append, posTs, ih, List.append_assoc, List.length_cons]; congr 3; omega
theorem posTs_snoc (l : List Term) {k : Nat} (hk : k < l.length) : posTs (l.take (k + 1)) 0 = posTs (l.take k) 0 ++ (posT (l.getD k default)).map ((k : Int) :: ·) := by
  rw [List.take_succ_eq_append_getElem hk, posTs_append, List.length_take, Nat.min_eq_left (by omega)]
  simp [posTs, List.getD_eq_getElem?_getD, List.getElem?_eq_getElem hk]
theorem posT_len (t : Term) : (posT t).length = size t := by
  have h := congrArg List.length (visit_pos t [])
  simp only [List.length_map] at h
  rw [← h]; exact visit_len t []
theorem posTs_len : ∀ (l : List Term) (i : Nat), (posTs l i).length = sizes l
  | [], i => rfl
  | a :: l, i => by simp only [posTs, List.length_append, List.length_map, posT_len, posTs_len l (i + 1), sizes]
theorem posT_short (t : Term) : ∀ p ∈ posT t, p.length ≤ size t := by
  intro p hp
  have h := visit_pos t []
  have : p ∈ (posT t).map ([] ++ ·) := by simpa using hp
  rw [← h] at this
  obtain ⟨x, hx, rfl⟩ := List.mem_map.1 this
  have := (visit_sub t [] x hx).2
  simpa using this
theorem own_pos {i : Nat} {l : List (List Int)} {p : List Int} : (.own i 1 (l.map cPp ++ [[encP p]]) : V) = ownL cPp i 1 (l ++ [p]) := by simp [ownL, cPp]
theorem r01_Positions_s (t : Term) (hs : size t < 2 ^ 38) : PF n_r01_Positions [encT t] (encPs (posT t)) := by
  induction t using term_ind with
  | h t ih =>
  refine pf_of r01_Positions.ok rfl ?_
  have hst := size_args t
  have hl := length_le_sizes t.args
  push_cast
  rw [show (V.own 0 1 [[V.sl 1 []]] : V) = ownL cPp 0 1 ([] :: posTs (t.args.take 0) 0) from rfl]
  refine loop_up (n := t.args.length) (R := fun k => r01_Positions.L6 (ownL cPp 0 1 ([] :: posTs (t.args.take k) 0)) (encTs t.args) (.int .i64 t.args.length) (.int .i64 k) 0 [.arr t_s_int 1 (1 + sizes (t.args.take k))] (Ends 0 r01_Positions.rs fun x' H' => x' = encPs (posT t) ∧ H' = [])) ?_ ?_ 0 (Nat.zero_le _)
  · intro k hk ih2
    have hm := getD_mem hk
    have hsn := posTs_snoc t.args hk
    have hss := sizes_take_succ t.args k hk
    have hsl := sizes_take_le t.args (k + 1)
    have hsz := size_mem hm
    refine r01_Positions.G6 ?_
    generalize hx : t.args.getD k default = a at hm hsn hss hsz
    push_cast [ilt hk, hx]
    refine .of (ih a hm (by omega)) ?_
    push_cast
    have hpl := posT_len a
    have h0 := loop_up (n := (posT a).length) (R := fun j => r01_Positions.L4 (ownL cPp 0 1 ([] :: (posTs (t.args.take k) 0 ++ ((posT a).take j).map ((k : Int) :: ·)))) (.int .i64 k) (encTs t.args) (.int .i64 t.args.length) (.int .i64 k) (encPs (posT a)) (.int .i64 (posT a).length) (.int .i64 j) 0 [.arr t_s_int 1 (1 + sizes (t.args.take k) + j), .dead] (Ends 0 r01_Positions.rs fun x' H' => x' = encPs (posT t) ∧ H' = [])) ?_ ?_ 0 (Nat.zero_le _)
    · simp only [List.take_zero, List.map_nil, List.append_nil, Nat.add_zero] at h0
      exact h0
    · intro j hj ih3
      have hmj := getD_mem hj
      have hsj := posT_short a _ hmj
      refine r01_Positions.G4 ?_
      have htk : (posT a).take (j + 1) = (posT a).take j ++ [(posT a).getD j default] := by rw [List.take_succ_eq_append_getElem hj]; simp [List.getD_eq_getElem?_getD, hj]
      generalize hq : (posT a).getD j default = q at hmj hsj htk
      push_cast [ilt hj, hq]
      have e1 : (posTs (t.args.take k) 0).length = sizes (t.args.take k) := posTs_len _ _
      have e2 : (List.map (fun x => (k : Int) :: x) ((posT a).take j)).length = j := by simp; omega
      have e3 : (List.map cI q).length = q.length := by simp
      have e4 : ∀ X : List (List Int), V.own 0 1 (cPp [] :: (List.map cPp X ++ [[V.sl 1 ([V.int IntKind.i64 ↑k] :: List.map cI q)]])) = ownL cPp 0 1 ([] :: (X ++ [(k : Int) :: q])) := fun X => by simp [ownL, cPp, encL, cI]
      rw [e1, e2, e3, e4, w64 (show j < 2 ^ 62 by omega)]
      rw [htk, List.map_append, ← List.append_assoc] at ih3
      have hme : maxEls = 140737488355328 := rfl
      refine ⟨by omega, ⟨by omega, by omega⟩, ?_⟩
      rw [show sizes (t.args.take k) + j + 1 + 1 = 1 + sizes (t.args.take k) + (j + 1) by omega]
      exact ih3
    · refine r01_Positions.G4 ?_
      push_cast [inlt (Nat.le_refl _)]
      rw [List.take_length, w64 (show k < 2 ^ 62 by omega), ← hsn, hpl, Nat.add_assoc, ← hss]
      exact ih2
  · refine r01_Positions.G6 ?_
    push_cast [inlt (Nat.le_refl _)]
    refine pf_ret ?_
    push_cast [r01_Positions.rs, List.take_length, posT_eq t]
    try rfl
end Go.Dw
end
section
set_option linter.unusedVariables false
set_option linter.unusedSimpArgs false
set_option maxRecDepth 100000
namespace Go.Dw
mutual
theorem visit_at : ∀ (t : Term) (p : List Int), ∀ x ∈ visit t p, ∃ q, x.1 = p ++ q ∧ subT t q = some x.2
  | .mk n v l, p, x, hx => by
    simp only [visit] at hx
    rcases List.mem_cons.1 hx with rfl | hx
    · exact ⟨[], by simp, rfl⟩
    · obtain ⟨k, q, h1, h2, h3⟩ := visits_at l p 0 x hx
      refine ⟨(k : Int) :: q, by simpa using h1, ?_⟩
      rw [show subT (.mk n v l) ((k : Int) :: q) = if 0 ≤ (k : Int) ∧ (k : Int) < l.length then subT (l.getD (k : Int).toNat default) q else none from rfl, if_pos ⟨by omega, by omega⟩]
      simpa using h3
theorem visits_at : ∀ (l : List Term) (p : List Int) (i : Nat), ∀ x ∈ visits l p i, ∃ (k : Nat) (q : List Int), x.1 = p ++ ((i + k : Nat) : Int) :: q ∧ k < l.length ∧ subT (l.getD k default) q = some x.2
  | [], p, i, x, hx => by simp [visits] at hx
  | a :: l, p, i, x, hx => by
    simp only [visits, List.mem_append] at hx
    rcases hx with hx | hx
    · obtain ⟨q, h1, h2⟩ := visit_at a _ x hx
      exact ⟨0, q, by simpa using h1, by simp, by simpa using h2⟩
    · obtain ⟨k, q, h1, h2, h3⟩ := visits_at l p (i + 1) x hx
      refine ⟨k + 1, q, ?_, by simp; omega, by simpa using h3⟩
      rw [h1]; congr 3; omega
end
theorem visit_get (t : Term) {k : Nat} (hk : k < (posT t).length) : subT t ((posT t).getD k default) = some ((visit t []).getD k default).2 ∧ ((visit t []).getD k default).1 = (posT t).getD k default := by
  have hl : k < (visit t []).length := by rw [visit_len]; rw [posT_len] at hk; exact hk
  have hm : (visit t []).getD k default ∈ visit t [] := getD_mem hl
  obtain ⟨q, h1, h2⟩ := visit_at t [] _ hm
  have h3 := visit_pos t []
  have h4 : ((visit t []).map Prod.fst).getD k default = ((posT t).map ([] ++ ·)).getD k default := by rw [h3]
  have h5 : ((visit t []).getD k default).1 = (posT t).getD k default := by
    simp only [List.getD_eq_getElem?_getD, List.getElem?_map, List.getElem?_eq_getElem hl, List.getElem?_eq_getElem hk, Option.map_some, Option.getD_some, List.nil_append] at h4 ⊢
    exact h4
  refine ⟨?_, h5⟩
  rw [← h5, h1, List.nil_append]; exact h2
theorem atK_var {r : List ARule} {p : List Int} {s : Term} (hnv : ∀ x ∈ r, x.left.var = false) (hs : s.var = true) : ∀ k, k ≤ r.length → atK r p s k = []
  | 0, _ => rfl
  | k + 1, hk => by
    simp only [atK, atK_var hnv hs k (by omega), List.nil_append]
    rw [matchT_eq, hnv _ (getD_mem (show k < r.length by omega))]
    simp [hs]
theorem atE_K {r : List ARule} {p : List Int} {s : Term} (hnv : ∀ x ∈ r, x.left.var = false) : atE r p s = atK r p s r.length := by
  unfold atE
  split
  · rename_i h; exact (atK_var hnv h _ (Nat.le_refl _)).symm
  · rfl
theorem own_stp {i : Nat} {l : List AStep} {s : AStep} : (.own i 2 (l.map cSt ++ [cSt s]) : V) = ownL cSt i 2 (l ++ [s]) := by simp [ownL]
theorem allL_take (r : List ARule) (l : List (List Int × Term)) {k : Nat} (hk : k < l.length) : allL r (l.take (k + 1)) = allL r (l.take k) ++ atE r (l.getD k default).1 (l.getD k default).2 := by
  rw [List.take_succ_eq_append_getElem hk, allL_snoc]; simp [List.getD_eq_getElem?_getD, hk]
theorem r04_all_s (r : List ARule) (t : Term) (hr : rbs r < 2 ^ 28) (hnv : ∀ x ∈ r, x.left.var = false) (ht : tb t < 2 ^ 28) (hm : size t * r.length < 2 ^ 38) : PF n_r04_all [encRs r, encT t] (encSts (allE r t)) := by
  have hst := size_le_tb t
  have hvl : (visit t []).length = size t := visit_len t []
  have hpl := posT_len t
  have hrl := length_le_rbs r
  refine pf_of r04_all.ok rfl ?_
  push_cast
  refine .of (r01_Positions_s t (by omega)) ?_
  push_cast
  have hAl : ∀ k, (allL r ((visit t []).take k)).length ≤ size t * r.length := fun k => Nat.le_trans (allL_len r _) (Nat.mul_le_mul_right _ (by rw [List.length_take]; omega))
  refine loop_up (n := (posT t).length) (R := fun k => r04_all.L6 (encRs r) (.ro (cT t) 0) (ownL cSt 0 2 (allL r ((visit t []).take k))) (encPs (posT t)) (.int .i64 (posT t).length) (.int .i64 k) 0 [.arr t_Step 2 (allL r ((visit t []).take k)).length] (Ends 0 r04_all.rs fun x' H' => x' = encSts (allE r t) ∧ H' = [])) ?_ ?_ 0 (Nat.zero_le _)
  · intro k hk ih
    have hkv : k < (visit t []).length := by omega
    obtain ⟨hv1, hv2⟩ := visit_get t hk
    have hvm := getD_mem hkv
    have hsub := visit_sub t [] _ hvm
    have htk := allL_take r (visit t []) hkv
    have hAk := hAl k
    have hAk1 := hAl (k + 1)
    have hps := posT_short t _ (getD_mem hk)
    rw [htk] at ih hAk1
    refine r04_all.G6 ?_
    generalize hx : (visit t []).getD k default = x at hv1 hv2 hsub htk ih hAk1 hvm
    generalize hp : (posT t).getD k default = p at hv1 hv2 hps
    rw [hv2, atE_K hnv] at ih hAk1
    rw [List.length_append] at hAk1
    generalize allL r ((visit t []).take k) = A at ih hAk hAk1 ⊢
    push_cast [ilt hk, hp]
    refine .of (r01_At_s t p (by omega) (by omega)) ?_
    rw [hv1]
    push_cast [encOT]
    have h0 := loop_up (n := r.length) (R := fun j => r04_all.L4 (encRs r) (.ro (cT t) 0) (ownL cSt 0 2 (A ++ atK r p x.2 j)) (encP p) (.ro (cT x.2) 0) (encPs (posT t)) (.int .i64 (posT t).length) (.int .i64 k) (.int .i64 r.length) (.int .i64 j) 0 [.arr t_Step 2 (A ++ atK r p x.2 j).length, .dead] (Ends 0 r04_all.rs fun x' H' => x' = encSts (allE r t) ∧ H' = [])) ?_ ?_ 0 (Nat.zero_le _)
    · simp only [atK, List.append_nil] at h0
      exact h0
    · intro j hj ih2
      have hmj := getD_mem hj
      have hmm := rbs_mem hmj
      refine r04_all.G4 ?_
      have hsucc : atK r p x.2 (j + 1) = atK r p x.2 j ++ (if (matchT [] (r.getD j default).left x.2).2 then [⟨j, p⟩] else []) := rfl
      rw [hsucc] at ih2
      have hjl := atK_len r p x.2 j
      generalize hru : r.getD j default = ru at hmm ih2
      have hM := matchR_T ru.left [] x.2
      push_cast [ilt hj, hru]
      refine .of (r03_Match_s ru.left x.2 (by omega) (by have := subT_tb _ _ _ hv1; omega)) ?_
      rw [hM.1]
      cases hb : (matchT [] ru.left x.2).2 with
      | false =>
        rw [hb] at ih2
        push_cast [w64 (show j < 2 ^ 62 by omega)]
        simp only [Bool.false_eq_true, if_false, List.append_nil] at ih2
        rw [List.length_append] at ih2
        push_cast at ih2
        exact ih2
      | true =>
        rw [hb] at ih2
        have hsn : (V.int .i64 j :: [encP p]) = cSt ⟨j, p⟩ := rfl
        push_cast [w64 (show j < 2 ^ 62 by omega)]
        simp only [if_true, ← List.append_assoc] at ih2
        have hme : maxEls = 140737488355328 := rfl
        refine ⟨by omega, ?_⟩
        rw [show (V.own 0 2 (List.map cSt (A ++ atK r p x.snd j) ++ [[V.int IntKind.i64 ↑j, encL cI 1 p]]) : V) = ownL cSt 0 2 (A ++ atK r p x.snd j ++ [⟨j, p⟩]) from own_stp (s := ⟨j, p⟩), List.append_assoc]
        rw [List.length_append, List.length_append, List.length_singleton] at ih2
        push_cast at ih2
        exact ih2
    · refine r04_all.G4 ?_
      push_cast [inlt (Nat.le_refl _), w64 (show k < 2 ^ 62 by omega)]
      rw [List.length_append] at ih
      push_cast at ih
      exact ih
  · refine r04_all.G6 ?_
    push_cast [inlt (Nat.le_refl _)]
    rw [List.take_of_length_le (by omega)]
    exact pf_ret (by push_cast [r04_all.rs]; rfl)
section
variable {P : Program} {N : Nat → C} {B : Nat} {ds : List Nat} {g l : List S} {s : List K} {t : T} {H : List Ob} {Q : X → T → List Ob → Prop}
theorem gP_tt : gP P N B true ds g l s t H Q (.bool true) = Run P N B (.r (g ++ l) :: s) t H Q := by simp [gP]
theorem gP_ff : gP P N B false ds g l s t H Q (.bool false) = Run P N B (.r (g ++ l) :: s) t H Q := by simp [gP]
theorem gP_tf : gP P N B true ds g l s t H Q (.bool false) = Run P N B (.r l :: s) (ds.map (fun d => (d, V.tup [])) ++ t) H Q := by simp [gP]
theorem gP_ft : gP P N B false ds g l s t H Q (.bool true) = Run P N B (.r l :: s) (ds.map (fun d => (d, V.tup [])) ++ t) H Q := by simp [gP]
theorem cP_t {a b : C} : cP P N B a b s t H Q (.bool true) = Run P N B (.c a :: s) t H Q := by simp [cP]
theorem cP_f {a b : C} : cP P N B a b s t H Q (.bool false) = Run P N B (.c b :: s) t H Q := by simp [cP]
end
theorem r04_Redexes_s (r : List ARule) (t : Term) (hr : rbs r < 2 ^ 28) (hnv : ∀ x ∈ r, x.left.var = false) (ht : tb t < 2 ^ 28) (hm : size t * r.length < 2 ^ 38) : PF n_r04_Redexes [encRs r, encT t, .int .i64 1] (encSts (allE r t)) := by
  refine pf_of r04_Redexes.ok rfl ?_
  push_cast
  refine .of (r04_all_s r t hr hnv ht hm) ?_
  push_cast
  have hA : (allE r t).length ≤ size t * r.length := by have h1 := allL_len r (visit t []); rw [visit_len] at h1; exact h1
  generalize allE r t = L at hA ⊢
  rw [show (V.own 0 2 [] : V) = ownL cSt 0 2 (L.take 0) from rfl]
  refine loop_up (n := L.length) (R := fun k => r04_Redexes.L7 (.int .i64 1) (encSts L) (ownL cSt 0 2 (L.take k)) (encSts L) (.int .i64 L.length) (.int .i64 k) 0 [.arr t_Step 2 k] (Ends 0 r04_Redexes.rs fun x' H' => x' = encSts L ∧ H' = [])) ?_ ?_ 0 (Nat.zero_le _)
  · intro k hk ih
    have htk : L.take (k + 1) = L.take k ++ [L.getD k default] := by rw [List.take_succ_eq_append_getElem hk]; simp [List.getD_eq_getElem?_getD, hk]
    have hlk : (L.take k).length = k := by simp; omega
    rw [htk] at ih
    refine r04_Redexes.G7 ?_
    generalize hs : L.getD k default = s at ih
    generalize L.take k = A at ih hlk ⊢
    have c2 : ((1 : Int) = 2) = False := eq_false (by omega)
    have c3 : ((1 : Int) = 3) = False := eq_false (by omega)
    have c4 : ((1 : Int) = 4) = False := eq_false (by omega)
    have c5 : ((1 : Int) = 5) = False := eq_false (by omega)
    push_cast [-gP_bool, -cP_bool, gP_tt, gP_ff, gP_tf, gP_ft, cP_t, cP_f, ilt hk, hs, c2, c3, c4, c5]
    push_cast [own_stp, hlk, w64 (show k < 2 ^ 62 by omega)]
    push_cast at ih
    exact ⟨by unfold maxEls; omega, ih⟩
  · refine r04_Redexes.G7 ?_
    push_cast [inlt (Nat.le_refl _)]
    rw [List.take_length]
    exact pf_ret (by push_cast [r04_Redexes.rs])
end Go.Dw
end
section
set_option linter.unusedVariables false
set_option linter.unusedSimpArgs false
set_option maxRecDepth 100000
namespace Go.Dw
attribute [push_cast] gP_tt gP_ff gP_tf gP_ft cP_t cP_f
def fiV : Option Nat → Int
  | some k => k
  | none => -1
theorem findI_app (t : Term) : ∀ (l : List Term) (k : Nat), (∀ x ∈ l.take k, x ≠ t) → findI l t = (findI (l.drop k) t).map (· + k)
  | [], k, _ => by simp [findI]
  | x :: l, 0, _ => by simp
  | x :: l, k + 1, h => by
    have h1 := h x (by simp)
    simp only [findI, if_neg h1, List.drop_succ_cons]
    rw [findI_app t l k fun y hy => h y (by simp [hy])]
    cases findI (l.drop k) t <;> simp; omega
theorem r05_Find_s (l : List Term) (t : Term) (hl : l.length < 2 ^ 62) (hs : ∀ x ∈ l, tb x < 2 ^ 62) (ht : tb t < 2 ^ 62) : PF n_r05_Find [encTs l, encT t] (.int .i64 (fiV (findI l t))) := by
  refine pf_of r05_Find.ok rfl ?_
  push_cast
  refine loop_up (n := l.length) (R := fun k => (∀ x ∈ l.take k, x ≠ t) → r05_Find.L3 (encTs l) (.ro (cT t) 0) (.int .i64 l.length) (.int .i64 k) 0 [] (Ends 0 r05_Find.rs fun x H => x = .int .i64 (fiV (findI l t)) ∧ H = [])) ?_ ?_ 0 (Nat.zero_le _) (by simp)
  · intro k hk ih hn
    have htk : l.take (k + 1) = l.take k ++ [l.getD k default] := by rw [List.take_succ_eq_append_getElem hk]; simp [List.getD_eq_getElem?_getD, hk]
    have hix := findI_app t l k hn
    have hm := getD_mem hk
    rw [drop_getD hk] at hix
    refine r05_Find.G3 ?_
    generalize hx : l.getD k default = x at htk hix hm
    push_cast [ilt hk, hx]
    refine .of (r01_Equal_s x t (hs x hm) ht) ?_
    by_cases he : x = t
    · push_cast [eq_true he]
      simp only [findI, if_pos he, Option.map_some, Nat.zero_add] at hix
      rw [hix]
      exact pf_ret (by push_cast [r05_Find.rs]; rfl)
    · push_cast [eq_false he, w64 (show k < 2 ^ 62 by omega)]
      push_cast at ih
      refine ih ?_
      rw [htk]
      intro y hy
      rcases List.mem_append.1 hy with hy | hy
      · exact hn y hy
      · rw [List.mem_singleton.1 hy]; exact he
  · intro hn
    refine r05_Find.G3 ?_
    push_cast [inlt (Nat.le_refl _)]
    have hix := findI_app t l l.length hn
    simp only [List.drop_length, findI, Option.map_none] at hix
    rw [hix]
    exact pf_ret (by push_cast [r05_Find.rs]; rfl)
abbrev erH (g : AGraph) : List Ob := [.cells t_Graph [.sl 3 [], .sl 4 [], .bool false], .arr t_Term 3 g.terms.length, .cells t_Graph [ownL cT 1 3 g.terms, ownL cEd 3 4 g.edges, .bool g.whole], .arr t_Edge 4 g.edges.length]
theorem own_trm {i : Nat} {l : List Term} {x : Term} : (.own i 3 (l.map cT ++ [cT x]) : V) = ownL cT i 3 (l ++ [x]) := by simp [ownL]
theorem r05_Explore_loop (r : List ARule) (most : Nat) (res : AGraph × Int) (hr : rbs r < 2 ^ 28) (hr64 : r.length ≤ 64) (hrc : ∀ x ∈ r, check x.left = 0 ∧ check x.right = 0) (hnv : ∀ x ∈ r, x.left.var = false) (hm2 : most ≤ 4096) :
    ∀ (n i : Nat) (g : AGraph), i + n = most → GOk most g → g.edges.length ≤ i * 262144 → runG r most n i g = res →
      r05_Explore.L8 (encRs r) (.int .i64 most) (.ptr 0 0) (.ptr 2 0) (.int .i64 i) 0 (erH g) (Ends 0 r05_Explore.rs fun x' H' => x' = .tup [encG res.1, .int .i64 res.2] ∧ H' = []) := by
  have fin : ∀ (i : Nat) (g : AGraph), g.terms.length ≤ i → res = (g, 0) → r05_Explore.L8 (encRs r) (.int .i64 most) (.ptr 0 0) (.ptr 2 0) (.int .i64 i) 0 (erH g) (Ends 0 r05_Explore.rs fun x' H' => x' = .tup [encG res.1, .int .i64 res.2] ∧ H' = []) := by
    intro i g hl he
    subst he
    refine r05_Explore.G8 ?_
    push_cast [inlt hl]
    refine pf_ret ?_
    push_cast [r05_Explore.rs]
    rfl
  intro n
  induction n with
  | zero => intro i g hi hg _ hres; exact fin i g (by have := hg.len; omega) hres.symm
  | succ n ih =>
    intro i g hi hg he hres
    simp only [runG] at hres
    cases hti : g.terms[i]? with
    | none =>
      rw [hti] at hres
      exact fin i g (List.getElem?_eq_none_iff.1 hti) hres.symm
    | some t =>
      rw [hti] at hres
      have hil : i < g.terms.length := (List.getElem?_eq_some_iff.1 hti).1
      have htc := hg.check t (List.mem_of_getElem? hti)
      have hgt := check_good htc
      have htb := good_tb hgt
      have hgD : g.terms.getD i default = t := by simp [List.getD_eq_getElem?_getD, hti]
      refine r05_Explore.G8 ?_
      push_cast [ilt hil, hgD]
      have hA : size t * r.length ≤ 4000 * 64 := Nat.mul_le_mul hgt.2 hr64
      refine .of (r04_Redexes_s r t hr hnv (by omega) (by omega)) ?_
      have hAl : (allE r t).length ≤ 256000 := by have := allL_len r (visit t []); rw [visit_len] at this; exact Nat.le_trans this hA
      simp only at hres
      generalize hL : allE r t = L at hres hAl ⊢
      push_cast
      refine loop_up (n := L.length) (R := fun k => ∀ g', GOk most g' → g'.terms[i]? = some t → g'.edges.length ≤ i * 262144 + k → contO (rowE r most i t (L.drop k) g') (runG r most n (i + 1)) = res →
        r05_Explore.L6 (encRs r) (.int .i64 most) (.ptr 0 0) (.ptr 2 0) (.int .i64 i) (encSts L) (.int .i64 L.length) (.int .i64 k) 0 (erH g') (Ends 0 r05_Explore.rs fun x' H' => x' = .tup [encG res.1, .int .i64 res.2] ∧ H' = [])) ?_ ?_ 0 (Nat.zero_le _) g hg hti (Nat.le_trans he (Nat.le_add_right _ _)) (by rw [List.drop_zero]; exact hres)
      · intro k hk ih2 g' hg' hti' he' hq
        have hil' : i < g'.terms.length := (List.getElem?_eq_some_iff.1 hti').1
        have hl' := hg'.len
        rw [drop_getD hk] at hq
        have hm := getD_mem hk
        generalize hs : L.getD k default = s at hm hq
        have hgD' : g'.terms.getD i default = t := by simp [List.getD_eq_getElem?_getD, hti']
        refine r05_Explore.G6 ?_
        push_cast [ilt hk, hs, ilt hil', hgD']
        have hpl := allE_pos (hL ▸ hm)
        refine .of (r04_Step_s r t s hr (fun x hx => ⟨check_good (hrc x hx).1, check_good (hrc x hx).2⟩) hgt (by have := hgt.2; omega)) ?_
        cases hd : (doE r t s).1 with
        | none =>
          have hne : (doE r t s).2 ≠ 0 := doE_none (e := (doE r t s).2) (by rw [← hd])
          rw [rowE_none hd, contO_bad hne] at hq
          subst hq
          push_cast [encTE, hne]
          refine pf_ret ?_
          push_cast [r05_Explore.rs]
          rfl
        | some u =>
          obtain ⟨huc, he0⟩ := doE_check hrc htc (show doE r t s = (some u, (doE r t s).2) by rw [← hd])
          have hgu := check_good huc
          have hub := good_tb hgu
          push_cast [encTE, he0]
          refine .of (r05_Find_s g'.terms u (by omega) (fun x hx => by have := good_tb (check_good (hg'.check x hx)); omega) (by omega)) ?_
          have hsn : ∀ i j : Nat, (V.int .i64 i :: V.int .i64 j :: cSt s) = cEd ⟨i, j, s⟩ := fun _ _ => rfl
          cases hf : findI g'.terms u with
          | some j =>
            rw [rowE_some hd (by unfold addG; rw [hf])] at hq
            have hneg : ((j : Int) < 0) = False := eq_false (by omega)
            push_cast [fiV, hneg, w64 (show k < 2 ^ 62 by omega), put_cSt, cSt_len2, hsn, own_edge]
            have := ih2 (edgeG g' i j s) ⟨hg'.check, hg'.len⟩ hti' (by simp only [edgeG, List.length_append, List.length_singleton]; omega) hq
            simp only [edgeG] at this
            push_cast at this
            refine ⟨Nat.le_trans (Nat.mul_le_mul_right 48 (show _ ≤ 2 ^ 41 by omega)) (by unfold maxEls; decide), ?_⟩
            rw [show g'.edges.length + 1 = (g'.edges ++ [(⟨(i : Int), (j : Int), s⟩ : AEdge)]).length from by simp]
            exact this
          | none =>
            have hneg : ((-1 : Int) < 0) = True := eq_true (by omega)
            by_cases hfull : most ≤ g'.terms.length
            · rw [rowE_full (g2 := ⟨g'.terms, g'.edges, false⟩) hd (by unfold addG; rw [hf]; simp only [if_pos hfull])] at hq
              have hfi : ((most : Int) ≤ (g'.terms.length : Int)) = True := eq_true (by omega)
              push_cast [fiV, hneg, hfi, w64 (show k < 2 ^ 62 by omega)]
              have := ih2 ⟨g'.terms, g'.edges, false⟩ ⟨hg'.check, hg'.len⟩ hti' (by show g'.edges.length ≤ _; omega) hq
              push_cast at this
              exact this
            · rw [rowE_some (k := g'.terms.length) (g2 := ⟨g'.terms ++ [u], g'.edges, g'.whole⟩) hd (by unfold addG; rw [hf]; simp only [if_neg hfull])] at hq
              have hfi : ((most : Int) ≤ (g'.terms.length : Int)) = False := eq_false (by omega)
              have hg4 : GOk most ⟨g'.terms ++ [u], g'.edges, g'.whole⟩ := by
                have h1 := addG_ok hg' huc
                unfold addG at h1; rw [hf] at h1; simp only [if_neg hfull] at h1; exact h1
              push_cast [fiV, hneg, hfi, w64 (show k < 2 ^ 62 by omega), put_cSt, cSt_len2, hsn, own_edge, own_trm]
              have := ih2 (edgeG ⟨g'.terms ++ [u], g'.edges, g'.whole⟩ i g'.terms.length s) ⟨hg4.check, hg4.len⟩ (by rw [← hti']; exact List.getElem?_append_left hil') (by simp only [edgeG, List.length_append, List.length_singleton]; omega) hq
              simp only [edgeG] at this
              push_cast at this
              refine ⟨by unfold maxEls; omega, Nat.le_trans (Nat.mul_le_mul_right 48 (show _ ≤ 2 ^ 41 by omega)) (by unfold maxEls; decide), ?_⟩
              rw [show g'.edges.length + 1 = (g'.edges ++ [(⟨(i : Int), (g'.terms.length : Int), s⟩ : AEdge)]).length from by simp, show g'.terms.length + 1 = (g'.terms ++ [u]).length from by simp]
              exact this
      · intro g' hg' hti' he' hq
        rw [drop_map_none] at hq
        refine r05_Explore.G6 ?_
        push_cast [inlt (Nat.le_refl _), w64 (show i < 2 ^ 62 by omega)]
        have := ih (i + 1) g' (by omega) hg' (by omega) (by rw [← hq]; rfl)
        push_cast at this
        exact this
theorem r05_Explore_s (r : List ARule) (t : Term) (most : Nat) (hr : rbs r < 2 ^ 28) (hr64 : r.length ≤ 64) (hrc : ∀ x ∈ r, check x.left = 0 ∧ check x.right = 0) (hnv : ∀ x ∈ r, x.left.var = false) (ht : check t = 0) (hm1 : 1 ≤ most) (hm2 : most ≤ 4096) :
    PF n_r05_Explore [encRs r, encT t, .int .i64 most] (.tup [encG (exploreE r t most).1, .int .i64 (exploreE r t most).2]) := by
  refine pf_of r05_Explore.ok rfl ?_
  push_cast
  exact r05_Explore_loop r most _ hr hr64 hrc hnv hm2 most 0 ⟨[t], [], true⟩ (by omega) ⟨by simpa using ht, by simpa using hm1⟩ (by simp) rfl
end Go.Dw
end
