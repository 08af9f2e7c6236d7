/-
  Contracts: the symbols of the reference.
-/
import Derived.Test.YtokdinonifchaaaGreatXe
set_option linter.unusedVariables false
set_option linter.unusedSimpArgs false
set_option maxRecDepth 100000
namespace Go.Dw
structure ASym where
  name : Str
  arity : Int
  deriving Inhabited, DecidableEq
def cSy (s : ASym) : List V := [.str s.name, .int .i64 s.arity]
abbrev encSys (l : List ASym) : V := encL cSy 2 l
theorem cSy_len (s : ASym) : (cSy s).length = 2 := rfl
theorem cSy_0 (s : ASym) : (cSy s)[0]? = some (.str s.name) := rfl
theorem cSy_1 (s : ASym) : (cSy s)[1]? = some (.int .i64 s.arity) := rfl
theorem own_sym {i : Nat} {l : List ASym} {n : Str} {k : Int} : (.own i 2 (l.map cSy ++ [[V.str n, .int .i64 k]]) : V) = ownL cSy i 2 (l ++ [⟨n, k⟩]) := by simp [ownL, cSy]
attribute [push_cast] cSy_len cSy_0 cSy_1
abbrev syAt (l : List ASym) (n : Str) : Nat := lbg (fun x => decide (x.name < n)) l
def insSy (l : List ASym) (n : Str) (k : Int) : List ASym := if syAt l n < l.length ∧ (l.getD (syAt l n) default).name = n then l else l.take (syAt l n) ++ ⟨n, k⟩ :: l.drop (syAt l n)
mutual
def symT (l : List ASym) : Term → List ASym × Bool
  | .mk n b ar => if b then (l, true) else if marked n then (l, false) else if ((insSy l n ar.length).getD (syAt l n) default).arity ≠ ar.length then (insSy l n ar.length, false) else symTs (insSy l n ar.length) ar
def symTs (l : List ASym) : List Term → List ASym × Bool
  | [] => (l, true)
  | a :: ar => if (symT l a).2 then symTs (symT l a).1 ar else (l, false)
end
theorem symT_eq (l : List ASym) (t : Term) : symT l t = if t.var then (l, true) else if marked t.name then (l, false) else if ((insSy l t.name t.args.length).getD (syAt l t.name) default).arity ≠ t.args.length then (insSy l t.name t.args.length, false) else symTs (insSy l t.name t.args.length) t.args := by cases t; rfl
theorem insSy_len (l : List ASym) (n : Str) (k : Int) : (insSy l n k).length ≤ l.length + 1 := by
  unfold insSy
  have := lbg_le (fun x : ASym => decide (x.name < n)) l
  split <;> simp <;> omega
theorem mem_insSy {l : List ASym} {n : Str} {k : Int} {x : ASym} (h : x ∈ insSy l n k) : x ∈ l ∨ x = ⟨n, k⟩ := by
  unfold insSy at h
  split at h
  · exact .inl h
  · simp only [List.mem_append, List.mem_cons] at h
    rcases h with h | h | h
    · exact .inl (List.mem_of_mem_take h)
    · exact .inr h
    · exact .inl (List.mem_of_mem_drop h)
/-- Few symbols, with short names. -/
def Few (M : Nat) (m : Nat) (l : List ASym) : Prop := l.length ≤ m ∧ ∀ x ∈ l, x.name.length < M
theorem Few.ins {M m : Nat} {l : List ASym} (h : Few M m l) {n : Str} {k : Int} (hn : n.length < M) : Few M (m + 1) (insSy l n k) := by
  refine ⟨by have := insSy_len l n k; have := h.1; omega, fun x hx => ?_⟩
  rcases mem_insSy hx with h1 | rfl
  · exact h.2 x h1
  · exact hn
mutual
theorem few_symT {M : Nat} : ∀ (t : Term) (m : Nat) (l : List ASym), Few M m l → tb t ≤ M → Few M (m + size t) (symT l t).1
  | .mk n b ar, m, l, h, ht => by
    simp only [tb] at ht
    have h0 : Few M (m + size (.mk n b ar)) l := ⟨by have := h.1; omega, h.2⟩
    have h1 := h.ins (n := n) (k := ar.length) (by omega)
    have h2 : Few M (m + size (.mk n b ar)) (insSy l n ar.length) := ⟨by have := h1.1; simp only [size]; omega, h1.2⟩
    have h3 := few_symTs ar (m + 1) _ h1 (by simp only [tbs]; omega)
    simp only [symT]
    split
    · exact h0
    split
    · exact h0
    split
    · exact h2
    · exact ⟨by have := h3.1; simp only [size]; omega, h3.2⟩
theorem few_symTs {M : Nat} : ∀ (ar : List Term) (m : Nat) (l : List ASym), Few M m l → tbs ar ≤ M → Few M (m + sizes ar) (symTs l ar).1
  | [], m, l, h, _ => by simpa [symTs, sizes] using h
  | a :: ar, m, l, h, ht => by
    simp only [tbs, tb.tbs] at ht
    have h1 := few_symT a m l h (by omega)
    have h2 := few_symTs ar _ _ h1 (by simp only [tbs]; omega)
    simp only [symTs]
    split
    · exact ⟨by have := h2.1; simp only [sizes]; omega, h2.2⟩
    · exact ⟨by have := h.1; show l.length ≤ _; omega, h.2⟩
end
theorem symTs_append (a b : List Term) : ∀ l : List ASym, (symTs l a).2 = true → symTs l (a ++ b) = symTs (symTs l a).1 b := by
  induction a with
  | nil => intro l _; rfl
  | cons x xs ih =>
    intro l h
    simp only [symTs, List.cons_append] at h ⊢
    by_cases hx : (symT l x).2 = true
    · rw [if_pos hx] at h ⊢
      rw [if_pos hx]
      exact ih _ h
    · rw [if_neg hx] at h
      cases h
set_option maxHeartbeats 1000000 in
theorem r01_symbols_s (t : Term) : ∀ (m : Nat) (l : List ASym), tb t < 2 ^ 39 → m + size t < 2 ^ 39 → Few (2 ^ 39) m l → PF n_r01_symbols [encT t, encSys l] (.tup [encSys (symT l t).1, .bool (symT l t).2]) := by
  induction t using term_ind with
  | h t ih =>
  intro m l htb hms hf
  have hst := size_args t
  have htb2 := tb_args t
  have hll := length_le_sizes t.args
  have hse := symT_eq l t
  have hl : l.length < 2 ^ 39 := by have := hf.1; omega
  refine pf_of r01_symbols.ok rfl ?_
  cases hv : t.var with
  | true =>
    rw [hv, if_pos rfl] at hse
    push_cast [hv]
    exact pf_ret (by push_cast [r01_symbols.rs, hse])
  | false =>
  rw [hv, if_neg (by simp)] at hse
  push_cast [hv]
  refine .of (r01_Marked_s t.name (by omega)) ?_
  cases hmk : hasSuf t.name [35] with
  | true =>
    have hmk' : marked t.name = true := hmk
    rw [hmk', if_pos rfl] at hse
    push_cast
    exact pf_ret (by push_cast [r01_symbols.rs, hse])
  | false =>
  have hmk' : marked t.name = false := hmk
  rw [hmk', if_neg (by simp)] at hse
  have hI := insSy_len l t.name t.args.length
  have hF := hf.ins (n := t.name) (k := t.args.length) (by omega)
  have hle : syAt l t.name ≤ l.length := lbg_le (fun x : ASym => decide (x.name < t.name)) l
  have hge : syAt l t.name < l.length → ¬ (l.getD (syAt l t.name) default).name < t.name := fun h => of_decide_eq_false (@lbg_ge _ _ (fun x : ASym => decide (x.name < t.name)) l h)
  have hlt : ∀ j, j < syAt l t.name → (l.getD j default).name < t.name := fun j h => of_decide_eq_true (@lbg_lt _ _ (fun x : ASym => decide (x.name < t.name)) l j h)
  have hat : syAt l t.name < (insSy l t.name t.args.length).length := by
    unfold insSy
    split
    · rename_i h; exact h.1
    · rw [List.length_append, List.length_take, List.length_cons, Nat.min_eq_left hle]; omega
  have hins : insSy l t.name t.args.length = if syAt l t.name < l.length ∧ (l.getD (syAt l t.name) default).name = t.name then l else l.take (syAt l t.name) ++ ⟨t.name, t.args.length⟩ :: l.drop (syAt l t.name) := rfl
  generalize insSy l t.name t.args.length = l1 at *
  have kids : (l1.getD (syAt l t.name) default).arity = t.args.length → r01_symbols.L3 (encSys l1) (encTs t.args) (.int .i64 t.args.length) (.int .i64 0) 0 [] (Ends 0 r01_symbols.rs fun x' H' => x' = .tup [encSys (symT l t).1, .bool (symT l t).2] ∧ H' = []) := by
    intro har
    rw [if_neg (by simpa using har)] at hse
    rw [hse]
    refine loop_up (n := t.args.length) (R := fun k => (symTs l1 (t.args.take k)).2 = true → r01_symbols.L3 (encSys (symTs l1 (t.args.take k)).1) (encTs t.args) (.int .i64 t.args.length) (.int .i64 k) 0 [] _) ?_ ?_ 0 (by omega) rfl
    · intro k hk ih2 hok
      have hm := getD_mem hk
      have hm3 := tb_mem hm
      have h3 := sizes_take_le t.args (k+1)
      rw [sizes_take_succ _ _ hk] at h3
      have hFk := few_symTs (t.args.take k) _ _ hF (by have := tbs_take_le t.args k; omega)
      have hcat : symTs l1 (t.args.take (k + 1)) = if (symT (symTs l1 (t.args.take k)).1 (t.args.getD k default)).2 then (symT (symTs l1 (t.args.take k)).1 (t.args.getD k default)) else ((symTs l1 (t.args.take k)).1, false) := by
        rw [take_succ_getD hk, symTs_append _ _ _ hok]
        simp only [symTs]
        split
        · rename_i h; exact Prod.ext rfl h.symm
        · rfl
      have hend : (symT (symTs l1 (t.args.take k)).1 (t.args.getD k default)).2 = false → symTs l1 t.args = ((symTs l1 (t.args.take k)).1, false) := by
        intro h
        conv => lhs; rw [← List.take_append_drop k t.args]
        rw [symTs_append _ _ _ hok, drop_getD hk]
        simp only [symTs, h]
        rfl
      refine r01_symbols.G3 ?_
      push_cast [ilt hk]
      refine .of (ih _ hm _ _ (by omega) (by omega) hFk) ?_
      cases hb : (symT (symTs l1 (t.args.take k)).1 (t.args.getD k default)).2 with
      | false =>
        push_cast
        refine pf_ret ?_
        push_cast [r01_symbols.rs, hend hb]
      | true =>
        rw [hb, if_pos rfl] at hcat
        push_cast [w64 (show k < 2 ^ 62 by omega)]
        rw [hcat] at ih2
        exact ih2 hb
    · intro hok
      rw [List.take_length] at hok
      refine r01_symbols.G3 ?_
      push_cast [inlt (Nat.le_refl _)]
      refine pf_ret ?_
      push_cast [r01_symbols.rs, List.take_length, hok]
  generalize syAt l t.name = a at *
  push_cast
  refine loop_up (n := a) (R := fun k => r01_symbols.L9 (encSys l) (.ro (cT t) 0) (.int .i64 k) 0 [] _) ?_ ?_ 0 (by omega)
  · intro k hk ih2
    have hkl : k < l.length := by omega
    have h1 : cmpS (l.getD k default).name t.name < 0 := cmpS_neg.2 (hlt k hk)
    refine r01_symbols.G9 ?_
    push_cast [ilt hkl]
    refine .of (r01_CompareNames_s _ _ (by have := hf.2 _ (getD_mem hkl); omega) (by omega)) ?_
    push_cast [h1, w64 (show k < 2 ^ 62 by omega)]
    exact ih2
  · refine r01_symbols.G9 ?_
    have tail : ∀ m : Nat, m ≤ 2 ^ 40 → ∀ b, b ≤ 64 → m * b ≤ maxEls := fun m hm b hb => Nat.le_trans (Nat.mul_le_mul hm hb) (by unfold maxEls; decide)
    have e1 : (l.drop 0).take (a - 0) = l.take a := by simp
    have e2 : (l.drop a).take (l.length - a) = l.drop a := by rw [List.take_of_length_le]; simp
    rcases Nat.lt_or_ge a l.length with h | h
    · have h2 : ¬ cmpS (l.getD a default).name t.name < 0 := fun hc => hge h (cmpS_neg.1 hc)
      have h3 : ((a : Int) = (l.length : Int)) = False := eq_false (by omega)
      push_cast [ilt h]
      refine .of (r01_CompareNames_s _ _ (by have := hf.2 _ (getD_mem h); omega) (by omega)) ?_
      by_cases he : (l.getD a default).name = t.name
      · rw [if_pos ⟨h, he⟩] at hins
        subst hins
        rw [he] at h2
        push_cast [h2, h3, he, ilt h]
        refine ⟨fun har => pf_ret ?_, fun har => kids (by simpa using har)⟩
        rw [if_pos har] at hse
        push_cast [r01_symbols.rs, hse]
      · rw [if_neg (fun hh => he hh.2)] at hins
        push_cast [h2, h3, he, ilt h, own_sym, e1, e2, List.cons_append, List.nil_append, ← hins, hat]
        refine ⟨⟨by omega, hle⟩, tail _ (by simp; omega) _ (by omega), tail _ (by simp; omega) _ (by omega), hle, ⟨by simp, tail _ (by simp; omega) _ (by omega)⟩, by omega, fun har => pf_ret ?_, fun har => kids (by simpa using har)⟩
        rw [if_pos har] at hse
        push_cast [r01_symbols.rs, hse]
    · rw [if_neg (fun hh => by omega)] at hins
      have h3 : ((a : Int) = (l.length : Int)) = True := eq_true (by omega)
      push_cast (maxSteps := 1000000) [inlt h, h3, own_sym, e1, e2, List.cons_append, List.nil_append, ← hins, hat]
      refine ⟨⟨by omega, hle⟩, tail _ (by simp; omega) _ (by omega), tail _ (by simp; omega) _ (by omega), hle, ⟨by simp, tail _ (by simp; omega) _ (by omega)⟩, by omega, fun har => pf_ret ?_, fun har => kids (by simpa using har)⟩
      rw [if_pos har] at hse
      push_cast [r01_symbols.rs, hse]
end Go.Dw
