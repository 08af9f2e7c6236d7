/-
  Contracts: exploring.
-/
import Derived.Test.YtokdinonifchaaaGreatXf
section
set_option linter.unusedVariables false
set_option linter.unusedSimpArgs false
set_option maxRecDepth 100000
namespace Go.Dw
mutual
def keyT : Term → Str
  | .mk n v l => n ++ ((if v then 63 else 40) :: (keyTs l ++ [41]))
def keyTs : List Term → Str
  | [] => []
  | a :: l => keyT a ++ keyTs l
end
theorem keyT_eq (t : Term) : keyT t = t.name ++ ((if t.var then 63 else 40) :: (keyTs t.args ++ [41])) := by
  cases t with | mk n v l => simp only [keyT, Term.var, Term.name, Term.args]; rfl
theorem keyTs_append (a b : List Term) : keyTs (a ++ b) = keyTs a ++ keyTs b := by
  induction a with
  | nil => simp [keyTs]
  | cons x a ih => simp [keyTs, ih]
theorem keyTs_snoc (l : List Term) {k : Nat} (hk : k < l.length) : keyTs (l.take (k + 1)) = keyTs (l.take k) ++ keyT (l.getD k default) := by
  rw [List.take_succ_eq_append_getElem hk, keyTs_append]
  simp [keyTs, List.getD_eq_getElem?_getD, List.getElem?_eq_getElem hk]
mutual
theorem keyT_len : ∀ t : Term, (keyT t).length ≤ 2 * tb t
  | .mk n v l => by
    have := keyTs_len l
    simp only [keyT, tb, List.length_append, List.length_cons, List.length_nil]
    simp only [tbs] at this
    omega
theorem keyTs_len : ∀ l : List Term, (keyTs l).length ≤ 2 * tbs l
  | [] => by simp [keyTs]
  | a :: l => by
    have h1 := keyT_len a
    have h2 := keyTs_len l
    simp only [keyTs, List.length_append, tbs, tb.tbs]
    simp only [tbs] at h2
    omega
end
theorem keyTs_take_le (l : List Term) (k : Nat) : (keyTs (l.take k)).length ≤ (keyTs l).length := by
  have h := keyTs_append (l.take k) (l.drop k)
  rw [List.take_append_drop] at h
  rw [h, List.length_append]; omega
theorem b2s_63 : b2sV [[V.int .u8 63]] = some [63] := rfl
theorem b2s_40 : b2sV [[V.int .u8 40]] = some [40] := rfl
theorem derive_key_s (t : Term) (hs : tb t < 2 ^ 60) : PF n_derive_key [encT t] (.str (keyT t)) := by
  induction t using term_ind with
  | h t ih =>
  refine pf_of derive_key.ok rfl ?_
  have htb := tb_args t
  have hl := length_le_tbs t.args
  have hkl := keyTs_len t.args
  have hcap : capMax = 9223372036854775807 := rfl
  have fin : ∀ (m : UInt8), (if t.var then 63 else 40) = m → Run prog derive_key.nd 0 [.c (.m 3), .c (.loop (.n 1)), .mk 0, .c (.n 0)] [(4, .str (t.name ++ [m])), (16, encTs t.args), (17, .int .i64 t.args.length), (18, .int .i64 0)] [] (Ends 0 derive_key.rs fun x H => x = .str (keyT t) ∧ H = []) := by
    intro m hm
    have h0 := loop_up (n := t.args.length) (R := fun k => derive_key.L3 (.str (t.name ++ m :: keyTs (t.args.take k))) (encTs t.args) (.int .i64 t.args.length) (.int .i64 k) 0 [] (Ends 0 derive_key.rs fun x H => x = .str (keyT t) ∧ H = [])) ?_ ?_ 0 (by omega)
    · simpa [keyTs] using h0
    · intro k hk ih2
      have h1 := keyTs_snoc _ hk
      have hm' := getD_mem hk
      have hsm := tb_mem hm'
      have hle := keyTs_take_le t.args (k + 1)
      refine derive_key.G3 ?_
      push_cast [ilt hk]
      refine .of (ih _ hm' (by omega)) ?_
      push_cast [w64 (show k < 2 ^ 62 by omega)]
      rw [h1] at ih2 hle
      rw [List.length_append] at hle
      refine ⟨by omega, ?_⟩
      exact ih2
    · refine derive_key.G3 ?_
      push_cast [inlt (Nat.le_refl _), List.take_length]
      refine ⟨by omega, ?_⟩
      refine pf_ret ?_
      push_cast [derive_key.rs, List.take_length]
      rw [keyT_eq, hm]
  cases hv : t.var with
  | true =>
    push_cast [hv, b2s_63]
    refine ⟨by omega, ?_⟩
    exact fin 63 (by rw [hv]; rfl)
  | false =>
    push_cast [hv, b2s_40]
    refine ⟨by omega, ?_⟩
    exact fin 40 (by rw [hv]; rfl)
end Go.Dw
end
section
set_option linter.unusedVariables false
set_option linter.unusedSimpArgs false
namespace Go.Dw
/-! the terms that are formed -/
def nodeOk (n : Str) (v : Bool) (k : Nat) : Bool := if v then decide (k = 0) && isName n false else decide (k ≤ 8) && isName n true
theorem formed_iff {t : Term} : formed t = true ↔ nodeOk t.name t.var t.args.length = true ∧ ∀ a ∈ t.args, formed a = true := by
  rw [formed_eq]
  unfold nodeOk
  cases t.var with
  | true =>
    simp only [if_true, Bool.and_eq_true, decide_eq_true_eq]
    refine ⟨fun h => ⟨h, fun a ha => ?_⟩, fun h => h.1⟩
    rw [List.length_eq_zero_iff.1 h.1] at ha; cases ha
  | false => simp [and_assoc]
theorem subT_formed : ∀ (p : List Int) (t x : Term), subT t p = some x → formed t = true → formed x = true
  | [], t, x, h, ht => by cases h; exact ht
  | i :: p, t, x, h, ht => by
    simp only [subT] at h
    split at h
    · rename_i hi
      exact subT_formed p _ x h ((formed_iff.1 ht).2 _ (getD_mem (by omega)))
    · cases h
theorem inst_formed {s : List ABind} (hs : ∀ b ∈ s, formed b.term = true) (t : Term) : formed t = true → formed (inst s t) = true := by
  induction t using term_ind with
  | h t ih =>
  intro ht
  have h := formed_iff.1 ht
  rw [inst_eq]
  split
  · rename_i hv
    cases hx : image s t.name with
    | none =>
      refine formed_iff.2 ⟨?_, fun a ha => by simp [Term.args] at ha⟩
      have h1 := h.1
      rw [hv] at h1
      simp only [nodeOk, if_true, Bool.and_eq_true, Option.getD_none, Term.name, Term.var, Term.args, List.length_nil] at h1 ⊢
      exact ⟨rfl, h1.2⟩
    | some x =>
      obtain ⟨b, hb, _, rfl⟩ := image_mem hx
      exact hs b hb
  · rename_i hv
    refine formed_iff.2 ⟨?_, fun a ha => ?_⟩
    · simp only [Term.name, Term.var, Term.args, List.length_map]
      have h1 := h.1
      rw [(by simpa using hv : t.var = false)] at h1
      exact h1
    · simp only [Term.args, List.mem_map] at ha
      obtain ⟨y, hy, rfl⟩ := ha
      exact ih y hy (h.2 y hy)
theorem matchT_formed (p : Term) : ∀ (s : List ABind) (t : Term), (∀ b ∈ s, formed b.term = true) → formed t = true → ∀ b ∈ (matchT s p t).1, formed b.term = true := by
  induction p using term_ind with
  | h p ih =>
  intro s t hb ht
  rw [matchT_eq]
  cases hv : p.var with
  | true =>
    rw [if_pos rfl]
    cases hx : image s p.name with
    | some x => exact hb
    | none =>
      intro b h
      rcases bindT_mem h with h | rfl
      · exact hb b h
      · exact ht
  | false =>
    rw [if_neg (by simp)]
    by_cases hc : t.var ∨ p.name ≠ t.name ∨ p.args.length ≠ t.args.length
    · rw [if_pos hc]; exact hb
    · rw [if_neg hc]
      have key : ∀ (l m : List Term) (s : List ABind), (∀ a ∈ l, a ∈ p.args) → (∀ a ∈ m, formed a = true) → (∀ b ∈ s, formed b.term = true) → ∀ b ∈ (matchTs s l m).1, formed b.term = true := by
        intro l
        induction l with
        | nil => intro m s _ _ h2; exact h2
        | cons a l ihl =>
          intro m s hl hm h2
          cases m with
          | nil => exact h2
          | cons b m =>
            have h3 := ih a (hl a (by simp)) s b h2 (hm b (by simp))
            simp only [matchTs]
            split
            · exact ihl m _ (fun x hx => hl x (by simp [hx])) (fun x hx => hm x (by simp [hx])) h3
            · exact h3
      exact key p.args t.args s (fun _ h => h) (formed_iff.1 ht).2 hb
theorem setT_name : ∀ (p : List Int) (t x : Term) (i : Int), (setT t (i :: p) x).name = t.name ∧ (setT t (i :: p) x).var = t.var ∧ (setT t (i :: p) x).args.length = t.args.length := by
  intro p t x i
  refine ⟨by cases t; simp [setT, Term.name], by cases t; simp [setT, Term.var], ?_⟩
  rw [setT_args]
  split <;> simp
theorem setT_formed : ∀ (p : List Int) (t x : Term), formed t = true → formed x = true → formed (setT t p x) = true
  | [], t, x, _, hx => hx
  | i :: p, t, x, ht, hx => by
    have h := formed_iff.1 ht
    obtain ⟨h1, h2, h3⟩ := setT_name p t x i
    refine formed_iff.2 ⟨by rw [h1, h2, h3]; exact h.1, fun a ha => ?_⟩
    rw [setT_args] at ha
    split at ha
    · rename_i hi
      rcases List.mem_or_eq_of_mem_set ha with ha | rfl
      · exact h.2 a ha
      · exact setT_formed p _ x (h.2 _ (getD_mem (by omega))) hx
    · exact h.2 a ha
theorem check_iff {t : Term} : check t = 0 ↔ formed t = true ∧ fits t = true := by
  unfold check
  cases formed t <;> cases fits t <;> simp
theorem doE_check {r : List ARule} {t u : Term} {s : AStep} {e : Int} (hr : ∀ x ∈ r, check x.left = 0 ∧ check x.right = 0) (ht : check t = 0) (h : doE r t s = (some u, e)) : check u = 0 ∧ e = 0 := by
  unfold doE at h
  split at h
  · cases h
  · rename_i h1
    have h1 : (findE r t s).2 = 0 := by simpa using h1
    obtain ⟨k1, k2, _, _⟩ := findE_ok h1
    split at h
    · split at h
      · rename_i hf
        simp only [Prod.mk.injEq, Option.some.injEq] at h
        obtain ⟨rfl, rfl⟩ := h
        refine ⟨check_iff.2 ⟨setT_formed _ _ _ (check_iff.1 ht).1 (inst_formed ?_ _ (check_iff.1 (hr _ (getD_mem k2)).2).1), hf⟩, rfl⟩
        intro b hb
        unfold findE at hb
        split at hb
        · cases hb
        · split at hb
          · cases hb
          · rename_i x hx
            split at hb
            · exact matchT_formed _ _ _ (by simp) (subT_formed _ _ _ hx (check_iff.1 ht).1) b hb
            · cases hb
      · cases h
    · cases h
theorem checkSystem_sides {r : List ARule} (h : checkSystem r = 0) : ∀ x ∈ r, check x.left = 0 ∧ check x.right = 0 := by
  have h1 : checkRules r = 0 := by
    unfold checkSystem at h
    split at h
    · rename_i h1; exact absurd h h1
    · rename_i h1; simpa using h1
  unfold checkRules at h1
  split at h1
  · omega
  · exact checkPairs_ok h1
/-! keys -/
theorem isName_chars {s : Str} {m : Bool} (h : isName s m = true) : ∀ c ∈ s, c ≠ 40 ∧ c ≠ 63 ∧ c ≠ 41 := by
  intro c hc
  simp only [isName, Bool.and_eq_true, List.all_eq_true] at h
  have hl : ∀ c, letter c = true → c ≠ 40 ∧ c ≠ 63 ∧ c ≠ 41 := by
    intro c hc
    refine ⟨?_, ?_, ?_⟩ <;> · rintro rfl; revert hc; decide
  by_cases h2 : c ∈ nameOf s m
  · exact hl c (h.2.2 c h2)
  · have : c = 35 := by
      unfold nameOf at h2
      split at h2
      · unfold trimSuf at h2
        split at h2
        · rename_i hs
          have hd : s.drop (s.length - [(35 : UInt8)].length) = [35] := by
            unfold hasSuf at hs
            simp only [Bool.and_eq_true, decide_eq_true_eq, beq_iff_eq] at hs
            exact hs.2
          rw [← List.take_append_drop (s.length - [(35 : UInt8)].length) s, List.mem_append, hd] at hc
          rcases hc with hc | hc
          · exact absurd hc h2
          · simpa using hc
        · exact absurd hc h2
      · exact absurd hc h2
    subst this; decide
def sep (c : UInt8) : Prop := c = 40 ∨ c = 63
theorem split_name : ∀ (n n' : Str) (m m' : UInt8) (a a' : Str), (∀ c ∈ n, c ≠ 40 ∧ c ≠ 63 ∧ c ≠ 41) → (∀ c ∈ n', c ≠ 40 ∧ c ≠ 63 ∧ c ≠ 41) → sep m → sep m' → n ++ m :: a = n' ++ m' :: a' → n = n' ∧ m = m' ∧ a = a'
  | [], [], m, m', a, a', _, _, _, _, h => by simpa using h
  | [], c :: n', m, m', a, a', _, h2, hm, _, h => by
    simp only [List.nil_append, List.cons_append, List.cons.injEq] at h
    have := h2 c (by simp)
    rcases hm with hm | hm
    · exact absurd (h.1.symm.trans hm) this.1
    · exact absurd (h.1.symm.trans hm) this.2.1
  | c :: n, [], m, m', a, a', h1, _, _, hm, h => by
    simp only [List.nil_append, List.cons_append, List.cons.injEq] at h
    have := h1 c (by simp)
    rcases hm with hm | hm
    · exact absurd (h.1.trans hm) this.1
    · exact absurd (h.1.trans hm) this.2.1
  | c :: n, c' :: n', m, m', a, a', h1, h2, hm, hm', h => by
    simp only [List.cons_append, List.cons.injEq] at h
    obtain ⟨e1, e2, e3⟩ := split_name n n' m m' a a' (fun x hx => h1 x (by simp [hx])) (fun x hx => h2 x (by simp [hx])) hm hm' h.2
    exact ⟨by rw [h.1, e1], e2, e3⟩
theorem formed_name {t : Term} (h : formed t = true) : ∀ c ∈ t.name, c ≠ 40 ∧ c ≠ 63 ∧ c ≠ 41 := by
  have h1 := (formed_iff.1 h).1
  unfold nodeOk at h1
  split at h1
  · simp only [Bool.and_eq_true] at h1; exact isName_chars h1.2
  · simp only [Bool.and_eq_true] at h1; exact isName_chars h1.2
theorem key_not {t : Term} (h : formed t = true) (a b : Str) : 41 :: a ≠ keyT t ++ b := by
  intro e
  rw [keyT_eq, List.append_assoc] at e
  cases hn : t.name with
  | nil =>
    rw [hn] at e
    simp only [List.nil_append, List.cons_append, List.cons.injEq] at e
    have h1 := e.1
    revert h1
    cases t.var <;> decide
  | cons c n =>
    rw [hn] at e
    simp only [List.cons_append, List.cons.injEq] at e
    have := formed_name h c (by rw [hn]; simp)
    exact this.2.2 e.1.symm
theorem key_split (t : Term) : ∀ (t' : Term) (a a' : Str), formed t = true → formed t' = true → keyT t ++ a = keyT t' ++ a' → t = t' ∧ a = a' := by
  induction t using term_ind with
  | h t ih =>
  intro t' a a' hf hf' h
  rw [keyT_eq, keyT_eq, List.append_assoc, List.append_assoc, List.cons_append, List.cons_append] at h
  have hs : ∀ v : Bool, sep (if v then 63 else 40) := by intro v; cases v; exact .inl rfl; exact .inr rfl
  obtain ⟨h1, h2, h3⟩ := split_name _ _ _ _ _ _ (formed_name hf) (formed_name hf') (hs _) (hs _) h
  have hv : t.var = t'.var := by
    revert h2; cases t.var <;> cases t'.var <;> simp
  have key : ∀ (l l' : List Term), (∀ x ∈ l, x ∈ t.args) → (∀ x ∈ l, formed x = true) → (∀ x ∈ l', formed x = true) → keyTs l ++ 41 :: a = keyTs l' ++ 41 :: a' → l = l' ∧ a = a' := by
    intro l
    induction l with
    | nil =>
      intro l' _ _ hl' e
      cases l' with
      | nil => simpa [keyTs] using e
      | cons b l' =>
        simp only [keyTs, List.nil_append, List.append_assoc] at e
        exact absurd e (key_not (hl' b (by simp)) _ _)
    | cons b l ihl =>
      intro l' hm hl hl' e
      cases l' with
      | nil =>
        simp only [keyTs, List.nil_append, List.append_assoc] at e
        exact absurd e.symm (key_not (hl b (by simp)) _ _)
      | cons b' l' =>
        simp only [keyTs, List.append_assoc] at e
        obtain ⟨e1, e2⟩ := ih b (hm b (by simp)) b' _ _ (hl b (by simp)) (hl' b' (by simp)) e
        obtain ⟨e3, e4⟩ := ihl l' (fun x hx => hm x (by simp [hx])) (fun x hx => hl x (by simp [hx])) (fun x hx => hl' x (by simp [hx])) e2
        exact ⟨by rw [e1, e3], e4⟩
  have h3' : keyTs t.args ++ 41 :: a = keyTs t'.args ++ 41 :: a' := by simpa [List.append_assoc] using h3
  obtain ⟨e1, e2⟩ := key t.args t'.args (fun _ h => h) (formed_iff.1 hf).2 (formed_iff.1 hf').2 h3'
  refine ⟨?_, e2⟩
  cases t; cases t'
  simp only [Term.name, Term.var, Term.args] at h1 hv e1
  rw [h1, hv, e1]
theorem key_inj {t t' : Term} (hf : formed t = true) (hf' : formed t' = true) (h : keyT t = keyT t') : t = t' := by
  have := key_split t t' [] [] hf hf' (by rw [List.append_nil, List.append_nil]; exact h)
  exact this.1
end Go.Dw
end
section
set_option linter.unusedVariables false
set_option linter.unusedSimpArgs false
set_option maxRecDepth 100000
namespace Go.Dw
/-- The place of a term. -/
def findI : List Term → Term → Option Nat
  | [], _ => none
  | a :: l, t => if a = t then some 0 else (findI l t).map (· + 1)
theorem findI_some : ∀ {l : List Term} {t : Term} {i : Nat}, findI l t = some i → l[i]? = some t
  | [], t, i, h => by cases h
  | a :: l, t, i, h => by
    simp only [findI] at h
    split at h
    · rename_i e; cases h; simp [e]
    · cases hf : findI l t with
      | none => rw [hf] at h; cases h
      | some j => rw [hf] at h; cases h; simpa using findI_some hf
theorem findI_none : ∀ {l : List Term} {t : Term}, findI l t = none → t ∉ l
  | [], t, h => by simp
  | a :: l, t, h => by
    simp only [findI] at h
    split at h
    · cases h
    · rename_i e
      have h' : findI l t = none := by simpa using h
      intro hm
      rcases List.mem_cons.1 hm with rfl | hm
      · exact e rfl
      · exact findI_none h' hm
def keyM (k : Nat) : List Term → Ars
  | [] => []
  | a :: l => (keyT a, k) :: keyM (k + 1) l
theorem keyM_snoc (u : Term) : ∀ (l : List Term) (k : Nat), keyM k (l ++ [u]) = keyM k l ++ [(keyT u, k + l.length)]
  | [], k => by simp [keyM]
  | a :: l, k => by simp only [List.cons_append, keyM, keyM_snoc u l (k + 1), List.length_cons]; congr 4; omega
theorem getA_keyM {t : Term} (ht : formed t = true) : ∀ (l : List Term) (k : Nat), (∀ x ∈ l, formed x = true) → getA (keyM k l) (keyT t) = (findI l t).map (k + ·)
  | [], k, _ => rfl
  | a :: l, k, hl => by
    have ih := getA_keyM ht l (k + 1) fun x hx => hl x (by simp [hx])
    simp only [keyM, getA, findI]
    by_cases h : a = t
    · subst h; simp
    · have h' : keyT a ≠ keyT t := fun e => h (key_inj (hl a (by simp)) ht e)
      rw [if_neg h', if_neg h, ih]
      cases findI l t with
      | none => rfl
      | some j => simp; omega
theorem upd_new {m : Ars} {k : Str} {n : Nat} (h : getA m k = none) : updM (.str k) (.int .i64 n) (encAr m) = some (encAr (m ++ [(k, n)])) := by
  have hf := findM_encAr k m 0
  unfold updM
  rw [h] at hf
  simp only at hf
  rw [hf]; simp [encAr]
/-- A term is entered into a graph. -/
def addG (most : Nat) (g : AGraph) (u : Term) : Option Nat × AGraph :=
  match findI g.terms u with
  | some i => (some i, g)
  | none => if most ≤ g.terms.length then (none, ⟨g.terms, g.edges, false⟩) else (some g.terms.length, ⟨g.terms ++ [u], g.edges, g.whole⟩)
abbrev xG (i : Nat) (most : Nat) (g : AGraph) : List V := [.rw (i + 1) 3 g.terms.length, ownL cEd (i + 2) 4 g.edges, .bool g.whole, .map (i - 1), .int .i64 most]
abbrev addH (most : Nat) (g : AGraph) : List Ob := [.map (encAr (keyM 0 g.terms)), .cells t_derive_explorer (xG 1 most g), .row t_Term 3 (g.terms.map cT), .arr t_Edge 4 g.edges.length]
def addV : Option Nat → V
  | some i => .tup [.int .i64 i, .bool true]
  | none => .tup [.int .i64 0, .bool false]
theorem rens_cTs {σ : Nat → Option Nat} {l : List Term} : (l.map cT).map (rens σ) = l.map cT := by rw [List.map_map]; rfl
theorem row_snoc {α : Type} {f : α → List V} (l : List α) (x y z : List V) (h : ∀ w, w = x → put 0 y w = z) : (l.map f ++ [x]).set l.length (put 0 y ((l.map f ++ [x]).getD l.length [])) = l.map f ++ [z] := by
  have h1 : (l.map f ++ [x]).getD l.length [] = x := by simp [List.getD_eq_getElem?_getD]
  rw [h1, h x rfl, List.set_append, List.length_map, if_neg (Nat.lt_irrefl _), Nat.sub_self]; rfl
theorem shut_add (most : Nat) (g : AGraph) : Shut 4 (addH most g) := by
  refine ⟨rfl, ?_⟩
  push_cast [rens_cTs]
theorem explorer_add_s (most : Nat) (g : AGraph) (u : Term) (hf : ∀ x ∈ g.terms, formed x = true) (hu : formed u = true) (hs : tb u < 2 ^ 40) (hm : most < 2 ^ 40) (hg : g.terms.length < 2 ^ 40) (he : g.edges.length < 2 ^ 40) :
    Spec prog n_derive_explorer_add [.ptr 1 0, encT u] (addH most g) fun x H' => x = addV (addG most g u).1 ∧ H' = addH most (addG most g u).2 := by
  have hgA := getA_keyM hu g.terms 0 hf
  refine spec_of_run mixed derive_explorer_add.ok rfl ?_
  push_cast
  refine .of (derive_key_s u (by omega)) ?_
  have hlk : ∀ (b : List Ob), lookV (.map (encAr (keyM 0 g.terms)) :: b) true true (.int .i64 0) (.map 0) (.str (keyT u)) = some (.tup [.int .i64 ((getA (keyM 0 g.terms) (keyT u)).getD 0 : Nat), .bool (getA (keyM 0 g.terms) (keyT u)).isSome]) := fun b => look_encAr _ _ rfl
  unfold addG
  cases hi : findI g.terms u with
  | some i =>
    rw [hi, Option.map_some, Nat.zero_add] at hgA
    push_cast [hlk, hgA, ksB, Option.isSome_some, Option.getD_some]
    exact ends_keep (H := addH most g) (J := []) (shut_add most g) rfl ⟨rfl, rfl⟩
  | none =>
    rw [hi, Option.map_none] at hgA
    push_cast [hlk, hgA, ksB, Option.isSome_none, upd_new hgA]
    refine ⟨fun h => ?_, fun h => ?_⟩
    · have h' : most ≤ g.terms.length := by omega
      rw [if_pos h']
      exact ends_keep (H := addH most ⟨g.terms, g.edges, false⟩) (J := []) (shut_add most ⟨g.terms, g.edges, false⟩) rfl ⟨rfl, rfl⟩
    · have h' : ¬ most ≤ g.terms.length := by omega
      rw [if_neg h']
      have hme : maxEls = 140737488355328 := rfl
      refine ⟨⟨by simp, by omega⟩, by omega, ⟨by simp, by omega⟩, ?_⟩
      have hsn := row_snoc (f := cT) g.terms [V.str [], V.bool false, V.sl 3 []] (cT u) (cT u) (fun w hw => by subst hw; rfl)
      rw [hsn]
      have hH : [Ob.map (encAr (keyM 0 g.terms ++ [(keyT u, g.terms.length)])), Ob.cells t_derive_explorer [V.rw 2 3 (g.terms.length + 1), ownL cEd 3 4 g.edges, V.bool g.whole, V.map 0, V.int IntKind.i64 most], Ob.row t_Term 3 (List.map cT g.terms ++ [cT u]), Ob.arr t_Edge 4 g.edges.length] = addH most ⟨g.terms ++ [u], g.edges, g.whole⟩ := by
        simp only [addH, xG, keyM_snoc, Nat.zero_add, List.length_append, List.length_singleton, List.map_append, List.map_cons, List.map_nil]
      have hx : IntKind.i64.wrap ((g.terms.length : Int) + 1 - 1) = g.terms.length := by rw [wrap64 (by omega) (by omega)]; omega
      rw [hx, hH]
      exact ends_keep (H := addH most ⟨g.terms ++ [u], g.edges, g.whole⟩) (J := []) (shut_add most ⟨g.terms ++ [u], g.edges, g.whole⟩) rfl ⟨rfl, rfl⟩
end Go.Dw
end
section
set_option linter.unusedVariables false
set_option linter.unusedSimpArgs false
set_option maxRecDepth 100000
namespace Go.Dw
attribute [push_cast] rens_cTs
def edgeG (g : AGraph) (i k : Nat) (s : AStep) : AGraph := ⟨g.terms, g.edges ++ [⟨i, k, s⟩], g.whole⟩
def noG : AGraph := ⟨[], [], false⟩
/-- The steps of the i-th term are entered. -/
def rowE (r : List ARule) (most i : Nat) (t : Term) : List AStep → AGraph → AGraph × Int
  | [], g => (g, 0)
  | s :: l, g => match (doE r t s).1 with
    | none => (noG, (doE r t s).2)
    | some u => match (addG most g u).1 with
      | some k => rowE r most i t l (edgeG (addG most g u).2 i k s)
      | none => rowE r most i t l (addG most g u).2
theorem rowE_none {r : List ARule} {most i : Nat} {t : Term} {s : AStep} {l : List AStep} {g : AGraph} (h : (doE r t s).1 = none) : rowE r most i t (s :: l) g = (noG, (doE r t s).2) := by
  simp only [rowE]; rw [h]
theorem rowE_some {r : List ARule} {most i : Nat} {t u : Term} {s : AStep} {l : List AStep} {g g2 : AGraph} {k : Nat} (h : (doE r t s).1 = some u) (h2 : addG most g u = (some k, g2)) : rowE r most i t (s :: l) g = rowE r most i t l (edgeG g2 i k s) := by
  simp only [rowE]; rw [h]; simp only [h2]
theorem rowE_full {r : List ARule} {most i : Nat} {t u : Term} {s : AStep} {l : List AStep} {g g2 : AGraph} (h : (doE r t s).1 = some u) (h2 : addG most g u = (none, g2)) : rowE r most i t (s :: l) g = rowE r most i t l g2 := by
  simp only [rowE]; rw [h]; simp only [h2]
def contO (x : AGraph × Int) (f : AGraph → AGraph × Int) : AGraph × Int := if x.2 = 0 then f x.1 else (noG, x.2)
theorem contO_ok (g : AGraph) (f : AGraph → AGraph × Int) : contO (g, 0) f = f g := rfl
theorem contO_bad {g : AGraph} {e : Int} (h : e ≠ 0) (f : AGraph → AGraph × Int) : contO (g, e) f = (noG, e) := by simp [contO, h]
def runG (r : List ARule) (most : Nat) : Nat → Nat → AGraph → AGraph × Int
  | 0, i, g => (g, 0)
  | n + 1, i, g => match g.terms[i]? with
    | none => (g, 0)
    | some t => contO (rowE r most i t (allE r t) g) (runG r most n (i + 1))
def exploreE (r : List ARule) (t : Term) (most : Nat) : AGraph × Int := runG r most most 0 ⟨[t], [], true⟩
/-- What exploring keeps. -/
structure GOk (most : Nat) (g : AGraph) : Prop where
  check : ∀ x ∈ g.terms, check x = 0
  len : g.terms.length ≤ most
theorem addG_ok {most : Nat} {g : AGraph} {u : Term} (h : GOk most g) (hu : check u = 0) : GOk most (addG most g u).2 := by
  unfold addG
  cases findI g.terms u with
  | some i => exact h
  | none =>
    simp only
    split
    · exact ⟨h.check, h.len⟩
    · refine ⟨fun x hx => ?_, by simp only [List.length_append, List.length_singleton]; omega⟩
      rcases List.mem_append.1 hx with hx | hx
      · exact h.check x hx
      · rw [List.mem_singleton.1 hx]; exact hu
theorem addG_get {most : Nat} {g : AGraph} {u : Term} {i : Nat} {t : Term} (h : g.terms[i]? = some t) : (addG most g u).2.terms[i]? = some t := by
  unfold addG
  cases findI g.terms u with
  | some i => exact h
  | none =>
    simp only
    split
    · exact h
    · simp only
      rw [List.getElem?_append_left (List.getElem?_eq_some_iff.1 h).1]; exact h
theorem addG_edges (most : Nat) (g : AGraph) (u : Term) : (addG most g u).2.edges = g.edges := by
  unfold addG
  cases findI g.terms u with
  | some i => rfl
  | none => simp only; split <;> rfl
abbrev exH (most : Nat) (g : AGraph) (J : List Ob) : List Ob := .cells t_Graph [.sl 3 [], .sl 4 [], .bool false] :: .map (encAr (keyM 0 g.terms)) :: .cells t_derive_explorer (xG 2 most g) :: .row t_Term 3 (g.terms.map cT) :: .arr t_Edge 4 g.edges.length :: J
theorem give_ex (most : Nat) (g : AGraph) (J : List Ob) : give [1, 2, 3, 4] (exH most g J) = addH most g := by
  show [renOb (pos? [1, 2, 3, 4]) (.map (encAr (keyM 0 g.terms))), renOb (pos? [1, 2, 3, 4]) (.cells t_derive_explorer (xG 2 most g)), renOb (pos? [1, 2, 3, 4]) (.row t_Term 3 (g.terms.map cT)), renOb (pos? [1, 2, 3, 4]) (.arr t_Edge 4 g.edges.length)] = _
  have h1 : pos? [1, 2, 3, 4] 1 = some 0 := rfl
  have h3 : pos? [1, 2, 3, 4] 3 = some 2 := rfl
  have h4 : pos? [1, 2, 3, 4] 4 = some 3 := rfl
  push_cast [h1, h3, h4, rens_cTs]
theorem take_ex0 (most : Nat) (g g' : AGraph) : takeB [1, 2, 3, 4] (exH most g []) (addH most g') = exH most g' [] := by
  show [Ob.cells t_Graph [.sl 3 [], .sl 4 [], .bool false], renOb (back [1, 2, 3, 4] 5) (.map (encAr (keyM 0 g'.terms))), renOb (back [1, 2, 3, 4] 5) (.cells t_derive_explorer (xG 1 most g')), renOb (back [1, 2, 3, 4] 5) (.row t_Term 3 (g'.terms.map cT)), renOb (back [1, 2, 3, 4] 5) (.arr t_Edge 4 g'.edges.length)] = _
  have h0 : ∀ n, back [1, 2, 3, 4] n 0 = some 1 := fun _ => rfl
  have h2 : ∀ n, back [1, 2, 3, 4] n 2 = some 3 := fun _ => rfl
  have h3 : ∀ n, back [1, 2, 3, 4] n 3 = some 4 := fun _ => rfl
  push_cast [h0, h2, h3, rens_cTs]
theorem take_ex2 (most : Nat) (g g' : AGraph) (a b : Ob) : takeB [1, 2, 3, 4] (exH most g [a, b]) (addH most g') = exH most g' [a, b] := by
  show [Ob.cells t_Graph [.sl 3 [], .sl 4 [], .bool false], renOb (back [1, 2, 3, 4] 7) (.map (encAr (keyM 0 g'.terms))), renOb (back [1, 2, 3, 4] 7) (.cells t_derive_explorer (xG 1 most g')), renOb (back [1, 2, 3, 4] 7) (.row t_Term 3 (g'.terms.map cT)), renOb (back [1, 2, 3, 4] 7) (.arr t_Edge 4 g'.edges.length), a, b] = _
  have h0 : ∀ n, back [1, 2, 3, 4] n 0 = some 1 := fun _ => rfl
  have h2 : ∀ n, back [1, 2, 3, 4] n 2 = some 3 := fun _ => rfl
  have h3 : ∀ n, back [1, 2, 3, 4] n 3 = some 4 := fun _ => rfl
  push_cast [h0, h2, h3, rens_cTs]
section
variable {N : Nat → C} {B : Nat} {k : List K} {t : T} {Q : X → T → List Ob → Prop} {d : Option Nat} {l : List S}
theorem callG_add {most : Nat} {g : AGraph} {u : Term} {J : List Ob} (hJ : ∀ g', takeB [1, 2, 3, 4] (exH most g J) (addH most g') = exH most g' J) (hf : ∀ x ∈ g.terms, formed x = true) (hu : formed u = true) (hs : tb u < 2 ^ 40) (hm : most < 2 ^ 40) (hg : g.terms.length < 2 ^ 40) (he : g.edges.length < 2 ^ 40)
    (k' : Run prog N B (.r l :: k) (setO d (addV (addG most g u).1) t) (exH most (addG most g u).2 J) Q) : CallG prog N B d l k t Q (.func n_derive_explorer_add) [.ptr 2 0, encT u] (exH most g J) := by
  refine CallG.some [1, 2, 3, 4] (by simp) (by simp) (R := fun x' H' => x' = addV (addG most g u).1 ∧ H' = addH most (addG most g u).2) (by rw [give_ex]; exact explorer_add_s most g u hf hu hs hm hg he) ?_
  rintro x' H' ⟨rfl, rfl⟩ _
  rw [hJ]
  have : ∀ n, ren (back [1, 2, 3, 4] n) (addV (addG most g u).1) = addV (addG most g u).1 := by
    intro n; cases (addG most g u).1 <;> rfl
  rw [this]; exact k'
end
def exOut (res : AGraph × Int) (x : V) (H : List Ob) : Prop := x = .tup [encG res.1, .int .i64 res.2] ∧ H = []
theorem gok_len {most : Nat} {g : AGraph} (h : GOk most g) : ∀ x ∈ g.terms, formed x = true := fun x hx => (check_iff.1 (h.check x hx)).1
theorem atK_pos (r : List ARule) (p : List Int) (s : Term) : ∀ k, ∀ x ∈ atK r p s k, x.pos = p
  | 0, x, hx => by simp [atK] at hx
  | k + 1, x, hx => by
    simp only [atK, List.mem_append] at hx
    rcases hx with hx | hx
    · exact atK_pos r p s k x hx
    · split at hx
      · rw [List.mem_singleton.1 hx]
      · cases hx
theorem allE_pos {r : List ARule} {t : Term} {s : AStep} (h : s ∈ allE r t) : s.pos.length ≤ size t := by
  unfold allE allL at h
  obtain ⟨x, hx, hs⟩ := List.mem_flatMap.1 h
  have h1 := (visit_sub t [] x hx).2
  unfold atE at hs
  split at hs
  · cases hs
  · rw [atK_pos _ _ _ _ s hs]; simpa using h1
theorem put_cSt (s : AStep) : put 0 (cSt s) [V.int .i64 0, V.sl 1 []] = cSt s := rfl
theorem cSt_len2 (s : AStep) : (cSt s).length = 2 := rfl
theorem own_edge {i : Nat} {l : List AEdge} {e : AEdge} : (.own i 4 (l.map cEd ++ [cEd e]) : V) = ownL cEd i 4 (l ++ [e]) := by simp [ownL]
theorem row_el {l : List Term} {i : Nat} {t : Term} (h : l[i]? = some t) : ((List.map cT l)[i]?.bind fun el => if 3 ≤ el.length then some (V.agg (sub 0 3 el)) else none) = some (encT t) := by
  rw [List.getElem?_map, h]; rfl
theorem derive_explore_loop (r : List ARule) (most : Nat) (res : AGraph × Int) (hr : rbs r < 2 ^ 28) (hr64 : r.length ≤ 64) (hrc : ∀ x ∈ r, check x.left = 0 ∧ check x.right = 0) (hm2 : most ≤ 4096) :
    ∀ (n i : Nat) (g : AGraph), i + n = most → GOk most g → g.edges.length ≤ i * 262144 → runG r most n i g = res →
      derive_explore.L7 (encRs r) (.ptr 0 0) (.ptr 2 0) (.int .i64 i) 0 (exH most g []) (Ends 0 derive_explore.rs fun x' H' => x' = .tup [encG res.1, .int .i64 res.2] ∧ H' = []) := by
  have fin : ∀ (i : Nat) (g : AGraph), g.terms.length ≤ i → res = (g, 0) → derive_explore.L7 (encRs r) (.ptr 0 0) (.ptr 2 0) (.int .i64 i) 0 (exH most g []) (Ends 0 derive_explore.rs fun x' H' => x' = .tup [encG res.1, .int .i64 res.2] ∧ H' = []) := by
    intro i g hl he
    subst he
    refine derive_explore.G7 ?_
    push_cast [inlt hl]
    refine ⟨by simp, ?_⟩
    refine pf_ret ?_
    push_cast [derive_explore.rs, rens_cTs]
    rfl
  intro n
  induction n with
  | zero => intro i g hi hg _ hres; exact fin i g (by have := hg.len; omega) hres.symm
  | succ n ih =>
    intro i g hi hg he hres
    simp only [runG] at hres
    cases hti : g.terms[i]? with
    | none =>
      rw [hti] at hres
      exact fin i g (List.getElem?_eq_none_iff.1 hti) hres.symm
    | some t =>
      rw [hti] at hres
      have hil : i < g.terms.length := (List.getElem?_eq_some_iff.1 hti).1
      have htc := hg.check t (List.mem_of_getElem? hti)
      have hgt := check_good htc
      have htb := good_tb hgt
      refine derive_explore.G7 ?_
      have hel := row_el hti
      push_cast [ilt hil, hel]
      refine ⟨by simp, ?_⟩
      have hA : size t * r.length ≤ 4000 * 64 := Nat.mul_le_mul hgt.2 hr64
      refine .of (rewrite_All_s r t (by omega) (fun x hx => by have := (check_good (hrc x hx).1).2; omega) (by have := hgt.2; omega) (by omega)) ?_
      have hAl : (allE r t).length ≤ 256000 := by have := allL_len r (visit t []); rw [visit_len] at this; exact Nat.le_trans this hA
      simp only at hres
      generalize hL : allE r t = L at hres hAl ⊢
      push_cast
      refine loop_up (n := L.length) (R := fun k => ∀ g', GOk most g' → g'.terms[i]? = some t → g'.edges.length ≤ i * 262144 + k → contO (rowE r most i t (L.drop k) g') (runG r most n (i + 1)) = res →
        derive_explore.L5 (encRs r) (.ptr 0 0) (.ptr 2 0) (.int .i64 i) (encSts L) (.int .i64 L.length) (.int .i64 k) 0 (exH most g' []) (Ends 0 derive_explore.rs fun x' H' => x' = .tup [encG res.1, .int .i64 res.2] ∧ H' = [])) ?_ ?_ 0 (Nat.zero_le _) g hg hti (Nat.le_trans he (Nat.le_add_right _ _)) (by rw [List.drop_zero]; exact hres)
      · intro k hk ih2 g' hg' hti' he' hq
        have hil' : i < g'.terms.length := (List.getElem?_eq_some_iff.1 hti').1
        have hl' := hg'.len
        rw [drop_getD hk] at hq
        have hm := getD_mem hk
        generalize hs : L.getD k default = s at hm hq
        refine derive_explore.G5 ?_
        have hel' := row_el hti'
        push_cast [ilt hk, hs, hel']
        refine ⟨by omega, by simp, ?_⟩
        have hpl := allE_pos (hL ▸ hm)
        refine .of (rewrite_Do_s r t s hr htb (by have := hgt.2; omega) fun x hx => by have := setT_size s.pos t x; have := fits_size hx; have := hgt.2; omega) ?_
        cases hd : (doE r t s).1 with
        | none =>
          have hne : (doE r t s).2 ≠ 0 := doE_none (e := (doE r t s).2) (by rw [← hd])
          rw [rowE_none hd, contO_bad hne] at hq
          subst hq
          push_cast [encTE, hne]
          refine pf_ret ?_
          push_cast [derive_explore.rs]
          rfl
        | some u =>
          obtain ⟨huc, he0⟩ := doE_check hrc htc (show doE r t s = (some u, (doE r t s).2) by rw [← hd])
          have hgu := check_good huc
          have hub := good_tb hgu
          push_cast [encTE, he0]
          refine callG_add (fun g1 => take_ex2 most _ g1 _ _) (gok_len hg') (check_iff.1 huc).1 (by omega) (by omega) (by omega) (by omega) ?_
          have hadd := addG_ok hg' huc
          have hedge := addG_edges most g' u
          have hget := addG_get (most := most) (u := u) hti'
          generalize hag : addG most g' u = ag at hadd hedge hget ⊢
          obtain ⟨ko, g2⟩ := ag
          simp only at hadd hedge hget
          cases ko with
          | none =>
            rw [rowE_full hd hag] at hq
            push_cast [addV, w64 (show k < 2 ^ 62 by omega)]
            have := ih2 g2 hadd hget (by rw [hedge]; omega) hq
            push_cast at this
            exact this
          | some j =>
            rw [rowE_some hd hag] at hq
            have hsn : ∀ i j : Nat, (V.int .i64 i :: V.int .i64 j :: cSt s) = cEd ⟨i, j, s⟩ := fun _ _ => rfl
            push_cast [addV, w64 (show k < 2 ^ 62 by omega), put_cSt, cSt_len2, rens_cSt, hsn, own_edge]
            have := ih2 (edgeG g2 i j s) ⟨hadd.check, hadd.len⟩ hget (by simp only [edgeG, List.length_append, List.length_singleton, hedge]; omega) hq
            simp only [edgeG] at this
            push_cast at this
            have hel2 : g2.edges.length = g'.edges.length := by rw [hedge]
            refine ⟨Nat.le_trans (Nat.mul_le_mul_right 48 (show _ ≤ 2 ^ 41 by omega)) (by unfold maxEls; decide), ?_⟩
            rw [show g2.edges.length + 1 = (g2.edges ++ [(⟨(i : Int), (j : Int), s⟩ : AEdge)]).length from by simp]
            exact this
      · intro g' hg' hti' he' hq
        rw [drop_map_none] at hq
        refine derive_explore.G5 ?_
        push_cast [inlt (Nat.le_refl _), w64 (show i < 2 ^ 62 by omega)]
        have := ih (i + 1) g' (by omega) hg' (by omega) (by rw [← hq]; rfl)
        push_cast at this
        exact this
theorem derive_explore_s (r : List ARule) (t : Term) (most : Nat) (hr : rbs r < 2 ^ 28) (hr64 : r.length ≤ 64) (hrc : ∀ x ∈ r, check x.left = 0 ∧ check x.right = 0) (ht : check t = 0) (hm1 : 1 ≤ most) (hm2 : most ≤ 4096) :
    PF n_derive_explore [encRs r, encT t, .int .i64 most] (.tup [encG (exploreE r t most).1, .int .i64 (exploreE r t most).2]) := by
  have hg := check_good ht
  have htb := good_tb hg
  have htf := (check_iff.1 ht).1
  refine pf_of derive_explore.ok rfl ?_
  push_cast
  refine .of (term_Own_s t (by have := hg.2; omega)) ?_
  push_cast
  have hadd : addG most ⟨[], [], true⟩ t = (some 0, ⟨[t], [], true⟩) := by unfold addG; simp [findI]; omega
  have hstart : ∀ (Q : X → T → List Ob → Prop) N B k tt d l, Run prog N B (.r l :: k) (setO d (addV (some 0)) tt) (exH most ⟨[t], [], true⟩ []) Q → CallG prog N B d l k tt Q (.func n_derive_explorer_add) [.ptr 2 0, encT t] (exH most ⟨[], [], true⟩ []) := by
    intro Q N B k tt d l h
    refine callG_add (take_ex0 most _) (by simp) htf (by omega) (by omega) (by simp) (by simp) ?_
    rw [hadd]; exact h
  refine hstart _ _ _ _ _ _ _ ?_
  push_cast
  exact derive_explore_loop r most _ hr hr64 hrc hm2 most 0 ⟨[t], [], true⟩ (by omega) ⟨by simpa using ht, by simpa using hm1⟩ (by simp) rfl
end Go.Dw
end
section
set_option linter.unusedVariables false
set_option linter.unusedSimpArgs false
set_option maxRecDepth 100000
namespace Go.Dw
def bothE (r : List ARule) (t : Term) : Int := if checkSystem r ≠ 0 then checkSystem r else check t
theorem rewrite_Both_s (r : List ARule) (t : Term) (hr : rbs r < 2 ^ 38) (ht : tb t < 2 ^ 38) : PF n_rewrite_Both [encRs r, encT t] (.int .i64 (bothE r t)) := by
  refine pf_of rewrite_Both.ok rfl ?_
  unfold bothE
  push_cast
  refine .of (term_CheckSystem_t r hr) ?_
  by_cases h : checkSystem r = 0
  · rw [if_neg (by simpa using h)]
    push_cast [h]
    refine .of (term_Check_s t (by omega)) ?_
    push_cast
    exact pf_ret (by push_cast [rewrite_Both.rs])
  · rw [if_pos (by simpa using h)]
    push_cast [h]
    exact pf_ret (by push_cast [rewrite_Both.rs])
theorem checkSystem_len {r : List ARule} (h : checkSystem r = 0) : r.length ≤ 64 := by
  have h1 : checkRules r = 0 := by
    unfold checkSystem at h
    split at h
    · rename_i h1; exact absurd h h1
    · rename_i h1; simpa using h1
  unfold checkRules at h1
  split at h1
  · omega
  · rename_i h2; omega
/-- Exploring, or the error. -/
def ExploreE (r : List ARule) (t : Term) (most : Int) : AGraph × Int :=
  if bothE r t ≠ 0 then (noG, bothE r t) else if most < 1 ∨ 4096 < most then (noG, 2) else exploreE r t most.toNat
theorem derive_Explore_s (r : List ARule) (t : Term) (most : Int) (hr : rbs r < 2 ^ 28) (ht : tb t < 2 ^ 28) : PF n_derive_Explore [encRs r, encT t, .int .i64 most] (.tup [encG (ExploreE r t most).1, .int .i64 (ExploreE r t most).2]) := by
  refine pf_of derive_Explore.ok rfl ?_
  unfold ExploreE
  push_cast
  refine .of (rewrite_Both_s r t (by omega) (by omega)) ?_
  by_cases h : bothE r t = 0
  · rw [if_neg (by simpa using h)]
    have hc : checkSystem r = 0 ∧ check t = 0 := by
      unfold bothE at h
      split at h
      · rename_i h1; exact absurd h h1
      · rename_i h1; exact ⟨by simpa using h1, h⟩
    by_cases h1 : most < 1
    · rw [if_pos (.inl h1)]
      push_cast [h, eq_true h1]
      exact pf_ret (by push_cast [derive_Explore.rs]; rfl)
    · by_cases h2 : 4096 < most
      · rw [if_pos (.inr h2)]
        push_cast [h, eq_false h1, eq_true h2]
        exact pf_ret (by push_cast [derive_Explore.rs]; rfl)
      · rw [if_neg (by omega)]
        push_cast [h, eq_false h1, eq_false h2]
        obtain ⟨n, rfl⟩ : ∃ n : Nat, most = n := ⟨most.toNat, by omega⟩
        refine .of (derive_explore_s r t n hr (checkSystem_len hc.1) (checkSystem_sides hc.1) hc.2 (by omega) (by omega)) ?_
        push_cast
        exact pf_ret (by push_cast [derive_Explore.rs]; rfl)
  · rw [if_pos (by simpa using h)]
    push_cast [h]
    exact pf_ret (by push_cast [derive_Explore.rs]; rfl)
end Go.Dw
end
