/-
  Contracts: terms, second part.
-/
import Derived.Test.YtokdinonifchaaaGreatXa
import Derived.Lib.Bytealg
import Derived.Laws.Externs
section
set_option linter.unusedVariables false
set_option linter.unusedSimpArgs false
set_option maxRecDepth 100000
namespace Go.Dw
mutual
def depth : Term → Nat
  | .mk _ _ l => depths l + 1
def depths : List Term → Nat
  | [] => 0
  | a :: l => max (depth a) (depths l)
end
theorem depth_args (t : Term) : depth t = depths t.args + 1 := by cases t; simp [depth, Term.args]
theorem depths_append (a b : List Term) : depths (a ++ b) = max (depths a) (depths b) := by
  induction a with
  | nil => simp [depths]
  | cons x xs ih => simp [depths, ih, Nat.max_assoc]
theorem depths_take_succ (l : List Term) (k : Nat) (h : k < l.length) : depths (l.take (k+1)) = max (depths (l.take k)) (depth (l.getD k default)) := by
  rw [take_succ_getD h, depths_append]; simp [depths]
mutual
theorem depth_le_size : ∀ t, depth t ≤ size t
  | .mk _ _ l => by simp only [depth, size]; have := depths_le_sizes l; omega
theorem depths_le_sizes : ∀ l, depths l ≤ sizes l
  | [] => by simp [depths, sizes]
  | a :: l => by simp only [depths, sizes]; have := depth_le_size a; have := depths_le_sizes l; omega
end
theorem depths_take_le (l : List Term) (k : Nat) : depths (l.take k) ≤ depths l := by
  conv => rhs; rw [← List.take_append_drop k l]
  rw [depths_append]; omega
theorem imax {a b : Nat} : (if (b : Int) > (a : Int) then (b : Int) else (a : Int)) = ((max a b : Nat) : Int) := by split <;> omega
attribute [push_cast] imax
theorem term_Depth_s (t : Term) (hs : size t < 2 ^ 62) : PF n_term_Depth [encT t] (.int .i64 (depth t)) := by
  induction t using term_ind with
  | h t ih =>
  refine pf_of term_Depth.ok rfl ?_
  have hst := size_args t
  have hl := length_le_sizes t.args
  have hd := depths_le_sizes t.args
  push_cast
  refine loop_up (n := t.args.length) (R := fun k => term_Depth.L3 (.int .i64 (depths (t.args.take k) : Nat)) (encTs t.args) (.int .i64 t.args.length) (.int .i64 k) 0 [] _) ?_ ?_ 0 (by omega)
  · intro k hk ih2
    have h1 := depths_take_succ _ _ hk
    have hm := getD_mem hk
    have := size_mem hm
    refine term_Depth.G3 ?_
    push_cast [ilt hk]
    refine .of (ih _ hm (by omega)) ?_
    push_cast [w64 (show k < 2 ^ 62 by omega)]
    rw [h1] at ih2
    exact ih2
  · refine term_Depth.G3 ?_
    push_cast [inlt (Nat.le_refl _)]
    rw [wrap64 (by have := depths_take_le t.args t.args.length; omega) (by have := depths_take_le t.args t.args.length; omega)]
    refine pf_ret ?_
    push_cast [term_Depth.rs, List.take_length, depth_args t]

/-- All that a term holds. -/
def tb : Term → Nat
  | .mk n _ l => 1 + n.length + tbs l
where tbs : List Term → Nat
  | [] => 0
  | a :: l => tb a + tbs l
abbrev tbs := tb.tbs
theorem tb_args (t : Term) : tb t = 1 + t.name.length + tbs t.args := by cases t; simp [tb, Term.name, Term.args]
theorem tb_mem {l : List Term} {a : Term} (h : a ∈ l) : tb a ≤ tbs l := by
  induction l with
  | nil => cases h
  | cons x xs ih => rcases List.mem_cons.1 h with rfl | h <;> simp [tbs, tb.tbs]; have := ih h; simp only [tbs] at this; omega
mutual
theorem size_le_tb : ∀ t, size t ≤ tb t
  | .mk _ _ l => by simp only [size, tb]; have := sizes_le_tbs l; simp only [tbs] at this; omega
theorem sizes_le_tbs : ∀ l, sizes l ≤ tbs l
  | [] => by simp [sizes]
  | a :: l => by simp only [sizes, tbs, tb.tbs]; have := size_le_tb a; have := sizes_le_tbs l; simp only [tbs] at this; omega
end
mutual
/-- The form of a term. -/
def formed : Term → Bool
  | .mk n v l => if v then decide (l.length = 0) && isName n false else decide (l.length ≤ 8) && (isName n true && formeds l)
def formeds : List Term → Bool
  | [] => true
  | a :: l => formed a && formeds l
end
theorem formeds_all (l : List Term) : formeds l = l.all formed := by induction l with | nil => rfl | cons a l ih => simp [formeds, ih]
theorem formed_eq (t : Term) : formed t = if t.var then decide (t.args.length = 0) && isName t.name false else decide (t.args.length ≤ 8) && (isName t.name true && t.args.all formed) := by
  cases t with | mk n v l => cases v <;> simp [formed, formeds_all, Term.var, Term.args, Term.name] <;> rfl
theorem length_le_tbs (l : List Term) : l.length ≤ tbs l := Nat.le_trans (length_le_sizes l) (sizes_le_tbs l)
theorem term_formed_s (t : Term) (hs : tb t < 2 ^ 62) : PF n_term_formed [encT t] (.bool (formed t)) := by
  induction t using term_ind with
  | h t ih =>
  have htb := tb_args t
  have hl := length_le_tbs t.args
  have hI : ∀ m, PF n_term_IsName [.str t.name, .bool m] (.bool (isName t.name m)) := fun m => term_IsName_s _ m (by omega)
  have hC := slices_ContainsFunc_s_Term_Term_s (p := fun a => !formed a) (g := n_term_formed_1) (caps := []) (fun _ => by push_cast) t.args (by omega) fun a ha => by
    refine pf_of term_formed_1.ok rfl ?_
    push_cast
    refine .of (ih a ha (by have := tb_mem ha; omega)) ?_
    push_cast
    exact pf_ret (by push_cast [term_formed_1.rs])
  refine pf_of term_formed.ok rfl ?_
  cases hv : t.var with
  | true =>
    by_cases h0 : t.args.length = 0
    · push_cast [hv, h0]
      refine .of (hI false) ?_
      push_cast
      exact pf_ret (by push_cast [term_formed.rs, formed_eq t, hv, h0])
    · have hi : ((t.args.length : Int) = 0) = False := eq_false (by omega)
      push_cast [hv, hi]
      exact pf_ret (by push_cast [term_formed.rs, formed_eq t, hv, h0])
  | false =>
    by_cases h0 : t.args.length ≤ 8
    · have hi : ((t.args.length : Int) ≤ 8) = True := eq_true (by omega)
      push_cast [hv, hi]
      refine .of (hI true) ?_
      cases hn : isName t.name true
      · push_cast
        exact pf_ret (by push_cast [term_formed.rs, formed_eq t, hv, h0, hn])
      · push_cast
        refine .of hC ?_
        push_cast
        exact pf_ret (by push_cast [term_formed.rs, formed_eq t, hv, h0, hn, any_not])
    · have hi : ((t.args.length : Int) ≤ 8) = False := eq_false (by omega)
      push_cast [hv, hi]
      exact pf_ret (by push_cast [term_formed.rs, formed_eq t, hv, h0])
def fits (t : Term) : Bool := decide (size t ≤ 4000) && decide (depth t ≤ 200)
theorem term_fits_s (t : Term) (hs : size t < 2 ^ 62) : PF n_term_fits [encT t] (.bool (fits t)) := by
  refine pf_of term_fits.ok rfl ?_
  push_cast
  refine .of (term_Size_s t hs) ?_
  push_cast
  by_cases h : size t ≤ 4000
  · have hi : ((size t : Int) ≤ 4000) = True := eq_true (by omega)
    push_cast [hi]
    refine .of (term_Depth_s t hs) ?_
    push_cast
    exact pf_ret (by push_cast [term_fits.rs, fits, h]; simp; omega)
  · have hi : ((size t : Int) ≤ 4000) = False := eq_false (by omega)
    push_cast [hi]
    exact pf_ret (by push_cast [term_fits.rs, fits, h])
/-- The error of a term. -/
def check (t : Term) : Int := if formed t then (if fits t then 0 else 3) else 4
theorem term_Check_s (t : Term) (hs : tb t < 2 ^ 62) : PF n_term_Check [encT t] (.int .i64 (check t)) := by
  refine pf_of term_Check.ok rfl ?_
  push_cast
  refine .of (term_formed_s t hs) ?_
  cases hf : formed t
  · push_cast
    exact pf_ret (by push_cast [term_Check.rs, check, hf])
  · push_cast
    refine .of (term_fits_s t (by have := size_le_tb t; omega)) ?_
    cases hg : fits t <;> push_cast <;> exact pf_ret (by push_cast [term_Check.rs, check, hf, hg])
end Go.Dw
end
section
set_option linter.unusedVariables false
set_option linter.unusedSimpArgs false
set_option maxRecDepth 100000
namespace Go.Dw
theorem room {n b : Nat} (h : n < 2 ^ 40) (hb : b ≤ 64) : (n + 1) * b ≤ maxEls := by
  have : (n + 1) * b ≤ (2 ^ 40) * 64 := Nat.mul_le_mul (by omega) hb
  unfold maxEls; omega
theorem term_Own_s (t : Term) (hs : size t < 2 ^ 40) : PF n_term_Own [encT t] (encT t) := by
  induction t using term_ind with
  | h t ih =>
  refine pf_of term_Own.ok rfl ?_
  have hst := size_args t
  have hl := length_le_sizes t.args
  push_cast
  refine loop_up (n := t.args.length) (R := fun k => term_Own.L3 (.ptr 0 0) (.ptr 1 0) (encTs t.args) (.int .i64 t.args.length) (.int .i64 k) 0
    [.cells t_Term [.str [], .bool false, .sl 3 []], .cells t_Term [.str t.name, .bool t.var, ownL cT 2 3 (t.args.take k)], .arr t_Term 3 k] _) ?_ ?_ 0 (by omega)
  · intro k hk ih2
    have hm := getD_mem hk
    have hsm := size_mem hm
    have hlt : (t.args.take k).length = k := by simp; omega
    refine term_Own.G3 ?_
    push_cast [ilt hk]
    refine .of (ih _ hm (by omega)) ?_
    push_cast [hlt, room (show k < 2 ^ 40 by omega) (show 48 ≤ 64 by omega), w64 (show k < 2 ^ 62 by omega)]
    rw [take_succ_getD hk] at ih2
    exact ih2
  · refine term_Own.G3 ?_
    push_cast [inlt (Nat.le_refl _)]
    refine pf_ret ?_
    push_cast [term_Own.rs, List.take_length]
    rw [encT, cT_eq]
/-- The subterm at a position. -/
def subT (t : Term) : List Int → Option Term
  | [] => some t
  | i :: p => if 0 ≤ i ∧ i < t.args.length then subT (t.args.getD i.toNat default) p else none
def noT : Term := .mk [] false []
def encOT : Option Term → V
  | some t => .tup [encT t, .bool true]
  | none => .tup [encT noT, .bool false]
theorem encT_no : V.agg [.str [], .bool false, .sl 3 []] = encT noT := rfl
theorem drop_of_none {p : List Int} {k : Nat} (h : ¬ k < p.length) : p.drop k = [] := List.drop_eq_nil_of_le (by omega)
theorem term_Sub_s (t : Term) (p : List Int) (hp : p.length < 2 ^ 62) : PF n_term_Sub [encT t, encP p] (encOT (subT t p)) := by
  refine pf_of term_Sub.ok rfl ?_
  push_cast
  have key : ∀ (n k : Nat) (u : Term), k + n = p.length → subT u (p.drop k) = subT t p → term_Sub.L3 (.ptr 0 0) (.ptr 1 0) (encP p) (.int .i64 p.length) (.int .i64 k) 0 [.cells t_Term (cT u), .cells t_Term [.str [], .bool false, .sl 3 []]]
      (Ends 0 term_Sub.rs fun x' H' => x' = encOT (subT t p) ∧ H' = []) := by
    intro n
    induction n with
    | zero =>
      intro k u hk hq
      refine term_Sub.G3 ?_
      push_cast [inlt (show p.length ≤ k by omega)]
      refine pf_ret ?_
      rw [drop_of_none (by omega)] at hq
      push_cast [term_Sub.rs, ← hq]
      rfl
    | succ n ih =>
      intro k u hk hq
      have hkl : k < p.length := by omega
      rw [drop_getD hkl] at hq
      refine term_Sub.G3 ?_
      generalize hi : p.getD k default = i at hq
      by_cases h0 : i < 0
      · push_cast [ilt hkl, hi, h0]
        refine pf_ret ?_
        push_cast [term_Sub.rs]
        rw [← hq, subT, if_neg (by omega)]; rfl
      · by_cases h1 : (u.args.length : Int) ≤ i
        · push_cast [ilt hkl, hi, h0, h1]
          refine pf_ret ?_
          push_cast [term_Sub.rs]
          rw [← hq, subT, if_neg (by omega)]; rfl
        · push_cast [ilt hkl, hi, h0, h1, w64 (show k < 2 ^ 62 by omega)]
          refine ⟨by omega, ih (k + 1) _ (by omega) ?_⟩
          rw [← hq, subT, if_pos (by omega)]
  exact key p.length 0 t (by omega) rfl

/-- Another subterm at a position. -/
def setT (t : Term) (p : List Int) (x : Term) : Term := match p with
  | [] => x
  | i :: p => .mk t.name t.var (if 0 ≤ i ∧ i < t.args.length then t.args.set i.toNat (setT (t.args.getD i.toNat default) p x) else t.args)
theorem setT_args {t x : Term} {i : Int} {p : List Int} : (setT t (i :: p) x).args = if 0 ≤ i ∧ i < t.args.length then t.args.set i.toNat (setT (t.args.getD i.toNat default) p x) else t.args := rfl
theorem setT_args_get {t x : Term} {i : Int} {p : List Int} {k : Nat} (hk : k < t.args.length) : (setT t (i :: p) x).args.getD k default = if (k : Int) = i then setT (t.args.getD k default) p x else t.args.getD k default := by
  rw [setT_args]
  by_cases h : 0 ≤ i ∧ i < t.args.length
  · rw [if_pos h]
    by_cases e : (k : Int) = i
    · rw [if_pos e]
      subst e
      simp [List.getD_eq_getElem?_getD, hk]
    · rw [if_neg e]
      simp only [List.getD_eq_getElem?_getD]
      rw [List.getElem?_set_ne (by omega)]
  · rw [if_neg h, if_neg (by omega)]
theorem setT_args_len {t x : Term} {i : Int} {p : List Int} : (setT t (i :: p) x).args.length = t.args.length := by
  rw [setT_args]; split <;> simp
theorem setT_nv {t x : Term} {i : Int} {p : List Int} : (setT t (i :: p) x).name = t.name ∧ (setT t (i :: p) x).var = t.var := ⟨rfl, rfl⟩
theorem term_Set_s (p : List Int) : ∀ (t x : Term), size t < 2 ^ 40 → size x < 2 ^ 40 → p.length < 2 ^ 40 → PF n_term_Set [encT t, encP p, encT x] (encT (setT t p x)) := by
  induction p with
  | nil =>
    intro t x ht hx hp
    refine pf_of term_Set.ok rfl ?_
    push_cast [List.length_nil]
    refine .of (term_Own_s x hx) ?_
    push_cast
    refine pf_ret ?_
    push_cast [term_Set.rs]
    rfl
  | cons i p ih =>
    intro t x ht hx hp
    have hst := size_args t
    have hl := length_le_sizes t.args
    have hpl : (i :: p).length = p.length + 1 := rfl
    refine pf_of term_Set.ok rfl ?_
    have hne : ((p.length : Int) + 1 = 0) = False := eq_false (by omega)
    push_cast [hne]
    have hal := setT_args_len (t := t) (x := x) (i := i) (p := p)
    refine loop_up (n := t.args.length) (R := fun k => term_Set.L3 (encP (i :: p)) (.ro (cT x) 0) (.ptr 0 0) (.ptr 1 0) (encTs t.args) (.int .i64 t.args.length) (.int .i64 k) 0
      [.cells t_Term [.str [], .bool false, .sl 3 []], .cells t_Term [.str t.name, .bool t.var, ownL cT 2 3 ((setT t (i :: p) x).args.take k)], .arr t_Term 3 k] _) ?_ ?_ 0 (by omega)
    · intro k hk ih2
      have hm := getD_mem hk
      have hsm := size_mem hm
      have hlt : ((setT t (i :: p) x).args.take k).length = k := by simp; omega
      rw [take_succ_getD (by omega), setT_args_get hk] at ih2
      refine term_Set.G3 ?_
      have h0 : ((0 : Int) < (p.length : Int) + 1) = True := eq_true (by omega)
      have hb : (1 ≤ p.length + 1) = True := eq_true (by omega)
      by_cases he : (k : Int) = i
      · rw [if_pos he] at ih2
        subst he
        push_cast [ilt hk, h0, List.getD_cons_zero, hb, List.drop_succ_cons, List.drop_zero, List.take_length]
        refine .of (ih _ _ (by omega) hx (by simp at hp; omega)) ?_
        push_cast [hlt, room (show k < 2 ^ 40 by omega) (show 48 ≤ 64 by omega), w64 (show k < 2 ^ 62 by omega)]
        exact ih2
      · rw [if_neg he] at ih2
        push_cast [ilt hk, h0, List.getD_cons_zero, he, hb]
        refine .of (term_Own_s _ (by omega)) ?_
        push_cast [hlt, room (show k < 2 ^ 40 by omega) (show 48 ≤ 64 by omega), w64 (show k < 2 ^ 62 by omega)]
        exact ih2
    · refine term_Set.G3 ?_
      push_cast [inlt (Nat.le_refl _)]
      refine pf_ret ?_
      rw [List.take_of_length_le (by omega)]
      push_cast [term_Set.rs]
      rw [encT, cT_eq, setT_nv.1, setT_nv.2]

def encTE (r : Option Term) (e : Int) : V := match r with
  | some t => .tup [encT t, .int .i64 e]
  | none => .tup [encT noT, .int .i64 e]
theorem term_Fit_s (t : Term) (hs : size t < 2 ^ 62) : PF n_term_Fit [encT t] (if fits t then encTE (some t) 0 else encTE none 3) := by
  refine pf_of term_Fit.ok rfl ?_
  push_cast
  refine .of (term_fits_s t hs) ?_
  cases hf : fits t <;> push_cast <;> exact pf_ret (by push_cast [term_Fit.rs]; rfl)
/-- The first error of several terms. -/
def checks : List Term → Int
  | [] => 0
  | a :: l => if check a ≠ 0 then check a else checks l
theorem term_All_s (l : List Term) (hl : l.length < 2 ^ 62) (hs : ∀ t ∈ l, tb t < 2 ^ 62) : PF n_term_All [encTs l] (.int .i64 (checks l)) := by
  refine pf_of term_All.ok rfl ?_
  push_cast
  refine loop_up (n := l.length) (R := fun k => checks (l.drop k) = checks l → term_All.L3 (encTs l) (.int .i64 l.length) (.int .i64 k) 0 [] _) ?_ ?_ 0 (by omega) rfl
  · intro k hk ih hq
    refine term_All.G3 ?_
    push_cast [ilt hk]
    refine .of (term_Check_s _ (hs _ (getD_mem hk))) ?_
    rw [drop_getD hk] at hq
    simp only [checks] at hq
    push_cast [w64 (show k < 2 ^ 62 by omega)]
    refine ⟨fun h => pf_ret ?_, fun h => ih ?_⟩
    · push_cast [term_All.rs]
      rw [← hq, if_pos h]
    · rw [← hq, if_neg h]
  · intro hq
    refine term_All.G3 ?_
    push_cast [inlt (Nat.le_refl _)]
    refine pf_ret ?_
    push_cast [term_All.rs]
    rw [← hq, List.drop_eq_nil_of_le (Nat.le_refl _)]; rfl
end Go.Dw
end
section
set_option linter.unusedVariables false
set_option linter.unusedSimpArgs false
set_option maxRecDepth 100000
namespace Go.Dw
abbrev cmpS : Str → Str → Int := Lib.compareBytes
theorem u8_lt_of {a b : UInt8} (h1 : ¬ a < b) (h2 : ¬ b < a) : a = b := UInt8.le_antisymm (UInt8.not_lt.1 h2) (UInt8.not_lt.1 h1)
theorem cmpS_eq : ∀ a b : Str, cmpS a b = if a < b then -1 else if b < a then 1 else 0
  | [], [] => by simp [cmpS, Lib.compareBytes]
  | [], _ :: _ => by simp [cmpS, Lib.compareBytes]
  | _ :: _, [] => by simp [cmpS, Lib.compareBytes]
  | x :: a, y :: b => by
    have ih := cmpS_eq a b
    simp only [cmpS, Lib.compareBytes, List.cons_lt_cons_iff] at ih ⊢
    by_cases h1 : x < y
    · simp [h1]
    · by_cases h2 : y < x
      · have hne : x ≠ y := fun e => by subst e; exact h1 h2
        have hne' : y ≠ x := fun e => hne e.symm
        simp [h1, h2, hne]
      · have := u8_lt_of h1 h2
        subst this
        simp [h1, ih]
theorem slt_trans {a b c : Str} (h : a < b) (h2 : b < c) : a < c := List.lt_trans h h2
theorem slt_asymm {a b : Str} (h : a < b) : ¬ b < a := List.lt_asymm h
theorem slt_irrefl (a : Str) : ¬ a < a := List.lt_irrefl a
theorem slt_eq {a b : Str} (h : ¬ a < b) (h2 : ¬ b < a) : a = b := List.le_antisymm h2 h
theorem cmpS_neg {a b : Str} : cmpS a b < 0 ↔ a < b := by
  rw [cmpS_eq]
  by_cases h : a < b
  · simp [h]
  · by_cases h2 : b < a <;> simp [h, h2]
theorem cmpS_zero {a b : Str} : cmpS a b = 0 ↔ a = b := by
  rw [cmpS_eq]
  by_cases h : a < b
  · simp only [h, if_true]; constructor
    · intro e; omega
    · intro e; subst e; exact absurd h (slt_irrefl a)
  · by_cases h2 : b < a
    · simp only [h, h2, if_true, if_false]; constructor
      · intro e; omega
      · intro e; subst e; exact absurd h2 (slt_irrefl a)
    · simp only [h, h2, if_false, true_iff]; exact slt_eq h h2
theorem bytesLess_eq : ∀ a b : Str, Op.bytesLess a b = decide (a < b)
  | [], [] => by simp [Op.bytesLess]
  | [], _ :: _ => by simp [Op.bytesLess]
  | _ :: _, [] => by simp [Op.bytesLess]
  | x :: a, y :: b => by
    simp only [Op.bytesLess, List.cons_lt_cons_iff, bytesLess_eq a b]
    rw [Bool.eq_iff_iff]; simp
/-- Sorted by names, each once. -/
def Sorted (s : List ABind) : Prop := s.Pairwise fun a b => a.name < b.name
/-- The place of a name. -/
def lbd (v : Str) : List ABind → Nat
  | [] => 0
  | b :: s => if b.name < v then lbd v s + 1 else 0
theorem lbd_le (v : Str) : ∀ s, lbd v s ≤ s.length
  | [] => Nat.le_refl _
  | b :: s => by simp only [lbd, List.length_cons]; have := lbd_le v s; split <;> omega
theorem lbd_lt {v : Str} : ∀ {s : List ABind} {j : Nat}, j < lbd v s → (s.getD j default).name < v
  | [], j, h => by simp [lbd] at h
  | b :: s, j, h => by
    simp only [lbd] at h
    split at h
    · rename_i hb
      cases j with
      | zero => simpa using hb
      | succ j => simpa using lbd_lt (s := s) (j := j) (by omega)
    · omega
theorem lbd_ge {v : Str} : ∀ {s : List ABind} {j : Nat}, Sorted s → lbd v s ≤ j → j < s.length → ¬ (s.getD j default).name < v
  | [], j, _, _, h => by simp at h
  | b :: s, j, hs, h, hj => by
    obtain ⟨h1, h2⟩ := List.pairwise_cons.1 hs
    simp only [lbd] at h
    split at h
    · rename_i hb
      cases j with
      | zero => omega
      | succ j => simpa using lbd_ge (s := s) (j := j) h2 (by omega) (by simpa using hj)
    · rename_i hb
      cases j with
      | zero => simpa using hb
      | succ j =>
        have hm : s.getD j default ∈ s := getD_mem (by simpa using hj)
        have := h1 _ hm
        intro hlt
        simp only [List.getD_cons_succ] at hlt
        exact hb (slt_trans this hlt)
/-- What a name is bound to. -/
def image : List ABind → Str → Option Term
  | [], _ => none
  | b :: s, v => if b.name = v then some b.term else image s v
def bound (s : List ABind) (v : Str) : Bool := (image s v).isSome
theorem image_lbd {v : Str} : ∀ {s : List ABind}, Sorted s → image s v = if lbd v s < s.length ∧ (s.getD (lbd v s) default).name = v then some (s.getD (lbd v s) default).term else none
  | [], _ => by simp [image]
  | b :: s, hs => by
    obtain ⟨h1, h2⟩ := List.pairwise_cons.1 hs
    simp only [image, lbd]
    by_cases hb : b.name < v
    · have hne : b.name ≠ v := fun e => by rw [e] at hb; exact slt_irrefl v hb
      simp only [hne, if_false, hb, if_true, image_lbd h2, List.getD_cons_succ, List.length_cons, Nat.add_lt_add_iff_right]
    · simp only [hb, if_false, List.getD_cons_zero, List.length_cons]
      by_cases he : b.name = v
      · simp [he]
      · simp only [he, if_false, and_false]
        have : ∀ c ∈ s, c.name ≠ v := fun c hc e => by
          have h3 := h1 c hc
          rw [e] at h3
          exact hb h3
        clear h1 h2 hs
        induction s with
        | nil => rfl
        | cons c s ih => simp only [image]; rw [if_neg (this c (by simp)), ih fun d hd => this d (by simp [hd])]
end Go.Dw
end
section
set_option linter.unusedVariables false
set_option linter.unusedSimpArgs false
set_option maxRecDepth 100000
namespace Go.Dw
theorem cmpstring_s (a b : Str) : PF n_bytealg_abigen_runtime_cmpstring [.str a, .str b] (.int .i64 (cmpS a b)) := by
  intro c vs hH hc hr
  obtain ⟨v1, vs1, rfl, h1, v2, vs2, rfl, h2, h3⟩ := hr
  have h1 : v1 = .string ⟨⟨a⟩⟩ := h1
  have h2 : v2 = .string ⟨⟨b⟩⟩ := h2
  have h3 : vs2 = [] := h3
  subst h1 h2 h3
  right
  refine ⟨_, c.w, ?_, _, .int .i64 (cmpS a b), c, rfl, rfl, ⟨rfl, hH⟩, hc, rfl, .refl c⟩
  rw [run_callFunc_extern at_bytealg_abigen_runtime_cmpstring (by kernel_rfl) (by kernel_rfl) (by kernel_rfl) (e := Extern.BytealgCompare.compare) (by kernel_rfl)]
  have := Lib.run_compareString (P := prog) ⟨⟨a⟩⟩ ⟨⟨b⟩⟩ c.w
  rw [this]; rfl
theorem CompareString_s (a b : Str) : PF n_bytealg_CompareString [.str a, .str b] (.int .i64 (cmpS a b)) := by
  refine pf_of bytealg_CompareString.ok rfl ?_
  push_cast
  refine .of (cmpstring_s a b) ?_
  push_cast
  exact pf_ret (by push_cast [bytealg_CompareString.rs])
theorem strings_Compare_s (a b : Str) : PF n_strings_Compare [.str a, .str b] (.int .i64 (cmpS a b)) := by
  refine pf_of strings_Compare.ok rfl ?_
  push_cast
  refine .of (CompareString_s a b) ?_
  push_cast
  exact pf_ret (by push_cast [strings_Compare.rs])
theorem term_Image_1_s (b : ABind) (v : Str) : PF n_term_Image_1 [encB b, .str v] (.int .i64 (cmpS b.name v)) := by
  refine pf_of term_Image_1.ok rfl ?_
  push_cast
  refine .of (strings_Compare_s _ _) ?_
  push_cast
  exact pf_ret (by push_cast [term_Image_1.rs])
theorem unify_bind_1_s (b : ABind) (v : Str) : PF n_unify_bind_1 [encB b, .str v] (.int .i64 (cmpS b.name v)) := by
  refine pf_of unify_bind_1.ok rfl ?_
  push_cast
  refine .of (strings_Compare_s _ _) ?_
  push_cast
  exact pf_ret (by push_cast [unify_bind_1.rs])
theorem half {i j : Nat} (hi : i < 2 ^ 61) (hj : j < 2 ^ 61) : IntKind.i64.wrap ((IntKind.u64.wrap (IntKind.i64.wrap ((i : Int) + (j : Int)))).fdiv (2 ^ min 1 IntKind.u64.bits)) = (((i + j) / 2 : Nat) : Int) := by
  rw [wrap64 (x := (i : Int) + j) (by omega) (by omega)]
  have h1 : IntKind.u64.wrap ((i : Int) + (j : Int)) = ((i + j : Nat) : Int) := by unfold IntKind.wrap IntKind.bits IntKind.signed; simp; omega
  rw [h1]
  have h2 : (2 ^ min 1 IntKind.u64.bits : Int) = 2 := by decide
  rw [h2]
  have h3 : ((i + j : Nat) : Int).fdiv 2 = (((i + j) / 2 : Nat) : Int) := by
    rw [Int.fdiv_eq_ediv_of_nonneg _ (by omega)]; omega
  rw [h3, wrap64 (by omega) (by omega)]
theorem BinarySearch_s {g : Nat} (hg : ∀ b v, PF g [encB b, .str v] (.int .i64 (cmpS b.name v))) (s : List ABind) (v : Str) (hs : Sorted s) (hl : s.length < 2 ^ 61) :
    PF n_slices_BinarySearchFunc_s_Bind_Bind_string [encBs s, .str v, .fn (.func g) [] []] (.tup [.int .i64 (lbd v s), .bool (bound s v)]) := by
  refine pf_of slices_BinarySearchFunc_s_Bind_Bind_string.ok rfl ?_
  have hle := lbd_le v s
  push_cast
  have key : ∀ (m i j : Nat), j - i ≤ m → i ≤ lbd v s → lbd v s ≤ j → j ≤ s.length → slices_BinarySearchFunc_s_Bind_Bind_string.L3 (encBs s) (.str v) (.fn (.func g) [] []) (.int .i64 s.length) (.int .i64 i) (.int .i64 j) 0 []
      (Ends 0 slices_BinarySearchFunc_s_Bind_Bind_string.rs fun x' H' => x' = .tup [.int .i64 (lbd v s), .bool (bound s v)] ∧ H' = []) := by
    intro m
    induction m with
    | zero =>
      intro i j hm h1 h2 h3
      have hij : i = lbd v s := by omega
      refine slices_BinarySearchFunc_s_Bind_Bind_string.G3 ?_
      push_cast [inlt (show j ≤ i by omega)]
      unfold bound
      rw [image_lbd hs]
      by_cases hi : i < s.length
      · push_cast [ilt hi]
        refine .of (hg _ _) ?_
        push_cast
        refine pf_ret ?_
        push_cast [slices_BinarySearchFunc_s_Bind_Bind_string.rs, cmpS_zero, hij]
        rw [hij] at hi
        by_cases hn : (s.getD (lbd v s) default).name = v
        · rw [if_pos ⟨hi, hn⟩]; simp only [hn]; rfl
        · rw [if_neg (fun h => hn h.2)]; simp only [hn]; rfl
      · push_cast [inlt (show s.length ≤ i by omega)]
        refine pf_ret ?_
        push_cast [slices_BinarySearchFunc_s_Bind_Bind_string.rs, hij]
        rw [if_neg (fun h => hi (by omega))]
        rfl
    | succ m ih =>
      intro i j hm h1 h2 h3
      by_cases hij : i < j
      · refine slices_BinarySearchFunc_s_Bind_Bind_string.G3 ?_
        have hh := half (i := i) (j := j) (by omega) (by omega)
        generalize hq : (i + j) / 2 = h at hh
        have hk : h < s.length := by omega
        push_cast [ilt hij]
        simp only [hh]
        push_cast [ilt hk]
        refine .of (hg _ _) ?_
        push_cast [w64 (show h < 2 ^ 62 by omega), cmpS_neg]
        refine ⟨fun hc => ih (h + 1) j (by omega) ?_ h2 h3, fun hc => ih i h (by omega) h1 ?_ (by omega)⟩
        · rcases Nat.lt_or_ge h (lbd v s) with h4 | h4
          · omega
          · exact absurd hc (lbd_ge hs h4 hk)
        · rcases Nat.lt_or_ge h (lbd v s) with h4 | h4
          · exact absurd (lbd_lt h4) hc
          · exact h4
      · exact ih i j (by omega) h1 h2 h3
  exact key s.length 0 s.length (by omega) (by omega) hle (Nat.le_refl _)
/-- What Image hands back. -/
theorem term_Image_s (s : List ABind) (v : Str) (hs : Sorted s) (hl : s.length < 2 ^ 61) : PF n_term_Image [encBs s, .str v] (encOT (image s v)) := by
  have hB := BinarySearch_s term_Image_1_s s v hs hl
  have hi := image_lbd (v := v) hs
  refine pf_of term_Image.ok rfl ?_
  push_cast
  refine callG_new hB ?_
  push_cast
  unfold bound
  by_cases hc : lbd v s < s.length ∧ (s.getD (lbd v s) default).name = v
  · rw [if_pos hc] at hi
    push_cast [hi, Option.isSome_some, ilt hc.1]
    refine pf_ret ?_
    push_cast [term_Image.rs]
    rfl
  · rw [if_neg hc] at hi
    push_cast [hi, Option.isSome_none]
    refine pf_ret ?_
    push_cast [term_Image.rs]
    rfl
end Go.Dw
end
section
set_option linter.unusedVariables false
set_option linter.unusedSimpArgs false
set_option maxRecDepth 100000
namespace Go.Dw
/-- All that a substitution holds. -/
def bbs : List ABind → Nat
  | [] => 0
  | b :: s => 1 + b.name.length + tb b.term + bbs s
theorem bbs_mem {s : List ABind} {b : ABind} (h : b ∈ s) : 1 + b.name.length + tb b.term ≤ bbs s := by
  induction s with
  | nil => cases h
  | cons x xs ih => rcases List.mem_cons.1 h with rfl | h <;> simp [bbs]; have := ih h; omega
theorem length_le_bbs (s : List ABind) : s.length ≤ bbs s := by
  induction s with
  | nil => simp
  | cons x xs ih => simp only [bbs, List.length_cons]; omega
/-- The names of a substitution are names, in order. -/
def namesOk : Option Str → List ABind → Bool
  | _, [] => true
  | p, b :: s => (isName b.name false && (match p with | none => true | some p => decide (p < b.name))) && namesOk (some b.name) s
def prevAt (s : List ABind) (k : Nat) : Option Str := if k = 0 then none else some (s.getD (k - 1) default).name
def checkSubst (s : List ABind) : Int := if namesOk none s then checks (s.map ABind.term) else 4
theorem namesOk_sorted : ∀ {s : List ABind} {p : Option Str}, namesOk p s = true → Sorted s ∧ ∀ q, p = some q → ∀ b ∈ s, q < b.name
  | [], p, _ => ⟨List.Pairwise.nil, fun q _ b hb => by cases hb⟩
  | b :: s, p, h => by
    simp only [namesOk, Bool.and_eq_true] at h
    obtain ⟨h1, h2⟩ := namesOk_sorted h.2
    refine ⟨List.pairwise_cons.2 ⟨fun c hc => h2 _ rfl c hc, h1⟩, fun q hq c hc => ?_⟩
    subst hq
    have h3 : q < b.name := by simpa using h.1.2
    rcases List.mem_cons.1 hc with rfl | hc
    · exact h3
    · exact slt_trans h3 (h2 _ rfl c hc)
theorem checkSubst_sorted {s : List ABind} (h : checkSubst s = 0) : Sorted s := by
  unfold checkSubst at h
  split at h
  · rename_i h2; exact (namesOk_sorted h2).1
  · omega
theorem drop_map_none {α : Type} {l : List α} : l.drop l.length = [] := List.drop_eq_nil_of_le (Nat.le_refl _)
theorem sub1 {k : Nat} (hk : k < 2 ^ 62) (h0 : 0 < k) : IntKind.i64.wrap ((k : Int) - 1) = ((k - 1 : Nat) : Int) := by rw [wrap64 (by omega) (by omega)]; omega
theorem sle {a b : Str} : (decide (a < b) || a == b) = !decide (b < a) := by
  by_cases h : b < a
  · have h1 : ¬ a < b := slt_asymm h
    have h2 : a ≠ b := fun e => by subst e; exact slt_irrefl _ h
    simp [h, h1, h2]
  · by_cases h1 : a < b
    · simp [h, h1]
    · have := slt_eq h1 h
      simp [h, this]
theorem strOpV_leq {a b : List UInt8} : strOpV .leq a b = some (.bool (!decide (b < a))) := by unfold strOpV; simp only [bytesLess_eq]; rw [← sle]
theorem strOpV_gtr {a b : List UInt8} : strOpV .gtr a b = some (.bool (decide (b < a))) := by unfold strOpV; simp only [bytesLess_eq]; rw [sle, Bool.not_not]
theorem strOpV_geq {a b : List UInt8} : strOpV .geq a b = some (.bool (!decide (a < b))) := by unfold strOpV; simp only [bytesLess_eq]
attribute [push_cast] strOpV_leq strOpV_gtr strOpV_geq bytesLess_eq
theorem term_CheckSubst_s (s : List ABind) (hs : bbs s < 2 ^ 61) : PF n_term_CheckSubst [encBs s] (.int .i64 (checkSubst s)) := by
  have hl := length_le_bbs s
  refine pf_of term_CheckSubst.ok rfl ?_
  push_cast
  refine loop_up (n := s.length) (R := fun k => namesOk (prevAt s k) (s.drop k) = namesOk none s → term_CheckSubst.L7 (encBs s) (encBs s) (.int .i64 s.length) (.int .i64 k) 0 [] _) ?_ ?_ 0 (by omega) rfl
  · intro k hk ih hq
    have hm := bbs_mem (getD_mem hk)
    refine term_CheckSubst.G7 ?_
    push_cast [ilt hk]
    refine .of (term_IsName_s _ false (by omega)) ?_
    rw [drop_getD hk] at hq
    simp only [namesOk] at hq
    cases hn : isName (s.getD k default).name false with
    | false =>
      push_cast [hn]
      refine pf_ret ?_
      push_cast [term_CheckSubst.rs]
      rw [hn] at hq
      simp only [Bool.false_and] at hq
      rw [checkSubst, ← hq]; rfl
    | true =>
      rw [hn] at hq
      simp only [Bool.true_and] at hq
      by_cases h0 : k = 0
      · subst h0
        push_cast [hn]
        refine ih ?_
        rw [← hq]
        simp [prevAt]
      · have hp : ((0 : Int) < (k : Int)) = True := eq_true (by omega)
        push_cast [hn, hp, sub1 (show k < 2 ^ 62 by omega) (by omega), ilt (show k - 1 < s.length by omega), bytesLess_eq]
        have hpv : prevAt s k = some (s.getD (k - 1) default).name := by unfold prevAt; rw [if_neg h0]
        have hpn : prevAt s (k + 1) = some (s.getD k default).name := by unfold prevAt; rw [if_neg (by omega)]; rfl
        rw [hpv] at hq
        rw [hpn] at ih
        simp only at hq
        push_cast [w64 (show k < 2 ^ 62 by omega)]
        refine ⟨fun hlt => pf_ret ?_, fun hlt => ih ?_⟩
        · push_cast [term_CheckSubst.rs]
          rw [checkSubst, ← hq]
          rw [Bool.not_eq_true'] at hlt
          rw [hlt, Bool.false_and]; rfl
        · rw [← hq]
          rw [Bool.not_eq_false'] at hlt
          rw [hlt, Bool.true_and]
  · intro hq
    refine term_CheckSubst.G7 ?_
    push_cast [inlt (Nat.le_refl _)]
    have hn : namesOk none s = true := by rw [← hq, drop_map_none]; rfl
    have hcs : checkSubst s = checks (s.map ABind.term) := by unfold checkSubst; rw [if_pos hn]
    rw [hcs]
    refine loop_up (n := s.length) (R := fun k => checks ((s.drop k).map ABind.term) = checks (s.map ABind.term) → term_CheckSubst.L3 (encBs s) (.int .i64 s.length) (.int .i64 k) 0 [] _) ?_ ?_ 0 (by omega) rfl
    · intro k hk ih hq
      have hm := bbs_mem (getD_mem hk)
      refine term_CheckSubst.G3 ?_
      push_cast [ilt hk]
      refine .of (term_Check_s _ (by omega)) ?_
      rw [drop_getD hk] at hq
      simp only [checks, List.map_cons] at hq
      push_cast [w64 (show k < 2 ^ 62 by omega)]
      refine ⟨fun h => pf_ret ?_, fun h => ih ?_⟩
      · push_cast [term_CheckSubst.rs]
        rw [← hq, if_pos h]
      · rw [← hq, if_neg h]
    · intro hq
      refine term_CheckSubst.G3 ?_
      push_cast [inlt (Nat.le_refl _)]
      refine pf_ret ?_
      push_cast [term_CheckSubst.rs]
      rw [← hq, drop_map_none]; rfl

end Go.Dw
end
section
set_option linter.unusedVariables false
set_option linter.unusedSimpArgs false
set_option maxRecDepth 100000
namespace Go.Dw
/-! ### Instances -/
mutual
/-- The instance of a term. -/
def inst (s : List ABind) : Term → Term
  | .mk n v l => if v then (image s n).getD (.mk n true []) else .mk n false (insts s l)
def insts (s : List ABind) : List Term → List Term
  | [] => []
  | a :: l => inst s a :: insts s l
end
theorem insts_map (s : List ABind) (l : List Term) : insts s l = l.map (inst s) := by induction l with | nil => rfl | cons a l ih => simp [insts, ih]
theorem inst_eq (s : List ABind) (t : Term) : inst s t = if t.var then (image s t.name).getD (.mk t.name true []) else .mk t.name false (t.args.map (inst s)) := by
  cases t with | mk n v l => simp only [inst, insts_map, Term.var, Term.name, Term.args]; rfl
theorem image_mem {s : List ABind} {v : Str} {x : Term} (h : image s v = some x) : ∃ b ∈ s, b.name = v ∧ b.term = x := by
  induction s with
  | nil => cases h
  | cons b s ih =>
    simp only [image] at h
    split at h
    · rename_i h2; exact ⟨b, by simp, h2, by simpa using h⟩
    · obtain ⟨c, hc, h3⟩ := ih h; exact ⟨c, by simp [hc], h3⟩
theorem image_size {s : List ABind} {v : Str} {x : Term} (h : image s v = some x) : tb x ≤ bbs s := by
  obtain ⟨b, hb, _, rfl⟩ := image_mem h
  have := bbs_mem hb; omega
theorem sizes_map_le {f : Term → Term} {m : Nat} : ∀ {l : List Term}, (∀ a ∈ l, size (f a) ≤ size a * m) → sizes (l.map f) ≤ sizes l * m
  | [], _ => by simp [sizes]
  | a :: l, h => by
    have h1 := h a (by simp)
    have h2 := sizes_map_le (l := l) fun b hb => h b (by simp [hb])
    simp only [List.map_cons, sizes, Nat.add_mul]; omega
theorem inst_size (s : List ABind) (t : Term) : size (inst s t) ≤ size t * (1 + bbs s) := by
  induction t using term_ind with
  | h t ih =>
    rw [inst_eq]
    have h1 : 1 * (1 + bbs s) ≤ size t * (1 + bbs s) := Nat.mul_le_mul_right _ (by rw [size_args]; omega)
    split
    · cases hx : image s t.name with
      | some x => have := image_size hx; have := size_le_tb x; simp only [Option.getD_some]; omega
      | none => simp only [Option.getD_none, size, sizes]; omega
    · have := sizes_map_le (f := inst s) (m := 1 + bbs s) ih
      simp only [size, size_args t, Nat.add_mul]; omega

theorem mul_lt {a b : Nat} (ha : a < 2 ^ 30) (hb : b < 2 ^ 30) : a * b ≤ 2 ^ 60 := by
  have : a * b ≤ 2 ^ 30 * 2 ^ 30 := Nat.mul_le_mul (by omega) (by omega)
  omega
theorem inst_small {s : List ABind} {t : Term} (ht : tb t < 2 ^ 30) (hs : bbs s < 2 ^ 29) : size (inst s t) ≤ 2 ^ 60 := by
  have h1 := inst_size s t
  have h2 := size_le_tb t
  have := mul_lt (a := size t) (b := 1 + bbs s) (by omega) (by omega)
  omega
theorem term_measure_s (s : List ABind) (hs : Sorted s) (hb : bbs s < 2 ^ 29) (t : Term) (ht : tb t < 2 ^ 30) : PF n_term_measure [encBs s, encT t] (.agg [.int .i64 (size (inst s t)), .int .i64 (depth (inst s t))]) := by
  have hl := length_le_bbs s
  induction t using term_ind with
  | h t ih =>
  have hI := term_Image_s s t.name hs (by omega)
  have htb := tb_args t
  have hlt := length_le_tbs t.args
  have hsm := inst_small ht hb
  refine pf_of term_measure.ok rfl ?_
  cases hv : t.var with
  | true =>
    push_cast [hv]
    refine .of hI ?_
    rw [inst_eq, hv]
    cases hx : image s t.name with
    | some x =>
      have h1 := image_size hx
      have h2 := size_le_tb x
      push_cast [encOT]
      refine .of (term_Size_s x (by omega)) ?_
      push_cast
      refine .of (term_Depth_s x (by omega)) ?_
      push_cast
      refine pf_ret ?_
      push_cast [term_measure.rs]
      exact ⟨rfl, rfl⟩
    | none =>
      push_cast [encOT]
      refine pf_ret ?_
      push_cast [term_measure.rs]
      exact ⟨rfl, rfl⟩
  | false =>
    have he : inst s t = .mk t.name false (t.args.map (inst s)) := by rw [inst_eq, hv]; rfl
    rw [he] at hsm
    rw [he]
    simp only [size] at hsm
    have hd := depths_le_sizes (t.args.map (inst s))
    push_cast [hv]
    refine loop_up (n := t.args.length) (R := fun k => term_measure.L3 (encBs s) (.ptr 0 0) (.ptr 1 0) (encTs t.args) (.int .i64 t.args.length) (.int .i64 k) 0
      [.cells t_term_meter [.int .i64 0, .int .i64 0], .cells t_term_meter [.int .i64 (1 + sizes ((t.args.take k).map (inst s)) : Nat), .int .i64 (depths ((t.args.take k).map (inst s)) : Nat)]] _) ?_ ?_ 0 (by omega)
    · intro k hk ih2
      have hm := getD_mem hk
      have hs1 : sizes ((t.args.take (k + 1)).map (inst s)) = sizes ((t.args.take k).map (inst s)) + size (inst s (t.args.getD k default)) := by
        rw [take_succ_getD hk, List.map_append, sizes_append]; simp [sizes]
      have hd1 : depths ((t.args.take (k + 1)).map (inst s)) = max (depths ((t.args.take k).map (inst s))) (depth (inst s (t.args.getD k default))) := by
        rw [take_succ_getD hk, List.map_append, depths_append]; simp [depths]
      have hle : sizes ((t.args.take (k + 1)).map (inst s)) ≤ sizes (t.args.map (inst s)) := by
        rw [List.map_take]; exact sizes_take_le _ _
      have htm := tb_mem hm
      rw [hs1, hd1] at ih2
      refine term_measure.G3 ?_
      push_cast [ilt hk]
      refine .of (ih _ hm (by omega)) ?_
      push_cast [w64 (show k < 2 ^ 62 by omega)]
      rw [wrap64 (by omega) (by omega), Int.add_assoc]
      push_cast at ih2
      exact ih2
    · refine term_measure.G3 ?_
      push_cast [inlt (Nat.le_refl _)]
      refine pf_ret ?_
      rw [wrap64 (by rw [List.take_length]; omega) (by rw [List.take_length]; omega)]
      push_cast [term_measure.rs, size, depth, List.take_length]

theorem term_replace_s (s : List ABind) (hs : Sorted s) (hb : bbs s < 2 ^ 40) (t : Term) (ht : tb t < 2 ^ 40) : PF n_term_replace [encBs s, encT t] (encT (inst s t)) := by
  have hl := length_le_bbs s
  induction t using term_ind with
  | h t ih =>
  have hI := term_Image_s s t.name hs (by omega)
  have htb := tb_args t
  have hlt := length_le_tbs t.args
  refine pf_of term_replace.ok rfl ?_
  cases hv : t.var with
  | true =>
    push_cast [hv]
    refine .of hI ?_
    rw [inst_eq, hv]
    cases hx : image s t.name with
    | some x =>
      have h1 := image_size hx
      have h2 := size_le_tb x
      push_cast [encOT]
      refine .of (term_Own_s x (by omega)) ?_
      push_cast
      refine pf_ret ?_
      push_cast [term_replace.rs]
      rfl
    | none =>
      push_cast [encOT]
      refine pf_ret ?_
      push_cast [term_replace.rs]
      rfl
  | false =>
    have he : inst s t = .mk t.name false (t.args.map (inst s)) := by rw [inst_eq, hv]; rfl
    rw [he]
    push_cast [hv]
    refine loop_up (n := t.args.length) (R := fun k => term_replace.L3 (encBs s) (.ptr 0 0) (.ptr 1 0) (encTs t.args) (.int .i64 t.args.length) (.int .i64 k) 0
      [.cells t_Term [.str [], .bool false, .sl 3 []], .cells t_Term [.str t.name, .bool false, ownL cT 2 3 ((t.args.take k).map (inst s))], .arr t_Term 3 k] _) ?_ ?_ 0 (by omega)
    · intro k hk ih2
      have hm := getD_mem hk
      have htm := tb_mem hm
      have hlt : ((t.args.take k).map (inst s)).length = k := by simp; omega
      rw [take_succ_getD hk, List.map_append] at ih2
      refine term_replace.G3 ?_
      push_cast [ilt hk]
      refine .of (ih _ hm (by omega)) ?_
      push_cast [hlt, room (show k < 2 ^ 40 by omega) (show 48 ≤ 64 by omega), w64 (show k < 2 ^ 62 by omega)]
      exact ih2
    · refine term_replace.G3 ?_
      push_cast [inlt (Nat.le_refl _)]
      refine pf_ret ?_
      push_cast [term_replace.rs, List.take_length, cT_mk]
theorem inst_none (s : List ABind) (t : Term) : (if 4000 < size (inst s t) ∨ 200 < depth (inst s t) then encTE none 3 else encTE (some (inst s t)) 0) = if fits (inst s t) then encTE (some (inst s t)) 0 else encTE none 3 := by
  unfold fits
  by_cases h1 : 4000 < size (inst s t)
  · rw [if_pos (.inl h1), if_neg (by simp; omega)]
  · by_cases h2 : 200 < depth (inst s t)
    · rw [if_pos (.inr h2), if_neg (by simp; omega)]
    · rw [if_neg (by omega), if_pos (by simp; omega)]
theorem term_Instance_s (s : List ABind) (hs : Sorted s) (hb : bbs s < 2 ^ 29) (t : Term) (ht : tb t < 2 ^ 30) : PF n_term_Instance [encBs s, encT t] (if fits (inst s t) then encTE (some (inst s t)) 0 else encTE none 3) := by
  rw [← inst_none]
  refine pf_of term_Instance.ok rfl ?_
  push_cast
  refine .of (term_measure_s s hs hb t ht) ?_
  by_cases h1 : 4000 < size (inst s t)
  · have h1' : ((4000 : Int) < (size (inst s t) : Int)) = True := eq_true (by omega)
    push_cast [h1']
    refine pf_ret ?_
    push_cast [term_Instance.rs]
    rw [if_pos (.inl h1)]; rfl
  · have h1' : ((4000 : Int) < (size (inst s t) : Int)) = False := eq_false (by omega)
    by_cases h2 : 200 < depth (inst s t)
    · have h2' : ((200 : Int) < (depth (inst s t) : Int)) = True := eq_true (by omega)
      push_cast [h1', h2']
      refine pf_ret ?_
      push_cast [term_Instance.rs]
      rw [if_pos (.inr h2)]; rfl
    · have h2' : ((200 : Int) < (depth (inst s t) : Int)) = False := eq_false (by omega)
      push_cast [h1', h2']
      refine .of (term_replace_s s hs (by omega) t (by omega)) ?_
      push_cast
      refine pf_ret ?_
      push_cast [term_Instance.rs]
      rw [if_neg (by omega)]; rfl
/-- What Apply hands back. -/
def applyT (s : List ABind) (t : Term) : V :=
  if checkSubst s ≠ 0 then encTE none (checkSubst s) else if check t ≠ 0 then encTE none (check t) else if fits (inst s t) then encTE (some (inst s t)) 0 else encTE none 3
theorem term_Apply_s (s : List ABind) (hb : bbs s < 2 ^ 29) (t : Term) (ht : tb t < 2 ^ 30) : PF n_term_Apply [encBs s, encT t] (applyT s t) := by
  refine pf_of term_Apply.ok rfl ?_
  push_cast
  refine .of (term_CheckSubst_s s (by omega)) ?_
  unfold applyT
  by_cases h1 : checkSubst s = 0
  · rw [if_neg (by simpa using h1)]
    push_cast [h1]
    refine .of (term_Check_s t (by omega)) ?_
    by_cases h2 : check t = 0
    · rw [if_neg (by simpa using h2)]
      push_cast [h2]
      refine .of (term_Instance_s s (checkSubst_sorted h1) hb t ht) ?_
      cases hf : fits (inst s t) <;> push_cast [encTE] <;> exact pf_ret (by push_cast [term_Apply.rs])
    · rw [if_pos h2]
      push_cast [h2]
      exact pf_ret (by push_cast [term_Apply.rs]; rfl)
  · rw [if_pos h1]
    push_cast [h1]
    exact pf_ret (by push_cast [term_Apply.rs]; rfl)
end Go.Dw
end
