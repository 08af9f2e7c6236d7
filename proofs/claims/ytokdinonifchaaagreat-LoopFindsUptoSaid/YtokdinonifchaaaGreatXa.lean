/-
  Contracts: terms, first part.
-/
import Derived.Test.YtokdinonifchaaaGreatYa
import Derived.Test.YtokdinonifchaaaGreatTa
import Derived.Test.YtokdinonifchaaaGreatTb
import Derived.Test.YtokdinonifchaaaGreatTc
import Derived.Test.YtokdinonifchaaaGreatTd
section
set_option linter.unusedVariables false
set_option linter.unusedSimpArgs false
set_option maxRecDepth 100000
namespace Go.Dw
mutual
def size : Term → Nat
  | .mk _ _ l => 1 + sizes l
def sizes : List Term → Nat
  | [] => 0
  | a :: l => size a + sizes l
end
theorem sizes_append (a b : List Term) : sizes (a ++ b) = sizes a + sizes b := by
  induction a with
  | nil => simp [sizes]
  | cons x xs ih => simp [sizes, ih]; omega
theorem size_args (t : Term) : size t = 1 + sizes t.args := by cases t; simp [size, Term.args]
theorem sizes_take_succ (l : List Term) (k : Nat) (h : k < l.length) : sizes (l.take (k+1)) = sizes (l.take k) + size (l.getD k default) := by
  rw [take_succ_getD h, sizes_append]; simp [sizes]
theorem sizes_take_le (l : List Term) (k : Nat) : sizes (l.take k) ≤ sizes l := by
  conv => rhs; rw [← List.take_append_drop k l]
  rw [sizes_append]; omega
theorem size_mem {l : List Term} {a : Term} (h : a ∈ l) : size a ≤ sizes l := by
  induction l with
  | nil => cases h
  | cons x xs ih => rcases List.mem_cons.1 h with rfl | h <;> simp [sizes]; have := ih h; omega
theorem length_le_sizes (l : List Term) : l.length ≤ sizes l := by
  induction l with
  | nil => simp
  | cons x xs ih => simp only [sizes, List.length_cons]; have := size_args x; omega
/-- Induction over terms. -/
theorem term_ind {p : Term → Prop} (h : ∀ t, (∀ a ∈ t.args, p a) → p t) (t : Term) : p t := by
  have : ∀ n t, size t ≤ n → p t := by
    intro n
    induction n with
    | zero => intro t ht; have := size_args t; omega
    | succ n ih =>
      intro t ht
      refine h t fun a ha => ih a ?_
      have := size_args t
      have := size_mem ha
      omega
  exact this (size t) t (Nat.le_refl _)

/-- Two rows, element by element. -/
def eqf {α β : Type} (f : α → β → Bool) : List α → List β → Bool
  | [], [] => true
  | a :: l, b :: m => f a b && eqf f l m
  | _, _ => false
theorem eqf_len {α β : Type} {f : α → β → Bool} : ∀ {l : List α} {m : List β}, eqf f l m = true → l.length = m.length
  | [], [], _ => rfl
  | a :: l, b :: m, h => by simp only [eqf, Bool.and_eq_true] at h; simp [eqf_len h.2]
  | [], _ :: _, h => by cases h
  | _ :: _, [], h => by cases h
mutual
def teq : Term → Term → Bool
  | .mk n v l, .mk n' v' l' => n == n' && v == v' && teqs l l'
def teqs : List Term → List Term → Bool
  | [], [] => true
  | a :: l, b :: m => teq a b && teqs l m
  | _, _ => false
end
mutual
theorem teq_iff : ∀ a b : Term, teq a b = true ↔ a = b
  | .mk n v l, .mk n' v' l' => by simp [teq, teqs_iff l l', and_assoc]
theorem teqs_iff : ∀ a b : List Term, teqs a b = true ↔ a = b
  | [], [] => by simp [teqs]
  | a :: l, b :: m => by simp [teqs, teq_iff a b, teqs_iff l m]
  | [], _ :: _ => by simp [teqs]
  | _ :: _, [] => by simp [teqs]
end
instance : DecidableEq Term := fun a b => if h : teq a b = true then .isTrue ((teq_iff a b).1 h) else .isFalse fun e => h ((teq_iff a b).2 e)
theorem eqf_eq {f : Term → Term → Bool} : ∀ {l m : List Term}, (∀ a ∈ l, ∀ b, f a b = decide (a = b)) → eqf f l m = decide (l = m)
  | [], [], _ => rfl
  | a :: l, b :: m, h => by
    simp only [eqf, h a (by simp) b, eqf_eq (l := l) (m := m) fun x hx => h x (by simp [hx])]
    simp
  | [], _ :: _, _ => rfl
  | _ :: _, [], _ => rfl
theorem term_eq_iff (a b : Term) : a = b ↔ a.name = b.name ∧ a.var = b.var ∧ a.args = b.args := by cases a; cases b; simp [Term.name, Term.var, Term.args]
end Go.Dw
end
section
set_option linter.unusedVariables false
set_option linter.unusedSimpArgs false
namespace Go.Dw
/-! ### Letters, strings, numbers in slices -/
def cU8 (c : UInt8) : List V := [.int .u8 c.toNat]
def cS (s : Str) : List V := [.str s]
def cI (n : Int) : List V := [.int .i64 n]
theorem cU8_fold (s : Str) : (.sl 1 (s.map fun c => [V.int .u8 c.toNat]) : V) = encL cU8 1 s := rfl
theorem cU8_0 (c : UInt8) : (cU8 c)[0]? = some (.int .u8 c.toNat) := rfl
theorem cS_0 (s : Str) : (cS s)[0]? = some (.str s) := rfl
theorem cI_0 (n : Int) : (cI n)[0]? = some (.int .i64 n) := rfl
theorem cS_one (s : Str) : [V.str s] = cS s := rfl
theorem cI_one (n : Int) : [V.int .i64 n] = cI n := rfl
theorem cU8_len (s : UInt8) : (cU8 s).length = 1 := rfl
theorem cS_len (s : Str) : (cS s).length = 1 := rfl
theorem cI_len (s : Int) : (cI s).length = 1 := rfl
abbrev encSs (l : List Str) : V := encL cS 1 l
abbrev encP (l : List Int) : V := encL cI 1 l

/-! ### Structs -/
structure ARule where
  left : Term
  right : Term
  deriving Inhabited, DecidableEq
def cR (r : ARule) : List V := cT r.left ++ cT r.right
def encR (r : ARule) : V := .agg (cR r)
abbrev encRs (l : List ARule) : V := encL cR 6 l
structure ABind where
  name : Str
  term : Term
  deriving Inhabited, DecidableEq
def cB (b : ABind) : List V := .str b.name :: cT b.term
def encB (b : ABind) : V := .agg (cB b)
abbrev encBs (l : List ABind) : V := encL cB 4 l
structure AStep where
  rule : Int
  pos : List Int
  deriving Inhabited, DecidableEq
def cSt (s : AStep) : List V := [.int .i64 s.rule, encP s.pos]
def encSt (s : AStep) : V := .agg (cSt s)
abbrev encSts (l : List AStep) : V := encL cSt 2 l
structure AChain where
  start : Term
  steps : List AStep
  deriving Inhabited, DecidableEq
def cC (c : AChain) : List V := cT c.start ++ [encSts c.steps]
def encC (c : AChain) : V := .agg (cC c)
structure AEdge where
  src : Int
  dst : Int
  step : AStep
  deriving Inhabited, DecidableEq
def cEd (e : AEdge) : List V := .int .i64 e.src :: .int .i64 e.dst :: cSt e.step
def encEd (e : AEdge) : V := .agg (cEd e)
abbrev encEds (l : List AEdge) : V := encL cEd 4 l
structure AGraph where
  terms : List Term
  edges : List AEdge
  whole : Bool
  deriving Inhabited, DecidableEq
def cG (g : AGraph) : List V := [encTs g.terms, encEds g.edges, .bool g.whole]
def encG (g : AGraph) : V := .agg (cG g)
structure ALoop where
  chain : AChain
  pos : List Int
  subst : List ABind
  deriving Inhabited, DecidableEq
def cL (l : ALoop) : List V := cC l.chain ++ [encP l.pos, encBs l.subst]
def encLo (l : ALoop) : V := .agg (cL l)

section
variable (r : ARule) (b : ABind) (s : AStep) (c : AChain) (e : AEdge) (g : AGraph) (l : ALoop) {σ : Nat → Option Nat}
theorem cR_len : (cR r).length = 6 := rfl
theorem cB_len : (cB b).length = 4 := rfl
theorem cSt_len : (cSt s).length = 2 := rfl
theorem cC_len : (cC c).length = 4 := rfl
theorem cEd_len : (cEd e).length = 4 := rfl
theorem cG_len : (cG g).length = 3 := rfl
theorem cL_len : (cL l).length = 6 := rfl
theorem sto_encR : sto (encR r) = some (cR r) := rfl
theorem sto_encB : sto (encB b) = some (cB b) := rfl
theorem sto_encSt : sto (encSt s) = some (cSt s) := rfl
theorem sto_encC : sto (encC c) = some (cC c) := rfl
theorem sto_encEd : sto (encEd e) = some (cEd e) := rfl
theorem sto_encG : sto (encG g) = some (cG g) := rfl
theorem sto_encLo : sto (encLo l) = some (cL l) := rfl
theorem rens_cR : rens σ (cR r) = cR r := rfl
theorem rens_cB : rens σ (cB b) = cB b := rfl
theorem rens_cSt : rens σ (cSt s) = cSt s := rfl
theorem rens_cC : rens σ (cC c) = cC c := rfl
theorem rens_cEd : rens σ (cEd e) = cEd e := rfl
theorem rens_cG : rens σ (cG g) = cG g := rfl
theorem rens_cL : rens σ (cL l) = cL l := rfl
theorem ren_encR : ren σ (encR r) = encR r := by unfold encR; rw [ren_agg, rens_cR]
theorem ren_encB : ren σ (encB b) = encB b := by unfold encB; rw [ren_agg, rens_cB]
theorem ren_encSt : ren σ (encSt s) = encSt s := by unfold encSt; rw [ren_agg, rens_cSt]
theorem ren_encC : ren σ (encC c) = encC c := by unfold encC; rw [ren_agg, rens_cC]
theorem ren_encEd : ren σ (encEd e) = encEd e := by unfold encEd; rw [ren_agg, rens_cEd]
theorem ren_encG : ren σ (encG g) = encG g := by unfold encG; rw [ren_agg, rens_cG]
theorem ren_encLo : ren σ (encLo l) = encLo l := by unfold encLo; rw [ren_agg, rens_cL]
theorem encR_fold : V.agg (cR r) = encR r := rfl
theorem encB_fold : V.agg (cB b) = encB b := rfl
theorem encSt_fold : V.agg (cSt s) = encSt s := rfl
theorem encC_fold : V.agg (cC c) = encC c := rfl
theorem encEd_fold : V.agg (cEd e) = encEd e := rfl
theorem encG_fold : V.agg (cG g) = encG g := rfl
theorem encLo_fold : V.agg (cL l) = encLo l := rfl
-- parts
theorem sub_R_l : sub 0 3 (cR r) = cT r.left := rfl
theorem sub_R_r : sub 3 3 (cR r) = cT r.right := rfl
theorem sub_R_a : sub 0 6 (cR r) = cR r := rfl
theorem cB_0 : (cB b)[0]? = some (.str b.name) := rfl
theorem sub_B_t : sub 1 3 (cB b) = cT b.term := rfl
theorem sub_B_a : sub 0 4 (cB b) = cB b := rfl
theorem cSt_0 : (cSt s)[0]? = some (.int .i64 s.rule) := rfl
theorem cSt_1 : (cSt s)[1]? = some (encP s.pos) := rfl
theorem sub_St_a : sub 0 2 (cSt s) = cSt s := rfl
theorem sub_C_s : sub 0 3 (cC c) = cT c.start := rfl
theorem cC_3 : (cC c)[3]? = some (encSts c.steps) := rfl
theorem sub_C_a : sub 0 4 (cC c) = cC c := rfl
theorem cEd_0 : (cEd e)[0]? = some (.int .i64 e.src) := rfl
theorem cEd_1 : (cEd e)[1]? = some (.int .i64 e.dst) := rfl
theorem sub_Ed_s : sub 2 2 (cEd e) = cSt e.step := rfl
theorem sub_Ed_a : sub 0 4 (cEd e) = cEd e := rfl
theorem cG_0 : (cG g)[0]? = some (encTs g.terms) := rfl
theorem cG_1 : (cG g)[1]? = some (encEds g.edges) := rfl
theorem cG_2 : (cG g)[2]? = some (.bool g.whole) := rfl
theorem sub_G_a : sub 0 3 (cG g) = cG g := rfl
theorem sub_L_c : sub 0 4 (cL l) = cC l.chain := rfl
theorem sub_L_s : sub 0 3 (cL l) = cT l.chain.start := rfl
theorem cL_3 : (cL l)[3]? = some (encSts l.chain.steps) := rfl
theorem cL_4 : (cL l)[4]? = some (encP l.pos) := rfl
theorem cL_5 : (cL l)[5]? = some (encBs l.subst) := rfl
theorem sub_L_a : sub 0 6 (cL l) = cL l := rfl
theorem fdR (k : Nat) : fdV k (some 3) (encR r) = if k + 3 ≤ 6 then some (.agg (sub k 3 (cR r))) else none := rfl
theorem fdB0 : fdV 0 none (encB b) = some (.str b.name) := rfl
theorem fdB1 : fdV 1 (some 3) (encB b) = some (encT b.term) := rfl
end
attribute [push_cast] cU8_fold cU8_0 cS_0 cI_0 cU8_len cS_len cI_len cR_len cB_len cSt_len cC_len cEd_len cG_len cL_len sto_encR sto_encB sto_encSt sto_encC sto_encEd sto_encG sto_encLo rens_cR rens_cB rens_cSt rens_cC rens_cEd rens_cG rens_cL ren_encR ren_encB ren_encSt ren_encC ren_encEd ren_encG ren_encLo
  encR_fold encB_fold encSt_fold encC_fold encEd_fold encG_fold encLo_fold sub_R_l sub_R_r sub_R_a cB_0 sub_B_t sub_B_a cSt_0 cSt_1 sub_St_a sub_C_s cC_3 sub_C_a cEd_0 cEd_1 sub_Ed_s sub_Ed_a cG_0 cG_1 cG_2 sub_G_a sub_L_c sub_L_s cL_3 cL_4 cL_5 sub_L_a fdB0 fdB1

/-- The first place, or -1. -/
def idxI {α : Type} (p : α → Bool) : List α → Int
  | [] => -1
  | a :: l => if p a then 0 else if idxI p l < 0 then -1 else idxI p l + 1
theorem idxI_cases {α : Type} (p : α → Bool) : ∀ l : List α, (idxI p l = -1 ∧ l.any p = false) ∨ (0 ≤ idxI p l ∧ idxI p l < l.length ∧ l.any p = true)
  | [] => .inl ⟨rfl, rfl⟩
  | a :: l => by
    simp only [idxI, List.any_cons, List.length_cons]
    cases hp : p a with
    | true => right; simp
    | false => rcases idxI_cases p l with ⟨h1, h2⟩ | ⟨h1, h2, h3⟩
               · left; simp [h1, h2]
               · right; simp only [Bool.false_eq_true, if_false, h3]; rw [if_neg (by omega)]; simp; omega
theorem idxI_any {α : Type} (p : α → Bool) (l : List α) : decide (0 ≤ idxI p l) = l.any p := by
  rcases idxI_cases p l with ⟨h1, h2⟩ | ⟨h1, h2, h3⟩
  · rw [h1, h2]; rfl
  · rw [h3]; simp [h1]
theorem idxI_some {α : Type} [Inhabited α] {p : α → Bool} : ∀ {l : List α} {k : Nat}, k < l.length → p (l.getD k default) = true → (∀ j, j < k → p (l.getD j default) = false) → idxI p l = k
  | [], k, hk, _, _ => by simp at hk
  | a :: l, 0, hk, hp, _ => by simp only [idxI]; rw [if_pos (by simpa using hp)]; rfl
  | a :: l, k + 1, hk, hp, hq => by
    have h0 : p a = false := hq 0 (by omega)
    have := idxI_some (l := l) (k := k) (by simpa using hk) (by simpa using hp) fun j hj => by have := hq (j + 1) (by omega); simpa using this
    simp only [idxI, h0, Bool.false_eq_true, if_false, this]
    rw [if_neg (by omega)]; omega
theorem idxI_none {α : Type} [Inhabited α] {p : α → Bool} : ∀ {l : List α}, (∀ j, j < l.length → p (l.getD j default) = false) → idxI p l = -1
  | [], _ => rfl
  | a :: l, hq => by
    have h0 : p a = false := hq 0 (by simp)
    have := idxI_none (l := l) fun j hj => by have := hq (j + 1) (by simpa using hj); simpa using this
    simp [idxI, h0, this]
end Go.Dw
end
section
set_option linter.unusedVariables false
set_option linter.unusedSimpArgs false
set_option maxRecDepth 100000
namespace Go.Dw
theorem term_Size_s (t : Term) (hs : size t < 2 ^ 62) : PF n_term_Size [encT t] (.int .i64 (size t)) := by
  induction t using term_ind with
  | h t ih =>
  refine pf_of term_Size.ok rfl ?_
  have hst := size_args t
  have hl := length_le_sizes t.args
  push_cast
  refine loop_up (n := t.args.length) (R := fun k => term_Size.L3 (.int .i64 ((1 + sizes (t.args.take k) : Nat) : Int)) (encTs t.args) (.int .i64 t.args.length) (.int .i64 k) 0 [] _) ?_ ?_ 0 (by omega)
  · intro k hk ih2
    have h1 := sizes_take_succ _ _ hk
    have h2 := sizes_take_le t.args (k+1)
    have hm := getD_mem hk
    refine term_Size.G3 ?_
    push_cast [ilt hk]
    refine .of (ih _ hm (by omega)) ?_
    push_cast [w64 (show k < 2 ^ 62 by omega)]
    rw [wrap64 (by omega) (by omega)]
    rw [h1] at ih2
    simpa [Int.add_assoc] using ih2
  · refine term_Size.G3 ?_
    push_cast [inlt (Nat.le_refl _)]
    refine pf_ret ?_
    push_cast [term_Size.rs, List.take_length, hst]

theorem EqualFunc_s {f : Term → Term → Bool} {g : Nat} (l m : List Term) (hl : l.length < 2 ^ 62) (h : ∀ a ∈ l, ∀ b, PF g [encT a, encT b] (.bool (f a b))) :
    PF n_slices_EqualFunc_s_Term_s_Term_Term_Term [encTs l, encTs m, .fn (.func g) [] []] (.bool (eqf f l m)) := by
  refine pf_of slices_EqualFunc_s_Term_s_Term_Term_Term.ok rfl ?_
  push_cast
  refine ⟨fun hne => pf_ret ?_, fun he => ?_⟩
  · push_cast [slices_EqualFunc_s_Term_s_Term_Term_Term.rs]
    cases hq : eqf f l m with
    | false => rfl
    | true => have := eqf_len hq; omega
  · have he : l.length = m.length := by omega
    refine loop_up (n := l.length) (R := fun k => eqf f (l.drop k) (m.drop k) = eqf f l m → slices_EqualFunc_s_Term_s_Term_Term_Term.L3 (encTs m) (.fn (.func g) [] []) (encTs l) (.int .i64 l.length) (.int .i64 k) 0 [] _) ?_ ?_ 0 (by omega) (by simp)
    · intro k hk ih hq
      have hkm : k < m.length := by omega
      refine slices_EqualFunc_s_Term_s_Term_Term_Term.G3 ?_
      push_cast [ilt hk, ilt hkm]
      refine .of (h _ (getD_mem hk) _) ?_
      push_cast [w64 (show k < 2 ^ 62 by omega)]
      rw [drop_getD hk, drop_getD hkm] at hq
      simp only [eqf] at hq
      refine ⟨fun hf => pf_ret ?_, fun hf => ?_⟩
      · push_cast [slices_EqualFunc_s_Term_s_Term_Term_Term.rs]
        simp only [Bool.not_eq_true'] at hf
        rw [hf, Bool.false_and] at hq
        exact hq
      · simp only [Bool.not_eq_false'] at hf
        simp only [hf, Bool.true_and] at hq
        exact ih hq
    · intro hq
      refine slices_EqualFunc_s_Term_s_Term_Term_Term.G3 ?_
      push_cast [inlt (Nat.le_refl _)]
      refine pf_ret ?_
      push_cast [slices_EqualFunc_s_Term_s_Term_Term_Term.rs]
      rw [List.drop_eq_nil_of_le (by omega), List.drop_eq_nil_of_le (by omega)] at hq
      simpa [eqf] using hq

theorem term_Equal_s (a b : Term) (hs : size a < 2 ^ 62) : PF n_term_Equal [encT a, encT b] (.bool (decide (a = b))) := by
  induction a using term_ind generalizing b with
  | h a ih =>
  have hst := size_args a
  have hl := length_le_sizes a.args
  refine pf_of term_Equal.ok rfl ?_
  have hE := EqualFunc_s (f := fun a b => decide (a = b)) (g := n_term_Equal) a.args b.args (by omega) fun x hx y => ih x hx y (by have := size_mem hx; omega)
  rw [eqf_eq fun _ _ _ => rfl] at hE
  have hi := term_eq_iff a b
  by_cases h1 : a.name = b.name <;> by_cases h2 : a.var = b.var <;> push_cast [h1, h2, beq_self_eq_true, show ∀ x y : Bool, (x == y) = decide (x = y) from fun x y => by cases x <;> cases y <;> rfl]
  · refine .of hE ?_
    push_cast
    refine pf_ret ?_
    push_cast [term_Equal.rs]
    simp [hi, h1, h2]
  all_goals
    refine pf_ret ?_
    push_cast [term_Equal.rs]
    simp [hi, h1, h2]
end Go.Dw
end
section
set_option linter.unusedVariables false
set_option linter.unusedSimpArgs false
set_option maxRecDepth 100000
namespace Go.Dw
theorem slices_IndexFunc_s_byte_byte_s {p : UInt8 → Bool} {g : Nat} {caps : List V} (hc : ∀ σ, rens σ caps = caps) (l : List UInt8) (hl : l.length < 2 ^ 62) (h : ∀ a ∈ l, PF g (.int .u8 a.toNat :: caps) (.bool (p a))) :
    PF n_slices_IndexFunc_s_byte_byte [encL cU8 1 l, .fn (.func g) [] caps] (.int .i64 (idxI p l)) := by
  refine pf_of slices_IndexFunc_s_byte_byte.ok rfl ?_
  push_cast [hc]
  refine loop_up (n := l.length) (R := fun k => (∀ j, j < k → p (l.getD j default) = false) → slices_IndexFunc_s_byte_byte.L3 (encL cU8 1 l) (.fn (.func g) [] caps) (.int .i64 l.length) (.int .i64 k) 0 [] _) ?_ ?_ 0 (by omega) (by intro j hj; omega)
  · intro k hk ih hq
    refine slices_IndexFunc_s_byte_byte.G3 ?_
    push_cast [ilt hk, cU8_0, cS_0, hc]
    refine .of (h _ (getD_mem hk)) ?_
    push_cast [w64 (show k < 2 ^ 62 by omega), hc]
    refine ⟨fun hp => pf_ret ?_, fun hp => ?_⟩
    · push_cast [slices_IndexFunc_s_byte_byte.rs]
      rw [idxI_some hk hp hq]
    · exact ih fun j hj => by rcases Nat.lt_succ_iff_lt_or_eq.1 hj with h | rfl; exact hq j h; exact hp
  · intro hq
    refine slices_IndexFunc_s_byte_byte.G3 ?_
    push_cast [inlt (Nat.le_refl _)]
    refine pf_ret ?_
    push_cast [slices_IndexFunc_s_byte_byte.rs]
    rw [idxI_none hq]

theorem slices_ContainsFunc_s_byte_byte_s {p : UInt8 → Bool} {g : Nat} {caps : List V} (hc : ∀ σ, rens σ caps = caps) (l : List UInt8) (hl : l.length < 2 ^ 62) (h : ∀ a ∈ l, PF g (.int .u8 a.toNat :: caps) (.bool (p a))) :
    PF n_slices_ContainsFunc_s_byte_byte [encL cU8 1 l, .fn (.func g) [] caps] (.bool (l.any p)) := by
  refine pf_of slices_ContainsFunc_s_byte_byte.ok rfl ?_
  push_cast [hc]
  refine .of (slices_IndexFunc_s_byte_byte_s hc l hl h) ?_
  push_cast [hc]
  refine pf_ret ?_
  push_cast [slices_ContainsFunc_s_byte_byte.rs, idxI_any]

theorem slices_IndexFunc_s_Term_Term_s {p : Term → Bool} {g : Nat} {caps : List V} (hc : ∀ σ, rens σ caps = caps) (l : List Term) (hl : l.length < 2 ^ 62) (h : ∀ a ∈ l, PF g (encT a :: caps) (.bool (p a))) :
    PF n_slices_IndexFunc_s_Term_Term [encL cT 3 l, .fn (.func g) [] caps] (.int .i64 (idxI p l)) := by
  refine pf_of slices_IndexFunc_s_Term_Term.ok rfl ?_
  push_cast [hc]
  refine loop_up (n := l.length) (R := fun k => (∀ j, j < k → p (l.getD j default) = false) → slices_IndexFunc_s_Term_Term.L3 (encL cT 3 l) (.fn (.func g) [] caps) (.int .i64 l.length) (.int .i64 k) 0 [] _) ?_ ?_ 0 (by omega) (by intro j hj; omega)
  · intro k hk ih hq
    refine slices_IndexFunc_s_Term_Term.G3 ?_
    push_cast [ilt hk, cU8_0, cS_0, hc]
    refine .of (h _ (getD_mem hk)) ?_
    push_cast [w64 (show k < 2 ^ 62 by omega), hc]
    refine ⟨fun hp => pf_ret ?_, fun hp => ?_⟩
    · push_cast [slices_IndexFunc_s_Term_Term.rs]
      rw [idxI_some hk hp hq]
    · exact ih fun j hj => by rcases Nat.lt_succ_iff_lt_or_eq.1 hj with h | rfl; exact hq j h; exact hp
  · intro hq
    refine slices_IndexFunc_s_Term_Term.G3 ?_
    push_cast [inlt (Nat.le_refl _)]
    refine pf_ret ?_
    push_cast [slices_IndexFunc_s_Term_Term.rs]
    rw [idxI_none hq]

theorem slices_ContainsFunc_s_Term_Term_s {p : Term → Bool} {g : Nat} {caps : List V} (hc : ∀ σ, rens σ caps = caps) (l : List Term) (hl : l.length < 2 ^ 62) (h : ∀ a ∈ l, PF g (encT a :: caps) (.bool (p a))) :
    PF n_slices_ContainsFunc_s_Term_Term [encL cT 3 l, .fn (.func g) [] caps] (.bool (l.any p)) := by
  refine pf_of slices_ContainsFunc_s_Term_Term.ok rfl ?_
  push_cast [hc]
  refine .of (slices_IndexFunc_s_Term_Term_s hc l hl h) ?_
  push_cast [hc]
  refine pf_ret ?_
  push_cast [slices_ContainsFunc_s_Term_Term.rs, idxI_any]

theorem slices_IndexFunc_s_Rule_Rule_s {p : ARule → Bool} {g : Nat} {caps : List V} (hc : ∀ σ, rens σ caps = caps) (l : List ARule) (hl : l.length < 2 ^ 62) (h : ∀ a ∈ l, PF g (encR a :: caps) (.bool (p a))) :
    PF n_slices_IndexFunc_s_Rule_Rule [encL cR 6 l, .fn (.func g) [] caps] (.int .i64 (idxI p l)) := by
  refine pf_of slices_IndexFunc_s_Rule_Rule.ok rfl ?_
  push_cast [hc]
  refine loop_up (n := l.length) (R := fun k => (∀ j, j < k → p (l.getD j default) = false) → slices_IndexFunc_s_Rule_Rule.L3 (encL cR 6 l) (.fn (.func g) [] caps) (.int .i64 l.length) (.int .i64 k) 0 [] _) ?_ ?_ 0 (by omega) (by intro j hj; omega)
  · intro k hk ih hq
    refine slices_IndexFunc_s_Rule_Rule.G3 ?_
    push_cast [ilt hk, cU8_0, cS_0, hc]
    refine .of (h _ (getD_mem hk)) ?_
    push_cast [w64 (show k < 2 ^ 62 by omega), hc]
    refine ⟨fun hp => pf_ret ?_, fun hp => ?_⟩
    · push_cast [slices_IndexFunc_s_Rule_Rule.rs]
      rw [idxI_some hk hp hq]
    · exact ih fun j hj => by rcases Nat.lt_succ_iff_lt_or_eq.1 hj with h | rfl; exact hq j h; exact hp
  · intro hq
    refine slices_IndexFunc_s_Rule_Rule.G3 ?_
    push_cast [inlt (Nat.le_refl _)]
    refine pf_ret ?_
    push_cast [slices_IndexFunc_s_Rule_Rule.rs]
    rw [idxI_none hq]

theorem slices_ContainsFunc_s_Rule_Rule_s {p : ARule → Bool} {g : Nat} {caps : List V} (hc : ∀ σ, rens σ caps = caps) (l : List ARule) (hl : l.length < 2 ^ 62) (h : ∀ a ∈ l, PF g (encR a :: caps) (.bool (p a))) :
    PF n_slices_ContainsFunc_s_Rule_Rule [encL cR 6 l, .fn (.func g) [] caps] (.bool (l.any p)) := by
  refine pf_of slices_ContainsFunc_s_Rule_Rule.ok rfl ?_
  push_cast [hc]
  refine .of (slices_IndexFunc_s_Rule_Rule_s hc l hl h) ?_
  push_cast [hc]
  refine pf_ret ?_
  push_cast [slices_ContainsFunc_s_Rule_Rule.rs, idxI_any]

theorem slices_IndexFunc_s_string_string_s {p : Str → Bool} {g : Nat} {caps : List V} (hc : ∀ σ, rens σ caps = caps) (l : List Str) (hl : l.length < 2 ^ 62) (h : ∀ a ∈ l, PF g (.str a :: caps) (.bool (p a))) :
    PF n_slices_IndexFunc_s_string_string [encL cS 1 l, .fn (.func g) [] caps] (.int .i64 (idxI p l)) := by
  refine pf_of slices_IndexFunc_s_string_string.ok rfl ?_
  push_cast [hc]
  refine loop_up (n := l.length) (R := fun k => (∀ j, j < k → p (l.getD j default) = false) → slices_IndexFunc_s_string_string.L3 (encL cS 1 l) (.fn (.func g) [] caps) (.int .i64 l.length) (.int .i64 k) 0 [] _) ?_ ?_ 0 (by omega) (by intro j hj; omega)
  · intro k hk ih hq
    refine slices_IndexFunc_s_string_string.G3 ?_
    push_cast [ilt hk, cU8_0, cS_0, hc]
    refine .of (h _ (getD_mem hk)) ?_
    push_cast [w64 (show k < 2 ^ 62 by omega), hc]
    refine ⟨fun hp => pf_ret ?_, fun hp => ?_⟩
    · push_cast [slices_IndexFunc_s_string_string.rs]
      rw [idxI_some hk hp hq]
    · exact ih fun j hj => by rcases Nat.lt_succ_iff_lt_or_eq.1 hj with h | rfl; exact hq j h; exact hp
  · intro hq
    refine slices_IndexFunc_s_string_string.G3 ?_
    push_cast [inlt (Nat.le_refl _)]
    refine pf_ret ?_
    push_cast [slices_IndexFunc_s_string_string.rs]
    rw [idxI_none hq]

theorem slices_ContainsFunc_s_string_string_s {p : Str → Bool} {g : Nat} {caps : List V} (hc : ∀ σ, rens σ caps = caps) (l : List Str) (hl : l.length < 2 ^ 62) (h : ∀ a ∈ l, PF g (.str a :: caps) (.bool (p a))) :
    PF n_slices_ContainsFunc_s_string_string [encL cS 1 l, .fn (.func g) [] caps] (.bool (l.any p)) := by
  refine pf_of slices_ContainsFunc_s_string_string.ok rfl ?_
  push_cast [hc]
  refine .of (slices_IndexFunc_s_string_string_s hc l hl h) ?_
  push_cast [hc]
  refine pf_ret ?_
  push_cast [slices_ContainsFunc_s_string_string.rs, idxI_any]

theorem slices_IndexFunc_s_Edge_Edge_s {p : AEdge → Bool} {g : Nat} {caps : List V} (hc : ∀ σ, rens σ caps = caps) (l : List AEdge) (hl : l.length < 2 ^ 62) (h : ∀ a ∈ l, PF g (encEd a :: caps) (.bool (p a))) :
    PF n_slices_IndexFunc_s_Edge_Edge [encL cEd 4 l, .fn (.func g) [] caps] (.int .i64 (idxI p l)) := by
  refine pf_of slices_IndexFunc_s_Edge_Edge.ok rfl ?_
  push_cast [hc]
  refine loop_up (n := l.length) (R := fun k => (∀ j, j < k → p (l.getD j default) = false) → slices_IndexFunc_s_Edge_Edge.L3 (encL cEd 4 l) (.fn (.func g) [] caps) (.int .i64 l.length) (.int .i64 k) 0 [] _) ?_ ?_ 0 (by omega) (by intro j hj; omega)
  · intro k hk ih hq
    refine slices_IndexFunc_s_Edge_Edge.G3 ?_
    push_cast [ilt hk, cU8_0, cS_0, hc]
    refine .of (h _ (getD_mem hk)) ?_
    push_cast [w64 (show k < 2 ^ 62 by omega), hc]
    refine ⟨fun hp => pf_ret ?_, fun hp => ?_⟩
    · push_cast [slices_IndexFunc_s_Edge_Edge.rs]
      rw [idxI_some hk hp hq]
    · exact ih fun j hj => by rcases Nat.lt_succ_iff_lt_or_eq.1 hj with h | rfl; exact hq j h; exact hp
  · intro hq
    refine slices_IndexFunc_s_Edge_Edge.G3 ?_
    push_cast [inlt (Nat.le_refl _)]
    refine pf_ret ?_
    push_cast [slices_IndexFunc_s_Edge_Edge.rs]
    rw [idxI_none hq]
end Go.Dw
end
section
set_option linter.unusedVariables false
set_option linter.unusedSimpArgs false
set_option maxRecDepth 100000
namespace Go.Dw
/-- What may occur in a name. -/
def letter (c : UInt8) : Bool := decide (97 ≤ c.toNat ∧ c.toNat ≤ 122) || decide (65 ≤ c.toNat ∧ c.toNat ≤ 90) || decide (48 ≤ c.toNat ∧ c.toNat ≤ 57) || decide (c.toNat = 95) || decide (c.toNat = 39)
/-- A letter's place decides all tests. -/
theorem letter_cases {p : Prop} (c : UInt8)
    (h : ∀ b1 b2 b3 b4 b5 b6 b7 b8 : Bool, ((97 : Int) ≤ (c.toNat : Int)) = (b1 = true) → ((c.toNat : Int) ≤ 122) = (b2 = true) → ((65 : Int) ≤ (c.toNat : Int)) = (b3 = true) → ((c.toNat : Int) ≤ 90) = (b4 = true) → ((48 : Int) ≤ (c.toNat : Int)) = (b5 = true) → ((c.toNat : Int) ≤ 57) = (b6 = true) →
      ((c.toNat : Int) = 95) = (b7 = true) → ((c.toNat : Int) = 39) = (b8 = true) → letter c = ((b1 && b2) || (b3 && b4) || (b5 && b6) || b7 || b8) →
      (b1, b2, b3, b4, b5, b6, b7, b8) ∈ [(false, true, false, true, false, true, false, false), (false, true, false, true, false, true, false, true), (false, true, false, true, true, true, false, false), (false, true, false, true, true, false, false, false), (false, true, true, true, true, false, false, false), (false, true, true, false, true, false, false, false), (false, true, true, false, true, false, true, false), (true, true, true, false, true, false, false, false), (true, false, true, false, true, false, false, false)] → p) : p := by
  have hr : (c.toNat < 39 ∨ 40 ≤ c.toNat ∧ c.toNat < 48) ∨ (c.toNat = 39) ∨ (48 ≤ c.toNat ∧ c.toNat ≤ 57) ∨ (58 ≤ c.toNat ∧ c.toNat < 65) ∨ (65 ≤ c.toNat ∧ c.toNat ≤ 90) ∨ (91 ≤ c.toNat ∧ c.toNat < 97 ∧ c.toNat ≠ 95) ∨ (c.toNat = 95) ∨ (97 ≤ c.toNat ∧ c.toNat ≤ 122) ∨ (122 < c.toNat) := by omega
  rcases hr with hr | hr | hr | hr | hr | hr | hr | hr | hr
  · refine h false true false true false true false false ?_ ?_ ?_ ?_ ?_ ?_ ?_ ?_ ?_ (by simp)
    case refine_9 => simp [letter]; omega
    all_goals (simp; omega)
  · refine h false true false true false true false true ?_ ?_ ?_ ?_ ?_ ?_ ?_ ?_ ?_ (by simp)
    case refine_9 => simp [letter]; omega
    all_goals (simp; omega)
  · refine h false true false true true true false false ?_ ?_ ?_ ?_ ?_ ?_ ?_ ?_ ?_ (by simp)
    case refine_9 => simp [letter]; omega
    all_goals (simp; omega)
  · refine h false true false true true false false false ?_ ?_ ?_ ?_ ?_ ?_ ?_ ?_ ?_ (by simp)
    case refine_9 => simp [letter]; omega
    all_goals (simp; omega)
  · refine h false true true true true false false false ?_ ?_ ?_ ?_ ?_ ?_ ?_ ?_ ?_ (by simp)
    case refine_9 => simp [letter]; omega
    all_goals (simp; omega)
  · refine h false true true false true false false false ?_ ?_ ?_ ?_ ?_ ?_ ?_ ?_ ?_ (by simp)
    case refine_9 => simp [letter]; omega
    all_goals (simp; omega)
  · refine h false true true false true false true false ?_ ?_ ?_ ?_ ?_ ?_ ?_ ?_ ?_ (by simp)
    case refine_9 => simp [letter]; omega
    all_goals (simp; omega)
  · refine h true true true false true false false false ?_ ?_ ?_ ?_ ?_ ?_ ?_ ?_ ?_ (by simp)
    case refine_9 => simp [letter]; omega
    all_goals (simp; omega)
  · refine h true false true false true false false false ?_ ?_ ?_ ?_ ?_ ?_ ?_ ?_ ?_ (by simp)
    case refine_9 => simp [letter]; omega
    all_goals (simp; omega)
theorem term_inName_s (c : UInt8) : PF n_term_inName [.int .u8 c.toNat] (.bool (letter c)) := by
  refine pf_of term_inName.ok rfl ?_
  refine letter_cases c fun b1 b2 b3 b4 b5 b6 b7 b8 e1 e2 e3 e4 e5 e6 e7 e8 hl hm => ?_
  rw [hl]; clear hl
  simp only [List.mem_cons, Prod.mk.injEq, List.not_mem_nil, or_false] at hm
  rcases hm with h | h | h | h | h | h | h | h | h <;> obtain ⟨rfl, rfl, rfl, rfl, rfl, rfl, rfl, rfl⟩ := h <;> push_cast [e1, e2, e3, e4, e5, e6, e7, e8] <;> refine pf_ret ?_ <;> push_cast [term_inName.rs] <;> rfl
theorem r01_letter_s (c : UInt8) : PF n_r01_letter [.int .u8 c.toNat] (.bool (letter c)) := by
  refine pf_of r01_letter.ok rfl ?_
  refine letter_cases c fun b1 b2 b3 b4 b5 b6 b7 b8 e1 e2 e3 e4 e5 e6 e7 e8 hl hm => ?_
  rw [hl]; clear hl
  simp only [List.mem_cons, Prod.mk.injEq, List.not_mem_nil, or_false] at hm
  rcases hm with h | h | h | h | h | h | h | h | h <;> obtain ⟨rfl, rfl, rfl, rfl, rfl, rfl, rfl, rfl⟩ := h <;> push_cast [e1, e2, e3, e4, e5, e6, e7, e8] <;> refine pf_ret ?_ <;> push_cast [r01_letter.rs] <;> rfl
end Go.Dw
end
section
set_option linter.unusedVariables false
set_option linter.unusedSimpArgs false
set_option maxRecDepth 100000
namespace Go.Dw
def hasSuf (s p : Str) : Bool := decide (p.length ≤ s.length) && decide (s.drop (s.length - p.length) = p)
theorem isub {a b : Nat} (h : b ≤ a) (h2 : a < 2 ^ 62) : IntKind.i64.wrap ((a : Int) - (b : Int)) = ((a - b : Nat) : Int) := by rw [wrap64 (by omega) (by omega)]; omega
theorem stringslite_HasSuffix_s (s p : Str) (h1 : s.length < 2 ^ 62) (h2 : p.length < 2 ^ 62) : PF n_stringslite_HasSuffix [.str s, .str p] (.bool (hasSuf s p)) := by
  refine pf_of stringslite_HasSuffix.ok rfl ?_
  by_cases h : p.length ≤ s.length
  · have hi : ((p.length : Int) ≤ (s.length : Int)) = True := eq_true (by omega)
    push_cast [hi, isub h h1]
    refine ⟨by omega, pf_ret ?_⟩
    push_cast [stringslite_HasSuffix.rs, hasSuf, h]
    rw [List.take_of_length_le (by simp)]
  · have hi : ((p.length : Int) ≤ (s.length : Int)) = False := eq_false (by omega)
    push_cast [hi]
    refine pf_ret ?_
    push_cast [stringslite_HasSuffix.rs, hasSuf, h]
def trimSuf (s p : Str) : Str := if hasSuf s p then s.take (s.length - p.length) else s
theorem stringslite_TrimSuffix_s (s p : Str) (h1 : s.length < 2 ^ 62) (h2 : p.length < 2 ^ 62) : PF n_stringslite_TrimSuffix [.str s, .str p] (.str (trimSuf s p)) := by
  refine pf_of stringslite_TrimSuffix.ok rfl ?_
  push_cast
  refine .of (stringslite_HasSuffix_s s p h1 h2) ?_
  push_cast
  refine ⟨fun h => ?_, fun h => pf_ret ?_⟩
  · have hl : p.length ≤ s.length := by simp only [hasSuf, Bool.and_eq_true, decide_eq_true_eq] at h; exact h.1
    push_cast [isub hl h1]
    refine ⟨by omega, pf_ret ?_⟩
    push_cast [stringslite_TrimSuffix.rs, trimSuf, h]
    simp
  · push_cast [stringslite_TrimSuffix.rs, trimSuf, h]
theorem strings_TrimSuffix_s (s p : Str) (h1 : s.length < 2 ^ 62) (h2 : p.length < 2 ^ 62) : PF n_strings_TrimSuffix [.str s, .str p] (.str (trimSuf s p)) := by
  refine pf_of strings_TrimSuffix.ok rfl ?_
  push_cast
  refine .of (stringslite_TrimSuffix_s s p h1 h2) ?_
  push_cast
  exact pf_ret (by push_cast [strings_TrimSuffix.rs])
theorem strings_HasSuffix_s (s p : Str) (h1 : s.length < 2 ^ 62) (h2 : p.length < 2 ^ 62) : PF n_strings_HasSuffix [.str s, .str p] (.bool (hasSuf s p)) := by
  refine pf_of strings_HasSuffix.ok rfl ?_
  push_cast
  refine .of (stringslite_HasSuffix_s s p h1 h2) ?_
  push_cast
  exact pf_ret (by push_cast [strings_HasSuffix.rs])
theorem term_Marked_s (s : Str) (h1 : s.length < 2 ^ 62) : PF n_term_Marked [.str s] (.bool (hasSuf s [35])) := by
  refine pf_of term_Marked.ok rfl ?_
  push_cast
  refine .of (strings_HasSuffix_s s [35] h1 (by decide)) ?_
  push_cast
  exact pf_ret (by push_cast [term_Marked.rs])
theorem term_IsName_1_s (c : UInt8) : PF n_term_IsName_1 [.int .u8 c.toNat] (.bool (!letter c)) := by
  refine pf_of term_IsName_1.ok rfl ?_
  push_cast
  refine .of (term_inName_s c) ?_
  push_cast
  exact pf_ret (by push_cast [term_IsName_1.rs])
/-- A name; of a symbol, with its mark. -/
def nameOf (s : Str) (marked : Bool) : Str := if marked then trimSuf s [35] else s
def isName (s : Str) (marked : Bool) : Bool := decide (s.length ≤ 24) && (!decide (nameOf s marked = []) && (nameOf s marked).all letter)
theorem any_not {α : Type} (p : α → Bool) (l : List α) : (!l.any fun a => !p a) = l.all p := by induction l with | nil => rfl | cons a l ih => simp_all
theorem trimSuf_len (s p : Str) : (trimSuf s p).length ≤ s.length := by unfold trimSuf; split <;> simp
theorem nameOf_len (s : Str) (m : Bool) : (nameOf s m).length ≤ s.length := by unfold nameOf; split; exact trimSuf_len _ _; exact Nat.le_refl _
theorem term_IsName_s (s : Str) (m : Bool) (h1 : s.length < 2 ^ 62) : PF n_term_IsName [.str s, .bool m] (.bool (isName s m)) := by
  refine pf_of term_IsName.ok rfl ?_
  push_cast
  refine ⟨fun h => pf_ret ?_, fun h => ?_⟩
  · push_cast [term_IsName.rs, isName]
    rw [show decide (s.length ≤ 24) = false from decide_eq_false (by omega)]; rfl
  · have hlen : s.length ≤ 24 := by omega
    have fin : ∀ u : Str, u.length ≤ 24 → u = nameOf s m → PF n_slices_ContainsFunc_s_byte_byte [encL cU8 1 u, .fn (.func n_term_IsName_1) [] []] (.bool (u.any fun c => !letter c)) := fun u hu _ => slices_ContainsFunc_s_byte_byte_s (p := fun c => !letter c) (caps := []) (fun _ => by push_cast) u (by omega) fun c _ => term_IsName_1_s c
    have hnl := nameOf_len s m
    have hmx : (nameOf s m).length ≤ maxEls := by unfold maxEls; omega
    cases m with
    | true =>
      push_cast
      refine .of (strings_TrimSuffix_s s [35] h1 (by decide)) ?_
      have hn : trimSuf s [35] = nameOf s true := rfl
      rw [hn]
      push_cast
      by_cases hu : nameOf s true = []
      · push_cast [hu]
        exact pf_ret (by push_cast [term_IsName.rs, isName, hu])
      · push_cast [hu, hmx]
        refine .of (fin _ (by omega) rfl) ?_
        push_cast
        exact pf_ret (by push_cast [term_IsName.rs, isName, hu, hlen, any_not])
    | false =>
      have hn : s = nameOf s false := rfl
      have hmx' : s.length ≤ maxEls := by unfold maxEls; omega
      push_cast
      by_cases hu : s = []
      · push_cast [hu]
        exact pf_ret (by push_cast [term_IsName.rs, isName]; simp [hu, nameOf])
      · push_cast [hu, hmx']
        refine .of (fin _ (by omega) rfl) ?_
        push_cast
        exact pf_ret (by push_cast [term_IsName.rs, isName, ← hn, hu, hlen, any_not])
end Go.Dw
end
