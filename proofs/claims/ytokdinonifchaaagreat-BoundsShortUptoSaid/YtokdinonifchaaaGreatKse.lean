/-
  Contracts and lemmas for BoundsShort: part e of 8.
-/
import Derived.Test.YtokdinonifchaaaGreatKsc
import Derived.Test.YtokdinonifchaaaGreatKsd
import Derived.Lib.Bytealg
import Derived.Laws.Externs
import Derived.Ground.NamesProg
import Derived.Shelf.Slices.In.SortAlone
import Derived.Shelf.Slices.In.SortNone
import Derived.Sort.EveryDepth
import Derived.Sort.Grow
import Derived.Sort.KeysCollected
import Derived.Shelf.Spec.SlicesInsert
import Derived.Lib.AppendZerosOnto
import Derived.ArgAppend
import Derived.Shelf.Spec.SlicesGrow
import Derived.Test.YtokdinonifchaaaGreatRows
import Derived.WalkKit
import Derived.ProofKit
import Derived.OpenShut
import Derived.JoinedCond
import Derived.ReadAgain
import Derived.Carry
set_option linter.unusedVariables false
set_option linter.unusedSimpArgs false
set_option maxRecDepth 100000
section
namespace Go.Dw
theorem slices_IndexFunc_s_byte_byte_s {p : UInt8 → Bool} {g : Nat} {caps : List V} (hc : ∀ σ, rens σ caps = caps) (l : List UInt8) (hl : l.length < 2 ^ 62) (h : ∀ a ∈ l, PF g (.int .u8 a.toNat :: caps) (.bool (p a))) :
    PF n_slices_IndexFunc_s_byte_byte [encL cU8 1 l, .fn (.func g) [] caps] (.int .i64 (idxI p l)) := by
  refine pf_of slices_IndexFunc_s_byte_byte.ok rfl ?_
  push_cast [hc]
  refine loop_up (n := l.length) (R := fun k => (∀ j, j < k → p (l.getD j default) = false) → slices_IndexFunc_s_byte_byte.L3 (encL cU8 1 l) (.fn (.func g) [] caps) (.int .i64 l.length) (.int .i64 k) 0 [] _) ?_ ?_ 0 (by omega) (by intro j hj; omega)
  · intro k hk ih hq
    refine slices_IndexFunc_s_byte_byte.G3 ?_
    push_cast [ilt hk, cU8_0, cS_0, hc]
    refine .of (h _ (getD_mem hk)) ?_
    push_cast [w64 (show k < 2 ^ 62 by omega), hc]
    refine ⟨fun hp => pf_ret ?_, fun hp => ?_⟩
    · push_cast [slices_IndexFunc_s_byte_byte.rs]
      rw [idxI_some hk hp hq]
    · exact ih fun j hj => by rcases Nat.lt_succ_iff_lt_or_eq.1 hj with h | rfl; exact hq j h; exact hp
  · intro hq
    refine slices_IndexFunc_s_byte_byte.G3 ?_
    push_cast [inlt (Nat.le_refl _)]
    refine pf_ret ?_
    push_cast [slices_IndexFunc_s_byte_byte.rs]
    rw [idxI_none hq]
theorem slices_ContainsFunc_s_byte_byte_s {p : UInt8 → Bool} {g : Nat} {caps : List V} (hc : ∀ σ, rens σ caps = caps) (l : List UInt8) (hl : l.length < 2 ^ 62) (h : ∀ a ∈ l, PF g (.int .u8 a.toNat :: caps) (.bool (p a))) :
    PF n_slices_ContainsFunc_s_byte_byte [encL cU8 1 l, .fn (.func g) [] caps] (.bool (l.any p)) := by
  refine pf_of slices_ContainsFunc_s_byte_byte.ok rfl ?_
  push_cast [hc]
  refine .of (slices_IndexFunc_s_byte_byte_s hc l hl h) ?_
  push_cast [hc]
  refine pf_ret ?_
  push_cast [slices_ContainsFunc_s_byte_byte.rs, idxI_any]
theorem slices_IndexFunc_s_Term_Term_s {p : Term → Bool} {g : Nat} {caps : List V} (hc : ∀ σ, rens σ caps = caps) (l : List Term) (hl : l.length < 2 ^ 62) (h : ∀ a ∈ l, PF g (encT a :: caps) (.bool (p a))) :
    PF n_slices_IndexFunc_s_Term_Term [encL cT 3 l, .fn (.func g) [] caps] (.int .i64 (idxI p l)) := by
  refine pf_of slices_IndexFunc_s_Term_Term.ok rfl ?_
  push_cast [hc]
  refine loop_up (n := l.length) (R := fun k => (∀ j, j < k → p (l.getD j default) = false) → slices_IndexFunc_s_Term_Term.L3 (encL cT 3 l) (.fn (.func g) [] caps) (.int .i64 l.length) (.int .i64 k) 0 [] _) ?_ ?_ 0 (by omega) (by intro j hj; omega)
  · intro k hk ih hq
    refine slices_IndexFunc_s_Term_Term.G3 ?_
    push_cast [ilt hk, cU8_0, cS_0, hc]
    refine .of (h _ (getD_mem hk)) ?_
    push_cast [w64 (show k < 2 ^ 62 by omega), hc]
    refine ⟨fun hp => pf_ret ?_, fun hp => ?_⟩
    · push_cast [slices_IndexFunc_s_Term_Term.rs]
      rw [idxI_some hk hp hq]
    · exact ih fun j hj => by rcases Nat.lt_succ_iff_lt_or_eq.1 hj with h | rfl; exact hq j h; exact hp
  · intro hq
    refine slices_IndexFunc_s_Term_Term.G3 ?_
    push_cast [inlt (Nat.le_refl _)]
    refine pf_ret ?_
    push_cast [slices_IndexFunc_s_Term_Term.rs]
    rw [idxI_none hq]
theorem slices_ContainsFunc_s_Term_Term_s {p : Term → Bool} {g : Nat} {caps : List V} (hc : ∀ σ, rens σ caps = caps) (l : List Term) (hl : l.length < 2 ^ 62) (h : ∀ a ∈ l, PF g (encT a :: caps) (.bool (p a))) :
    PF n_slices_ContainsFunc_s_Term_Term [encL cT 3 l, .fn (.func g) [] caps] (.bool (l.any p)) := by
  refine pf_of slices_ContainsFunc_s_Term_Term.ok rfl ?_
  push_cast [hc]
  refine .of (slices_IndexFunc_s_Term_Term_s hc l hl h) ?_
  push_cast [hc]
  refine pf_ret ?_
  push_cast [slices_ContainsFunc_s_Term_Term.rs, idxI_any]
theorem slices_IndexFunc_s_Rule_Rule_s {p : ARule → Bool} {g : Nat} {caps : List V} (hc : ∀ σ, rens σ caps = caps) (l : List ARule) (hl : l.length < 2 ^ 62) (h : ∀ a ∈ l, PF g (encR a :: caps) (.bool (p a))) :
    PF n_slices_IndexFunc_s_Rule_Rule [encL cR 6 l, .fn (.func g) [] caps] (.int .i64 (idxI p l)) := by
  refine pf_of slices_IndexFunc_s_Rule_Rule.ok rfl ?_
  push_cast [hc]
  refine loop_up (n := l.length) (R := fun k => (∀ j, j < k → p (l.getD j default) = false) → slices_IndexFunc_s_Rule_Rule.L3 (encL cR 6 l) (.fn (.func g) [] caps) (.int .i64 l.length) (.int .i64 k) 0 [] _) ?_ ?_ 0 (by omega) (by intro j hj; omega)
  · intro k hk ih hq
    refine slices_IndexFunc_s_Rule_Rule.G3 ?_
    push_cast [ilt hk, cU8_0, cS_0, hc]
    refine .of (h _ (getD_mem hk)) ?_
    push_cast [w64 (show k < 2 ^ 62 by omega), hc]
    refine ⟨fun hp => pf_ret ?_, fun hp => ?_⟩
    · push_cast [slices_IndexFunc_s_Rule_Rule.rs]
      rw [idxI_some hk hp hq]
    · exact ih fun j hj => by rcases Nat.lt_succ_iff_lt_or_eq.1 hj with h | rfl; exact hq j h; exact hp
  · intro hq
    refine slices_IndexFunc_s_Rule_Rule.G3 ?_
    push_cast [inlt (Nat.le_refl _)]
    refine pf_ret ?_
    push_cast [slices_IndexFunc_s_Rule_Rule.rs]
    rw [idxI_none hq]
theorem slices_ContainsFunc_s_Rule_Rule_s {p : ARule → Bool} {g : Nat} {caps : List V} (hc : ∀ σ, rens σ caps = caps) (l : List ARule) (hl : l.length < 2 ^ 62) (h : ∀ a ∈ l, PF g (encR a :: caps) (.bool (p a))) :
    PF n_slices_ContainsFunc_s_Rule_Rule [encL cR 6 l, .fn (.func g) [] caps] (.bool (l.any p)) := by
  refine pf_of slices_ContainsFunc_s_Rule_Rule.ok rfl ?_
  push_cast [hc]
  refine .of (slices_IndexFunc_s_Rule_Rule_s hc l hl h) ?_
  push_cast [hc]
  refine pf_ret ?_
  push_cast [slices_ContainsFunc_s_Rule_Rule.rs, idxI_any]
theorem slices_IndexFunc_s_string_string_s {p : Str → Bool} {g : Nat} {caps : List V} (hc : ∀ σ, rens σ caps = caps) (l : List Str) (hl : l.length < 2 ^ 62) (h : ∀ a ∈ l, PF g (.str a :: caps) (.bool (p a))) :
    PF n_slices_IndexFunc_s_string_string [encL cS 1 l, .fn (.func g) [] caps] (.int .i64 (idxI p l)) := by
  refine pf_of slices_IndexFunc_s_string_string.ok rfl ?_
  push_cast [hc]
  refine loop_up (n := l.length) (R := fun k => (∀ j, j < k → p (l.getD j default) = false) → slices_IndexFunc_s_string_string.L3 (encL cS 1 l) (.fn (.func g) [] caps) (.int .i64 l.length) (.int .i64 k) 0 [] _) ?_ ?_ 0 (by omega) (by intro j hj; omega)
  · intro k hk ih hq
    refine slices_IndexFunc_s_string_string.G3 ?_
    push_cast [ilt hk, cU8_0, cS_0, hc]
    refine .of (h _ (getD_mem hk)) ?_
    push_cast [w64 (show k < 2 ^ 62 by omega), hc]
    refine ⟨fun hp => pf_ret ?_, fun hp => ?_⟩
    · push_cast [slices_IndexFunc_s_string_string.rs]
      rw [idxI_some hk hp hq]
    · exact ih fun j hj => by rcases Nat.lt_succ_iff_lt_or_eq.1 hj with h | rfl; exact hq j h; exact hp
  · intro hq
    refine slices_IndexFunc_s_string_string.G3 ?_
    push_cast [inlt (Nat.le_refl _)]
    refine pf_ret ?_
    push_cast [slices_IndexFunc_s_string_string.rs]
    rw [idxI_none hq]
theorem slices_ContainsFunc_s_string_string_s {p : Str → Bool} {g : Nat} {caps : List V} (hc : ∀ σ, rens σ caps = caps) (l : List Str) (hl : l.length < 2 ^ 62) (h : ∀ a ∈ l, PF g (.str a :: caps) (.bool (p a))) :
    PF n_slices_ContainsFunc_s_string_string [encL cS 1 l, .fn (.func g) [] caps] (.bool (l.any p)) := by
  refine pf_of slices_ContainsFunc_s_string_string.ok rfl ?_
  push_cast [hc]
  refine .of (slices_IndexFunc_s_string_string_s hc l hl h) ?_
  push_cast [hc]
  refine pf_ret ?_
  push_cast [slices_ContainsFunc_s_string_string.rs, idxI_any]
end Go.Dw
end
section
namespace Go.Dw
def letter (c : UInt8) : Bool := decide (97 ≤ c.toNat ∧ c.toNat ≤ 122) || decide (65 ≤ c.toNat ∧ c.toNat ≤ 90) || decide (48 ≤ c.toNat ∧ c.toNat ≤ 57) || decide (c.toNat = 95) || decide (c.toNat = 39)
theorem letter_cases {p : Prop} (c : UInt8)
    (h : ∀ b1 b2 b3 b4 b5 b6 b7 b8 : Bool, ((97 : Int) ≤ (c.toNat : Int)) = (b1 = true) → ((c.toNat : Int) ≤ 122) = (b2 = true) → ((65 : Int) ≤ (c.toNat : Int)) = (b3 = true) → ((c.toNat : Int) ≤ 90) = (b4 = true) → ((48 : Int) ≤ (c.toNat : Int)) = (b5 = true) → ((c.toNat : Int) ≤ 57) = (b6 = true) →
      ((c.toNat : Int) = 95) = (b7 = true) → ((c.toNat : Int) = 39) = (b8 = true) → letter c = ((b1 && b2) || (b3 && b4) || (b5 && b6) || b7 || b8) →
      (b1, b2, b3, b4, b5, b6, b7, b8) ∈ [(false, true, false, true, false, true, false, false), (false, true, false, true, false, true, false, true), (false, true, false, true, true, true, false, false), (false, true, false, true, true, false, false, false), (false, true, true, true, true, false, false, false), (false, true, true, false, true, false, false, false), (false, true, true, false, true, false, true, false), (true, true, true, false, true, false, false, false), (true, false, true, false, true, false, false, false)] → p) : p := by
  have hr : (c.toNat < 39 ∨ 40 ≤ c.toNat ∧ c.toNat < 48) ∨ (c.toNat = 39) ∨ (48 ≤ c.toNat ∧ c.toNat ≤ 57) ∨ (58 ≤ c.toNat ∧ c.toNat < 65) ∨ (65 ≤ c.toNat ∧ c.toNat ≤ 90) ∨ (91 ≤ c.toNat ∧ c.toNat < 97 ∧ c.toNat ≠ 95) ∨ (c.toNat = 95) ∨ (97 ≤ c.toNat ∧ c.toNat ≤ 122) ∨ (122 < c.toNat) := by omega
  rcases hr with hr | hr | hr | hr | hr | hr | hr | hr | hr
  · refine h false true false true false true false false ?_ ?_ ?_ ?_ ?_ ?_ ?_ ?_ ?_ (by simp)
    case refine_9 => simp [letter]; omega
    all_goals (simp; omega)
  · refine h false true false true false true false true ?_ ?_ ?_ ?_ ?_ ?_ ?_ ?_ ?_ (by simp)
    case refine_9 => simp [letter]; omega
    all_goals (simp; omega)
  · refine h false true false true true true false false ?_ ?_ ?_ ?_ ?_ ?_ ?_ ?_ ?_ (by simp)
    case refine_9 => simp [letter]; omega
    all_goals (simp; omega)
  · refine h false true false true true false false false ?_ ?_ ?_ ?_ ?_ ?_ ?_ ?_ ?_ (by simp)
    case refine_9 => simp [letter]; omega
    all_goals (simp; omega)
  · refine h false true true true true false false false ?_ ?_ ?_ ?_ ?_ ?_ ?_ ?_ ?_ (by simp)
    case refine_9 => simp [letter]; omega
    all_goals (simp; omega)
  · refine h false true true false true false false false ?_ ?_ ?_ ?_ ?_ ?_ ?_ ?_ ?_ (by simp)
    case refine_9 => simp [letter]; omega
    all_goals (simp; omega)
  · refine h false true true false true false true false ?_ ?_ ?_ ?_ ?_ ?_ ?_ ?_ ?_ (by simp)
    case refine_9 => simp [letter]; omega
    all_goals (simp; omega)
  · refine h true true true false true false false false ?_ ?_ ?_ ?_ ?_ ?_ ?_ ?_ ?_ (by simp)
    case refine_9 => simp [letter]; omega
    all_goals (simp; omega)
  · refine h true false true false true false false false ?_ ?_ ?_ ?_ ?_ ?_ ?_ ?_ ?_ (by simp)
    case refine_9 => simp [letter]; omega
    all_goals (simp; omega)
theorem term_inName_s (c : UInt8) : PF n_term_inName [.int .u8 c.toNat] (.bool (letter c)) := by
  refine pf_of term_inName.ok rfl ?_
  refine letter_cases c fun b1 b2 b3 b4 b5 b6 b7 b8 e1 e2 e3 e4 e5 e6 e7 e8 hl hm => ?_
  rw [hl]; clear hl
  simp only [List.mem_cons, Prod.mk.injEq, List.not_mem_nil, or_false] at hm
  rcases hm with h | h | h | h | h | h | h | h | h <;> obtain ⟨rfl, rfl, rfl, rfl, rfl, rfl, rfl, rfl⟩ := h <;> push_cast [e1, e2, e3, e4, e5, e6, e7, e8] <;> refine pf_ret ?_ <;> push_cast [term_inName.rs] <;> rfl
theorem r01_letter_s (c : UInt8) : PF n_r01_letter [.int .u8 c.toNat] (.bool (letter c)) := by
  refine pf_of r01_letter.ok rfl ?_
  refine letter_cases c fun b1 b2 b3 b4 b5 b6 b7 b8 e1 e2 e3 e4 e5 e6 e7 e8 hl hm => ?_
  rw [hl]; clear hl
  simp only [List.mem_cons, Prod.mk.injEq, List.not_mem_nil, or_false] at hm
  rcases hm with h | h | h | h | h | h | h | h | h <;> obtain ⟨rfl, rfl, rfl, rfl, rfl, rfl, rfl, rfl⟩ := h <;> push_cast [e1, e2, e3, e4, e5, e6, e7, e8] <;> refine pf_ret ?_ <;> push_cast [r01_letter.rs] <;> rfl
end Go.Dw
end
section
namespace Go.Dw
def hasSuf (s p : Str) : Bool := decide (p.length ≤ s.length) && decide (s.drop (s.length - p.length) = p)
theorem isub {a b : Nat} (h : b ≤ a) (h2 : a < 2 ^ 62) : IntKind.i64.wrap ((a : Int) - (b : Int)) = ((a - b : Nat) : Int) := by rw [wrap64 (by omega) (by omega)]; omega
theorem stringslite_HasSuffix_s (s p : Str) (h1 : s.length < 2 ^ 62) (h2 : p.length < 2 ^ 62) : PF n_stringslite_HasSuffix [.str s, .str p] (.bool (hasSuf s p)) := by
  refine pf_of stringslite_HasSuffix.ok rfl ?_
  by_cases h : p.length ≤ s.length
  · have hi : ((p.length : Int) ≤ (s.length : Int)) = True := eq_true (by omega)
    push_cast [hi, isub h h1]
    refine ⟨by omega, pf_ret ?_⟩
    push_cast [stringslite_HasSuffix.rs, hasSuf, h]
    rw [List.take_of_length_le (by simp)]
  · have hi : ((p.length : Int) ≤ (s.length : Int)) = False := eq_false (by omega)
    push_cast [hi]
    refine pf_ret ?_
    push_cast [stringslite_HasSuffix.rs, hasSuf, h]
def trimSuf (s p : Str) : Str := if hasSuf s p then s.take (s.length - p.length) else s
theorem stringslite_TrimSuffix_s (s p : Str) (h1 : s.length < 2 ^ 62) (h2 : p.length < 2 ^ 62) : PF n_stringslite_TrimSuffix [.str s, .str p] (.str (trimSuf s p)) := by
  refine pf_of stringslite_TrimSuffix.ok rfl ?_
  push_cast
  refine .of (stringslite_HasSuffix_s s p h1 h2) ?_
  push_cast
  refine ⟨fun h => ?_, fun h => pf_ret ?_⟩
  · have hl : p.length ≤ s.length := by simp only [hasSuf, Bool.and_eq_true, decide_eq_true_eq] at h; exact h.1
    push_cast [isub hl h1]
    refine ⟨by omega, pf_ret ?_⟩
    push_cast [stringslite_TrimSuffix.rs, trimSuf, h]
    simp
  · push_cast [stringslite_TrimSuffix.rs, trimSuf, h]
theorem strings_TrimSuffix_s (s p : Str) (h1 : s.length < 2 ^ 62) (h2 : p.length < 2 ^ 62) : PF n_strings_TrimSuffix [.str s, .str p] (.str (trimSuf s p)) := by
  refine pf_of strings_TrimSuffix.ok rfl ?_
  push_cast
  refine .of (stringslite_TrimSuffix_s s p h1 h2) ?_
  push_cast
  exact pf_ret (by push_cast [strings_TrimSuffix.rs])
theorem strings_HasSuffix_s (s p : Str) (h1 : s.length < 2 ^ 62) (h2 : p.length < 2 ^ 62) : PF n_strings_HasSuffix [.str s, .str p] (.bool (hasSuf s p)) := by
  refine pf_of strings_HasSuffix.ok rfl ?_
  push_cast
  refine .of (stringslite_HasSuffix_s s p h1 h2) ?_
  push_cast
  exact pf_ret (by push_cast [strings_HasSuffix.rs])
theorem term_Marked_s (s : Str) (h1 : s.length < 2 ^ 62) : PF n_term_Marked [.str s] (.bool (hasSuf s [35])) := by
  refine pf_of term_Marked.ok rfl ?_
  push_cast
  refine .of (strings_HasSuffix_s s [35] h1 (by decide)) ?_
  push_cast
  exact pf_ret (by push_cast [term_Marked.rs])
theorem term_IsName_1_s (c : UInt8) : PF n_term_IsName_1 [.int .u8 c.toNat] (.bool (!letter c)) := by
  refine pf_of term_IsName_1.ok rfl ?_
  push_cast
  refine .of (term_inName_s c) ?_
  push_cast
  exact pf_ret (by push_cast [term_IsName_1.rs])
def nameOf (s : Str) (marked : Bool) : Str := if marked then trimSuf s [35] else s
def isName (s : Str) (marked : Bool) : Bool := decide (s.length ≤ 24) && (!decide (nameOf s marked = []) && (nameOf s marked).all letter)
theorem any_not {α : Type} (p : α → Bool) (l : List α) : (!l.any fun a => !p a) = l.all p := by induction l with | nil => rfl | cons a l ih => simp_all
theorem trimSuf_len (s p : Str) : (trimSuf s p).length ≤ s.length := by unfold trimSuf; split <;> simp
theorem nameOf_len (s : Str) (m : Bool) : (nameOf s m).length ≤ s.length := by unfold nameOf; split; exact trimSuf_len _ _; exact Nat.le_refl _
theorem term_IsName_s (s : Str) (m : Bool) (h1 : s.length < 2 ^ 62) : PF n_term_IsName [.str s, .bool m] (.bool (isName s m)) := by
  refine pf_of term_IsName.ok rfl ?_
  push_cast
  refine ⟨fun h => pf_ret ?_, fun h => ?_⟩
  · push_cast [term_IsName.rs, isName]
    rw [show decide (s.length ≤ 24) = false from decide_eq_false (by omega)]; rfl
  · have hlen : s.length ≤ 24 := by omega
    have fin : ∀ u : Str, u.length ≤ 24 → u = nameOf s m → PF n_slices_ContainsFunc_s_byte_byte [encL cU8 1 u, .fn (.func n_term_IsName_1) [] []] (.bool (u.any fun c => !letter c)) := fun u hu _ => slices_ContainsFunc_s_byte_byte_s (p := fun c => !letter c) (caps := []) (fun _ => by push_cast) u (by omega) fun c _ => term_IsName_1_s c
    have hnl := nameOf_len s m
    have hmx : (nameOf s m).length ≤ maxEls := by unfold maxEls; omega
    cases m with
    | true =>
      push_cast
      refine .of (strings_TrimSuffix_s s [35] h1 (by decide)) ?_
      have hn : trimSuf s [35] = nameOf s true := rfl
      rw [hn]
      push_cast
      by_cases hu : nameOf s true = []
      · push_cast [hu]
        exact pf_ret (by push_cast [term_IsName.rs, isName, hu])
      · push_cast [hu, hmx]
        refine .of (fin _ (by omega) rfl) ?_
        push_cast
        exact pf_ret (by push_cast [term_IsName.rs, isName, hu, hlen, any_not])
    | false =>
      have hn : s = nameOf s false := rfl
      have hmx' : s.length ≤ maxEls := by unfold maxEls; omega
      push_cast
      by_cases hu : s = []
      · push_cast [hu]
        exact pf_ret (by push_cast [term_IsName.rs, isName]; simp [hu, nameOf])
      · push_cast [hu, hmx']
        refine .of (fin _ (by omega) rfl) ?_
        push_cast
        exact pf_ret (by push_cast [term_IsName.rs, isName, ← hn, hu, hlen, any_not])
end Go.Dw
end
section
namespace Go.Dw
mutual
def depth : Term → Nat
  | .mk _ _ l => depths l + 1
def depths : List Term → Nat
  | [] => 0
  | a :: l => max (depth a) (depths l)
end
theorem depth_args (t : Term) : depth t = depths t.args + 1 := by cases t; simp [depth, Term.args]
theorem depths_append (a b : List Term) : depths (a ++ b) = max (depths a) (depths b) := by
  induction a with
  | nil => simp [depths]
  | cons x xs ih => simp [depths, ih, Nat.max_assoc]
theorem depths_take_succ (l : List Term) (k : Nat) (h : k < l.length) : depths (l.take (k+1)) = max (depths (l.take k)) (depth (l.getD k default)) := by
  rw [take_succ_getD h, depths_append]; simp [depths]
mutual
theorem depth_le_size : ∀ t, depth t ≤ size t
  | .mk _ _ l => by simp only [depth, size]; have := depths_le_sizes l; omega
theorem depths_le_sizes : ∀ l, depths l ≤ sizes l
  | [] => by simp [depths, sizes]
  | a :: l => by simp only [depths, sizes]; have := depth_le_size a; have := depths_le_sizes l; omega
end
theorem depths_take_le (l : List Term) (k : Nat) : depths (l.take k) ≤ depths l := by
  conv => rhs; rw [← List.take_append_drop k l]
  rw [depths_append]; omega
theorem imax {a b : Nat} : (if (b : Int) > (a : Int) then (b : Int) else (a : Int)) = ((max a b : Nat) : Int) := by split <;> omega
attribute [push_cast] imax
theorem term_Depth_s (t : Term) (hs : size t < 2 ^ 62) : PF n_term_Depth [encT t] (.int .i64 (depth t)) := by
  induction t using term_ind with
  | h t ih =>
  refine pf_of term_Depth.ok rfl ?_
  have hst := size_args t
  have hl := length_le_sizes t.args
  have hd := depths_le_sizes t.args
  push_cast
  refine loop_up (n := t.args.length) (R := fun k => term_Depth.L3 (.int .i64 (depths (t.args.take k) : Nat)) (encTs t.args) (.int .i64 t.args.length) (.int .i64 k) 0 [] _) ?_ ?_ 0 (by omega)
  · intro k hk ih2
    have h1 := depths_take_succ _ _ hk
    have hm := getD_mem hk
    have := size_mem hm
    refine term_Depth.G3 ?_
    push_cast [ilt hk]
    refine .of (ih _ hm (by omega)) ?_
    push_cast [w64 (show k < 2 ^ 62 by omega)]
    rw [h1] at ih2
    exact ih2
  · refine term_Depth.G3 ?_
    push_cast [inlt (Nat.le_refl _)]
    rw [wrap64 (by have := depths_take_le t.args t.args.length; omega) (by have := depths_take_le t.args t.args.length; omega)]
    refine pf_ret ?_
    push_cast [term_Depth.rs, List.take_length, depth_args t]
def tb : Term → Nat
  | .mk n _ l => 1 + n.length + tbs l
where tbs : List Term → Nat
  | [] => 0
  | a :: l => tb a + tbs l
abbrev tbs := tb.tbs
theorem tb_args (t : Term) : tb t = 1 + t.name.length + tbs t.args := by cases t; simp [tb, Term.name, Term.args]
theorem tb_mem {l : List Term} {a : Term} (h : a ∈ l) : tb a ≤ tbs l := by
  induction l with
  | nil => cases h
  | cons x xs ih => rcases List.mem_cons.1 h with rfl | h <;> simp [tbs, tb.tbs]; have := ih h; simp only [tbs] at this; omega
mutual
theorem size_le_tb : ∀ t, size t ≤ tb t
  | .mk _ _ l => by simp only [size, tb]; have := sizes_le_tbs l; simp only [tbs] at this; omega
theorem sizes_le_tbs : ∀ l, sizes l ≤ tbs l
  | [] => by simp [sizes]
  | a :: l => by simp only [sizes, tbs, tb.tbs]; have := size_le_tb a; have := sizes_le_tbs l; simp only [tbs] at this; omega
end
mutual
def formed : Term → Bool
  | .mk n v l => if v then decide (l.length = 0) && isName n false else decide (l.length ≤ 8) && (isName n true && formeds l)
def formeds : List Term → Bool
  | [] => true
  | a :: l => formed a && formeds l
end
theorem formeds_all (l : List Term) : formeds l = l.all formed := by induction l with | nil => rfl | cons a l ih => simp [formeds, ih]
theorem formed_eq (t : Term) : formed t = if t.var then decide (t.args.length = 0) && isName t.name false else decide (t.args.length ≤ 8) && (isName t.name true && t.args.all formed) := by
  cases t with | mk n v l => cases v <;> simp [formed, formeds_all, Term.var, Term.args, Term.name] <;> rfl
theorem length_le_tbs (l : List Term) : l.length ≤ tbs l := Nat.le_trans (length_le_sizes l) (sizes_le_tbs l)
theorem term_formed_s (t : Term) (hs : tb t < 2 ^ 62) : PF n_term_formed [encT t] (.bool (formed t)) := by
  induction t using term_ind with
  | h t ih =>
  have htb := tb_args t
  have hl := length_le_tbs t.args
  have hI : ∀ m, PF n_term_IsName [.str t.name, .bool m] (.bool (isName t.name m)) := fun m => term_IsName_s _ m (by omega)
  have hC := slices_ContainsFunc_s_Term_Term_s (p := fun a => !formed a) (g := n_term_formed_1) (caps := []) (fun _ => by push_cast) t.args (by omega) fun a ha => by
    refine pf_of term_formed_1.ok rfl ?_
    push_cast
    refine .of (ih a ha (by have := tb_mem ha; omega)) ?_
    push_cast
    exact pf_ret (by push_cast [term_formed_1.rs])
  refine pf_of term_formed.ok rfl ?_
  cases hv : t.var with
  | true =>
    by_cases h0 : t.args.length = 0
    · push_cast [hv, h0]
      refine .of (hI false) ?_
      push_cast
      exact pf_ret (by push_cast [term_formed.rs, formed_eq t, hv, h0])
    · have hi : ((t.args.length : Int) = 0) = False := eq_false (by omega)
      push_cast [hv, hi]
      exact pf_ret (by push_cast [term_formed.rs, formed_eq t, hv, h0])
  | false =>
    by_cases h0 : t.args.length ≤ 8
    · have hi : ((t.args.length : Int) ≤ 8) = True := eq_true (by omega)
      push_cast [hv, hi]
      refine .of (hI true) ?_
      cases hn : isName t.name true
      · push_cast
        exact pf_ret (by push_cast [term_formed.rs, formed_eq t, hv, h0, hn])
      · push_cast
        refine .of hC ?_
        push_cast
        exact pf_ret (by push_cast [term_formed.rs, formed_eq t, hv, h0, hn, any_not])
    · have hi : ((t.args.length : Int) ≤ 8) = False := eq_false (by omega)
      push_cast [hv, hi]
      exact pf_ret (by push_cast [term_formed.rs, formed_eq t, hv, h0])
def fits (t : Term) : Bool := decide (size t ≤ 4000) && decide (depth t ≤ 200)
theorem term_fits_s (t : Term) (hs : size t < 2 ^ 62) : PF n_term_fits [encT t] (.bool (fits t)) := by
  refine pf_of term_fits.ok rfl ?_
  push_cast
  refine .of (term_Size_s t hs) ?_
  push_cast
  by_cases h : size t ≤ 4000
  · have hi : ((size t : Int) ≤ 4000) = True := eq_true (by omega)
    push_cast [hi]
    refine .of (term_Depth_s t hs) ?_
    push_cast
    exact pf_ret (by push_cast [term_fits.rs, fits, h]; simp; omega)
  · have hi : ((size t : Int) ≤ 4000) = False := eq_false (by omega)
    push_cast [hi]
    exact pf_ret (by push_cast [term_fits.rs, fits, h])
def check (t : Term) : Int := if formed t then (if fits t then 0 else 3) else 4
theorem term_Check_s (t : Term) (hs : tb t < 2 ^ 62) : PF n_term_Check [encT t] (.int .i64 (check t)) := by
  refine pf_of term_Check.ok rfl ?_
  push_cast
  refine .of (term_formed_s t hs) ?_
  cases hf : formed t
  · push_cast
    exact pf_ret (by push_cast [term_Check.rs, check, hf])
  · push_cast
    refine .of (term_fits_s t (by have := size_le_tb t; omega)) ?_
    cases hg : fits t <;> push_cast <;> exact pf_ret (by push_cast [term_Check.rs, check, hf, hg])
end Go.Dw
end
section
namespace Go.Dw
theorem room {n b : Nat} (h : n < 2 ^ 40) (hb : b ≤ 64) : (n + 1) * b ≤ maxEls := by
  have : (n + 1) * b ≤ (2 ^ 40) * 64 := Nat.mul_le_mul (by omega) hb
  unfold maxEls; omega
def subT (t : Term) : List Int → Option Term
  | [] => some t
  | i :: p => if 0 ≤ i ∧ i < t.args.length then subT (t.args.getD i.toNat default) p else none
def noT : Term := .mk [] false []
def encOT : Option Term → V
  | some t => .tup [encT t, .bool true]
  | none => .tup [encT noT, .bool false]
def setT (t : Term) (p : List Int) (x : Term) : Term := match p with
  | [] => x
  | i :: p => .mk t.name t.var (if 0 ≤ i ∧ i < t.args.length then t.args.set i.toNat (setT (t.args.getD i.toNat default) p x) else t.args)
theorem setT_args {t x : Term} {i : Int} {p : List Int} : (setT t (i :: p) x).args = if 0 ≤ i ∧ i < t.args.length then t.args.set i.toNat (setT (t.args.getD i.toNat default) p x) else t.args := rfl
theorem setT_args_get {t x : Term} {i : Int} {p : List Int} {k : Nat} (hk : k < t.args.length) : (setT t (i :: p) x).args.getD k default = if (k : Int) = i then setT (t.args.getD k default) p x else t.args.getD k default := by
  rw [setT_args]
  by_cases h : 0 ≤ i ∧ i < t.args.length
  · rw [if_pos h]
    by_cases e : (k : Int) = i
    · rw [if_pos e]
      subst e
      simp [List.getD_eq_getElem?_getD, hk]
    · rw [if_neg e]
      simp only [List.getD_eq_getElem?_getD]
      rw [List.getElem?_set_ne (by omega)]
  · rw [if_neg h, if_neg (by omega)]
theorem setT_args_len {t x : Term} {i : Int} {p : List Int} : (setT t (i :: p) x).args.length = t.args.length := by
  rw [setT_args]; split <;> simp
def encTE (r : Option Term) (e : Int) : V := match r with
  | some t => .tup [encT t, .int .i64 e]
  | none => .tup [encT noT, .int .i64 e]
def checks : List Term → Int
  | [] => 0
  | a :: l => if check a ≠ 0 then check a else checks l
theorem term_All_s (l : List Term) (hl : l.length < 2 ^ 62) (hs : ∀ t ∈ l, tb t < 2 ^ 62) : PF n_term_All [encTs l] (.int .i64 (checks l)) := by
  refine pf_of term_All.ok rfl ?_
  push_cast
  refine loop_up (n := l.length) (R := fun k => checks (l.drop k) = checks l → term_All.L3 (encTs l) (.int .i64 l.length) (.int .i64 k) 0 [] _) ?_ ?_ 0 (by omega) rfl
  · intro k hk ih hq
    refine term_All.G3 ?_
    push_cast [ilt hk]
    refine .of (term_Check_s _ (hs _ (getD_mem hk))) ?_
    rw [drop_getD hk] at hq
    simp only [checks] at hq
    push_cast [w64 (show k < 2 ^ 62 by omega)]
    refine ⟨fun h => pf_ret ?_, fun h => ih ?_⟩
    · push_cast [term_All.rs]
      rw [← hq, if_pos h]
    · rw [← hq, if_neg h]
  · intro hq
    refine term_All.G3 ?_
    push_cast [inlt (Nat.le_refl _)]
    refine pf_ret ?_
    push_cast [term_All.rs]
    rw [← hq, List.drop_eq_nil_of_le (Nat.le_refl _)]; rfl
end Go.Dw
end
section
namespace Go.Dw
abbrev cmpS : Str → Str → Int := Lib.compareBytes
theorem u8_lt_of {a b : UInt8} (h1 : ¬ a < b) (h2 : ¬ b < a) : a = b := UInt8.le_antisymm (UInt8.not_lt.1 h2) (UInt8.not_lt.1 h1)
theorem cmpS_eq : ∀ a b : Str, cmpS a b = if a < b then -1 else if b < a then 1 else 0
  | [], [] => by simp [cmpS, Lib.compareBytes]
  | [], _ :: _ => by simp [cmpS, Lib.compareBytes]
  | _ :: _, [] => by simp [cmpS, Lib.compareBytes]
  | x :: a, y :: b => by
    have ih := cmpS_eq a b
    simp only [cmpS, Lib.compareBytes, List.cons_lt_cons_iff] at ih ⊢
    by_cases h1 : x < y
    · simp [h1]
    · by_cases h2 : y < x
      · have hne : x ≠ y := fun e => by subst e; exact h1 h2
        have hne' : y ≠ x := fun e => hne e.symm
        simp [h1, h2, hne]
      · have := u8_lt_of h1 h2
        subst this
        simp [h1, ih]
theorem slt_trans {a b c : Str} (h : a < b) (h2 : b < c) : a < c := List.lt_trans h h2
theorem slt_asymm {a b : Str} (h : a < b) : ¬ b < a := List.lt_asymm h
theorem slt_irrefl (a : Str) : ¬ a < a := List.lt_irrefl a
theorem slt_eq {a b : Str} (h : ¬ a < b) (h2 : ¬ b < a) : a = b := List.le_antisymm h2 h
theorem cmpS_neg {a b : Str} : cmpS a b < 0 ↔ a < b := by
  rw [cmpS_eq]
  by_cases h : a < b
  · simp [h]
  · by_cases h2 : b < a <;> simp [h, h2]
theorem cmpS_zero {a b : Str} : cmpS a b = 0 ↔ a = b := by
  rw [cmpS_eq]
  by_cases h : a < b
  · simp only [h, if_true]; constructor
    · intro e; omega
    · intro e; subst e; exact absurd h (slt_irrefl a)
  · by_cases h2 : b < a
    · simp only [h, h2, if_true, if_false]; constructor
      · intro e; omega
      · intro e; subst e; exact absurd h2 (slt_irrefl a)
    · simp only [h, h2, if_false, true_iff]; exact slt_eq h h2
theorem bytesLess_eq : ∀ a b : Str, Op.bytesLess a b = decide (a < b)
  | [], [] => by simp [Op.bytesLess]
  | [], _ :: _ => by simp [Op.bytesLess]
  | _ :: _, [] => by simp [Op.bytesLess]
  | x :: a, y :: b => by
    simp only [Op.bytesLess, List.cons_lt_cons_iff, bytesLess_eq a b]
    rw [Bool.eq_iff_iff]; simp
def Sorted (s : List ABind) : Prop := s.Pairwise fun a b => a.name < b.name
def lbd (v : Str) : List ABind → Nat
  | [] => 0
  | b :: s => if b.name < v then lbd v s + 1 else 0
theorem lbd_le (v : Str) : ∀ s, lbd v s ≤ s.length
  | [] => Nat.le_refl _
  | b :: s => by simp only [lbd, List.length_cons]; have := lbd_le v s; split <;> omega
theorem lbd_lt {v : Str} : ∀ {s : List ABind} {j : Nat}, j < lbd v s → (s.getD j default).name < v
  | [], j, h => by simp [lbd] at h
  | b :: s, j, h => by
    simp only [lbd] at h
    split at h
    · rename_i hb
      cases j with
      | zero => simpa using hb
      | succ j => simpa using lbd_lt (s := s) (j := j) (by omega)
    · omega
theorem lbd_ge {v : Str} : ∀ {s : List ABind} {j : Nat}, Sorted s → lbd v s ≤ j → j < s.length → ¬ (s.getD j default).name < v
  | [], j, _, _, h => by simp at h
  | b :: s, j, hs, h, hj => by
    obtain ⟨h1, h2⟩ := List.pairwise_cons.1 hs
    simp only [lbd] at h
    split at h
    · rename_i hb
      cases j with
      | zero => omega
      | succ j => simpa using lbd_ge (s := s) (j := j) h2 (by omega) (by simpa using hj)
    · rename_i hb
      cases j with
      | zero => simpa using hb
      | succ j =>
        have hm : s.getD j default ∈ s := getD_mem (by simpa using hj)
        have := h1 _ hm
        intro hlt
        simp only [List.getD_cons_succ] at hlt
        exact hb (slt_trans this hlt)
def image : List ABind → Str → Option Term
  | [], _ => none
  | b :: s, v => if b.name = v then some b.term else image s v
def bound (s : List ABind) (v : Str) : Bool := (image s v).isSome
theorem image_lbd {v : Str} : ∀ {s : List ABind}, Sorted s → image s v = if lbd v s < s.length ∧ (s.getD (lbd v s) default).name = v then some (s.getD (lbd v s) default).term else none
  | [], _ => by simp [image]
  | b :: s, hs => by
    obtain ⟨h1, h2⟩ := List.pairwise_cons.1 hs
    simp only [image, lbd]
    by_cases hb : b.name < v
    · have hne : b.name ≠ v := fun e => by rw [e] at hb; exact slt_irrefl v hb
      simp only [hne, if_false, hb, if_true, image_lbd h2, List.getD_cons_succ, List.length_cons, Nat.add_lt_add_iff_right]
    · simp only [hb, if_false, List.getD_cons_zero, List.length_cons]
      by_cases he : b.name = v
      · simp [he]
      · simp only [he, if_false, and_false]
        have : ∀ c ∈ s, c.name ≠ v := fun c hc e => by
          have h3 := h1 c hc
          rw [e] at h3
          exact hb h3
        clear h1 h2 hs
        induction s with
        | nil => rfl
        | cons c s ih => simp only [image]; rw [if_neg (this c (by simp)), ih fun d hd => this d (by simp [hd])]
end Go.Dw
end
section
namespace Go.Dw
theorem half {i j : Nat} (hi : i < 2 ^ 61) (hj : j < 2 ^ 61) : IntKind.i64.wrap ((IntKind.u64.wrap (IntKind.i64.wrap ((i : Int) + (j : Int)))).fdiv (2 ^ min 1 IntKind.u64.bits)) = (((i + j) / 2 : Nat) : Int) := by
  rw [wrap64 (x := (i : Int) + j) (by omega) (by omega)]
  have h1 : IntKind.u64.wrap ((i : Int) + (j : Int)) = ((i + j : Nat) : Int) := by unfold IntKind.wrap IntKind.bits IntKind.signed; simp; omega
  rw [h1]
  have h2 : (2 ^ min 1 IntKind.u64.bits : Int) = 2 := by decide
  rw [h2]
  have h3 : ((i + j : Nat) : Int).fdiv 2 = (((i + j) / 2 : Nat) : Int) := by
    rw [Int.fdiv_eq_ediv_of_nonneg _ (by omega)]; omega
  rw [h3, wrap64 (by omega) (by omega)]
end Go.Dw
end
section
namespace Go.Dw
def bbs : List ABind → Nat
  | [] => 0
  | b :: s => 1 + b.name.length + tb b.term + bbs s
theorem bbs_mem {s : List ABind} {b : ABind} (h : b ∈ s) : 1 + b.name.length + tb b.term ≤ bbs s := by
  induction s with
  | nil => cases h
  | cons x xs ih => rcases List.mem_cons.1 h with rfl | h <;> simp [bbs]; have := ih h; omega
theorem length_le_bbs (s : List ABind) : s.length ≤ bbs s := by
  induction s with
  | nil => simp
  | cons x xs ih => simp only [bbs, List.length_cons]; omega
theorem drop_map_none {α : Type} {l : List α} : l.drop l.length = [] := List.drop_eq_nil_of_le (Nat.le_refl _)
theorem sub1 {k : Nat} (hk : k < 2 ^ 62) (h0 : 0 < k) : IntKind.i64.wrap ((k : Int) - 1) = ((k - 1 : Nat) : Int) := by rw [wrap64 (by omega) (by omega)]; omega
theorem sle {a b : Str} : (decide (a < b) || a == b) = !decide (b < a) := by
  by_cases h : b < a
  · have h1 : ¬ a < b := slt_asymm h
    have h2 : a ≠ b := fun e => by subst e; exact slt_irrefl _ h
    simp [h, h1, h2]
  · by_cases h1 : a < b
    · simp [h, h1]
    · have := slt_eq h1 h
      simp [h, this]
theorem strOpV_leq {a b : List UInt8} : strOpV .leq a b = some (.bool (!decide (b < a))) := by unfold strOpV; simp only [bytesLess_eq]; rw [← sle]
theorem strOpV_gtr {a b : List UInt8} : strOpV .gtr a b = some (.bool (decide (b < a))) := by unfold strOpV; simp only [bytesLess_eq]; rw [sle, Bool.not_not]
theorem strOpV_geq {a b : List UInt8} : strOpV .geq a b = some (.bool (!decide (a < b))) := by unfold strOpV; simp only [bytesLess_eq]
attribute [push_cast] strOpV_leq strOpV_gtr strOpV_geq bytesLess_eq
end Go.Dw
end
section
namespace Go.Dw
mutual
def inst (s : List ABind) : Term → Term
  | .mk n v l => if v then (image s n).getD (.mk n true []) else .mk n false (insts s l)
def insts (s : List ABind) : List Term → List Term
  | [] => []
  | a :: l => inst s a :: insts s l
end
theorem insts_map (s : List ABind) (l : List Term) : insts s l = l.map (inst s) := by induction l with | nil => rfl | cons a l ih => simp [insts, ih]
theorem inst_eq (s : List ABind) (t : Term) : inst s t = if t.var then (image s t.name).getD (.mk t.name true []) else .mk t.name false (t.args.map (inst s)) := by
  cases t with | mk n v l => simp only [inst, insts_map, Term.var, Term.name, Term.args]; rfl
theorem image_mem {s : List ABind} {v : Str} {x : Term} (h : image s v = some x) : ∃ b ∈ s, b.name = v ∧ b.term = x := by
  induction s with
  | nil => cases h
  | cons b s ih =>
    simp only [image] at h
    split at h
    · rename_i h2; exact ⟨b, by simp, h2, by simpa using h⟩
    · obtain ⟨c, hc, h3⟩ := ih h; exact ⟨c, by simp [hc], h3⟩
theorem image_size {s : List ABind} {v : Str} {x : Term} (h : image s v = some x) : tb x ≤ bbs s := by
  obtain ⟨b, hb, _, rfl⟩ := image_mem h
  have := bbs_mem hb; omega
theorem sizes_map_le {f : Term → Term} {m : Nat} : ∀ {l : List Term}, (∀ a ∈ l, size (f a) ≤ size a * m) → sizes (l.map f) ≤ sizes l * m
  | [], _ => by simp [sizes]
  | a :: l, h => by
    have h1 := h a (by simp)
    have h2 := sizes_map_le (l := l) fun b hb => h b (by simp [hb])
    simp only [List.map_cons, sizes, Nat.add_mul]; omega
theorem inst_size (s : List ABind) (t : Term) : size (inst s t) ≤ size t * (1 + bbs s) := by
  induction t using term_ind with
  | h t ih =>
    rw [inst_eq]
    have h1 : 1 * (1 + bbs s) ≤ size t * (1 + bbs s) := Nat.mul_le_mul_right _ (by rw [size_args]; omega)
    split
    · cases hx : image s t.name with
      | some x => have := image_size hx; have := size_le_tb x; simp only [Option.getD_some]; omega
      | none => simp only [Option.getD_none, size, sizes]; omega
    · have := sizes_map_le (f := inst s) (m := 1 + bbs s) ih
      simp only [size, size_args t, Nat.add_mul]; omega
theorem mul_lt {a b : Nat} (ha : a < 2 ^ 30) (hb : b < 2 ^ 30) : a * b ≤ 2 ^ 60 := by
  have : a * b ≤ 2 ^ 30 * 2 ^ 30 := Nat.mul_le_mul (by omega) (by omega)
  omega
theorem inst_small {s : List ABind} {t : Term} (ht : tb t < 2 ^ 30) (hs : bbs s < 2 ^ 29) : size (inst s t) ≤ 2 ^ 60 := by
  have h1 := inst_size s t
  have h2 := size_le_tb t
  have := mul_lt (a := size t) (b := 1 + bbs s) (by omega) (by omega)
  omega
end Go.Dw
end
section
namespace Go.Dw
theorem ends_one {rs : List RV} {t : T} {H : List Ob} {Q : V → List Ob → Prop} {e : X} (k : Nat) {x : V} {o : Ob} (h : retV rs t H = some x) (hk : H[k]? = some o) (hq : Q (ren (pos? [k]) x) [renOb (pos? [k]) o])
    (he : e = .ret ∨ e = .fall := by first | exact .inl rfl | exact .inr rfl) : Ends 0 rs Q e t H := by
  refine ends_ex (B := 0) he [k] (by simp) (fun i hi => ?_) h ?_
  · simp only [List.mem_singleton] at hi; subst hi; exact (List.getElem?_eq_some_iff.1 hk).1
  · have : give (List.range 0 ++ [k]) H = [renOb (pos? [k]) o] := by
      simp only [List.range_zero, List.nil_append, give, List.map_cons, List.map_nil, List.getD_eq_getElem?_getD, hk, Option.getD_some]
    rw [this]; exact hq
theorem slices_Clone_int_s (p : List Int) (hp : p.length < 2 ^ 40) : Spec prog n_slices_Clone_s_int_int [encP p] [] fun x' H' => x' = ownL cI 0 1 p ∧ H' = [.arr t_int 1 p.length] := by
  refine spec_of_run mixed slices_Clone_s_int_int.ok rfl ?_
  push_cast
  intro c hc
  refine ⟨fun h => ?_, fun h => ⟨by rw [List.length_map]; unfold maxEls; omega, ?_⟩⟩
  · have hp0 : p = [] := by simpa using hc (by cases c <;> simp_all)
    subst hp0
    exact ends_one 1 rfl rfl ⟨rfl, rfl⟩
  · exact ends_one 1 rfl rfl ⟨rfl, by simp [renOb]⟩
section
variable {α : Type} {H l : List α} {n : Nat} (h : H.length = n)
include h
theorem get_off (k : Nat) : (H ++ l)[n + k]? = l[k]? := by rw [List.getElem?_append_right (by omega)]; congr 1; omega
theorem get_off0 : (H ++ l)[n]? = l[0]? := get_off h 0
theorem set_off (k : Nat) (x : α) : (H ++ l).set (n + k) x = H ++ l.set k x := by rw [List.set_append_right _ _ (by omega)]; congr 2; omega
theorem set_off0 (x : α) : (H ++ l).set n x = H ++ l.set 0 x := set_off h 0 x
theorem take_off : (H ++ l).take n = H := List.take_left' h
end
theorem shut_clip {n : Nat} {H : List Ob} (h : Shut n H) : H.map (renOb (clip n)) = H := h.2
theorem pos_range (n : Nat) : pos? (List.range n) = clip n := by
  funext i
  unfold pos? clip
  by_cases h : i < n
  · rw [if_pos h, List.findIdx?_eq_some_iff_getElem]
    refine ⟨by simpa using h, by simp, fun j hj => by simp; omega⟩
  · rw [if_neg h, List.findIdx?_eq_none_iff]
    intro x hx
    have := List.mem_range.1 hx
    simp; omega
theorem give_keep {n : Nat} {H J : List Ob} (h : Shut n H) : give (List.range n) (H ++ J) = H := by
  have h2 := h.2
  unfold give
  rw [pos_range]
  conv => rhs; rw [← h2]
  apply List.ext_getElem
  · simp [h.1]
  · intro i hi1 hi2
    have hi : i < H.length := by simpa [h.1] using hi1
    simp [List.getD_eq_getElem?_getD, List.getElem?_append_left hi, hi]
theorem takeB_keep {n : Nat} {H J H' : List Ob} (h : Shut n H) (h' : Shut n H') : takeB (List.range n) (H ++ J) H' = H' ++ J := by
  have hb : ∀ i, i < n → back (List.range n) (H ++ J).length i = some i := fun i hi => by simp [back, hi]
  unfold takeB
  rw [List.length_range, List.drop_of_length_le (by rw [h'.1]; exact Nat.le_refl _), List.map_nil, List.append_nil, shut_map h'.2 hb]
  unfold takeG
  rw [pos_range]
  apply List.ext_getElem
  · simp [h.1, h'.1]
  · intro i hi1 hi2
    simp only [List.getElem_map, List.getElem_range]
    unfold clip
    by_cases hi : i < n
    · have : i < H'.length := by rw [h'.1]; exact hi
      rw [if_pos hi, List.getElem_append_left this]
      simp [List.getD_eq_getElem?_getD, this]
    · rw [if_neg hi, List.getElem_append_right (by rw [h'.1]; omega)]
      have : H.length ≤ i := by rw [h.1]; omega
      simp only [List.getD_eq_getElem?_getD]
      rw [List.getElem?_append_right this]
      have h3 : i - H.length < J.length := by simp only [List.length_append, h'.1] at hi2; rw [h.1]; omega
      simp only [h.1, h'.1] at h3 ⊢
      simp [h3]
section
variable {N : Nat → C} {B : Nat} {s : List K} {t : T} {H : List Ob} {Q : X → T → List Ob → Prop}
theorem callG_keep {d : Option Nat} {l : List S} {F : Fn} {vs vs' : List V} {n : Nat} {J : List Ob} {R : V → List Ob → Prop} (h : Shut n H) (hvs : rens (clip n) vs = vs') (hs : SpecF prog F vs' H R) (hR : ∀ x H', R x H' → Shut n H')
    (k : ∀ x H', R x H' → Run prog N B (.r l :: s) (setO d (ren (back (List.range n) (H ++ J).length) x) t) (H' ++ J) Q) : CallG prog N B d l s t Q F vs (H ++ J) := by
  refine CallG.some (List.range n) List.nodup_range (fun i hi => by have := List.mem_range.1 hi; rw [List.length_append, h.1]; omega) (R := R) ?_ ?_
  · rw [give_keep h, pos_range, hvs]; exact hs
  · intro x H' hx _
    rw [takeB_keep h (hR x H' hx)]
    exact k x H' hx
end
theorem ends_keep {rs : List RV} {t : T} {n : Nat} {H J : List Ob} {Q : V → List Ob → Prop} {e : X} {x : V} (h : Shut n H) (hr : retV rs t (H ++ J) = some x) (hq : Q (ren (clip n) x) H)
    (he : e = .ret ∨ e = .fall := by first | exact .inl rfl | exact .inr rfl) : Ends n rs Q e t (H ++ J) := by
  refine ends_ex (B := n) he [] (by simp [List.nodup_range]) (fun i hi => by cases hi) hr ?_
  rw [List.append_nil, give_keep h, pos_range]; exact hq
mutual
def visit : Term → List Int → List (List Int × Term)
  | .mk n v l, p => (p, .mk n v l) :: visits l p 0
def visits : List Term → List Int → Nat → List (List Int × Term)
  | [], _, _ => []
  | a :: l, p, i => visit a (p ++ [(i : Int)]) ++ visits l p (i + 1)
end
theorem visit_eq (t : Term) (p : List Int) : visit t p = (p, t) :: visits t.args p 0 := by cases t; simp [visit, Term.args]
theorem visits_append (a b : List Term) (p : List Int) (i : Nat) : visits (a ++ b) p i = visits a p i ++ visits b p (i + a.length) := by
  induction a generalizing i with
  | nil => simp [visits]
  | cons x xs ih => simp only [List.cons_append, visits, ih, List.append_assoc, List.length_cons]; congr 3; omega
theorem visits_take_succ {l : List Term} {p : List Int} {k : Nat} (h : k < l.length) : visits (l.take (k + 1)) p 0 = visits (l.take k) p 0 ++ visit (l.getD k default) (p ++ [(k : Int)]) := by
  rw [take_succ_getD h, visits_append]
  have : (l.take k).length = k := by simp; omega
  simp [visits, this]
theorem visits_drop {l : List Term} {p : List Int} {k : Nat} (h : k < l.length) : visits l p 0 = visits (l.take k) p 0 ++ (visit (l.getD k default) (p ++ [(k : Int)]) ++ visits (l.drop (k + 1)) p (k + 1)) := by
  have h1 : l = l.take k ++ (l.getD k default :: l.drop (k + 1)) := by rw [← drop_getD h, List.take_append_drop]
  have : (l.take k).length = k := by simp; omega
  conv => lhs; rw [h1, visits_append]
  rw [visits, this, Nat.zero_add]
def encIt (x : List Int × Term) : List V := [encP x.1, encT x.2]
theorem at_app {α : Type} {l a b c : List α} {k : Nat} (h : l.drop k = a ++ (b ++ c)) : l.drop (k + a.length) = b ++ c := by
  rw [← List.drop_drop, h, List.drop_left]
theorem at_get {α : Type} {l b : List α} {a : α} {k : Nat} (h : l.drop k = a :: b) : l[k]? = some a := by
  have := List.getElem?_drop (xs := l) (i := k) (j := 0)
  rw [h] at this; simpa using this.symm
theorem term_walk_s {F : Fn} {G : Nat → List Ob → Prop} {S : List Ob → Prop} {n : Nat} {its : List (List Int × Term)} (hG : ∀ k H, G k H → Shut n H) (hS : ∀ H, S H → Shut n H)
    (hF : ∀ k it H, its[k]? = some it → G k H → SpecF prog F (encIt it) H fun x H' => x = .bool true ∧ G (k + 1) H' ∨ x = .bool false ∧ S H') (t : Term) :
    ∀ (p : List Int) (k : Nat) (rest : List (List Int × Term)), its.drop k = visit t p ++ rest → p.length + size t < 2 ^ 40 → ∀ H, G k H → Spec prog n_term_walk [encT t, encP p, .fn F [] []] H fun x H' => x = .bool true ∧ G (k + (visit t p).length) H' ∨ x = .bool false ∧ S H' := by
  induction t using term_ind with
  | h t ih =>
  intro p k rest hd hsz H hg
  have hH := hG _ _ hg
  have hl := length_le_sizes t.args
  have hst := size_args t
  rw [visit_eq, List.cons_append] at hd
  refine spec_of_run mixed term_walk.ok rfl ?_
  push_cast
  refine .all (hF k _ H (at_get hd) hg) ?_
  rintro x H1 (⟨rfl, hg1⟩ | ⟨rfl, hs1⟩)
  case inr =>
    push_cast
    refine ends_all (.inl rfl) rfl (.inr ⟨rfl, hs1⟩)
  case inl =>
    have hH1 := hG _ _ hg1
    have hkp : ∀ H1, Shut n H1 → (H1.take H.length).map (renOb (clip H.length)) = H1 := fun H1 h => by rw [hH.1, List.take_of_length_le (Nat.le_of_eq h.1), h.2]
    push_cast [hkp H1 hH1]
    have hd1 : its.drop (k + 1) = visits t.args p 0 ++ rest := by rw [← List.drop_drop, hd]; rfl
    refine loop_up (n := t.args.length) (R := fun j => ∀ H1, G (k + 1 + (visits (t.args.take j) p 0).length) H1 → term_walk.L3 (encP p) (.fn F [] []) (encTs t.args) (.int .i64 t.args.length) (.int .i64 j) H.length H1 _) ?_ ?_ 0 (by omega) H1 hg1
    · intro j hj ih2 H1 hg1
      have hm := getD_mem hj
      have hsm := size_mem hm
      have hH1 := hG _ _ hg1
      have hn : H.length = n := hH.1
      rw [hn]
      refine term_walk.G3 ?_
      push_cast [ilt hj, hH1.1, get_off0 hH1.1, get_off hH1.1, set_off hH1.1, set_off0 hH1.1, w64 (show j < 2 ^ 62 by omega)]
      have hp1 : (p ++ [(j : Int)]).length + size (t.args.getD j default) < 2 ^ 40 := by rw [List.length_append, List.length_singleton]; omega
      have hd2 : its.drop (k + 1 + (visits (t.args.take j) p 0).length) = visit (t.args.getD j default) (p ++ [(j : Int)]) ++ (visits (t.args.drop (j + 1)) p (j + 1) ++ rest) := by
        refine at_app ?_
        rw [hd1, visits_drop hj]; simp
      have hw : SpecF prog (.func n_term_walk) _ _ _ := specF_func ▸ ih _ hm _ _ _ hd2 hp1 H1 hg1
      rw [visits_take_succ hj, List.length_append] at ih2
      refine ⟨?_, ?_⟩ <;>
      · refine callG_new (slices_Clone_int_s p (by omega)) ?_
        push_cast [hH1.1, get_off0 hH1.1, get_off hH1.1, set_off hH1.1, set_off0 hH1.1]
        refine ⟨by unfold maxEls; omega, ?_⟩
        refine callG_keep hH1 (vs' := [encT (t.args.getD j default), encP (p ++ [(j : Int)]), .fn F [] []]) ?_ hw ?_ ?_
        · push_cast
          rw [if_neg (by omega)]
          simp [encL, cI]
        · rintro x H2 (⟨_, h⟩ | ⟨_, h⟩)
          · exact hG _ _ h
          · exact hS _ h
        · rintro x H2 (⟨rfl, h⟩ | ⟨rfl, h⟩)
          · have hH2 := hG _ _ h
            push_cast [w64 (show j < 2 ^ 62 by omega), take_off hH2.1, shut_clip hH2]
            have := ih2 H2 (by rw [← Nat.add_assoc]; exact h)
            rw [hn] at this
            exact this
          · have hH2 := hS _ h
            push_cast
            exact ends_keep hH2 rfl (.inr ⟨rfl, h⟩)
    · intro H1 hg1
      refine term_walk.G3 ?_
      push_cast [inlt (Nat.le_refl _)]
      refine ends_all (.inl rfl) rfl (.inl ⟨rfl, ?_⟩)
      rw [List.take_length] at hg1
      rw [visit_eq, List.length_cons, Nat.add_comm _ 1, ← Nat.add_assoc]
      exact hg1
theorem term_Walk_iter (t : Term) (hs : size t < 2 ^ 40) : IterSpec prog n_term_Walk_1 [] [.ro (cT t) 0] ((visit t []).map encIt) := by
  intro F G S n hG hS hF H hg
  have hH := hG _ _ hg
  refine spece_of_run mixed term_Walk_1.ok rfl ?_
  push_cast
  have hw := term_walk_s (F := F) (n := n) (its := visit t []) hG hS (fun k it H' hit => hF k (encIt it) H' (by rw [List.getElem?_map, hit]; rfl)) t [] 0 [] (by simp) (by simpa using hs) H hg
  have hw : SpecF prog (.func n_term_walk) _ _ _ := specF_func ▸ hw
  refine CallG.all hw ?_
  rintro x H1 (⟨rfl, h⟩ | ⟨rfl, h⟩)
  · push_cast
    exact ends_all (.inr rfl) rfl (.inl (by rw [Nat.zero_add] at h; rw [List.length_map]; exact h))
  · push_cast
    exact ends_all (.inr rfl) rfl (.inr h)
theorem term_Walk_s (t : Term) : PF n_term_Walk [encT t] (.fn (.func n_term_Walk_1) [] [.ro (cT t) 0]) := by
  refine pf_of term_Walk.ok rfl ?_
  push_cast
  exact pf_ret (by push_cast [term_Walk.rs])
end Go.Dw
end
section
namespace Go.Proofs
open Go.RowKit Go.Shelf Go.Sort
def Tryz.laysSort_ren : Go.Shelf.Ren := ⟨fun | 190 => 120 | 125 => 176 | 258 => 175 | 128 => 217 | 129 => 218 | 302 => 208 | 303 => 209 | 304 => 210 | 305 => 211 | 306 => 212 | 307 => 213 | 308 => 214 | 309 => 215 | 310 => 216 | 333 => 239 | 329 => 240 | 330 => 241 | 334 => 242 | 335 => 243 | 336 => 205 | 344 => 251 | n => n, fun | 31 => 63 | 9 => 9 | 3 => 3 | 46 => 232 | 0 => 0 | 51 => 263 | 53 => 51 | 4 => 4 | 183 => 257 | 182 => 256 | 131 => 179 | 5 => 5 | 218 => 277 | 222 => 281 | 228 => 287 | 229 => 135 | n => n, fun | n => n⟩
theorem Tryz.laysSort : Go.Proofs.Lays.n190 Tryz.prog Tryz.laysSort_ren := {
  mixed := by kernel_rfl
  f125 := Tryz.func176.trans (congrArg some (by kernel_rfl))
  f128 := Tryz.func217.trans (congrArg some (by kernel_rfl))
  f129 := Tryz.func218.trans (congrArg some (by kernel_rfl))
  f190 := Tryz.func120.trans (congrArg some (by kernel_rfl))
  f258 := Tryz.func175.trans (congrArg some (by kernel_rfl))
  f302 := Tryz.func208.trans (congrArg some (by kernel_rfl))
  f303 := Tryz.func209.trans (congrArg some (by kernel_rfl))
  f304 := Tryz.func210.trans (congrArg some (by kernel_rfl))
  f305 := Tryz.func211.trans (congrArg some (by kernel_rfl))
  f306 := Tryz.func212.trans (congrArg some (by kernel_rfl))
  f307 := Tryz.func213.trans (congrArg some (by kernel_rfl))
  f308 := Tryz.func214.trans (congrArg some (by kernel_rfl))
  f309 := Tryz.func215.trans (congrArg some (by kernel_rfl))
  f310 := Tryz.func216.trans (congrArg some (by kernel_rfl))
  f329 := Tryz.func240.trans (congrArg some (by kernel_rfl))
  f330 := Tryz.func241.trans (congrArg some (by kernel_rfl))
  f333 := Tryz.func239.trans (congrArg some (by kernel_rfl))
  f334 := Tryz.func242.trans (congrArg some (by kernel_rfl))
  f335 := Tryz.func243.trans (congrArg some (by kernel_rfl))
  f336 := Tryz.func205.trans (congrArg some (by kernel_rfl))
  f344 := Tryz.func251.trans (congrArg some (by kernel_rfl))
  t0 := Tryz.underlying0
  a0 := Tryz.isAgg0
  z0 := Tryz.sizeOf0
  v0 := Tryz.zeroValue0
  t3 := Tryz.underlying3
  a3 := Tryz.isAgg3
  z3 := Tryz.sizeOf3
  v3 := Tryz.zeroValue3
  t4 := Tryz.underlying4
  a4 := Tryz.isAgg4
  z4 := Tryz.sizeOf4
  v4 := Tryz.zeroValue4
  t5 := Tryz.underlying5
  a5 := Tryz.isAgg5
  z5 := Tryz.sizeOf5
  v5 := Tryz.zeroValue5
  t9 := Tryz.underlying9
  a9 := Tryz.isAgg9
  z9 := Tryz.sizeOf9
  v9 := Tryz.zeroValue9
  t31 := Tryz.underlying63
  a31 := Tryz.isAgg63
  z31 := Tryz.sizeOf63
  v31 := Tryz.zeroValue63
  t46 := Tryz.underlying232
  a46 := Tryz.isAgg232
  z46 := Tryz.sizeOf232
  v46 := Tryz.zeroValue232
  t51 := Tryz.underlying263
  a51 := Tryz.isAgg263
  z51 := Tryz.sizeOf263
  v51 := Tryz.zeroValue263
  t53 := Tryz.underlying51
  a53 := Tryz.isAgg51
  z53 := Tryz.sizeOf51
  v53 := Tryz.zeroValue51
  t131 := Tryz.underlying179
  a131 := Tryz.isAgg179
  z131 := Tryz.sizeOf179
  v131 := Tryz.zeroValue179
  t182 := Tryz.underlying256
  a182 := Tryz.isAgg256
  z182 := Tryz.sizeOf256
  v182 := Tryz.zeroValue256
  t183 := Tryz.underlying257
  a183 := Tryz.isAgg257
  z183 := Tryz.sizeOf257
  v183 := Tryz.zeroValue257
  t218 := Tryz.underlying277
  a218 := Tryz.isAgg277
  z218 := Tryz.sizeOf277
  v218 := Tryz.zeroValue277
  t222 := Tryz.underlying281
  a222 := Tryz.isAgg281
  z222 := Tryz.sizeOf281
  v222 := Tryz.zeroValue281
  t228 := Tryz.underlying287
  a228 := Tryz.isAgg287
  z228 := Tryz.sizeOf287
  v228 := Tryz.zeroValue287
  t229 := Tryz.underlying135
  a229 := Tryz.isAgg135
  z229 := Tryz.sizeOf135
  v229 := Tryz.zeroValue135 }
theorem Tryz.sort_num : Tryz.laysSort_ren.f 190 = Go.Dw.n_slices_Sort_s_string_string := by kernel_rfl
theorem Tryz.sort_in (args : Array Value) (w : World) : (callFunc Go.Dw.n_slices_Sort_s_string_string args).run Tryz.prog w = .ok (.enter Go.Dw.n_slices_Sort_s_string_string args) w := by
  have := enters_of (P := Tryz.prog) Tryz.laysSort.f190 (by kernel_rfl) rfl args w
  rw [Tryz.sort_num] at this
  exact this
abbrev sortS (l : List (List UInt8)) : List (List UInt8) := l.mergeSort fun x y => decide (x ≤ y)
theorem Tryz.sort_c (blk off cap : Nat) (zs : List (List UInt8)) (w : World) (hH : Holds encStr w blk off zs.toArray) (hblk : blk < w.heap.size) (hsz : zs.length < 4611686018427387904) :
    Calls Tryz.prog Go.Dw.n_slices_Sort_s_string_string #[.slice (some ⟨blk, off, none⟩) zs.length cap] w fun e w' =>
      e = .returned (.tuple #[]) ∧ ∃ n os, w' = grow (putRow encStr (Sort.ahead w n) blk off (sortS zs).toArray) os := by
  have := calls_of_every_depth fun D => AnyS.slices_Sort_string_alone Tryz.laysSort D blk off cap zs w hH hblk hsz
  rw [Tryz.sort_num] at this
  exact this
theorem Tryz.sort_n (cap : Nat) (w : World) : Calls Tryz.prog Go.Dw.n_slices_Sort_s_string_string #[.slice none 0 cap] w fun e w' => e = .returned (.tuple #[]) ∧ w' = w := by
  have := calls_of_every_depth fun D => AnyS.slices_Sort_string_none_alone Tryz.laysSort D none cap w
  rw [Tryz.sort_num] at this
  exact this
end Go.Proofs
namespace Go.Dw
open Go.Proofs Go.Sort
theorem sort_row (l : List (List UInt8)) : Spec prog n_slices_Sort_s_string_string [.rw 0 1 l.length] [.row t_string 1 (l.map fun s => [V.str s])] fun x H' => x = .tup [] ∧ H' = [.row t_string 1 ((sortS l).map fun s => [V.str s])] := by
  intro c vs hH hc hr
  obtain ⟨v, vs', rfl, h1, h2⟩ := hr
  have h2 : vs' = [] := h2
  subst h2
  left
  have h0 : c.H[0]? = some (.row t_string 1 (l.map fun s => [V.str s])) := by rw [hH]; rfl
  obtain ⟨q1, q2⟩ := hc.obj 0 _ h0
  obtain ⟨p1, ⟨a, k, p2, p3, p4⟩, p5⟩ := h1
  have hcur := (p5 _ _ _ h0).2.2 (by simp)
  have hperm : (sortS l).length = l.length := (List.mergeSort_perm l _).length_eq
  refine ⟨Tryz.sort_in _ _, ?_⟩
  cases hρ : c.ρ 0 with
  | none =>
    have hl : l = [] := by simpa using q1 hρ
    subst hl
    rw [hρ] at hcur
    have hcur : v = .slice none 0 0 := hcur
    subst hcur
    refine (Tryz.sort_n 0 c.w).mono ?_
    rintro e w' ⟨rfl, rfl⟩
    exact ⟨_, .tup [], c, rfl, rfl, ⟨rfl, by rw [hH]; simp⟩, hc, ⟨#[], rfl, rfl⟩, .refl c⟩
  | some bk =>
    obtain ⟨b, m⟩ := bk
    rw [hρ] at hcur
    have hcur : v = .slice (some ⟨b, 0, none⟩) l.length m := hcur
    subst hcur
    obtain ⟨vs, r1, r2, r3, r4, r5, r6⟩ := q2 b m hρ
    have hblt : b < c.w.heap.size := (Array.getElem?_eq_some_iff.1 r1).1
    have hcell : ∀ j (s : List UInt8), l[j]? = some s → vs[j]? = some (encStr s) := fun j s hj => by
      obtain ⟨_, hx⟩ := r6 j [V.str s] (by rw [List.getElem?_map, hj]; rfl)
      obtain ⟨v, e1, _, e3⟩ := hx 0 _ rfl
      have e3 : v = .string ⟨⟨s⟩⟩ := e3
      rw [Nat.mul_one, Nat.add_zero] at e1
      rw [e1, e3]
    have hHolds : Holds encStr c.w b 0 l.toArray := fun j hj => by
      have hj : j < l.length := by simpa using hj
      have hg : l[j]? = some l[j] := by simp [hj]
      have := hcell j _ hg
      have hgd : l.toArray[j]! = l[j] := by simp [hj]
      refine ⟨?_, ?_⟩
      · simp only [World.cell?, r1, Nat.zero_add, hgd]
        exact this
      · simp [World.frozen?, r1]
    refine (Tryz.sort_c b 0 m l c.w hHolds hblt (by unfold maxEls at p3; omega)).mono ?_
    rintro e w' ⟨rfl, n, os, rfl⟩
    generalize hso : sortS l = so at hperm
    generalize hw' : grow (putRow encStr (Sort.ahead c.w n) b 0 so.toArray) os = w'
    have hsz : w'.heap.size = c.w.heap.size + os.size := by subst hw'; simp [grow, putRow, mapBlock, Sort.ahead]
    have hoth : ∀ b', b' < c.w.heap.size → b' ≠ b → w'.heap[b']? = c.w.heap[b']? := fun b' h1 h2 => by
      subst hw'
      simp only [grow, putRow, mapBlock, Sort.ahead]
      rw [Array.getElem?_append_left (by simpa using h1), Array.getElem?_modify, if_neg (Ne.symm h2)]
    have hsame : w'.heap[b]? = some (.cells (putCells encStr 0 so.toArray vs) t_string (0, 0)) := by
      subst hw'
      simp only [grow, putRow, mapBlock, Sort.ahead]
      rw [Array.getElem?_append_left (by simpa using hblt), Array.getElem?_modify, if_pos rfl, r1]
      rfl
    have howns : ∀ b', c.owns b' ↔ b' = b := fun b' => by
      constructor
      · rintro ⟨i, k', h1, h2⟩
        have : i = 0 := by rw [hH] at h1; simpa using h1
        subst this
        rw [hρ] at h2; cases h2; rfl
      · rintro rfl; exact ⟨0, m, p1, hρ⟩
    refine ⟨_, .tup [], ⟨w', c.ok, c.ρ, [.row t_string 1 (so.map fun s => [V.str s])]⟩, rfl, rfl, ⟨rfl, rfl⟩, ?_, ⟨#[], rfl, rfl⟩, ?_⟩
    · refine ⟨fun i j b1 k1 k2 h1 h2 _ _ => ?_, fun b' o h => ?_, fun i o hi => ?_⟩
      · simp only [List.length_singleton] at h1 h2; omega
      · have := hc.okLt _ _ h; show b' < w'.heap.size; omega
      · cases i with
        | succ i => simp at hi
        | zero =>
          simp only [List.getElem?_cons_zero, Option.some.injEq] at hi
          subst hi
          refine ⟨fun h => ?_, fun b' k' h => ?_⟩
          · have h : c.ρ 0 = none := h
            rw [hρ] at h; cases h
          · have h : c.ρ 0 = some (b', k') := h
            rw [hρ] at h; cases h
            refine ⟨putCells encStr 0 so.toArray vs, hsame, by simpa [putCells] using r2, by simpa [hperm] using r3, r4, r5, fun i el hi => ?_⟩
            rw [List.getElem?_map] at hi
            cases hs : so[i]? with
            | none => rw [hs] at hi; cases hi
            | some s =>
              rw [hs] at hi; cases hi
              refine ⟨rfl, fun j x hx => ?_⟩
              cases j with
              | succ j => simp at hx
              | zero =>
                simp only [List.getElem?_cons_zero, Option.some.injEq] at hx
                subst hx
                have hil : i < so.length := (List.getElem?_eq_some_iff.1 hs).1
                have hsi : so[i] = s := (List.getElem?_eq_some_iff.1 hs).2
                have hiv : i < vs.size := by rw [List.length_map] at r3; omega
                refine ⟨encStr s, ?_, rfl, rfl⟩
                rw [Nat.mul_one, Nat.add_zero]
                simp only [putCells, Array.getElem?_mapIdx, Array.getElem?_eq_getElem hiv, Option.map_some]
                rw [if_pos (by simpa using hil)]
                simp [hil, hsi]
    · refine ⟨fun _ _ h => h, fun b' o h => ?_, by show c.w.heap.size ≤ w'.heap.size; omega, fun _ _ h => .inl h, fun b' hb hno => hoth b' hb (fun e => hno ((howns b').2 e)), fun b' hb => .inl ?_, fun j o hj => ?_, ?_, ?_, ?_, ?_⟩
      · have hne : b' ≠ b := fun e => r5 o (e ▸ h)
        simp only [World.cell?]
        rw [hoth b' (hc.okLt _ _ h) hne]
      · obtain ⟨i, k', h1, h2⟩ := hb
        exact ⟨i, k', by rw [hH]; exact h1, h2⟩
      · rw [hH] at hj
        cases j with
        | succ j => simp at hj
        | zero =>
          simp only [List.getElem?_cons_zero, Option.some.injEq] at hj
          subst hj
          exact ⟨_, rfl, rfl, rfl, by simp [hperm], fun _ => rfl⟩
      · subst hw'; rfl
      · subst hw'; rfl
      · subst hw'; rfl
      · subst hw'; exact Nat.le_add_right _ _
end Go.Dw
end
section
namespace Go.Dw
open Go.Proofs (sortS)
theorem rens_strs {σ : Nat → Option Nat} {l : List Str} : (l.map fun s => [V.str s]).map (rens σ) = l.map fun s => [V.str s] := by rw [List.map_map]; rfl
attribute [push_cast] rens_strs
theorem take_2 (a b c d o : Ob) : takeB [2] [a, b, c, d] [o] = [a, b, renOb (back [2] 4) o, d] := rfl
theorem give_2 (a b c d : Ob) : give [2] [a, b, c, d] = [renOb (pos? [2]) c] := rfl
def addS (ks : List Str) (n : Str) : List Str := if n ∈ ks then ks else ks ++ [n]
def encKs (ks : List Str) : List (V × V) := ks.map fun k => (.str k, .bool true)
theorem ren_encKs {σ : Nat → Option Nat} {ks : List Str} : ((encKs ks).map fun p => (ren σ p.1, ren σ p.2)) = encKs ks := by
  unfold encKs; rw [List.map_map]; rfl
attribute [push_cast] ren_encKs
theorem findM_encKs (n : Str) : ∀ (ks : List Str) (i : Nat), findM (.str n) (encKs ks) i = some (if n ∈ ks then some (i + ks.idxOf n, .bool true) else none)
  | [], i => by simp [findM, encKs]
  | k :: ks, i => by
    have ih := findM_encKs n ks (i + 1)
    unfold encKs at ih ⊢
    by_cases h : k = n
    · subst h; simp [findM, sameK]
    · have h' : n ≠ k := fun e => h e.symm
      have e : sameK (.str n) (.str k) = some false := by simp [sameK, h']
      have hb : (k == n) = false := by simp [h]
      simp only [List.map_cons, findM, e, ih, List.mem_cons, h', false_or, List.idxOf_cons, hb, cond_false]
      split
      · congr 3; omega
      · rfl
theorem updM_encKs (n : Str) (ks : List Str) : updM (.str n) (.bool true) (encKs ks) = some (encKs (addS ks n)) := by
  unfold updM
  rw [findM_encKs]
  unfold addS
  by_cases h : n ∈ ks
  · simp only [h, if_true]
    congr 1
    unfold encKs
    apply List.ext_getElem (by simp)
    intro i h1 h2
    rw [List.getElem_set]
    split
    · rename_i e
      subst e
      simp [List.getElem_idxOf]
    · rfl
  · simp only [h, if_false]
    simp [encKs]
def varsIn (l : List (List Int × Term)) : List Str := (l.filter fun x => x.2.var).map fun x => x.2.name
def vset (ks : List Str) (l : List (List Int × Term)) : List Str := (varsIn l).foldl addS ks
def vsetT (ks : List Str) (l : List Term) : List Str := l.foldl (fun ks t => vset ks (visit t [])) ks
def varsOf (l : List Term) : List Str := sortS (vsetT [] l)
mutual
theorem visit_len : ∀ (t : Term) (p : List Int), (visit t p).length = size t
  | .mk n v l, p => by simp only [visit, size, List.length_cons, visits_len l p 0]; omega
theorem visits_len : ∀ (l : List Term) (p : List Int) (i : Nat), (visits l p i).length = sizes l
  | [], p, i => rfl
  | a :: l, p, i => by simp only [visits, sizes, List.length_append, visit_len a, visits_len l]
end
theorem addS_len (ks : List Str) (n : Str) : (addS ks n).length ≤ ks.length + 1 := by unfold addS; split <;> simp
theorem foldl_addS_len : ∀ (l : List Str) (ks : List Str), (l.foldl addS ks).length ≤ ks.length + l.length
  | [], ks => by simp
  | n :: l, ks => by have := foldl_addS_len l (addS ks n); have := addS_len ks n; simp only [List.foldl_cons, List.length_cons]; omega
theorem vset_len (ks : List Str) (l : List (List Int × Term)) : (vset ks l).length ≤ ks.length + l.length := by
  have h1 := foldl_addS_len (varsIn l) ks
  have h2 : (varsIn l).length ≤ l.length := by unfold varsIn; rw [List.length_map]; exact List.length_filter_le _ _
  unfold vset; omega
theorem vsetT_len : ∀ (l : List Term) (ks : List Str), (vsetT ks l).length ≤ ks.length + sizes l
  | [], ks => by simp [vsetT, sizes]
  | t :: l, ks => by
    have h1 := vsetT_len l (vset ks (visit t []))
    have h2 := vset_len ks (visit t [])
    rw [visit_len] at h2
    simp only [vsetT, List.foldl_cons, sizes] at h1 ⊢; omega
theorem term_VarsOf_s (l : List Term) (hs : sizes l < 2 ^ 40) : PF n_term_VarsOf [encTs l] (encSs (varsOf l)) := by
  have hl := length_le_sizes l
  refine pf_of term_VarsOf.ok rfl ?_
  push_cast
  refine loop_up (n := l.length) (R := fun k => term_VarsOf.L8 (.ptr 1 0) .any (encTs l) (.int .i64 l.length) (.int .i64 k) 0 [.map (encKs (vsetT [] (l.take k))), .cells t_m_string_bool [.map 0]] _) ?_ ?_ 0 (by omega)
  · intro k hk ih
    have hm := getD_mem hk
    have hsm := size_mem hm
    refine term_VarsOf.G8 ?_
    push_cast [ilt hk]
    refine .of (term_Walk_s _) ?_
    push_cast
    have hks : vsetT [] (l.take (k + 1)) = vset (vsetT [] (l.take k)) (visit (l.getD k default) []) := by rw [take_succ_getD hk]; simp [vsetT]
    rw [hks] at ih
    generalize vsetT [] (l.take k) = ks at ih ⊢
    generalize l.getD k default = u at ih hsm ⊢
    refine Run.rf n_term_Walk_1 [] [.ro (cT u) 0] ((visit u []).map encIt) (fun j H1 => H1 = [.map (encKs (vset ks ((visit u []).take j))), .cells t_m_string_bool [.map 0], .dead]) (fun _ _ => False) rfl (term_Walk_iter u (by omega)) ?_ (by simp [vset, varsIn]) ?_ ?_ (fun _ _ h => h.elim) ?_ ?_ (fun _ _ h => h.elim)
    · intro it hit
      obtain ⟨x, _, rfl⟩ := List.mem_map.1 hit
      rfl
    · push_cast
    · rintro j H1 rfl
      refine ⟨rfl, ?_⟩
      push_cast
    · rintro lo r j it H1 hit rfl
      rw [List.getElem?_map] at hit
      cases hx : (visit u [])[j]? with
      | none => rw [hx] at hit; cases hit
      | some x =>
      rw [hx] at hit
      have hit : it = encIt x := by simpa using hit.symm
      subst hit
      have hj : j < (visit u []).length := (List.getElem?_eq_some_iff.1 hx).1
      have hxj : (visit u [])[j] = x := (List.getElem?_eq_some_iff.1 hx).2
      have htk : (visit u []).take (j + 1) = (visit u []).take j ++ [x] := by rw [List.take_succ_eq_append_getElem hj, hxj]
      push_cast [setPs, encIt]
      refine run_m.2 ?_
      cases hv : x.2.var with
      | false =>
        have hvs : vset ks ((visit u []).take (j + 1)) = vset ks ((visit u []).take j) := by rw [htk]; simp [vset, varsIn, hv]
        push_cast [hv]
        refine ⟨rfl, ?_⟩
        push_cast [cut, hvs]
      | true =>
        have hvs : vset ks ((visit u []).take (j + 1)) = addS (vset ks ((visit u []).take j)) x.2.name := by rw [htk]; simp [vset, varsIn, hv]
        push_cast [hv, updM_encKs, ksB]
        refine ⟨rfl, ?_⟩
        push_cast [cut, hvs]
    · rintro H1 rfl
      push_cast [w64 (show k < 2 ^ 62 by omega)]
      have : (visit u []).take ((visit u []).map encIt).length = visit u [] := by rw [List.length_map, List.take_length]
      rw [this]
      exact ih
  · refine term_VarsOf.G8 ?_
    push_cast [inlt (Nat.le_refl _)]
    unfold varsOf
    rw [List.take_length]
    have hkl := vsetT_len l []
    generalize vsetT [] l = ks at hkl ⊢
    simp only [List.length_nil, Nat.zero_add] at hkl
    have hlen : (encKs ks).length = ks.length := by unfold encKs; rw [List.length_map]
    rw [hlen]
    have fin : ∀ (seen : List Nat), seen.Nodup → (∀ i ∈ seen, i < ks.length) → (∀ k, k < ks.length → k ∈ seen) → sortS (seen.map fun i => ks.getD i []) = sortS ks := fun seen h1 h2 h3 => by
      refine Go.mergeSort_of_perm ?_
      have hp : seen.Perm (List.range ks.length) := (List.perm_ext_iff_of_nodup h1 List.nodup_range).2 fun i => by rw [List.mem_range]; exact ⟨h2 i, h3 i⟩
      have he : (List.range ks.length).map (fun i => ks.getD i []) = ks := by
        apply List.ext_getElem (by simp)
        intro i a b
        have hi : i < ks.length := by simpa using b
        simp [List.getD_eq_getElem?_getD, hi]
      have := hp.map fun i => ks.getD i []
      rw [he] at this
      exact this
    have key : ∀ (m : Nat) (seen : List Nat), ks.length - seen.length ≤ m → seen.Nodup → (∀ i ∈ seen, i < ks.length) → term_VarsOf.L3 (.rw 2 1 seen.length) (.it 3) 0
        [.map (encKs ks), .cells t_m_string_bool [.map 0], .row t_string 1 ((seen.map fun i => ks.getD i []).map fun s => [V.str s]), .iter (some 0) ks.length seen]
        (Ends 0 term_VarsOf.rs fun x' H' => x' = encSs (sortS ks) ∧ H' = []) := by
      intro m
      induction m with
      | zero =>
        intro seen hm hnd hlt
        refine term_VarsOf.G3 ?_
        push_cast
        refine nxP_of 0 ks.length seen (encKs ks) rfl rfl hlen.symm (fun hall => ?_) (fun k p hp hk => ?_)
        · have hsl : (seen.map fun i => ks.getD i []).length = seen.length := by simp
          have hc := sort_row (seen.map fun i => ks.getD i [])
          have hso : (sortS (seen.map fun i => ks.getD i [])).length = seen.length := by rw [(List.mergeSort_perm _ _).length_eq, hsl]
          rw [hsl, fin seen hnd hlt hall] at hc
          rw [fin seen hnd hlt hall] at hso
          push_cast
          refine CallG.some [2] (by simp) (by simp) (R := fun x H' => x = .tup [] ∧ H' = [.row t_string 1 ((sortS ks).map fun s => [V.str s])]) (by rw [give_2, renOb_row, rens_strs]; exact hc) ?_
          rintro x H' ⟨rfl, rfl⟩ _
          rw [take_2]
          push_cast
          refine ⟨by rw [List.length_map]; exact hso, pf_ret ?_⟩
          push_cast [term_VarsOf.rs]
          rfl
        · have : (seen ++ [k]).length ≤ (List.range ks.length).length := List.Nodup.length_le_of_subset (by simp [List.nodup_append, hnd]; intro a ha e; exact hk (e ▸ ha)) (by
            intro i hi
            rw [List.mem_range]
            rcases List.mem_append.1 hi with h | h
            · exact hlt i h
            · simp only [List.mem_singleton] at h; subst h; rw [← hlen]; exact (List.getElem?_eq_some_iff.1 hp).1)
          simp at this; omega
      | succ m ih =>
        intro seen hm hnd hlt
        refine term_VarsOf.G3 ?_
        push_cast
        refine nxP_of 0 ks.length seen (encKs ks) rfl rfl hlen.symm (fun hall => ?_) (fun k p hp hk => ?_)
        · have hsl : (seen.map fun i => ks.getD i []).length = seen.length := by simp
          have hc := sort_row (seen.map fun i => ks.getD i [])
          have hso : (sortS (seen.map fun i => ks.getD i [])).length = seen.length := by rw [(List.mergeSort_perm _ _).length_eq, hsl]
          rw [hsl, fin seen hnd hlt hall] at hc
          rw [fin seen hnd hlt hall] at hso
          push_cast
          refine CallG.some [2] (by simp) (by simp) (R := fun x H' => x = .tup [] ∧ H' = [.row t_string 1 ((sortS ks).map fun s => [V.str s])]) (by rw [give_2, renOb_row, rens_strs]; exact hc) ?_
          rintro x H' ⟨rfl, rfl⟩ _
          rw [take_2]
          push_cast
          refine ⟨by rw [List.length_map]; exact hso, pf_ret ?_⟩
          push_cast [term_VarsOf.rs]
          rfl
        · have hkl : k < ks.length := by rw [← hlen]; exact (List.getElem?_eq_some_iff.1 hp).1
          have hpe : p = (.str (ks.getD k []), .bool true) := by
            unfold encKs at hp
            rw [List.getElem?_map] at hp
            simp [hkl] at hp
            rw [← hp]; simp [List.getD_eq_getElem?_getD, hkl]
          have hen : ∀ a b, enV [.map (encKs ks), a, b, .iter (some 0) ks.length (seen ++ [k])] (.it 3) = some (.tup [p.1, p.2]) := fun a b => by
            simp [enV, hlen, hp]
          subst hpe
          push_cast [hen]
          refine ⟨?_, ?_⟩
          · have : (seen.map fun i => ks.getD i []).length = seen.length := by simp
            have h2 : seen.length ≤ ks.length := by simpa using List.Nodup.length_le_of_subset hnd (l₂ := List.range ks.length) fun i hi => List.mem_range.2 (hlt i hi)
            exact ⟨by simp, room (n := seen.length) (b := 16) (by omega) (by omega)⟩
          · have hnd2 : (seen ++ [k]).Nodup := by simp [List.nodup_append, hnd]; intro a ha e; exact hk (e ▸ ha)
            have hlt2 : ∀ i ∈ seen ++ [k], i < ks.length := fun i hi => by
              rcases List.mem_append.1 hi with h | h
              · exact hlt i h
              · simp only [List.mem_singleton] at h; subst h; exact hkl
            have := ih (seen ++ [k]) (by simp; omega) hnd2 hlt2
            simp only [List.map_append, List.map_cons, List.map_nil, List.length_append, List.length_singleton] at this
            rw [List.map_append, rens_strs]
            exact this
    exact key ks.length [] (by simp) List.nodup_nil (by simp)
end Go.Dw
end
section
namespace Go.Dw
open Go.Proofs (sortS)
def rbs : List ARule → Nat
  | [] => 0
  | x :: r => 1 + tb x.left + tb x.right + rbs r
theorem rbs_mem {r : List ARule} {x : ARule} (h : x ∈ r) : 1 + tb x.left + tb x.right ≤ rbs r := by
  induction r with
  | nil => cases h
  | cons y ys ih => rcases List.mem_cons.1 h with rfl | h <;> simp [rbs]; have := ih h; omega
theorem length_le_rbs (r : List ARule) : r.length ≤ rbs r := by
  induction r with
  | nil => simp
  | cons x xs ih => simp only [rbs, List.length_cons]; omega
section
variable (r : ARule)
theorem cR_0 : (cR r)[0]? = some (.str r.left.name) := rfl
theorem cR_1 : (cR r)[1]? = some (.bool r.left.var) := rfl
theorem cR_2 : (cR r)[2]? = some (encTs r.left.args) := by show some (V.sl 3 (argC r.left)) = _; rw [argC_eq]; rfl
theorem cR_3 : (cR r)[3]? = some (.str r.right.name) := rfl
theorem cR_4 : (cR r)[4]? = some (.bool r.right.var) := rfl
theorem cR_5 : (cR r)[5]? = some (encTs r.right.args) := by show some (V.sl 3 (argC r.right)) = _; rw [argC_eq]; rfl
end
attribute [push_cast] cR_0 cR_1 cR_2 cR_3 cR_4 cR_5
def checkPairs : List ARule → Int
  | [] => 0
  | x :: r => if checks [x.left, x.right] ≠ 0 then checks [x.left, x.right] else checkPairs r
def checkRules (r : List ARule) : Int := if 64 < r.length then 3 else checkPairs r
theorem encTs_two (a b : Term) : (.sl 3 [cT a, cT b] : V) = encTs [a, b] := rfl
theorem term_CheckRules_s (r : List ARule) (hs : rbs r < 2 ^ 61) : PF n_term_CheckRules [encRs r] (.int .i64 (checkRules r)) := by
  have hl := length_le_rbs r
  refine pf_of term_CheckRules.ok rfl ?_
  by_cases h64 : 64 < r.length
  · have hi : ((64 : Int) < (r.length : Int)) = True := eq_true (by omega)
    push_cast [hi]
    refine pf_ret ?_
    push_cast [term_CheckRules.rs, checkRules, h64]
  · have hi : ((64 : Int) < (r.length : Int)) = False := eq_false (by omega)
    push_cast [hi, checkRules, h64]
    refine loop_up (n := r.length) (R := fun k => checkPairs (r.drop k) = checkPairs r → term_CheckRules.L3 (encRs r) (.int .i64 r.length) (.int .i64 k) 0 [] _) ?_ ?_ 0 (by omega) rfl
    · intro k hk ih hq
      have hm := rbs_mem (getD_mem hk)
      refine term_CheckRules.G3 ?_
      rw [drop_getD hk] at hq
      simp only [checkPairs] at hq
      generalize hx : r.getD k default = x at hm hq
      have hA := term_All_s [x.left, x.right] (by simp) (by simp; omega)
      push_cast [ilt hk, hx]
      refine .of hA ?_
      push_cast [w64 (show k < 2 ^ 62 by omega)]
      refine ⟨fun h => pf_ret ?_, fun h => ih ?_⟩
      · push_cast [term_CheckRules.rs]
        rw [← hq, if_pos h]
      · rw [← hq, if_neg h]
    · intro hq
      refine term_CheckRules.G3 ?_
      push_cast [inlt (Nat.le_refl _)]
      refine pf_ret ?_
      push_cast [term_CheckRules.rs]
      rw [← hq, drop_map_none]; rfl
theorem slices_Index_str_s (l : List Str) (v : Str) (hl : l.length < 2 ^ 62) : PF n_slices_Index_s_string_string [encSs l, .str v] (.int .i64 (idxI (fun x => decide (v = x)) l)) := by
  refine pf_of slices_Index_s_string_string.ok rfl ?_
  push_cast
  refine loop_up (n := l.length) (R := fun k => (∀ j, j < k → decide (v = l.getD j default) = false) → slices_Index_s_string_string.L3 (encSs l) (.str v) (.int .i64 l.length) (.int .i64 k) 0 [] _) ?_ ?_ 0 (by omega) (by intro j hj; omega)
  · intro k hk ih hq
    refine slices_Index_s_string_string.G3 ?_
    push_cast [ilt hk, w64 (show k < 2 ^ 62 by omega)]
    refine ⟨fun hp => pf_ret ?_, fun hp => ?_⟩
    · push_cast [slices_Index_s_string_string.rs]
      rw [idxI_some hk (by simpa using hp) hq]
    · refine ih fun j hj => ?_
      rcases Nat.lt_succ_iff_lt_or_eq.1 hj with h | rfl
      · exact hq j h
      · simpa using hp
  · intro hq
    refine slices_Index_s_string_string.G3 ?_
    push_cast [inlt (Nat.le_refl _)]
    refine pf_ret ?_
    push_cast [slices_Index_s_string_string.rs]
    rw [idxI_none hq]
theorem slices_Contains_str_s (l : List Str) (v : Str) (hl : l.length < 2 ^ 62) : PF n_slices_Contains_s_string_string [encSs l, .str v] (.bool (decide (v ∈ l))) := by
  refine pf_of slices_Contains_s_string_string.ok rfl ?_
  push_cast
  refine .of (slices_Index_str_s l v hl) ?_
  push_cast
  refine pf_ret ?_
  push_cast [slices_Contains_s_string_string.rs, idxI_any]
  rw [Bool.eq_iff_iff]; simp
def extra (x : ARule) : Bool := x.left.var || (varsOf [x.right]).any fun v => !decide (v ∈ varsOf [x.left])
theorem varsOf_len (l : List Term) : (varsOf l).length ≤ sizes l := by
  have := vsetT_len l []
  unfold varsOf; rw [(List.mergeSort_perm _ _).length_eq]; simpa using this
theorem term_extra_s (x : ARule) (hs : tb x.left + tb x.right < 2 ^ 39) : PF n_term_extra [encR x] (.bool (extra x)) := by
  have h1 := size_le_tb x.left
  have h2 := size_le_tb x.right
  have e1 : ∀ t, sizes [t] = size t := fun t => by simp [sizes]
  have hv := varsOf_len [x.left]
  have hv2 := varsOf_len [x.right]
  rw [e1] at hv hv2
  have hL := term_VarsOf_s [x.left] (by rw [e1]; omega)
  have hR := term_VarsOf_s [x.right] (by rw [e1]; omega)
  refine pf_of term_extra.ok rfl ?_
  push_cast
  refine .of hL ?_
  cases hvar : x.left.var with
  | true =>
    push_cast [hvar]
    refine pf_ret ?_
    push_cast [term_extra.rs, extra, hvar]
    rfl
  | false =>
    push_cast [hvar]
    refine .of hR ?_
    push_cast
    refine .of (slices_ContainsFunc_s_string_string_s (p := fun v => !decide (v ∈ varsOf [x.left])) (caps := [.ro [encSs (varsOf [x.left])] 0]) (fun _ => rfl) _ (by omega) fun v hv => ?_) ?_
    · refine pf_of term_extra_1.ok rfl ?_
      push_cast
      refine .of (slices_Contains_str_s _ _ (by omega)) ?_
      push_cast
      exact pf_ret (by push_cast [term_extra_1.rs])
    · push_cast
      refine pf_ret ?_
      push_cast [term_extra.rs, extra, hvar]
      rfl
end Go.Dw
end
section
namespace Go.Dw
abbrev Ars := List (Str × Nat)
def getA : Ars → Str → Option Nat
  | [], _ => none
  | p :: m, n => if p.1 = n then some p.2 else getA m n
def arStep (m : Ars) (u : Term) : Option Ars := if u.var then some m else match getA m u.name with
  | some n => if n = u.args.length then some m else none
  | none => some (m ++ [(u.name, u.args.length)])
def arAll (m : Ars) : List (List Int × Term) → Option Ars
  | [] => some m
  | x :: l => (arStep m x.2).bind fun m' => arAll m' l
def arRules (m : Ars) : List ARule → Option Ars
  | [] => some m
  | x :: r => (arAll m (visit x.left [])).bind fun m1 => (arAll m1 (visit x.right [])).bind fun m2 => arRules m2 r
theorem arAll_append : ∀ (a b : List (List Int × Term)) (m : Ars), arAll m (a ++ b) = (arAll m a).bind fun m' => arAll m' b
  | [], b, m => rfl
  | x :: a, b, m => by simp only [List.cons_append, arAll]; cases arStep m x.2 <;> simp [arAll_append a b]
def encAr (m : Ars) : List (V × V) := m.map fun p => (.str p.1, .int .i64 p.2)
theorem ren_encAr {σ : Nat → Option Nat} {m : Ars} : ((encAr m).map fun p => (ren σ p.1, ren σ p.2)) = encAr m := by
  unfold encAr; rw [List.map_map]; rfl
attribute [push_cast] ren_encAr
theorem findM_encAr (n : Str) : ∀ (m : Ars) (i : Nat), match getA m n with
    | none => findM (.str n) (encAr m) i = some none
    | some a => ∃ j, findM (.str n) (encAr m) i = some (some (i + j, .int .i64 a)) ∧ (encAr m)[j]? = some (.str n, .int .i64 a)
  | [], i => rfl
  | p :: m, i => by
    have ih := findM_encAr n m (i + 1)
    unfold getA
    by_cases h : p.1 = n
    · rw [if_pos h]
      refine ⟨0, ?_, ?_⟩
      · simp [encAr, findM, sameK, h]
      · simp [encAr, h]
    · rw [if_neg h]
      have h' : n ≠ p.1 := fun e => h e.symm
      have hb : (n == p.1) = false := by simpa using h'
      have e : ∀ (k : Nat) , findM (.str n) (encAr (p :: m)) k = findM (.str n) (encAr m) (k + 1) := fun k => by simp [encAr, findM, sameK, hb]
      cases hg : getA m n with
      | none => rw [hg] at ih; simp only at ih ⊢; rw [e]; exact ih
      | some a =>
        rw [hg] at ih
        obtain ⟨j, h1, h2⟩ := ih
        refine ⟨j + 1, ?_, ?_⟩
        · rw [e, h1]; congr 3; omega
        · simp only [encAr, List.map_cons, List.getElem?_cons_succ]; exact h2
theorem look_encAr (m : Ars) (n : Str) {H : List Ob} {k : Nat} (hk : H[k]? = some (.map (encAr m))) : lookV H true true (.int .i64 0) (.map k) (.str n) = some (.tup [.int .i64 ((getA m n).getD 0 : Nat), .bool (getA m n).isSome]) := by
  have h := findM_encAr n m 0
  have he : entsV H (.map k) = some (encAr m) := by simp [entsV, hk]
  unfold lookV
  rw [he]
  cases hg : getA m n with
  | none => rw [hg] at h; simp only at h; simp [ksB, h, foundX]
  | some a => rw [hg] at h; obtain ⟨j, h1, h2⟩ := h; simp [ksB, h1, foundX]
theorem upd_encAr {m m' : Ars} {u : Term} (hv : u.var = false) (h : arStep m u = some m') : updM (.str u.name) (.int .i64 u.args.length) (encAr m) = some (encAr m') := by
  have hf := findM_encAr u.name m 0
  unfold arStep at h
  rw [hv] at h
  simp only [Bool.false_eq_true, if_false] at h
  unfold updM
  cases hg : getA m u.name with
  | none =>
    rw [hg] at h hf
    simp only [Option.some.injEq] at h hf
    subst h
    rw [hf]; simp [encAr]
  | some a =>
    rw [hg] at h hf
    simp only at h
    split at h
    · rename_i ha
      cases h
      obtain ⟨j, h1, h2⟩ := hf
      rw [h1]
      subst ha
      simp only [Nat.zero_add, Option.some.injEq]
      obtain ⟨h3, h4⟩ := List.getElem?_eq_some_iff.1 h2
      rw [← h4, List.set_getElem_self]
    · cases h
def arOut (o : Option Ars) (x : V) (H : List Ob) : Prop := match o with
  | none => x = .tup [.nilm, .bool false] ∧ H = []
  | some m => x = .tup [.map 0, .bool true] ∧ H = [.map (encAr m)]
abbrev arH (m : Ars) (l : List Ob) : List Ob := .cells t_m_string_int [.nilm] :: .cells t_bool [.bool false] :: .map (encAr m) :: .cells t_m_string_int [.map 2] :: l
theorem ar_pass {u : Term} {m : Ars} {r : List ARule} {v24 : V} {j k n : Nat} (hs : size u < 2 ^ 40) (hj : j < 2) (hra : ∀ σ, ren σ v24 = v24) (hix : ixaV 3 2 (some 3) v24 (.int .i64 j) = some (encT u)) (hnone : arAll m (visit u []) = none → arRules [] r = none)
    (hsome : ∀ m', arAll m (visit u []) = some m' → term_Arities.L6 (.ptr 0 0) (.ptr 1 0) (.ptr 3 0) .any (encRs r) (.int .i64 n) (.int .i64 k) v24 (.int .i64 (j + 1 : Nat)) 0 (arH m' [.dead]) (Ends 0 term_Arities.rs (arOut (arRules [] r)))) :
    term_Arities.L6 (.ptr 0 0) (.ptr 1 0) (.ptr 3 0) .any (encRs r) (.int .i64 n) (.int .i64 k) v24 (.int .i64 j) 0 (arH m [.dead]) (Ends 0 term_Arities.rs (arOut (arRules [] r))) := by
  have hj2 : ((j : Int) < 2) = True := eq_true (by omega)
  refine term_Arities.G6 ?_
  push_cast [hj2, hix]
  refine .of (term_Walk_s _) ?_
  push_cast
  refine Run.rf n_term_Walk_1 [] [.ro (cT u) 0] ((visit u []).map encIt) (fun i H1 => ∃ m', arAll m ((visit u []).take i) = some m' ∧ H1 = arH m' [.dead, .dead]) (fun e H1 => e = .ret ∧ arAll m (visit u []) = none ∧ ∃ m', H1 = arH m' [.dead, .dead]) rfl (term_Walk_iter u hs) ?_ ⟨m, rfl, rfl⟩ ?_ ?_ ?_ ?_ ?_ ?_
  · intro it hit
    obtain ⟨x, _, rfl⟩ := List.mem_map.1 hit
    rfl
  · push_cast [hra]
  · rintro i H1 ⟨m', _, rfl⟩
    refine ⟨rfl, ?_⟩
    push_cast
  · rintro i H1 ⟨_, _, m', rfl⟩
    refine ⟨rfl, ?_⟩
    push_cast
  · rintro lo rr i it H1 hit ⟨m', hm', rfl⟩
    rw [List.getElem?_map] at hit
    cases hx : (visit u [])[i]? with
    | none => rw [hx] at hit; cases hit
    | some x =>
    rw [hx] at hit
    have hit : it = encIt x := by simpa using hit.symm
    subst hit
    have hi : i < (visit u []).length := (List.getElem?_eq_some_iff.1 hx).1
    have hxi : (visit u [])[i] = x := (List.getElem?_eq_some_iff.1 hx).2
    have htk : (visit u []).take (i + 1) = (visit u []).take i ++ [x] := by rw [List.take_succ_eq_append_getElem hi, hxi]
    have hst : arAll m ((visit u []).take (i + 1)) = arStep m' x.2 := by rw [htk, arAll_append, hm']; simp [arAll]
    have hlk : ∀ (a b : Ob) l, lookV (a :: b :: .map (encAr m') :: l) true true (.int .i64 0) (.map 2) (.str x.2.name) = some (.tup [.int .i64 ((getA m' x.2.name).getD 0 : Nat), .bool (getA m' x.2.name).isSome]) := fun a b l => look_encAr m' _ rfl
    push_cast [setPs, encIt]
    refine run_m.2 ?_
    cases hv : x.2.var with
    | true =>
      have hst2 : arStep m' x.2 = some m' := by unfold arStep; rw [hv]; rfl
      push_cast [hv]
      refine ⟨rfl, ?_⟩
      refine ⟨m', by rw [hst, hst2], ?_⟩
      push_cast [cut]
    | false =>
      cases hg : getA m' x.2.name with
      | none =>
        have hst2 : arStep m' x.2 = some (m' ++ [(x.2.name, x.2.args.length)]) := by unfold arStep; rw [hv, hg]; rfl
        have hup := upd_encAr hv hst2
        push_cast [hv, hlk, hg, Option.isSome_none, hup, ksB]
        refine ⟨rfl, ?_⟩
        refine ⟨_, by rw [hst, hst2], ?_⟩
        push_cast [cut]
      | some a =>
        by_cases ha : a = x.2.args.length
        · have hst2 : arStep m' x.2 = some m' := by unfold arStep; rw [hv, hg]; simp [ha]
          have hup := upd_encAr hv hst2
          have ha' : ((a : Int) = (x.2.args.length : Int)) = True := eq_true (by omega)
          push_cast [hv, hlk, hg, Option.isSome_some, Option.getD_some, ha', hup, ksB]
          refine ⟨rfl, ?_⟩
          refine ⟨_, by rw [hst, hst2], ?_⟩
          push_cast [cut]
        · have hst2 : arStep m' x.2 = none := by unfold arStep; rw [hv, hg]; simp [ha]
          have ha' : ((a : Int) = (x.2.args.length : Int)) = False := eq_false (by omega)
          push_cast [hv, hlk, hg, Option.isSome_some, Option.getD_some, ha', ksB]
          refine ⟨rfl, ?_⟩
          have hall : arAll m (visit u []) = none := by
            have : visit u [] = (visit u []).take (i + 1) ++ (visit u []).drop (i + 1) := (List.take_append_drop _ _).symm
            rw [this, arAll_append, hst, hst2]; rfl
          refine ⟨rfl, hall, m', ?_⟩
          push_cast [cut]
  · rintro H1 ⟨m', hm', rfl⟩
    rw [List.length_map, List.take_length] at hm'
    have := hsome m' hm'
    push_cast [hra, w64 (show j < 2 ^ 62 by omega)]
    push_cast at this
    exact this
  · rintro e H1 ⟨rfl, hn, m', rfl⟩
    simp only [jumpC]
    push_cast
    rw [hnone hn]
    exact ends_nil (.inl rfl) rfl ⟨rfl, rfl⟩
theorem term_Arities_s (r : List ARule) (hs : rbs r < 2 ^ 40) : Spec prog n_term_Arities [encRs r] [] (arOut (arRules [] r)) := by
  have hl := length_le_rbs r
  refine spec_of_run mixed term_Arities.ok rfl ?_
  push_cast
  refine loop_up (n := r.length) (R := fun k => ∀ m, arRules m (r.drop k) = arRules [] r → term_Arities.L8 (.ptr 0 0) (.ptr 1 0) (.ptr 3 0) .any (encRs r) (.int .i64 r.length) (.int .i64 k) 0 (arH m []) (Ends 0 term_Arities.rs (arOut (arRules [] r)))) ?_ ?_ 0 (by omega) [] rfl
  · intro k hk ih m hm
    have hmm := rbs_mem (getD_mem hk)
    rw [drop_getD hk] at hm
    refine term_Arities.G8 ?_
    generalize hx : r.getD k default = x at hm hmm
    have h1 := size_le_tb x.left
    have h2 := size_le_tb x.right
    simp only [arRules] at hm
    have hr24 : ∀ σ, rens σ (cT x.left ++ cT x.right) = cT x.left ++ cT x.right := fun σ => rfl
    push_cast [ilt hk, hx, hr24]
    refine ar_pass (j := 0) (u := x.left) (by omega) (by omega) (fun σ => by rw [ren_agg, hr24]) rfl (fun h => by rw [← hm, h]; rfl) fun m1 hm1 => ?_
    rw [hm1, Option.bind_some] at hm
    refine ar_pass (j := 1) (u := x.right) (by omega) (by omega) (fun σ => by rw [ren_agg, hr24]) rfl (fun h => by rw [← hm, h]; rfl) fun m2 hm2 => ?_
    rw [hm2, Option.bind_some] at hm
    refine term_Arities.G6 ?_
    push_cast [w64 (show k < 2 ^ 62 by omega)]
    exact ih m2 hm
  · intro m hm
    refine term_Arities.G8 ?_
    push_cast [inlt (Nat.le_refl _)]
    rw [drop_map_none] at hm
    rw [← hm]
    refine ends_one 2 rfl rfl ⟨rfl, ?_⟩
    push_cast
end Go.Dw
end
section
namespace Go.Dw
def marked (n : Str) : Bool := hasSuf n [35]
def checkSystem (r : List ARule) : Int := if checkRules r ≠ 0 then checkRules r else match arRules [] r with
  | none => 6
  | some m => if m.any (fun p => marked p.1) then 6 else if r.any extra then 7 else 0
theorem seen_all {n : Nat} {seen : List Nat} {k : Nat} (hm : n ≤ seen.length) (hnd : seen.Nodup) (hlt : ∀ i ∈ seen, i < n) (hk : k ∉ seen) (hkn : k < n) : False := by
  have h1 : (seen ++ [k]).Nodup := by simp [List.nodup_append, hnd]; intro a ha e; exact hk (e ▸ ha)
  have h2 : (seen ++ [k]).length ≤ (List.range n).length := List.Nodup.length_le_of_subset h1 (by
    intro i hi
    rw [List.mem_range]
    rcases List.mem_append.1 hi with h | h
    · exact hlt i h
    · simp only [List.mem_singleton] at h; subst h; exact hkn)
  simp at h2; omega
theorem seen_snoc {n : Nat} {seen : List Nat} {k : Nat} (hnd : seen.Nodup) (hlt : ∀ i ∈ seen, i < n) (hk : k ∉ seen) (hkn : k < n) : (seen ++ [k]).Nodup ∧ ∀ i ∈ seen ++ [k], i < n := by
  refine ⟨by simp [List.nodup_append, hnd]; intro a ha e; exact hk (e ▸ ha), fun i hi => ?_⟩
  rcases List.mem_append.1 hi with h | h
  · exact hlt i h
  · simp only [List.mem_singleton] at h; subst h; exact hkn
theorem term_CheckSystem_s (r : List ARule) (hs : rbs r < 2 ^ 38) (hn : ∀ m, arRules [] r = some m → ∀ p ∈ m, p.1.length < 2 ^ 62) : PF n_term_CheckSystem [encRs r] (.int .i64 (checkSystem r)) := by
  have hl := length_le_rbs r
  refine pf_of term_CheckSystem.ok rfl ?_
  push_cast
  refine .of (term_CheckRules_s r (by omega)) ?_
  unfold checkSystem
  by_cases h1 : checkRules r = 0
  · rw [if_neg (by simpa using h1)]
    push_cast [h1]
    refine CallG.all (show SpecF prog (.func n_term_Arities) [encRs r] [] (arOut (arRules [] r)) from specF_func ▸ term_Arities_s r (by omega)) ?_
    intro x H' h
    cases hr : arRules [] r with
    | none =>
      rw [hr] at h
      obtain ⟨rfl, rfl⟩ := h
      push_cast
      refine pf_ret ?_
      push_cast [term_CheckSystem.rs]
    | some m =>
      have hnm := hn m hr
      rw [hr] at h
      obtain ⟨rfl, rfl⟩ := h
      push_cast
      have hlen : (encAr m).length = m.length := by unfold encAr; rw [List.length_map]
      rw [hlen]
      have key : ∀ (f : Nat) (seen : List Nat), m.length - seen.length < f → seen.Nodup → (∀ i ∈ seen, i < m.length) → (∀ i ∈ seen, marked (m.getD i default).1 = false) → term_CheckSystem.L4 (encRs r) (.it 1) 0
          [.map (encAr m), .iter (some 0) m.length seen] (Ends 0 term_CheckSystem.rs fun x' H' => x' = .int .i64 (if m.any (fun p => marked p.1) then 6 else if r.any extra then 7 else 0) ∧ H' = []) := by
        intro f
        induction f with
        | zero =>
          intro seen hm hnd hlt hun
          omega
        | succ f ih =>
          intro seen hm hnd hlt hun
          refine term_CheckSystem.G4 ?_
          push_cast
          refine nxP_of 0 m.length seen (encAr m) rfl rfl hlen.symm (fun hall => ?_) (fun k p hp hk => ?_)
          · have hany : m.any (fun p => marked p.1) = false := by
              rw [List.any_eq_false]
              intro p hp
              obtain ⟨i, hi, rfl⟩ := List.getElem_of_mem hp
              have := hun i (hall i hi)
              simp only [List.getD_eq_getElem?_getD, hi, List.getElem?_eq_getElem, Option.getD_some] at this
              simp [this]
            push_cast [hany]
            refine .of (slices_ContainsFunc_s_Rule_Rule_s (p := extra) (g := n_term_extra) (caps := []) (fun _ => rfl) r (by omega) fun x hx => term_extra_s x (by have := rbs_mem hx; omega)) ?_
            push_cast
            refine ⟨fun h => pf_ret ?_, fun h => pf_ret ?_⟩ <;> push_cast [term_CheckSystem.rs, h]
          · have hkl : k < m.length := by rw [← hlen]; exact (List.getElem?_eq_some_iff.1 hp).1
            have hpe : p = (.str (m.getD k default).1, .int .i64 (m.getD k default).2) := by
              unfold encAr at hp
              rw [List.getElem?_map] at hp
              simp [hkl] at hp
              rw [← hp]; simp [List.getD_eq_getElem?_getD, hkl]
            have hen : enV [.map (encAr m), .iter (some 0) m.length (seen ++ [k])] (.it 1) = some (.tup [p.1, p.2]) := by
              simp [enV, hlen, hp]
            subst hpe
            have hmem : m.getD k default ∈ m := getD_mem hkl
            push_cast [hen]
            refine .of (term_Marked_s _ (hnm _ hmem)) ?_
            cases hmk : marked (m.getD k default).1 with
            | true =>
              have hany : m.any (fun p => marked p.1) = true := List.any_eq_true.2 ⟨_, hmem, hmk⟩
              unfold marked at hmk
              push_cast [hmk]
              refine pf_ret ?_
              push_cast [term_CheckSystem.rs, hany]
            | false =>
              have h2 := seen_snoc hnd hlt hk hkl
              have hlt' : seen.length < m.length := by
                rcases Nat.lt_or_ge seen.length m.length with h | h
                · exact h
                · exact (seen_all h hnd hlt hk hkl).elim
              have := ih (seen ++ [k]) (by simp; omega) h2.1 h2.2 (fun i hi => by
                rcases List.mem_append.1 hi with h | h
                · exact hun i h
                · simp only [List.mem_singleton] at h; subst h; exact hmk)
              unfold marked at hmk
              push_cast [hmk]
              exact this
      exact key (m.length + 1) [] (by simp) List.nodup_nil (by simp) (by simp)
  · rw [if_pos h1]
    push_cast [h1]
    refine pf_ret ?_
    push_cast [term_CheckSystem.rs]
end Go.Dw
end
section
namespace Go.Proofs
open Go.Shelf Go.RowKit Go.Lib
theorem run_copy_cellsZ {P : Program} (w : World) (dT sT ty elem : TypeId) (b o dLen dCap : Nat) (a : Addr) (sLen sCap z : Nat) (cs : List Value)
    (hu : P.underlying dT = some (.slice elem)) (hs : (P.info? elem).map (·.size) = some z) (hn : cs.length = Nat.min sLen dLen * z)
    (hsrc : ∀ j v, cs[j]? = some v → w.cell? (a.add j) = some v) (hc : ∀ j, j < cs.length → (w.cell? ⟨b, o + j, none⟩).isSome = true) (hf : ∀ j, j < cs.length → w.frozen? ⟨b, o + j, none⟩ = false) (h1 : ∀ v ∈ cs, v.oneCell' = true) :
    (Builtin.copy_ #[dT, sT] ty #[.slice (some ⟨b, o, none⟩) dLen dCap, .slice (some a) sLen sCap]).run P w = .ok (goInt (Nat.min sLen dLen)) (w.setCells b o cs) := by
  have hl := run_loadCells_list (P := P) w a cs hsrc
  have hst := run_storeCells_cells (P := P) b o cs 0 w (by simpa using hc) (by simpa using hf) h1
  cases hq : P.info? elem with
  | none => simp [hq] at hs
  | some i =>
    have hi : i.size = z := by simpa [hq] using hs
    simp [Builtin.copy_, run_underlying hu, Builtin.lenOf, Builtin.firstCells, sizeOf, typeInfo, hq, hi, ← hn, hl, hst]
end Go.Proofs
end
section
namespace Go.Proofs
open Go.Shelf Go.RowKit Go.Lib
theorem zeroCells_size (cs : Array Value) (k : Nat) : (Builtin.zeroCells cs k).size = k * cs.size := by
  simp [Builtin.zeroCells]
end Go.Proofs
end
section
namespace Go.Dw
open Go.Proofs Go.Sort Go.Lib
theorem heap_setCells (b : Nat) : ∀ (us : List Value) (o : Nat) (w : World), (w.setCells b o us).heap.size = w.heap.size ∧ (∀ b', b' ≠ b → (w.setCells b o us).heap[b']? = w.heap[b']?) ∧
    (∀ vs t fr, w.heap[b]? = some (.cells vs t fr) → ∃ vs1, (w.setCells b o us).heap[b]? = some (.cells vs1 t fr) ∧ vs1.size = vs.size) ∧ (w.setCells b o us).os = w.os ∧ (w.setCells b o us).tape = w.tape ∧ (w.setCells b o us).output = w.output
  | [], o, w => ⟨rfl, fun _ _ => rfl, fun vs t fr h => ⟨vs, h, rfl⟩, rfl, rfl, rfl⟩
  | u :: us, o, w => by
    obtain ⟨h1, h2, h3, h4, h5, h6⟩ := heap_setCells b us (o + 1) (w.setCell ⟨b, o, none⟩ u)
    have e1 : (w.setCell ⟨b, o, none⟩ u).heap.size = w.heap.size := by rw [setCell_eq]; simp [mapBlock]
    have e2 : ∀ b', b' ≠ b → (w.setCell ⟨b, o, none⟩ u).heap[b']? = w.heap[b']? := fun b' hb => by
      rw [setCell_eq]; simp only [mapBlock]; rw [Array.getElem?_modify, if_neg (Ne.symm hb)]
    refine ⟨by rw [World.setCells, h1, e1], fun b' hb => by rw [World.setCells, h2 b' hb, e2 b' hb], fun vs t fr h => ?_, ?_, ?_, ?_⟩
    · have : (w.setCell ⟨b, o, none⟩ u).heap[b]? = some (.cells (vs.setIfInBounds o u) t fr) := by
        rw [setCell_eq]; simp only [mapBlock]; rw [Array.getElem?_modify, if_pos rfl, h]; rfl
      obtain ⟨vs1, q1, q2⟩ := h3 _ _ _ this
      exact ⟨vs1, by rw [World.setCells]; exact q1, by rw [q2]; simp⟩
    · rw [World.setCells, h4, setCell_eq]; rfl
    · rw [World.setCells, h5, setCell_eq]; rfl
    · rw [World.setCells, h6, setCell_eq]; rfl
theorem drawn_setCells (b : Nat) : ∀ (us : List Value) (o : Nat) (w : World), (w.setCells b o us).drawn = w.drawn
  | [], o, w => rfl
  | u :: us, o, w => by rw [World.setCells, drawn_setCells b us, setCell_eq]; rfl
theorem ins_fin {c : Cx} (hc : Conc c) {els : List (List V)} {new : List V} {e i n z : Nat} (hH : c.H = [.row e z els, .arr e z 1]) (hn : els.length = n) (hi : i ≤ n) {w' : World} {bN kN : Nat} {vs1 : Array Value} {us : List Value}
    (hb : (∃ k, c.ρ 0 = some (bN, k)) ∨ c.w.heap.size ≤ bN) (hmax : n + 1 ≤ maxEls)
    (h1 : w'.heap[bN]? = some (.cells vs1 e (0, 0))) (h2 : vs1.size = kN * z) (h3 : n + 1 ≤ kN) (h4 : kN ≤ capMax)
    (hold : ∀ (l : Nat) (el : List V), els[l]? = some el → el.length = z ∧ ∀ (j : Nat) (x : V), el[j]? = some x → ∃ v, vs1[(if l < i then l else l + 1) * z + j]? = some v ∧ oneC v = true ∧ rep c x v)
    (hnew : new.length = z ∧ ∀ (j : Nat) (x : V), new[j]? = some x → ∃ v, vs1[i * z + j]? = some v ∧ oneC v = true ∧ rep c x v)
    (hoth : ∀ b', b' < c.w.heap.size → b' ≠ bN → w'.heap[b']? = c.w.heap[b']?) (hsz : c.w.heap.size ≤ w'.heap.size) (hos : w'.os = c.w.os) (htp : w'.tape = c.w.tape) (hou : w'.output = c.w.output) (hdr : c.w.drawn ≤ w'.drawn) :
    ∃ v x c', Ending.returned (.slice (some ⟨bN, 0, none⟩) (n + 1) kN) = .returned v ∧ c'.w = w' ∧ (x = .rw 0 z (n + 1) ∧ c'.H = [.row e z (els.take i ++ new :: els.drop i), .arr e z 1]) ∧ Conc c' ∧ rep c' x v ∧ Fr c c' := by
  have hH0 : c.H[0]? = some (.row e z els) := by rw [hH]; rfl
  have hH1 : c.H[1]? = some (.arr e z 1) := by rw [hH]; rfl
  have hHl : c.H.length = 2 := by rw [hH]; rfl
  obtain ⟨o1, o2⟩ := hc.obj 0 _ hH0
  have hnok : ∀ o, ¬ c.ok bN o := fun o ho => by
    rcases hb with ⟨k, hk⟩ | hb
    · obtain ⟨_, _, _, _, _, h5, _⟩ := o2 bN k hk; exact h5 o ho
    · have := hc.okLt _ _ ho; omega
  have h1ne : ∀ b' k', c.ρ 1 = some (b', k') → b' ≠ bN ∧ b' < c.w.heap.size := fun b' k' h => by
    have hlt := own_lt hc (show 1 < c.H.length by omega) h
    refine ⟨fun e1 => ?_, hlt⟩
    subst e1
    rcases hb with ⟨k, hk⟩ | hb
    · exact absurd (hc.inj 0 1 b' k k' (by omega) (by omega) hk h) (by decide)
    · omega
  generalize hc' : (⟨w', c.ok, upd c.ρ 0 (some (bN, kN)), [.row e z (els.take i ++ new :: els.drop i), .arr e z 1]⟩ : Cx) = c'
  have hw : c'.w = w' := by rw [← hc']
  have hk' : c'.ok = c.ok := by rw [← hc']
  have hρ0 : c'.ρ 0 = some (bN, kN) := by rw [← hc']; simp [upd]
  have hρ1 : ∀ j, j ≠ 0 → c'.ρ j = c.ρ j := fun j hj => by rw [← hc']; exact upd_ne hj
  have hH' : c'.H = [.row e z (els.take i ++ new :: els.drop i), .arr e z 1] := by rw [← hc']
  have hlen' : (els.take i ++ new :: els.drop i).length = n + 1 := by simp; omega
  have hf : Fr c c' := by
    refine ⟨fun _ _ h => by rw [hk']; exact h, fun b' o h => ?_, by rw [hw]; exact hsz, fun _ _ h => .inl (by rw [hk'] at h; exact h), fun b' hlt hno => ?_, fun b' hb' => ?_, fun j o hj => ?_, by rw [hw]; exact hos, by rw [hw]; exact htp, by rw [hw]; exact hou, by rw [hw]; exact hdr⟩
    · have hne : b' ≠ bN := fun e => hnok o (e ▸ h)
      simp only [World.cell?, hw]
      rw [hoth b' (hc.okLt _ _ h) hne]
    · rw [hw]
      refine hoth b' hlt fun e1 => ?_
      subst e1
      rcases hb with ⟨k, hk⟩ | hb
      · exact hno ⟨0, k, by omega, hk⟩
      · omega
    · obtain ⟨j, k', hj, hr⟩ := hb'
      have hj : j < 2 := by rw [hH'] at hj; simpa using hj
      by_cases e0 : j = 0
      · subst e0
        rw [hρ0] at hr; cases hr
        rcases hb with ⟨k, hk⟩ | hb
        · exact .inl ⟨0, k, by omega, hk⟩
        · exact .inr hb
      · rw [hρ1 j e0] at hr
        exact .inl ⟨j, k', by omega, hr⟩
    · rw [hH] at hj
      match j, hj with
      | 0, hj =>
        simp only [List.getElem?_cons_zero, Option.some.injEq] at hj
        subst hj
        exact ⟨.row e z (els.take i ++ new :: els.drop i), by rw [hH']; rfl, rfl, rfl, by omega, fun h => by omega⟩
      | 1, hj =>
        simp only [List.getElem?_cons_succ, List.getElem?_cons_zero, Option.some.injEq] at hj
        subst hj
        exact ⟨.arr e z 1, by rw [hH']; rfl, rfl, rfl, Nat.le_refl _, fun _ => hρ1 1 (by omega)⟩
      | j + 2, hj => simp at hj
  refine ⟨_, _, c', rfl, hw, ⟨rfl, hH'⟩, ?_, ?_, hf⟩
  · refine ⟨fun j1 j2 b' k1 k2 q1 q2 q3 q4 => ?_, fun b' o h => ?_, fun j o hj => ?_⟩
    · rw [hH'] at q1 q2
      simp only [List.length_cons, List.length_nil] at q1 q2
      by_cases e1 : j1 = 0 <;> by_cases e2 : j2 = 0
      · omega
      · have : j2 = 1 := by omega
        subst e1 this
        rw [hρ0] at q3; cases q3
        rw [hρ1 1 (by omega)] at q4
        exact absurd rfl (h1ne _ _ q4).1
      · have : j1 = 1 := by omega
        subst e2 this
        rw [hρ0] at q4; cases q4
        rw [hρ1 1 (by omega)] at q3
        exact absurd rfl (h1ne _ _ q3).1
      · omega
    · rw [hk'] at h; rw [hw]; have := hc.okLt _ _ h; omega
    · rw [hH'] at hj
      match j, hj with
      | 0, hj =>
        simp only [List.getElem?_cons_zero, Option.some.injEq] at hj
        subst hj
        refine ⟨fun h => (by rw [hρ0] at h; cases h), fun b' k' h => ?_⟩
        rw [hρ0] at h; cases h
        refine ⟨vs1, by rw [hw]; exact h1, h2, by omega, h4, fun o ho => hnok o (by rw [hk'] at ho; exact ho), fun l el hl => ?_⟩
        rw [List.getElem?_append] at hl
        have hti : (els.take i).length = i := by rw [List.length_take]; omega
        rw [hti] at hl
        by_cases e1 : l < i
        · rw [if_pos e1, List.getElem?_take, if_pos e1] at hl
          obtain ⟨q1, q2⟩ := hold l el hl
          refine ⟨q1, fun j x hx => ?_⟩
          obtain ⟨v, r1, r2, r3⟩ := q2 j x hx
          rw [if_pos e1] at r1
          exact ⟨v, r1, r2, rep_fr hf r3⟩
        · rw [if_neg e1] at hl
          by_cases e2 : l = i
          · subst e2
            rw [Nat.sub_self, List.getElem?_cons_zero] at hl
            cases hl
            refine ⟨hnew.1, fun j x hx => ?_⟩
            obtain ⟨v, r1, r2, r3⟩ := hnew.2 j x hx
            exact ⟨v, r1, r2, rep_fr hf r3⟩
          · obtain ⟨m, rfl⟩ : ∃ m, l = m + 1 := ⟨l - 1, by omega⟩
            have e3 : m + 1 - i = (m - i) + 1 := by omega
            rw [e3, List.getElem?_cons_succ, List.getElem?_drop, show i + (m - i) = m by omega] at hl
            obtain ⟨q1, q2⟩ := hold m el hl
            refine ⟨q1, fun j x hx => ?_⟩
            obtain ⟨v, r1, r2, r3⟩ := q2 j x hx
            rw [if_neg (by omega)] at r1
            exact ⟨v, r1, r2, rep_fr hf r3⟩
      | 1, hj =>
        simp only [List.getElem?_cons_succ, List.getElem?_cons_zero, Option.some.injEq] at hj
        subst hj
        obtain ⟨a1, a2⟩ := hc.obj 1 _ hH1
        refine ⟨fun h => a1 (by rw [← hρ1 1 (by omega)]; exact h), fun b' k' h => ?_⟩
        rw [hρ1 1 (by omega)] at h
        obtain ⟨ne, hlt⟩ := h1ne _ _ h
        obtain ⟨vs, r1, r2, r3, r4, r5⟩ := a2 b' k' h
        exact ⟨vs, by rw [hw, hoth b' hlt ne]; exact r1, r2, r3, r4, fun o ho => by rw [hk']; exact r5 o ho⟩
      | j + 2, hj => simp at hj
  · refine ⟨by rw [hH']; simp, ⟨_, _, rfl, hmax, .inr ⟨_, _, rfl⟩⟩, fun e' sz' els' hh => ?_⟩
    rw [hH'] at hh
    simp only [List.getElem?_cons_zero, Option.some.injEq, Ob.row.injEq] at hh
    obtain ⟨rfl, rfl, rfl⟩ := hh
    exact ⟨rfl, by omega, fun _ => by rw [hρ0]; rfl⟩
end Go.Dw
end
section
namespace Go.Dw
open Go.Proofs Go.Sort Go.Lib
theorem ins_go {c : Cx} (hc : Conc c) {els : List (List V)} {new : List V} {e i n : Nat} (hH : c.H = [.row e 4 els, .arr e 4 1]) (hn : els.length = n) (hi : i ≤ n) {w' : World} {bN kN : Nat} {vs0 vs1 : Array Value} {us cs : List Value}
    (hb : (∃ k, c.ρ 0 = some (bN, k)) ∨ c.w.heap.size ≤ bN) (hmax : n + 1 ≤ maxEls) (h1 : w'.heap[bN]? = some (.cells vs1 e (0, 0))) (h2 : vs1.size = kN * 4) (h3 : n + 1 ≤ kN) (h4 : kN ≤ capMax)
    (hrow : rowOk c 4 els vs0) (hcs : ∀ j, j < n * 4 → cs[j]? = vs0[j]?) (hus : new.length = 4 ∧ ∀ (j : Nat) (x : V), new[j]? = some x → ∃ v, us[j]? = some v ∧ oneC v = true ∧ rep c x v)
    (hcell : ∀ j, j < (n + 1) * 4 → vs1[j]? = if j < i * 4 then cs[j]? else if j < i * 4 + 4 then us[j - i * 4]? else cs[j - 4]?)
    (hoth : ∀ b', b' < c.w.heap.size → b' ≠ bN → w'.heap[b']? = c.w.heap[b']?) (hsz : c.w.heap.size ≤ w'.heap.size) (hos : w'.os = c.w.os) (htp : w'.tape = c.w.tape) (hou : w'.output = c.w.output) (hdr : c.w.drawn ≤ w'.drawn := by first | exact Nat.le_refl _ | exact Nat.le_succ _ | (simp only [drawn_setCells]; first | exact Nat.le_refl _ | exact Nat.le_succ _) | (subst_vars; simp only [World.drew, World.alloc, drawn_setCells]; omega)) :
    ∃ v x c', Ending.returned (.slice (some ⟨bN, 0, none⟩) (n + 1) kN) = .returned v ∧ c'.w = w' ∧ (x = .rw 0 4 (n + 1) ∧ c'.H = [.row e 4 (els.take i ++ new :: els.drop i), .arr e 4 1]) ∧ Conc c' ∧ rep c' x v ∧ Fr c c' := by
  refine ins_fin hc hH hn hi hb hmax h1 h2 h3 h4 (fun l el hl => ?_) ⟨hus.1, fun j x hx => ?_⟩ hoth hsz hos htp hou hdr (us := us)
  · obtain ⟨q1, q2⟩ := hrow l el hl
    refine ⟨q1, fun j x hx => ?_⟩
    obtain ⟨v, r1, r2, r3⟩ := q2 j x hx
    have hj : j < 4 := by rw [← q1]; exact (List.getElem?_eq_some_iff.1 hx).1
    have hln : l < n := by rw [← hn]; exact (List.getElem?_eq_some_iff.1 hl).1
    refine ⟨v, ?_, r2, r3⟩
    by_cases e1 : l < i
    · rw [if_pos e1, hcell _ (by omega), if_pos (by omega), hcs _ (by omega)]; exact r1
    · rw [if_neg e1, hcell _ (by omega), if_neg (by omega), if_neg (by omega), hcs _ (by omega), show (l + 1) * 4 + j - 4 = l * 4 + j by omega]; exact r1
  · obtain ⟨v, r1, r2, r3⟩ := hus.2 j x hx
    have hj : j < 4 := by rw [← hus.1]; exact (List.getElem?_eq_some_iff.1 hx).1
    refine ⟨v, ?_, r2, r3⟩
    rw [hcell _ (by omega), if_neg (by omega), if_pos (by omega), show i * 4 + j - i * 4 = j by omega]; exact r1
end Go.Dw
end
section
namespace Go.Dw
theorem rens_cBs {σ : Nat → Option Nat} {s : List ABind} : (s.map cB).map (rens σ) = s.map cB := by rw [List.map_map]; rfl
attribute [push_cast] rens_cBs
end Go.Dw
end
section
namespace Go.Dw
def bindT (s : List ABind) (v : Str) (t : Term) : List ABind := s.take (lbd v s) ++ ⟨v, t⟩ :: s.drop (lbd v s)
theorem bindT_len (s : List ABind) (v : Str) (t : Term) : (bindT s v t).length = s.length + 1 := by
  have := lbd_le v s
  unfold bindT; simp; omega
end Go.Dw
end
section
namespace Go.Dw
theorem bindT_sorted {s : List ABind} {v : Str} {t : Term} (hs : Sorted s) (hn : image s v = none) : Sorted (bindT s v t) := by
  have hle := lbd_le v s
  have h1 : ∀ b ∈ s.take (lbd v s), b.name < v := fun b hb => by
    obtain ⟨j, hj, rfl⟩ := List.getElem_of_mem hb
    have hjl : j < lbd v s := by rw [List.length_take] at hj; omega
    have := lbd_lt hjl
    simpa [List.getD_eq_getElem?_getD, show j < s.length by omega] using this
  have h2 : ∀ b ∈ s.drop (lbd v s), v < b.name := fun b hb => by
    obtain ⟨j, hj, rfl⟩ := List.getElem_of_mem hb
    have hjl : lbd v s + j < s.length := by rw [List.length_drop] at hj; omega
    have h3 := lbd_ge hs (Nat.le_add_right (lbd v s) j) hjl
    have he : (s.drop (lbd v s))[j] = s.getD (lbd v s + j) default := by simp [List.getD_eq_getElem?_getD, hjl]
    rw [he]
    have hne : (s.getD (lbd v s + j) default).name ≠ v := fun e => by
      have hi := image_lbd (v := v) hs
      rw [hn] at hi
      split at hi
      · cases hi
      · rename_i hc
        refine hc ⟨by omega, ?_⟩
        rcases Nat.eq_zero_or_pos j with h0 | h0
        · subst h0; exact e
        · have h5 : (s.getD (lbd v s) default).name < (s.getD (lbd v s + j) default).name := by
            have := List.pairwise_iff_getElem.1 hs (lbd v s) (lbd v s + j) (by omega) hjl (by omega)
            simpa [List.getD_eq_getElem?_getD, hjl, show lbd v s < s.length by omega] using this
          rw [e] at h5
          exact absurd h5 (lbd_ge hs (Nat.le_refl _) (by omega))
    rcases Classical.em (v < (s.getD (lbd v s + j) default).name) with h | h
    · exact h
    · exact absurd (slt_eq h3 h) hne
  unfold bindT
  refine List.pairwise_append.2 ⟨List.Pairwise.sublist (List.take_sublist _ _) hs, List.pairwise_cons.2 ⟨h2, List.Pairwise.sublist (List.drop_sublist _ _) hs⟩, fun a ha b hb => ?_⟩
  rcases List.mem_cons.1 hb with rfl | hb
  · exact h1 a ha
  · exact slt_trans (h1 a ha) (h2 b hb)
theorem bindT_mem {s : List ABind} {v : Str} {t : Term} {b : ABind} (h : b ∈ bindT s v t) : b ∈ s ∨ b = ⟨v, t⟩ := by
  unfold bindT at h
  rcases List.mem_append.1 h with h | h
  · exact .inl (List.mem_of_mem_take h)
  · rcases List.mem_cons.1 h with h | h
    · exact .inr h
    · exact .inl (List.mem_of_mem_drop h)
end Go.Dw
end
section
namespace Go.Dw
mutual
def matchT (s : List ABind) : Term → Term → List ABind × Bool
  | .mk n v l, t => if v then (match image s n with | some x => (s, decide (x = t)) | none => (bindT s n t, true)) else
    if t.var ∨ n ≠ t.name ∨ l.length ≠ t.args.length then (s, false) else matchTs s l t.args
def matchTs (s : List ABind) : List Term → List Term → List ABind × Bool
  | [], _ => (s, true)
  | _ :: _, [] => (s, false)
  | a :: l, b :: m => if (matchT s a b).2 then matchTs (matchT s a b).1 l m else ((matchT s a b).1, false)
end
theorem matchT_eq (s : List ABind) (p t : Term) : matchT s p t = if p.var then (match image s p.name with | some x => (s, decide (x = t)) | none => (bindT s p.name t, true)) else
    if t.var ∨ p.name ≠ t.name ∨ p.args.length ≠ t.args.length then (s, false) else matchTs s p.args t.args := by
  cases p with | mk n v l => simp only [matchT, Term.var, Term.name, Term.args]; rfl
structure MOk (M : Nat) (s : List ABind) (n : Nat) (s' : List ABind) : Prop where
  sorted : Sorted s'
  small : ∀ b ∈ s', size b.term < M
  len : s'.length ≤ s.length + n
theorem matchT_ok {M : Nat} (p : Term) : ∀ (s : List ABind) (t : Term), Sorted s → (∀ b ∈ s, size b.term < M) → size t < M → MOk M s (size p) (matchT s p t).1 := by
  induction p using term_ind with
  | h p ih =>
  intro s t hs hb ht
  have hst := size_args t
  have hsp := size_args p
  rw [matchT_eq]
  cases hv : p.var with
  | true =>
    rw [if_pos rfl]
    cases hx : image s p.name with
    | some x => exact ⟨hs, hb, Nat.le_add_right _ _⟩
    | none =>
      refine ⟨bindT_sorted hs hx, fun b h => ?_, by rw [bindT_len]; omega⟩
      rcases bindT_mem h with h | rfl
      · exact hb b h
      · exact ht
  | false =>
    rw [if_neg (by simp)]
    by_cases hc : t.var ∨ p.name ≠ t.name ∨ p.args.length ≠ t.args.length
    · rw [if_pos hc]; exact ⟨hs, hb, Nat.le_add_right _ _⟩
    · rw [if_neg hc]
      have key : ∀ (l m : List Term) (s : List ABind), (∀ a ∈ l, a ∈ p.args) → (∀ a ∈ m, size a < M) → Sorted s → (∀ b ∈ s, size b.term < M) → MOk M s (sizes l) (matchTs s l m).1 := by
        intro l
        induction l with
        | nil => intro m s _ _ h1 h2; exact ⟨h1, h2, Nat.le_add_right _ _⟩
        | cons a l ihl =>
          intro m s hl hm h1 h2
          cases m with
          | nil => exact ⟨h1, h2, Nat.le_add_right _ _⟩
          | cons b m =>
            have h3 := ih a (hl a (by simp)) s b h1 h2 (hm b (by simp))
            simp only [matchTs]
            split
            · have h4 := ihl m _ (fun x hx => hl x (by simp [hx])) (fun x hx => hm x (by simp [hx])) h3.sorted h3.small
              exact ⟨h4.sorted, h4.small, by have := h4.len; have := h3.len; simp only [sizes]; omega⟩
            · exact ⟨h3.sorted, h3.small, by have := h3.len; simp only [sizes]; omega⟩
      have h5 := key p.args t.args s (fun _ h => h) (fun a ha => by have := size_mem ha; omega) hs hb
      exact ⟨h5.sorted, h5.small, by have := h5.len; omega⟩
end Go.Dw
end
section
namespace Go.Dw
def findE (r : List ARule) (t : Term) (s : AStep) : List ABind × Int :=
  if s.rule < 0 ∨ (r.length : Int) ≤ s.rule then ([], 8) else match subT t s.pos with
    | none => ([], 8)
    | some x => if (matchT [] (r.getD s.rule.toNat default).left x).2 then ((matchT [] (r.getD s.rule.toNat default).left x).1, 0) else ([], 9)
theorem subT_size : ∀ (p : List Int) (t x : Term), subT t p = some x → size x ≤ size t
  | [], t, x, h => by cases h; exact Nat.le_refl _
  | i :: p, t, x, h => by
    simp only [subT] at h
    split at h
    · rename_i hc
      have h1 := subT_size p _ x h
      have h2 := size_mem (getD_mem (l := t.args) (k := i.toNat) (by omega))
      have h3 := size_args t
      omega
    · cases h
end Go.Dw
end
section
namespace Go.Dw
theorem bbs_append (a b : List ABind) : bbs (a ++ b) = bbs a + bbs b := by
  induction a with
  | nil => simp [bbs]
  | cons x xs ih => simp only [List.cons_append, bbs, ih]; omega
theorem bindT_bbs (s : List ABind) (v : Str) (t : Term) : bbs (bindT s v t) = bbs s + (1 + v.length + tb t) := by
  unfold bindT
  have : bbs s = bbs (s.take (lbd v s)) + bbs (s.drop (lbd v s)) := by rw [← bbs_append, List.take_append_drop]
  rw [bbs_append, this]; simp only [bbs]; omega
theorem matchT_bbs (p : Term) : ∀ (s : List ABind) (t : Term), bbs (matchT s p t).1 ≤ bbs s + tb p + tb t := by
  induction p using term_ind with
  | h p ih =>
  intro s t
  have h1 := tb_args p
  have h2 := tb_args t
  rw [matchT_eq]
  cases hv : p.var with
  | true =>
    rw [if_pos rfl]
    cases hx : image s p.name with
    | some x => exact Nat.le_trans (Nat.le_add_right _ _) (Nat.le_add_right _ _)
    | none => show bbs (bindT s p.name t) ≤ _; rw [bindT_bbs]; omega
  | false =>
    rw [if_neg (by simp)]
    by_cases hc : t.var ∨ p.name ≠ t.name ∨ p.args.length ≠ t.args.length
    · rw [if_pos hc]; exact Nat.le_trans (Nat.le_add_right _ _) (Nat.le_add_right _ _)
    · rw [if_neg hc]
      have key : ∀ (l m : List Term) (s : List ABind), (∀ a ∈ l, a ∈ p.args) → bbs (matchTs s l m).1 ≤ bbs s + tbs l + tbs m := by
        intro l
        induction l with
        | nil => intro m s _; exact Nat.le_trans (Nat.le_add_right _ _) (Nat.le_add_right _ _)
        | cons a l ihl =>
          intro m s hl
          cases m with
          | nil => exact Nat.le_trans (Nat.le_add_right _ _) (Nat.le_add_right _ _)
          | cons b m =>
            have h3 := ih a (hl a (by simp)) s b
            have e1 : tbs (a :: l) = tb a + tbs l := rfl
            have e2 : tbs (b :: m) = tb b + tbs m := rfl
            simp only [matchTs]
            split
            · have h4 := ihl m (matchT s a b).1 (fun x hx => hl x (by simp [hx]))
              omega
            · show bbs (matchT s a b).1 ≤ _; omega
      have h5 := key p.args t.args s (fun _ h => h)
      omega
end Go.Dw
end
section
namespace Go.Dw
def doE (r : List ARule) (t : Term) (s : AStep) : Option Term × Int :=
  if (findE r t s).2 ≠ 0 then (none, (findE r t s).2) else
    if fits (inst (findE r t s).1 (r.getD s.rule.toNat default).right) then
      (if fits (setT t s.pos (inst (findE r t s).1 (r.getD s.rule.toNat default).right)) then (some (setT t s.pos (inst (findE r t s).1 (r.getD s.rule.toNat default).right)), 0) else (none, 3))
    else (none, 3)
theorem findE_ok {r : List ARule} {t : Term} {s : AStep} (h : (findE r t s).2 = 0) : 0 ≤ s.rule ∧ s.rule.toNat < r.length ∧ Sorted (findE r t s).1 ∧ ∃ x, subT t s.pos = some x ∧ bbs (findE r t s).1 ≤ tb (r.getD s.rule.toNat default).left + tb x := by
  unfold findE at h ⊢
  split at h
  · simp at h
  · rename_i hc
    rw [if_neg hc]
    cases hx : subT t s.pos with
    | none => rw [hx] at h; simp at h
    | some x =>
      rw [hx] at h
      simp only at h ⊢
      split at h
      · rename_i hm
        rw [if_pos hm]
        have h1 := matchT_ok (M := size x + 1) (r.getD s.rule.toNat default).left [] x List.Pairwise.nil (by simp) (by omega)
        have h2 := matchT_bbs (r.getD s.rule.toNat default).left [] x
        refine ⟨by omega, by omega, h1.sorted, x, rfl, ?_⟩
        simp only [bbs] at h2
        show bbs (matchT [] (r.getD s.rule.toNat default).left x).1 ≤ _
        omega
      · simp at h
theorem subT_tb : ∀ (p : List Int) (t x : Term), subT t p = some x → tb x ≤ tb t
  | [], t, x, h => by cases h; exact Nat.le_refl _
  | i :: p, t, x, h => by
    simp only [subT] at h
    split at h
    · rename_i hc
      have h1 := subT_tb p _ x h
      have h2 := tb_mem (getD_mem (l := t.args) (k := i.toNat) (by omega))
      have h3 := tb_args t
      omega
    · cases h
end Go.Dw
end
section
namespace Go.Dw
mutual
def short : Term → Bool
  | .mk n v l => decide (n.length ≤ 24) && ((!v || l.isEmpty) && shorts l)
def shorts : List Term → Bool
  | [] => true
  | a :: l => short a && shorts l
end
theorem shorts_iff {l : List Term} : shorts l = true ↔ ∀ a ∈ l, short a = true := by
  induction l with
  | nil => simp [shorts]
  | cons a l ih => simp [shorts, ih]
theorem short_iff {t : Term} : short t = true ↔ t.name.length ≤ 24 ∧ (t.var = true → t.args = []) ∧ ∀ a ∈ t.args, short a = true := by
  cases t with | mk n v l => cases v <;> simp [short, shorts_iff, Term.name, Term.var, Term.args]
theorem formed_short (t : Term) : formed t = true → short t = true := by
  induction t using term_ind with
  | h t ih =>
  intro h
  rw [formed_eq] at h
  rw [short_iff]
  split at h
  · simp only [Bool.and_eq_true, decide_eq_true_eq, isName] at h
    refine ⟨h.2.1, fun _ => List.length_eq_zero_iff.1 h.1, fun a ha => ?_⟩
    rw [List.length_eq_zero_iff.1 h.1] at ha; cases ha
  · rename_i hv
    simp only [Bool.and_eq_true, decide_eq_true_eq, isName, List.all_eq_true] at h
    exact ⟨h.2.1.1, fun hv2 => absurd hv2 hv, fun a ha => ih a ha (h.2.2 a ha)⟩
mutual
theorem tb_short : ∀ t, short t = true → tb t ≤ 25 * size t
  | .mk n v l, h => by
    simp only [short, Bool.and_eq_true, decide_eq_true_eq] at h
    have := tbs_short l h.2.2
    simp only [tb, size]
    simp only [tbs] at this
    omega
theorem tbs_short : ∀ l, shorts l = true → tbs l ≤ 25 * sizes l
  | [], _ => by simp [tbs, tb.tbs, sizes]
  | a :: l, h => by
    simp only [shorts, Bool.and_eq_true] at h
    have h1 := tb_short a h.1
    have h2 := tbs_short l h.2
    simp only [tbs, tb.tbs, sizes] at h2 ⊢
    omega
end
theorem subT_short : ∀ (p : List Int) (t x : Term), subT t p = some x → short t = true → short x = true
  | [], t, x, h, ht => by cases h; exact ht
  | i :: p, t, x, h, ht => by
    simp only [subT] at h
    split at h
    · rename_i hi
      exact subT_short p _ x h ((short_iff.1 ht).2.2 _ (getD_mem (by omega)))
    · cases h
theorem inst_short {s : List ABind} (hs : ∀ b ∈ s, short b.term = true) (t : Term) : short t = true → short (inst s t) = true := by
  induction t using term_ind with
  | h t ih =>
  intro ht
  rw [inst_eq]
  have h := short_iff.1 ht
  split
  · cases hx : image s t.name with
    | none => exact short_iff.2 ⟨h.1, fun _ => rfl, fun a ha => by simp [Term.args] at ha⟩
    | some x =>
      obtain ⟨b, hb, _, rfl⟩ := image_mem hx
      exact hs b hb
  · refine short_iff.2 ⟨h.1, fun hv => by simp [Term.var] at hv, fun a ha => ?_⟩
    simp only [Term.args, List.mem_map] at ha
    obtain ⟨y, hy, rfl⟩ := ha
    exact ih y hy (h.2.2 y hy)
theorem matchT_short (p : Term) : ∀ (s : List ABind) (t : Term), (∀ b ∈ s, short b.term = true) → short t = true → ∀ b ∈ (matchT s p t).1, short b.term = true := by
  induction p using term_ind with
  | h p ih =>
  intro s t hb ht
  rw [matchT_eq]
  cases hv : p.var with
  | true =>
    rw [if_pos rfl]
    cases hx : image s p.name with
    | some x => exact hb
    | none =>
      intro b h
      rcases bindT_mem h with h | rfl
      · exact hb b h
      · exact ht
  | false =>
    rw [if_neg (by simp)]
    by_cases hc : t.var ∨ p.name ≠ t.name ∨ p.args.length ≠ t.args.length
    · rw [if_pos hc]; exact hb
    · rw [if_neg hc]
      have key : ∀ (l m : List Term) (s : List ABind), (∀ a ∈ l, a ∈ p.args) → (∀ a ∈ m, short a = true) → (∀ b ∈ s, short b.term = true) → ∀ b ∈ (matchTs s l m).1, short b.term = true := by
        intro l
        induction l with
        | nil => intro m s _ _ h2; exact h2
        | cons a l ihl =>
          intro m s hl hm h2
          cases m with
          | nil => exact h2
          | cons b m =>
            have h3 := ih a (hl a (by simp)) s b h2 (hm b (by simp))
            simp only [matchTs]
            split
            · exact ihl m _ (fun x hx => hl x (by simp [hx])) (fun x hx => hm x (by simp [hx])) h3
            · exact h3
      exact key p.args t.args s (fun _ h => h) (short_iff.1 ht).2.2 hb
theorem setT_short : ∀ (p : List Int) (t x : Term), short t = true → short x = true → short (setT t p x) = true
  | [], t, x, _, hx => hx
  | i :: p, t, x, ht, hx => by
    have h := short_iff.1 ht
    refine short_iff.2 ⟨h.1, fun hv => ?_, fun a ha => ?_⟩
    · have h0 : t.args = [] := h.2.1 hv
      rw [setT_args, h0, if_neg (by simp)]
    rw [setT_args] at ha
    split at ha
    · rename_i hi
      rcases List.mem_or_eq_of_mem_set ha with ha | rfl
      · exact h.2.2 a ha
      · exact setT_short p _ x (h.2.2 _ (getD_mem (by omega))) hx
    · exact h.2.2 a ha
theorem sizes_set {l : List Term} {k : Nat} {x : Term} (hk : k < l.length) : sizes (l.set k x) + size (l.getD k default) = sizes l + size x := by
  induction l generalizing k with
  | nil => simp at hk
  | cons a l ih =>
    cases k with
    | zero => simp [sizes]; omega
    | succ k =>
      have := ih (k := k) (by simpa using hk)
      simp only [List.set_cons_succ, sizes, List.getD_cons_succ]
      omega
theorem setT_size : ∀ (p : List Int) (t x : Term), size (setT t p x) ≤ size t + size x
  | [], t, x => by simp only [setT]; omega
  | i :: p, t, x => by
    have h1 := size_args t
    have h2 := size_args (setT t (i :: p) x)
    rw [h2, setT_args]
    split
    · rename_i hi
      have hk : i.toNat < t.args.length := by omega
      have h3 := sizes_set (x := setT (t.args.getD i.toNat default) p x) hk
      have h4 := setT_size p (t.args.getD i.toNat default) x
      omega
    · omega
theorem fits_size {t : Term} (h : fits t = true) : size t ≤ 4000 := by
  simp only [fits, Bool.and_eq_true, decide_eq_true_eq] at h; exact h.1
def good (t : Term) : Prop := short t = true ∧ size t ≤ 4000
theorem good_tb {t : Term} (h : good t) : tb t < 2 ^ 28 := by have := tb_short t h.1; have := h.2; omega
theorem check_good {t : Term} (h : check t = 0) : good t := by
  unfold check at h
  split at h
  · rename_i h1
    split at h
    · rename_i h2; exact ⟨formed_short t h1, fits_size h2⟩
    · omega
  · omega
theorem doE_good {r : List ARule} {t u : Term} {s : AStep} {e : Int} (hr : ∀ x ∈ r, short x.right = true) (ht : short t = true) (h : doE r t s = (some u, e)) : good u ∧ e = 0 := by
  unfold doE at h
  split at h
  · cases h
  · rename_i h1
    have h1 : (findE r t s).2 = 0 := by simpa using h1
    obtain ⟨k1, k2, _, _⟩ := findE_ok h1
    split at h
    · split at h
      · rename_i hf
        simp only [Prod.mk.injEq, Option.some.injEq] at h
        obtain ⟨rfl, rfl⟩ := h
        refine ⟨⟨setT_short _ _ _ ht (inst_short ?_ _ (hr _ (getD_mem k2))), fits_size hf⟩, rfl⟩
        intro b hb
        unfold findE at hb
        split at hb
        · cases hb
        · split at hb
          · cases hb
          · rename_i x hx
            split at hb
            · exact matchT_short _ _ _ (by simp) (subT_short _ _ _ hx ht) b hb
            · cases hb
      · cases h
    · cases h
def addE (pre : List Term) (x : List Term × Int) : List Term × Int := if x.2 = 0 then (pre ++ x.1, 0) else ([], x.2)
theorem addE_addE (a b : List Term) (x : List Term × Int) : addE a (addE b x) = addE (a ++ b) x := by
  unfold addE
  by_cases h : x.2 = 0
  · simp [h]
  · simp [h]
def runE (r : List ARule) (t : Term) : List AStep → List Term × Int
  | [] => ([], 0)
  | s :: l => match doE r t s with
    | (some u, _) => addE [u] (runE r u l)
    | (none, e) => ([], e)
theorem runE_none {r : List ARule} {t : Term} {s : AStep} {l : List AStep} {e : Int} (h : doE r t s = (none, e)) : runE r t (s :: l) = ([], e) := by simp only [runE]; rw [h]
theorem runE_some {r : List ARule} {t u : Term} {s : AStep} {l : List AStep} {e : Int} (h : doE r t s = (some u, e)) : runE r t (s :: l) = addE [u] (runE r u l) := by simp only [runE]; rw [h]
def chainE (r : List ARule) (c : AChain) : List Term × Int :=
  if 4096 < c.steps.length then ([], 3) else if check c.start ≠ 0 then ([], check c.start) else addE [c.start] (runE r c.start c.steps)
def termsE (r : List ARule) (c : AChain) : List Term × Int := if checkSystem r ≠ 0 then ([], checkSystem r) else chainE r c
end Go.Dw
end
section
namespace Go.Dw
def cPp (p : List Int) : List V := [encP p]
theorem cPp_0 (p : List Int) : (cPp p)[0]? = some (encP p) := rfl
theorem cPp_len (p : List Int) : (cPp p).length = 1 := rfl
attribute [push_cast] cPp_0 cPp_len
theorem doE_none {r : List ARule} {t : Term} {s : AStep} {e : Int} (h : doE r t s = (none, e)) : e ≠ 0 := by
  unfold doE at h
  split at h
  · rename_i h1; cases h; exact h1
  · split at h
    · split at h
      · cases h
      · cases h; decide
    · cases h; decide
end Go.Dw
end
section
namespace Go.Dw
mutual
theorem visit_name : ∀ (t : Term) (p : List Int), ∀ x ∈ visit t p, x.2.name.length < tb t
  | .mk n v l, p, x, hx => by
    rw [visit_eq] at hx
    simp only [tb]
    rcases List.mem_cons.1 hx with rfl | hx
    · simp only [Term.name]; omega
    · have := visits_name l p 0 x hx; simp only [tbs] at this; omega
theorem visits_name : ∀ (l : List Term) (p : List Int) (i : Nat), ∀ x ∈ visits l p i, x.2.name.length < tbs l
  | [], p, i, x, hx => by simp [visits] at hx
  | a :: l, p, i, x, hx => by
    simp only [visits, List.mem_append] at hx
    simp only [tbs, tb.tbs]
    rcases hx with hx | hx
    · have := visit_name a _ x hx; omega
    · have := visits_name l _ _ x hx; simp only [tbs] at this; omega
end
theorem arAll_name {M : Nat} : ∀ (l : List (List Int × Term)) {m m' : Ars}, arAll m l = some m' → (∀ x ∈ l, x.2.name.length < M) → (∀ p ∈ m, p.1.length < M) → ∀ p ∈ m', p.1.length < M
  | [], m, m', h, _, hm => by cases h; exact hm
  | x :: l, m, m', h, hl, hm => by
    simp only [arAll] at h
    cases hs : arStep m x.2 with
    | none => rw [hs] at h; cases h
    | some m1 =>
      rw [hs, Option.bind_some] at h
      refine arAll_name l h (fun y hy => hl y (by simp [hy])) ?_
      unfold arStep at hs
      split at hs
      · cases hs; exact hm
      · split at hs
        · split at hs
          · cases hs; exact hm
          · cases hs
        · cases hs
          intro p hp
          rcases List.mem_append.1 hp with hp | hp
          · exact hm p hp
          · simp only [List.mem_singleton] at hp; subst hp; exact hl x (by simp)
theorem arRules_name {M : Nat} : ∀ (r : List ARule) {m m' : Ars}, arRules m r = some m' → rbs r ≤ M → (∀ p ∈ m, p.1.length < M) → ∀ p ∈ m', p.1.length < M
  | [], m, m', h, _, hm => by cases h; exact hm
  | x :: r, m, m', h, hM, hm => by
    simp only [arRules] at h
    simp only [rbs] at hM
    cases ha : arAll m (visit x.left []) with
    | none => rw [ha] at h; cases h
    | some m1 =>
      rw [ha, Option.bind_some] at h
      cases hb : arAll m1 (visit x.right []) with
      | none => rw [hb] at h; cases h
      | some m2 =>
        rw [hb, Option.bind_some] at h
        exact arRules_name r h (by omega) (arAll_name _ hb (fun y hy => by have := visit_name _ _ y hy; omega) (arAll_name _ ha (fun y hy => by have := visit_name _ _ y hy; omega) hm))
theorem term_CheckSystem_t (r : List ARule) (hs : rbs r < 2 ^ 38) : PF n_term_CheckSystem [encRs r] (.int .i64 (checkSystem r)) :=
  term_CheckSystem_s r hs fun m hm p hp => by have := arRules_name r hm (Nat.le_refl _) (by simp) p hp; omega
theorem checkPairs_ok : ∀ {r : List ARule}, checkPairs r = 0 → ∀ x ∈ r, check x.left = 0 ∧ check x.right = 0
  | [], _, x, hx => by cases hx
  | y :: r, h, x, hx => by
    simp only [checkPairs] at h
    split at h
    · omega
    · rename_i h1
      rcases List.mem_cons.1 hx with rfl | hx
      · simp only [checks, ne_eq, Classical.not_not] at h1
        split at h1
        · omega
        · rename_i h2
          split at h1
          · omega
          · rename_i h3
            exact ⟨by simpa using h2, by simpa using h3⟩
      · exact checkPairs_ok h x hx
theorem checkSystem_good {r : List ARule} (h : checkSystem r = 0) : ∀ x ∈ r, good x.left ∧ good x.right := by
  have h1 : checkRules r = 0 := by
    unfold checkSystem at h
    split at h
    · rename_i h1; exact absurd h h1
    · rename_i h1; simpa using h1
  unfold checkRules at h1
  split at h1
  · omega
  · intro x hx
    have := checkPairs_ok h1 x hx
    exact ⟨check_good this.1, check_good this.2⟩
end Go.Dw
end
section
namespace Go.Dw
open Go.Proofs.YtokdinonifchaaaGreat
abbrev okW (W : World) : Nat → Nat → Prop := fun b _ => b < W.heap.size
def Cells (W : World) (xs : List V) (cs : List Value) : Prop := prepL W (okW W) xs cs ∧ ∀ u ∈ cs, oneC u = true
theorem prepL_app {w : World} {ok : Nat → Nat → Prop} : ∀ {xs ys : List V} {cs ds : List Value}, prepL w ok xs cs → prepL w ok ys ds → prepL w ok (xs ++ ys) (cs ++ ds)
  | [], ys, cs, ds, h1, h2 => by
    have h1 : cs = [] := h1
    subst h1; exact h2
  | x :: xs, ys, cs, ds, ⟨v, vs, e, h1, h2⟩, h3 => by
    subst e
    exact ⟨v, vs ++ ds, rfl, h1, prepL_app h2 h3⟩
theorem prepL_get {w : World} {ok : Nat → Nat → Prop} : ∀ {xs : List V} {cs : List Value} {i : Nat} {x : V}, prepL w ok xs cs → xs[i]? = some x → ∃ v, cs[i]? = some v ∧ prep w ok x v
  | [], _, i, x, _, h => by simp at h
  | y :: xs, cs, i, x, ⟨v, vs, e, h1, h2⟩, h => by
    subst e
    cases i with
    | zero => simp only [List.getElem?_cons_zero, Option.some.injEq] at h; subst h; exact ⟨v, rfl, h1⟩
    | succ i => simp only [List.getElem?_cons_succ] at h ⊢; exact prepL_get h2 h
theorem Cells.app {W : World} {xs ys : List V} {cs ds : List Value} (h1 : Cells W xs cs) (h2 : Cells W ys ds) : Cells W (xs ++ ys) (cs ++ ds) :=
  ⟨prepL_app h1.1 h2.1, fun u hu => (List.mem_append.1 hu).elim (h1.2 u) (h2.2 u)⟩
theorem Cells.one {W : World} {x : V} {c : Value} (h : prep W (okW W) x c) (ho : oneC c = true) : Cells W [x] [c] := ⟨⟨c, [], rfl, h, rfl⟩, fun u hu => by simp only [List.mem_singleton] at hu; subst hu; exact ho⟩
section
variable {H : Type} {enc : TypeId × Value → H} {W : World}
noncomputable abbrev trd (enc : TypeId × Value → H) (W : World) := DataW.trod enc prog W 0 (fun _ => true) true
def Br {α : Type} (enc : TypeId × Value → H) (W : World) (n : Nat) (t : TypeId) (c : α → List V) (b : α → Nat) : Prop := ∀ cs x, trd enc W n t cs = some x → Rows.uptoBulk x.1 ≤ 1048576 → ∃ a, b a ≤ Rows.uptoBulk x.1 ∧ Cells W (c a) cs
theorem br_str {n : Nat} : Br enc W n t_string (fun s : Str => [.str s]) (fun s => s.length + 1) := by
  intro cs x h _
  obtain ⟨s, rfl, rfl, _⟩ := DataW.trod_string (P := prog) Go.Proofs.Tryz.underlying9 h
  refine ⟨s.data.toList, by simp [Rows.uptoBulk], Cells.one ?_ rfl⟩
  show Value.string s = .string ⟨⟨s.data.toList⟩⟩
  cases s with | mk d => cases d; rfl
theorem br_bool {n : Nat} : Br enc W n t_bool (fun s : Bool => [.bool s]) (fun _ => 1) := by
  intro cs x h _
  obtain ⟨s, rfl, rfl⟩ := DataW.trod_bool (P := prog) Go.Proofs.Tryz.underlying4 h
  exact ⟨s, by simp [Rows.uptoBulk], Cells.one rfl rfl⟩
theorem br_int {n : Nat} : Br enc W n t_int (fun s : Int => cI s) (fun _ => 1) := by
  intro cs x h _
  obtain ⟨s, rfl, rfl, _⟩ := DataW.trod_int (P := prog) Go.Proofs.Tryz.underlying3 h
  exact ⟨s, by simp [Rows.uptoBulk], Cells.one rfl rfl⟩
theorem cell_spot {w : World} {a : Addr} {v : Value} (h : w.cell? a = some v) : a.spot = none ∧ a.block < w.heap.size := by
  unfold World.cell? at h
  split at h
  · rename_i hb
    split at h
    · cases h
    · rename_i hs
      exact ⟨by cases hq : a.spot <;> simp_all, (Array.getElem?_eq_some_iff.1 hb).1⟩
  · cases h
theorem addr_add {a : Addr} (h : a.spot = none) (n : Nat) : a.add n = ⟨a.block, a.off + n, none⟩ := by
  unfold Addr.add
  split
  · rename_i h0; subst h0; cases a; simp_all
  · rfl
def sumB {α : Type} (b : α → Nat) : List α → Nat
  | [] => 0
  | x :: l => b x + sumB b l
theorem one_le (d : DataW H) : 1 ≤ Rows.uptoBulk d := by
  cases d with
  | lit l => cases l <;> simp [Rows.uptoBulk]
  | _ => simp [Rows.uptoBulk]
theorem bulk_len (l : List (DataW H)) : l.length ≤ Rows.uptoBulkAll l := by
  induction l with
  | nil => simp [Rows.uptoBulkAll]
  | cons x r ih => have := one_le x; simp only [Rows.uptoBulkAll, List.length_cons]; omega
theorem bulk_part {d : DataW H} {l : List (DataW H)} (h : d ∈ l) : Rows.uptoBulk d ≤ Rows.uptoBulkAll l := by
  induction l with
  | nil => cases h
  | cons x r ih =>
    simp only [Rows.uptoBulkAll]
    rcases List.mem_cons.1 h with e | e
    · subst e; omega
    · have := ih e; omega
theorem sumB_le {α : Type} {b : α → Nat} : ∀ {l : List α} {es : List (DataW H × List MemPlace)}, l.length = es.length → (∀ (i : Nat) (a : α) (e : DataW H × List MemPlace), l[i]? = some a → es[i]? = some e → b a ≤ Rows.uptoBulk e.1) → sumB b l ≤ Rows.uptoBulkAll (es.map (·.1))
  | [], [], _, _ => by simp [sumB]
  | [], _ :: _, h, _ => by simp at h
  | _ :: _, [], h, _ => by simp at h
  | a :: l, e :: es, h, hb => by
    have h1 := hb 0 a e rfl rfl
    have h2 := sumB_le (l := l) (es := es) (by simpa using h) fun i a' e' h1 h2 => hb (i + 1) a' e' (by simpa using h1) (by simpa using h2)
    simp only [sumB, List.map_cons, Rows.uptoBulkAll]; omega
theorem br_slice {α : Type} {n : Nat} {ts t : TypeId} {sz : Nat} {c : α → List V} {b : α → Nat} (hts : prog.underlying ts = some (.slice t)) (hsz : prog.cellsOf t = sz) (hpos : 0 < sz) (hc : ∀ a, (c a).length = sz)
    (h : ∀ m, m + 1 = n → Br enc W m t c b) : Br enc W n ts (fun l : List α => [encL c sz l]) (fun l => sumB b l + 1) := by
  intro cs x hx hbk
  rcases DataW.trod_slice (P := prog) hts hx with ⟨rfl, rfl⟩ | ⟨a, len, cap, elems, rest, m, rfl, rfl, rfl, _, hle, hcap, hlen, hel, _, _⟩
  · exact ⟨[], by simp [sumB, Rows.uptoBulk], Cells.one ⟨none, 0, 0, 0, rfl, Nat.le_refl _, by unfold capMax; omega, by unfold maxEls; simp, .inl rfl, trivial⟩ rfl⟩
  · have hbr := h m rfl
    have hba : Rows.uptoBulkAll (elems.map (·.1)) ≤ 1048576 := by simp only [Rows.uptoBulk] at hbk; omega
    have hln := bulk_len (elems.map (·.1))
    rw [List.length_map] at hln
    rw [hsz] at hel
    have step : ∀ i, i < len → ∃ y : α, (∀ e, elems[i]? = some e → b y ≤ Rows.uptoBulk e.1) ∧ ∃ ecs, W.cells? 0 (a.add (i * sz)) sz = some ecs ∧ Cells W (c y) ecs := by
      intro i hi
      have h1 := hel i hi
      have hil : i < elems.length := by omega
      rw [List.getElem?_eq_getElem hil] at h1
      simp only [Option.bind_eq_some_iff] at h1
      obtain ⟨ecs, h2, h3⟩ := h1
      obtain ⟨y, hy1, hy2⟩ := hbr ecs _ h3 (Nat.le_trans (bulk_part (List.mem_map.2 ⟨_, List.getElem_mem hil, rfl⟩)) hba)
      refine ⟨y, fun e he => ?_, ecs, h2, hy2⟩
      rw [List.getElem?_eq_getElem hil] at he
      cases he; exact hy1
    obtain ⟨f, hf⟩ : ∃ f : Nat → Option α, ∀ i, i < len → ∃ y, f i = some y ∧ (∀ e, elems[i]? = some e → b y ≤ Rows.uptoBulk e.1) ∧ ∃ ecs, W.cells? 0 (a.add (i * sz)) sz = some ecs ∧ Cells W (c y) ecs := by
      refine ⟨fun i => if h : i < len then some (Classical.choose (step i h)) else none, fun i hi => ?_⟩
      exact ⟨Classical.choose (step i hi), by simp [hi], Classical.choose_spec (step i hi)⟩
    have hl : ∀ k, k ≤ len → ∃ l : List α, l.length = k ∧ ∀ i, i < k → f i = l[i]? := by
      intro k
      induction k with
      | zero => intro _; exact ⟨[], rfl, fun i hi => by omega⟩
      | succ k ih =>
        intro hk
        obtain ⟨l, h1, h2⟩ := ih (by omega)
        obtain ⟨y, hy, _⟩ := hf k (by omega)
        refine ⟨l ++ [y], by simp [h1], fun i hi => ?_⟩
        rcases Nat.lt_succ_iff_lt_or_eq.1 hi with h3 | rfl
        · rw [List.getElem?_append_left (by omega)]; exact h2 i h3
        · rw [List.getElem?_append_right (by omega), h1]; simpa using hy
    obtain ⟨l, hl1, hl2⟩ := hl len (Nat.le_refl _)
    have hat : ∀ i y, l[i]? = some y → (∀ e, elems[i]? = some e → b y ≤ Rows.uptoBulk e.1) ∧ ∃ ecs, W.cells? 0 (a.add (i * sz)) sz = some ecs ∧ Cells W (c y) ecs := by
      intro i y hy
      have hi : i < len := by rw [← hl1]; exact (List.getElem?_eq_some_iff.1 hy).1
      obtain ⟨z, h1, h2⟩ := hf i hi
      rw [hl2 i hi, hy] at h1
      cases h1; exact h2
    refine ⟨l, ?_, Cells.one ?_ rfl⟩
    · have := sumB_le (b := b) (l := l) (es := elems) (by omega) fun i y e h1 h2 => (hat i y h1).1 e h2
      simp only [Rows.uptoBulk]; omega
    · have hspot : l ≠ [] → a.spot = none ∧ a.block < W.heap.size := by
        intro hne
        obtain ⟨y, hy⟩ : ∃ y, l[0]? = some y := by cases l with | nil => exact absurd rfl hne | cons y l => exact ⟨y, rfl⟩
        obtain ⟨_, ecs, h1, h2⟩ := hat 0 y hy
        obtain ⟨_, g1, g2⟩ := World.cells?_some h1
        have h3 := g2 0 hpos
        have hel : ecs.length = sz := g1
        obtain ⟨e0, he0⟩ : ∃ e0, ecs[0]? = some e0 := ⟨ecs[0]'(by omega), List.getElem?_eq_getElem (by omega)⟩
        rw [he0] at h3
        simpa [Addr.add] using cell_spot h3
      refine ⟨some a, cap, a.block, a.off, by simp [hl1], by simpa [hl1] using hle, by unfold capMax; unfold maxLen at hcap; omega, ?_, ?_, prepE_mk fun i e he => ?_⟩
      · rw [List.length_map]; unfold maxEls; omega
      · by_cases hne : l = []
        · left; simp [hne]
        · right
          have := (hspot hne).1
          cases a; simp_all
      · rw [List.getElem?_map] at he
        cases hy : l[i]? with
        | none => rw [hy] at he; cases he
        | some y =>
          rw [hy] at he
          simp only [Option.map_some, Option.some.injEq] at he
          subst he
          obtain ⟨_, ecs, h1, h2⟩ := hat i y hy
          obtain ⟨_, g1, g2⟩ := World.cells?_some h1
          obtain ⟨hsp, hbl⟩ := hspot (by intro e; rw [e] at hy; simp at hy)
          refine ⟨hc y, prepC_mk fun j x hx => ?_⟩
          obtain ⟨v, k1, k2⟩ := prepL_get h2.1 hx
          have hj : j < sz := by rw [← hc y]; exact (List.getElem?_eq_some_iff.1 hx).1
          have h3 := g2 j hj
          rw [k1, addr_add hsp, addr_add rfl] at h3
          refine ⟨v, ?_, hbl, h2.2 v (List.mem_of_getElem? k1), k2⟩
          rw [Nat.zero_add, ← Nat.add_assoc]
          exact h3
theorem split2 {α : Type} {cs : List α} {a b : Nat} (h : cs.length = a + b) : cs = (cs.drop 0).take a ++ (cs.drop a).take b := by
  rw [List.drop_zero, List.take_of_length_le (l := cs.drop a) (by simp; omega), List.take_append_drop]
theorem split3 {α : Type} {cs : List α} {a b c : Nat} (h : cs.length = a + b + c) : cs = (cs.drop 0).take a ++ ((cs.drop a).take b ++ (cs.drop (a + b)).take c) := by
  have h1 : cs.drop a = (cs.drop a).take b ++ (cs.drop (a + b)).take c := by
    rw [List.take_of_length_le (l := cs.drop (a + b)) (by simp; omega), ← List.drop_drop, List.take_append_drop]
  rw [← h1, List.drop_zero, List.take_append_drop]
theorem tbs_sumB (l : List Term) : sumB tb l = tbs l := by
  induction l with
  | nil => rfl
  | cons a l ih => simp only [sumB, tbs, tb.tbs, ih]
theorem sum_one : ∀ l : List Int, sumB (fun _ : Int => 1) l = l.length
  | [] => rfl
  | a :: l => by simp only [sumB, List.length_cons, sum_one l]; omega
theorem sum_rbs : ∀ l : List ARule, sumB (fun x : ARule => 1 + tb x.left + tb x.right) l = rbs l
  | [] => rfl
  | a :: l => by simp only [sumB, rbs, sum_rbs l]
theorem sum_mem {α : Type} {b : α → Nat} {l : List α} {a : α} (h : a ∈ l) : b a ≤ sumB b l := by
  induction l with
  | nil => cases h
  | cons x l ih =>
    simp only [sumB]
    rcases List.mem_cons.1 h with rfl | h
    · omega
    · have := ih h; omega
theorem sum_steps : ∀ l : List AStep, l.length ≤ sumB (fun s : AStep => s.pos.length + 1) l
  | [] => by simp [sumB]
  | a :: l => by have := sum_steps l; simp only [sumB, List.length_cons]; omega
theorem c9 : prog.cellsOf 9 = 1 := by kernel_rfl
theorem c4 : prog.cellsOf 4 = 1 := by kernel_rfl
theorem c3 : prog.cellsOf 3 = 1 := by kernel_rfl
theorem c23 : prog.cellsOf 23 = 1 := by kernel_rfl
theorem c26 : prog.cellsOf 26 = 1 := by kernel_rfl
theorem c29 : prog.cellsOf 29 = 1 := by kernel_rfl
theorem c25 : prog.cellsOf 25 = 1 + 1 + 1 := by kernel_rfl
theorem c122 : prog.cellsOf 122 = 3 + 3 := by kernel_rfl
theorem c82 : prog.cellsOf 82 = 1 + 1 := by kernel_rfl
theorem c28 : prog.cellsOf 28 = 3 + 1 := by kernel_rfl
theorem br_term : ∀ n, Br enc W n 25 cT tb
  | 0 => by intro cs x h; simp [DataW.trod] at h
  | n + 1 => by
    intro cs x h hbk
    obtain ⟨xs, m, hm, rfl, hl, hlen, hf⟩ := DataW.trod_struct (P := prog) Go.Proofs.Tryz.underlying25 h
    obtain rfl : n = m := by omega
    rw [c25] at hl
    match xs, hlen with
    | [x0, x1, x2], _ =>
    have f0 : trd enc W n 9 ((cs.drop 0).take (prog.cellsOf 9)) = some x0 := hf 0 _ rfl
    have f1 : trd enc W n 4 ((cs.drop 1).take (prog.cellsOf 4)) = some x1 := hf 1 _ rfl
    have f2 : trd enc W n 23 ((cs.drop 2).take (prog.cellsOf 23)) = some x2 := hf 2 _ rfl
    rw [c9] at f0; rw [c4] at f1; rw [c23] at f2
    simp only [List.map_cons, List.map_nil, Rows.uptoBulk, Rows.uptoBulkAll] at hbk ⊢
    obtain ⟨s, b0, d0⟩ := br_str _ _ f0 (by omega)
    obtain ⟨v, b1, d1⟩ := br_bool _ _ f1 (by omega)
    obtain ⟨l, b2, d2⟩ := br_slice (n := n) (sz := 3) (c := cT) (b := tb) Go.Proofs.Tryz.underlying23 c25 (by omega) (fun _ => rfl) (fun m hm => br_term m) _ _ f2 (by omega)
    try dsimp only at b0
    try dsimp only at b1
    try dsimp only at b2
    refine ⟨.mk s v l, ?_, ?_⟩
    · rw [tbs_sumB] at b2
      simp only [tb]
      simp only [tbs] at b2
      omega
    · rw [split3 hl, cT_eq]
      exact d0.app (d1.app d2)
theorem br_rule : ∀ n, Br enc W n 122 cR (fun x => 1 + tb x.left + tb x.right)
  | 0 => by intro cs x h; simp [DataW.trod] at h
  | n + 1 => by
    intro cs x h hbk
    obtain ⟨xs, m, hm, rfl, hl, hlen, hf⟩ := DataW.trod_struct (P := prog) Go.Proofs.Tryz.underlying122 h
    obtain rfl : n = m := by omega
    rw [c122] at hl
    match xs, hlen with
    | [x0, x1], _ =>
    have f0 : trd enc W n 25 ((cs.drop 0).take (prog.cellsOf 25)) = some x0 := hf 0 _ rfl
    have f1 : trd enc W n 25 ((cs.drop 3).take (prog.cellsOf 25)) = some x1 := hf 1 _ rfl
    rw [c25] at f0 f1
    simp only [List.map_cons, List.map_nil, Rows.uptoBulk, Rows.uptoBulkAll] at hbk ⊢
    obtain ⟨s, b0, d0⟩ := br_term n _ _ f0 (by omega)
    obtain ⟨v, b1, d1⟩ := br_term n _ _ f1 (by omega)
    try dsimp only at b0
    try dsimp only at b1
    refine ⟨⟨s, v⟩, by dsimp only; omega, ?_⟩
    rw [split2 hl]
    exact d0.app d1
theorem br_ints {n : Nat} : Br enc W n 29 (fun p : List Int => [encP p]) (fun p => p.length + 1) := by
  intro cs x h hbk
  obtain ⟨l, b0, d0⟩ := br_slice (n := n) (sz := 1) (c := cI) (b := fun _ => 1) Go.Proofs.Tryz.underlying29 c3 (by omega) (fun _ => rfl) (fun m hm => br_int) _ _ h hbk
  refine ⟨l, ?_, d0⟩
  have := sum_one l
  dsimp only at b0 ⊢
  omega
theorem br_step : ∀ n, Br enc W n 82 cSt (fun s => s.pos.length + 1)
  | 0 => by intro cs x h; simp [DataW.trod] at h
  | n + 1 => by
    intro cs x h hbk
    obtain ⟨xs, m, hm, rfl, hl, hlen, hf⟩ := DataW.trod_struct (P := prog) Go.Proofs.Tryz.underlying82 h
    obtain rfl : n = m := by omega
    rw [c82] at hl
    match xs, hlen with
    | [x0, x1], _ =>
    have f0 : trd enc W n 3 ((cs.drop 0).take (prog.cellsOf 3)) = some x0 := hf 0 _ rfl
    have f1 : trd enc W n 29 ((cs.drop 1).take (prog.cellsOf 29)) = some x1 := hf 1 _ rfl
    rw [c3] at f0; rw [c29] at f1
    simp only [List.map_cons, List.map_nil, Rows.uptoBulk, Rows.uptoBulkAll] at hbk ⊢
    obtain ⟨s, b0, d0⟩ := br_int _ _ f0 (by omega)
    obtain ⟨v, b1, d1⟩ := br_ints _ _ f1 (by omega)
    try dsimp only at b0
    try dsimp only at b1
    refine ⟨⟨s, v⟩, by dsimp only; omega, ?_⟩
    rw [split2 hl]
    exact d0.app d1
theorem br_chain : ∀ n, Br enc W n 28 cC (fun c => tb c.start + sumB (fun s : AStep => s.pos.length + 1) c.steps)
  | 0 => by intro cs x h; simp [DataW.trod] at h
  | n + 1 => by
    intro cs x h hbk
    obtain ⟨xs, m, hm, rfl, hl, hlen, hf⟩ := DataW.trod_struct (P := prog) Go.Proofs.Tryz.underlying28 h
    obtain rfl : n = m := by omega
    rw [c28] at hl
    match xs, hlen with
    | [x0, x1], _ =>
    have f0 : trd enc W n 25 ((cs.drop 0).take (prog.cellsOf 25)) = some x0 := hf 0 _ rfl
    have f1 : trd enc W n 26 ((cs.drop 3).take (prog.cellsOf 26)) = some x1 := hf 1 _ rfl
    rw [c25] at f0; rw [c26] at f1
    simp only [List.map_cons, List.map_nil, Rows.uptoBulk, Rows.uptoBulkAll] at hbk ⊢
    obtain ⟨s, b0, d0⟩ := br_term n _ _ f0 (by omega)
    obtain ⟨l, b1, d1⟩ := br_slice (n := n) (sz := 2) (c := cSt) (b := fun s : AStep => s.pos.length + 1) Go.Proofs.Tryz.underlying26 c82 (by omega) (fun _ => rfl) (fun m hm => br_step m) _ _ f1 (by omega)
    try dsimp only at b0
    try dsimp only at b1
    refine ⟨⟨s, l⟩, by dsimp only; omega, ?_⟩
    rw [split2 hl]
    exact d0.app d1
theorem br_rules {n : Nat} : Br enc W n 22 (fun r : List ARule => [encRs r]) (fun r => rbs r) := by
  intro cs x h hbk
  obtain ⟨l, b0, d0⟩ := br_slice (n := n) (sz := 6) (c := cR) (b := fun x => 1 + tb x.left + tb x.right) Go.Proofs.Tryz.underlying22 c122 (by omega) (fun _ => rfl) (fun m hm => br_rule m) _ _ h hbk
  refine ⟨l, ?_, d0⟩
  have : sumB (fun x : ARule => 1 + tb x.left + tb x.right) l = rbs l := sum_rbs l
  dsimp only at b0 ⊢
  omega
end
end Go.Dw
end
section
namespace Go.Dw
open Go.ChangeShapes Go.WideShapes Go.ChangeAt Go.RowKit Go.Proofs
theorem post_same {H : Type} {enc : TypeId × Value → H} {P : Program} {f : Func} {s : ChangeSpec} {apart fresh handsOn again : Bool} {W W' : World} {args : Array Value} {v : Value} {ds gs : List (DataW H)} {before pa pv : List MemPlace}
    (hW : DataW.Whole enc P f.params.toList s.vars apart W args.toList ds gs before)
    (hres : ∀ (b : Nat) (sp : Nat → Bool) (hd : Bool), DataW.TrodAll enc P W' b sp hd f.resultTypes.toList (v.resultList f.resultTypes.size) (s.fn H (ds ++ gs)).results [])
    (hargs : ∀ sp : Nat → Bool, (∀ p ∈ before, sp p.block = true) → DataW.TrodAll enc P W' 0 sp true f.params.toList args.toList (s.fn H (ds ++ gs)).args pa)
    (hvars : ∀ sp : Nat → Bool, (∀ p ∈ before, sp p.block = true) → DataW.TrodVars enc P W' sp s.vars (s.fn H (ds ++ gs)).vars pv)
    (hps : before = pa ++ pv) (hk : W.keptBut W' (· ∈ before)) (hfz : ∀ a : Addr, a.block < W.heap.size → W'.frozen? a = W.frozen? a)
    (hok : ∀ (j : Nat) (t : TypeId) (r : Value), f.resultTypes[j]? = some t → (v.resultList f.resultTypes.size)[j]? = some r → Value.okWide P W' .any 0 t r) :
    s.post enc P f apart fresh handsOn again W args v W' := by
  have hold : ∀ p ∈ before, (fun b => decide (b < W.heap.size)) p.block = true := fun p hp => by simpa using hW.lt p hp
  have hlt := hW.lt
  refine ⟨ds, gs, before, [], pa, pv, hW, hres _ _ _, hargs _ hold, hvars _ hold, World.keptBut_mono (fun p hp => ⟨hp, ?_⟩) hk, fun _ => ?_⟩
  · rw [hps, List.mem_append] at hp
    exact Or.inr hp
  · obtain ⟨_, _, _, _, _, hz, hn⟩ := hW
    refine ⟨hok, _, _, ([] ++ pa) ++ pv, ⟨[] ++ pa, pv, trodAll_append (hargs _ (fun _ _ => rfl)) (hres _ _ _), hvars _ (fun _ _ => rfl), rfl, ?_, ?_⟩, ?_⟩
    · intro b off hp
      have hp' : MemPlace.cell b off ∈ before := by rw [hps]; simpa using hp
      rw [hfz _ (hlt _ hp')]
      exact hz b off hp'
    · intro ha
      have := hn ha
      rw [hps] at this
      simpa using this
    · intro p hp _
      rw [hps]
      simpa using hp
theorem trodAll_old {H : Type} {enc : TypeId × Value → H} {P : Program} {W W' : World} (hh : ∀ b, b < W.heap.size → W'.heap[b]? = W.heap[b]?) {base : Nat} {sp : Nat → Bool} {held : Bool} :
    ∀ {ts : List TypeId} {vs : List Value} {ds : List (DataW H)} {ps : List MemPlace}, DataW.TrodAll enc P W base sp held ts vs ds ps → DataW.TrodAll enc P W' base sp held ts vs ds ps
  | [], [], [], _, h => h
  | [], [], _ :: _, _, h => h.elim
  | [], _ :: _, _, _, h => h.elim
  | _ :: _, [], _, _, h => h.elim
  | _ :: _, _ :: _, [], _, h => h.elim
  | t :: ts, v :: vs, d :: ds, ps, ⟨p, q, ⟨n, h1⟩, h2, e⟩ => by
    refine ⟨p, q, ⟨n, DataW.trod_carry n _ _ _ h1 fun x hx => ?_⟩, trodAll_old hh h2, e⟩
    have hl := DataW.trod_lt n _ _ _ h1 x hx
    cases x with
    | cell b o => exact World.cell?_of_block (w := W) (hh b hl)
    | map b => exact hh b hl
end Go.Dw
end
section
namespace Go.Dw
theorem r01_Letters_s (s : Str) (h1 : s.length < 2 ^ 62) : PF n_r01_Letters [.str s] (.bool (s.all letter)) := by
  refine pf_of r01_Letters.ok rfl ?_
  push_cast
  refine loop_up (n := s.length) (R := fun k => (s.drop k).all letter = s.all letter → r01_Letters.L3 (.str s) (.int .i64 s.length) (.int .i64 k) 0 [] _) ?_ ?_ 0 (by omega) rfl
  · intro k hk ih hq
    rw [drop_getD hk] at hq
    simp only [List.all_cons] at hq
    refine r01_Letters.G3 ?_
    have hb : btV s k = ((s.getD k default).toNat : Int) := rfl
    push_cast [ilt hk, hb]
    refine .of (r01_letter_s _) ?_
    push_cast [w64 (show k < 2 ^ 62 by omega)]
    refine ⟨fun h => pf_ret ?_, fun h => ih ?_⟩
    · push_cast [r01_Letters.rs]
      rw [← hq]; simp_all
    · rw [← hq]; simp_all
  · intro hq
    refine r01_Letters.G3 ?_
    push_cast [inlt (Nat.le_refl _)]
    refine pf_ret ?_
    push_cast [r01_Letters.rs]
    rw [← hq, drop_map_none]; rfl
theorem hasSuf_last {s : Str} (h : s ≠ []) : hasSuf s [35] = decide (btV s (s.length - 1) = 35) := by
  have hl : 0 < s.length := List.length_pos_iff.2 h
  have e : s.drop (s.length - 1) = [s.getD (s.length - 1) default] := by
    rw [drop_getD (show s.length - 1 < s.length by omega), show s.length - 1 + 1 = s.length by omega, drop_map_none]
  have e2 : btV s (s.length - 1) = ((s.getD (s.length - 1) default).toNat : Int) := rfl
  unfold hasSuf
  rw [e2]
  simp only [List.length_singleton]
  rw [decide_eq_true (show 1 ≤ s.length by omega), Bool.true_and, decide_eq_decide, e]
  generalize s.getD (s.length - 1) default = c
  constructor
  · intro h; simp only [List.cons.injEq, and_true] at h; rw [h]; rfl
  · intro h; simp only [List.cons.injEq, and_true]; exact UInt8.toNat_inj.1 (show c.toNat = 35 by omega)
theorem r01_Marked_s (s : Str) (h1 : s.length < 2 ^ 62) : PF n_r01_Marked [.str s] (.bool (hasSuf s [35])) := by
  refine pf_of r01_Marked.ok rfl ?_
  by_cases h : s = []
  · subst h
    push_cast
    refine pf_ret ?_
    push_cast [r01_Marked.rs]
    rfl
  · have hl : 0 < s.length := List.length_pos_iff.2 h
    have hlt : (((s.length - 1 : Nat) : Int) < (s.length : Int)) = True := eq_true (by omega)
    push_cast [h, sub1 h1 hl, hlt]
    refine pf_ret ?_
    push_cast [r01_Marked.rs, hasSuf_last h]
theorem r01_IsName_s (s : Str) (m : Bool) (h1 : s.length < 2 ^ 62) : PF n_r01_IsName [.str s, .bool m] (.bool (isName s m)) := by
  refine pf_of r01_IsName.ok rfl ?_
  push_cast
  refine ⟨fun h => pf_ret ?_, fun h => ?_⟩
  · push_cast [r01_IsName.rs, isName]
    rw [show decide (s.length ≤ 24) = false from decide_eq_false (by omega)]; rfl
  · have hlen : s.length ≤ 24 := by omega
    have hu : isName s m = (!decide (nameOf s m = []) && (nameOf s m).all letter) := by simp [isName, hlen]
    rw [hu]
    have hnl := nameOf_len s m
    have hL := r01_Letters_s (nameOf s m) (by omega)
    have fin2 : ∀ u : Str, u = nameOf s m → PF n_r01_Letters [.str u] (.bool ((nameOf s m).all letter)) := fun u hu => hu ▸ hL
    cases m with
    | false =>
      have hn : s = nameOf s false := rfl
      push_cast
      rw [← hn]
      by_cases h0 : s = []
      · push_cast [h0]
        exact pf_ret (by push_cast [r01_IsName.rs])
      · push_cast [h0]
        refine .of (fin2 s hn) ?_
        push_cast
        exact pf_ret (by push_cast [r01_IsName.rs]; rw [← hn])
    | true =>
      push_cast
      refine .of (r01_Marked_s s h1) ?_
      cases hm : hasSuf s [35] with
      | false =>
        have hn : s = nameOf s true := by simp [nameOf, trimSuf, hm]
        push_cast
        rw [← hn]
        by_cases h0 : s = []
        · push_cast [h0]
          exact pf_ret (by push_cast [r01_IsName.rs])
        · push_cast [h0]
          refine .of (fin2 s hn) ?_
          push_cast
          exact pf_ret (by push_cast [r01_IsName.rs]; rw [← hn])
      | true =>
        have hn : (s.drop 0).take (s.length - 1 - 0) = nameOf s true := by simp [nameOf, trimSuf, hm]
        have hl : 0 < s.length := by
          unfold hasSuf at hm; simp only [Bool.and_eq_true, decide_eq_true_eq, List.length_singleton] at hm; omega
        have hle : s.length - 1 ≤ s.length := by omega
        by_cases h0 : nameOf s true = []
        · push_cast [sub1 h1 hl, hn, hle, h0]
          refine ⟨by omega, ?_⟩
          exact pf_ret (by push_cast [r01_IsName.rs, h0])
        · push_cast [sub1 h1 hl, hn, hle, h0]
          refine ⟨by omega, .of hL ?_⟩
          push_cast
          exact pf_ret (by push_cast [r01_IsName.rs, h0])
end Go.Dw
end
section
namespace Go.Dw
theorem r01_Size_s (t : Term) (hs : size t < 2 ^ 62) : PF n_r01_Size [encT t] (.int .i64 (size t)) := by
  induction t using term_ind with
  | h t ih =>
  refine pf_of r01_Size.ok rfl ?_
  have hst := size_args t
  have hl := length_le_sizes t.args
  push_cast
  refine loop_up (n := t.args.length) (R := fun k => r01_Size.L3 (.int .i64 ((1 + sizes (t.args.take k) : Nat) : Int)) (encTs t.args) (.int .i64 t.args.length) (.int .i64 k) 0 [] _) ?_ ?_ 0 (by omega)
  · intro k hk ih2
    have h1 := sizes_take_succ _ _ hk
    have h2 := sizes_take_le t.args (k+1)
    have hm := getD_mem hk
    refine r01_Size.G3 ?_
    push_cast [ilt hk]
    refine .of (ih _ hm (by omega)) ?_
    push_cast [w64 (show k < 2 ^ 62 by omega)]
    rw [wrap64 (by omega) (by omega)]
    rw [h1] at ih2
    simpa [Int.add_assoc] using ih2
  · refine r01_Size.G3 ?_
    push_cast [inlt (Nat.le_refl _)]
    refine pf_ret ?_
    push_cast [r01_Size.rs, List.take_length, hst]
theorem r01_Depth_s (t : Term) (hs : size t < 2 ^ 62) : PF n_r01_Depth [encT t] (.int .i64 (depth t)) := by
  induction t using term_ind with
  | h t ih =>
  refine pf_of r01_Depth.ok rfl ?_
  have hst := size_args t
  have hl := length_le_sizes t.args
  have hd := depths_le_sizes t.args
  push_cast
  refine loop_up (n := t.args.length) (R := fun k => r01_Depth.L3 (.int .i64 (depths (t.args.take k) : Nat)) (encTs t.args) (.int .i64 t.args.length) (.int .i64 k) 0 [] _) ?_ ?_ 0 (by omega)
  · intro k hk ih2
    have h1 := depths_take_succ _ _ hk
    have hm := getD_mem hk
    have := size_mem hm
    refine r01_Depth.G3 ?_
    push_cast [ilt hk]
    refine .of (ih _ hm (by omega)) ?_
    push_cast [w64 (show k < 2 ^ 62 by omega)]
    rw [h1] at ih2
    exact ih2
  · refine r01_Depth.G3 ?_
    push_cast [inlt (Nat.le_refl _)]
    rw [wrap64 (by have := depths_take_le t.args t.args.length; omega) (by have := depths_take_le t.args t.args.length; omega)]
    refine pf_ret ?_
    push_cast [r01_Depth.rs, List.take_length, depth_args t]
theorem r01_Formed_s (t : Term) (hs : tb t < 2 ^ 62) : PF n_r01_Formed [encT t] (.bool (formed t)) := by
  induction t using term_ind with
  | h t ih =>
  have htb := tb_args t
  have hl := length_le_tbs t.args
  have hI : ∀ m, PF n_r01_IsName [.str t.name, .bool m] (.bool (isName t.name m)) := fun m => r01_IsName_s _ m (by omega)
  refine pf_of r01_Formed.ok rfl ?_
  cases hv : t.var with
  | true =>
    push_cast [hv]
    refine .of (hI false) ?_
    cases hn : isName t.name false
    · push_cast
      exact pf_ret (by push_cast [r01_Formed.rs, formed_eq t, hv, hn])
    · push_cast
      exact pf_ret (by push_cast [r01_Formed.rs, formed_eq t, hv, hn]; simp)
  | false =>
    push_cast [hv]
    refine .of (hI true) ?_
    have hf : formed t = (decide (t.args.length ≤ 8) && (isName t.name true && t.args.all formed)) := by rw [formed_eq, hv]; rfl
    rw [hf]
    cases hn : isName t.name true
    · push_cast
      exact pf_ret (by push_cast [r01_Formed.rs])
    · by_cases h0 : t.args.length ≤ 8
      · have hi : ((8 : Int) < (t.args.length : Int)) = False := eq_false (by omega)
        push_cast [hi, h0]
        refine loop_up (n := t.args.length) (R := fun k => (t.args.drop k).all formed = t.args.all formed → r01_Formed.L3 (encTs t.args) (.int .i64 t.args.length) (.int .i64 k) 0 [] _) ?_ ?_ 0 (by omega) rfl
        · intro k hk ih2 hq
          rw [drop_getD hk] at hq
          simp only [List.all_cons] at hq
          have hm := getD_mem hk
          refine r01_Formed.G3 ?_
          push_cast [ilt hk]
          refine .of (ih _ hm (by have := tb_mem hm; omega)) ?_
          push_cast [w64 (show k < 2 ^ 62 by omega)]
          refine ⟨fun h => pf_ret ?_, fun h => ih2 ?_⟩
          · push_cast [r01_Formed.rs]
            rw [← hq]; simp_all
          · rw [← hq]; simp_all
        · intro hq
          refine r01_Formed.G3 ?_
          push_cast [inlt (Nat.le_refl _)]
          refine pf_ret ?_
          push_cast [r01_Formed.rs]
          rw [← hq, drop_map_none]; rfl
      · have hi : ((8 : Int) < (t.args.length : Int)) = True := eq_true (by omega)
        push_cast [hi, h0]
        exact pf_ret (by push_cast [r01_Formed.rs])
theorem r01_Check_s (t : Term) (hs : tb t < 2 ^ 62) : PF n_r01_Check [encT t] (.int .i64 (check t)) := by
  have hst := size_le_tb t
  refine pf_of r01_Check.ok rfl ?_
  push_cast
  refine .of (r01_Formed_s t hs) ?_
  cases hf : formed t
  · push_cast
    exact pf_ret (by push_cast [r01_Check.rs, check, hf])
  · push_cast
    refine .of (r01_Size_s t (by omega)) ?_
    by_cases h : size t ≤ 4000
    · have hi : ((4000 : Int) < (size t : Int)) = False := eq_false (by omega)
      push_cast [hi]
      refine .of (r01_Depth_s t (by omega)) ?_
      by_cases hd : depth t ≤ 200
      · have hi2 : ((200 : Int) < (depth t : Int)) = False := eq_false (by omega)
        push_cast [hi2]
        exact pf_ret (by push_cast [r01_Check.rs, check, hf, fits, h, hd])
      · have hi2 : ((200 : Int) < (depth t : Int)) = True := eq_true (by omega)
        push_cast [hi2]
        exact pf_ret (by push_cast [r01_Check.rs, check, hf, fits, h, hd])
    · have hi : ((4000 : Int) < (size t : Int)) = True := eq_true (by omega)
      push_cast [hi]
      exact pf_ret (by push_cast [r01_Check.rs, check, hf, fits, h])
theorem r01_CheckAll_s (l : List Term) (hl : l.length < 2 ^ 62) (hs : ∀ t ∈ l, tb t < 2 ^ 62) : PF n_r01_CheckAll [encTs l] (.int .i64 (checks l)) := by
  refine pf_of r01_CheckAll.ok rfl ?_
  push_cast
  refine loop_up (n := l.length) (R := fun k => checks (l.drop k) = checks l → r01_CheckAll.L3 (encTs l) (.int .i64 l.length) (.int .i64 k) 0 [] _) ?_ ?_ 0 (by omega) rfl
  · intro k hk ih hq
    rw [drop_getD hk] at hq
    simp only [checks] at hq
    refine r01_CheckAll.G3 ?_
    push_cast [ilt hk]
    refine .of (r01_Check_s _ (hs _ (getD_mem hk))) ?_
    push_cast [w64 (show k < 2 ^ 62 by omega)]
    refine ⟨fun h => pf_ret ?_, fun h => ih ?_⟩
    · push_cast [r01_CheckAll.rs]
      rw [← hq, if_pos (by simpa using h)]
    · rw [← hq, if_neg (by simpa using h)]
  · intro hq
    refine r01_CheckAll.G3 ?_
    push_cast [inlt (Nat.le_refl _)]
    refine pf_ret ?_
    push_cast [r01_CheckAll.rs]
    rw [← hq, drop_map_none]; rfl
def cmpI (a b : Int) : Int := if a < b then -1 else if b < a then 1 else 0
theorem r01_CompareInts_s (a b : Int) : PF n_r01_CompareInts [.int .i64 a, .int .i64 b] (.int .i64 (cmpI a b)) := by
  refine pf_of r01_CompareInts.ok rfl ?_
  push_cast
  refine ⟨fun h => pf_ret ?_, fun h => ⟨fun h2 => pf_ret ?_, fun h2 => pf_ret ?_⟩⟩ <;> push_cast [r01_CompareInts.rs, cmpI, h]
  · simp_all
  · simp_all
def cmpB : Str → Str → Int
  | [], [] => 0
  | [], _ :: _ => -1
  | _ :: _, [] => 1
  | a :: s, b :: u => if a = b then cmpB s u else cmpI a.toNat b.toNat
theorem cmpB_eq : ∀ a b : Str, cmpB a b = cmpS a b := by
  intro a b
  rw [cmpS_eq]
  induction a generalizing b with
  | nil => cases b <;> simp [cmpB]
  | cons x a ih =>
    cases b with
    | nil => simp [cmpB]
    | cons y b =>
      simp only [cmpB, List.cons_lt_cons_iff]
      by_cases h : x = y
      · subst h
        rw [if_pos rfl, ih]
        have : ¬ x < x := UInt8.lt_irrefl x
        simp [this]
      · rw [if_neg h]
        have h' : ¬ y = x := fun e => h e.symm
        simp only [h, h', false_and, or_false, cmpI, UInt8.lt_iff_toNat_lt]
        norm_cast
theorem r01_CompareNames_s (a b : Str) (ha : a.length < 2 ^ 62) (hb : b.length < 2 ^ 62) : PF n_r01_CompareNames [.str a, .str b] (.int .i64 (cmpS a b)) := by
  rw [← cmpB_eq]
  refine pf_of r01_CompareNames.ok rfl ?_
  have hmn : (if (b.length : Int) < (a.length : Int) then (b.length : Int) else (a.length : Int)) = ((min a.length b.length : Nat) : Int) := by split <;> omega
  push_cast [hmn]
  refine loop_up (n := min a.length b.length) (R := fun k => cmpB (a.drop k) (b.drop k) = cmpB a b → r01_CompareNames.L3 (.str a) (.str b) (.int .i64 (min a.length b.length : Nat)) (.int .i64 k) 0 [] _) ?_ ?_ 0 (by omega) rfl
  · intro k hk ih hq
    have hka : k < a.length := by omega
    have hkb : k < b.length := by omega
    rw [drop_getD hka, drop_getD hkb] at hq
    simp only [cmpB] at hq
    have h1 : btV a k = ((a.getD k default).toNat : Int) := rfl
    have h2 : btV b k = ((b.getD k default).toNat : Int) := rfl
    have hr : ∀ c : UInt8, IntKind.i64.wrap (c.toNat : Int) = c.toNat := fun c => wrap64 (by omega) (by have := UInt8.toNat_lt c; omega)
    refine r01_CompareNames.G3 ?_
    push_cast [ilt hk, ilt hka, ilt hkb, h1, h2, hr, w64 (show k < 2 ^ 62 by omega)]
    refine ⟨fun h => .of (r01_CompareInts_s _ _) ?_, fun h => ih ?_⟩
    · push_cast
      refine pf_ret ?_
      push_cast [r01_CompareNames.rs]
      rw [← hq, if_neg]
      intro e; rw [e] at h; exact h rfl
    · rw [← hq, if_pos]
      exact UInt8.toNat_inj.1 (Int.ofNat.inj (by simpa using h))
  · intro hq
    refine r01_CompareNames.G3 ?_
    push_cast [inlt (Nat.le_refl _)]
    refine .of (r01_CompareInts_s _ _) ?_
    push_cast
    refine pf_ret ?_
    push_cast [r01_CompareNames.rs]
    rw [← hq]
    rcases Nat.lt_or_ge a.length b.length with h | h
    · rw [Nat.min_eq_left (by omega), drop_map_none, drop_getD h]
      simp [cmpB, cmpI]; omega
    · rw [Nat.min_eq_right (by omega), drop_map_none]
      rcases Nat.lt_or_ge b.length a.length with h2 | h2
      · rw [drop_getD h2]
        simp [cmpB, cmpI]; omega
      · rw [show b.length = a.length by omega, drop_map_none]
        simp [cmpB, cmpI]
end Go.Dw
end
section
namespace Go.Dw
mutual
def count (v : Str) : Term → Nat
  | .mk n b l => (if b && decide (n = v) then 1 else 0) + counts v l
def counts (v : Str) : List Term → Nat
  | [] => 0
  | a :: l => count v a + counts v l
end
theorem count_eq (v : Str) (t : Term) : count v t = (if t.var && decide (t.name = v) then 1 else 0) + counts v t.args := by cases t; rfl
theorem counts_append (v : Str) (a b : List Term) : counts v (a ++ b) = counts v a + counts v b := by
  induction a with
  | nil => simp [counts]
  | cons x xs ih => simp [counts, ih]; omega
theorem counts_take_succ (v : Str) (l : List Term) (k : Nat) (h : k < l.length) : counts v (l.take (k+1)) = counts v (l.take k) + count v (l.getD k default) := by
  rw [take_succ_getD h, counts_append]; simp [counts]
theorem counts_take_le (v : Str) (l : List Term) (k : Nat) : counts v (l.take k) ≤ counts v l := by
  conv => rhs; rw [← List.take_append_drop k l]
  rw [counts_append]; omega
mutual
theorem count_le (v : Str) : ∀ t, count v t ≤ size t
  | .mk n b l => by simp only [count, size]; have := counts_le v l; split <;> omega
theorem counts_le (v : Str) : ∀ l, counts v l ≤ sizes l
  | [] => by simp [counts, sizes]
  | a :: l => by simp only [counts, sizes]; have := count_le v a; have := counts_le v l; omega
end
theorem r01_Count_s (t : Term) (v : Str) (hs : size t < 2 ^ 62) : PF n_r01_Count [encT t, .str v] (.int .i64 (count v t)) := by
  induction t using term_ind with
  | h t ih =>
  have hst := size_args t
  have hl := length_le_sizes t.args
  have hce := count_eq v t
  have hcl := counts_le v t.args
  have fin : ∀ c : Nat, c ≤ 1 → count v t = c + counts v t.args → r01_Count.L3 (.str v) (.int .i64 c) (encTs t.args) (.int .i64 t.args.length) (.int .i64 0) 0 [] (Ends 0 r01_Count.rs fun x' H' => x' = .int .i64 (count v t) ∧ H' = []) := by
    intro c hc hcv
    refine loop_up (n := t.args.length) (R := fun k => r01_Count.L3 (.str v) (.int .i64 ((c + counts v (t.args.take k) : Nat) : Int)) (encTs t.args) (.int .i64 t.args.length) (.int .i64 k) 0 [] _) ?_ ?_ 0 (by omega)
    · intro k hk ih2
      have h1 := counts_take_succ v _ _ hk
      have h2 := counts_take_le v t.args (k+1)
      have hm := getD_mem hk
      have hm2 := size_mem hm
      refine r01_Count.G3 ?_
      push_cast [ilt hk]
      refine .of (ih _ hm (by omega)) ?_
      push_cast [w64 (show k < 2 ^ 62 by omega)]
      rw [wrap64 (by omega) (by omega)]
      rw [h1] at ih2
      simpa [Int.add_assoc] using ih2
    · refine r01_Count.G3 ?_
      push_cast [inlt (Nat.le_refl _)]
      refine pf_ret ?_
      push_cast [r01_Count.rs, List.take_length, hcv]
  refine pf_of r01_Count.ok rfl ?_
  cases hv : t.var with
  | true =>
    by_cases hn : t.name = v
    · push_cast [hv, hn]
      exact fin 1 (by omega) (by rw [hce]; simp [hv, hn])
    · push_cast [hv, hn]
      exact fin 0 (by omega) (by rw [hce]; simp [hv, hn])
  | false =>
    push_cast [hv]
    exact fin 0 (by omega) (by rw [hce]; simp [hv])
def lbg {α : Type} (p : α → Bool) : List α → Nat
  | [] => 0
  | x :: l => if p x then lbg p l + 1 else 0
theorem lbg_le {α : Type} (p : α → Bool) : ∀ l : List α, lbg p l ≤ l.length
  | [] => Nat.le_refl _
  | x :: l => by simp only [lbg]; have := lbg_le p l; split <;> simp <;> omega
theorem lbg_lt {α : Type} [Inhabited α] {p : α → Bool} : ∀ {l : List α} {j : Nat}, j < lbg p l → p (l.getD j default) = true
  | [], j, h => by simp [lbg] at h
  | x :: l, j, h => by
    simp only [lbg] at h
    split at h
    · rename_i hx
      cases j with
      | zero => simpa using hx
      | succ j => simpa using lbg_lt (l := l) (j := j) (by omega)
    · omega
theorem lbg_ge {α : Type} [Inhabited α] {p : α → Bool} : ∀ {l : List α}, lbg p l < l.length → p (l.getD (lbg p l) default) = false
  | [], h => by simp at h
  | x :: l, h => by
    simp only [lbg] at h ⊢
    split
    · rename_i hx
      rw [if_pos hx] at h
      simpa using lbg_ge (l := l) (by simpa using h)
    · rename_i hx
      simpa using hx
def insS (l : List Str) (s : Str) : List Str := if lbg (fun x => decide (x < s)) l < l.length ∧ l.getD (lbg (fun x => decide (x < s)) l) default = s then l else l.take (lbg (fun x => decide (x < s)) l) ++ s :: l.drop (lbg (fun x => decide (x < s)) l)
theorem mem_insS {l : List Str} {s v : Str} : v ∈ insS l s ↔ v ∈ l ∨ v = s := by
  unfold insS
  split
  · rename_i h
    constructor
    · exact .inl
    · rintro (h2 | rfl)
      · exact h2
      · rw [← h.2]; exact getD_mem h.1
  · generalize lbg (fun x => decide (x < s)) l = k
    have := List.take_append_drop k l
    constructor
    · intro h
      simp only [List.mem_append, List.mem_cons] at h
      rcases h with h | h | h
      · exact .inl (List.mem_of_mem_take h)
      · exact .inr h
      · exact .inl (List.mem_of_mem_drop h)
    · rintro (h | rfl)
      · rw [← this] at h
        simp only [List.mem_append, List.mem_cons] at h ⊢
        rcases h with h | h
        · exact .inl h
        · exact .inr (.inr h)
      · simp
theorem insS_len (l : List Str) (s : Str) : (insS l s).length ≤ l.length + 1 := by
  unfold insS
  have := lbg_le (fun x => decide (x < s)) l
  split <;> simp <;> omega
theorem r01_Insert_s (l : List Str) (s : Str) (hl : l.length < 2 ^ 40) (hn : ∀ x ∈ l, x.length < 2 ^ 62) (hs : s.length < 2 ^ 62) : PF n_r01_Insert [encSs l, .str s] (encSs (insS l s)) := by
  have hle := lbg_le (fun x => decide (x < s)) l
  have hge := @lbg_ge _ _ (fun x => decide (x < s)) l
  have hlt := fun j => @lbg_lt _ _ (fun x => decide (x < s)) l j
  unfold insS
  generalize lbg (fun x => decide (x < s)) l = a at hle hge hlt
  refine pf_of r01_Insert.ok rfl ?_
  push_cast
  refine loop_up (n := a) (R := fun k => r01_Insert.L4 (encSs l) (.str s) (.int .i64 k) 0 [] _) ?_ ?_ 0 (by omega)
  · intro k hk ih
    have hkl : k < l.length := by omega
    have h1 : cmpS (l.getD k default) s < 0 := cmpS_neg.2 (by simpa using hlt k hk)
    refine r01_Insert.G4 ?_
    push_cast [ilt hkl]
    refine .of (r01_CompareNames_s _ _ (hn _ (getD_mem hkl)) hs) ?_
    push_cast [h1, w64 (show k < 2 ^ 62 by omega)]
    exact ih
  · refine r01_Insert.G4 ?_
    have tail : ∀ m : Nat, m ≤ 2 ^ 40 → ∀ b, b ≤ 64 → m * b ≤ maxEls := fun m hm b hb => Nat.le_trans (Nat.mul_le_mul hm hb) (by unfold maxEls; decide)
    rcases Nat.lt_or_ge a l.length with h | h
    · have h2 : ¬ cmpS (l.getD a default) s < 0 := fun hc => by have := cmpS_neg.1 hc; have := hge h; simp_all
      push_cast [ilt h]
      refine .of (r01_CompareNames_s _ _ (hn _ (getD_mem h)) hs) ?_
      by_cases he : l.getD a default = s
      · rw [he] at h2
        push_cast [h2, ilt h, he, h]
        exact pf_ret (by push_cast [r01_Insert.rs])
      · push_cast [h2, ilt h, he, h]
        refine ⟨⟨by omega, hle⟩, tail _ (by simp; omega) _ (by omega), tail _ (by simp; omega) _ (by omega), hle, tail _ (by simp; omega) _ (by omega), pf_ret ?_⟩
        push_cast [r01_Insert.rs]
        simp [encL, cS, List.take_of_length_le]
    · push_cast [inlt h]
      rw [if_neg (by omega)]
      refine ⟨⟨by omega, hle⟩, tail _ (by simp; omega) _ (by omega), tail _ (by simp; omega) _ (by omega), hle, tail _ (by simp; omega) _ (by omega), pf_ret ?_⟩
      push_cast [r01_Insert.rs]
      simp [encL, cS, List.take_of_length_le]
mutual
def collectT (l : List Str) : Term → List Str
  | .mk n b ar => collectTs (if b then insS l n else l) ar
def collectTs (l : List Str) : List Term → List Str
  | [] => l
  | a :: ar => collectTs (collectT l a) ar
end
theorem collectT_eq (l : List Str) (t : Term) : collectT l t = collectTs (if t.var then insS l t.name else l) t.args := by cases t; rfl
theorem collectTs_append (a b : List Term) : ∀ l : List Str, collectTs l (a ++ b) = collectTs (collectTs l a) b := by
  induction a with
  | nil => intro l; simp [collectTs]
  | cons x xs ih => intro l; simp [collectTs, ih]
theorem collectTs_take_succ (s : List Str) (l : List Term) (k : Nat) (h : k < l.length) : collectTs s (l.take (k+1)) = collectT (collectTs s (l.take k)) (l.getD k default) := by
  rw [take_succ_getD h, collectTs_append]; simp [collectTs]
mutual
theorem collectT_len : ∀ (t : Term) (l : List Str), (collectT l t).length ≤ l.length + size t
  | .mk n b ar, l => by
    simp only [collectT, size]
    have := collectTs_len ar (if b then insS l n else l)
    have := insS_len l n
    cases b <;> simp at * <;> omega
theorem collectTs_len : ∀ (ar : List Term) (l : List Str), (collectTs l ar).length ≤ l.length + sizes ar
  | [], l => by simp [collectTs, sizes]
  | a :: ar, l => by simp only [collectTs, sizes]; have := collectT_len a l; have := collectTs_len ar (collectT l a); omega
end
mutual
def occ (v : Str) : Term → Bool
  | .mk n b ar => (b && decide (n = v)) || occs v ar
def occs (v : Str) : List Term → Bool
  | [] => false
  | a :: ar => occ v a || occs v ar
end
mutual
theorem mem_collectT (v : Str) : ∀ (t : Term) (l : List Str), v ∈ collectT l t ↔ v ∈ l ∨ occ v t = true
  | .mk n b ar, l => by
    simp only [collectT, occ, mem_collectTs v ar]
    cases b
    · simp
    · simp only [if_true, mem_insS, Bool.true_and, Bool.or_eq_true, decide_eq_true_eq, or_assoc]
      constructor
      · rintro (h | h | h)
        · exact .inl h
        · exact .inr (.inl h.symm)
        · exact .inr (.inr h)
      · rintro (h | h | h)
        · exact .inl h
        · exact .inr (.inl h.symm)
        · exact .inr (.inr h)
theorem mem_collectTs (v : Str) : ∀ (ar : List Term) (l : List Str), v ∈ collectTs l ar ↔ v ∈ l ∨ occs v ar = true
  | [], l => by simp [collectTs, occs]
  | a :: ar, l => by simp only [collectTs, occs, mem_collectTs v ar, mem_collectT v a, Bool.or_eq_true, or_assoc]
end
mutual
theorem occ_len (v : Str) : ∀ t, occ v t = true → v.length < tb t
  | .mk n b ar, h => by
    simp only [occ, Bool.or_eq_true, Bool.and_eq_true, decide_eq_true_eq] at h
    simp only [tb]
    rcases h with ⟨_, rfl⟩ | h
    · omega
    · have := occs_len v ar h; simp only [tbs] at this; omega
theorem occs_len (v : Str) : ∀ l, occs v l = true → v.length < tbs l
  | [], h => by simp [occs] at h
  | a :: ar, h => by
    simp only [occs, Bool.or_eq_true] at h
    simp only [tbs, tb.tbs]
    rcases h with h | h
    · have := occ_len v a h; omega
    · have := occs_len v ar h; simp only [tbs] at this; omega
end
mutual
theorem count_occ (v : Str) : ∀ t, decide (count v t = 0) = !occ v t
  | .mk n b ar => by
    simp only [count, occ]
    have := counts_occ v ar
    cases b <;> by_cases h : n = v <;> simp_all
theorem counts_occ (v : Str) : ∀ l, decide (counts v l = 0) = !occs v l
  | [] => by simp [counts, occs]
  | a :: ar => by
    have h1 := count_occ v a
    have h2 := counts_occ v ar
    have e : counts v (a :: ar) = count v a + counts v ar := rfl
    have e2 : occs v (a :: ar) = (occ v a || occs v ar) := rfl
    rw [e2, Bool.not_or, ← h1, ← h2]
    by_cases c1 : count v a = 0 <;> by_cases c2 : counts v ar = 0 <;> simp [e, c1, c2]
end
theorem tbs_take_le (l : List Term) (k : Nat) : tbs (l.take k) ≤ tbs l := by
  induction l generalizing k with
  | nil => simp
  | cons a l ih => cases k with
    | zero => simp [tbs, tb.tbs]
    | succ k => simp only [List.take_succ_cons, tbs, tb.tbs]; have := ih k; simp only [tbs] at this; omega
theorem r01_collect_s (t : Term) : ∀ (l : List Str), tb t < 2 ^ 39 → l.length + size t < 2 ^ 39 → (∀ x ∈ l, x.length < 2 ^ 62) → PF n_r01_collect [encT t, encSs l] (encSs (collectT l t)) := by
  induction t using term_ind with
  | h t ih =>
  intro l htb hls hn
  have hst := size_args t
  have htb2 := tb_args t
  have hll := length_le_sizes t.args
  have hce := collectT_eq l t
  have fin : ∀ s : List Str, s = (if t.var then insS l t.name else l) → r01_collect.L3 (encSs s) (encTs t.args) (.int .i64 t.args.length) (.int .i64 0) 0 [] (Ends 0 r01_collect.rs fun x' H' => x' = encSs (collectT l t) ∧ H' = []) := by
    intro s hs
    have hsl : s.length ≤ l.length + 1 := by rw [hs]; have := insS_len l t.name; split <;> omega
    have hsn : ∀ x ∈ s, x.length < 2 ^ 62 := by
      intro x hx
      rw [hs] at hx
      split at hx
      · rcases mem_insS.1 hx with h | rfl
        · exact hn x h
        · omega
      · exact hn x hx
    rw [← hs] at hce
    refine loop_up (n := t.args.length) (R := fun k => r01_collect.L3 (encSs (collectTs s (t.args.take k))) (encTs t.args) (.int .i64 t.args.length) (.int .i64 k) 0 [] _) ?_ ?_ 0 (by omega)
    · intro k hk ih2
      have h1 := collectTs_take_succ s _ _ hk
      have h2 := collectTs_len (t.args.take k) s
      have h3 := sizes_take_le t.args (k+1)
      rw [sizes_take_succ _ _ hk] at h3
      have hm := getD_mem hk
      have hm3 := tb_mem hm
      refine r01_collect.G3 ?_
      push_cast [ilt hk]
      refine .of (ih _ hm _ (by omega) (by omega) fun x hx => ?_) ?_
      · rcases (mem_collectTs x _ _).1 hx with h | h
        · exact hsn x h
        · have := occs_len x _ h
          have h4 := tbs_take_le t.args k
          omega
      push_cast [w64 (show k < 2 ^ 62 by omega)]
      rw [h1] at ih2
      exact ih2
    · refine r01_collect.G3 ?_
      push_cast [inlt (Nat.le_refl _)]
      refine pf_ret ?_
      push_cast [r01_collect.rs, List.take_length, hce]
  refine pf_of r01_collect.ok rfl ?_
  cases hv : t.var with
  | true =>
    push_cast [hv]
    refine .of (r01_Insert_s l t.name (by omega) hn (by omega)) ?_
    push_cast
    exact fin _ (by rw [hv]; rfl)
  | false =>
    push_cast [hv]
    exact fin _ (by rw [hv]; rfl)
def varsT (t : Term) : List Str := collectT [] t
theorem r01_Vars_s (t : Term) (ht : tb t < 2 ^ 39) : PF n_r01_Vars [encTs [t]] (encSs (varsT t)) := by
  have := size_le_tb t
  refine pf_of r01_Vars.ok rfl ?_
  push_cast
  rw [show (V.sl 1 [] : V) = encSs (collectTs [] ([t].take 0)) from rfl]
  refine loop_up (n := 1) (R := fun k => r01_Vars.L3 (encSs (collectTs [] ([t].take k))) (encTs [t]) (.int .i64 1) (.int .i64 k) 0 [] _) ?_ ?_ 0 (by omega)
  · intro k hk ih2
    obtain rfl : k = 0 := by omega
    refine r01_Vars.G3 ?_
    push_cast
    refine .of (r01_collect_s t [] ht (by simpa using by omega) (by simp)) ?_
    push_cast
    exact ih2
  · refine r01_Vars.G3 ?_
    push_cast
    refine pf_ret ?_
    push_cast [r01_Vars.rs]
    rfl
def within (a b : Term) : Bool := (varsT a).all fun v => occ v b
theorem r01_Within_s (a b : Term) (ha : tb a < 2 ^ 39) (hb : tb b < 2 ^ 39) : PF n_r01_Within [encT a, encT b] (.bool (within a b)) := by
  have hsa := size_le_tb a
  have hsb := size_le_tb b
  have hvl := collectT_len a []
  have hV := r01_Vars_s a ha
  unfold within
  have e1 : (.sl 3 [cT a] : V) = encTs [a] := rfl
  have hcl : (varsT a).length < 2 ^ 62 := by unfold varsT; simp at hvl; omega
  generalize varsT a = l at hV hcl
  refine pf_of r01_Within.ok rfl ?_
  push_cast [e1]
  refine .of hV ?_
  push_cast
  refine loop_up (n := l.length) (R := fun k => ((l.drop k).all fun v => occ v b) = (l.all fun v => occ v b) → r01_Within.L3 (.ro (cT b) 0) (encSs l) (.int .i64 l.length) (.int .i64 k) 0 [] _) ?_ ?_ 0 (by omega) rfl
  · intro k hk ih hq
    rw [drop_getD hk] at hq
    simp only [List.all_cons] at hq
    refine r01_Within.G3 ?_
    push_cast [ilt hk]
    refine .of (r01_Count_s _ _ (by omega)) ?_
    have hc := count_occ (l.getD k default) b
    push_cast [w64 (show k < 2 ^ 62 by omega)]
    refine ⟨fun h => pf_ret ?_, fun h => ih ?_⟩
    · push_cast [r01_Within.rs]
      rw [← hq]
      have h0 : count (l.getD k default) b = 0 := by omega
      rw [decide_eq_true h0] at hc
      simp_all
    · rw [← hq]
      have h0 : ¬ count (l.getD k default) b = 0 := by omega
      rw [decide_eq_false h0] at hc
      simp_all
  · intro hq
    refine r01_Within.G3 ?_
    push_cast [inlt (Nat.le_refl _)]
    refine pf_ret ?_
    push_cast [r01_Within.rs]
    rw [← hq, drop_map_none]; rfl
theorem r01_Rules_s (r : List ARule) (hs : rbs r < 2 ^ 61) : PF n_r01_Rules [encRs r] (.int .i64 (checkRules r)) := by
  have hl := length_le_rbs r
  refine pf_of r01_Rules.ok rfl ?_
  by_cases h64 : 64 < r.length
  · have hi : ((64 : Int) < (r.length : Int)) = True := eq_true (by omega)
    push_cast [hi]
    refine pf_ret ?_
    push_cast [r01_Rules.rs, checkRules, h64]
  · have hi : ((64 : Int) < (r.length : Int)) = False := eq_false (by omega)
    push_cast [hi, checkRules, h64]
    refine loop_up (n := r.length) (R := fun k => checkPairs (r.drop k) = checkPairs r → r01_Rules.L3 (encRs r) (.int .i64 r.length) (.int .i64 k) 0 [] _) ?_ ?_ 0 (by omega) rfl
    · intro k hk ih hq
      have hm := rbs_mem (getD_mem hk)
      refine r01_Rules.G3 ?_
      rw [drop_getD hk] at hq
      simp only [checkPairs] at hq
      generalize hx : r.getD k default = x at hm hq
      have hA := r01_CheckAll_s [x.left, x.right] (by simp) (by simp; omega)
      push_cast [ilt hk, hx, encTs_two]
      refine .of hA ?_
      push_cast [w64 (show k < 2 ^ 62 by omega)]
      refine ⟨fun h => pf_ret ?_, fun h => ih ?_⟩
      · push_cast [r01_Rules.rs]
        rw [← hq, if_pos h]
      · rw [← hq, if_neg h]
    · intro hq
      refine r01_Rules.G3 ?_
      push_cast [inlt (Nat.le_refl _)]
      refine pf_ret ?_
      push_cast [r01_Rules.rs]
      rw [← hq, drop_map_none]; rfl
end Go.Dw
end
section
namespace Go.Dw
theorem r01_At_s (t : Term) (p : List Int) (hp : p.length < 2 ^ 62) (ht : size t < 2 ^ 62) : PF n_r01_At [encT t, encP p] (encOT (subT t p)) := by
  refine pf_of r01_At.ok rfl ?_
  push_cast
  refine loop_up (n := p.length) (R := fun k => ∀ u, subT u (p.drop k) = subT t p → size u < 2 ^ 62 → r01_At.L3 (.ptr 0 0) (.ptr 1 0) (encP p) (.int .i64 p.length) (.int .i64 k) 0 [.cells t_Term (cT u), .cells t_Term [.str [], .bool false, .sl 3 []]] _) ?_ ?_ 0 (by omega) t rfl ht
  · intro k hk ih u hu hsu
    rw [drop_getD hk] at hu
    simp only [subT] at hu
    generalize hgi : p.getD k default = i at hu
    have hl := length_le_sizes u.args
    have hst := size_args u
    refine r01_At.G3 ?_
    by_cases hi : i < 0
    · rw [if_neg (by omega)] at hu
      push_cast [ilt hk, hgi, hi]
      refine pf_ret ?_
      push_cast [r01_At.rs, ← hu]
      rfl
    · by_cases hi2 : (u.args.length : Int) ≤ i
      · rw [if_neg (by omega)] at hu
        push_cast [ilt hk, hgi, hi, hi2]
        refine pf_ret ?_
        push_cast [r01_At.rs, ← hu]
        rfl
      · rw [if_pos (by omega)] at hu
        push_cast [ilt hk, hgi, hi, hi2, w64 (show k < 2 ^ 62 by omega)]
        have hm : u.args.getD i.toNat default ∈ u.args := getD_mem (by omega)
        exact ⟨by omega, ih _ hu (by have := size_mem hm; omega)⟩
  · intro u hu hsu
    rw [drop_map_none] at hu
    refine r01_At.G3 ?_
    push_cast [inlt (Nat.le_refl _)]
    refine pf_ret ?_
    push_cast [r01_At.rs, ← hu]
    rfl
theorem r01_Image_s (s : List ABind) (v : Str) (hl : s.length < 2 ^ 62) : PF n_r01_Image [encBs s, .str v] (encT ((image s v).getD (.mk v true []))) := by
  refine pf_of r01_Image.ok rfl ?_
  push_cast
  refine loop_up (n := s.length) (R := fun k => image (s.drop k) v = image s v → r01_Image.L3 (.str v) (.ptr 0 0) (encBs s) (.int .i64 s.length) (.int .i64 k) 0 [.cells t_Term [.str [], .bool false, .sl 3 []]] _) ?_ ?_ 0 (by omega) rfl
  · intro k hk ih hq
    rw [drop_getD hk] at hq
    simp only [image] at hq
    generalize hgi : s.getD k default = b at hq
    refine r01_Image.G3 ?_
    by_cases h : b.name = v
    · rw [if_pos h] at hq
      push_cast [ilt hk, hgi, h]
      refine pf_ret ?_
      push_cast [r01_Image.rs, ← hq]
      rfl
    · rw [if_neg h] at hq
      push_cast [ilt hk, hgi, h, w64 (show k < 2 ^ 62 by omega)]
      exact ih hq
  · intro hq
    rw [drop_map_none] at hq
    refine r01_Image.G3 ?_
    push_cast [inlt (Nat.le_refl _)]
    refine pf_ret ?_
    push_cast [r01_Image.rs, ← hq]
    rfl
theorem r01_Apply_s (s : List ABind) (hl : s.length < 2 ^ 62) (t : Term) (ht : size t < 2 ^ 40) : PF n_r01_Apply [encBs s, encT t] (encT (inst s t)) := by
  induction t using term_ind with
  | h t ih =>
  have hst := size_args t
  have hll := length_le_sizes t.args
  refine pf_of r01_Apply.ok rfl ?_
  rw [inst_eq]
  cases hv : t.var with
  | true =>
    push_cast [hv]
    refine .of (r01_Image_s s t.name hl) ?_
    push_cast
    exact pf_ret (by push_cast [r01_Apply.rs])
  | false =>
    push_cast [hv]
    refine loop_up (n := t.args.length) (R := fun k => r01_Apply.L3 (encBs s) (.ptr 0 0) (.ptr 1 0) (encTs t.args) (.int .i64 t.args.length) (.int .i64 k) 0 [.cells t_Term [.str [], .bool false, .sl 3 []], .cells t_Term [.str t.name, .bool false, ownL cT 2 3 ((t.args.take k).map (inst s))], .arr t_Term 3 k] _) ?_ ?_ 0 (by omega)
    · intro k hk ih2
      have hm := getD_mem hk
      have hm2 := size_mem hm
      have hlen : ((t.args.take k).map (inst s)).length = k := by simp; omega
      rw [take_succ_getD hk, List.map_append, List.map_singleton] at ih2
      refine r01_Apply.G3 ?_
      push_cast [ilt hk]
      refine .of (ih _ hm (by omega)) ?_
      push_cast [hlen, w64 (show k < 2 ^ 62 by omega)]
      exact ⟨Nat.le_trans (Nat.mul_le_mul_right 48 (show _ ≤ 2 ^ 41 by omega)) (by unfold maxEls; decide), ih2⟩
    · refine r01_Apply.G3 ?_
      push_cast [inlt (Nat.le_refl _)]
      refine pf_ret ?_
      push_cast [r01_Apply.rs, List.take_length]
      unfold encT
      rw [cT_eq]; rfl
theorem r01_Grown_s (s : List ABind) (hl : s.length < 2 ^ 62) (hs : bbs s < 2 ^ 29) (t : Term) (ht : tb t < 2 ^ 30) : PF n_r01_Grown [encBs s, encT t] (.tup [.int .i64 (size (inst s t)), .int .i64 (depth (inst s t))]) := by
  induction t using term_ind with
  | h t ih =>
  have hst := size_args t
  have htb := tb_args t
  have hll := length_le_sizes t.args
  have hz := size_le_tb t
  have hsm := inst_small ht hs
  refine pf_of r01_Grown.ok rfl ?_
  cases hv : t.var with
  | true =>
    have he : inst s t = (image s t.name).getD (.mk t.name true []) := by rw [inst_eq, if_pos hv]
    rw [he] at hsm ⊢
    push_cast [hv]
    refine .of (r01_Image_s s t.name hl) ?_
    push_cast
    refine .of (r01_Size_s _ (by omega)) ?_
    push_cast
    refine .of (r01_Depth_s _ (by omega)) ?_
    push_cast
    exact pf_ret (by push_cast [r01_Grown.rs])
  | false =>
    have he : inst s t = .mk t.name false (t.args.map (inst s)) := by rw [inst_eq, hv]; rfl
    rw [he] at hsm ⊢
    have hs1 : size (Term.mk t.name false (t.args.map (inst s))) = 1 + sizes (t.args.map (inst s)) := by simp [size]
    have hd1 : depth (Term.mk t.name false (t.args.map (inst s))) = depths (t.args.map (inst s)) + 1 := by simp [depth]
    have hds := depths_le_sizes (t.args.map (inst s))
    rw [hs1] at hsm
    rw [hs1, hd1]
    push_cast [hv]
    refine loop_up (n := t.args.length) (R := fun k => r01_Grown.L3 (encBs s) (.int .i64 (1 + sizes ((t.args.take k).map (inst s)) : Nat)) (.int .i64 (depths ((t.args.take k).map (inst s)) : Nat)) (encTs t.args) (.int .i64 t.args.length) (.int .i64 k) 0 [] _) ?_ ?_ 0 (by omega)
    · intro k hk ih2
      have hm := getD_mem hk
      have hm2 := tb_mem hm
      have hsum : sizes ((t.args.take k).map (inst s)) + size (inst s (t.args.getD k default)) ≤ sizes (t.args.map (inst s)) := by
        have : sizes ((t.args.take (k + 1)).map (inst s)) ≤ sizes (t.args.map (inst s)) := by rw [List.map_take]; exact sizes_take_le _ _
        rw [take_succ_getD hk, List.map_append, sizes_append] at this
        simpa [sizes] using this
      rw [take_succ_getD hk, List.map_append, List.map_singleton, sizes_append, depths_append] at ih2
      simp only [sizes, depths, Nat.add_zero, Nat.max_zero] at ih2
      refine r01_Grown.G3 ?_
      push_cast [ilt hk]
      refine .of (ih _ hm (by omega)) ?_
      push_cast [w64 (show k < 2 ^ 62 by omega)]
      rw [wrap64 (by omega) (by omega)]
      push_cast at ih2
      simpa [Int.add_assoc] using ih2
    · refine r01_Grown.G3 ?_
      push_cast [inlt (Nat.le_refl _), List.take_length]
      rw [wrap64 (by omega) (by omega)]
      refine pf_ret ?_
      push_cast [r01_Grown.rs]
theorem r03_Bound_s (s : List ABind) (v : Str) (hl : s.length < 2 ^ 62) : PF n_r03_Bound [encBs s, .str v] (.bool (bound s v)) := by
  refine pf_of r03_Bound.ok rfl ?_
  unfold bound
  push_cast
  refine loop_up (n := s.length) (R := fun k => image (s.drop k) v = image s v → r03_Bound.L3 (.str v) (encBs s) (.int .i64 s.length) (.int .i64 k) 0 [] _) ?_ ?_ 0 (by omega) rfl
  · intro k hk ih hq
    rw [drop_getD hk] at hq
    simp only [image] at hq
    generalize hgi : s.getD k default = b at hq
    refine r03_Bound.G3 ?_
    by_cases h : b.name = v
    · rw [if_pos h] at hq
      push_cast [ilt hk, hgi, h]
      refine pf_ret ?_
      push_cast [r03_Bound.rs, ← hq]
      rfl
    · rw [if_neg h] at hq
      push_cast [ilt hk, hgi, h, w64 (show k < 2 ^ 62 by omega)]
      exact ih hq
  · intro hq
    rw [drop_map_none] at hq
    refine r03_Bound.G3 ?_
    push_cast [inlt (Nat.le_refl _)]
    refine pf_ret ?_
    push_cast [r03_Bound.rs, ← hq]
    rfl
theorem lbd_stop {v : Str} : ∀ {s : List ABind}, lbd v s < s.length → ¬ (s.getD (lbd v s) default).name < v
  | [], h => by simp at h
  | b :: s, h => by
    simp only [lbd] at h ⊢
    split
    · rename_i hx
      rw [if_pos hx] at h
      simpa using lbd_stop (s := s) (by simpa using h)
    · rename_i hx
      simpa using hx
theorem own_bind {i : Nat} {l : List ABind} {n : Str} {t : Term} : (.own i 4 (l.map cB ++ [V.str n :: cT t]) : V) = ownL cB i 4 (l ++ [⟨n, t⟩]) := by simp [ownL, cB]
theorem r03_with_s (s : List ABind) (v : Str) (t : Term) (hl : s.length < 2 ^ 40) (hn : ∀ b ∈ s, b.name.length < 2 ^ 62) (hv : v.length < 2 ^ 62) : PF n_r03_with [encBs s, .str v, encT t] (encBs (bindT s v t)) := by
  have hle := lbd_le v s
  have hge := @lbd_stop v s
  have hlt := fun j => @lbd_lt v s j
  have tail : ∀ m : Nat, m ≤ 2 ^ 40 → ∀ b, b ≤ 64 → m * b ≤ maxEls := fun m hm b hb => Nat.le_trans (Nat.mul_le_mul hm hb) (by unfold maxEls; decide)
  unfold bindT
  generalize lbd v s = a at hle hge hlt
  have e1 : (s.drop 0).take (a - 0) = s.take a := by simp
  have e2 : (s.drop a).take (s.length - a) = s.drop a := by rw [List.take_of_length_le]; simp
  refine pf_of r03_with.ok rfl ?_
  push_cast
  refine loop_up (n := a) (R := fun k => r03_with.L3 (encBs s) (.str v) (.ro (cT t) 0) (.int .i64 k) 0 [] _) ?_ ?_ 0 (by omega)
  · intro k hk ih
    have hkl : k < s.length := by omega
    have h1 : cmpS (s.getD k default).name v < 0 := cmpS_neg.2 (hlt k hk)
    refine r03_with.G3 ?_
    push_cast [ilt hkl]
    refine .of (r01_CompareNames_s _ _ (hn _ (getD_mem hkl)) hv) ?_
    push_cast [h1, w64 (show k < 2 ^ 62 by omega)]
    exact ih
  · refine r03_with.G3 ?_
    rcases Nat.lt_or_ge a s.length with h | h
    · have h2 : ¬ cmpS (s.getD a default).name v < 0 := fun hc => hge h (cmpS_neg.1 hc)
      push_cast [ilt h]
      refine .of (r01_CompareNames_s _ _ (hn _ (getD_mem h)) hv) ?_
      push_cast [h2, e1, e2, own_bind, List.cons_append, List.nil_append]
      refine ⟨⟨by omega, hle⟩, tail _ (by simp; omega) _ (by omega), tail _ (by simp; omega) _ (by omega), hle, ⟨by simp, tail _ (by simp; omega) _ (by omega)⟩, pf_ret ?_⟩
      push_cast [r03_with.rs]
    · push_cast [inlt h, e1, e2, own_bind, List.cons_append, List.nil_append]
      refine ⟨⟨by omega, hle⟩, tail _ (by simp; omega) _ (by omega), tail _ (by simp; omega) _ (by omega), hle, ⟨by simp, tail _ (by simp; omega) _ (by omega)⟩, pf_ret ?_⟩
      push_cast [r03_with.rs]
mutual
def matchR (s : List ABind) : Term → Term → List ABind × Bool
  | .mk n v l, t => if v then (match image s n with | some x => (s, decide (x = t)) | none => (bindT s n t, true)) else
    if t.var ∨ t.name ≠ n ∨ t.args.length ≠ l.length then ([], false) else matchRs s l t.args
def matchRs (s : List ABind) : List Term → List Term → List ABind × Bool
  | [], _ => (s, true)
  | _ :: _, [] => (s, true)
  | a :: l, b :: m => if (matchR s a b).2 then matchRs (matchR s a b).1 l m else ([], false)
end
theorem matchR_eq (s : List ABind) (p t : Term) : matchR s p t = if p.var then (match image s p.name with | some x => (s, decide (x = t)) | none => (bindT s p.name t, true)) else
    if t.var ∨ t.name ≠ p.name ∨ t.args.length ≠ p.args.length then ([], false) else matchRs s p.args t.args := by
  cases p with | mk n v l => simp only [matchR, Term.var, Term.name, Term.args]; rfl
def SameM (a b : List ABind × Bool) : Prop := a.2 = b.2 ∧ (b.2 = true → a.1 = b.1)
theorem matchR_T (p : Term) : ∀ (s : List ABind) (t : Term), SameM (matchR s p t) (matchT s p t) := by
  induction p using term_ind with
  | h p ih =>
  intro s t
  rw [matchR_eq, matchT_eq]
  cases hv : p.var with
  | true => rw [if_pos rfl, if_pos rfl]; exact ⟨rfl, fun _ => rfl⟩
  | false =>
    have hf : ¬ (false = true) := by simp
    rw [if_neg hf, if_neg hf]
    by_cases hc : t.var ∨ p.name ≠ t.name ∨ p.args.length ≠ t.args.length
    · have hc' : t.var ∨ t.name ≠ p.name ∨ t.args.length ≠ p.args.length := by
        rcases hc with h | h | h
        · exact .inl h
        · exact .inr (.inl (Ne.symm h))
        · exact .inr (.inr (Ne.symm h))
      rw [if_pos hc, if_pos hc']; exact ⟨rfl, fun h => by cases h⟩
    · have hc' : ¬ (t.var ∨ t.name ≠ p.name ∨ t.args.length ≠ p.args.length) := by
        rintro (h | h | h)
        · exact hc (.inl h)
        · exact hc (.inr (.inl (Ne.symm h)))
        · exact hc (.inr (.inr (Ne.symm h)))
      rw [if_neg hc, if_neg hc']
      have hlen : p.args.length = t.args.length := Classical.byContradiction fun h => hc (.inr (.inr h))
      have key : ∀ (l m : List Term) (s : List ABind), (∀ a ∈ l, a ∈ p.args) → l.length = m.length → SameM (matchRs s l m) (matchTs s l m) := by
        intro l
        induction l with
        | nil => intro m s _ _; exact ⟨rfl, fun _ => rfl⟩
        | cons a l ihl =>
          intro m s hl hm
          cases m with
          | nil => simp at hm
          | cons b m =>
            obtain ⟨h1, h2⟩ := ih a (hl a (by simp)) s b
            simp only [matchRs, matchTs]
            cases h3 : (matchT s a b).2 with
            | false =>
              rw [h3] at h1
              rw [if_neg (by rw [h1]; simp), if_neg (by simp)]
              exact ⟨rfl, fun h => by cases h⟩
            | true =>
              rw [h3] at h1
              rw [if_pos h1, if_pos rfl, h2 h3]
              exact ihl m _ (fun x hx => hl x (by simp [hx])) (by simpa using hm)
      exact key p.args t.args s (fun _ h => h) hlen
structure Bs (M m : Nat) (s : List ABind) : Prop where
  len : s.length ≤ m
  nm : ∀ b ∈ s, b.name.length < M
  tm : ∀ b ∈ s, tb b.term < M
theorem Bs.mono {M m m' : Nat} {s : List ABind} (h : Bs M m s) (hm : m ≤ m') : Bs M m' s := ⟨Nat.le_trans h.len hm, h.nm, h.tm⟩
theorem Bs.nil {M m : Nat} : Bs M m [] := ⟨by simp, by simp, by simp⟩
theorem matchR_Bs {M : Nat} (p : Term) : ∀ (s : List ABind) (t : Term) (m : Nat), tb p ≤ M → tb t < M → Bs M m s → Bs M (m + size p) (matchR s p t).1 := by
  induction p using term_ind with
  | h p ih =>
  intro s t m hp ht hb
  have h1 := tb_args p
  have h2 := tb_args t
  have h3 := size_args p
  rw [matchR_eq]
  cases hv : p.var with
  | true =>
    rw [if_pos rfl]
    cases hx : image s p.name with
    | some x => exact hb.mono (by omega)
    | none =>
      refine ⟨by show (bindT s p.name t).length ≤ _; rw [bindT_len]; have := hb.len; omega, fun b h => ?_, fun b h => ?_⟩
      · rcases bindT_mem h with h | rfl
        · exact hb.nm b h
        · show p.name.length < M; omega
      · rcases bindT_mem h with h | rfl
        · exact hb.tm b h
        · exact ht
  | false =>
    rw [if_neg (by simp)]
    split
    · exact Bs.nil
    · have key : ∀ (l q : List Term) (s : List ABind) (m : Nat), (∀ a ∈ l, a ∈ p.args) → tbs l ≤ M → tbs q < M → Bs M m s → Bs M (m + sizes l) (matchRs s l q).1 := by
        intro l
        induction l with
        | nil => intro q s m _ _ _ hb; exact hb
        | cons a l ihl =>
          intro q s m hl hM hq hb
          cases q with
          | nil => exact hb.mono (by omega)
          | cons b q =>
            have e1 : tbs (a :: l) = tb a + tbs l := rfl
            have e2 : tbs (b :: q) = tb b + tbs q := rfl
            have h4 := ih a (hl a (by simp)) s b m (by omega) (by omega) hb
            simp only [matchRs]
            split
            · have h5 := ihl q _ _ (fun x hx => hl x (by simp [hx])) (by omega) (by omega) h4
              exact h5.mono (by simp only [sizes]; omega)
            · exact Bs.nil
      have := key p.args t.args s m (fun _ h => h) (by omega) (by omega) hb
      exact this.mono (by omega)
end Go.Dw
end
section
namespace Go.Dw
mutual
def cmpT : Term → Term → Int
  | .mk n v l, t => if v ≠ t.var then (if v then -1 else 1) else if cmpS n t.name ≠ 0 then cmpS n t.name else if cmpI l.length t.args.length ≠ 0 then cmpI l.length t.args.length else cmpTs l t.args
def cmpTs : List Term → List Term → Int
  | [], _ => 0
  | _ :: _, [] => 0
  | a :: l, b :: m => if cmpT a b ≠ 0 then cmpT a b else cmpTs l m
end
theorem cmpT_eq (a t : Term) : cmpT a t = if a.var ≠ t.var then (if a.var then -1 else 1) else if cmpS a.name t.name ≠ 0 then cmpS a.name t.name else if cmpI a.args.length t.args.length ≠ 0 then cmpI a.args.length t.args.length else cmpTs a.args t.args := by
  cases a; simp only [cmpT]; rfl
theorem cmpI_zero {a b : Int} : cmpI a b = 0 ↔ a = b := by unfold cmpI; split <;> (try split) <;> omega
theorem cmpTs_zero : ∀ (l m : List Term), l.length = m.length → (∀ a ∈ l, ∀ b, cmpT a b = 0 ↔ a = b) → (cmpTs l m = 0 ↔ l = m)
  | [], [], _, _ => by simp [cmpTs]
  | [], _ :: _, h, _ => by simp at h
  | _ :: _, [], h, _ => by simp at h
  | a :: l, b :: m, h, hc => by
    have ih := cmpTs_zero l m (by simpa using h) fun x hx => hc x (by simp [hx])
    have h1 := hc a (by simp) b
    simp only [cmpTs]
    by_cases he : a = b
    · rw [if_neg (by simpa using h1.2 he), ih]
      simp [he]
    · have : ¬ cmpT a b = 0 := fun e => he (h1.1 e)
      rw [if_pos this]
      simp [this, he]
theorem cmpT_zero (a : Term) : ∀ b, cmpT a b = 0 ↔ a = b := by
  induction a using term_ind with
  | h a ih =>
  intro b
  rw [cmpT_eq, term_eq_iff]
  by_cases h1 : a.var = b.var
  · rw [if_neg (by simpa using h1)]
    by_cases h2 : a.name = b.name
    · rw [if_neg (by simpa using cmpS_zero.2 h2)]
      by_cases h3 : a.args.length = b.args.length
      · rw [if_neg (by simpa using cmpI_zero.2 (by omega)), cmpTs_zero _ _ h3 ih]
        simp [h1, h2]
      · have : ¬ cmpI a.args.length b.args.length = 0 := fun e => h3 (by have := cmpI_zero.1 e; omega)
        rw [if_pos this]
        simp only [this, false_iff, not_and]
        intro _ _ e; exact h3 (by rw [e])
    · have : ¬ cmpS a.name b.name = 0 := fun e => h2 (cmpS_zero.1 e)
      rw [if_pos this]
      simp [this, h2]
  · rw [if_pos h1]
    simp only [h1, false_and, and_false, iff_false]
    split <;> decide
theorem r01_Compare_s (a : Term) : ∀ b, tb a < 2 ^ 62 → tb b < 2 ^ 62 → PF n_r01_Compare [encT a, encT b] (.int .i64 (cmpT a b)) := by
  induction a using term_ind with
  | h a ih =>
  intro b ha hb
  have ha2 := tb_args a
  have hb2 := tb_args b
  have hla := length_le_tbs a.args
  rw [cmpT_eq]
  refine pf_of r01_Compare.ok rfl ?_
  by_cases h1 : a.var = b.var
  · rw [if_neg (by simpa using h1)]
    push_cast [h1, show ∀ x y : Bool, (x != y) = !decide (x = y) from fun x y => by cases x <;> cases y <;> rfl]
    refine .of (r01_CompareNames_s _ _ (by omega) (by omega)) ?_
    by_cases h2 : cmpS a.name b.name = 0
    · rw [if_neg (by simpa using h2)]
      push_cast [h2]
      refine .of (r01_CompareInts_s _ _) ?_
      by_cases h3 : cmpI a.args.length b.args.length = 0
      · have hll : a.args.length = b.args.length := by have := cmpI_zero.1 h3; omega
        rw [if_neg (by simpa using h3)]
        push_cast [h3]
        refine loop_up (n := a.args.length) (R := fun k => cmpTs (a.args.drop k) (b.args.drop k) = cmpTs a.args b.args → r01_Compare.L3 (.ro (cT a) 0) (.ro (cT b) 0) (.int .i64 a.args.length) (.int .i64 k) 0 [] _) ?_ ?_ 0 (by omega) rfl
        · intro k hk ih2 hq
          have hkb : k < b.args.length := by omega
          rw [drop_getD hk, drop_getD hkb] at hq
          simp only [cmpTs] at hq
          have hm := getD_mem hk
          have hmb := getD_mem hkb
          refine r01_Compare.G3 ?_
          push_cast [ilt hk, ilt hkb]
          refine .of (ih _ hm _ (by have := tb_mem hm; omega) (by have := tb_mem hmb; omega)) ?_
          push_cast [w64 (show k < 2 ^ 62 by omega)]
          refine ⟨fun h => pf_ret ?_, fun h => ih2 ?_⟩
          · push_cast [r01_Compare.rs]
            rw [← hq, if_pos (by simpa using h)]
          · rw [← hq, if_neg (by simpa using h)]
        · intro hq
          refine r01_Compare.G3 ?_
          push_cast [inlt (Nat.le_refl _)]
          refine pf_ret ?_
          push_cast [r01_Compare.rs]
          rw [← hq, drop_map_none]; rfl
      · rw [if_pos h3]
        push_cast [h3]
        exact pf_ret (by push_cast [r01_Compare.rs])
    · rw [if_pos h2]
      push_cast [h2]
      exact pf_ret (by push_cast [r01_Compare.rs])
  · rw [if_pos h1]
    have e : ∀ x y : Bool, (x != y) = !decide (x = y) := fun x y => by cases x <;> cases y <;> rfl
    cases hv : a.var <;> cases hv2 : b.var
    · exact absurd (hv.trans hv2.symm) h1
    · push_cast [hv, hv2, e]
      exact pf_ret (by push_cast [r01_Compare.rs])
    · push_cast [hv, hv2, e]
      exact pf_ret (by push_cast [r01_Compare.rs])
    · exact absurd (hv.trans hv2.symm) h1
theorem r01_Equal_s (a b : Term) (ha : tb a < 2 ^ 62) (hb : tb b < 2 ^ 62) : PF n_r01_Equal [encT a, encT b] (.bool (decide (a = b))) := by
  refine pf_of r01_Equal.ok rfl ?_
  push_cast
  refine .of (r01_Compare_s a b ha hb) ?_
  push_cast
  refine pf_ret ?_
  push_cast [r01_Equal.rs, cmpT_zero]
end Go.Dw
end
section
namespace Go.Dw
theorem r03_match_s (p : Term) : ∀ (s : List ABind) (t : Term) (m : Nat), tb p ≤ 2 ^ 38 → tb t < 2 ^ 38 → Bs (2 ^ 38) m s → m + size p < 2 ^ 38 →
    PF n_r03_match [encBs s, encT p, encT t] (.tup [encBs (matchR s p t).1, .bool (matchR s p t).2]) := by
  induction p using term_ind with
  | h p ih =>
  intro s t m hp ht hb hm
  have h1 := tb_args p
  have h2 := tb_args t
  have h3 := size_args p
  have hlt := length_le_tbs t.args
  have hsl := hb.len
  rw [matchR_eq]
  refine pf_of r03_match.ok rfl ?_
  cases hv : p.var with
  | true =>
    rw [if_pos rfl]
    push_cast [hv]
    refine .of (r03_Bound_s s p.name (by omega)) ?_
    cases hx : image s p.name with
    | some x =>
      push_cast [show bound s p.name = true by simp [bound, hx]]
      refine .of (r01_Image_s s p.name (by omega)) ?_
      push_cast [hx, Option.getD_some]
      obtain ⟨b, hbm, _, rfl⟩ := image_mem hx
      refine .of (r01_Equal_s b.term t (by have := hb.tm b hbm; omega) (by omega)) ?_
      push_cast
      exact pf_ret (by push_cast [r03_match.rs])
    | none =>
      push_cast [show bound s p.name = false by simp [bound, hx]]
      refine .of (r03_with_s s p.name t (by omega) (fun b hbm => by have := hb.nm b hbm; omega) (by omega)) ?_
      push_cast
      exact pf_ret (by push_cast [r03_match.rs])
  | false =>
    rw [if_neg (show ¬ (false = true) by simp)]
    push_cast [hv]
    by_cases c1 : t.var = true
    · rw [if_pos (show t.var = true ∨ t.name ≠ p.name ∨ t.args.length ≠ p.args.length from .inl c1)]
      push_cast [c1]
      exact pf_ret (by push_cast [r03_match.rs]; rfl)
    · have c1' : t.var = false := by simpa using c1
      by_cases c2 : t.name = p.name
      · by_cases c3 : t.args.length = p.args.length
        · rw [if_neg (show ¬ (t.var = true ∨ t.name ≠ p.name ∨ t.args.length ≠ p.args.length) by simp [c1', c2, c3])]
          have c3' : ((t.args.length : Int) = (p.args.length : Int)) = True := eq_true (by omega)
          push_cast [c1', c2, c3']
          have key : ∀ (l q : List Term) (s : List ABind) (k : Nat), p.args.drop k = l → t.args.drop k = q → k + q.length = t.args.length → ∀ m, Bs (2 ^ 38) m s → m + sizes l < 2 ^ 38 →
              ∀ res, matchRs s l q = res → r03_match.L3 (encBs s) (.ro (cT p) 0) (.ro (cT t) 0) (.int .i64 t.args.length) (.int .i64 k) 0 [] (Ends 0 r03_match.rs fun x' H' => x' = .tup [encBs res.1, .bool res.2] ∧ H' = []) := by
            intro l
            induction l with
            | nil =>
              intro q s k hl hq hk m hb hm res hr
              have hkl : t.args.length ≤ k := by
                have := congrArg List.length hl
                simp at this; omega
              refine r03_match.G3 ?_
              push_cast [inlt hkl]
              refine pf_ret ?_
              push_cast [r03_match.rs, ← hr]
              simp [matchRs]
            | cons a l ihl =>
              intro q s k hl hq hk m hb hm res hr
              have hkp : k < p.args.length := by
                rcases Nat.lt_or_ge k p.args.length with h | h
                · exact h
                · rw [List.drop_eq_nil_of_le h] at hl; cases hl
              have hkt : k < t.args.length := by omega
              rw [drop_getD hkp] at hl
              rw [drop_getD hkt] at hq
              cases hl
              subst hq
              have hmp := getD_mem hkp
              have hmt := getD_mem hkt
              have hbp := tb_mem hmp
              have hbt := tb_mem hmt
              simp only [sizes] at hm
              simp only [matchRs] at hr
              refine r03_match.G3 ?_
              push_cast [ilt hkt, ilt hkp]
              refine .of (ih _ hmp s _ m (by omega) (by omega) hb (by omega)) ?_
              cases hq2 : (matchR s (p.args.getD k default) (t.args.getD k default)).2 with
              | false =>
                rw [if_neg (by rw [hq2]; simp)] at hr
                push_cast
                refine pf_ret ?_
                push_cast [r03_match.rs, ← hr]
                rfl
              | true =>
                rw [if_pos hq2] at hr
                push_cast [w64 (show k < 2 ^ 62 by omega)]
                have := ihl _ _ (k + 1) rfl rfl (by simp; omega) _ (matchR_Bs _ s _ m (by omega) (by omega) hb) (by omega) res hr
                push_cast at this
                exact this
          have := key p.args t.args s 0 rfl rfl (by simp) m hb (by omega) _ rfl
          push_cast [c3'] at this
          exact this
        · rw [if_pos (show t.var = true ∨ t.name ≠ p.name ∨ t.args.length ≠ p.args.length from .inr (.inr c3))]
          have c3' : ((t.args.length : Int) = (p.args.length : Int)) = False := eq_false (by omega)
          push_cast [c1', c2, c3']
          exact pf_ret (by push_cast [r03_match.rs]; rfl)
      · rw [if_pos (show t.var = true ∨ t.name ≠ p.name ∨ t.args.length ≠ p.args.length from .inr (.inl c2))]
        push_cast [c1', c2]
        exact pf_ret (by push_cast [r03_match.rs]; rfl)
theorem r03_Match_s (p t : Term) (hp : tb p < 2 ^ 37) (ht : tb t < 2 ^ 37) : PF n_r03_Match [encT p, encT t] (.tup [encBs (matchR [] p t).1, .bool (matchR [] p t).2]) := by
  have := size_le_tb p
  refine pf_of r03_Match.ok rfl ?_
  push_cast
  refine .of (r03_match_s p [] t 0 (by omega) (by omega) Bs.nil (by omega)) ?_
  push_cast
  exact pf_ret (by push_cast [r03_Match.rs])
theorem r04_Subst_s (r : List ARule) (t : Term) (s : AStep) (hr : rbs r < 2 ^ 37) (ht : tb t < 2 ^ 37) (hp : s.pos.length < 2 ^ 62) : PF n_r04_Subst [encRs r, encT t, encSt s] (.tup [encBs (findE r t s).1, .int .i64 (findE r t s).2]) := by
  have hst := size_le_tb t
  have hlr := length_le_rbs r
  refine pf_of r04_Subst.ok rfl ?_
  push_cast
  refine .of (r01_At_s t s.pos hp (by omega)) ?_
  unfold findE
  by_cases h1 : s.rule < 0
  · rw [if_pos (.inl h1)]
    cases subT t s.pos with
    | none =>
      push_cast [encOT, h1]
      exact pf_ret (by push_cast [r04_Subst.rs]; rfl)
    | some x =>
      push_cast [encOT, h1]
      exact pf_ret (by push_cast [r04_Subst.rs]; rfl)
  · by_cases h2 : (r.length : Int) ≤ s.rule
    · rw [if_pos (.inr h2)]
      cases subT t s.pos with
      | none =>
        push_cast [encOT, h1, h2]
        exact pf_ret (by push_cast [r04_Subst.rs]; rfl)
      | some x =>
        push_cast [encOT, h1, h2]
        exact pf_ret (by push_cast [r04_Subst.rs]; rfl)
    · rw [if_neg (by omega)]
      cases hx : subT t s.pos with
      | none =>
        push_cast [encOT, h1, h2]
        exact pf_ret (by push_cast [r04_Subst.rs]; rfl)
      | some x =>
        have hxt := subT_tb _ _ _ hx
        have hi : s.rule.toNat < r.length := by omega
        have hm := rbs_mem (getD_mem hi)
        push_cast [encOT, h1, h2]
        refine ⟨by omega, .of (r03_Match_s _ x (by omega) (by omega)) ?_⟩
        obtain ⟨q1, q2⟩ := matchR_T (r.getD s.rule.toNat default).left [] x
        cases hb : (matchT [] (r.getD s.rule.toNat default).left x).2 with
        | false =>
          rw [hb] at q1
          push_cast [q1]
          exact pf_ret (by push_cast [r04_Subst.rs]; rfl)
        | true =>
          rw [hb] at q1
          rw [q2 hb]
          push_cast [q1]
          exact pf_ret (by push_cast [r04_Subst.rs])
end Go.Dw
end
section
namespace Go.Dw
theorem row_T {l : List Term} {k : Nat} (h : k < l.length) : (l.map cT)[k]? = some (cT (l.getD k default)) := by
  rw [List.getElem?_map]; simp [List.getD_eq_getElem?_getD, h]
theorem rens_cTs9 {σ : Nat → Option Nat} {l : List Term} : (l.map cT).map (rens σ) = l.map cT := by rw [List.map_map]; rfl
theorem r01_Put_s (p : List Int) : ∀ (t x y : Term), short t = true → subT t p = some y → size t < 2 ^ 40 → p.length < 2 ^ 40 → PF n_r01_Put [encT t, encP p, encT x] (encT (setT t p x)) := by
  induction p with
  | nil =>
    intro t x y _ _ _ _
    refine pf_of r01_Put.ok rfl ?_
    push_cast
    exact pf_ret (by push_cast [r01_Put.rs]; rfl)
  | cons i p ih =>
    intro t x y ht hy hs hp
    simp only [subT] at hy
    split at hy
    case isFalse => cases hy
    rename_i hi
    have hst := size_args t
    have hll := length_le_sizes t.args
    have hk : i.toNat < t.args.length := by omega
    have hm := getD_mem hk
    have hm2 := size_mem hm
    have hne : ¬ (((i :: p).length : Nat) : Int) = 0 := by rw [List.length_cons]; omega
    have hsub := ih _ x y ((short_iff.1 ht).2.2 _ hm) hy (by omega) (by simp at hp; omega)
    refine pf_of r01_Put.ok rfl ?_
    have hv : t.var = false := by
      cases h : t.var with
      | false => rfl
      | true => have := (short_iff.1 ht).2.1 h; rw [this] at hk; simp at hk
    have hres : setT t (i :: p) x = .mk t.name false (t.args.set i.toNat (setT (t.args.getD i.toNat default) p x)) := by
      simp only [setT]; rw [if_pos hi, hv]
    rw [hres]
    have e1 : ((i :: p).drop 1).take ((i :: p).length - 1) = p := by simp
    have e2 : (i :: p).getD 0 default = i := rfl
    have e3 : ((0 : Int) < (((i :: p).length : Nat) : Int)) = True := eq_true (by rw [List.length_cons]; omega)
    have e4 : (1 : Nat) ≤ (i :: p).length := by simp
    generalize (i :: p) = q at hne e1 e2 e3 e4
    have hi0 : (0 ≤ i) = True := eq_true hi.1
    have hi1 : (i < (t.args.length : Int)) = True := eq_true hi.2
    have hroom : t.args.length * 48 ≤ maxEls := Nat.le_trans (Nat.mul_le_mul_right 48 (show _ ≤ 2 ^ 41 by omega)) (by unfold maxEls; decide)
    have hsetC : (t.args.map cT).set i.toNat (put 0 (cT (setT (t.args.getD i.toNat default) p x)) ((t.args.map cT).getD i.toNat [])) = (t.args.set i.toNat (setT (t.args.getD i.toNat default) p x)).map cT := by
      have e5 : (t.args.map cT).getD i.toNat [] = cT (t.args.getD i.toNat default) := by
        rw [List.getD_eq_getElem?_getD (l := t.args.map cT), row_T hk]; rfl
      rw [List.map_set, e5, put_cT']
    push_cast [hne, row_T hk, e1, e2, e3, e4, hi0, hi1, List.length_map, hroom]
    refine .of hsub ?_
    push_cast [hi0, hi1, List.length_map, hk, hsetC, List.length_set, rens_cTs9]
    refine pf_ret ?_
    push_cast [r01_Put.rs]
    unfold encT
    rw [cT_eq]; rfl
theorem r04_replaced_s (p : List Int) : ∀ (t x : Term), size t < 2 ^ 40 → size x < 2 ^ 40 → p.length < 2 ^ 40 →
    PF n_r04_replaced [encT t, encP p, .int .i64 (size x), .int .i64 (depth x)] (.tup [.int .i64 (size (setT t p x)), .int .i64 (depth (setT t p x))]) := by
  induction p with
  | nil =>
    intro t x _ _ _
    refine pf_of r04_replaced.ok rfl ?_
    push_cast
    exact pf_ret (by push_cast [r04_replaced.rs]; exact ⟨rfl, rfl⟩)
  | cons i p ih =>
    intro t x hs hx hp
    have hst := size_args t
    have hll := length_le_sizes t.args
    have hlu : (setT t (i :: p) x).args.length = t.args.length := setT_args_len
    have hget := fun k (hk : k < t.args.length) => setT_args_get (x := x) (i := i) (p := p) hk
    have hsu : size (setT t (i :: p) x) = 1 + sizes (setT t (i :: p) x).args := size_args _
    have hdu : depth (setT t (i :: p) x) = depths (setT t (i :: p) x).args + 1 := depth_args _
    have hsz := setT_size (i :: p) t x
    have hdd := depths_le_sizes (setT t (i :: p) x).args
    rw [hsu] at hsz ⊢
    rw [hdu]
    generalize (setT t (i :: p) x).args = u at *
    have hne : ¬ (((i :: p).length : Nat) : Int) = 0 := by rw [List.length_cons]; omega
    have e1 : ((i :: p).drop 1).take ((i :: p).length - 1) = p := by simp
    have e2 : (i :: p).getD 0 default = i := rfl
    have e3 : ((0 : Int) < (((i :: p).length : Nat) : Int)) = True := eq_true (by rw [List.length_cons]; omega)
    have e4 : (1 : Nat) ≤ (i :: p).length := by simp
    have hpl : p.length < 2 ^ 40 := by simp at hp; omega
    generalize (i :: p) = q at hne e1 e2 e3 e4
    refine pf_of r04_replaced.ok rfl ?_
    push_cast [hne]
    refine loop_up (n := t.args.length) (R := fun k => r04_replaced.L3 (encP q) (.int .i64 (size x)) (.int .i64 (depth x)) (.int .i64 (1 + sizes (u.take k) : Nat)) (.int .i64 (depths (u.take k) : Nat)) (encTs t.args) (.int .i64 t.args.length) (.int .i64 k) 0 [] _) ?_ ?_ 0 (by omega)
    · intro k hk ih2
      have hm := getD_mem hk
      have hm2 := size_mem hm
      have hsk := sizes_take_succ u k (by omega)
      have hdk := depths_take_succ u k (by omega)
      have hsl := sizes_take_le u (k + 1)
      have hgk := hget k hk
      have hdl := depth_le_size (t.args.getD k default)
      rw [hsk, hdk, hgk] at ih2
      rw [hsk, hgk] at hsl
      refine r04_replaced.G3 ?_
      push_cast [ilt hk]
      refine .of (r01_Size_s _ (by omega)) ?_
      push_cast
      refine .of (r01_Depth_s _ (by omega)) ?_
      by_cases hik : (k : Int) = i
      · rw [if_pos hik] at ih2 hsl
        subst hik
        push_cast [e1, e2, e3, e4]
        refine .of (ih _ x (by omega) hx hpl) ?_
        push_cast [w64 (show k < 2 ^ 62 by omega)]
        rw [wrap64 (by omega) (by omega)]
        push_cast at ih2
        simpa [Int.add_assoc] using ih2
      · rw [if_neg hik] at ih2 hsl
        push_cast [e1, e2, e3, e4, hik, w64 (show k < 2 ^ 62 by omega)]
        rw [wrap64 (by omega) (by omega)]
        push_cast at ih2
        simpa [Int.add_assoc] using ih2
    · refine r04_replaced.G3 ?_
      rw [List.take_of_length_le (by omega)]
      push_cast [inlt (Nat.le_refl _)]
      rw [wrap64 (by omega) (by omega)]
      refine pf_ret ?_
      push_cast [r04_replaced.rs]
end Go.Dw
end
