/-
  Contracts and lemmas for BoundsLengths: part g of 8.
-/
import Derived.Test.YtokdinonifchaaaGreatKcf
import Derived.Test.YtokdinonifchaaaGreatKce
section
set_option linter.unusedVariables false
set_option linter.unusedSimpArgs false
set_option maxRecDepth 100000
namespace Go.Dw
theorem cMs_0 (m : AMs) : (cMs m)[0]? = some (.int .i64 m.p) := rfl
theorem cMs_1 (m : AMs) : (cMs m)[1]? = some (.int .i64 m.q) := rfl
theorem cMs_2 (m : AMs) : (cMs m)[2]? = some (.int .i64 m.h) := rfl
theorem cMs_3 (m : AMs) : (cMs m)[3]? = some (encSs m.word) := rfl
theorem cMs_len (m : AMs) : (cMs m).length = 4 := rfl
theorem sto_encMs (m : AMs) : sto (encMs m) = some (cMs m) := rfl
theorem ren_encMs {σ : Nat → Option Nat} (m : AMs) : ren σ (encMs m) = encMs m := rfl
theorem rens_cMs {σ : Nat → Option Nat} (m : AMs) : rens σ (cMs m) = cMs m := rfl
theorem agg_cMs (m : AMs) : V.agg (cMs m) = encMs m := rfl
theorem sub_cMs (m : AMs) : sub 0 4 (cMs m) = cMs m := rfl
attribute [push_cast] cMs_0 cMs_1 cMs_2 cMs_3 cMs_len sto_encMs ren_encMs rens_cMs agg_cMs sub_cMs
def setSt (a : AAut) : AAut := ⟨a.states + 1, a.bound, a.moves⟩
def addTo (m : AMs) (a : AAut) (w : List Str) : Int := if w = [] then m.q else a.states
def addA (m : AMs) (a : AAut) (at_ : Int) (c : Str) (w : List Str) : AAut := insA (if w = [] then a else setSt a) ⟨at_, addTo m a w, c, m.h⟩
def addWd (m : AMs) : List Str → AAut → Int → AAut × Bool
  | [], a, at_ => (a, true)
  | c :: w, a, at_ => if (addA m a at_ c w).moves.length ≤ 4096 then addWd m w (addA m a at_ c w) (addTo m a w) else (addA m a at_ c w, false)
def addEnd (r : AAut × Bool) (states : Int) : AAut × Bool := (r.1, r.2 && decide (r.1.states ≤ states))
def addM (a : AAut) (m : AMs) (states : Int) : AAut × Bool :=
  if a.bound < m.h ∨ m.word = [] then (a, false) else addEnd (addWd m (m.word.drop (longestM a.moves m.p m.word m.h).2) a (longestM a.moves m.p m.word m.h).1) states
theorem addWd_cons (m : AMs) (c : Str) (w : List Str) (a : AAut) (at_ : Int) : addWd m (c :: w) a at_ = if (addA m a at_ c w).moves.length ≤ 4096 then addWd m w (addA m a at_ c w) (addTo m a w) else (addA m a at_ c w, false) := rfl
theorem put_cAu (a : AAut) (u v w : V) : put 0 (cAu a) [u, v, w] = cAu a := rfl
theorem put_st (a : AAut) : put 0 [V.int .i64 (a.states + 1)] (cAu a) = cAu (setSt a) := rfl
theorem put_cAu2 (a b : AAut) : put 0 (cAu a) (cAu b) = cAu a := rfl
attribute [push_cast] put_cAu put_cAu2
abbrev zAu : List V := [.int .i64 0, .int .i64 0, .sl 4 []]
abbrev adH (a : AAut) (G : Ob) : List Ob := [.cells t_Automaton (cAu a), .cells t_Automaton zAu, G]
theorem add_fin (a : AAut) (m : AMs) (states : Int) (ok : Bool) (at_ n : V) (G : Ob) (T : AAut × Bool) (hT : (a, ok && decide (a.states ≤ states)) = T) (hn : ∃ k : Nat, n = .int .i64 k ∧ (ok = true → m.word.length ≤ k)) :
    bounds_add.L4 (.int .i64 states) (.ptr 0 0) (.ro (cMs m) 0) (.ptr 1 0) at_ n (.bool ok) 0 (adH a G) (Ends 0 bounds_add.rs fun x' H' => x' = .tup [encAu T.1, .bool T.2] ∧ H' = []) := by
  obtain ⟨k, rfl, hk⟩ := hn
  subst hT
  refine bounds_add.G4 ?_
  cases ok with
  | false =>
    by_cases hc : k < m.word.length
    · push_cast [ilt hc]
      exact pf_ret (by push_cast [bounds_add.rs])
    · push_cast [inlt (show m.word.length ≤ k by omega)]
      exact pf_ret (by push_cast [bounds_add.rs])
  | true =>
    push_cast [inlt (hk rfl)]
    exact pf_ret (by push_cast [bounds_add.rs])
theorem add_walk (m : AMs) (states : Int) (G : Ob) (hG : ∀ σ, renOb (clip σ) G = G) (T : AAut × Bool) (hw : m.word.length < 2 ^ 37) : ∀ (k n : Nat) (a : AAut) (at_ : Int), n + k = m.word.length → SortedM a.moves → a.moves.length + k < 2 ^ 38 → 0 ≤ a.states → a.states + k < 2 ^ 38 →
    addEnd (addWd m (m.word.drop n) a at_) states = T →
    bounds_add.L4 (.int .i64 states) (.ptr 0 0) (.ro (cMs m) 0) (.ptr 1 0) (.int .i64 at_) (.int .i64 n) (.bool true) 0 (adH a G) (Ends 0 bounds_add.rs fun x' H' => x' = .tup [encAu T.1, .bool T.2] ∧ H' = []) := by
  intro k
  induction k with
  | zero =>
    intro n a at_ hn _ _ _ _ hT
    rw [List.drop_of_length_le (by omega)] at hT
    unfold addWd addEnd at hT
    exact add_fin a m states true _ _ G T hT ⟨n, rfl, fun _ => by omega⟩
  | succ k ih =>
    intro n a at_ hn hs hl hst1 hst2 hT
    have hnl : n < m.word.length := by omega
    rw [drop_getD hnl] at hT
    have hwd : m.word.drop (n + 1) = [] ↔ n + 1 = m.word.length := by rw [List.drop_eq_nil_iff]; omega
    have ih' := ih (n + 1)
    generalize hR : m.word.drop (n + 1) = R at hT hwd ih'
    refine bounds_add.G4 ?_
    have hcx : m.word.getD n default = m.word.getD n default := rfl
    generalize hc0 : m.word.getD n default = c at hT
    rw [addWd_cons] at hT
    have hlm : IntKind.i64.wrap ((m.word.length : Int) - 1) = ((m.word.length - 1 : Nat) : Int) := by rw [wrap64 (by omega) (by omega)]; omega
    have hbd4 : ∀ u v s h, V.agg [V.int .i64 u, V.int .i64 v, V.str s, V.int .i64 h] = encMv ⟨u, v, s, h⟩ := fun _ _ _ _ => rfl
    have step : ∀ (a1 : AAut), SortedM a1.moves → a1.moves.length = a.moves.length → 0 ≤ a1.states → a1.states ≤ a.states + 1 → addA m a at_ c R = insA a1 ⟨at_, addTo m a R, c, m.h⟩ →
        (∀ b : Bool, bounds_add.L4 (.int .i64 states) (.ptr 0 0) (.ro (cMs m) 0) (.ptr 1 0) (.int .i64 (addTo m a R)) (.int .i64 ((n : Int) + 1)) (.bool (decide ((addA m a at_ c R).moves.length ≤ 4096))) 0 (adH (addA m a at_ c R) G) (Ends 0 bounds_add.rs fun x' H' => x' = .tup [encAu T.1, .bool T.2] ∧ H' = [])) := by
      intro a1 h1 h2 h3 h4 h5 b
      by_cases hle : (addA m a at_ c R).moves.length ≤ 4096
      · rw [if_pos hle] at hT
        rw [decide_eq_true hle]
        have hlen : (addA m a at_ c R).moves.length ≤ a.moves.length + 1 := by
          rw [h5]; unfold insA; simp only; rw [insM_len h1]; split <;> omega
        have hst : (addA m a at_ c R).states = a1.states := by rw [h5]; rfl
        have := ih' (addA m a at_ c R) (addTo m a R) (by omega) (by rw [h5]; exact insM_sorted h1) (by omega) (by omega) (by omega) hT
        push_cast at this
        exact this
      · rw [if_neg hle] at hT
        rw [decide_eq_false hle]
        unfold addEnd at hT
        have := add_fin (addA m a at_ c R) m states false (.int .i64 (addTo m a R)) (.int .i64 ((n + 1 : Nat) : Int)) G T hT ⟨n + 1, rfl, fun h => by cases h⟩
        push_cast at this
        exact this
    by_cases hlast : n + 1 = m.word.length
    · have hRn := hwd.2 hlast
      have hto : addTo m a R = m.q := by unfold addTo; rw [if_pos hRn]
      have hA : addA m a at_ c R = insA a ⟨at_, addTo m a R, c, m.h⟩ := by unfold addA; rw [if_pos hRn]
      have hfin := step a hs rfl hst1 (by omega) hA true
      have hnl2 : ((n : Int) < ((m.word.length - 1 : Nat) : Int)) = False := eq_false (by omega)
      generalize m.word.length - 1 = L1 at hlm hnl2
      push_cast [ilt hnl, hnl, hlm, hnl2, hc0, hbd4]
      refine .of (bounds_insert_s a ⟨at_, m.q, c, m.h⟩ hs (by omega)) ?_
      rw [hto] at hA hfin
      rw [hA] at hfin
      unfold insV
      push_cast [w64 (show n < 2 ^ 62 by omega), hG]
      push_cast at hfin
      exact hfin
    · have hRn : R ≠ [] := fun h => hlast (hwd.1 h)
      have hto : addTo m a R = a.states := by unfold addTo; rw [if_neg hRn]
      have hA : addA m a at_ c R = insA (setSt a) ⟨at_, addTo m a R, c, m.h⟩ := by unfold addA; rw [if_neg hRn]
      have hfin := step (setSt a) hs rfl (by show 0 ≤ a.states + 1; omega) (Int.le_refl _) hA true
      have hnl2 : ((n : Int) < ((m.word.length - 1 : Nat) : Int)) = True := eq_true (by omega)
      generalize m.word.length - 1 = L1 at hlm hnl2
      have hws : IntKind.i64.wrap (a.states + 1) = a.states + 1 := wrap64 (by omega) (by omega)
      push_cast [ilt hnl, hnl, hlm, hnl2, hc0, hbd4, hws, put_st]
      refine .of (bounds_insert_s (setSt a) ⟨at_, a.states, c, m.h⟩ hs (by show a.moves.length < _; omega)) ?_
      rw [hto] at hA hfin
      rw [hA] at hfin
      unfold insV
      push_cast [w64 (show n < 2 ^ 62 by omega), hG]
      push_cast at hfin
      exact hfin
theorem longGo_le (mv : List AMove) (p : Int) (w : List Str) (h : Int) : ∀ n, (longGo mv p w h n).2 ≤ n
  | 0 => Nat.le_refl _
  | n + 1 => by
    simp only [longGo]
    split
    · exact Nat.le_refl _
    · exact Nat.le_trans (longGo_le mv p w h n) (Nat.le_succ n)
theorem bounds_add_s (a : AAut) (m : AMs) (states : Int) (hs : SortedM a.moves) (ho : OkA a.moves) (hl : a.moves.length < 2 ^ 37) (hst : 0 ≤ a.states ∧ a.states < 2 ^ 37) (hp : 0 ≤ m.p ∧ m.p < 256) (hw : m.word.length < 2 ^ 37) :
    PF n_bounds_add [encAu a, encMs m, .int .i64 states] (.tup [encAu (addM a m states).1, .bool (addM a m states).2]) := by
  refine pf_of bounds_add.ok rfl ?_
  generalize hT : addM a m states = T
  unfold addM at hT
  by_cases h1 : a.bound < m.h
  · rw [if_pos (.inl h1)] at hT
    subst hT
    push_cast [eq_true h1]
    exact pf_ret (by push_cast [bounds_add.rs])
  by_cases h2 : m.word = []
  · rw [if_pos (.inr h2)] at hT
    subst hT
    push_cast [eq_false h1, h2]
    exact pf_ret (by push_cast [bounds_add.rs])
  have h2l : 0 < m.word.length := by
    cases hm : m.word with
    | nil => exact absurd hm h2
    | cons => simp
  have h2i : ((m.word.length : Int) = 0) = False := eq_false (by omega)
  rw [if_neg (by simp [h1, h2])] at hT
  push_cast [eq_false h1, h2i]
  refine CallG.some [] List.nodup_nil (fun i hi => by cases hi) (R := fun x H' => x = .map 0 ∧ H' = [.map (encGr (fromM a.moves))]) (by rw [pos_nil]; push_cast; exact bounds_from_s a (by omega)) ?_
  rintro x H' ⟨rfl, rfl⟩ _
  rw [takeB_none]
  have hbk : back [] 2 = fun i => some (2 + i) := by funext i; simp [back]
  push_cast [hbk]
  have hlg : (longestM a.moves m.p m.word m.h).2 ≤ m.word.length := Nat.le_trans (longGo_le _ _ _ _ _) (Nat.sub_le _ _)
  refine CallG.some [2] (by simp) (by simp) (R := fun x H' => x = .tup [.int .i64 (longestM a.moves m.p m.word m.h).1, .int .i64 (longestM a.moves m.p m.word m.h).2] ∧ H' = [.map (encGr (fromM a.moves))]) ?_ ?_
  · have hg : ∀ a b c : Ob, give [2] [a, b, c] = [renOb (pos? [2]) c] := fun _ _ _ => rfl
    rw [hg]
    push_cast
    exact bounds_longest_s a.moves ho m.p hp m.word m.h (by omega) h2l (by omega)
  rintro x H' ⟨rfl, rfl⟩ _
  have ht : ∀ a b c d : Ob, takeB [2] [a, b, c] [d] = [a, b, renOb (back [2] 3) d] := fun _ _ _ _ => rfl
  rw [ht]
  generalize longestM a.moves m.p m.word m.h = lg at hT hlg ⊢
  push_cast
  exact add_walk m states (.map (encGr (fromM a.moves))) (fun σ => by push_cast) T hw (m.word.length - lg.2) lg.2 a lg.1 (by omega) hs (by omega) hst.1 (by omega) hT
end Go.Dw
end
section
set_option linter.unusedVariables false
set_option linter.unusedSimpArgs false
set_option maxRecDepth 100000
namespace Go.Dw
/-- The transitions lie within the states and the bound. -/
structure In0 (a : AAut) : Prop where
  st : 1 ≤ a.states
  ord : SortedM a.moves
  mv : ∀ x ∈ a.moves, (0 ≤ x.src ∧ x.src < a.states) ∧ (0 ≤ x.dst ∧ x.dst < a.states) ∧ 0 ≤ x.h ∧ x.h ≤ a.bound
theorem In0.insA {a : AAut} {x : AMove} (h : In0 a) (hx : (0 ≤ x.src ∧ x.src < a.states) ∧ (0 ≤ x.dst ∧ x.dst < a.states) ∧ 0 ≤ x.h ∧ x.h ≤ a.bound) : In0 (insA a x) :=
  ⟨h.st, insM_sorted h.ord, fun y hy => by
    rcases (insM_mem h.ord).1 hy with hy | rfl
    · exact h.mv y hy
    · exact hx⟩
theorem In0.setSt {a : AAut} (h : In0 a) : In0 (setSt a) :=
  ⟨by have := h.st; show 1 ≤ a.states + 1; omega, h.ord, fun y hy => by
    have := h.mv y hy
    show (0 ≤ y.src ∧ y.src < a.states + 1) ∧ (0 ≤ y.dst ∧ y.dst < a.states + 1) ∧ 0 ≤ y.h ∧ y.h ≤ a.bound
    omega⟩
theorem addA_in {m : AMs} {a : AAut} {at_ : Int} {c : Str} {w : List Str} (h : In0 a) (hat : 0 ≤ at_ ∧ at_ < a.states) (hq : 0 ≤ m.q ∧ m.q < a.states) (hh : 0 ≤ m.h ∧ m.h ≤ a.bound) :
    In0 (addA m a at_ c w) ∧ (addA m a at_ c w).bound = a.bound ∧ a.states ≤ (addA m a at_ c w).states ∧ (0 ≤ addTo m a w ∧ addTo m a w < (addA m a at_ c w).states) := by
  have hst := h.st
  unfold addA addTo
  by_cases hw : w = []
  · simp only [if_pos hw]
    exact ⟨h.insA ⟨hat, hq, hh⟩, rfl, Int.le_refl _, hq⟩
  · simp only [if_neg hw]
    refine ⟨h.setSt.insA ⟨?_, ?_, hh⟩, rfl, ?_, ?_⟩
    · show 0 ≤ at_ ∧ at_ < a.states + 1; omega
    · show 0 ≤ a.states ∧ a.states < a.states + 1; omega
    · show a.states ≤ a.states + 1; omega
    · show 0 ≤ a.states ∧ a.states < a.states + 1; omega
theorem addA_mem {m : AMs} {a : AAut} {at_ : Int} {c : Str} {w : List Str} (h : In0 a) {y : AMove} : y ∈ (addA m a at_ c w).moves ↔ y ∈ a.moves ∨ y = ⟨at_, addTo m a w, c, m.h⟩ := by
  unfold addA
  split
  · exact insM_mem h.ord
  · exact insM_mem (l := (setSt a).moves) h.ord
theorem addA_len {m : AMs} {a : AAut} {at_ : Int} {c : Str} {w : List Str} (h : In0 a) : (addA m a at_ c w).moves.length = if (⟨at_, addTo m a w, c, m.h⟩ : AMove) ∈ a.moves then a.moves.length else a.moves.length + 1 := by
  unfold addA
  split
  · exact insM_len h.ord
  · exact insM_len (l := (setSt a).moves) h.ord
theorem addWd_in {m : AMs} : ∀ (w : List Str) {a : AAut} {at_ : Int}, In0 a → (0 ≤ at_ ∧ at_ < a.states) → (0 ≤ m.q ∧ m.q < a.states) → (0 ≤ m.h ∧ m.h ≤ a.bound) →
    In0 (addWd m w a at_).1 ∧ (addWd m w a at_).1.bound = a.bound ∧ a.states ≤ (addWd m w a at_).1.states ∧ a.moves.length ≤ (addWd m w a at_).1.moves.length ∧ (∀ y ∈ a.moves, y ∈ (addWd m w a at_).1.moves) ∧
      (∀ y ∈ (addWd m w a at_).1.moves, y ∈ a.moves ∨ y.h = m.h ∧ y.name ∈ w) ∧ ((addWd m w a at_).2 = true → w ≠ [] → (addWd m w a at_).1.moves.length ≤ 4096)
  | [], a, at_, h, h1, h2, h3 => ⟨h, rfl, Int.le_refl _, Nat.le_refl _, fun y hy => hy, fun y hy => .inl hy, fun _ hn => absurd rfl hn⟩
  | c :: w, a, at_, h, h1, h2, h3 => by
    obtain ⟨k1, k2, k3, k4⟩ := addA_in (c := c) (w := w) h h1 h2 h3
    have k5 : a.moves.length ≤ (addA m a at_ c w).moves.length := by rw [addA_len h]; split <;> omega
    rw [addWd_cons]
    split
    · rename_i hle
      obtain ⟨i1, i2, i3, i4, i5, i6, i7⟩ := addWd_in (m := m) w k1 k4 ⟨h2.1, Int.lt_of_lt_of_le h2.2 k3⟩ (by rw [k2]; exact h3)
      refine ⟨i1, by rw [i2, k2], by omega, by omega, fun y hy => i5 y ((addA_mem h).2 (.inl hy)), fun y hy => ?_, fun ht _ => ?_⟩
      · rcases i6 y hy with hy | ⟨e1, e2⟩
        · rcases (addA_mem h).1 hy with hy | rfl
          · exact .inl hy
          · exact .inr ⟨rfl, by simp⟩
        · exact .inr ⟨e1, by simp [e2]⟩
      · by_cases hw : w = []
        · subst hw; exact hle
        · exact i7 ht hw
    · refine ⟨k1, k2, k3, k5, fun y hy => (addA_mem h).2 (.inl hy), fun y hy => ?_, fun ht => by cases ht⟩
      rcases (addA_mem h).1 hy with hy | rfl
      · exact .inl hy
      · exact .inr ⟨rfl, by simp⟩
theorem longGo_path (mv : List AMove) (p : Int) (w : List Str) (h : Int) : ∀ n, ∃ s ∈ readL mv (fun x => decide (x = h)) (p, 17) (w.take (longGo mv p w h n).2), s.1 = (longGo mv p w h n).1
  | 0 => ⟨(p, 17), by simp [longGo, readL], rfl⟩
  | n + 1 => by
    simp only [longGo]
    cases hl : (readsL mv (fun x => decide (x = h)) p (w.take (n + 1))).getLast? with
    | none => exact longGo_path mv p w h n
    | some s => exact ⟨s, readsL_mem.1 (List.mem_of_getLast? hl), rfl⟩
theorem readL_st {a : AAut} (h : In0 a) (fit : Int → Bool) {p : Int} (hp : 0 ≤ p ∧ p < a.states) (w : List Str) : ∀ s ∈ readL a.moves fit (p, 17) w, 0 ≤ s.1 ∧ s.1 < a.states := by
  intro s hs
  rcases List.eq_nil_or_concat w with rfl | ⟨w, n, rfl⟩
  · have : s = (p, 17) := by simpa [readL] using hs
    rw [this]; exact hp
  · rw [List.concat_eq_append, readL_snoc, nextL_mem] at hs
    obtain ⟨u, _, hs⟩ := hs
    obtain ⟨x, hx, rfl⟩ := List.mem_map.1 hs
    exact (h.mv x (List.mem_filter.1 (List.mem_filter.1 hx).1).1).2.1
theorem lacks_some {mv : List AMove} {S : Nat} {l : List ARl} {m : AMs} (h : lacksM mv S l = some m) : ∃ x ∈ l, ∃ p, p < S ∧ ∃ s ∈ readL mv (fun _ => true) ((p : Int), 17) x.left, m = ⟨p, s.1, s.2 + 1, x.right⟩ ∧ linkedM mv p s.1 x.right (s.2 + 1) = false := by
  obtain ⟨x, hx, h1⟩ := List.exists_of_findSome?_eq_some h
  obtain ⟨p, hp, h2⟩ := List.exists_of_findSome?_eq_some h1
  obtain ⟨s, hs, h3⟩ := List.exists_of_findSome?_eq_some h2
  refine ⟨x, hx, p, List.mem_range.1 hp, s, readsL_mem.1 hs, ?_⟩
  unfold spotF at h3
  split at h3
  · cases h3
  · rename_i hl
    cases h3
    exact ⟨rfl, by simpa using hl⟩
/-- A path that is missing is added: what remains true, and that the automaton grows. -/
theorem add_grows {a : AAut} {m : AMs} {states : Int} {l : List ARl} (h : In0 a) (ho : OkA a.moves) (hs2 : a.states ≤ 256) (hl : lacksM a.moves a.states.toNat l = some m) (hok : (addM a m states).2 = true) :
    In0 (addM a m states).1 ∧ (addM a m states).1.bound = a.bound ∧ (addM a m states).1.states ≤ states ∧ a.moves.length < (addM a m states).1.moves.length ∧ (addM a m states).1.moves.length ≤ 4096 ∧
      (∀ y ∈ a.moves, y ∈ (addM a m states).1.moves) ∧ ∀ y ∈ (addM a m states).1.moves, y ∈ a.moves ∨ y.h = m.h ∧ y.name ∈ m.word := by
  obtain ⟨x, hx, p, hp, s, hs, rfl, hlk⟩ := lacks_some hl
  have hst := h.st
  have hpi : 0 ≤ (p : Int) ∧ (p : Int) < a.states := by omega
  have hsq := readL_st h _ hpi _ s hs
  have hs3 := (readL_in ho (fun _ => true) (show 0 ≤ (p : Int) ∧ (p : Int) < 256 by omega) _ s hs).2
  unfold addM at hok ⊢
  by_cases hc : a.bound < s.2 + 1 ∨ x.right = []
  · rw [if_pos hc] at hok; cases hok
  · rw [if_neg hc] at hok ⊢
    have hc1 : ¬ a.bound < s.2 + 1 := fun h => hc (.inl h)
    have hc2 : x.right ≠ [] := fun h => hc (.inr h)
    simp only at hok ⊢
    have hlg : (longestM a.moves p x.right (s.2 + 1)).2 ≤ x.right.length - 1 := longGo_le _ _ _ _ _
    have hpath := longGo_path a.moves p x.right (s.2 + 1) (x.right.length - 1)
    change ∃ t ∈ readL a.moves (fun y => decide (y = s.2 + 1)) ((p : Int), 17) (x.right.take (longestM a.moves p x.right (s.2 + 1)).2), t.1 = (longestM a.moves p x.right (s.2 + 1)).1 at hpath
    generalize longestM a.moves p x.right (s.2 + 1) = lg at hok hlg hpath ⊢
    obtain ⟨t, ht, hte⟩ := hpath
    have htr := readL_st h _ hpi _ t ht
    rw [hte] at htr
    have hwl : 0 < x.right.length := List.length_pos_iff.2 hc2
    have hn : lg.2 < x.right.length := by omega
    have hdr := drop_getD hn
    have hwd := addWd_in (m := ⟨p, s.1, s.2 + 1, x.right⟩) (x.right.drop lg.2) h htr hsq ⟨by show 0 ≤ s.2 + 1; omega, by show s.2 + 1 ≤ a.bound; omega⟩
    obtain ⟨w1, w2, w3, w4, w5, w6, w7⟩ := hwd
    unfold addEnd at hok ⊢
    rw [Bool.and_eq_true, decide_eq_true_eq] at hok
    refine ⟨w1, w2, hok.2, ?_, w7 hok.1 (by rw [hdr]; simp), w5, fun y hy => (w6 y hy).imp id fun ⟨e1, e2⟩ => ⟨e1, List.mem_of_mem_drop e2⟩⟩
    -- the first edge is new
    rw [hdr] at hok ⊢
    generalize hcc : x.right.getD lg.2 default = c at hok ⊢
    generalize hR : x.right.drop (lg.2 + 1) = R at hok ⊢
    rw [addWd_cons]
    have hnew : (⟨lg.1, addTo ⟨p, s.1, s.2 + 1, x.right⟩ a R, c, s.2 + 1⟩ : AMove) ∉ a.moves := by
      intro hm
      by_cases hRn : R = []
      · unfold addTo at hm
        rw [if_pos hRn] at hm
        have hlast : lg.2 + 1 = x.right.length := by
          rw [hRn] at hR
          have := List.drop_eq_nil_iff.1 hR; omega
        have : linkedM a.moves p s.1 x.right (s.2 + 1) = true := by
          rw [linked_iff]
          have e : x.right = x.right.take lg.2 ++ [c] := by
            rw [← hcc, ← take_succ_getD hn, hlast, List.take_length]
          refine ⟨(s.1, if s.2 + 1 < t.2 then s.2 + 1 else t.2), ?_, rfl⟩
          rw [e, readL_snoc, nextL_mem]
          exact ⟨t, ht, List.mem_map.2 ⟨_, List.mem_filter.2 ⟨List.mem_filter.2 ⟨hm, by simp [hte]⟩, by simp⟩, rfl⟩⟩
        rw [hlk] at this; cases this
      · unfold addTo at hm
        rw [if_neg hRn] at hm
        have := (h.mv _ hm).2.1.2
        simp only at this; omega
    have k5 : (addA ⟨p, s.1, s.2 + 1, x.right⟩ a lg.1 c R).moves.length = a.moves.length + 1 := by rw [addA_len h, if_neg hnew]
    split
    · obtain ⟨k1, k2, k3, k4⟩ := addA_in (m := ⟨p, s.1, s.2 + 1, x.right⟩) (c := c) (w := R) h htr hsq ⟨by show 0 ≤ s.2 + 1; omega, by show s.2 + 1 ≤ a.bound; omega⟩
      have := (addWd_in (m := ⟨p, s.1, s.2 + 1, x.right⟩) R k1 k4 ⟨hsq.1, Int.lt_of_lt_of_le hsq.2 k3⟩ ⟨by show 0 ≤ s.2 + 1; omega, by rw [k2]; show s.2 + 1 ≤ a.bound; omega⟩).2.2.2.1
      rw [k5] at this
      exact this
    · show _ < (addA ⟨p, s.1, s.2 + 1, x.right⟩ a lg.1 c R).moves.length
      omega
end Go.Dw
end
section
set_option linter.unusedVariables false
set_option linter.unusedSimpArgs false
set_option maxRecDepth 100000
namespace Go.Dw
def zA : AAut := ⟨0, 0, []⟩
def findGo (r : List ARule) (l : List ARl) (states : Int) : Nat → AAut → AAut × Int
  | 0, _ => (zA, 12)
  | f + 1, a => match lacksM a.moves a.states.toNat l with
    | none => if checkB r a ≠ 0 then (zA, 12) else (a, 0)
    | some m => if (addM a m states).2 then findGo r l states f (addM a m states).1 else (zA, 12)
def initA (bound : Int) (l : List Str) : AAut := l.foldl (fun a n => insA a ⟨0, 0, n, 0⟩) ⟨1, bound, []⟩
def findB (r : List ARule) (bound states : Int) : AAut × Int :=
  if (systemE r).2 ≠ 0 then (zA, (systemE r).2) else if bound < 0 ∨ 16 < bound ∨ states < 1 ∨ 256 < states then (zA, 2) else findGo r (systemE r).1 states 4098 (initA bound (namesM (systemE r).1))
def findV (x : AAut × Int) : V := .tup [encAu x.1, .int .i64 x.2]
theorem wordT_name : ∀ (n : Nat) (t : Term), size t ≤ n → ∀ c ∈ (wordT t).1, c.length < tb t
  | 0, t, h => by have := size_args t; omega
  | n + 1, t, h => by
    have hs := size_args t
    intro c hc
    rw [wordT_step] at hc
    split at hc
    · rename_i hcc
      have hmem := getD_mem (l := t.args) (k := 0) (by omega)
      have hm := size_mem hmem
      rcases List.mem_cons.1 hc with rfl | hc
      · obtain ⟨nm, v, l⟩ := t
        simp only [Term.name, tb]; omega
      · have h1 := wordT_name n (t.args.getD 0 default) (by omega) c hc
        have h2 := tb_mem hmem
        obtain ⟨nm, v, l⟩ := t
        simp only [tb]
        simp only [Term.args] at h1 h2
        simp only [tbs] at h2
        omega
    · cases hc
theorem symR_name : ∀ (r : List ARule), ∀ c ∈ symbolsR r, c.length < rbs r
  | [], c, hc => by cases hc
  | x :: r, c, hc => by
    simp only [symbolsR, List.mem_append] at hc
    simp only [rbs]
    rcases hc with (hc | hc) | hc
    · have := wordT_name _ x.left (Nat.le_refl _) c hc; omega
    · have := wordT_name _ x.right (Nat.le_refl _) c hc; omega
    · have := symR_name r c hc; omega
theorem sys_name {r : List ARule} (hr : rbs r < 2 ^ 28) : ∀ c ∈ allN (systemE r).1, c.length < 2 ^ 28 := by
  intro c hc
  unfold systemE at hc
  split at hc
  · cases hc
  · split at hc
    · rw [allN_rl] at hc
      have := symR_name r c hc; omega
    · cases hc
theorem sys_word {r : List ARule} (hr : rbs r < 2 ^ 28) : ∀ x ∈ (systemE r).1, x.right.length < 2 ^ 28 := by
  intro x hx
  unfold systemE at hx
  split at hx
  · cases hx
  · split at hx
    · obtain ⟨y, hy, rfl⟩ := List.mem_map.1 hx
      have hm := rbs_mem hy
      have h2 := wordT_len _ y.right (Nat.le_refl _)
      have h5 := size_le_tb y.right
      simp only [toRl]; omega
    · cases hx
theorem mem_allN {l : List ARl} {x : ARl} (hx : x ∈ l) {c : Str} (hc : c ∈ x.right) : c ∈ allN l := by
  induction l with
  | nil => cases hx
  | cons y l ih =>
    simp only [allN, List.mem_append]
    rcases List.mem_cons.1 hx with rfl | hx
    · exact .inl (.inr hc)
    · exact .inr (ih hx)
/-- What is kept while an automaton is looked for. -/
structure FInv (l : List ARl) (bound states : Int) (a : AAut) : Prop where
  in0 : In0 a
  bd : a.bound = bound
  st : a.states ≤ states
  nm : ∀ x ∈ a.moves, x.name ∈ allN l
theorem FInv.okA {l : List ARl} {bound states : Int} {a : AAut} (h : FInv l bound states a) (hb : bound ≤ 16) (hs : states ≤ 256) : OkA a.moves := fun x hx => by
  have h1 := h.in0.mv x hx
  have h2 := h.st
  have h3 := h.bd
  omega
theorem initA_inv {l : List ARl} {bound states : Int} (hb : 0 ≤ bound) (hs : 1 ≤ states) : ∀ (ns : List Str) (a : AAut), FInv l bound states a → a.states = 1 → (∀ n ∈ ns, n ∈ allN l) →
    FInv l bound states (ns.foldl (fun a n => insA a ⟨0, 0, n, 0⟩) a) ∧ (ns.foldl (fun a n => insA a ⟨0, 0, n, 0⟩) a).states = 1 ∧ (ns.foldl (fun a n => insA a ⟨0, 0, n, 0⟩) a).moves.length ≤ a.moves.length + ns.length
  | [], a, h, h1, _ => ⟨h, h1, Nat.le_refl _⟩
  | n :: ns, a, h, h1, hn => by
    have hi : FInv l bound states (insA a ⟨0, 0, n, 0⟩) := ⟨h.in0.insA ⟨by simp only; omega, by simp only; omega, by simp only; have := h.bd; omega⟩, h.bd, h.st, fun x hx => by
      rcases (insM_mem h.in0.ord).1 hx with hx | rfl
      · exact h.nm x hx
      · exact hn n (by simp)⟩
    have hl : (insA a ⟨0, 0, n, 0⟩).moves.length ≤ a.moves.length + 1 := by
      show (insM _ _).length ≤ _
      rw [insM_len h.in0.ord]; split <;> omega
    obtain ⟨k1, k2, k3⟩ := initA_inv hb hs ns (insA a ⟨0, 0, n, 0⟩) hi h1 fun c hc => hn c (by simp [hc])
    exact ⟨k1, k2, by simp only [List.foldl_cons, List.length_cons]; omega⟩
theorem find_loop (r : List ARule) (hr : rbs r < 2 ^ 28) (bound states : Int) (hb : 0 ≤ bound ∧ bound ≤ 16) (hs : 1 ≤ states ∧ states ≤ 256) (l : List ARl) (hl : l = (systemE r).1) (T : AAut × Int) :
    ∀ (f : Nat) (a : AAut), 1 ≤ f → 4097 ≤ f + a.moves.length → FInv l bound states a → a.moves.length < 2 ^ 36 → findGo r l states f a = T →
      bounds_Find.L4 (encRs r) (.int .i64 states) (.ptr 0 0) (encRls l) (.ptr 1 0) 0 [.cells t_Automaton zAu, .cells t_Automaton (cAu a)] (Ends 0 bounds_Find.rs fun x' H' => x' = findV T ∧ H' = []) := by
  intro f
  induction f with
  | zero => intro a h1; omega
  | succ f ih =>
    intro a _ hf hi hlen hT
    have hz := sys_sz (r := r) (by omega)
    rw [← hl] at hz
    obtain ⟨z1, z2, z3⟩ := hz
    have hst := hi.in0.st
    have hst2 := hi.st
    have hok := hi.okA hb.2 hs.2
    have hsz : Sz r a := ⟨hr, by omega, fun x hx => by
      have := sys_name hr x.name (by rw [← hl]; exact hi.nm x hx)
      omega⟩
    refine bounds_Find.G4 ?_
    push_cast
    refine .of (bounds_lacks_s l a a.states.toNat (by omega) (by omega) hok (by omega) z1 z3) ?_
    simp only [findGo] at hT
    cases hlk : lacksM a.moves a.states.toNat l with
    | none =>
      rw [hlk] at hT
      simp only at hT
      push_cast [lackV]
      refine .of (bounds_Check_s r a hsz) ?_
      by_cases hc : checkB r a = 0
      · rw [if_neg (by simpa using hc)] at hT
        subst hT
        push_cast [hc]
        exact pf_ret (by push_cast [bounds_Find.rs]; rfl)
      · rw [if_pos hc] at hT
        subst hT
        push_cast [hc]
        exact pf_ret (by push_cast [bounds_Find.rs]; rfl)
    | some m =>
      rw [hlk] at hT
      simp only at hT
      obtain ⟨x, hx, p, hp, s, hs', hme, _⟩ := lacks_some hlk
      have hw := sys_word hr x (by rw [← hl]; exact hx)
      push_cast [lackV]
      refine .of (bounds_add_s a m states hi.in0.ord hok (by omega) (by omega) (by rw [hme]; simp only; omega) (by rw [hme]; simp only; omega)) ?_
      cases hk : (addM a m states).2 with
      | false =>
        rw [hk, if_neg (by simp)] at hT
        subst hT
        push_cast
        exact pf_ret (by push_cast [bounds_Find.rs]; rfl)
      | true =>
        rw [hk, if_pos rfl] at hT
        obtain ⟨g1, g2, g3, g4, g5, g6, g7⟩ := add_grows hi.in0 hok (by omega) hlk hk
        have hi2 : FInv l bound states (addM a m states).1 := ⟨g1, by rw [g2, hi.bd], g3, fun y hy => by
          rcases g7 y hy with hy | ⟨_, hy⟩
          · exact hi.nm y hy
          · rw [hme] at hy; exact mem_allN hx hy⟩
        push_cast
        exact ih _ (by omega) (by omega) hi2 (by omega) hT
theorem bounds_Find_s (r : List ARule) (bound states : Int) (hr : rbs r < 2 ^ 28) : PF n_bounds_Find [encRs r, .int .i64 bound, .int .i64 states] (findV (findB r bound states)) := by
  refine pf_of bounds_Find.ok rfl ?_
  generalize hT : findB r bound states = T
  unfold findB at hT
  push_cast
  refine .of (bounds_system_s r (by omega)) ?_
  obtain ⟨z1, z2, z3⟩ := sys_sz (r := r) (by omega)
  have hnm := sys_name hr
  by_cases h1 : ¬ (systemE r).2 = 0
  · rw [if_pos h1] at hT
    subst hT
    push_cast [eq_false h1]
    exact pf_ret (by push_cast [bounds_Find.rs]; rfl)
  have h1 : (systemE r).2 = 0 := Classical.not_not.1 h1
  rw [h1, if_neg (by simp)] at hT
  rw [h1]
  by_cases h2 : bound < 0
  · rw [if_pos (.inl h2)] at hT
    subst hT
    push_cast [eq_true h2]
    exact pf_ret (by push_cast [bounds_Find.rs]; rfl)
  by_cases h3 : 16 < bound
  · rw [if_pos (.inr (.inl h3))] at hT
    subst hT
    push_cast [eq_false h2, eq_true h3]
    exact pf_ret (by push_cast [bounds_Find.rs]; rfl)
  by_cases h4 : states < 1
  · rw [if_pos (.inr (.inr (.inl h4)))] at hT
    subst hT
    push_cast [eq_false h2, eq_false h3, eq_true h4]
    exact pf_ret (by push_cast [bounds_Find.rs]; rfl)
  by_cases h5 : 256 < states
  · rw [if_pos (.inr (.inr (.inr h5)))] at hT
    subst hT
    push_cast [eq_false h2, eq_false h3, eq_false h4, eq_true h5]
    exact pf_ret (by push_cast [bounds_Find.rs]; rfl)
  rw [if_neg (by omega)] at hT
  generalize hl : (systemE r).1 = l at z1 z2 z3 hnm hT
  have h0 : [V.int .i64 1, V.int .i64 bound, V.sl 4 []] = cAu ⟨1, bound, []⟩ := rfl
  push_cast [eq_false h2, eq_false h3, eq_false h4, eq_false h5, hl, h0]
  refine .of (bounds_names_s l z1 z2) ?_
  have hnl : (namesM l).length ≤ (allN l).length := by
    have := Go.Dw.comp_le (Proofs.sortS (allN l))
    rw [show (Proofs.sortS (allN l)).length = (allN l).length from (List.mergeSort_perm _ _).length_eq] at this
    exact this
  have hrl := symbolsR_len r
  have hal : (allN l).length ≤ rbs r := by
    rw [← hl]; unfold systemE
    split
    · simp [allN]
    · split
      · rw [allN_rl]; exact hrl
      · simp [allN]
  have hnn : ∀ n ∈ namesM l, n ∈ allN l := fun n hn => namesM_mem.1 hn
  have hi0 : FInv l bound states ⟨1, bound, []⟩ := ⟨⟨Int.le_refl _, List.Pairwise.nil, fun x hx => by cases hx⟩, rfl, by show 1 ≤ states; omega, fun x hx => by cases hx⟩
  have hinv : ∀ k, FInv l bound states (initA bound ((namesM l).take k)) ∧ (initA bound ((namesM l).take k)).states = 1 ∧ (initA bound ((namesM l).take k)).moves.length ≤ ((namesM l).take k).length := fun k => by
    have := initA_inv (l := l) (bound := bound) (states := states) (by omega) (by omega) ((namesM l).take k) ⟨1, bound, []⟩ hi0 rfl fun n hn => hnn n (List.mem_of_mem_take hn)
    refine ⟨this.1, this.2.1, ?_⟩
    have h3 := this.2.2
    simp only [List.length_nil, Nat.zero_add] at h3
    exact h3
  unfold initA at hT
  generalize namesM l = ns at hT hnl hnn hinv ⊢
  have hns : ns.length < 2 ^ 28 := by omega
  have hbd4 : ∀ s, V.agg [V.int .i64 0, V.int .i64 0, V.str s, V.int .i64 0] = encMv ⟨0, 0, s, 0⟩ := fun _ => rfl
  push_cast
  refine loop_up (n := ns.length) (R := fun k => bounds_Find.L8 (encRs r) (.int .i64 states) (.ptr 0 0) (encRls l) (.ptr 1 0) (encSs ns) (.int .i64 ns.length) (.int .i64 k) 0 [.cells t_Automaton zAu, .cells t_Automaton (cAu (initA bound (ns.take k)))] (Ends 0 bounds_Find.rs fun x' H' => x' = findV T ∧ H' = [])) ?_ ?_ 0 (Nat.zero_le _)
  · intro k hk ih
    refine bounds_Find.G8 ?_
    obtain ⟨i1, i2, i3⟩ := hinv k
    have htk : ns.take (k + 1) = ns.take k ++ [ns.getD k default] := take_succ_getD hk
    have hst : initA bound (ns.take (k + 1)) = insA (initA bound (ns.take k)) ⟨0, 0, ns.getD k default, 0⟩ := by
      unfold initA; rw [htk, List.foldl_append]; rfl
    generalize hn0 : ns.getD k default = n at hst
    rw [hst] at ih
    have htl : (ns.take k).length ≤ ns.length := by simp; omega
    generalize initA bound (ns.take k) = a at i1 i2 i3 ih ⊢
    push_cast [ilt hk, hn0, hbd4]
    refine .of (bounds_insert_s a ⟨0, 0, n, 0⟩ i1.in0.ord (by omega)) ?_
    unfold insV
    push_cast [w64 (show k < 2 ^ 62 by omega)]
    push_cast at ih
    exact ih
  · refine bounds_Find.G8 ?_
    obtain ⟨i1, i2, i3⟩ := hinv ns.length
    rw [List.take_length] at i1 i2 i3 ⊢
    push_cast [inlt (Nat.le_refl _)]
    exact find_loop r hr bound states ⟨by omega, by omega⟩ ⟨by omega, by omega⟩ l hl.symm T 4098 (initA bound ns) (by omega) (by omega) i1 (by omega) hT
end Go.Dw
end
section
set_option linter.unusedVariables false
set_option linter.unusedSimpArgs false
set_option maxRecDepth 100000
namespace Go.Dw
def swapR : List ARule := [⟨.mk [97] false [.mk [98] false [.mk [120] true []]], .mk [99] false [.mk [120] true []]⟩]
def loopA0 : AAut := ⟨1, 1, [⟨0, 0, [97], 0⟩, ⟨0, 0, [98], 0⟩, ⟨0, 0, [99], 0⟩]⟩
def loopA : AAut := ⟨1, 1, [⟨0, 0, [97], 0⟩, ⟨0, 0, [98], 0⟩, ⟨0, 0, [99], 0⟩, ⟨0, 0, [99], 1⟩]⟩
theorem swap_sys : checkSystem swapR = 0 := by decide +kernel
theorem swap_str : swapR.all strR = true := by decide
theorem swap_rl : swapR.map toRl = [⟨[[97], [98]], [[99]]⟩] := by rfl
theorem swap_names : namesM [⟨[[97], [98]], [[99]]⟩] = [[97], [98], [99]] := by
  unfold namesM
  have : allN [⟨[[97], [98]], [[99]]⟩] = [[97], [98], [99]] := rfl
  rw [this]
  have : Proofs.sortS [[97], [98], [99]] = [[97], [98], [99]] := by
    unfold Proofs.sortS
    exact List.mergeSort_of_pairwise (by decide)
  rw [this]; rfl
theorem linked_any (mv : List AMove) (p q : Int) (w : List Str) (h : Int) : linkedM mv p q w h = (readL mv (fun x => decide (x = h)) (p, 17) w).any fun s => decide (s.1 = q) := by
  unfold linkedM readsL sortSp
  have e : ((readL mv (fun x => decide (x = h)) (p, 17) w).mergeSort fun x y => !decide (cfS y x < 0)).Perm (readL mv (fun x => decide (x = h)) (p, 17) w) := List.mergeSort_perm _ _
  exact e.any_eq
theorem swap_reads (mv : List AMove) (h : readL mv (fun _ => true) (0, 17) [[97], [98]] = [(0, 0)]) : readsL mv (fun _ => true) 0 [[97], [98]] = [(0, 0)] := by
  unfold readsL sortSp; rw [h]; simp
theorem swap_lacks0 : lacksM loopA0.moves 1 [⟨[[97], [98]], [[99]]⟩] = some ⟨0, 0, 1, [[99]]⟩ := by
  have h1 := swap_reads loopA0.moves (by decide)
  have h2 : linkedM loopA0.moves 0 0 [[99]] 1 = false := by rw [linked_any]; decide
  simp [lacksM, ruleF, stateF, List.range_succ, h1, spotF, h2]
theorem swap_lacks1 : lacksM loopA.moves 1 [⟨[[97], [98]], [[99]]⟩] = none := by
  have h1 := swap_reads loopA.moves (by decide)
  have h2 : linkedM loopA.moves 0 0 [[99]] 1 = true := by rw [linked_any]; decide
  simp [lacksM, ruleF, stateF, List.range_succ, h1, spotF, h2]
theorem swap_system : systemE swapR = ([⟨[[97], [98]], [[99]]⟩], 0) := by
  unfold systemE
  rw [if_neg (by simp [swap_sys]), if_pos swap_str, swap_rl]
theorem swap_check : checkB swapR loopA = 0 := by
  unfold checkB
  rw [swap_system]
  have h1 : formE loopA = 0 := by decide
  have h2 : loopsM [⟨[[97], [98]], [[99]]⟩] loopA.moves = true := by
    unfold loopsM
    rw [swap_names]
    have a1 : linkedM loopA.moves 0 0 [[97]] 0 = true := by rw [linked_any]; decide
    have a2 : linkedM loopA.moves 0 0 [[98]] 0 = true := by rw [linked_any]; decide
    have a3 : linkedM loopA.moves 0 0 [[99]] 0 = true := by rw [linked_any]; decide
    simp [a1, a2, a3]
  have h3 : lacksM loopA.moves loopA.states.toNat [⟨[[97], [98]], [[99]]⟩] = none := swap_lacks1
  simp [h1, h2, h3]
theorem swap_length : lenB swapR loopA 2 = (4, 0) := by
  unfold lenB
  rw [swap_check]
  rfl
theorem swap_find : findB swapR 1 4 = (loopA, 0) := by
  unfold findB
  rw [swap_system]
  simp only
  rw [swap_names]
  have h0 : initA 1 [[97], [98], [99]] = loopA0 := by decide
  rw [h0]
  have h1 : addM loopA0 ⟨0, 0, 1, [[99]]⟩ 4 = (loopA, true) := by decide
  have e1 : lacksM loopA0.moves loopA0.states.toNat [⟨[[97], [98]], [[99]]⟩] = some ⟨0, 0, 1, [[99]]⟩ := swap_lacks0
  have e2 : lacksM loopA.moves loopA.states.toNat [⟨[[97], [98]], [[99]]⟩] = none := swap_lacks1
  rw [if_neg (by simp), if_neg (by simp)]
  simp only [findGo, e1, h1, if_true, e2, swap_check]
  rfl
theorem l24_swap_s : PF n_l24_swap [] (encRs swapR) := by
  refine pf_of l24_swap.ok rfl ?_
  push_cast
  exact pf_ret (by push_cast [l24_swap.rs]; rfl)
theorem l24_loops_s : PF n_l24_loops [] (encAu loopA) := by
  refine pf_of l24_loops.ok rfl ?_
  push_cast
  exact pf_ret (by push_cast [l24_loops.rs]; rfl)
theorem swap_sz : Sz swapR loopA := ⟨by decide, by decide, by decide⟩
theorem alive24 : PF n_l24_alive [] (.bool true) := by
  refine pf_of l24_alive.ok rfl ?_
  push_cast
  refine .of l24_swap_s ?_
  push_cast
  refine .of l24_loops_s ?_
  push_cast
  refine .of (bounds_Length_s swapR loopA 2 swap_sz) ?_
  rw [swap_length]
  push_cast
  refine .of l24_swap_s ?_
  push_cast
  refine .of (bounds_Find_s swapR 1 4 swap_sz.r) ?_
  rw [swap_find]
  unfold findV
  push_cast
  refine .of l24_swap_s ?_
  push_cast
  refine .of l24_loops_s ?_
  push_cast
  refine .of (bounds_Check_s swapR loopA swap_sz) ?_
  rw [swap_check]
  push_cast
  refine .of l24_swap_s ?_
  push_cast
  refine .of (r24_Check_s swapR loopA swap_sz) ?_
  rw [← checkB_eq, swap_check]
  push_cast
  exact pf_ret (by push_cast [l24_alive.rs])
end Go.Dw
end
section
set_option linter.unusedVariables false
set_option linter.unusedSimpArgs false
set_option maxRecDepth 100000
namespace Go.Dw
open Go.Proofs.YtokdinonifchaaaGreat
section
variable {H : Type} {enc : TypeId × Value → H} {W : World}
theorem c112 : prog.cellsOf 112 = 1 + 1 + 1 + 1 := by kernel_rfl
theorem cAut : prog.cellsOf 48 = 1 + 1 + 1 := by kernel_rfl
theorem c46 : prog.cellsOf 46 = 1 := by kernel_rfl
theorem split4 {α : Type} {cs : List α} {a b c d : Nat} (h : cs.length = a + b + c + d) : cs = (cs.drop 0).take a ++ ((cs.drop a).take b ++ ((cs.drop (a + b)).take c ++ (cs.drop (a + b + c)).take d)) := by
  have h1 : cs.drop (a + b) = (cs.drop (a + b)).take c ++ (cs.drop (a + b + c)).take d := by
    rw [List.take_of_length_le (l := cs.drop (a + b + c)) (by simp; omega), ← List.drop_drop (i := c), List.take_append_drop]
  have h2 : cs.drop a = (cs.drop a).take b ++ cs.drop (a + b) := by rw [← List.drop_drop (i := b), List.take_append_drop]
  rw [← h1, ← h2, List.drop_zero, List.take_append_drop]
theorem br_move : ∀ n, Br enc W n 112 cMv (fun m => m.name.length + 1)
  | 0 => by intro cs x h; simp [DataW.trod] at h
  | n + 1 => by
    intro cs x h hbk
    obtain ⟨xs, m, hm, rfl, hl, hlen, hf⟩ := DataW.trod_struct (P := prog) Go.Proofs.Tryz.underlying112 h
    obtain rfl : n = m := by omega
    rw [c112] at hl
    match xs, hlen with
    | [x0, x1, x2, x3], _ =>
    have f0 : trd enc W n 3 ((cs.drop 0).take (prog.cellsOf 3)) = some x0 := hf 0 _ rfl
    have f1 : trd enc W n 3 ((cs.drop 1).take (prog.cellsOf 3)) = some x1 := hf 1 _ rfl
    have f2 : trd enc W n 9 ((cs.drop 2).take (prog.cellsOf 9)) = some x2 := hf 2 _ rfl
    have f3 : trd enc W n 3 ((cs.drop 3).take (prog.cellsOf 3)) = some x3 := hf 3 _ rfl
    rw [c3] at f0 f1 f3; rw [c9] at f2
    simp only [List.map_cons, List.map_nil, Rows.uptoBulk, Rows.uptoBulkAll] at hbk ⊢
    obtain ⟨a, b0, d0⟩ := br_int _ _ f0 (by omega)
    obtain ⟨b, b1, d1⟩ := br_int _ _ f1 (by omega)
    obtain ⟨s, b2, d2⟩ := br_str _ _ f2 (by omega)
    obtain ⟨c, b3, d3⟩ := br_int _ _ f3 (by omega)
    try dsimp only at b2
    refine ⟨⟨a, b, s, c⟩, by dsimp only; omega, ?_⟩
    rw [split4 hl]
    exact d0.app (d1.app (d2.app d3))
def mvB (l : List AMove) : Nat := sumB (fun m => m.name.length + 1) l
theorem mvB_len : ∀ l : List AMove, l.length ≤ mvB l
  | [] => by simp [mvB, sumB]
  | a :: l => by have := mvB_len l; simp only [mvB, sumB, List.length_cons] at this ⊢; omega
theorem mvB_mem {l : List AMove} {x : AMove} (h : x ∈ l) : x.name.length < mvB l := by
  have := sum_mem (b := fun m : AMove => m.name.length + 1) h
  unfold mvB
  omega
theorem sz_of {r : List ARule} {a : AAut} (hr : rbs r < 2 ^ 28) (ha : mvB a.moves < 2 ^ 28) : Sz r a :=
  ⟨hr, by have := mvB_len a.moves; omega, fun x hx => by have := mvB_mem hx; omega⟩
theorem br_aut : ∀ n, Br enc W n t_Automaton cAu (fun a => mvB a.moves)
  | 0 => by intro cs x h; simp [DataW.trod] at h
  | n + 1 => by
    intro cs x h hbk
    obtain ⟨xs, m, hm, rfl, hl, hlen, hf⟩ := DataW.trod_struct (P := prog) Go.Proofs.Tryz.underlying48 h
    obtain rfl : n = m := by omega
    rw [cAut] at hl
    match xs, hlen with
    | [x0, x1, x2], _ =>
    have f0 : trd enc W n 3 ((cs.drop 0).take (prog.cellsOf 3)) = some x0 := hf 0 _ rfl
    have f1 : trd enc W n 3 ((cs.drop 1).take (prog.cellsOf 3)) = some x1 := hf 1 _ rfl
    have f2 : trd enc W n 46 ((cs.drop 2).take (prog.cellsOf 46)) = some x2 := hf 2 _ rfl
    rw [c3] at f0 f1; rw [c46] at f2
    simp only [List.map_cons, List.map_nil, Rows.uptoBulk, Rows.uptoBulkAll] at hbk ⊢
    obtain ⟨a, b0, d0⟩ := br_int _ _ f0 (by omega)
    obtain ⟨b, b1, d1⟩ := br_int _ _ f1 (by omega)
    obtain ⟨l, b2, d2⟩ := br_slice (n := n) (sz := 4) (c := cMv) (b := fun m => m.name.length + 1) Go.Proofs.Tryz.underlying46 c112 (by omega) (fun _ => rfl) (fun m hm => br_move m) _ _ f2 (by omega)
    try dsimp only at b2
    refine ⟨⟨a, b, l⟩, by simp only [mvB]; omega, ?_⟩
    rw [split3 hl]
    exact d0.app (d1.app d2)
end
end Go.Dw
end
section
set_option linter.unusedVariables false
set_option linter.unusedSimpArgs false
set_option maxRecDepth 100000
namespace Go.Dw
theorem BoundsLengths_s (r : List ARule) (a : AAut) (n : Int) (hs : Sz r a) : SpecE prog n_l24_BoundsLengths [encRs r, encAu a, .int .i64 n] [] (fun x' H' => x' = .bool true ∧ H' = []) := by
  refine spece_of_run mixed l24_BoundsLengths.ok rfl ?_
  by_cases h0 : 40 < a.states ∧ a.states ≤ 256
  · push_cast [eq_true h0.1, eq_true h0.2]
    exact pf_ret (by push_cast [l24_BoundsLengths.rs])
  by_cases h1 : 40 < a.states
  · have h2 : ¬ a.states ≤ 256 := fun h => h0 ⟨h1, h⟩
    push_cast [eq_true h1, eq_false h2]
    refine .of (bounds_Length_s r a n hs) ?_
    push_cast
    refine .of (r24_Check_s r a hs) ?_
    rw [← checkB_eq]
    by_cases c1 : checkB r a = 0
    · obtain ⟨_, _, k3, _, _⟩ := checkB_ok c1
      rw [c1]
      by_cases c2 : n < 0
      · have hl : lenB r a n = (0, 2) := by unfold lenB; rw [c1, if_neg (by simp), if_pos (.inl c2)]
        rw [hl]
        push_cast [eq_true c2]
        refine .of alive24 ?_
        push_cast
        exact pf_ret (by push_cast [l24_BoundsLengths.rs])
      · by_cases c3 : 4000 < n
        · have hl : lenB r a n = (0, 2) := by unfold lenB; rw [c1, if_neg (by simp), if_pos (.inr c3)]
          rw [hl]
          push_cast [eq_false c2, eq_true c3]
          refine .of alive24 ?_
          push_cast
          exact pf_ret (by push_cast [l24_BoundsLengths.rs])
        · have hl : lenB r a n = lenV' (if n = 0 then some 0 else lenP (longM (r.map fun x => (wordT x.right).1)) n.toNat a.bound.toNat 1) := by unfold lenB; rw [c1, if_neg (by simp), if_neg (by omega)]
          have hq : (if n = 0 then some 0 else lenP (longM (r.map fun x => (wordT x.right).1)) n.toNat a.bound.toNat 1) = if n = 0 then some 0 else lenQ (longM (r.map fun x => (wordT x.right).1)) n.toNat a.bound.toNat 1 := by
            by_cases h : n = 0
            · rw [if_pos h, if_pos h]
            · rw [if_neg h, if_neg h, lenP_Q (by omega)]
          have hr2 := r24_Length_s r a n hs.r k3.bd (by omega) (by omega)
          unfold lenR at hr2
          rw [hq] at hl
          rw [hl]
          push_cast [eq_false c2, eq_false c3]
          refine .of hr2 ?_
          generalize (if n = 0 then some 0 else lenQ (longM (r.map fun x => (wordT x.right).1)) n.toNat a.bound.toNat 1) = o
          cases o with
          | none =>
            push_cast [lenV', lenW]
            refine .of alive24 ?_
            push_cast
            exact pf_ret (by push_cast [l24_BoundsLengths.rs])
          | some v =>
            push_cast [lenV', lenW]
            refine .of alive24 ?_
            push_cast
            exact pf_ret (by push_cast [l24_BoundsLengths.rs])
    · have hl : lenB r a n = (0, checkB r a) := by unfold lenB; rw [if_pos (by simpa using c1)]
      rw [hl]
      push_cast [eq_false c1]
      refine .of alive24 ?_
      push_cast
      exact pf_ret (by push_cast [l24_BoundsLengths.rs])
  · push_cast [eq_false h1]
    refine .of (bounds_Length_s r a n hs) ?_
    push_cast
    refine .of (r24_Check_s r a hs) ?_
    rw [← checkB_eq]
    by_cases c1 : checkB r a = 0
    · obtain ⟨_, _, k3, _, _⟩ := checkB_ok c1
      rw [c1]
      by_cases c2 : n < 0
      · have hl : lenB r a n = (0, 2) := by unfold lenB; rw [c1, if_neg (by simp), if_pos (.inl c2)]
        rw [hl]
        push_cast [eq_true c2]
        refine .of alive24 ?_
        push_cast
        exact pf_ret (by push_cast [l24_BoundsLengths.rs])
      · by_cases c3 : 4000 < n
        · have hl : lenB r a n = (0, 2) := by unfold lenB; rw [c1, if_neg (by simp), if_pos (.inr c3)]
          rw [hl]
          push_cast [eq_false c2, eq_true c3]
          refine .of alive24 ?_
          push_cast
          exact pf_ret (by push_cast [l24_BoundsLengths.rs])
        · have hl : lenB r a n = lenV' (if n = 0 then some 0 else lenP (longM (r.map fun x => (wordT x.right).1)) n.toNat a.bound.toNat 1) := by unfold lenB; rw [c1, if_neg (by simp), if_neg (by omega)]
          have hq : (if n = 0 then some 0 else lenP (longM (r.map fun x => (wordT x.right).1)) n.toNat a.bound.toNat 1) = if n = 0 then some 0 else lenQ (longM (r.map fun x => (wordT x.right).1)) n.toNat a.bound.toNat 1 := by
            by_cases h : n = 0
            · rw [if_pos h, if_pos h]
            · rw [if_neg h, if_neg h, lenP_Q (by omega)]
          have hr2 := r24_Length_s r a n hs.r k3.bd (by omega) (by omega)
          unfold lenR at hr2
          rw [hq] at hl
          rw [hl]
          push_cast [eq_false c2, eq_false c3]
          refine .of hr2 ?_
          generalize (if n = 0 then some 0 else lenQ (longM (r.map fun x => (wordT x.right).1)) n.toNat a.bound.toNat 1) = o
          cases o with
          | none =>
            push_cast [lenV', lenW]
            refine .of alive24 ?_
            push_cast
            exact pf_ret (by push_cast [l24_BoundsLengths.rs])
          | some v =>
            push_cast [lenV', lenW]
            refine .of alive24 ?_
            push_cast
            exact pf_ret (by push_cast [l24_BoundsLengths.rs])
    · have hl : lenB r a n = (0, checkB r a) := by unfold lenB; rw [if_pos (by simpa using c1)]
      rw [hl]
      push_cast [eq_false c1]
      refine .of alive24 ?_
      push_cast
      exact pf_ret (by push_cast [l24_BoundsLengths.rs])
end Go.Dw
end
