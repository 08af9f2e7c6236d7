/-
  Contracts and lemmas for BoundsFinds: part g of 8.
-/
import Derived.Test.YtokdinonifchaaaGreatKff
import Derived.Test.YtokdinonifchaaaGreatKfe
import Derived.Test.YtokdinonifchaaaGreatKfc
set_option linter.unusedVariables false
set_option linter.unusedSimpArgs false
set_option maxRecDepth 100000
section
namespace Go.Dw
structure In0 (a : AAut) : Prop where
  st : 1 ≤ a.states
  ord : SortedM a.moves
  mv : ∀ x ∈ a.moves, (0 ≤ x.src ∧ x.src < a.states) ∧ (0 ≤ x.dst ∧ x.dst < a.states) ∧ 0 ≤ x.h ∧ x.h ≤ a.bound
theorem In0.insA {a : AAut} {x : AMove} (h : In0 a) (hx : (0 ≤ x.src ∧ x.src < a.states) ∧ (0 ≤ x.dst ∧ x.dst < a.states) ∧ 0 ≤ x.h ∧ x.h ≤ a.bound) : In0 (insA a x) :=
  ⟨h.st, insM_sorted h.ord, fun y hy => by
    rcases (insM_mem h.ord).1 hy with hy | rfl
    · exact h.mv y hy
    · exact hx⟩
theorem In0.setSt {a : AAut} (h : In0 a) : In0 (setSt a) :=
  ⟨by have := h.st; show 1 ≤ a.states + 1; omega, h.ord, fun y hy => by
    have := h.mv y hy
    show (0 ≤ y.src ∧ y.src < a.states + 1) ∧ (0 ≤ y.dst ∧ y.dst < a.states + 1) ∧ 0 ≤ y.h ∧ y.h ≤ a.bound
    omega⟩
theorem addA_in {m : AMs} {a : AAut} {at_ : Int} {c : Str} {w : List Str} (h : In0 a) (hat : 0 ≤ at_ ∧ at_ < a.states) (hq : 0 ≤ m.q ∧ m.q < a.states) (hh : 0 ≤ m.h ∧ m.h ≤ a.bound) :
    In0 (addA m a at_ c w) ∧ (addA m a at_ c w).bound = a.bound ∧ a.states ≤ (addA m a at_ c w).states ∧ (0 ≤ addTo m a w ∧ addTo m a w < (addA m a at_ c w).states) := by
  have hst := h.st
  unfold addA addTo
  by_cases hw : w = []
  · simp only [if_pos hw]
    exact ⟨h.insA ⟨hat, hq, hh⟩, rfl, Int.le_refl _, hq⟩
  · simp only [if_neg hw]
    refine ⟨h.setSt.insA ⟨?_, ?_, hh⟩, rfl, ?_, ?_⟩
    · show 0 ≤ at_ ∧ at_ < a.states + 1; omega
    · show 0 ≤ a.states ∧ a.states < a.states + 1; omega
    · show a.states ≤ a.states + 1; omega
    · show 0 ≤ a.states ∧ a.states < a.states + 1; omega
theorem addA_mem {m : AMs} {a : AAut} {at_ : Int} {c : Str} {w : List Str} (h : In0 a) {y : AMove} : y ∈ (addA m a at_ c w).moves ↔ y ∈ a.moves ∨ y = ⟨at_, addTo m a w, c, m.h⟩ := by
  unfold addA
  split
  · exact insM_mem h.ord
  · exact insM_mem (l := (setSt a).moves) h.ord
theorem addA_len {m : AMs} {a : AAut} {at_ : Int} {c : Str} {w : List Str} (h : In0 a) : (addA m a at_ c w).moves.length = if (⟨at_, addTo m a w, c, m.h⟩ : AMove) ∈ a.moves then a.moves.length else a.moves.length + 1 := by
  unfold addA
  split
  · exact insM_len h.ord
  · exact insM_len (l := (setSt a).moves) h.ord
theorem addWd_in {m : AMs} : ∀ (w : List Str) {a : AAut} {at_ : Int}, In0 a → (0 ≤ at_ ∧ at_ < a.states) → (0 ≤ m.q ∧ m.q < a.states) → (0 ≤ m.h ∧ m.h ≤ a.bound) →
    In0 (addWd m w a at_).1 ∧ (addWd m w a at_).1.bound = a.bound ∧ a.states ≤ (addWd m w a at_).1.states ∧ a.moves.length ≤ (addWd m w a at_).1.moves.length ∧ (∀ y ∈ a.moves, y ∈ (addWd m w a at_).1.moves) ∧
      (∀ y ∈ (addWd m w a at_).1.moves, y ∈ a.moves ∨ y.h = m.h ∧ y.name ∈ w) ∧ ((addWd m w a at_).2 = true → w ≠ [] → (addWd m w a at_).1.moves.length ≤ 4096)
  | [], a, at_, h, h1, h2, h3 => ⟨h, rfl, Int.le_refl _, Nat.le_refl _, fun y hy => hy, fun y hy => .inl hy, fun _ hn => absurd rfl hn⟩
  | c :: w, a, at_, h, h1, h2, h3 => by
    obtain ⟨k1, k2, k3, k4⟩ := addA_in (c := c) (w := w) h h1 h2 h3
    have k5 : a.moves.length ≤ (addA m a at_ c w).moves.length := by rw [addA_len h]; split <;> omega
    rw [addWd_cons]
    split
    · rename_i hle
      obtain ⟨i1, i2, i3, i4, i5, i6, i7⟩ := addWd_in (m := m) w k1 k4 ⟨h2.1, Int.lt_of_lt_of_le h2.2 k3⟩ (by rw [k2]; exact h3)
      refine ⟨i1, by rw [i2, k2], by omega, by omega, fun y hy => i5 y ((addA_mem h).2 (.inl hy)), fun y hy => ?_, fun ht _ => ?_⟩
      · rcases i6 y hy with hy | ⟨e1, e2⟩
        · rcases (addA_mem h).1 hy with hy | rfl
          · exact .inl hy
          · exact .inr ⟨rfl, by simp⟩
        · exact .inr ⟨e1, by simp [e2]⟩
      · by_cases hw : w = []
        · subst hw; exact hle
        · exact i7 ht hw
    · refine ⟨k1, k2, k3, k5, fun y hy => (addA_mem h).2 (.inl hy), fun y hy => ?_, fun ht => by cases ht⟩
      rcases (addA_mem h).1 hy with hy | rfl
      · exact .inl hy
      · exact .inr ⟨rfl, by simp⟩
theorem longGo_path (mv : List AMove) (p : Int) (w : List Str) (h : Int) : ∀ n, ∃ s ∈ readL mv (fun x => decide (x = h)) (p, 17) (w.take (longGo mv p w h n).2), s.1 = (longGo mv p w h n).1
  | 0 => ⟨(p, 17), by simp [longGo, readL], rfl⟩
  | n + 1 => by
    simp only [longGo]
    cases hl : (readsL mv (fun x => decide (x = h)) p (w.take (n + 1))).getLast? with
    | none => exact longGo_path mv p w h n
    | some s => exact ⟨s, readsL_mem.1 (List.mem_of_getLast? hl), rfl⟩
theorem readL_st {a : AAut} (h : In0 a) (fit : Int → Bool) {p : Int} (hp : 0 ≤ p ∧ p < a.states) (w : List Str) : ∀ s ∈ readL a.moves fit (p, 17) w, 0 ≤ s.1 ∧ s.1 < a.states := by
  intro s hs
  rcases List.eq_nil_or_concat w with rfl | ⟨w, n, rfl⟩
  · have : s = (p, 17) := by simpa [readL] using hs
    rw [this]; exact hp
  · rw [List.concat_eq_append, readL_snoc, nextL_mem] at hs
    obtain ⟨u, _, hs⟩ := hs
    obtain ⟨x, hx, rfl⟩ := List.mem_map.1 hs
    exact (h.mv x (List.mem_filter.1 (List.mem_filter.1 hx).1).1).2.1
theorem lacks_some {mv : List AMove} {S : Nat} {l : List ARl} {m : AMs} (h : lacksM mv S l = some m) : ∃ x ∈ l, ∃ p, p < S ∧ ∃ s ∈ readL mv (fun _ => true) ((p : Int), 17) x.left, m = ⟨p, s.1, s.2 + 1, x.right⟩ ∧ linkedM mv p s.1 x.right (s.2 + 1) = false := by
  obtain ⟨x, hx, h1⟩ := List.exists_of_findSome?_eq_some h
  obtain ⟨p, hp, h2⟩ := List.exists_of_findSome?_eq_some h1
  obtain ⟨s, hs, h3⟩ := List.exists_of_findSome?_eq_some h2
  refine ⟨x, hx, p, List.mem_range.1 hp, s, readsL_mem.1 hs, ?_⟩
  unfold spotF at h3
  split at h3
  · cases h3
  · rename_i hl
    cases h3
    exact ⟨rfl, by simpa using hl⟩
theorem add_grows {a : AAut} {m : AMs} {states : Int} {l : List ARl} (h : In0 a) (ho : OkA a.moves) (hs2 : a.states ≤ 256) (hl : lacksM a.moves a.states.toNat l = some m) (hok : (addM a m states).2 = true) :
    In0 (addM a m states).1 ∧ (addM a m states).1.bound = a.bound ∧ (addM a m states).1.states ≤ states ∧ a.moves.length < (addM a m states).1.moves.length ∧ (addM a m states).1.moves.length ≤ 4096 ∧
      (∀ y ∈ a.moves, y ∈ (addM a m states).1.moves) ∧ ∀ y ∈ (addM a m states).1.moves, y ∈ a.moves ∨ y.h = m.h ∧ y.name ∈ m.word := by
  obtain ⟨x, hx, p, hp, s, hs, rfl, hlk⟩ := lacks_some hl
  have hst := h.st
  have hpi : 0 ≤ (p : Int) ∧ (p : Int) < a.states := by omega
  have hsq := readL_st h _ hpi _ s hs
  have hs3 := (readL_in ho (fun _ => true) (show 0 ≤ (p : Int) ∧ (p : Int) < 256 by omega) _ s hs).2
  unfold addM at hok ⊢
  by_cases hc : a.bound < s.2 + 1 ∨ x.right = []
  · rw [if_pos hc] at hok; cases hok
  · rw [if_neg hc] at hok ⊢
    have hc1 : ¬ a.bound < s.2 + 1 := fun h => hc (.inl h)
    have hc2 : x.right ≠ [] := fun h => hc (.inr h)
    simp only at hok ⊢
    have hlg : (longestM a.moves p x.right (s.2 + 1)).2 ≤ x.right.length - 1 := longGo_le _ _ _ _ _
    have hpath := longGo_path a.moves p x.right (s.2 + 1) (x.right.length - 1)
    change ∃ t ∈ readL a.moves (fun y => decide (y = s.2 + 1)) ((p : Int), 17) (x.right.take (longestM a.moves p x.right (s.2 + 1)).2), t.1 = (longestM a.moves p x.right (s.2 + 1)).1 at hpath
    generalize longestM a.moves p x.right (s.2 + 1) = lg at hok hlg hpath ⊢
    obtain ⟨t, ht, hte⟩ := hpath
    have htr := readL_st h _ hpi _ t ht
    rw [hte] at htr
    have hwl : 0 < x.right.length := List.length_pos_iff.2 hc2
    have hn : lg.2 < x.right.length := by omega
    have hdr := drop_getD hn
    have hwd := addWd_in (m := ⟨p, s.1, s.2 + 1, x.right⟩) (x.right.drop lg.2) h htr hsq ⟨by show 0 ≤ s.2 + 1; omega, by show s.2 + 1 ≤ a.bound; omega⟩
    obtain ⟨w1, w2, w3, w4, w5, w6, w7⟩ := hwd
    unfold addEnd at hok ⊢
    rw [Bool.and_eq_true, decide_eq_true_eq] at hok
    refine ⟨w1, w2, hok.2, ?_, w7 hok.1 (by rw [hdr]; simp), w5, fun y hy => (w6 y hy).imp id fun ⟨e1, e2⟩ => ⟨e1, List.mem_of_mem_drop e2⟩⟩
    rw [hdr] at hok ⊢
    generalize hcc : x.right.getD lg.2 default = c at hok ⊢
    generalize hR : x.right.drop (lg.2 + 1) = R at hok ⊢
    rw [addWd_cons]
    have hnew : (⟨lg.1, addTo ⟨p, s.1, s.2 + 1, x.right⟩ a R, c, s.2 + 1⟩ : AMove) ∉ a.moves := by
      intro hm
      by_cases hRn : R = []
      · unfold addTo at hm
        rw [if_pos hRn] at hm
        have hlast : lg.2 + 1 = x.right.length := by
          rw [hRn] at hR
          have := List.drop_eq_nil_iff.1 hR; omega
        have : linkedM a.moves p s.1 x.right (s.2 + 1) = true := by
          rw [linked_iff]
          have e : x.right = x.right.take lg.2 ++ [c] := by
            rw [← hcc, ← take_succ_getD hn, hlast, List.take_length]
          refine ⟨(s.1, if s.2 + 1 < t.2 then s.2 + 1 else t.2), ?_, rfl⟩
          rw [e, readL_snoc, nextL_mem]
          exact ⟨t, ht, List.mem_map.2 ⟨_, List.mem_filter.2 ⟨List.mem_filter.2 ⟨hm, by simp [hte]⟩, by simp⟩, rfl⟩⟩
        rw [hlk] at this; cases this
      · unfold addTo at hm
        rw [if_neg hRn] at hm
        have := (h.mv _ hm).2.1.2
        simp only at this; omega
    have k5 : (addA ⟨p, s.1, s.2 + 1, x.right⟩ a lg.1 c R).moves.length = a.moves.length + 1 := by rw [addA_len h, if_neg hnew]
    split
    · obtain ⟨k1, k2, k3, k4⟩ := addA_in (m := ⟨p, s.1, s.2 + 1, x.right⟩) (c := c) (w := R) h htr hsq ⟨by show 0 ≤ s.2 + 1; omega, by show s.2 + 1 ≤ a.bound; omega⟩
      have := (addWd_in (m := ⟨p, s.1, s.2 + 1, x.right⟩) R k1 k4 ⟨hsq.1, Int.lt_of_lt_of_le hsq.2 k3⟩ ⟨by show 0 ≤ s.2 + 1; omega, by rw [k2]; show s.2 + 1 ≤ a.bound; omega⟩).2.2.2.1
      rw [k5] at this
      exact this
    · show _ < (addA ⟨p, s.1, s.2 + 1, x.right⟩ a lg.1 c R).moves.length
      omega
end Go.Dw
end
section
namespace Go.Dw
def zA : AAut := ⟨0, 0, []⟩
def findGo (r : List ARule) (l : List ARl) (states : Int) : Nat → AAut → AAut × Int
  | 0, _ => (zA, 12)
  | f + 1, a => match lacksM a.moves a.states.toNat l with
    | none => if checkB r a ≠ 0 then (zA, 12) else (a, 0)
    | some m => if (addM a m states).2 then findGo r l states f (addM a m states).1 else (zA, 12)
def initA (bound : Int) (l : List Str) : AAut := l.foldl (fun a n => insA a ⟨0, 0, n, 0⟩) ⟨1, bound, []⟩
def findB (r : List ARule) (bound states : Int) : AAut × Int :=
  if (systemE r).2 ≠ 0 then (zA, (systemE r).2) else if bound < 0 ∨ 16 < bound ∨ states < 1 ∨ 256 < states then (zA, 2) else findGo r (systemE r).1 states 4098 (initA bound (namesM (systemE r).1))
def findV (x : AAut × Int) : V := .tup [encAu x.1, .int .i64 x.2]
theorem wordT_name : ∀ (n : Nat) (t : Term), size t ≤ n → ∀ c ∈ (wordT t).1, c.length < tb t
  | 0, t, h => by have := size_args t; omega
  | n + 1, t, h => by
    have hs := size_args t
    intro c hc
    rw [wordT_step] at hc
    split at hc
    · rename_i hcc
      have hmem := getD_mem (l := t.args) (k := 0) (by omega)
      have hm := size_mem hmem
      rcases List.mem_cons.1 hc with rfl | hc
      · obtain ⟨nm, v, l⟩ := t
        simp only [Term.name, tb]; omega
      · have h1 := wordT_name n (t.args.getD 0 default) (by omega) c hc
        have h2 := tb_mem hmem
        obtain ⟨nm, v, l⟩ := t
        simp only [tb]
        simp only [Term.args] at h1 h2
        simp only [tbs] at h2
        omega
    · cases hc
theorem symR_name : ∀ (r : List ARule), ∀ c ∈ symbolsR r, c.length < rbs r
  | [], c, hc => by cases hc
  | x :: r, c, hc => by
    simp only [symbolsR, List.mem_append] at hc
    simp only [rbs]
    rcases hc with (hc | hc) | hc
    · have := wordT_name _ x.left (Nat.le_refl _) c hc; omega
    · have := wordT_name _ x.right (Nat.le_refl _) c hc; omega
    · have := symR_name r c hc; omega
theorem sys_name {r : List ARule} (hr : rbs r < 2 ^ 28) : ∀ c ∈ allN (systemE r).1, c.length < 2 ^ 28 := by
  intro c hc
  unfold systemE at hc
  split at hc
  · cases hc
  · split at hc
    · rw [allN_rl] at hc
      have := symR_name r c hc; omega
    · cases hc
theorem sys_word {r : List ARule} (hr : rbs r < 2 ^ 28) : ∀ x ∈ (systemE r).1, x.right.length < 2 ^ 28 := by
  intro x hx
  unfold systemE at hx
  split at hx
  · cases hx
  · split at hx
    · obtain ⟨y, hy, rfl⟩ := List.mem_map.1 hx
      have hm := rbs_mem hy
      have h2 := wordT_len _ y.right (Nat.le_refl _)
      have h5 := size_le_tb y.right
      simp only [toRl]; omega
    · cases hx
theorem mem_allN {l : List ARl} {x : ARl} (hx : x ∈ l) {c : Str} (hc : c ∈ x.right) : c ∈ allN l := by
  induction l with
  | nil => cases hx
  | cons y l ih =>
    simp only [allN, List.mem_append]
    rcases List.mem_cons.1 hx with rfl | hx
    · exact .inl (.inr hc)
    · exact .inr (ih hx)
structure FInv (l : List ARl) (bound states : Int) (a : AAut) : Prop where
  in0 : In0 a
  bd : a.bound = bound
  st : a.states ≤ states
  nm : ∀ x ∈ a.moves, x.name ∈ allN l
theorem FInv.okA {l : List ARl} {bound states : Int} {a : AAut} (h : FInv l bound states a) (hb : bound ≤ 16) (hs : states ≤ 256) : OkA a.moves := fun x hx => by
  have h1 := h.in0.mv x hx
  have h2 := h.st
  have h3 := h.bd
  omega
theorem initA_inv {l : List ARl} {bound states : Int} (hb : 0 ≤ bound) (hs : 1 ≤ states) : ∀ (ns : List Str) (a : AAut), FInv l bound states a → a.states = 1 → (∀ n ∈ ns, n ∈ allN l) →
    FInv l bound states (ns.foldl (fun a n => insA a ⟨0, 0, n, 0⟩) a) ∧ (ns.foldl (fun a n => insA a ⟨0, 0, n, 0⟩) a).states = 1 ∧ (ns.foldl (fun a n => insA a ⟨0, 0, n, 0⟩) a).moves.length ≤ a.moves.length + ns.length
  | [], a, h, h1, _ => ⟨h, h1, Nat.le_refl _⟩
  | n :: ns, a, h, h1, hn => by
    have hi : FInv l bound states (insA a ⟨0, 0, n, 0⟩) := ⟨h.in0.insA ⟨by simp only; omega, by simp only; omega, by simp only; have := h.bd; omega⟩, h.bd, h.st, fun x hx => by
      rcases (insM_mem h.in0.ord).1 hx with hx | rfl
      · exact h.nm x hx
      · exact hn n (by simp)⟩
    have hl : (insA a ⟨0, 0, n, 0⟩).moves.length ≤ a.moves.length + 1 := by
      show (insM _ _).length ≤ _
      rw [insM_len h.in0.ord]; split <;> omega
    obtain ⟨k1, k2, k3⟩ := initA_inv hb hs ns (insA a ⟨0, 0, n, 0⟩) hi h1 fun c hc => hn c (by simp [hc])
    exact ⟨k1, k2, by simp only [List.foldl_cons, List.length_cons]; omega⟩
theorem find_loop (r : List ARule) (hr : rbs r < 2 ^ 28) (bound states : Int) (hb : 0 ≤ bound ∧ bound ≤ 16) (hs : 1 ≤ states ∧ states ≤ 256) (l : List ARl) (hl : l = (systemE r).1) (T : AAut × Int) :
    ∀ (f : Nat) (a : AAut), 1 ≤ f → 4097 ≤ f + a.moves.length → FInv l bound states a → a.moves.length < 2 ^ 36 → findGo r l states f a = T →
      bounds_Find.L4 (encRs r) (.int .i64 states) (.ptr 0 0) (encRls l) (.ptr 1 0) 0 [.cells t_Automaton zAu, .cells t_Automaton (cAu a)] (Ends 0 bounds_Find.rs fun x' H' => x' = findV T ∧ H' = []) := by
  intro f
  induction f with
  | zero => intro a h1; omega
  | succ f ih =>
    intro a _ hf hi hlen hT
    have hz := sys_sz (r := r) (by omega)
    rw [← hl] at hz
    obtain ⟨z1, z2, z3⟩ := hz
    have hst := hi.in0.st
    have hst2 := hi.st
    have hok := hi.okA hb.2 hs.2
    have hsz : Sz r a := ⟨hr, by omega, fun x hx => by
      have := sys_name hr x.name (by rw [← hl]; exact hi.nm x hx)
      omega⟩
    refine bounds_Find.G4 ?_
    push_cast
    refine .of (bounds_lacks_s l a a.states.toNat (by omega) (by omega) hok (by omega) z1 z3) ?_
    simp only [findGo] at hT
    cases hlk : lacksM a.moves a.states.toNat l with
    | none =>
      rw [hlk] at hT
      simp only at hT
      push_cast [lackV]
      refine .of (bounds_Check_s r a hsz) ?_
      by_cases hc : checkB r a = 0
      · rw [if_neg (by simpa using hc)] at hT
        subst hT
        push_cast [hc]
        exact pf_ret (by push_cast [bounds_Find.rs]; rfl)
      · rw [if_pos hc] at hT
        subst hT
        push_cast [hc]
        exact pf_ret (by push_cast [bounds_Find.rs]; rfl)
    | some m =>
      rw [hlk] at hT
      simp only at hT
      obtain ⟨x, hx, p, hp, s, hs', hme, _⟩ := lacks_some hlk
      have hw := sys_word hr x (by rw [← hl]; exact hx)
      push_cast [lackV]
      refine .of (bounds_add_s a m states hi.in0.ord hok (by omega) (by omega) (by rw [hme]; simp only; omega) (by rw [hme]; simp only; omega)) ?_
      cases hk : (addM a m states).2 with
      | false =>
        rw [hk, if_neg (by simp)] at hT
        subst hT
        push_cast
        exact pf_ret (by push_cast [bounds_Find.rs]; rfl)
      | true =>
        rw [hk, if_pos rfl] at hT
        obtain ⟨g1, g2, g3, g4, g5, g6, g7⟩ := add_grows hi.in0 hok (by omega) hlk hk
        have hi2 : FInv l bound states (addM a m states).1 := ⟨g1, by rw [g2, hi.bd], g3, fun y hy => by
          rcases g7 y hy with hy | ⟨_, hy⟩
          · exact hi.nm y hy
          · rw [hme] at hy; exact mem_allN hx hy⟩
        push_cast
        exact ih _ (by omega) (by omega) hi2 (by omega) hT
theorem bounds_Find_s (r : List ARule) (bound states : Int) (hr : rbs r < 2 ^ 28) : PF n_bounds_Find [encRs r, .int .i64 bound, .int .i64 states] (findV (findB r bound states)) := by
  refine pf_of bounds_Find.ok rfl ?_
  generalize hT : findB r bound states = T
  unfold findB at hT
  push_cast
  refine .of (bounds_system_s r (by omega)) ?_
  obtain ⟨z1, z2, z3⟩ := sys_sz (r := r) (by omega)
  have hnm := sys_name hr
  by_cases h1 : ¬ (systemE r).2 = 0
  · rw [if_pos h1] at hT
    subst hT
    push_cast [eq_false h1]
    exact pf_ret (by push_cast [bounds_Find.rs]; rfl)
  have h1 : (systemE r).2 = 0 := Classical.not_not.1 h1
  rw [h1, if_neg (by simp)] at hT
  rw [h1]
  by_cases h2 : bound < 0
  · rw [if_pos (.inl h2)] at hT
    subst hT
    push_cast [eq_true h2]
    exact pf_ret (by push_cast [bounds_Find.rs]; rfl)
  by_cases h3 : 16 < bound
  · rw [if_pos (.inr (.inl h3))] at hT
    subst hT
    push_cast [eq_false h2, eq_true h3]
    exact pf_ret (by push_cast [bounds_Find.rs]; rfl)
  by_cases h4 : states < 1
  · rw [if_pos (.inr (.inr (.inl h4)))] at hT
    subst hT
    push_cast [eq_false h2, eq_false h3, eq_true h4]
    exact pf_ret (by push_cast [bounds_Find.rs]; rfl)
  by_cases h5 : 256 < states
  · rw [if_pos (.inr (.inr (.inr h5)))] at hT
    subst hT
    push_cast [eq_false h2, eq_false h3, eq_false h4, eq_true h5]
    exact pf_ret (by push_cast [bounds_Find.rs]; rfl)
  rw [if_neg (by omega)] at hT
  generalize hl : (systemE r).1 = l at z1 z2 z3 hnm hT
  have h0 : [V.int .i64 1, V.int .i64 bound, V.sl 4 []] = cAu ⟨1, bound, []⟩ := rfl
  push_cast [eq_false h2, eq_false h3, eq_false h4, eq_false h5, hl, h0]
  refine .of (bounds_names_s l z1 z2) ?_
  have hnl : (namesM l).length ≤ (allN l).length := by
    have := Go.Dw.comp_le (Proofs.sortS (allN l))
    rw [show (Proofs.sortS (allN l)).length = (allN l).length from (List.mergeSort_perm _ _).length_eq] at this
    exact this
  have hrl := symbolsR_len r
  have hal : (allN l).length ≤ rbs r := by
    rw [← hl]; unfold systemE
    split
    · simp [allN]
    · split
      · rw [allN_rl]; exact hrl
      · simp [allN]
  have hnn : ∀ n ∈ namesM l, n ∈ allN l := fun n hn => namesM_mem.1 hn
  have hi0 : FInv l bound states ⟨1, bound, []⟩ := ⟨⟨Int.le_refl _, List.Pairwise.nil, fun x hx => by cases hx⟩, rfl, by show 1 ≤ states; omega, fun x hx => by cases hx⟩
  have hinv : ∀ k, FInv l bound states (initA bound ((namesM l).take k)) ∧ (initA bound ((namesM l).take k)).states = 1 ∧ (initA bound ((namesM l).take k)).moves.length ≤ ((namesM l).take k).length := fun k => by
    have := initA_inv (l := l) (bound := bound) (states := states) (by omega) (by omega) ((namesM l).take k) ⟨1, bound, []⟩ hi0 rfl fun n hn => hnn n (List.mem_of_mem_take hn)
    refine ⟨this.1, this.2.1, ?_⟩
    have h3 := this.2.2
    simp only [List.length_nil, Nat.zero_add] at h3
    exact h3
  unfold initA at hT
  generalize namesM l = ns at hT hnl hnn hinv ⊢
  have hns : ns.length < 2 ^ 28 := by omega
  have hbd4 : ∀ s, V.agg [V.int .i64 0, V.int .i64 0, V.str s, V.int .i64 0] = encMv ⟨0, 0, s, 0⟩ := fun _ => rfl
  push_cast
  refine loop_up (n := ns.length) (R := fun k => bounds_Find.L8 (encRs r) (.int .i64 states) (.ptr 0 0) (encRls l) (.ptr 1 0) (encSs ns) (.int .i64 ns.length) (.int .i64 k) 0 [.cells t_Automaton zAu, .cells t_Automaton (cAu (initA bound (ns.take k)))] (Ends 0 bounds_Find.rs fun x' H' => x' = findV T ∧ H' = [])) ?_ ?_ 0 (Nat.zero_le _)
  · intro k hk ih
    refine bounds_Find.G8 ?_
    obtain ⟨i1, i2, i3⟩ := hinv k
    have htk : ns.take (k + 1) = ns.take k ++ [ns.getD k default] := take_succ_getD hk
    have hst : initA bound (ns.take (k + 1)) = insA (initA bound (ns.take k)) ⟨0, 0, ns.getD k default, 0⟩ := by
      unfold initA; rw [htk, List.foldl_append]; rfl
    generalize hn0 : ns.getD k default = n at hst
    rw [hst] at ih
    have htl : (ns.take k).length ≤ ns.length := by simp; omega
    generalize initA bound (ns.take k) = a at i1 i2 i3 ih ⊢
    push_cast [ilt hk, hn0, hbd4]
    refine .of (bounds_insert_s a ⟨0, 0, n, 0⟩ i1.in0.ord (by omega)) ?_
    unfold insV
    push_cast [w64 (show k < 2 ^ 62 by omega)]
    push_cast at ih
    exact ih
  · refine bounds_Find.G8 ?_
    obtain ⟨i1, i2, i3⟩ := hinv ns.length
    rw [List.take_length] at i1 i2 i3 ⊢
    push_cast [inlt (Nat.le_refl _)]
    exact find_loop r hr bound states ⟨by omega, by omega⟩ ⟨by omega, by omega⟩ l hl.symm T 4098 (initA bound ns) (by omega) (by omega) i1 (by omega) hT
end Go.Dw
end
section
namespace Go.Dw
def swapR : List ARule := [⟨.mk [97] false [.mk [98] false [.mk [120] true []]], .mk [99] false [.mk [120] true []]⟩]
def loopA0 : AAut := ⟨1, 1, [⟨0, 0, [97], 0⟩, ⟨0, 0, [98], 0⟩, ⟨0, 0, [99], 0⟩]⟩
def loopA : AAut := ⟨1, 1, [⟨0, 0, [97], 0⟩, ⟨0, 0, [98], 0⟩, ⟨0, 0, [99], 0⟩, ⟨0, 0, [99], 1⟩]⟩
theorem swap_sys : checkSystem swapR = 0 := by decide +kernel
theorem swap_str : swapR.all strR = true := by decide
theorem swap_rl : swapR.map toRl = [⟨[[97], [98]], [[99]]⟩] := by rfl
theorem swap_names : namesM [⟨[[97], [98]], [[99]]⟩] = [[97], [98], [99]] := by
  unfold namesM
  have : allN [⟨[[97], [98]], [[99]]⟩] = [[97], [98], [99]] := rfl
  rw [this]
  have : Proofs.sortS [[97], [98], [99]] = [[97], [98], [99]] := by
    unfold Proofs.sortS
    exact List.mergeSort_of_pairwise (by decide)
  rw [this]; rfl
theorem linked_any (mv : List AMove) (p q : Int) (w : List Str) (h : Int) : linkedM mv p q w h = (readL mv (fun x => decide (x = h)) (p, 17) w).any fun s => decide (s.1 = q) := by
  unfold linkedM readsL sortSp
  have e : ((readL mv (fun x => decide (x = h)) (p, 17) w).mergeSort fun x y => !decide (cfS y x < 0)).Perm (readL mv (fun x => decide (x = h)) (p, 17) w) := List.mergeSort_perm _ _
  exact e.any_eq
theorem swap_reads (mv : List AMove) (h : readL mv (fun _ => true) (0, 17) [[97], [98]] = [(0, 0)]) : readsL mv (fun _ => true) 0 [[97], [98]] = [(0, 0)] := by
  unfold readsL sortSp; rw [h]; simp
theorem swap_lacks0 : lacksM loopA0.moves 1 [⟨[[97], [98]], [[99]]⟩] = some ⟨0, 0, 1, [[99]]⟩ := by
  have h1 := swap_reads loopA0.moves (by decide)
  have h2 : linkedM loopA0.moves 0 0 [[99]] 1 = false := by rw [linked_any]; decide
  simp [lacksM, ruleF, stateF, List.range_succ, h1, spotF, h2]
theorem swap_lacks1 : lacksM loopA.moves 1 [⟨[[97], [98]], [[99]]⟩] = none := by
  have h1 := swap_reads loopA.moves (by decide)
  have h2 : linkedM loopA.moves 0 0 [[99]] 1 = true := by rw [linked_any]; decide
  simp [lacksM, ruleF, stateF, List.range_succ, h1, spotF, h2]
theorem swap_system : systemE swapR = ([⟨[[97], [98]], [[99]]⟩], 0) := by
  unfold systemE
  rw [if_neg (by simp [swap_sys]), if_pos swap_str, swap_rl]
theorem swap_check : checkB swapR loopA = 0 := by
  unfold checkB
  rw [swap_system]
  have h1 : formE loopA = 0 := by decide
  have h2 : loopsM [⟨[[97], [98]], [[99]]⟩] loopA.moves = true := by
    unfold loopsM
    rw [swap_names]
    have a1 : linkedM loopA.moves 0 0 [[97]] 0 = true := by rw [linked_any]; decide
    have a2 : linkedM loopA.moves 0 0 [[98]] 0 = true := by rw [linked_any]; decide
    have a3 : linkedM loopA.moves 0 0 [[99]] 0 = true := by rw [linked_any]; decide
    simp [a1, a2, a3]
  have h3 : lacksM loopA.moves loopA.states.toNat [⟨[[97], [98]], [[99]]⟩] = none := swap_lacks1
  simp [h1, h2, h3]
theorem swap_length : lenB swapR loopA 2 = (4, 0) := by
  unfold lenB
  rw [swap_check]
  rfl
theorem swap_find : findB swapR 1 4 = (loopA, 0) := by
  unfold findB
  rw [swap_system]
  simp only
  rw [swap_names]
  have h0 : initA 1 [[97], [98], [99]] = loopA0 := by decide
  rw [h0]
  have h1 : addM loopA0 ⟨0, 0, 1, [[99]]⟩ 4 = (loopA, true) := by decide
  have e1 : lacksM loopA0.moves loopA0.states.toNat [⟨[[97], [98]], [[99]]⟩] = some ⟨0, 0, 1, [[99]]⟩ := swap_lacks0
  have e2 : lacksM loopA.moves loopA.states.toNat [⟨[[97], [98]], [[99]]⟩] = none := swap_lacks1
  rw [if_neg (by simp), if_neg (by simp)]
  simp only [findGo, e1, h1, if_true, e2, swap_check]
  rfl
theorem l24_swap_s : PF n_l24_swap [] (encRs swapR) := by
  refine pf_of l24_swap.ok rfl ?_
  push_cast
  exact pf_ret (by push_cast [l24_swap.rs]; rfl)
theorem l24_loops_s : PF n_l24_loops [] (encAu loopA) := by
  refine pf_of l24_loops.ok rfl ?_
  push_cast
  exact pf_ret (by push_cast [l24_loops.rs]; rfl)
theorem swap_sz : Sz swapR loopA := ⟨by decide, by decide, by decide⟩
theorem alive24 : PF n_l24_alive [] (.bool true) := by
  refine pf_of l24_alive.ok rfl ?_
  push_cast
  refine .of l24_swap_s ?_
  push_cast
  refine .of l24_loops_s ?_
  push_cast
  refine .of (bounds_Length_s swapR loopA 2 swap_sz) ?_
  rw [swap_length]
  push_cast
  refine .of l24_swap_s ?_
  push_cast
  refine .of (bounds_Find_s swapR 1 4 swap_sz.r) ?_
  rw [swap_find]
  unfold findV
  push_cast
  refine .of l24_swap_s ?_
  push_cast
  refine .of l24_loops_s ?_
  push_cast
  refine .of (bounds_Check_s swapR loopA swap_sz) ?_
  rw [swap_check]
  push_cast
  refine .of l24_swap_s ?_
  push_cast
  refine .of (r24_Check_s swapR loopA swap_sz) ?_
  rw [← checkB_eq, swap_check]
  push_cast
  exact pf_ret (by push_cast [l24_alive.rs])
end Go.Dw
end
section
namespace Go.Dw
def hasS (l : List Str) (x : Str) : Bool := l.any fun y => decide (y = x)
theorem hasS_iff {l : List Str} {x : Str} : hasS l x = true ↔ x ∈ l := by
  unfold hasS; simp [List.any_eq_true]
theorem r01_Has_s (l : List Str) (x : Str) (hl : l.length < 2 ^ 62) : PF n_r01_Has [encSs l, .str x] (.bool (hasS l x)) := by
  refine pf_of r01_Has.ok rfl ?_
  push_cast
  refine loop_up (n := l.length) (R := fun k => hasS (l.drop k) x = hasS l x → r01_Has.L3 (.str x) (encSs l) (.int .i64 l.length) (.int .i64 k) 0 [] (Ends 0 r01_Has.rs fun y H => y = .bool (hasS l x) ∧ H = [])) ?_ ?_ 0 (Nat.zero_le _) rfl
  · intro k hk ih hq
    rw [drop_getD hk] at hq
    refine r01_Has.G3 ?_
    generalize hy : l.getD k default = y at hq
    simp only [hasS, List.any_cons] at hq
    by_cases h : y = x
    · push_cast [ilt hk, hy, eq_true h]
      simp only [h, decide_true, Bool.true_or] at hq
      exact pf_ret (by push_cast [r01_Has.rs, hasS, h, ← hq])
    · push_cast [ilt hk, hy, eq_false h, w64 (show k < 2 ^ 62 by omega)]
      simp only [h, decide_false, Bool.false_or] at hq
      push_cast at ih
      exact ih hq
  · intro hq
    refine r01_Has.G3 ?_
    rw [List.drop_length] at hq
    push_cast [inlt (Nat.le_refl _)]
    exact pf_ret (by push_cast [r01_Has.rs, ← hq]; simp [hasS])
def addDs (l : List Str) (s : Str) : List Str := if hasS l s then l else l ++ [s]
def dedS (l : List Str) : List Str := l.foldl addDs []
def leftsR (r : List ARule) : List Str := r.flatMap fun x => (wordT x.left).1
def okRight (L : List Str) (x : ARule) : Bool := !(decide (1 < (wordT x.right).1.length) || (decide ((wordT x.right).1.length = 1) && hasS L ((wordT x.right).1.getD 0 default)))
def easyB (r : List ARule) : Bool := decide ((dedS (symbolsR r)).length ≤ 2000) && r.all (okRight (leftsR r))
theorem addDs_len (l : List Str) (s : Str) : (addDs l s).length ≤ l.length + 1 := by
  unfold addDs; split <;> simp
theorem dedS_len (l : List Str) : ∀ k, (dedS (l.take k)).length ≤ k
  | 0 => by simp [dedS]
  | k + 1 => by
    have := dedS_len l k
    by_cases hk : k < l.length
    · have h2 := addDs_len (dedS (l.take k)) (l.getD k default)
      rw [take_succ_getD hk]; unfold dedS at *; rw [List.foldl_append]
      simp only [List.foldl_cons, List.foldl_nil]; omega
    · rw [List.take_of_length_le (by omega)] at *; omega
theorem leftsR_take (r : List ARule) {k : Nat} (hk : k < r.length) : leftsR (r.take (k + 1)) = leftsR (r.take k) ++ (wordT (r.getD k default).left).1 := by
  rw [take_succ_getD hk]; simp [leftsR]
theorem leftsR_len : ∀ r : List ARule, (leftsR r).length ≤ rbs r
  | [] => by simp [leftsR]
  | x :: r => by
    have h1 := wordT_len _ x.left (Nat.le_refl _)
    have h3 := leftsR_len r
    have h4 := size_le_tb x.left
    have h5 := size_le_tb x.right
    simp only [leftsR, List.flatMap_cons, List.length_append, rbs] at h3 ⊢
    omega
theorem easy_last (r : List ARule) (hr : rbs r < 2 ^ 38) (L : List Str) (hL : L.length < 2 ^ 39) (o : Nat) (T : Bool) (hT : r.all (okRight L) = T) :
    l24_easy.L3 (ownL cS 1 1 L) (encRs r) (.int .i64 r.length) (.int .i64 0) 0 [.arr t_string 1 o, .arr t_string 1 L.length] (Ends 0 l24_easy.rs fun y H => y = .bool T ∧ H = []) := by
  have hl := length_le_rbs r
  refine loop_up (n := r.length) (R := fun k => (r.drop k).all (okRight L) = T → l24_easy.L3 (ownL cS 1 1 L) (encRs r) (.int .i64 r.length) (.int .i64 k) 0 [.arr t_string 1 o, .arr t_string 1 L.length] (Ends 0 l24_easy.rs fun y H => y = .bool T ∧ H = [])) ?_ ?_ 0 (Nat.zero_le _) hT
  · intro k hk ih hq
    have hmm := rbs_mem (getD_mem hk)
    rw [drop_getD hk] at hq
    refine l24_easy.G3 ?_
    generalize hx : r.getD k default = x at hmm hq
    simp only [List.all_cons] at hq
    have h2 := size_le_tb x.right
    have hw := wordT_len _ x.right (Nat.le_refl _)
    push_cast [ilt hk, hx]
    refine .of (r24_Word_s x.right (by omega)) ?_
    have hok : okRight L x = !(decide (1 < (wordT x.right).1.length) || (decide ((wordT x.right).1.length = 1) && hasS L ((wordT x.right).1.getD 0 default))) := rfl
    rw [hok] at hq
    generalize (wordT x.right).1 = u at hw hq ⊢
    by_cases h1 : 1 < u.length
    · push_cast [eq_true (show (1 : Int) < u.length by omega)]
      simp only [h1, decide_true, Bool.true_or, Bool.not_true, Bool.false_and] at hq
      exact pf_ret (by push_cast [l24_easy.rs, ← hq])
    · by_cases h2 : u.length = 1
      · push_cast [eq_false (show ¬ (1 : Int) < u.length by omega), eq_true (show (u.length : Int) = 1 by omega), eq_true (show (0 : Int) < u.length by omega)]
        refine .of (r01_Has_s L _ (by omega)) ?_
        simp only [h1, h2, decide_true, decide_false, Bool.false_or, Bool.true_and] at hq
        cases hh : hasS L (u.getD 0 default) with
        | true =>
          rw [hh] at hq
          push_cast
          exact pf_ret (by push_cast [l24_easy.rs, ← hq]; rfl)
        | false =>
          rw [hh] at hq
          push_cast [w64 (show k < 2 ^ 62 by omega)]
          push_cast at ih
          exact ih (by simpa using hq)
      · push_cast [eq_false (show ¬ (1 : Int) < u.length by omega), eq_false (show ¬ (u.length : Int) = 1 by omega), w64 (show k < 2 ^ 62 by omega)]
        simp only [h1, h2, decide_false, Bool.false_or, Bool.false_and, Bool.not_false, Bool.true_and] at hq
        push_cast at ih
        exact ih hq
  · intro hq
    refine l24_easy.G3 ?_
    rw [List.drop_length] at hq
    push_cast [inlt (Nat.le_refl _)]
    exact pf_ret (by push_cast [l24_easy.rs, ← hq]; rfl)
theorem l24_easy_s (r : List ARule) (hr : rbs r < 2 ^ 38) : PF n_l24_easy [encRs r] (.bool (easyB r)) := by
  have hl := length_le_rbs r
  have hsl := symbolsR_len r
  refine pf_of l24_easy.ok rfl ?_
  generalize hT : easyB r = T
  unfold easyB at hT
  push_cast
  refine .of (r24_Symbols_s r hr) ?_
  generalize symbolsR r = ss at hsl hT ⊢
  push_cast
  refine loop_up (n := ss.length) (R := fun k => l24_easy.L12 (encRs r) (ownL cS 0 1 (dedS (ss.take k))) (ownL cS 1 1 []) (encSs ss) (.int .i64 ss.length) (.int .i64 k) 0 [.arr t_string 1 (dedS (ss.take k)).length, .arr t_string 1 0] (Ends 0 l24_easy.rs fun y H => y = .bool T ∧ H = [])) ?_ ?_ 0 (Nat.zero_le _)
  · intro k hk ih
    refine l24_easy.G12 ?_
    have hd := dedS_len ss k
    have hst : dedS (ss.take (k + 1)) = addDs (dedS (ss.take k)) (ss.getD k default) := by
      rw [take_succ_getD hk]; unfold dedS; rw [List.foldl_append]; rfl
    rw [hst] at ih
    generalize dedS (ss.take k) = D at hd ih ⊢
    generalize hs : ss.getD k default = s at ih
    push_cast [ilt hk, hs]
    refine .of (r01_Has_s D s (by omega)) ?_
    unfold addDs at ih
    cases hh : hasS D s with
    | true =>
      rw [hh, if_pos rfl] at ih
      push_cast [w64 (show k < 2 ^ 62 by omega)]
      push_cast at ih
      exact ih
    | false =>
      rw [hh, if_neg (by simp), List.length_append] at ih
      have hcS : ∀ z : Str, [V.str z] = cS z := fun _ => rfl
      have hcS2 : ∀ σ (z : Str), rens σ (cS z) = cS z := fun _ _ => rfl
      push_cast [w64 (show k < 2 ^ 62 by omega), hcS, hcS2]
      push_cast at ih
      refine ⟨by unfold maxEls; omega, ?_⟩
      exact ih
  · refine l24_easy.G12 ?_
    rw [List.take_length]
    have hd := dedS_len ss ss.length
    rw [List.take_length] at hd
    generalize dedS ss = D at hd hT ⊢
    by_cases h1 : 2000 < D.length
    · push_cast [inlt (Nat.le_refl _), eq_true (show (2000 : Int) < D.length by omega)]
      rw [decide_eq_false (by omega)] at hT
      exact pf_ret (by push_cast [l24_easy.rs, ← hT])
    · push_cast [inlt (Nat.le_refl _), eq_false (show ¬ (2000 : Int) < D.length by omega)]
      rw [decide_eq_true (by omega), Bool.true_and] at hT
      have hll := leftsR_len r
      refine loop_up (n := r.length) (R := fun k => l24_easy.L7 (encRs r) (ownL cS 1 1 (leftsR (r.take k))) (encRs r) (.int .i64 r.length) (.int .i64 k) 0 [.arr t_string 1 D.length, .arr t_string 1 (leftsR (r.take k)).length] (Ends 0 l24_easy.rs fun y H => y = .bool T ∧ H = [])) ?_ ?_ 0 (Nat.zero_le _)
      · intro k hk ih
        have hmm := rbs_mem (getD_mem hk)
        have htk := leftsR_take r hk
        have hsl : (leftsR (r.take (k + 1))).length ≤ rbs r := by
          have h1 : leftsR r = leftsR (r.take (k + 1)) ++ leftsR (r.drop (k + 1)) := by
            unfold leftsR; rw [← List.flatMap_append, List.take_append_drop]
          rw [h1, List.length_append] at hll
          omega
        rw [htk] at ih hsl
        refine l24_easy.G7 ?_
        generalize hx : r.getD k default = x at hmm ih hsl
        generalize leftsR (r.take k) = A at ih hsl ⊢
        have h2 := size_le_tb x.left
        push_cast [ilt hk, hx]
        refine .of (r24_Word_s x.left (by omega)) ?_
        generalize (wordT x.left).1 = u at ih hsl ⊢
        rw [List.length_append] at hsl
        push_cast [w64 (show k < 2 ^ 62 by omega)]
        rw [List.length_append] at ih
        push_cast at ih
        refine ⟨by simp only [List.length_map]; unfold maxEls; omega, ?_⟩
        simp only [List.length_map]
        exact ih
      · refine l24_easy.G7 ?_
        rw [List.take_length]
        push_cast [inlt (Nat.le_refl _)]
        exact easy_last r hr (leftsR r) (by omega) D.length T hT
end Go.Dw
end
section
namespace Go.Dw
theorem word_names : ∀ (n : Nat) (t : Term), size t ≤ n → formed t = true → ∀ c ∈ (wordT t).1, isName c true = true
  | 0, t, h => by have := size_args t; omega
  | n + 1, t, h => by
    intro hf c hc
    have hs := size_args t
    rw [wordT_step] at hc
    split at hc
    · rename_i hcc
      rw [formed_eq, if_neg (by simp [hcc.1]), Bool.and_eq_true, Bool.and_eq_true] at hf
      have hmem := getD_mem (l := t.args) (k := 0) (by omega)
      have hm := size_mem hmem
      rcases List.mem_cons.1 hc with rfl | hc
      · exact hf.2.1
      · exact word_names n (t.args.getD 0 default) (by omega) (List.all_eq_true.1 hf.2.2 _ hmem) c hc
    · cases hc
theorem symR_mem {r : List ARule} {n : Str} : n ∈ symbolsR r ↔ ∃ x ∈ r, n ∈ (wordT x.left).1 ∨ n ∈ (wordT x.right).1 := by
  induction r with
  | nil => simp [symbolsR]
  | cons x r ih => simp [symbolsR, ih, or_assoc]
theorem sym_isName {r : List ARule} (h : checkSystem r = 0) : ∀ c ∈ symbolsR r, isName c true = true := by
  intro c hc
  obtain ⟨x, hx, hc⟩ := symR_mem.1 hc
  obtain ⟨h1, h2⟩ := checkSystem_sides h x hx
  rcases hc with hc | hc
  · exact word_names _ x.left (Nat.le_refl _) (check_iff.1 h1).1 c hc
  · exact word_names _ x.right (Nat.le_refl _) (check_iff.1 h2).1 c hc
theorem word_nil {t : Term} (hv : t.var = false) (h : (wordT t).2.var = true) : (wordT t).1 ≠ [] := by
  intro h0
  rw [wordT_step] at h0 h
  split at h0
  · cases h0
  · rename_i hc
    rw [if_neg hc] at h
    simp only at h
    rw [hv] at h; cases h
theorem dedS_mem (l : List Str) (n : Str) : n ∈ dedS l ↔ n ∈ l := by
  have key : ∀ (l a : List Str), n ∈ l.foldl addDs a ↔ n ∈ a ∨ n ∈ l := by
    intro l
    induction l with
    | nil => intro a; simp
    | cons s l ih =>
      intro a
      rw [List.foldl_cons, ih]
      unfold addDs
      split
      · rename_i h
        have := hasS_iff.1 h
        constructor
        · rintro (h | h)
          · exact .inl h
          · exact .inr (by simp [h])
        · rintro (h | h)
          · exact .inl h
          · rcases List.mem_cons.1 h with rfl | h
            · exact .inl this
            · exact .inr h
      · simp [or_assoc]
  unfold dedS; simpa using key l []
structure EInv (r : List ARule) (bound states : Int) (a : AAut) : Prop where
  f : FInv (r.map toRl) bound states a
  one : a.states = 1
  low : ∀ x ∈ a.moves, x.h = 0 ∨ x.h = 1 ∧ x.name ∉ leftsR r
  all : ∀ n ∈ symbolsR r, (⟨0, 0, n, 0⟩ : AMove) ∈ a.moves
theorem EInv.len {r : List ARule} {bound states : Int} {a : AAut} (h : EInv r bound states a) (hd : (dedS (symbolsR r)).length ≤ 2000) : a.moves.length ≤ 4000 := by
  have hnd : a.moves.Nodup := by
    refine h.f.in0.ord.imp ?_
    intro x y hxy e
    subst e
    exact absurd hxy (by simp [lessM_irrefl])
  have := List.Nodup.length_le_of_subset hnd (l₂ := (dedS (symbolsR r)).flatMap fun n => [⟨0, 0, n, 0⟩, ⟨0, 0, n, 1⟩]) fun x hx => by
    have h1 := h.f.in0.mv x hx
    have h2 := h.f.nm x hx
    have h3 := h.low x hx
    have h4 := h.one
    rw [allN_rl] at h2
    refine List.mem_flatMap.2 ⟨x.name, (dedS_mem _ _).2 h2, ?_⟩
    obtain ⟨s, d, n, k⟩ := x
    simp only at h1 h3
    obtain rfl : s = 0 := by omega
    obtain rfl : d = 0 := by omega
    rcases h3 with rfl | ⟨rfl, _⟩ <;> simp
  have e : ((dedS (symbolsR r)).flatMap fun n => [(⟨0, 0, n, 0⟩ : AMove), ⟨0, 0, n, 1⟩]).length = 2 * (dedS (symbolsR r)).length := by
    generalize dedS (symbolsR r) = D
    induction D with
    | nil => rfl
    | cons d D ih => simp only [List.flatMap_cons, List.length_append, ih, List.length_cons, List.length_nil]; omega
  omega
theorem EInv.check {r : List ARule} {bound states : Int} {a : AAut} (hc : checkSystem r = 0) (hs : r.all strR = true) (hb : 0 ≤ bound ∧ bound ≤ 16) (h : EInv r bound states a) (hd : (dedS (symbolsR r)).length ≤ 2000)
    (hl : lacksM a.moves a.states.toNat (r.map toRl) = none) : checkB r a = 0 := by
  have hlen := h.len hd
  have hse : systemE r = (r.map toRl, 0) := by unfold systemE; rw [if_neg (by simp [hc]), if_pos hs]
  have hf : formE a = 0 := formE_iff.2 ⟨by have := h.one; omega, by have := h.f.bd; omega, by omega, fun x hx => by
    have h1 := h.f.in0.mv x hx
    exact ⟨h1.1, h1.2.1, h1.2.2, sym_isName hc _ (by rw [← allN_rl]; exact h.f.nm x hx)⟩, inOrder_iff.2 h.f.in0.ord⟩
  have hlo : loopsM (r.map toRl) a.moves = true := by
    rw [loops_has, List.all_eq_true]
    intro n hn
    unfold hasM
    rw [List.any_eq_true]
    exact ⟨_, h.all n hn, by simp⟩
  unfold checkB
  rw [hse]
  simp [hf, hlo, hl]
theorem EInv.step {r : List ARule} {bound states : Int} {a : AAut} {m : AMs} (hc : checkSystem r = 0) (hs : r.all strR = true) (hnv : ∀ x ∈ r, x.left.var = false) (hb : bound ≤ 16) (hb2 : 1 ≤ bound ∨ r = []) (hst : 1 ≤ states ∧ states ≤ 256) (h : EInv r bound states a)
    (he : easyB r = true) (hl : lacksM a.moves a.states.toNat (r.map toRl) = some m) : (addM a m states).2 = true ∧ EInv r bound states (addM a m states).1 := by
  unfold easyB at he
  rw [Bool.and_eq_true, decide_eq_true_eq, List.all_eq_true] at he
  obtain ⟨x, hx, p, hp, s, hsr, rfl, hlk⟩ := lacks_some hl
  obtain ⟨y, hy, rfl⟩ := List.mem_map.1 hx
  have h1 := h.one
  obtain rfl : p = 0 := by omega
  have hok := he.2 y hy
  have hyv := List.all_eq_true.1 hs y hy
  unfold strR at hyv
  rw [Bool.and_eq_true] at hyv
  have hln := word_nil (hnv y hy) hyv.1
  have hbd : 1 ≤ bound := hb2.resolve_right fun e => by rw [e] at hy; cases hy
  have hoA : OkA a.moves := h.f.okA hb hst.2
  have hp0 : 0 ≤ ((0 : Nat) : Int) ∧ ((0 : Nat) : Int) < a.states := by omega
  have hq := readL_st h.f.in0 _ hp0 _ s hsr
  have hsin := readL_in hoA (fun _ => true) (show 0 ≤ ((0 : Nat) : Int) ∧ ((0 : Nat) : Int) < 256 by omega) _ s hsr
  have hs2 : s.2 = 0 := by
    have hsr' : s ∈ readL a.moves (fun _ => true) (((0 : Nat) : Int), 17) (wordT y.left).1 := hsr
    rcases List.eq_nil_or_concat (wordT y.left).1 with e | ⟨w, n, e⟩
    · exact absurd e hln
    · rw [e, List.concat_eq_append, readL_snoc, nextL_mem] at hsr'
      obtain ⟨u, hu, hsr'⟩ := hsr'
      have hu2 := readL_in hoA (fun _ => true) (show 0 ≤ ((0 : Nat) : Int) ∧ ((0 : Nat) : Int) < 256 by omega) _ u hu
      obtain ⟨z, hz, rfl⟩ := List.mem_map.1 hsr'
      obtain ⟨z1, z2⟩ := List.mem_filter.1 hz
      obtain ⟨z3, z4⟩ := List.mem_filter.1 z1
      have hzn : z.name = n := by simpa using z2
      have hnl : z.name ∈ leftsR r := List.mem_flatMap.2 ⟨y, hy, by rw [e, hzn]; simp⟩
      have hz0 : z.h = 0 := (h.low z z3).resolve_right fun hh => hh.2 hnl
      show (if z.h < u.2 then z.h else u.2) = 0
      rw [hz0]; split <;> omega
  have hs1 : s.1 = 0 := by omega
  rw [hs2, hs1] at hlk ⊢
  have hrn : (toRl y).right ≠ [] := fun e => by
    have : linkedM a.moves ((0 : Nat) : Int) 0 (toRl y).right (0 + 1) = true := by
      rw [linked_iff, e]; exact ⟨(0, 17), by simp [readL], rfl⟩
    rw [this] at hlk; cases hlk
  have hrt : (toRl y).right = (wordT y.right).1 := rfl
  unfold okRight at hok
  simp only [Bool.not_eq_true', Bool.or_eq_false_iff, Bool.and_eq_false_imp, decide_eq_false_iff_not, decide_eq_true_eq] at hok
  obtain ⟨c, hcw⟩ : ∃ c, (wordT y.right).1 = [c] := List.length_eq_one_iff.1 (by
    have := List.length_pos_iff.2 hrn
    rw [hrt] at this; omega)
  have hcl : c ∉ leftsR r := fun hc => by
    have := hok.2 (by rw [hcw]; rfl)
    rw [hcw] at this
    have h2 := hasS_iff.2 hc
    simp only [List.getD_cons_zero] at this
    rw [this] at h2; cases h2
  rw [hrt, hcw]
  have hins : EInv r bound states (insA a ⟨0, 0, c, 1⟩) :=
    ⟨⟨h.f.in0.insA ⟨by simp only; omega, by simp only; omega, by simp only; have := h.f.bd; omega⟩, h.f.bd, h.f.st, fun z hz => by
        rcases (insM_mem h.f.in0.ord).1 hz with hz | rfl
        · exact h.f.nm z hz
        · rw [allN_rl]; exact symR_mem.2 ⟨y, hy, .inr (by rw [hcw]; simp)⟩⟩, h1, fun z hz => by
        rcases (insM_mem h.f.in0.ord).1 hz with hz | rfl
        · exact h.low z hz
        · exact .inr ⟨rfl, hcl⟩, fun n hn => (insM_mem h.f.in0.ord).2 (.inl (h.all n hn))⟩
  have hlen := hins.len he.1
  have hAdd : addM a ⟨((0 : Nat) : Int), 0, 0 + 1, [c]⟩ states = (insA a ⟨0, 0, c, 1⟩, true) := by
    have e1 : longestM a.moves ((0 : Nat) : Int) [c] (0 + 1) = (0, 0) := rfl
    have e2 : addA ⟨((0 : Nat) : Int), 0, 0 + 1, [c]⟩ a 0 c [] = insA a ⟨0, 0, c, 1⟩ := rfl
    unfold addM
    rw [if_neg (by have := h.f.bd; simp only; rintro (h | h); omega; cases h), e1]
    show addEnd (addWd _ [c] a 0) states = _
    rw [addWd_cons, e2, if_pos (by omega)]
    show (insA a ⟨0, 0, c, 1⟩, true && decide ((insA a ⟨0, 0, c, 1⟩).states ≤ states)) = _
    have e3 : (insA a ⟨0, 0, c, 1⟩).states = 1 := h1
    rw [e3, decide_eq_true hst.1]; rfl
  rw [hAdd]
  exact ⟨rfl, hins⟩
theorem findGo_easy {r : List ARule} {bound states : Int} (hc : checkSystem r = 0) (hs : r.all strR = true) (hnv : ∀ x ∈ r, x.left.var = false) (hb : 0 ≤ bound ∧ bound ≤ 16) (hb2 : 1 ≤ bound ∨ r = []) (hst : 1 ≤ states ∧ states ≤ 256)
    (he : easyB r = true) : ∀ (f : Nat) (a : AAut), 4097 ≤ f + a.moves.length → EInv r bound states a → (findGo (r := r) (r.map toRl) states f a).2 = 0 := by
  have hd : (dedS (symbolsR r)).length ≤ 2000 := by
    unfold easyB at he; rw [Bool.and_eq_true, decide_eq_true_eq] at he; exact he.1
  intro f
  induction f with
  | zero => intro a hf hi; have := hi.len hd; omega
  | succ f ih =>
    intro a hf hi
    simp only [findGo]
    cases hl : lacksM a.moves a.states.toNat (r.map toRl) with
    | none => simp [hi.check hc hs hb hd hl]
    | some m =>
      obtain ⟨h1, h2⟩ := hi.step hc hs hnv hb.2 hb2 hst he hl
      have h3 := hi.one
      have h4 := (add_grows hi.f.in0 (hi.f.okA hb.2 hst.2) (by omega) hl h1).2.2.2.1
      simp only [h1, if_true]
      exact ih _ (by omega) h2
theorem initA_all {l : List ARl} {bound states : Int} (hb : 0 ≤ bound) (hs : 1 ≤ states) : ∀ (ns : List Str) (a : AAut), FInv l bound states a → a.states = 1 → (∀ n ∈ ns, n ∈ allN l) → (∀ x ∈ a.moves, x.h = 0) →
    (∀ x ∈ (ns.foldl (fun a n => insA a ⟨0, 0, n, 0⟩) a).moves, x.h = 0) ∧ ∀ n, (n ∈ ns ∨ (⟨0, 0, n, 0⟩ : AMove) ∈ a.moves) → (⟨0, 0, n, 0⟩ : AMove) ∈ (ns.foldl (fun a n => insA a ⟨0, 0, n, 0⟩) a).moves
  | [], a, h, h1, _, h0 => ⟨h0, fun n hn => hn.resolve_left (by simp)⟩
  | n :: ns, a, h, h1, hn, h0 => by
    have hi : FInv l bound states (insA a ⟨0, 0, n, 0⟩) := ⟨h.in0.insA ⟨by simp only; omega, by simp only; omega, by simp only; have := h.bd; omega⟩, h.bd, h.st, fun x hx => by
      rcases (insM_mem h.in0.ord).1 hx with hx | rfl
      · exact h.nm x hx
      · exact hn n (by simp)⟩
    obtain ⟨k1, k2⟩ := initA_all hb hs ns (insA a ⟨0, 0, n, 0⟩) hi h1 (fun c hc => hn c (by simp [hc])) fun x hx => by
      rcases (insM_mem h.in0.ord).1 hx with hx | rfl
      · exact h0 x hx
      · rfl
    refine ⟨k1, fun c hc => k2 c ?_⟩
    rcases hc with hc | hc
    · rcases List.mem_cons.1 hc with rfl | hc
      · exact .inr ((insM_mem h.in0.ord).2 (.inr rfl))
      · exact .inl hc
    · exact .inr ((insM_mem h.in0.ord).2 (.inl hc))
theorem find_easy {r : List ARule} {bound states : Int} (hc : checkSystem r = 0) (hs : r.all strR = true) (hnv : ∀ x ∈ r, x.left.var = false) (hb : 0 ≤ bound ∧ bound ≤ 16) (hb2 : 1 ≤ bound ∨ r = []) (hst : 1 ≤ states ∧ states ≤ 256)
    (he : easyB r = true) : (findB r bound states).2 = 0 := by
  have hse : systemE r = (r.map toRl, 0) := by unfold systemE; rw [if_neg (by simp [hc]), if_pos hs]
  unfold findB
  rw [hse, if_neg (by simp), if_neg (by omega)]
  have hi0 : FInv (r.map toRl) bound states ⟨1, bound, []⟩ := ⟨⟨Int.le_refl _, List.Pairwise.nil, fun x hx => by cases hx⟩, rfl, hst.1, fun x hx => by cases hx⟩
  obtain ⟨i1, i2, i3⟩ := initA_inv hb.1 hst.1 (namesM (r.map toRl)) ⟨1, bound, []⟩ hi0 rfl fun n hn => namesM_mem.1 hn
  obtain ⟨j1, j2⟩ := initA_all hb.1 hst.1 (namesM (r.map toRl)) ⟨1, bound, []⟩ hi0 rfl (fun n hn => namesM_mem.1 hn) fun x hx => by cases hx
  exact findGo_easy hc hs hnv hb hb2 hst he 4098 (initA bound (namesM (r.map toRl))) (by omega) ⟨i1, i2, fun x hx => .inl (j1 x hx), fun n hn => j2 n (.inl (namesM_mem.2 (by rw [allN_rl]; exact hn)))⟩
theorem findGo_ok {r : List ARule} {bound states : Int} (hb : 0 ≤ bound ∧ bound ≤ 16) (hst : 1 ≤ states ∧ states ≤ 256) (l : List ARl) (f : Nat) : ∀ (a : AAut), FInv l bound states a →
    (findGo (r := r) l states f a = (zA, 12)) ∨ ((findGo (r := r) l states f a).2 = 0 ∧ (findGo (r := r) l states f a).1.bound = bound ∧ (findGo (r := r) l states f a).1.states ≤ states ∧ checkB r (findGo (r := r) l states f a).1 = 0 ∧
      FInv l bound states (findGo (r := r) l states f a).1) := by
  induction f with
  | zero => intro a _; exact .inl rfl
  | succ f ih =>
    intro a hi
    simp only [findGo]
    cases hl : lacksM a.moves a.states.toNat l with
    | none =>
      simp only
      by_cases hc : checkB r a = 0
      · rw [if_neg (by simpa using hc)]; exact .inr ⟨rfl, hi.bd, hi.st, hc, hi⟩
      · rw [if_pos hc]; exact .inl rfl
    | some m =>
      simp only
      cases hk : (addM a m states).2 with
      | false => exact .inl rfl
      | true =>
        rw [if_pos rfl]
        have hst2 := hi.st
        obtain ⟨g1, g2, g3, g4, g5, g6, g7⟩ := add_grows hi.in0 (hi.okA hb.2 hst.2) (by omega) hl hk
        obtain ⟨x, hx, p, hp, s, hs', hme, _⟩ := lacks_some hl
        exact ih _ ⟨g1, by rw [g2, hi.bd], g3, fun y hy => by
          rcases g7 y hy with hy | ⟨_, hy⟩
          · exact hi.nm y hy
          · rw [hme] at hy; exact mem_allN hx hy⟩
theorem findB_ok {r : List ARule} {bound states : Int} (h1 : (systemE r).2 = 0) (hb : 0 ≤ bound ∧ bound ≤ 16) (hst : 1 ≤ states ∧ states ≤ 256) :
    findB r bound states = (zA, 12) ∨ ((findB r bound states).2 = 0 ∧ (findB r bound states).1.bound = bound ∧ (findB r bound states).1.states ≤ states ∧ checkB r (findB r bound states).1 = 0 ∧
      FInv (systemE r).1 bound states (findB r bound states).1) := by
  unfold findB
  rw [if_neg (by simpa using h1), if_neg (by omega)]
  have hi0 : FInv (systemE r).1 bound states ⟨1, bound, []⟩ := ⟨⟨Int.le_refl _, List.Pairwise.nil, fun x hx => by cases hx⟩, rfl, hst.1, fun x hx => by cases hx⟩
  obtain ⟨i1, i2, i3⟩ := initA_inv hb.1 hst.1 (namesM (systemE r).1) ⟨1, bound, []⟩ hi0 rfl fun n hn => namesM_mem.1 hn
  exact findGo_ok hb hst _ 4098 (initA bound (namesM (systemE r).1)) i1
end Go.Dw
end
section
namespace Go.Dw
section
variable {P : Program} {N : Nat → C} {B : Nat} {ds : List Nat} {g l : List S} {s : List K} {t : T} {H : List Ob} {Q : X → T → List Ob → Prop}
theorem gK_tt : gP P N B true ds g l s t H Q (.bool true) = Run P N B (.r (g ++ l) :: s) t H Q := by simp [gP]
theorem gK_ff : gP P N B false ds g l s t H Q (.bool false) = Run P N B (.r (g ++ l) :: s) t H Q := by simp [gP]
theorem gK_tf : gP P N B true ds g l s t H Q (.bool false) = Run P N B (.r l :: s) (ds.map (fun d => (d, V.tup [])) ++ t) H Q := by simp [gP]
theorem gK_ft : gP P N B false ds g l s t H Q (.bool true) = Run P N B (.r l :: s) (ds.map (fun d => (d, V.tup [])) ++ t) H Q := by simp [gP]
theorem cK_t {a b : C} : cP P N B a b s t H Q (.bool true) = Run P N B (.c a :: s) t H Q := by simp [cP]
theorem cK_f {a b : C} : cP P N B a b s t H Q (.bool false) = Run P N B (.c b :: s) t H Q := by simp [cP]
end
attribute [push_cast] gK_tt gK_ff gK_tf gK_ft cK_t cK_f
end Go.Dw
end
section
namespace Go.Dw
theorem checkSystem_nv2 {r : List ARule} (h : checkSystem r = 0) : ∀ x ∈ r, x.left.var = false := by
  unfold checkSystem at h
  split at h
  · rename_i h1; exact absurd h h1
  · split at h
    · cases h
    · split at h
      · cases h
      · split at h
        · cases h
        · rename_i h3
          intro x hx
          have h4 : extra x = false := by
            cases he : extra x with
            | false => rfl
            | true => exact absurd (List.any_eq_true.2 ⟨x, hx, he⟩) h3
          unfold extra at h4
          simp only [Bool.or_eq_false_iff] at h4
          exact h4.1
theorem sysE_bad {r : List ARule} (c : checkSystem r ≠ 0) : systemE r = ([], checkSystem r) := if_pos c
theorem sysE_ok {r : List ARule} (c : checkSystem r = 0) : systemE r = if r.all strR then (r.map toRl, 0) else ([], 4) := if_neg (by simpa using c)
theorem find_bad2 {r : List ARule} (bound states : Int) (c : checkSystem r ≠ 0) : findB r bound states = (zA, checkSystem r) := by
  unfold findB
  rw [sysE_bad c]; exact if_pos c
theorem find_bad3 {r : List ARule} (bound states : Int) (c : checkSystem r = 0) (h : r.all strR = false) : findB r bound states = (zA, 4) := by
  unfold findB
  rw [sysE_ok c, h]; rfl
theorem find_bad4 {r : List ARule} (bound states : Int) (c : checkSystem r = 0) (h : r.all strR = true) (hb : bound < 0 ∨ 16 < bound ∨ states < 1 ∨ 256 < states) : findB r bound states = (zA, 2) := by
  unfold findB
  rw [sysE_ok c, h, if_pos rfl, if_neg (by simp), if_pos hb]
theorem find_bad (r : List ARule) (bound states : Int) (h : 256 < states) : findB r bound states = (zA, if checkSystem r ≠ 0 then checkSystem r else if r.all strR then 2 else 4) := by
  by_cases c : checkSystem r = 0
  · rw [if_neg (by simpa using c)]
    cases h1 : r.all strR with
    | true => exact find_bad4 bound states c h1 (by omega)
    | false => exact find_bad3 bound states c h1
  · rw [if_pos c, find_bad2 bound states c]
set_option maxHeartbeats 4000000 in
theorem BoundsFinds_s (r : List ARule) (bound states : Int) (hr : rbs r < 2 ^ 28) : SpecE prog n_l24_BoundsFinds [encRs r, .int .i64 bound, .int .i64 states] [] (fun x' H' => x' = .bool true ∧ H' = []) := by
  refine spece_of_run mixed l24_BoundsFinds.ok rfl ?_
  by_cases h0 : 40 < states ∧ states ≤ 256
  · push_cast (maxSteps := 1000000) [eq_true h0.1, eq_true h0.2]
    exact pf_ret (by push_cast [l24_BoundsFinds.rs])
  have hz : ∀ e, findV (zA, e) = .tup [.agg [.int .i64 0, .int .i64 0, .sl 4 []], .int .i64 e] := fun _ => rfl
  have hse : checkSystem r = 0 → r.all strR = true → systemE r = (r.map toRl, 0) := fun c1 c2 => by unfold systemE; rw [if_neg (by simpa using c1), if_pos c2]
  have hl := length_le_rbs r
  have hFeq : findB r bound states = findB r bound states := rfl
  generalize hF : findB r bound states = F at hFeq
  by_cases h1 : 40 < states
  · have h1b : ¬ states ≤ 256 := by omega
    push_cast (maxSteps := 1000000) [eq_true h1, eq_false h1b]
    refine .of (bounds_Find_s r bound states hr) ?_
    have hF2 : F = (zA, if checkSystem r ≠ 0 then checkSystem r else if r.all strR then 2 else 4) := by rw [← hF]; exact find_bad r bound states (by omega)
    rw [hF]
    by_cases c1 : checkSystem r = 0
    · rw [if_neg (by simpa using c1)] at hF2
      cases c2 : r.all strR with
      | false =>
        rw [c2, if_neg (by simp)] at hF2
        subst hF2
        push_cast (maxSteps := 1000000) [hz]
        refine .of (r01_CheckSystem_s r (by omega)) ?_
        push_cast (maxSteps := 1000000) [c1]
        refine .of (r24_Is_s r (by omega)) ?_
        rw [← strR_Q c1, c2]
        push_cast
        refine .of alive24 ?_
        push_cast
        exact pf_ret (by push_cast [l24_BoundsFinds.rs])
      | true =>
        rw [c2, if_pos rfl] at hF2
        subst hF2
        push_cast (maxSteps := 1000000) [hz]
        refine .of (r01_CheckSystem_s r (by omega)) ?_
        push_cast (maxSteps := 1000000) [c1]
        refine .of (r24_Is_s r (by omega)) ?_
        rw [← strR_Q c1, c2]
        by_cases c3 : bound < 0
        · push_cast (maxSteps := 1000000) [eq_true c3]
          refine .of alive24 ?_
          push_cast
          exact pf_ret (by push_cast [l24_BoundsFinds.rs])
        · by_cases c4 : 16 < bound
          · push_cast (maxSteps := 1000000) [eq_false c3, eq_true c4]
            refine .of alive24 ?_
            push_cast
            exact pf_ret (by push_cast [l24_BoundsFinds.rs])
          · push_cast (maxSteps := 1000000) [eq_false c3, eq_false c4, eq_false (show ¬ states < 1 by omega), eq_true (show 256 < states by omega)]
            refine .of alive24 ?_
            push_cast
            exact pf_ret (by push_cast [l24_BoundsFinds.rs])
    · rw [if_pos (by simpa using c1)] at hF2
      subst hF2
      push_cast (maxSteps := 1000000) [hz]
      refine .of (r01_CheckSystem_s r (by omega)) ?_
      push_cast (maxSteps := 1000000) [c1]
      refine .of alive24 ?_
      push_cast
      exact pf_ret (by push_cast [l24_BoundsFinds.rs])
  · push_cast (maxSteps := 1000000) [eq_false h1]
    refine .of (bounds_Find_s r bound states hr) ?_
    rw [hF]
    by_cases c1 : checkSystem r = 0
    · cases c2 : r.all strR with
      | false =>
        have hF2 : F = (zA, 4) := by rw [← hF]; exact find_bad3 bound states c1 c2
        subst hF2
        push_cast (maxSteps := 1000000) [hz]
        refine .of (r01_CheckSystem_s r (by omega)) ?_
        push_cast (maxSteps := 1000000) [c1]
        refine .of (r24_Is_s r (by omega)) ?_
        rw [← strR_Q c1, c2]
        push_cast
        refine .of alive24 ?_
        push_cast
        exact pf_ret (by push_cast [l24_BoundsFinds.rs])
      | true =>
        by_cases c3 : bound < 0 ∨ 16 < bound ∨ states < 1
        · have hF2 : F = (zA, 2) := by
            rw [← hF]; unfold findB; rw [hse c1 c2, if_neg (by simp), if_pos (by omega)]
          subst hF2
          push_cast (maxSteps := 1000000) [hz]
          refine .of (r01_CheckSystem_s r (by omega)) ?_
          push_cast (maxSteps := 1000000) [c1]
          refine .of (r24_Is_s r (by omega)) ?_
          rw [← strR_Q c1, c2]
          by_cases c4 : bound < 0
          · push_cast (maxSteps := 1000000) [eq_true c4]
            refine .of alive24 ?_
            push_cast
            exact pf_ret (by push_cast [l24_BoundsFinds.rs])
          · by_cases c5 : 16 < bound
            · push_cast (maxSteps := 1000000) [eq_false c4, eq_true c5]
              refine .of alive24 ?_
              push_cast
              exact pf_ret (by push_cast [l24_BoundsFinds.rs])
            · push_cast (maxSteps := 1000000) [eq_false c4, eq_false c5, eq_true (show states < 1 by omega)]
              refine .of alive24 ?_
              push_cast
              exact pf_ret (by push_cast [l24_BoundsFinds.rs])
        · have n1 : ¬ bound < 0 := by omega
          have n2 : ¬ 16 < bound := by omega
          have n3 : ¬ states < 1 := by omega
          have n4 : ¬ 256 < states := by omega
          rcases findB_ok (r := r) (bound := bound) (states := states) (by rw [hse c1 c2]) (by omega) (by omega) with hF2 | ⟨k1, k2, k3, k4, k5⟩
          · rw [hF] at hF2
            have hne : ¬ ((1 ≤ bound ∨ r = []) ∧ easyB r = true) := fun ⟨e1, e2⟩ => by
              have := find_easy (r := r) (bound := bound) (states := states) c1 c2 (checkSystem_nv2 c1) (by omega) e1 (by omega) e2
              rw [hF, hF2] at this; cases this
            subst hF2
            have hrl : r ≠ [] := fun e => hne ⟨.inr e, by rw [e]; rfl⟩
            have hrl2 : (0 : Int) < r.length := by have := List.length_pos_iff.2 hrl; omega
            push_cast (maxSteps := 1000000) [hz]
            refine .of (r01_CheckSystem_s r (by omega)) ?_
            push_cast (maxSteps := 1000000) [c1]
            refine .of (r24_Is_s r (by omega)) ?_
            rw [← strR_Q c1, c2]
            by_cases hb0 : bound = 0
            · push_cast (maxSteps := 1000000) [eq_false n1, eq_false n2, eq_false n3, eq_false n4, eq_true hrl2, eq_true hb0]
              refine .of alive24 ?_
              push_cast
              exact pf_ret (by push_cast [l24_BoundsFinds.rs])
            · have hez : easyB r = false := by
                cases he : easyB r with
                | false => rfl
                | true => exact absurd ⟨.inl (by omega), he⟩ hne
              push_cast (maxSteps := 1000000) [eq_false n1, eq_false n2, eq_false n3, eq_false n4, eq_true hrl2, eq_false hb0]
              refine .of (l24_easy_s r (by omega)) ?_
              rw [hez]
              push_cast
              refine .of alive24 ?_
              push_cast
              exact pf_ret (by push_cast [l24_BoundsFinds.rs])
          · rw [hF] at k1 k2 k3 k4 k5
            obtain ⟨a, e⟩ := F
            simp only at k1 k2 k3 k4 k5
            subst k1
            have hfo := (checkB_ok k4).2.2.1
            have hsz : Sz r a := ⟨hr, by have := hfo.len; omega, fun x hx => by
              have := sys_name hr x.name (k5.nm x hx)
              omega⟩
            have hfv : findV (a, 0) = .tup [encAu a, .int .i64 0] := rfl
            push_cast (maxSteps := 1000000) [hfv]
            refine .of (r01_CheckSystem_s r (by omega)) ?_
            push_cast (maxSteps := 1000000) [c1]
            refine .of (r24_Is_s r (by omega)) ?_
            rw [← strR_Q c1, c2]
            push_cast (maxSteps := 1000000) [eq_false n1, eq_false n2, eq_false n3, eq_false n4, eq_true k2, eq_true k3]
            refine .of (r24_Check_s r a hsz) ?_
            rw [← checkB_eq, k4]
            push_cast
            refine .of (bounds_Check_s r a hsz) ?_
            rw [k4]
            push_cast
            refine .of alive24 ?_
            push_cast
            exact pf_ret (by push_cast [l24_BoundsFinds.rs])
    · have hF2 : F = (zA, checkSystem r) := by rw [← hF]; exact find_bad2 bound states c1
      subst hF2
      push_cast (maxSteps := 1000000) [hz]
      refine .of (r01_CheckSystem_s r (by omega)) ?_
      push_cast (maxSteps := 1000000) [c1]
      refine .of alive24 ?_
      push_cast
      exact pf_ret (by push_cast [l24_BoundsFinds.rs])
end Go.Dw
end
