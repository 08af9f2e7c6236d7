/-
  Contracts: rows of positions, rules and steps.
-/
import Derived.Test.YtokdinonifchaaaGreatXb
import Derived.Test.YtokdinonifchaaaGreatYa
import Derived.Sort.KeysCollected
section
set_option linter.unusedVariables false
set_option linter.unusedSimpArgs false
set_option maxRecDepth 100000
namespace Go.Dw
theorem ends_one {rs : List RV} {t : T} {H : List Ob} {Q : V → List Ob → Prop} {e : X} (k : Nat) {x : V} {o : Ob} (h : retV rs t H = some x) (hk : H[k]? = some o) (hq : Q (ren (pos? [k]) x) [renOb (pos? [k]) o])
    (he : e = .ret ∨ e = .fall := by first | exact .inl rfl | exact .inr rfl) : Ends 0 rs Q e t H := by
  refine ends_ex (B := 0) he [k] (by simp) (fun i hi => ?_) h ?_
  · simp only [List.mem_singleton] at hi; subst hi; exact (List.getElem?_eq_some_iff.1 hk).1
  · have : give (List.range 0 ++ [k]) H = [renOb (pos? [k]) o] := by
      simp only [List.range_zero, List.nil_append, give, List.map_cons, List.map_nil, List.getD_eq_getElem?_getD, hk, Option.getD_some]
    rw [this]; exact hq
theorem pos_one (k : Nat) : pos? [k] k = some 0 := by simp [pos?]
theorem slices_Clone_int_s (p : List Int) (hp : p.length < 2 ^ 40) : Spec prog n_slices_Clone_s_int_int [encP p] [] fun x' H' => x' = ownL cI 0 1 p ∧ H' = [.arr t_int 1 p.length] := by
  refine spec_of_run mixed slices_Clone_s_int_int.ok rfl ?_
  push_cast
  intro c hc
  refine ⟨fun h => ?_, fun h => ⟨by rw [List.length_map]; unfold maxEls; omega, ?_⟩⟩
  · have hp0 : p = [] := by simpa using hc (by cases c <;> simp_all)
    subst hp0
    exact ends_one 1 rfl rfl ⟨rfl, rfl⟩
  · exact ends_one 1 rfl rfl ⟨rfl, by simp [renOb]⟩
/-! ### Behind n objects -/
section
variable {α : Type} {H l : List α} {n : Nat} (h : H.length = n)
include h
theorem get_off (k : Nat) : (H ++ l)[n + k]? = l[k]? := by rw [List.getElem?_append_right (by omega)]; congr 1; omega
theorem get_off0 : (H ++ l)[n]? = l[0]? := get_off h 0
theorem set_off (k : Nat) (x : α) : (H ++ l).set (n + k) x = H ++ l.set k x := by rw [List.set_append_right _ _ (by omega)]; congr 2; omega
theorem set_off0 (x : α) : (H ++ l).set n x = H ++ l.set 0 x := set_off h 0 x
theorem take_off : (H ++ l).take n = H := List.take_left' h
end
theorem shut_clip {n : Nat} {H : List Ob} (h : Shut n H) : H.map (renOb (clip n)) = H := h.2

theorem pos_range (n : Nat) : pos? (List.range n) = clip n := by
  funext i
  unfold pos? clip
  by_cases h : i < n
  · rw [if_pos h, List.findIdx?_eq_some_iff_getElem]
    refine ⟨by simpa using h, by simp, fun j hj => by simp; omega⟩
  · rw [if_neg h, List.findIdx?_eq_none_iff]
    intro x hx
    have := List.mem_range.1 hx
    simp; omega
theorem give_keep {n : Nat} {H J : List Ob} (h : Shut n H) : give (List.range n) (H ++ J) = H := by
  have h2 := h.2
  unfold give
  rw [pos_range]
  conv => rhs; rw [← h2]
  apply List.ext_getElem
  · simp [h.1]
  · intro i hi1 hi2
    have hi : i < H.length := by simpa [h.1] using hi1
    simp [List.getD_eq_getElem?_getD, List.getElem?_append_left hi, hi]
theorem takeB_keep {n : Nat} {H J H' : List Ob} (h : Shut n H) (h' : Shut n H') : takeB (List.range n) (H ++ J) H' = H' ++ J := by
  have hb : ∀ i, i < n → back (List.range n) (H ++ J).length i = some i := fun i hi => by simp [back, hi]
  unfold takeB
  rw [List.length_range, List.drop_of_length_le (by rw [h'.1]; exact Nat.le_refl _), List.map_nil, List.append_nil, shut_map h'.2 hb]
  unfold takeG
  rw [pos_range]
  apply List.ext_getElem
  · simp [h.1, h'.1]
  · intro i hi1 hi2
    simp only [List.getElem_map, List.getElem_range]
    unfold clip
    by_cases hi : i < n
    · have : i < H'.length := by rw [h'.1]; exact hi
      rw [if_pos hi, List.getElem_append_left this]
      simp [List.getD_eq_getElem?_getD, this]
    · rw [if_neg hi, List.getElem_append_right (by rw [h'.1]; omega)]
      have : H.length ≤ i := by rw [h.1]; omega
      simp only [List.getD_eq_getElem?_getD]
      rw [List.getElem?_append_right this]
      have h3 : i - H.length < J.length := by simp only [List.length_append, h'.1] at hi2; rw [h.1]; omega
      simp only [h.1, h'.1] at h3 ⊢
      simp [h3]
section
variable {N : Nat → C} {B : Nat} {s : List K} {t : T} {H : List Ob} {Q : X → T → List Ob → Prop}
/-- A call that gets the first n objects. -/
theorem callG_keep {d : Option Nat} {l : List S} {F : Fn} {vs vs' : List V} {n : Nat} {J : List Ob} {R : V → List Ob → Prop} (h : Shut n H) (hvs : rens (clip n) vs = vs') (hs : SpecF prog F vs' H R) (hR : ∀ x H', R x H' → Shut n H')
    (k : ∀ x H', R x H' → Run prog N B (.r l :: s) (setO d (ren (back (List.range n) (H ++ J).length) x) t) (H' ++ J) Q) : CallG prog N B d l s t Q F vs (H ++ J) := by
  refine CallG.some (List.range n) List.nodup_range (fun i hi => by have := List.mem_range.1 hi; rw [List.length_append, h.1]; omega) (R := R) ?_ ?_
  · rw [give_keep h, pos_range, hvs]; exact hs
  · intro x H' hx _
    rw [takeB_keep h (hR x H' hx)]
    exact k x H' hx
end
/-- Of the objects the first n are handed back. -/
theorem ends_keep {rs : List RV} {t : T} {n : Nat} {H J : List Ob} {Q : V → List Ob → Prop} {e : X} {x : V} (h : Shut n H) (hr : retV rs t (H ++ J) = some x) (hq : Q (ren (clip n) x) H)
    (he : e = .ret ∨ e = .fall := by first | exact .inl rfl | exact .inr rfl) : Ends n rs Q e t (H ++ J) := by
  refine ends_ex (B := n) he [] (by simp [List.nodup_range]) (fun i hi => by cases hi) hr ?_
  rw [List.append_nil, give_keep h, pos_range]; exact hq
theorem clip_off (n k : Nat) : clip n (n + k) = none := by unfold clip; rw [if_neg (by omega)]
theorem clip_off0 (n : Nat) : clip n n = none := clip_off n 0

/-! ### The visit of a term -/
mutual
/-- The positions of a term in preorder, with their subterms. -/
def visit : Term → List Int → List (List Int × Term)
  | .mk n v l, p => (p, .mk n v l) :: visits l p 0
def visits : List Term → List Int → Nat → List (List Int × Term)
  | [], _, _ => []
  | a :: l, p, i => visit a (p ++ [(i : Int)]) ++ visits l p (i + 1)
end
theorem visit_eq (t : Term) (p : List Int) : visit t p = (p, t) :: visits t.args p 0 := by cases t; simp [visit, Term.args]
theorem visits_append (a b : List Term) (p : List Int) (i : Nat) : visits (a ++ b) p i = visits a p i ++ visits b p (i + a.length) := by
  induction a generalizing i with
  | nil => simp [visits]
  | cons x xs ih => simp only [List.cons_append, visits, ih, List.append_assoc, List.length_cons]; congr 3; omega
theorem visits_take_succ {l : List Term} {p : List Int} {k : Nat} (h : k < l.length) : visits (l.take (k + 1)) p 0 = visits (l.take k) p 0 ++ visit (l.getD k default) (p ++ [(k : Int)]) := by
  rw [take_succ_getD h, visits_append]
  have : (l.take k).length = k := by simp; omega
  simp [visits, this]
theorem visits_drop {l : List Term} {p : List Int} {k : Nat} (h : k < l.length) : visits l p 0 = visits (l.take k) p 0 ++ (visit (l.getD k default) (p ++ [(k : Int)]) ++ visits (l.drop (k + 1)) p (k + 1)) := by
  have h1 : l = l.take k ++ (l.getD k default :: l.drop (k + 1)) := by rw [← drop_getD h, List.take_append_drop]
  have : (l.take k).length = k := by simp; omega
  conv => lhs; rw [h1, visits_append]
  rw [visits, this, Nat.zero_add]
def encIt (x : List Int × Term) : List V := [encP x.1, encT x.2]
theorem at_app {α : Type} {l a b c : List α} {k : Nat} (h : l.drop k = a ++ (b ++ c)) : l.drop (k + a.length) = b ++ c := by
  rw [← List.drop_drop, h, List.drop_left]
theorem at_get {α : Type} {l b : List α} {a : α} {k : Nat} (h : l.drop k = a :: b) : l[k]? = some a := by
  have := List.getElem?_drop (xs := l) (i := k) (j := 0)
  rw [h] at this; simpa using this.symm
theorem term_walk_s {F : Fn} {G : Nat → List Ob → Prop} {S : List Ob → Prop} {n : Nat} {its : List (List Int × Term)} (hG : ∀ k H, G k H → Shut n H) (hS : ∀ H, S H → Shut n H)
    (hF : ∀ k it H, its[k]? = some it → G k H → SpecF prog F (encIt it) H fun x H' => x = .bool true ∧ G (k + 1) H' ∨ x = .bool false ∧ S H') (t : Term) :
    ∀ (p : List Int) (k : Nat) (rest : List (List Int × Term)), its.drop k = visit t p ++ rest → p.length + size t < 2 ^ 40 → ∀ H, G k H → Spec prog n_term_walk [encT t, encP p, .fn F [] []] H fun x H' => x = .bool true ∧ G (k + (visit t p).length) H' ∨ x = .bool false ∧ S H' := by
  induction t using term_ind with
  | h t ih =>
  intro p k rest hd hsz H hg
  have hH := hG _ _ hg
  have hl := length_le_sizes t.args
  have hst := size_args t
  rw [visit_eq, List.cons_append] at hd
  refine spec_of_run mixed term_walk.ok rfl ?_
  push_cast
  refine .all (hF k _ H (at_get hd) hg) ?_
  rintro x H1 (⟨rfl, hg1⟩ | ⟨rfl, hs1⟩)
  case inr =>
    push_cast
    refine ends_all (.inl rfl) rfl (.inr ⟨rfl, hs1⟩)
  case inl =>
    have hH1 := hG _ _ hg1
    have hkp : ∀ H1, Shut n H1 → (H1.take H.length).map (renOb (clip H.length)) = H1 := fun H1 h => by rw [hH.1, List.take_of_length_le (Nat.le_of_eq h.1), h.2]
    push_cast [hkp H1 hH1]
    have hd1 : its.drop (k + 1) = visits t.args p 0 ++ rest := by rw [← List.drop_drop, hd]; rfl
    refine loop_up (n := t.args.length) (R := fun j => ∀ H1, G (k + 1 + (visits (t.args.take j) p 0).length) H1 → term_walk.L3 (encP p) (.fn F [] []) (encTs t.args) (.int .i64 t.args.length) (.int .i64 j) H.length H1 _) ?_ ?_ 0 (by omega) H1 hg1
    · intro j hj ih2 H1 hg1
      have hm := getD_mem hj
      have hsm := size_mem hm
      have hH1 := hG _ _ hg1
      have hn : H.length = n := hH.1
      rw [hn]
      refine term_walk.G3 ?_
      push_cast [ilt hj, hH1.1, get_off0 hH1.1, get_off hH1.1, set_off hH1.1, set_off0 hH1.1, w64 (show j < 2 ^ 62 by omega)]
      have hp1 : (p ++ [(j : Int)]).length + size (t.args.getD j default) < 2 ^ 40 := by rw [List.length_append, List.length_singleton]; omega
      have hd2 : its.drop (k + 1 + (visits (t.args.take j) p 0).length) = visit (t.args.getD j default) (p ++ [(j : Int)]) ++ (visits (t.args.drop (j + 1)) p (j + 1) ++ rest) := by
        refine at_app ?_
        rw [hd1, visits_drop hj]; simp
      have hw : SpecF prog (.func n_term_walk) _ _ _ := specF_func ▸ ih _ hm _ _ _ hd2 hp1 H1 hg1
      rw [visits_take_succ hj, List.length_append] at ih2
      refine ⟨?_, ?_⟩ <;>
      · refine callG_new (slices_Clone_int_s p (by omega)) ?_
        push_cast [hH1.1, get_off0 hH1.1, get_off hH1.1, set_off hH1.1, set_off0 hH1.1]
        refine ⟨by unfold maxEls; omega, ?_⟩
        refine callG_keep hH1 (vs' := [encT (t.args.getD j default), encP (p ++ [(j : Int)]), .fn F [] []]) ?_ hw ?_ ?_
        · push_cast
          rw [if_neg (by omega)]
          simp [encL, cI]
        · rintro x H2 (⟨_, h⟩ | ⟨_, h⟩)
          · exact hG _ _ h
          · exact hS _ h
        · rintro x H2 (⟨rfl, h⟩ | ⟨rfl, h⟩)
          · have hH2 := hG _ _ h
            push_cast [w64 (show j < 2 ^ 62 by omega), take_off hH2.1, shut_clip hH2]
            have := ih2 H2 (by rw [← Nat.add_assoc]; exact h)
            rw [hn] at this
            exact this
          · have hH2 := hS _ h
            push_cast
            exact ends_keep hH2 rfl (.inr ⟨rfl, h⟩)
    · intro H1 hg1
      refine term_walk.G3 ?_
      push_cast [inlt (Nat.le_refl _)]
      refine ends_all (.inl rfl) rfl (.inl ⟨rfl, ?_⟩)
      rw [List.take_length] at hg1
      rw [visit_eq, List.length_cons, Nat.add_comm _ 1, ← Nat.add_assoc]
      exact hg1
/-- Walk hands its function one position after the other. -/
theorem term_Walk_iter (t : Term) (hs : size t < 2 ^ 40) : IterSpec prog n_term_Walk_1 [] [.ro (cT t) 0] ((visit t []).map encIt) := by
  intro F G S n hG hS hF H hg
  have hH := hG _ _ hg
  refine spece_of_run mixed term_Walk_1.ok rfl ?_
  push_cast
  have hw := term_walk_s (F := F) (n := n) (its := visit t []) hG hS (fun k it H' hit => hF k (encIt it) H' (by rw [List.getElem?_map, hit]; rfl)) t [] 0 [] (by simp) (by simpa using hs) H hg
  have hw : SpecF prog (.func n_term_walk) _ _ _ := specF_func ▸ hw
  refine CallG.all hw ?_
  rintro x H1 (⟨rfl, h⟩ | ⟨rfl, h⟩)
  · push_cast
    exact ends_all (.inr rfl) rfl (.inl (by rw [Nat.zero_add] at h; rw [List.length_map]; exact h))
  · push_cast
    exact ends_all (.inr rfl) rfl (.inr h)
theorem term_Walk_s (t : Term) : PF n_term_Walk [encT t] (.fn (.func n_term_Walk_1) [] [.ro (cT t) 0]) := by
  refine pf_of term_Walk.ok rfl ?_
  push_cast
  exact pf_ret (by push_cast [term_Walk.rs])
end Go.Dw
end
section
set_option linter.unusedVariables false
set_option linter.unusedSimpArgs false
set_option maxRecDepth 100000
namespace Go.Dw
open Go.Proofs (sortS)
theorem rens_strs {σ : Nat → Option Nat} {l : List Str} : (l.map fun s => [V.str s]).map (rens σ) = l.map fun s => [V.str s] := by rw [List.map_map]; rfl
attribute [push_cast] rens_strs
theorem take_2 (a b c d o : Ob) : takeB [2] [a, b, c, d] [o] = [a, b, renOb (back [2] 4) o, d] := rfl
theorem give_2 (a b c d : Ob) : give [2] [a, b, c, d] = [renOb (pos? [2]) c] := rfl
/-- Names, each once. -/
def addS (ks : List Str) (n : Str) : List Str := if n ∈ ks then ks else ks ++ [n]
def encKs (ks : List Str) : List (V × V) := ks.map fun k => (.str k, .bool true)
theorem ren_encKs {σ : Nat → Option Nat} {ks : List Str} : ((encKs ks).map fun p => (ren σ p.1, ren σ p.2)) = encKs ks := by
  unfold encKs; rw [List.map_map]; rfl
attribute [push_cast] ren_encKs
theorem findM_encKs (n : Str) : ∀ (ks : List Str) (i : Nat), findM (.str n) (encKs ks) i = some (if n ∈ ks then some (i + ks.idxOf n, .bool true) else none)
  | [], i => by simp [findM, encKs]
  | k :: ks, i => by
    have ih := findM_encKs n ks (i + 1)
    unfold encKs at ih ⊢
    by_cases h : k = n
    · subst h; simp [findM, sameK]
    · have h' : n ≠ k := fun e => h e.symm
      have e : sameK (.str n) (.str k) = some false := by simp [sameK, h']
      have hb : (k == n) = false := by simp [h]
      simp only [List.map_cons, findM, e, ih, List.mem_cons, h', false_or, List.idxOf_cons, hb, cond_false]
      split
      · congr 3; omega
      · rfl
theorem updM_encKs (n : Str) (ks : List Str) : updM (.str n) (.bool true) (encKs ks) = some (encKs (addS ks n)) := by
  unfold updM
  rw [findM_encKs]
  unfold addS
  by_cases h : n ∈ ks
  · simp only [h, if_true]
    congr 1
    unfold encKs
    apply List.ext_getElem (by simp)
    intro i h1 h2
    rw [List.getElem_set]
    split
    · rename_i e
      subst e
      simp [List.getElem_idxOf]
    · rfl
  · simp only [h, if_false]
    simp [encKs]
def varsIn (l : List (List Int × Term)) : List Str := (l.filter fun x => x.2.var).map fun x => x.2.name
def vset (ks : List Str) (l : List (List Int × Term)) : List Str := (varsIn l).foldl addS ks
def vsetT (ks : List Str) (l : List Term) : List Str := l.foldl (fun ks t => vset ks (visit t [])) ks
def varsOf (l : List Term) : List Str := sortS (vsetT [] l)
mutual
theorem visit_len : ∀ (t : Term) (p : List Int), (visit t p).length = size t
  | .mk n v l, p => by simp only [visit, size, List.length_cons, visits_len l p 0]; omega
theorem visits_len : ∀ (l : List Term) (p : List Int) (i : Nat), (visits l p i).length = sizes l
  | [], p, i => rfl
  | a :: l, p, i => by simp only [visits, sizes, List.length_append, visit_len a, visits_len l]
end
theorem addS_len (ks : List Str) (n : Str) : (addS ks n).length ≤ ks.length + 1 := by unfold addS; split <;> simp
theorem foldl_addS_len : ∀ (l : List Str) (ks : List Str), (l.foldl addS ks).length ≤ ks.length + l.length
  | [], ks => by simp
  | n :: l, ks => by have := foldl_addS_len l (addS ks n); have := addS_len ks n; simp only [List.foldl_cons, List.length_cons]; omega
theorem vset_len (ks : List Str) (l : List (List Int × Term)) : (vset ks l).length ≤ ks.length + l.length := by
  have h1 := foldl_addS_len (varsIn l) ks
  have h2 : (varsIn l).length ≤ l.length := by unfold varsIn; rw [List.length_map]; exact List.length_filter_le _ _
  unfold vset; omega
theorem vsetT_len : ∀ (l : List Term) (ks : List Str), (vsetT ks l).length ≤ ks.length + sizes l
  | [], ks => by simp [vsetT, sizes]
  | t :: l, ks => by
    have h1 := vsetT_len l (vset ks (visit t []))
    have h2 := vset_len ks (visit t [])
    rw [visit_len] at h2
    simp only [vsetT, List.foldl_cons, sizes] at h1 ⊢; omega
theorem term_VarsOf_s (l : List Term) (hs : sizes l < 2 ^ 40) : PF n_term_VarsOf [encTs l] (encSs (varsOf l)) := by
  have hl := length_le_sizes l
  refine pf_of term_VarsOf.ok rfl ?_
  push_cast
  refine loop_up (n := l.length) (R := fun k => term_VarsOf.L8 (.ptr 1 0) .any (encTs l) (.int .i64 l.length) (.int .i64 k) 0 [.map (encKs (vsetT [] (l.take k))), .cells t_m_string_bool [.map 0]] _) ?_ ?_ 0 (by omega)
  · intro k hk ih
    have hm := getD_mem hk
    have hsm := size_mem hm
    refine term_VarsOf.G8 ?_
    push_cast [ilt hk]
    refine .of (term_Walk_s _) ?_
    push_cast
    have hks : vsetT [] (l.take (k + 1)) = vset (vsetT [] (l.take k)) (visit (l.getD k default) []) := by rw [take_succ_getD hk]; simp [vsetT]
    rw [hks] at ih
    generalize vsetT [] (l.take k) = ks at ih ⊢
    generalize l.getD k default = u at ih hsm ⊢
    refine Run.rf n_term_Walk_1 [] [.ro (cT u) 0] ((visit u []).map encIt) (fun j H1 => H1 = [.map (encKs (vset ks ((visit u []).take j))), .cells t_m_string_bool [.map 0], .dead]) (fun _ _ => False) rfl (term_Walk_iter u (by omega)) ?_ (by simp [vset, varsIn]) ?_ ?_ (fun _ _ h => h.elim) ?_ ?_ (fun _ _ h => h.elim)
    · intro it hit
      obtain ⟨x, _, rfl⟩ := List.mem_map.1 hit
      rfl
    · push_cast
    · rintro j H1 rfl
      refine ⟨rfl, ?_⟩
      push_cast
    · rintro lo r j it H1 hit rfl
      rw [List.getElem?_map] at hit
      cases hx : (visit u [])[j]? with
      | none => rw [hx] at hit; cases hit
      | some x =>
      rw [hx] at hit
      have hit : it = encIt x := by simpa using hit.symm
      subst hit
      have hj : j < (visit u []).length := (List.getElem?_eq_some_iff.1 hx).1
      have hxj : (visit u [])[j] = x := (List.getElem?_eq_some_iff.1 hx).2
      have htk : (visit u []).take (j + 1) = (visit u []).take j ++ [x] := by rw [List.take_succ_eq_append_getElem hj, hxj]
      push_cast [setPs, encIt]
      refine run_m.2 ?_
      cases hv : x.2.var with
      | false =>
        have hvs : vset ks ((visit u []).take (j + 1)) = vset ks ((visit u []).take j) := by rw [htk]; simp [vset, varsIn, hv]
        push_cast [hv]
        refine ⟨rfl, ?_⟩
        push_cast [cut, hvs]
      | true =>
        have hvs : vset ks ((visit u []).take (j + 1)) = addS (vset ks ((visit u []).take j)) x.2.name := by rw [htk]; simp [vset, varsIn, hv]
        push_cast [hv, updM_encKs, ksB]
        refine ⟨rfl, ?_⟩
        push_cast [cut, hvs]
    · rintro H1 rfl
      push_cast [w64 (show k < 2 ^ 62 by omega)]
      have : (visit u []).take ((visit u []).map encIt).length = visit u [] := by rw [List.length_map, List.take_length]
      rw [this]
      exact ih
  · refine term_VarsOf.G8 ?_
    push_cast [inlt (Nat.le_refl _)]
    unfold varsOf
    rw [List.take_length]
    have hkl := vsetT_len l []
    generalize vsetT [] l = ks at hkl ⊢
    simp only [List.length_nil, Nat.zero_add] at hkl
    have hlen : (encKs ks).length = ks.length := by unfold encKs; rw [List.length_map]
    rw [hlen]
    have fin : ∀ (seen : List Nat), seen.Nodup → (∀ i ∈ seen, i < ks.length) → (∀ k, k < ks.length → k ∈ seen) → sortS (seen.map fun i => ks.getD i []) = sortS ks := fun seen h1 h2 h3 => by
      refine Go.mergeSort_of_perm ?_
      have hp : seen.Perm (List.range ks.length) := (List.perm_ext_iff_of_nodup h1 List.nodup_range).2 fun i => by rw [List.mem_range]; exact ⟨h2 i, h3 i⟩
      have he : (List.range ks.length).map (fun i => ks.getD i []) = ks := by
        apply List.ext_getElem (by simp)
        intro i a b
        have hi : i < ks.length := by simpa using b
        simp [List.getD_eq_getElem?_getD, hi]
      have := hp.map fun i => ks.getD i []
      rw [he] at this
      exact this
    have key : ∀ (m : Nat) (seen : List Nat), ks.length - seen.length ≤ m → seen.Nodup → (∀ i ∈ seen, i < ks.length) → term_VarsOf.L3 (.rw 2 1 seen.length) (.it 3) 0
        [.map (encKs ks), .cells t_m_string_bool [.map 0], .row t_string 1 ((seen.map fun i => ks.getD i []).map fun s => [V.str s]), .iter (some 0) ks.length seen]
        (Ends 0 term_VarsOf.rs fun x' H' => x' = encSs (sortS ks) ∧ H' = []) := by
      intro m
      induction m with
      | zero =>
        intro seen hm hnd hlt
        refine term_VarsOf.G3 ?_
        push_cast
        refine nxP_of 0 ks.length seen (encKs ks) rfl rfl hlen.symm (fun hall => ?_) (fun k p hp hk => ?_)
        · have hsl : (seen.map fun i => ks.getD i []).length = seen.length := by simp
          have hc := sort_row (seen.map fun i => ks.getD i [])
          have hso : (sortS (seen.map fun i => ks.getD i [])).length = seen.length := by rw [(List.mergeSort_perm _ _).length_eq, hsl]
          rw [hsl, fin seen hnd hlt hall] at hc
          rw [fin seen hnd hlt hall] at hso
          push_cast
          refine CallG.some [2] (by simp) (by simp) (R := fun x H' => x = .tup [] ∧ H' = [.row t_string 1 ((sortS ks).map fun s => [V.str s])]) (by rw [give_2, renOb_row, rens_strs]; exact hc) ?_
          rintro x H' ⟨rfl, rfl⟩ _
          rw [take_2]
          push_cast
          refine ⟨by rw [List.length_map]; exact hso, pf_ret ?_⟩
          push_cast [term_VarsOf.rs]
          rfl
        · have : (seen ++ [k]).length ≤ (List.range ks.length).length := List.Nodup.length_le_of_subset (by simp [List.nodup_append, hnd]; intro a ha e; exact hk (e ▸ ha)) (by
            intro i hi
            rw [List.mem_range]
            rcases List.mem_append.1 hi with h | h
            · exact hlt i h
            · simp only [List.mem_singleton] at h; subst h; rw [← hlen]; exact (List.getElem?_eq_some_iff.1 hp).1)
          simp at this; omega
      | succ m ih =>
        intro seen hm hnd hlt
        refine term_VarsOf.G3 ?_
        push_cast
        refine nxP_of 0 ks.length seen (encKs ks) rfl rfl hlen.symm (fun hall => ?_) (fun k p hp hk => ?_)
        · have hsl : (seen.map fun i => ks.getD i []).length = seen.length := by simp
          have hc := sort_row (seen.map fun i => ks.getD i [])
          have hso : (sortS (seen.map fun i => ks.getD i [])).length = seen.length := by rw [(List.mergeSort_perm _ _).length_eq, hsl]
          rw [hsl, fin seen hnd hlt hall] at hc
          rw [fin seen hnd hlt hall] at hso
          push_cast
          refine CallG.some [2] (by simp) (by simp) (R := fun x H' => x = .tup [] ∧ H' = [.row t_string 1 ((sortS ks).map fun s => [V.str s])]) (by rw [give_2, renOb_row, rens_strs]; exact hc) ?_
          rintro x H' ⟨rfl, rfl⟩ _
          rw [take_2]
          push_cast
          refine ⟨by rw [List.length_map]; exact hso, pf_ret ?_⟩
          push_cast [term_VarsOf.rs]
          rfl
        · have hkl : k < ks.length := by rw [← hlen]; exact (List.getElem?_eq_some_iff.1 hp).1
          have hpe : p = (.str (ks.getD k []), .bool true) := by
            unfold encKs at hp
            rw [List.getElem?_map] at hp
            simp [hkl] at hp
            rw [← hp]; simp [List.getD_eq_getElem?_getD, hkl]
          have hen : ∀ a b, enV [.map (encKs ks), a, b, .iter (some 0) ks.length (seen ++ [k])] (.it 3) = some (.tup [p.1, p.2]) := fun a b => by
            simp [enV, hlen, hp]
          subst hpe
          push_cast [hen]
          refine ⟨?_, ?_⟩
          · have : (seen.map fun i => ks.getD i []).length = seen.length := by simp
            have h2 : seen.length ≤ ks.length := by simpa using List.Nodup.length_le_of_subset hnd (l₂ := List.range ks.length) fun i hi => List.mem_range.2 (hlt i hi)
            exact ⟨by simp, room (n := seen.length) (b := 16) (by omega) (by omega)⟩
          · have hnd2 : (seen ++ [k]).Nodup := by simp [List.nodup_append, hnd]; intro a ha e; exact hk (e ▸ ha)
            have hlt2 : ∀ i ∈ seen ++ [k], i < ks.length := fun i hi => by
              rcases List.mem_append.1 hi with h | h
              · exact hlt i h
              · simp only [List.mem_singleton] at h; subst h; exact hkl
            have := ih (seen ++ [k]) (by simp; omega) hnd2 hlt2
            simp only [List.map_append, List.map_cons, List.map_nil, List.length_append, List.length_singleton] at this
            rw [List.map_append, rens_strs]
            exact this
    exact key ks.length [] (by simp) List.nodup_nil (by simp)
end Go.Dw
end
section
set_option linter.unusedVariables false
set_option linter.unusedSimpArgs false
set_option maxRecDepth 100000
namespace Go.Dw
open Go.Proofs (sortS)
/-- All that rules hold. -/
def rbs : List ARule → Nat
  | [] => 0
  | x :: r => 1 + tb x.left + tb x.right + rbs r
theorem rbs_mem {r : List ARule} {x : ARule} (h : x ∈ r) : 1 + tb x.left + tb x.right ≤ rbs r := by
  induction r with
  | nil => cases h
  | cons y ys ih => rcases List.mem_cons.1 h with rfl | h <;> simp [rbs]; have := ih h; omega
theorem length_le_rbs (r : List ARule) : r.length ≤ rbs r := by
  induction r with
  | nil => simp
  | cons x xs ih => simp only [rbs, List.length_cons]; omega
section
variable (r : ARule)
theorem cR_0 : (cR r)[0]? = some (.str r.left.name) := rfl
theorem cR_1 : (cR r)[1]? = some (.bool r.left.var) := rfl
theorem cR_2 : (cR r)[2]? = some (encTs r.left.args) := by show some (V.sl 3 (argC r.left)) = _; rw [argC_eq]; rfl
theorem cR_3 : (cR r)[3]? = some (.str r.right.name) := rfl
theorem cR_4 : (cR r)[4]? = some (.bool r.right.var) := rfl
theorem cR_5 : (cR r)[5]? = some (encTs r.right.args) := by show some (V.sl 3 (argC r.right)) = _; rw [argC_eq]; rfl
end
attribute [push_cast] cR_0 cR_1 cR_2 cR_3 cR_4 cR_5
def checkPairs : List ARule → Int
  | [] => 0
  | x :: r => if checks [x.left, x.right] ≠ 0 then checks [x.left, x.right] else checkPairs r
def checkRules (r : List ARule) : Int := if 64 < r.length then 3 else checkPairs r
theorem encTs_two (a b : Term) : (.sl 3 [cT a, cT b] : V) = encTs [a, b] := rfl
theorem term_CheckRules_s (r : List ARule) (hs : rbs r < 2 ^ 61) : PF n_term_CheckRules [encRs r] (.int .i64 (checkRules r)) := by
  have hl := length_le_rbs r
  refine pf_of term_CheckRules.ok rfl ?_
  by_cases h64 : 64 < r.length
  · have hi : ((64 : Int) < (r.length : Int)) = True := eq_true (by omega)
    push_cast [hi]
    refine pf_ret ?_
    push_cast [term_CheckRules.rs, checkRules, h64]
  · have hi : ((64 : Int) < (r.length : Int)) = False := eq_false (by omega)
    push_cast [hi, checkRules, h64]
    refine loop_up (n := r.length) (R := fun k => checkPairs (r.drop k) = checkPairs r → term_CheckRules.L3 (encRs r) (.int .i64 r.length) (.int .i64 k) 0 [] _) ?_ ?_ 0 (by omega) rfl
    · intro k hk ih hq
      have hm := rbs_mem (getD_mem hk)
      refine term_CheckRules.G3 ?_
      rw [drop_getD hk] at hq
      simp only [checkPairs] at hq
      generalize hx : r.getD k default = x at hm hq
      have hA := term_All_s [x.left, x.right] (by simp) (by simp; omega)
      push_cast [ilt hk, hx]
      refine .of hA ?_
      push_cast [w64 (show k < 2 ^ 62 by omega)]
      refine ⟨fun h => pf_ret ?_, fun h => ih ?_⟩
      · push_cast [term_CheckRules.rs]
        rw [← hq, if_pos h]
      · rw [← hq, if_neg h]
    · intro hq
      refine term_CheckRules.G3 ?_
      push_cast [inlt (Nat.le_refl _)]
      refine pf_ret ?_
      push_cast [term_CheckRules.rs]
      rw [← hq, drop_map_none]; rfl
theorem slices_Index_str_s (l : List Str) (v : Str) (hl : l.length < 2 ^ 62) : PF n_slices_Index_s_string_string [encSs l, .str v] (.int .i64 (idxI (fun x => decide (v = x)) l)) := by
  refine pf_of slices_Index_s_string_string.ok rfl ?_
  push_cast
  refine loop_up (n := l.length) (R := fun k => (∀ j, j < k → decide (v = l.getD j default) = false) → slices_Index_s_string_string.L3 (encSs l) (.str v) (.int .i64 l.length) (.int .i64 k) 0 [] _) ?_ ?_ 0 (by omega) (by intro j hj; omega)
  · intro k hk ih hq
    refine slices_Index_s_string_string.G3 ?_
    push_cast [ilt hk, w64 (show k < 2 ^ 62 by omega)]
    refine ⟨fun hp => pf_ret ?_, fun hp => ?_⟩
    · push_cast [slices_Index_s_string_string.rs]
      rw [idxI_some hk (by simpa using hp) hq]
    · refine ih fun j hj => ?_
      rcases Nat.lt_succ_iff_lt_or_eq.1 hj with h | rfl
      · exact hq j h
      · simpa using hp
  · intro hq
    refine slices_Index_s_string_string.G3 ?_
    push_cast [inlt (Nat.le_refl _)]
    refine pf_ret ?_
    push_cast [slices_Index_s_string_string.rs]
    rw [idxI_none hq]
theorem slices_Contains_str_s (l : List Str) (v : Str) (hl : l.length < 2 ^ 62) : PF n_slices_Contains_s_string_string [encSs l, .str v] (.bool (decide (v ∈ l))) := by
  refine pf_of slices_Contains_s_string_string.ok rfl ?_
  push_cast
  refine .of (slices_Index_str_s l v hl) ?_
  push_cast
  refine pf_ret ?_
  push_cast [slices_Contains_s_string_string.rs, idxI_any]
  rw [Bool.eq_iff_iff]; simp
/-- A variable on the left, or one on the right alone. -/
def extra (x : ARule) : Bool := x.left.var || (varsOf [x.right]).any fun v => !decide (v ∈ varsOf [x.left])
theorem varsOf_len (l : List Term) : (varsOf l).length ≤ sizes l := by
  have := vsetT_len l []
  unfold varsOf; rw [(List.mergeSort_perm _ _).length_eq]; simpa using this
theorem term_extra_s (x : ARule) (hs : tb x.left + tb x.right < 2 ^ 39) : PF n_term_extra [encR x] (.bool (extra x)) := by
  have h1 := size_le_tb x.left
  have h2 := size_le_tb x.right
  have e1 : ∀ t, sizes [t] = size t := fun t => by simp [sizes]
  have hv := varsOf_len [x.left]
  have hv2 := varsOf_len [x.right]
  rw [e1] at hv hv2
  have hL := term_VarsOf_s [x.left] (by rw [e1]; omega)
  have hR := term_VarsOf_s [x.right] (by rw [e1]; omega)
  refine pf_of term_extra.ok rfl ?_
  push_cast
  refine .of hL ?_
  cases hvar : x.left.var with
  | true =>
    push_cast [hvar]
    refine pf_ret ?_
    push_cast [term_extra.rs, extra, hvar]
    rfl
  | false =>
    push_cast [hvar]
    refine .of hR ?_
    push_cast
    refine .of (slices_ContainsFunc_s_string_string_s (p := fun v => !decide (v ∈ varsOf [x.left])) (caps := [.ro [encSs (varsOf [x.left])] 0]) (fun _ => rfl) _ (by omega) fun v hv => ?_) ?_
    · refine pf_of term_extra_1.ok rfl ?_
      push_cast
      refine .of (slices_Contains_str_s _ _ (by omega)) ?_
      push_cast
      exact pf_ret (by push_cast [term_extra_1.rs])
    · push_cast
      refine pf_ret ?_
      push_cast [term_extra.rs, extra, hvar]
      rfl
end Go.Dw
end
section
set_option linter.unusedVariables false
set_option linter.unusedSimpArgs false
set_option maxRecDepth 100000
namespace Go.Dw
abbrev Ars := List (Str × Nat)
def getA : Ars → Str → Option Nat
  | [], _ => none
  | p :: m, n => if p.1 = n then some p.2 else getA m n
def arStep (m : Ars) (u : Term) : Option Ars := if u.var then some m else match getA m u.name with
  | some n => if n = u.args.length then some m else none
  | none => some (m ++ [(u.name, u.args.length)])
def arAll (m : Ars) : List (List Int × Term) → Option Ars
  | [] => some m
  | x :: l => (arStep m x.2).bind fun m' => arAll m' l
def arRules (m : Ars) : List ARule → Option Ars
  | [] => some m
  | x :: r => (arAll m (visit x.left [])).bind fun m1 => (arAll m1 (visit x.right [])).bind fun m2 => arRules m2 r
theorem arAll_append : ∀ (a b : List (List Int × Term)) (m : Ars), arAll m (a ++ b) = (arAll m a).bind fun m' => arAll m' b
  | [], b, m => rfl
  | x :: a, b, m => by simp only [List.cons_append, arAll]; cases arStep m x.2 <;> simp [arAll_append a b]
def encAr (m : Ars) : List (V × V) := m.map fun p => (.str p.1, .int .i64 p.2)
theorem ren_encAr {σ : Nat → Option Nat} {m : Ars} : ((encAr m).map fun p => (ren σ p.1, ren σ p.2)) = encAr m := by
  unfold encAr; rw [List.map_map]; rfl
attribute [push_cast] ren_encAr
theorem findM_encAr (n : Str) : ∀ (m : Ars) (i : Nat), match getA m n with
    | none => findM (.str n) (encAr m) i = some none
    | some a => ∃ j, findM (.str n) (encAr m) i = some (some (i + j, .int .i64 a)) ∧ (encAr m)[j]? = some (.str n, .int .i64 a)
  | [], i => rfl
  | p :: m, i => by
    have ih := findM_encAr n m (i + 1)
    unfold getA
    by_cases h : p.1 = n
    · rw [if_pos h]
      refine ⟨0, ?_, ?_⟩
      · simp [encAr, findM, sameK, h]
      · simp [encAr, h]
    · rw [if_neg h]
      have h' : n ≠ p.1 := fun e => h e.symm
      have hb : (n == p.1) = false := by simpa using h'
      have e : ∀ (k : Nat) , findM (.str n) (encAr (p :: m)) k = findM (.str n) (encAr m) (k + 1) := fun k => by simp [encAr, findM, sameK, hb]
      cases hg : getA m n with
      | none => rw [hg] at ih; simp only at ih ⊢; rw [e]; exact ih
      | some a =>
        rw [hg] at ih
        obtain ⟨j, h1, h2⟩ := ih
        refine ⟨j + 1, ?_, ?_⟩
        · rw [e, h1]; congr 3; omega
        · simp only [encAr, List.map_cons, List.getElem?_cons_succ]; exact h2
theorem look_encAr (m : Ars) (n : Str) {H : List Ob} {k : Nat} (hk : H[k]? = some (.map (encAr m))) : lookV H true true (.int .i64 0) (.map k) (.str n) = some (.tup [.int .i64 ((getA m n).getD 0 : Nat), .bool (getA m n).isSome]) := by
  have h := findM_encAr n m 0
  have he : entsV H (.map k) = some (encAr m) := by simp [entsV, hk]
  unfold lookV
  rw [he]
  cases hg : getA m n with
  | none => rw [hg] at h; simp only at h; simp [ksB, h, foundX]
  | some a => rw [hg] at h; obtain ⟨j, h1, h2⟩ := h; simp [ksB, h1, foundX]
theorem upd_encAr {m m' : Ars} {u : Term} (hv : u.var = false) (h : arStep m u = some m') : updM (.str u.name) (.int .i64 u.args.length) (encAr m) = some (encAr m') := by
  have hf := findM_encAr u.name m 0
  unfold arStep at h
  rw [hv] at h
  simp only [Bool.false_eq_true, if_false] at h
  unfold updM
  cases hg : getA m u.name with
  | none =>
    rw [hg] at h hf
    simp only [Option.some.injEq] at h hf
    subst h
    rw [hf]; simp [encAr]
  | some a =>
    rw [hg] at h hf
    simp only at h
    split at h
    · rename_i ha
      cases h
      obtain ⟨j, h1, h2⟩ := hf
      rw [h1]
      subst ha
      simp only [Nat.zero_add, Option.some.injEq]
      obtain ⟨h3, h4⟩ := List.getElem?_eq_some_iff.1 h2
      rw [← h4, List.set_getElem_self]
    · cases h
def arOut (o : Option Ars) (x : V) (H : List Ob) : Prop := match o with
  | none => x = .tup [.nilm, .bool false] ∧ H = []
  | some m => x = .tup [.map 0, .bool true] ∧ H = [.map (encAr m)]
abbrev arH (m : Ars) (l : List Ob) : List Ob := .cells t_m_string_int [.nilm] :: .cells t_bool [.bool false] :: .map (encAr m) :: .cells t_m_string_int [.map 2] :: l
theorem ar_pass {u : Term} {m : Ars} {r : List ARule} {v24 : V} {j k n : Nat} (hs : size u < 2 ^ 40) (hj : j < 2) (hra : ∀ σ, ren σ v24 = v24) (hix : ixaV 3 2 (some 3) v24 (.int .i64 j) = some (encT u)) (hnone : arAll m (visit u []) = none → arRules [] r = none)
    (hsome : ∀ m', arAll m (visit u []) = some m' → term_Arities.L6 (.ptr 0 0) (.ptr 1 0) (.ptr 3 0) .any (encRs r) (.int .i64 n) (.int .i64 k) v24 (.int .i64 (j + 1 : Nat)) 0 (arH m' [.dead]) (Ends 0 term_Arities.rs (arOut (arRules [] r)))) :
    term_Arities.L6 (.ptr 0 0) (.ptr 1 0) (.ptr 3 0) .any (encRs r) (.int .i64 n) (.int .i64 k) v24 (.int .i64 j) 0 (arH m [.dead]) (Ends 0 term_Arities.rs (arOut (arRules [] r))) := by
  have hj2 : ((j : Int) < 2) = True := eq_true (by omega)
  refine term_Arities.G6 ?_
  push_cast [hj2, hix]
  refine .of (term_Walk_s _) ?_
  push_cast
  refine Run.rf n_term_Walk_1 [] [.ro (cT u) 0] ((visit u []).map encIt) (fun i H1 => ∃ m', arAll m ((visit u []).take i) = some m' ∧ H1 = arH m' [.dead, .dead]) (fun e H1 => e = .ret ∧ arAll m (visit u []) = none ∧ ∃ m', H1 = arH m' [.dead, .dead]) rfl (term_Walk_iter u hs) ?_ ⟨m, rfl, rfl⟩ ?_ ?_ ?_ ?_ ?_ ?_
  · intro it hit
    obtain ⟨x, _, rfl⟩ := List.mem_map.1 hit
    rfl
  · push_cast [hra]
  · rintro i H1 ⟨m', _, rfl⟩
    refine ⟨rfl, ?_⟩
    push_cast
  · rintro i H1 ⟨_, _, m', rfl⟩
    refine ⟨rfl, ?_⟩
    push_cast
  · rintro lo rr i it H1 hit ⟨m', hm', rfl⟩
    rw [List.getElem?_map] at hit
    cases hx : (visit u [])[i]? with
    | none => rw [hx] at hit; cases hit
    | some x =>
    rw [hx] at hit
    have hit : it = encIt x := by simpa using hit.symm
    subst hit
    have hi : i < (visit u []).length := (List.getElem?_eq_some_iff.1 hx).1
    have hxi : (visit u [])[i] = x := (List.getElem?_eq_some_iff.1 hx).2
    have htk : (visit u []).take (i + 1) = (visit u []).take i ++ [x] := by rw [List.take_succ_eq_append_getElem hi, hxi]
    have hst : arAll m ((visit u []).take (i + 1)) = arStep m' x.2 := by rw [htk, arAll_append, hm']; simp [arAll]
    have hlk : ∀ (a b : Ob) l, lookV (a :: b :: .map (encAr m') :: l) true true (.int .i64 0) (.map 2) (.str x.2.name) = some (.tup [.int .i64 ((getA m' x.2.name).getD 0 : Nat), .bool (getA m' x.2.name).isSome]) := fun a b l => look_encAr m' _ rfl
    push_cast [setPs, encIt]
    refine run_m.2 ?_
    cases hv : x.2.var with
    | true =>
      have hst2 : arStep m' x.2 = some m' := by unfold arStep; rw [hv]; rfl
      push_cast [hv]
      refine ⟨rfl, ?_⟩
      refine ⟨m', by rw [hst, hst2], ?_⟩
      push_cast [cut]
    | false =>
      cases hg : getA m' x.2.name with
      | none =>
        have hst2 : arStep m' x.2 = some (m' ++ [(x.2.name, x.2.args.length)]) := by unfold arStep; rw [hv, hg]; rfl
        have hup := upd_encAr hv hst2
        push_cast [hv, hlk, hg, Option.isSome_none, hup, ksB]
        refine ⟨rfl, ?_⟩
        refine ⟨_, by rw [hst, hst2], ?_⟩
        push_cast [cut]
      | some a =>
        by_cases ha : a = x.2.args.length
        · have hst2 : arStep m' x.2 = some m' := by unfold arStep; rw [hv, hg]; simp [ha]
          have hup := upd_encAr hv hst2
          have ha' : ((a : Int) = (x.2.args.length : Int)) = True := eq_true (by omega)
          push_cast [hv, hlk, hg, Option.isSome_some, Option.getD_some, ha', hup, ksB]
          refine ⟨rfl, ?_⟩
          refine ⟨_, by rw [hst, hst2], ?_⟩
          push_cast [cut]
        · have hst2 : arStep m' x.2 = none := by unfold arStep; rw [hv, hg]; simp [ha]
          have ha' : ((a : Int) = (x.2.args.length : Int)) = False := eq_false (by omega)
          push_cast [hv, hlk, hg, Option.isSome_some, Option.getD_some, ha', ksB]
          refine ⟨rfl, ?_⟩
          have hall : arAll m (visit u []) = none := by
            have : visit u [] = (visit u []).take (i + 1) ++ (visit u []).drop (i + 1) := (List.take_append_drop _ _).symm
            rw [this, arAll_append, hst, hst2]; rfl
          refine ⟨rfl, hall, m', ?_⟩
          push_cast [cut]
  · rintro H1 ⟨m', hm', rfl⟩
    rw [List.length_map, List.take_length] at hm'
    have := hsome m' hm'
    push_cast [hra, w64 (show j < 2 ^ 62 by omega)]
    push_cast at this
    exact this
  · rintro e H1 ⟨rfl, hn, m', rfl⟩
    simp only [jumpC]
    push_cast
    rw [hnone hn]
    exact ends_nil (.inl rfl) rfl ⟨rfl, rfl⟩
theorem term_Arities_s (r : List ARule) (hs : rbs r < 2 ^ 40) : Spec prog n_term_Arities [encRs r] [] (arOut (arRules [] r)) := by
  have hl := length_le_rbs r
  refine spec_of_run mixed term_Arities.ok rfl ?_
  push_cast
  refine loop_up (n := r.length) (R := fun k => ∀ m, arRules m (r.drop k) = arRules [] r → term_Arities.L8 (.ptr 0 0) (.ptr 1 0) (.ptr 3 0) .any (encRs r) (.int .i64 r.length) (.int .i64 k) 0 (arH m []) (Ends 0 term_Arities.rs (arOut (arRules [] r)))) ?_ ?_ 0 (by omega) [] rfl
  · intro k hk ih m hm
    have hmm := rbs_mem (getD_mem hk)
    rw [drop_getD hk] at hm
    refine term_Arities.G8 ?_
    generalize hx : r.getD k default = x at hm hmm
    have h1 := size_le_tb x.left
    have h2 := size_le_tb x.right
    simp only [arRules] at hm
    have hr24 : ∀ σ, rens σ (cT x.left ++ cT x.right) = cT x.left ++ cT x.right := fun σ => rfl
    push_cast [ilt hk, hx, hr24]
    refine ar_pass (j := 0) (u := x.left) (by omega) (by omega) (fun σ => by rw [ren_agg, hr24]) rfl (fun h => by rw [← hm, h]; rfl) fun m1 hm1 => ?_
    rw [hm1, Option.bind_some] at hm
    refine ar_pass (j := 1) (u := x.right) (by omega) (by omega) (fun σ => by rw [ren_agg, hr24]) rfl (fun h => by rw [← hm, h]; rfl) fun m2 hm2 => ?_
    rw [hm2, Option.bind_some] at hm
    refine term_Arities.G6 ?_
    push_cast [w64 (show k < 2 ^ 62 by omega)]
    exact ih m2 hm
  · intro m hm
    refine term_Arities.G8 ?_
    push_cast [inlt (Nat.le_refl _)]
    rw [drop_map_none] at hm
    rw [← hm]
    refine ends_one 2 rfl rfl ⟨rfl, ?_⟩
    push_cast
end Go.Dw
end
