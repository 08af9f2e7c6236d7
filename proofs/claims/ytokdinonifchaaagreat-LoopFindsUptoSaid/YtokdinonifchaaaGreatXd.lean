/-
  Contracts: matching and rewriting.
-/
import Derived.Test.YtokdinonifchaaaGreatXc
import Derived.Test.YtokdinonifchaaaGreatYb
section
set_option linter.unusedVariables false
set_option linter.unusedSimpArgs false
set_option maxRecDepth 100000
namespace Go.Dw
def marked (n : Str) : Bool := hasSuf n [35]
def checkSystem (r : List ARule) : Int := if checkRules r ≠ 0 then checkRules r else match arRules [] r with
  | none => 6
  | some m => if m.any (fun p => marked p.1) then 6 else if r.any extra then 7 else 0
/-- All that a formed rule's names hold. -/
theorem seen_all {n : Nat} {seen : List Nat} {k : Nat} (hm : n ≤ seen.length) (hnd : seen.Nodup) (hlt : ∀ i ∈ seen, i < n) (hk : k ∉ seen) (hkn : k < n) : False := by
  have h1 : (seen ++ [k]).Nodup := by simp [List.nodup_append, hnd]; intro a ha e; exact hk (e ▸ ha)
  have h2 : (seen ++ [k]).length ≤ (List.range n).length := List.Nodup.length_le_of_subset h1 (by
    intro i hi
    rw [List.mem_range]
    rcases List.mem_append.1 hi with h | h
    · exact hlt i h
    · simp only [List.mem_singleton] at h; subst h; exact hkn)
  simp at h2; omega
theorem seen_snoc {n : Nat} {seen : List Nat} {k : Nat} (hnd : seen.Nodup) (hlt : ∀ i ∈ seen, i < n) (hk : k ∉ seen) (hkn : k < n) : (seen ++ [k]).Nodup ∧ ∀ i ∈ seen ++ [k], i < n := by
  refine ⟨by simp [List.nodup_append, hnd]; intro a ha e; exact hk (e ▸ ha), fun i hi => ?_⟩
  rcases List.mem_append.1 hi with h | h
  · exact hlt i h
  · simp only [List.mem_singleton] at h; subst h; exact hkn
theorem term_CheckSystem_s (r : List ARule) (hs : rbs r < 2 ^ 38) (hn : ∀ m, arRules [] r = some m → ∀ p ∈ m, p.1.length < 2 ^ 62) : PF n_term_CheckSystem [encRs r] (.int .i64 (checkSystem r)) := by
  have hl := length_le_rbs r
  refine pf_of term_CheckSystem.ok rfl ?_
  push_cast
  refine .of (term_CheckRules_s r (by omega)) ?_
  unfold checkSystem
  by_cases h1 : checkRules r = 0
  · rw [if_neg (by simpa using h1)]
    push_cast [h1]
    refine CallG.all (show SpecF prog (.func n_term_Arities) [encRs r] [] (arOut (arRules [] r)) from specF_func ▸ term_Arities_s r (by omega)) ?_
    intro x H' h
    cases hr : arRules [] r with
    | none =>
      rw [hr] at h
      obtain ⟨rfl, rfl⟩ := h
      push_cast
      refine pf_ret ?_
      push_cast [term_CheckSystem.rs]
    | some m =>
      have hnm := hn m hr
      rw [hr] at h
      obtain ⟨rfl, rfl⟩ := h
      push_cast
      have hlen : (encAr m).length = m.length := by unfold encAr; rw [List.length_map]
      rw [hlen]
      have key : ∀ (f : Nat) (seen : List Nat), m.length - seen.length < f → seen.Nodup → (∀ i ∈ seen, i < m.length) → (∀ i ∈ seen, marked (m.getD i default).1 = false) → term_CheckSystem.L4 (encRs r) (.it 1) 0
          [.map (encAr m), .iter (some 0) m.length seen] (Ends 0 term_CheckSystem.rs fun x' H' => x' = .int .i64 (if m.any (fun p => marked p.1) then 6 else if r.any extra then 7 else 0) ∧ H' = []) := by
        intro f
        induction f with
        | zero =>
          intro seen hm hnd hlt hun
          omega
        | succ f ih =>
          intro seen hm hnd hlt hun
          refine term_CheckSystem.G4 ?_
          push_cast
          refine nxP_of 0 m.length seen (encAr m) rfl rfl hlen.symm (fun hall => ?_) (fun k p hp hk => ?_)
          · have hany : m.any (fun p => marked p.1) = false := by
              rw [List.any_eq_false]
              intro p hp
              obtain ⟨i, hi, rfl⟩ := List.getElem_of_mem hp
              have := hun i (hall i hi)
              simp only [List.getD_eq_getElem?_getD, hi, List.getElem?_eq_getElem, Option.getD_some] at this
              simp [this]
            push_cast [hany]
            refine .of (slices_ContainsFunc_s_Rule_Rule_s (p := extra) (g := n_term_extra) (caps := []) (fun _ => rfl) r (by omega) fun x hx => term_extra_s x (by have := rbs_mem hx; omega)) ?_
            push_cast
            refine ⟨fun h => pf_ret ?_, fun h => pf_ret ?_⟩ <;> push_cast [term_CheckSystem.rs, h]
          · have hkl : k < m.length := by rw [← hlen]; exact (List.getElem?_eq_some_iff.1 hp).1
            have hpe : p = (.str (m.getD k default).1, .int .i64 (m.getD k default).2) := by
              unfold encAr at hp
              rw [List.getElem?_map] at hp
              simp [hkl] at hp
              rw [← hp]; simp [List.getD_eq_getElem?_getD, hkl]
            have hen : enV [.map (encAr m), .iter (some 0) m.length (seen ++ [k])] (.it 1) = some (.tup [p.1, p.2]) := by
              simp [enV, hlen, hp]
            subst hpe
            have hmem : m.getD k default ∈ m := getD_mem hkl
            push_cast [hen]
            refine .of (term_Marked_s _ (hnm _ hmem)) ?_
            cases hmk : marked (m.getD k default).1 with
            | true =>
              have hany : m.any (fun p => marked p.1) = true := List.any_eq_true.2 ⟨_, hmem, hmk⟩
              unfold marked at hmk
              push_cast [hmk]
              refine pf_ret ?_
              push_cast [term_CheckSystem.rs, hany]
            | false =>
              have h2 := seen_snoc hnd hlt hk hkl
              have hlt' : seen.length < m.length := by
                rcases Nat.lt_or_ge seen.length m.length with h | h
                · exact h
                · exact (seen_all h hnd hlt hk hkl).elim
              have := ih (seen ++ [k]) (by simp; omega) h2.1 h2.2 (fun i hi => by
                rcases List.mem_append.1 hi with h | h
                · exact hun i h
                · simp only [List.mem_singleton] at h; subst h; exact hmk)
              unfold marked at hmk
              push_cast [hmk]
              exact this
      exact key (m.length + 1) [] (by simp) List.nodup_nil (by simp) (by simp)
  · rw [if_pos h1]
    push_cast [h1]
    refine pf_ret ?_
    push_cast [term_CheckSystem.rs]
end Go.Dw
end
section
set_option linter.unusedVariables false
set_option linter.unusedSimpArgs false
set_option maxRecDepth 100000
namespace Go.Dw
theorem rens_cBs {σ : Nat → Option Nat} {s : List ABind} : (s.map cB).map (rens σ) = s.map cB := by rw [List.map_map]; rfl
attribute [push_cast] rens_cBs
theorem row_get {s : List ABind} {k : Nat} (h : k < s.length) : (s.map cB)[k]? = some (cB (s.getD k default)) := by
  rw [List.getElem?_map]; simp [List.getD_eq_getElem?_getD, h]
abbrev rowB (s : List ABind) : Ob := .row t_Bind 4 (s.map cB)
theorem BinarySearch_row {g : Nat} (hg : ∀ b v, PF g [encB b, .str v] (.int .i64 (cmpS b.name v))) (s : List ABind) (v : Str) (hs : Sorted s) (hl : s.length < 2 ^ 61) :
    Spec prog n_slices_BinarySearchFunc_s_Bind_Bind_string [.rw 0 4 s.length, .str v, .fn (.func g) [] []] [rowB s] fun x H' => x = .tup [.int .i64 (lbd v s), .bool (bound s v)] ∧ H' = [rowB s] := by
  refine spec_of_run mixed slices_BinarySearchFunc_s_Bind_Bind_string.ok rfl ?_
  have hle := lbd_le v s
  push_cast
  have key : ∀ (m i j : Nat), j - i ≤ m → i ≤ lbd v s → lbd v s ≤ j → j ≤ s.length → slices_BinarySearchFunc_s_Bind_Bind_string.L3 (.rw 0 4 s.length) (.str v) (.fn (.func g) [] []) (.int .i64 s.length) (.int .i64 i) (.int .i64 j) 1 [rowB s]
      (Ends 1 slices_BinarySearchFunc_s_Bind_Bind_string.rs fun x' H' => x' = .tup [.int .i64 (lbd v s), .bool (bound s v)] ∧ H' = [rowB s]) := by
    intro m
    induction m with
    | zero =>
      intro i j hm h1 h2 h3
      have hij : i = lbd v s := by omega
      refine slices_BinarySearchFunc_s_Bind_Bind_string.G3 ?_
      push_cast [inlt (show j ≤ i by omega)]
      unfold bound
      rw [image_lbd hs]
      by_cases hi : i < s.length
      · push_cast [ilt hi, row_get hi, List.length_map]
        refine .of (hg _ _) ?_
        push_cast
        refine ends_all (.inl rfl) rfl ⟨?_, rfl⟩
        push_cast [cmpS_zero, hij]
        rw [hij] at hi
        by_cases hn : (s.getD (lbd v s) default).name = v
        · rw [if_pos ⟨hi, hn⟩]; simp only [hn]; rfl
        · rw [if_neg (fun h => hn h.2)]; simp only [hn]; rfl
      · push_cast [inlt (show s.length ≤ i by omega)]
        refine ends_all (.inl rfl) rfl ⟨?_, rfl⟩
        push_cast [hij]
        rw [if_neg (fun h => hi (by omega))]
        rfl
    | succ m ih =>
      intro i j hm h1 h2 h3
      by_cases hij : i < j
      · refine slices_BinarySearchFunc_s_Bind_Bind_string.G3 ?_
        have hh := half (i := i) (j := j) (by omega) (by omega)
        generalize hq : (i + j) / 2 = h at hh
        have hk : h < s.length := by omega
        push_cast [ilt hij]
        simp only [hh]
        push_cast [ilt hk, row_get hk, List.length_map]
        refine .of (hg _ _) ?_
        push_cast [w64 (show h < 2 ^ 62 by omega), cmpS_neg]
        refine ⟨fun hc => ih (h + 1) j (by omega) ?_ h2 h3, fun hc => ih i h (by omega) h1 ?_ (by omega)⟩
        · rcases Nat.lt_or_ge h (lbd v s) with h4 | h4
          · omega
          · exact absurd hc (lbd_ge hs h4 hk)
        · rcases Nat.lt_or_ge h (lbd v s) with h4 | h4
          · exact absurd (lbd_lt h4) hc
          · exact h4
      · exact ih i j (by omega) h1 h2 h3
  exact key s.length 0 s.length (by omega) (by omega) hle (Nat.le_refl _)
theorem term_Image_row (s : List ABind) (v : Str) (hs : Sorted s) (hl : s.length < 2 ^ 61) : Spec prog n_term_Image [.rw 0 4 s.length, .str v] [rowB s] fun x H' => x = encOT (image s v) ∧ H' = [rowB s] := by
  have hB := BinarySearch_row term_Image_1_s s v hs hl
  have hi := image_lbd (v := v) hs
  refine spec_of_run mixed term_Image.ok rfl ?_
  push_cast
  have hsh : Shut 1 [rowB s] := ⟨rfl, by show [renOb (clip 1) (rowB s)] = _; rw [renOb_row, rens_cBs]⟩
  refine CallG.some [0] (by simp) (by simp) (R := fun x H' => x = .tup [.int .i64 (lbd v s), .bool (bound s v)] ∧ H' = [rowB s]) (by
    have : give [0] [rowB s, .cells t_Term [.str [], .bool false, .sl 3 []]] = [rowB s] := by
      show [renOb (pos? [0]) (rowB s)] = _
      rw [renOb_row, rens_cBs]
    rw [this]; exact hB) ?_
  rintro x H' ⟨rfl, rfl⟩ _
  have ht : takeB [0] [rowB s, .cells t_Term [.str [], .bool false, .sl 3 []]] [rowB s] = [rowB s, .cells t_Term [.str [], .bool false, .sl 3 []]] := by
    show [renOb (back [0] 2) (rowB s), .cells t_Term [.str [], .bool false, .sl 3 []]] = _
    rw [renOb_row, rens_cBs]
  rw [ht]
  unfold bound
  by_cases hc : lbd v s < s.length ∧ (s.getD (lbd v s) default).name = v
  · rw [if_pos hc] at hi
    push_cast [hi, Option.isSome_some, ilt hc.1, row_get hc.1, List.length_map]
    exact ends_keep (H := [rowB s]) (J := [_]) hsh rfl ⟨rfl, rfl⟩
  · rw [if_neg hc] at hi
    push_cast [hi, Option.isSome_none]
    exact ends_keep (H := [rowB s]) (J := [_]) hsh rfl ⟨rfl, rfl⟩
end Go.Dw
end
section
set_option linter.unusedVariables false
set_option linter.unusedSimpArgs false
set_option maxRecDepth 100000
namespace Go.Dw
/-- A binding at its place. -/
def bindT (s : List ABind) (v : Str) (t : Term) : List ABind := s.take (lbd v s) ++ ⟨v, t⟩ :: s.drop (lbd v s)
theorem bindT_len (s : List ABind) (v : Str) (t : Term) : (bindT s v t).length = s.length + 1 := by
  have := lbd_le v s
  unfold bindT; simp; omega
theorem shut_row (s : List ABind) : Shut 1 [rowB s] := ⟨rfl, by show [renOb (clip 1) (rowB s)] = _; rw [renOb_row, rens_cBs]⟩
theorem unify_bind_row (s : List ABind) (v : Str) (t : Term) (hs : Sorted s) (hl : s.length < 2 ^ 40) : Spec prog n_unify_bind [.rw 0 4 s.length, .str v, encT t] [rowB s] fun x H' => x = .rw 0 4 (s.length + 1) ∧ H' = [rowB (bindT s v t)] := by
  have hB := BinarySearch_row unify_bind_1_s s v hs (by omega)
  have hle := lbd_le v s
  have hI := insert_row (s.map cB) (cB ⟨v, t⟩) (lbd v s) s.length (by simp) hle (by unfold maxEls; omega)
  have hbt : (s.map cB).take (lbd v s) ++ cB ⟨v, t⟩ :: (s.map cB).drop (lbd v s) = (bindT s v t).map cB := by unfold bindT; simp
  rw [hbt] at hI
  refine spec_of_run mixed unify_bind.ok rfl ?_
  push_cast
  refine CallG.all (specF_func ▸ hB) ?_
  rintro x H' ⟨rfl, rfl⟩
  push_cast
  refine CallG.all (specF_func ▸ hI) ?_
  rintro x H' ⟨rfl, rfl⟩
  push_cast
  exact ends_keep (H := [rowB (bindT s v t)]) (J := [_]) (shut_row _) rfl ⟨rfl, rfl⟩
end Go.Dw
end
section
set_option linter.unusedVariables false
set_option linter.unusedSimpArgs false
namespace Go.Dw
theorem bindT_sorted {s : List ABind} {v : Str} {t : Term} (hs : Sorted s) (hn : image s v = none) : Sorted (bindT s v t) := by
  have hle := lbd_le v s
  have h1 : ∀ b ∈ s.take (lbd v s), b.name < v := fun b hb => by
    obtain ⟨j, hj, rfl⟩ := List.getElem_of_mem hb
    have hjl : j < lbd v s := by rw [List.length_take] at hj; omega
    have := lbd_lt hjl
    simpa [List.getD_eq_getElem?_getD, show j < s.length by omega] using this
  have h2 : ∀ b ∈ s.drop (lbd v s), v < b.name := fun b hb => by
    obtain ⟨j, hj, rfl⟩ := List.getElem_of_mem hb
    have hjl : lbd v s + j < s.length := by rw [List.length_drop] at hj; omega
    have h3 := lbd_ge hs (Nat.le_add_right (lbd v s) j) hjl
    have he : (s.drop (lbd v s))[j] = s.getD (lbd v s + j) default := by simp [List.getD_eq_getElem?_getD, hjl]
    rw [he]
    have hne : (s.getD (lbd v s + j) default).name ≠ v := fun e => by
      have hi := image_lbd (v := v) hs
      rw [hn] at hi
      split at hi
      · cases hi
      · rename_i hc
        refine hc ⟨by omega, ?_⟩
        rcases Nat.eq_zero_or_pos j with h0 | h0
        · subst h0; exact e
        · have h5 : (s.getD (lbd v s) default).name < (s.getD (lbd v s + j) default).name := by
            have := List.pairwise_iff_getElem.1 hs (lbd v s) (lbd v s + j) (by omega) hjl (by omega)
            simpa [List.getD_eq_getElem?_getD, hjl, show lbd v s < s.length by omega] using this
          rw [e] at h5
          exact absurd h5 (lbd_ge hs (Nat.le_refl _) (by omega))
    rcases Classical.em (v < (s.getD (lbd v s + j) default).name) with h | h
    · exact h
    · exact absurd (slt_eq h3 h) hne
  unfold bindT
  refine List.pairwise_append.2 ⟨List.Pairwise.sublist (List.take_sublist _ _) hs, List.pairwise_cons.2 ⟨h2, List.Pairwise.sublist (List.drop_sublist _ _) hs⟩, fun a ha b hb => ?_⟩
  rcases List.mem_cons.1 hb with rfl | hb
  · exact h1 a ha
  · exact slt_trans (h1 a ha) (h2 b hb)
theorem bindT_mem {s : List ABind} {v : Str} {t : Term} {b : ABind} (h : b ∈ bindT s v t) : b ∈ s ∨ b = ⟨v, t⟩ := by
  unfold bindT at h
  rcases List.mem_append.1 h with h | h
  · exact .inl (List.mem_of_mem_take h)
  · rcases List.mem_cons.1 h with h | h
    · exact .inr h
    · exact .inl (List.mem_of_mem_drop h)
end Go.Dw
end
section
set_option linter.unusedVariables false
set_option linter.unusedSimpArgs false
set_option maxRecDepth 100000
namespace Go.Dw
mutual
/-- Matching: the bindings so far, and whether it went well. -/
def matchT (s : List ABind) : Term → Term → List ABind × Bool
  | .mk n v l, t => if v then (match image s n with | some x => (s, decide (x = t)) | none => (bindT s n t, true)) else
    if t.var ∨ n ≠ t.name ∨ l.length ≠ t.args.length then (s, false) else matchTs s l t.args
def matchTs (s : List ABind) : List Term → List Term → List ABind × Bool
  | [], _ => (s, true)
  | _ :: _, [] => (s, false)
  | a :: l, b :: m => if (matchT s a b).2 then matchTs (matchT s a b).1 l m else ((matchT s a b).1, false)
end
theorem matchT_eq (s : List ABind) (p t : Term) : matchT s p t = if p.var then (match image s p.name with | some x => (s, decide (x = t)) | none => (bindT s p.name t, true)) else
    if t.var ∨ p.name ≠ t.name ∨ p.args.length ≠ t.args.length then (s, false) else matchTs s p.args t.args := by
  cases p with | mk n v l => simp only [matchT, Term.var, Term.name, Term.args]; rfl
/-- What matching keeps. -/
structure MOk (M : Nat) (s : List ABind) (n : Nat) (s' : List ABind) : Prop where
  sorted : Sorted s'
  small : ∀ b ∈ s', size b.term < M
  len : s'.length ≤ s.length + n
theorem matchT_ok {M : Nat} (p : Term) : ∀ (s : List ABind) (t : Term), Sorted s → (∀ b ∈ s, size b.term < M) → size t < M → MOk M s (size p) (matchT s p t).1 := by
  induction p using term_ind with
  | h p ih =>
  intro s t hs hb ht
  have hst := size_args t
  have hsp := size_args p
  rw [matchT_eq]
  cases hv : p.var with
  | true =>
    rw [if_pos rfl]
    cases hx : image s p.name with
    | some x => exact ⟨hs, hb, Nat.le_add_right _ _⟩
    | none =>
      refine ⟨bindT_sorted hs hx, fun b h => ?_, by rw [bindT_len]; omega⟩
      rcases bindT_mem h with h | rfl
      · exact hb b h
      · exact ht
  | false =>
    rw [if_neg (by simp)]
    by_cases hc : t.var ∨ p.name ≠ t.name ∨ p.args.length ≠ t.args.length
    · rw [if_pos hc]; exact ⟨hs, hb, Nat.le_add_right _ _⟩
    · rw [if_neg hc]
      have key : ∀ (l m : List Term) (s : List ABind), (∀ a ∈ l, a ∈ p.args) → (∀ a ∈ m, size a < M) → Sorted s → (∀ b ∈ s, size b.term < M) → MOk M s (sizes l) (matchTs s l m).1 := by
        intro l
        induction l with
        | nil => intro m s _ _ h1 h2; exact ⟨h1, h2, Nat.le_add_right _ _⟩
        | cons a l ihl =>
          intro m s hl hm h1 h2
          cases m with
          | nil => exact ⟨h1, h2, Nat.le_add_right _ _⟩
          | cons b m =>
            have h3 := ih a (hl a (by simp)) s b h1 h2 (hm b (by simp))
            simp only [matchTs]
            split
            · have h4 := ihl m _ (fun x hx => hl x (by simp [hx])) (fun x hx => hm x (by simp [hx])) h3.sorted h3.small
              exact ⟨h4.sorted, h4.small, by have := h4.len; have := h3.len; simp only [sizes]; omega⟩
            · exact ⟨h3.sorted, h3.small, by have := h3.len; simp only [sizes]; omega⟩
      have h5 := key p.args t.args s (fun _ h => h) (fun a ha => by have := size_mem ha; omega) hs hb
      exact ⟨h5.sorted, h5.small, by have := h5.len; omega⟩
abbrev mH (s : List ABind) : List Ob := [.cells t_unify_matcher [.rw 1 4 s.length], rowB s]
theorem shut_m (s : List ABind) : Shut 2 (mH s) := ⟨rfl, by show [renOb (clip 2) _, renOb (clip 2) (rowB s)] = _; rw [renOb_row, rens_cBs]; rfl⟩
theorem back_one (s : List ABind) (n k : Nat) : renOb (back [k] n) (rowB s) = rowB s := by rw [renOb_row, rens_cBs]
theorem give_1 (a : Ob) (s : List ABind) (J : List Ob) : give [1] (a :: rowB s :: J) = [rowB s] := by
  show [renOb (pos? [1]) (rowB s)] = _
  rw [renOb_row, rens_cBs]
theorem take_1 (a : Ob) (s s' : List ABind) : takeB [1] [a, rowB s] [rowB s'] = [a, rowB s'] := by
  show [a, renOb (back [1] 2) (rowB s')] = _
  rw [back_one]
theorem take_1' (a b : Ob) (s s' : List ABind) : takeB [1] [a, rowB s, b] [rowB s'] = [a, rowB s', b] := by
  show [a, renOb (back [1] 3) (rowB s'), b] = _
  rw [back_one]
section
variable {N : Nat → C} {B : Nat} {k : List K} {t : T} {Q : X → T → List Ob → Prop} {a b : Ob} {s s' : List ABind} {d : Option Nat} {l : List S} {f : Nat} {vs vs' : List V} {x : V}
theorem callG_r2 (hv : rens (pos? [1]) vs = vs') (h : Spec prog f vs' [rowB s] fun x' H' => x' = x ∧ H' = [rowB s']) (k' : Run prog N B (.r l :: k) (setO d (ren (back [1] 2) x) t) [a, rowB s'] Q) : CallG prog N B d l k t Q (.func f) vs [a, rowB s] := by
  refine CallG.some [1] (by simp) (by simp) (R := fun x' H' => x' = x ∧ H' = [rowB s']) (by rw [give_1, hv]; exact h) ?_
  rintro x' H' ⟨rfl, rfl⟩ _
  rw [take_1]; exact k'
theorem callG_r3 (hv : rens (pos? [1]) vs = vs') (h : Spec prog f vs' [rowB s] fun x' H' => x' = x ∧ H' = [rowB s']) (k' : Run prog N B (.r l :: k) (setO d (ren (back [1] 3) x) t) [a, rowB s', b] Q) : CallG prog N B d l k t Q (.func f) vs [a, rowB s, b] := by
  refine CallG.some [1] (by simp) (by simp) (R := fun x' H' => x' = x ∧ H' = [rowB s']) (by rw [give_1, hv]; exact h) ?_
  rintro x' H' ⟨rfl, rfl⟩ _
  rw [take_1']; exact k'
end
theorem unify_match_s (p : Term) : ∀ (s : List ABind) (t : Term), Sorted s → (∀ b ∈ s, size b.term < 2 ^ 62) → size t < 2 ^ 62 → s.length + size p < 2 ^ 39 → Spec prog n_unify_matcher_match [.ptr 0 0, encT p, encT t] (mH s) fun x H' => x = .bool (matchT s p t).2 ∧ H' = mH (matchT s p t).1 := by
  induction p using term_ind with
  | h p ih =>
  intro s t hs hb ht hl
  refine spec_of_run mixed unify_matcher_match.ok rfl ?_
  rw [matchT_eq]
  cases hv : p.var with
  | true =>
    have hI := term_Image_row s p.name hs (by omega)
    push_cast [hv]
    cases hx : image s p.name with
    | some x =>
      rw [hx] at hI
      refine ⟨callG_r2 (vs' := [.rw 0 4 s.length, .str p.name]) rfl hI ?_, callG_r3 (vs' := [.rw 0 4 s.length, .str p.name]) rfl hI ?_⟩ <;>
      · push_cast [encOT]
        refine .of (term_Equal_s x t (by obtain ⟨b, hb1, _, rfl⟩ := image_mem hx; exact hb b hb1)) ?_
        push_cast
        exact ends_keep (H := mH s) (J := [_]) (shut_m s) rfl ⟨rfl, rfl⟩
    | none =>
      rw [hx] at hI
      refine ⟨callG_r2 (vs' := [.rw 0 4 s.length, .str p.name]) rfl hI ?_, callG_r3 (vs' := [.rw 0 4 s.length, .str p.name]) rfl hI ?_⟩ <;>
      · push_cast [encOT]
        refine callG_r3 (vs' := [.rw 0 4 s.length, .str p.name, encT t]) rfl (unify_bind_row s p.name t hs (by omega)) ?_
        have h0 : back [1] 3 0 = some 1 := rfl
        push_cast [h0]
        rw [← bindT_len s p.name t]
        exact ends_keep (H := mH (bindT s p.name t)) (J := [_]) (shut_m _) rfl ⟨rfl, rfl⟩
  | false =>
    cases ht : t.var with
    | true =>
      push_cast [hv, ht]
      rw [if_pos (.inl trivial)]
      exact ends_all (.inl rfl) rfl ⟨rfl, rfl⟩
    | false =>
      by_cases hn : p.name = t.name
      · by_cases hlen : p.args.length = t.args.length
        · have hlen' : ((p.args.length : Int) = (t.args.length : Int)) = True := eq_true (by omega)
          push_cast [hv, ht, hn, hlen']
          rw [if_neg (by simp [hlen])]
          have hsp := size_args p
          have hst := size_args t
          refine loop_up (n := p.args.length) (R := fun k => ∀ s', matchTs s p.args t.args = matchTs s' (p.args.drop k) (t.args.drop k) → Sorted s' → (∀ b ∈ s', size b.term < 2 ^ 62) → s'.length + sizes (p.args.drop k) ≤ s.length + sizes p.args →
            unify_matcher_match.L3 (.ptr 0 0) (.ro (cT p) 0) (.ro (cT t) 0) (.int .i64 p.args.length) (.int .i64 k) 2 (mH s') (Ends 2 unify_matcher_match.rs fun x H' => x = .bool (matchTs s p.args t.args).2 ∧ H' = mH (matchTs s p.args t.args).1)) ?_ ?_ 0 (by omega) s rfl hs hb (Nat.le_refl _)
          · intro k hk ih2 s' he hs' hb' hl'
            have hk2 : k < t.args.length := by omega
            have hm := getD_mem hk
            have hm2 := getD_mem hk2
            have hsm := size_mem hm2
            have hlp := length_le_sizes p.args
            rw [drop_getD hk, drop_getD hk2] at he
            rw [drop_getD hk] at hl'
            simp only [matchTs, sizes] at he hl'
            have hc := ih _ hm s' (t.args.getD k default) hs' hb' (by omega) (by omega)
            have hok := matchT_ok (M := 2 ^ 62) (p.args.getD k default) s' (t.args.getD k default) hs' hb' (by omega)
            refine unify_matcher_match.G3 ?_
            push_cast [ilt hk, ilt hk2]
            refine CallG.all (specF_func ▸ hc) ?_
            rintro x H' ⟨rfl, rfl⟩
            cases hr : (matchT s' (p.args.getD k default) (t.args.getD k default)).2 with
            | true =>
              rw [hr, if_pos rfl] at he
              have := ih2 _ he hok.sorted hok.small (by have := hok.len; omega)
              push_cast [w64 (show k < 2 ^ 62 by omega)]
              exact this
            | false =>
              rw [hr, if_neg (by simp)] at he
              push_cast
              rw [he]
              exact ends_all (.inl rfl) rfl ⟨rfl, rfl⟩
          · intro s' he hs' hb' hl'
            refine unify_matcher_match.G3 ?_
            push_cast [inlt (Nat.le_refl _)]
            rw [drop_map_none] at he
            rw [he]
            exact ends_all (.inl rfl) rfl ⟨rfl, rfl⟩
        · have hlen' : ((p.args.length : Int) = (t.args.length : Int)) = False := eq_false (by omega)
          push_cast [hv, ht, hn, hlen']
          rw [if_pos (.inr (.inr hlen))]
          exact ends_all (.inl rfl) rfl ⟨rfl, rfl⟩
      · push_cast [hv, ht, hn]
        rw [if_pos (.inr (.inl trivial))]
        exact ends_all (.inl rfl) rfl ⟨rfl, rfl⟩
theorem unify_Find_s (p t : Term) (hp : size p < 2 ^ 38) (ht : size t < 2 ^ 62) : PF n_unify_Find [encT p, encT t] (.tup [encBs (matchT [] p t).1, .bool (matchT [] p t).2]) := by
  have hm := unify_match_s p [] t List.Pairwise.nil (by simp) ht (by simp; omega)
  refine pf_of unify_Find.ok rfl ?_
  push_cast
  refine CallG.all (specF_func ▸ hm) ?_
  rintro x H' ⟨rfl, rfl⟩
  push_cast
  refine ⟨by simp, pf_ret ?_⟩
  push_cast [unify_Find.rs]
  rfl
end Go.Dw
end
section
set_option linter.unusedVariables false
set_option linter.unusedSimpArgs false
set_option maxRecDepth 100000
namespace Go.Dw
/-- The substitution of a step, or its error. -/
def findE (r : List ARule) (t : Term) (s : AStep) : List ABind × Int :=
  if s.rule < 0 ∨ (r.length : Int) ≤ s.rule then ([], 8) else match subT t s.pos with
    | none => ([], 8)
    | some x => if (matchT [] (r.getD s.rule.toNat default).left x).2 then ((matchT [] (r.getD s.rule.toNat default).left x).1, 0) else ([], 9)
theorem subT_size : ∀ (p : List Int) (t x : Term), subT t p = some x → size x ≤ size t
  | [], t, x, h => by cases h; exact Nat.le_refl _
  | i :: p, t, x, h => by
    simp only [subT] at h
    split at h
    · rename_i hc
      have h1 := subT_size p _ x h
      have h2 := size_mem (getD_mem (l := t.args) (k := i.toNat) (by omega))
      have h3 := size_args t
      omega
    · cases h
theorem rewrite_find_s (r : List ARule) (t : Term) (s : AStep) (hr : ∀ x ∈ r, size x.left < 2 ^ 38) (ht : size t < 2 ^ 62) (hp : s.pos.length < 2 ^ 62) : PF n_rewrite_find [encRs r, encT t, encSt s] (.tup [encBs (findE r t s).1, .int .i64 (findE r t s).2]) := by
  have hS := term_Sub_s t s.pos hp
  refine pf_of rewrite_find.ok rfl ?_
  unfold findE
  by_cases h0 : s.rule < 0
  · push_cast [h0]
    refine pf_ret ?_
    push_cast [rewrite_find.rs]
    rw [if_pos (.inl trivial)]; exact ⟨rfl, rfl⟩
  · by_cases h1 : (r.length : Int) ≤ s.rule
    · push_cast [h0, h1]
      refine pf_ret ?_
      push_cast [rewrite_find.rs]
      rw [if_pos (.inr trivial)]; exact ⟨rfl, rfl⟩
    · rw [if_neg (fun h => h.elim h0 h1)]
      push_cast [h0, h1]
      refine .of hS ?_
      cases hx : subT t s.pos with
      | none =>
        push_cast [encOT]
        refine pf_ret ?_
        push_cast [rewrite_find.rs]
        rfl
      | some x =>
        have hxs := subT_size _ _ _ hx
        have hk : s.rule.toNat < r.length := by omega
        have hF := unify_Find_s (r.getD s.rule.toNat default).left x (hr _ (getD_mem hk)) (by omega)
        have hge : (0 ≤ s.rule) = True := eq_true (by omega)
        have hlt : (s.rule < (r.length : Int)) = True := eq_true (by omega)
        push_cast [encOT, hge, hlt]
        refine .of hF ?_
        cases hm : (matchT [] (r.getD s.rule.toNat default).left x).2 with
        | true =>
          push_cast [hm]
          refine pf_ret ?_
          push_cast [rewrite_find.rs, hm]
        | false =>
          push_cast [hm]
          refine pf_ret ?_
          push_cast [rewrite_find.rs, hm]
          rfl
end Go.Dw
end
