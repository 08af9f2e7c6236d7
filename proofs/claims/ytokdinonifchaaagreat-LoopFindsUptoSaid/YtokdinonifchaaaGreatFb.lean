/-
  Contracts: the loop that is found.
-/
import Derived.Test.YtokdinonifchaaaGreatFa
section
set_option linter.unusedVariables false
set_option linter.unusedSimpArgs false
set_option maxRecDepth 100000
namespace Go.Dw
namespace idxEdge
def nd : Nat → C
  | 0 => .seq (.reg [.mv 4 (.i (-1))]) (.ret)
  | 1 => .gh [.ks 0 [0, 1, 7, 8]] (.m 3)
  | 2 => .seq (.blk 1 (.seq (.reg [.mv 10 (.s 8), .mv 5 (.s 10)]) (.seq (.reg [.mv 11 (.s 1), .mv 12 (.s 0), .mv 13 (.s 5), .ia 14 4 (.s 12) (.s 13), .la 15 4 (.s 14), .callv (some 16) (.s 11) [(.s 15)]]) (.cond (.s 16) (.seq (.reg [.mv 17 (.s 5), .mv 4 (.s 17)]) (.ret)) (.skip))))) (.reg [.bin 18 .add (.s 8) (.i 1), .mv 8 (.s 18)])
  | 3 => .seq (.reg [.bin 9 .lss (.s 8) (.s 7)]) (.seq (.cond (.s 9) (.skip) (.exit 0)) (.n 2))
  | _ => .skip
def body : C := .seq (.reg [.mv 4 (.i 0)]) (.seq (.seq (.reg [.mv 6 (.s 0), .len 7 (.s 6), .mv 8 (.i 0)]) (.blk 0 (.loop (.n 1)))) (.n 0))
def rs : List RV := [.t 4]
attribute [push_cast] nd body
theorem ok : okF prog n_slices_IndexFunc_s_Edge_Edge nd body 2 rs = true := by kernel_rfl
abbrev L3 (v0 v1 v7 v8 : V) (B : Nat) (H : List Ob) (Q : X → T → List Ob → Prop) : Prop := Run prog nd B [.c (.m 3), .c (.loop (.n 1)), .mk 0, .c (.n 0)] [(0, v0), (1, v1), (7, v7), (8, v8)] H Q
theorem G3 {v0 v1 v7 v8 : V} {B : Nat} {H : List Ob} {Q : X → T → List Ob → Prop} (h : Run prog nd B [.c (nd 3), .c (.loop (.n 1)), .mk 0, .c (.n 0)] [(0, v0), (1, v1), (7, v7), (8, v8)] H Q) : L3 v0 v1 v7 v8 B H Q := run_m.2 h
end idxEdge
theorem chain_1_s (e : AEdge) (at_ : Int) : Spec prog n_loop_chain_1 [encEd e, .ptr 0 0] [.cells t_int [.int .i64 at_]] fun x H' => x = .bool (decide (e.dst = at_)) ∧ H' = [.cells t_int [.int .i64 at_]] := by
  refine spec_of_run mixed loop_chain_1.ok rfl ?_
  push_cast
  exact ends_keep (H := [.cells t_int [.int .i64 at_]]) (J := []) (n := 1) ⟨rfl, rfl⟩ rfl ⟨rfl, rfl⟩
/-- The place of the first edge to a term. -/
def idxD (a : Int) : List AEdge → Option Nat
  | [] => none
  | e :: l => if e.dst = a then some 0 else (idxD a l).map (· + 1)
theorem idxD_app (a : Int) : ∀ (l : List AEdge) (k : Nat), (∀ e ∈ l.take k, e.dst ≠ a) → idxD a l = (idxD a (l.drop k)).map (· + k)
  | [], k, _ => by simp [idxD]
  | e :: l, 0, _ => by simp
  | e :: l, k + 1, h => by
    have h1 := h e (by simp)
    simp only [idxD, if_neg h1, List.drop_succ_cons]
    rw [idxD_app a l k fun x hx => h x (by simp [hx])]
    cases idxD a (l.drop k) <;> simp; omega
def idxV : Option Nat → Int
  | some k => k
  | none => -1
theorem IndexFunc_edge (l : List AEdge) (a : Int) (hl : l.length < 2 ^ 62) : Spec prog n_slices_IndexFunc_s_Edge_Edge [encEds l, .fn (.func n_loop_chain_1) [] [.ptr 0 0]] [.cells t_int [.int .i64 a]] fun x H' => x = .int .i64 (idxV (idxD a l)) ∧ H' = [.cells t_int [.int .i64 a]] := by
  refine spec_of_run mixed idxEdge.ok rfl ?_
  push_cast
  refine loop_up (n := l.length) (R := fun k => (∀ e ∈ l.take k, e.dst ≠ a) → idxEdge.L3 (encEds l) (.fn (.func n_loop_chain_1) [] [.ptr 0 0]) (.int .i64 l.length) (.int .i64 k) 1 [.cells t_int [.int .i64 a]] (Ends 1 idxEdge.rs fun x H' => x = .int .i64 (idxV (idxD a l)) ∧ H' = [.cells t_int [.int .i64 a]])) ?_ ?_ 0 (Nat.zero_le _) (by simp)
  · intro k hk ih hn
    refine idxEdge.G3 ?_
    push_cast [ilt hk]
    have htk : l.take (k + 1) = l.take k ++ [l.getD k default] := by rw [List.take_succ_eq_append_getElem hk]; simp [List.getD_eq_getElem?_getD, hk]
    have hix := idxD_app a l k hn
    rw [drop_getD hk] at hix
    generalize l.getD k default = e at htk hix ⊢
    refine CallG.some [0] (by simp) (by simp) (R := fun x' H' => x' = .bool (decide (e.dst = a)) ∧ H' = [.cells t_int [.int .i64 a]]) (chain_1_s e a) ?_
    rintro x' H' ⟨rfl, rfl⟩ _
    have ht : ∀ o, takeB [0] [o] [.cells t_int [.int .i64 a]] = [.cells t_int [.int .i64 a]] := fun o => rfl
    rw [ht]
    by_cases he : e.dst = a
    · push_cast [eq_true he]
      simp only [idxD, if_pos he, Option.map_some, Nat.zero_add] at hix
      rw [hix]
      exact ends_keep (H := [.cells t_int [.int .i64 a]]) (J := []) (n := 1) ⟨rfl, rfl⟩ rfl ⟨rfl, rfl⟩
    · push_cast [eq_false he, w64 (show k < 2 ^ 62 by omega)]
      push_cast at ih
      refine ih ?_
      rw [htk]
      intro x hx
      rcases List.mem_append.1 hx with hx | hx
      · exact hn x hx
      · rw [List.mem_singleton.1 hx]; exact he
  · intro hn
    refine idxEdge.G3 ?_
    push_cast [inlt (Nat.le_refl _)]
    have hix := idxD_app a l l.length hn
    simp only [List.drop_length, idxD, Option.map_none] at hix
    rw [hix]
    exact ends_keep (H := [.cells t_int [.int .i64 a]]) (J := []) (n := 1) ⟨rfl, rfl⟩ rfl ⟨rfl, rfl⟩
theorem rens_cSts {σ : Nat → Option Nat} {l : List AStep} : (l.map cSt).map (rens σ) = l.map cSt := by rw [List.map_map]; rfl
attribute [push_cast] rens_cSts
/-- A list whose ends are exchanged as far as k. -/
def revK (l : List AStep) (k : Nat) (m : List AStep) : Prop := m.length = l.length ∧ ∀ p, p < l.length → m[p]? = if p < k ∨ l.length - k ≤ p then l[l.length - 1 - p]? else l[p]?
theorem row_elS {l : List AStep} {i : Nat} (h : i < l.length) : ((List.map cSt l)[i]?.bind fun el => if 2 ≤ el.length then some (V.agg (sub 0 2 el)) else none) = some (encSt (l.getD i default)) := by
  rw [List.getElem?_map, List.getElem?_eq_getElem h]; simp [List.getD_eq_getElem?_getD, h]; exact ⟨Nat.le_refl _, rfl⟩
theorem row_setS {m : List AStep} {k : Nat} (hk : k < m.length) (x : AStep) : (m.map cSt).set k (put 0 (cSt x) ((m.map cSt).getD k [])) = (m.set k x).map cSt := by
  have h : (m.map cSt).getD k [] = cSt (m.getD k default) := by simp [List.getD_eq_getElem?_getD, hk]
  rw [h, List.map_set]; rfl
theorem Reverse_step (l : List AStep) (hl : l.length < 2 ^ 40) : Spec prog n_slices_Reverse_s_Step_Step [.rw 0 2 l.length] [.row t_Step 2 (l.map cSt)] fun x H' => x = .tup [] ∧ H' = [.row t_Step 2 (l.reverse.map cSt)] := by
  refine spec_of_run mixed slices_Reverse_s_Step_Step.ok rfl ?_
  push_cast
  rw [wrap64 (by omega) (by omega), show ((l.length : Int) - 1) = (l.length : Int) - 1 - ((0 : Nat) : Int) by omega]
  refine loop_up (n := l.length / 2) (R := fun k => ∀ m, revK l k m → slices_Reverse_s_Step_Step.L2 (.rw 0 2 l.length) (.int .i64 k) (.int .i64 ((l.length : Int) - 1 - k)) 1 [.row t_Step 2 (m.map cSt)] (Ends 1 slices_Reverse_s_Step_Step.rs fun x H' => x = V.tup [] ∧ H' = [.row t_Step 2 (l.reverse.map cSt)])) ?_ ?_ 0 (Nat.zero_le _) l ⟨rfl, fun p hp => by rw [if_neg (by omega)]⟩
  · intro k hk ih m hm
    obtain ⟨h1, h2⟩ := hm
    refine slices_Reverse_s_Step_Step.G2 ?_
    have hlt : ((k : Int) < (l.length : Int) - 1 - (k : Int)) = True := eq_true (by omega)
    have hi := row_elS (l := m) (i := k) (by omega)
    have hj := row_elS (l := m) (i := l.length - 1 - k) (by omega)
    have hjn : ((l.length : Int) - 1 - (k : Int)).toNat = l.length - 1 - k := by omega
    push_cast [hlt, hi, hj, hjn]
    have hs1 := row_setS (m := m) (k := k) (by omega) (m.getD (l.length - 1 - k) default)
    have hs2 := row_setS (m := m.set k (m.getD (l.length - 1 - k) default)) (k := l.length - 1 - k) (by simp; omega) (m.getD k default)
    rw [hs1, hs2]
    refine ⟨⟨by omega, by omega⟩, by simpa using h1, by omega, by simpa using h1, by omega, ⟨by simpa using h1, by omega⟩, ⟨by omega, by omega⟩, ⟨by simpa using h1, by omega⟩, ?_⟩
    rw [rens_cSts, wrap64 (by omega) (by omega), wrap64 (by omega) (by omega), show (l.length : Int) - 1 - k - 1 = (l.length : Int) - 1 - ((k + 1 : Nat) : Int) by omega]
    refine ih _ ⟨by simpa using h1, fun p hp => ?_⟩
    rw [List.getElem?_set, List.getElem?_set]
    simp only [List.length_set]
    have hgk : ∀ q, q < l.length → m[q]? = some (m.getD q default) := fun q hq => by simp [List.getD_eq_getElem?_getD, List.getElem?_eq_getElem (show q < m.length by omega)]
    by_cases e1 : l.length - 1 - k = p
    · rw [if_pos e1, if_pos (by omega), if_pos (by omega)]
      have := h2 k (by omega)
      rw [if_neg (by omega), hgk k (by omega)] at this
      rw [show l.length - 1 - p = k by omega]; exact this
    · rw [if_neg e1]
      by_cases e2 : k = p
      · rw [if_pos e2, if_pos (by omega), if_pos (by omega)]
        have := h2 (l.length - 1 - k) (by omega)
        rw [if_neg (by omega), hgk _ (by omega)] at this
        rw [← e2]; exact this
      · rw [if_neg e2, h2 p hp]
        by_cases e3 : p < k ∨ l.length - k ≤ p
        · rw [if_pos e3, if_pos (by omega)]
        · rw [if_neg e3, if_neg (by omega)]
  · intro m hm
    obtain ⟨h1, h2⟩ := hm
    have hb : l.length / 2 * 2 ≤ l.length ∧ l.length ≤ l.length / 2 * 2 + 1 := by omega
    generalize l.length / 2 = h at h2 hb ⊢
    refine slices_Reverse_s_Step_Step.G2 ?_
    have hlt : ((h : Int) < (l.length : Int) - 1 - (h : Int)) = False := eq_false (by omega)
    push_cast [hlt]
    have hml : m = l.reverse := by
      apply List.ext_getElem?
      intro p
      by_cases hp : p < l.length
      · rw [h2 p hp, List.getElem?_reverse hp]
        by_cases e3 : p < h ∨ l.length - h ≤ p
        · rw [if_pos e3]
        · rw [if_neg e3]; congr 1; omega
      · rw [List.getElem?_eq_none (by omega), List.getElem?_eq_none (by simp; omega)]
    rw [hml]
    exact ends_keep (H := [.row t_Step 2 (l.reverse.map cSt)]) (J := []) (n := 1) ⟨rfl, by show [Ob.row t_Step 2 ((l.reverse.map cSt).map (rens (clip 1)))] = _; rw [rens_cSts]⟩ rfl ⟨rfl, rfl⟩
end Go.Dw
end
section
set_option linter.unusedVariables false
set_option linter.unusedSimpArgs false
set_option maxRecDepth 100000
namespace Go.Dw
/-- Each term but the first has a first edge, which comes from an earlier term. -/
def Tree (g : AGraph) : Prop := ∀ j : Nat, 0 < j → j < g.terms.length → ∃ k, idxD j g.edges = some k ∧ 0 ≤ (g.edges.getD k default).src ∧ (g.edges.getD k default).src < j
/-- The steps to a term, last first. -/
def backP (g : AGraph) : Nat → Int → List AStep
  | 0, _ => []
  | n + 1, a => if a ≤ 0 then [] else match idxD a g.edges with
    | none => []
    | some k => (g.edges.getD k default).step :: backP g n (g.edges.getD k default).src
def pathG (g : AGraph) (a : Nat) : List AStep := (backP g a a).reverse
theorem idxD_lt {a : Int} : ∀ {l : List AEdge} {k : Nat}, idxD a l = some k → k < l.length
  | [], k, h => by cases h
  | e :: l, k, h => by
    simp only [idxD] at h
    split at h
    · cases h; simp
    · cases hi : idxD a l with
      | none => rw [hi] at h; cases h
      | some j => rw [hi] at h; cases h; have := idxD_lt hi; simp; omega
abbrev chH (at_ : Int) (t0 : Term) (l : List AStep) : List Ob := [.cells t_int [.int .i64 at_], .cells t_Chain [.str [], .bool false, .sl 3 [], .sl 2 []], .cells t_Chain (cT t0 ++ [.rw 3 2 l.length]), .row t_Step 2 (l.map cSt)]
theorem loop_chain_s (g : AGraph) (t0 : Term) (a : Nat) (ht0 : g.terms[0]? = some t0) (hs0 : size t0 < 2 ^ 40) (htr : Tree g) (ha : a < g.terms.length) (hgl : g.terms.length ≤ 4096) (hel : g.edges.length < 2 ^ 40) :
    Spec prog n_loop_chain [encG g, .int .i64 a] [] fun x H' => x = .agg (cT t0 ++ [.rw 0 2 (pathG g a).length]) ∧ H' = [.row t_Step 2 ((pathG g a).map cSt)] := by
  have h0l : 0 < g.terms.length := (List.getElem?_eq_some_iff.1 ht0).1
  have h0 : g.terms.getD 0 default = t0 := by simp [List.getD_eq_getElem?_getD, ht0]
  refine spec_of_run mixed loop_chain.ok rfl ?_
  have h0i : ((0 : Int) < (g.terms.length : Int)) = True := eq_true (by omega)
  push_cast [h0i, h0]
  refine .of (term_Own_s t0 hs0) ?_
  have hp1 : put 0 (cT t0 ++ [V.nil]) [V.str [], V.bool false, V.sl 3 [], V.nil] = cT t0 ++ [.nil] := rfl
  have hp2 : (cT t0 ++ [V.nil])[3]? = some .nil := rfl
  have hp3 : ∀ x y, put 3 [x] (cT t0 ++ [y]) = cT t0 ++ [x] := fun _ _ => rfl
  have hp4 : ∀ y, (cT t0 ++ [y])[3]? = some y := fun _ => rfl
  push_cast [hp1, hp2, hp3]
  have fin : ∀ acc : List AStep, acc = backP g a a → acc.length ≤ a → loop_chain.L3 (.ro (cG g) 0) (.ptr 0 0) (.ptr 1 0) (.ptr 2 0) 0 (chH 0 t0 acc) (Ends 0 loop_chain.rs fun x H => x = V.agg (cT t0 ++ [V.rw 0 2 (pathG g a).length]) ∧ H = [Ob.row t_Step 2 (List.map cSt (pathG g a))]) := by
    intro acc hac hal
    have hrev : acc.reverse = pathG g a := by rw [hac]; rfl
    have hlen : (pathG g a).length = acc.length := by rw [← hrev, List.length_reverse]
    refine loop_chain.G3 ?_
    push_cast [hp4]
    refine CallG.some [3] (by simp) (by simp) (R := fun x' H' => x' = .tup [] ∧ H' = [.row t_Step 2 (acc.reverse.map cSt)]) ?_ ?_
    · have hgv : give [3] (chH 0 t0 acc) = [.row t_Step 2 (acc.map cSt)] := by
        show [renOb (pos? [3]) (.row t_Step 2 (acc.map cSt))] = _
        push_cast [rens_cSts]
      rw [hgv]
      exact Reverse_step acc (by omega)
    · rintro x' H' ⟨rfl, rfl⟩ _
      have htk : takeB [3] (chH 0 t0 acc) [.row t_Step 2 (acc.reverse.map cSt)] = chH 0 t0 acc.reverse := by
        show [Ob.cells t_int [.int .i64 0], Ob.cells t_Chain [.str [], .bool false, .sl 3 [], .sl 2 []], Ob.cells t_Chain (cT t0 ++ [.rw 3 2 acc.length]), renOb (back [3] 4) (.row t_Step 2 (acc.reverse.map cSt))] = _
        rw [show renOb (back [3] 4) (.row t_Step 2 (acc.reverse.map cSt)) = .row t_Step 2 (acc.reverse.map cSt) by push_cast [rens_cSts]]
        simp only [chH, List.length_reverse]
      rw [htk, hrev]
      have hq1 : ∀ x, sub 0 4 (cT t0 ++ [x]) = cT t0 ++ [x] := fun _ => rfl
      have hq2 : ∀ x, put 0 (cT t0 ++ [x]) [V.str [], V.bool false, V.sl 3 [], V.sl 2 []] = cT t0 ++ [x] := fun _ => rfl
      push_cast [hq1, hq2]
      refine ends_one 3 (x := .agg (cT t0 ++ [.rw 3 2 (pathG g a).length])) (o := .row t_Step 2 ((pathG g a).map cSt)) rfl rfl ⟨rfl, ?_⟩
      push_cast [rens_cSts]
  have key : ∀ (n b : Nat) (acc : List AStep) (f : Nat), b ≤ n → b ≤ f → b < g.terms.length → acc.length + b ≤ a → acc ++ backP g f b = backP g a a →
      loop_chain.L3 (.ro (cG g) 0) (.ptr 0 0) (.ptr 1 0) (.ptr 2 0) 0 (chH b t0 acc) (Ends 0 loop_chain.rs fun x H => x = V.agg (cT t0 ++ [V.rw 0 2 (pathG g a).length]) ∧ H = [Ob.row t_Step 2 (List.map cSt (pathG g a))]) := by
    intro n
    induction n with
    | zero =>
      intro b acc f hb _ hbl hal hac
      obtain rfl : b = 0 := by omega
      refine fin acc ?_ (by omega)
      rw [← hac]; cases f <;> simp [backP]
    | succ n ih =>
      intro b acc f hb hf hbl hal hac
      by_cases hb0 : b = 0
      · subst hb0
        refine fin acc ?_ (by omega)
        rw [← hac]; cases f <;> simp [backP]
      · obtain ⟨f, rfl⟩ : ∃ f', f = f' + 1 := ⟨f - 1, by omega⟩
        refine loop_chain.G3 ?_
        have hb1 : ((0 : Int) < (b : Int)) = True := eq_true (by omega)
        push_cast [hb1]
        obtain ⟨k, hk1, hk2, hk3⟩ := htr b (by omega) hbl
        have hkl := idxD_lt hk1
        refine CallG.some [0] (by simp) (by simp) (R := fun x' H' => x' = .int .i64 (idxV (idxD b g.edges)) ∧ H' = [.cells t_int [.int .i64 b]]) (IndexFunc_edge g.edges b (by omega)) ?_
        rintro x' H' ⟨rfl, rfl⟩ _
        have htk : takeB [0] (chH b t0 acc) [.cells t_int [.int .i64 b]] = chH b t0 acc := rfl
        have hkb : ((k : Int) < (g.edges.length : Int)) = True := eq_true (by omega)
        simp only [backP] at hac
        rw [if_neg (by omega), hk1] at hac
        simp only at hac
        rw [htk, hk1]
        generalize hed : g.edges.getD k default = ed at hk2 hk3 hac
        obtain ⟨c, hc⟩ : ∃ c : Nat, ed.src = c := ⟨ed.src.toNat, by omega⟩
        have hp5 : ∀ n, rens (clip 4) (cT t0 ++ [V.rw 3 2 n]) = cT t0 ++ [.rw 3 2 n] := fun _ => rfl
        have hp6 : (List.map (rens (clip 4)) (List.map cSt acc ++ [cSt ed.step])) = (acc ++ [ed.step]).map cSt := by
          rw [List.map_append, rens_cSts, List.map_append]; rfl
        push_cast [idxV, hkb, hed, hp4]
        rw [hp5, hp6, hc]
        refine ⟨⟨by simp, Nat.le_trans (Nat.mul_le_mul_right 32 (show _ ≤ 2 ^ 41 by omega)) (by unfold maxEls; decide)⟩, ?_⟩
        have := ih c (acc ++ [ed.step]) f (by omega) (by omega) (by omega) (by simp; omega) (by rw [List.append_assoc, ← hac, hc]; rfl)
        simp only [chH, List.length_append, List.length_singleton] at this
        exact this
  exact key a a [] a (Nat.le_refl _) (Nat.le_refl _) ha (by simp) rfl
end Go.Dw
end
section
set_option linter.unusedVariables false
set_option linter.unusedSimpArgs false
namespace Go.Dw
theorem idxD_append (a : Int) (e : AEdge) : ∀ l : List AEdge, idxD a (l ++ [e]) = match idxD a l with | some k => some k | none => if e.dst = a then some l.length else none
  | [] => by simp [idxD]
  | x :: l => by
    simp only [List.cons_append, idxD, idxD_append a e l]
    by_cases h : x.dst = a
    · simp [h]
    · simp only [if_neg h]
      cases idxD a l with
      | some k => rfl
      | none => simp only [Option.map_none]; split <;> simp
theorem idxD_none {a : Int} : ∀ {l : List AEdge}, (∀ e ∈ l, e.dst ≠ a) → idxD a l = none
  | [], _ => rfl
  | x :: l, h => by simp only [idxD, if_neg (h x (by simp))]; rw [idxD_none fun e he => h e (by simp [he])]; rfl
/-- An edge is a step between its terms. -/
def EdgeOk (r : List ARule) (g : AGraph) (e : AEdge) : Prop := ∃ (a b : Nat) (x y : Term), e.src = a ∧ e.dst = b ∧ g.terms[a]? = some x ∧ g.terms[b]? = some y ∧ doE r x e.step = (some y, 0) ∧ e.step ∈ allE r x
structure XInv (r : List ARule) (t : Term) (most : Nat) (g : AGraph) : Prop where
  first : g.terms[0]? = some t
  ok : GOk most g
  edges : ∀ e ∈ g.edges, EdgeOk r g e
  tree : Tree g
theorem EdgeOk.mono {r : List ARule} {g g2 : AGraph} {e : AEdge} (h : EdgeOk r g e) (hg : ∀ (i : Nat) (x : Term), g.terms[i]? = some x → g2.terms[i]? = some x) : EdgeOk r g2 e := by
  obtain ⟨a, b, x, y, h1, h2, h3, h4, h5⟩ := h
  exact ⟨a, b, x, y, h1, h2, hg _ _ h3, hg _ _ h4, h5⟩
theorem EdgeOk.lt {r : List ARule} {g : AGraph} {e : AEdge} (h : EdgeOk r g e) : 0 ≤ e.src ∧ e.src < g.terms.length ∧ 0 ≤ e.dst ∧ e.dst < g.terms.length := by
  obtain ⟨a, b, x, y, h1, h2, h3, h4, h5⟩ := h
  have := (List.getElem?_eq_some_iff.1 h3).1
  have := (List.getElem?_eq_some_iff.1 h4).1
  omega
theorem getD_app {α : Type} [Inhabited α] {l m : List α} {k : Nat} (h : k < l.length) : (l ++ m).getD k default = l.getD k default := by
  simp [List.getD_eq_getElem?_getD, List.getElem?_append_left h]
theorem edge_inv {r : List ARule} {t : Term} {most : Nat} {g g2 : AGraph} {i k : Nat} {x u : Term} {s : AStep} (h : XInv r t most g) (hx : g.terms[i]? = some x) (hs : s ∈ allE r x) (hd : doE r x s = (some u, 0)) (hu : check u = 0) (ha : addG most g u = (some k, g2)) : XInv r t most (edgeG g2 i k s) := by
  have hil := (List.getElem?_eq_some_iff.1 hx).1
  have hok := addG_ok h.ok hu
  rw [ha] at hok
  unfold addG at ha
  cases hf : findI g.terms u with
  | some j =>
    rw [hf] at ha
    simp only [Prod.mk.injEq, Option.some.injEq] at ha
    obtain ⟨rfl, rfl⟩ := ha
    refine ⟨h.first, ⟨h.ok.check, h.ok.len⟩, fun e he => ?_, fun j' h1 h2 => ?_⟩
    · rcases List.mem_append.1 he with he | he
      · exact (h.edges e he).mono fun _ _ h => h
      · rw [List.mem_singleton.1 he]
        exact ⟨i, j, x, u, rfl, rfl, hx, findI_some hf, hd, hs⟩
    · obtain ⟨k, e1, e2, e3⟩ := h.tree j' h1 h2
      refine ⟨k, ?_, ?_⟩
      · simp only [edgeG, idxD_append, e1]
      · simp only [edgeG]
        rw [getD_app (idxD_lt e1)]; exact ⟨e2, e3⟩
  | none =>
    rw [hf] at ha
    simp only at ha
    split at ha
    · cases ha
    · simp only [Prod.mk.injEq, Option.some.injEq] at ha
      obtain ⟨rfl, rfl⟩ := ha
      have hmono : ∀ i x, g.terms[i]? = some x → (g.terms ++ [u])[i]? = some x := fun i x h => by
        rw [List.getElem?_append_left (List.getElem?_eq_some_iff.1 h).1]; exact h
      have hlast : (g.terms ++ [u])[g.terms.length]? = some u := by simp
      refine ⟨hmono _ _ h.first, ⟨hok.check, hok.len⟩, fun e he => ?_, fun j' h1 h2 => ?_⟩
      · rcases List.mem_append.1 he with he | he
        · exact (h.edges e he).mono hmono
        · rw [List.mem_singleton.1 he]
          exact ⟨i, g.terms.length, x, u, rfl, rfl, hmono _ _ hx, hlast, hd, hs⟩
      · simp only [edgeG, List.length_append, List.length_singleton] at h2
        by_cases hj : j' < g.terms.length
        · obtain ⟨k, e1, e2, e3⟩ := h.tree j' h1 hj
          refine ⟨k, ?_, ?_⟩
          · simp only [edgeG, idxD_append, e1]
          · simp only [edgeG]
            rw [getD_app (idxD_lt e1)]; exact ⟨e2, e3⟩
        · obtain rfl : j' = g.terms.length := by omega
          have hn : idxD (g.terms.length : Nat) g.edges = none := idxD_none fun e he => by have := (h.edges e he).lt; omega
          refine ⟨g.edges.length, ?_, ?_⟩
          · simp only [edgeG, idxD_append, hn, if_true]
          · simp only [edgeG, List.getD_eq_getElem?_getD]
            simp only [List.getElem?_append_right (Nat.le_refl _), Nat.sub_self, List.getElem?_cons_zero, Option.getD_some]
            omega
theorem full_inv {r : List ARule} {t : Term} {most : Nat} {g g2 : AGraph} {u : Term} (h : XInv r t most g) (ha : addG most g u = (none, g2)) : XInv r t most g2 ∧ g2.terms = g.terms ∧ g2.edges = g.edges := by
  unfold addG at ha
  cases hf : findI g.terms u with
  | some j => rw [hf] at ha; cases ha
  | none =>
    rw [hf] at ha
    simp only at ha
    split at ha
    · simp only [Prod.mk.injEq, true_and] at ha
      subst ha
      exact ⟨⟨h.first, ⟨h.ok.check, h.ok.len⟩, fun e he => (h.edges e he).mono fun _ _ h => h, h.tree⟩, rfl, rfl⟩
    · cases ha
theorem rowE_inv {r : List ARule} {t : Term} {most i : Nat} {x : Term} (hrc : ∀ x ∈ r, check x.left = 0 ∧ check x.right = 0) (hxc : check x = 0) : ∀ (l : List AStep) (g : AGraph), (∀ s ∈ l, s ∈ allE r x) → XInv r t most g → g.terms[i]? = some x → (rowE r most i x l g).2 = 0 → XInv r t most (rowE r most i x l g).1 ∧ (rowE r most i x l g).1.edges.length ≤ g.edges.length + l.length
  | [], g, _, h, _, _ => ⟨h, Nat.le_refl _⟩
  | s :: l, g, hl, h, hx, h0 => by
    have hs := hl s (by simp)
    have hl' : ∀ s ∈ l, s ∈ allE r x := fun s hs => hl s (by simp [hs])
    cases hd : (doE r x s).1 with
    | none =>
      rw [rowE_none hd] at h0
      exact absurd h0 (doE_none (e := (doE r x s).2) (by rw [← hd]))
    | some u =>
      have hd' : doE r x s = (some u, (doE r x s).2) := by rw [← hd]
      obtain ⟨huc, he0⟩ := doE_check hrc hxc hd'
      rw [he0] at hd'
      cases hag : addG most g u with
      | mk ko g2 =>
      have hget := addG_get (most := most) (u := u) hx
      have hedg := addG_edges most g u
      rw [hag] at hget hedg
      cases ko with
      | none =>
        rw [rowE_full hd hag] at h0 ⊢
        obtain ⟨h1, h2, h3⟩ := full_inv h hag
        obtain ⟨k1, k2⟩ := rowE_inv hrc hxc l g2 hl' h1 hget h0
        exact ⟨k1, by rw [h3] at k2; simp only [List.length_cons]; omega⟩
      | some k =>
        rw [rowE_some hd hag] at h0 ⊢
        have h1 := edge_inv h hx hs hd' huc hag
        obtain ⟨k1, k2⟩ := rowE_inv hrc hxc l (edgeG g2 i k s) hl' h1 hget h0
        refine ⟨k1, Nat.le_trans k2 ?_⟩
        have hedg : g2.edges = g.edges := hedg
        simp only [edgeG, List.length_append, List.length_cons, List.length_nil, hedg]; omega
theorem runG_inv {r : List ARule} {t : Term} {most : Nat} (hr64 : r.length ≤ 64) (hrc : ∀ x ∈ r, check x.left = 0 ∧ check x.right = 0) : ∀ (n i : Nat) (g : AGraph), i + n = most → XInv r t most g → g.edges.length ≤ i * 262144 → (runG r most n i g).2 = 0 → XInv r t most (runG r most n i g).1 ∧ (runG r most n i g).1.edges.length ≤ most * 262144
  | 0, i, g, hi, h, he, _ => ⟨h, by simp only [runG]; obtain rfl : i = most := by omega
                                    exact he⟩
  | n + 1, i, g, hi, h, he, h0 => by
    simp only [runG] at h0 ⊢
    cases hx : g.terms[i]? with
    | none => exact ⟨h, Nat.le_trans he (Nat.mul_le_mul_right _ (by omega))⟩
    | some x =>
      rw [hx] at h0
      simp only at h0 ⊢
      have hxc := h.ok.check x (List.mem_of_getElem? hx)
      by_cases h2 : (rowE r most i x (allE r x) g).2 = 0
      · have hcont : contO (rowE r most i x (allE r x) g) (runG r most n (i + 1)) = runG r most n (i + 1) (rowE r most i x (allE r x) g).1 := by unfold contO; rw [if_pos h2]
        rw [hcont] at h0 ⊢
        obtain ⟨k1, k2⟩ := rowE_inv hrc hxc (allE r x) g (fun _ h => h) h hx h2
        have hA : (allE r x).length ≤ 256000 := by
          have h1 := allL_len r (visit x [])
          rw [visit_len] at h1
          exact Nat.le_trans h1 (Nat.mul_le_mul (check_good hxc).2 hr64)
        exact runG_inv hr64 hrc n (i + 1) _ (by omega) k1 (by omega) h0
      · have hcont : contO (rowE r most i x (allE r x) g) (runG r most n (i + 1)) = (noG, (rowE r most i x (allE r x) g).2) := by unfold contO; rw [if_neg h2]
        rw [hcont] at h0
        exact absurd h0 h2
theorem exploreE_inv {r : List ARule} {t : Term} {most : Nat} (hr64 : r.length ≤ 64) (hrc : ∀ x ∈ r, check x.left = 0 ∧ check x.right = 0) (ht : check t = 0) (hm : 1 ≤ most) (h0 : (exploreE r t most).2 = 0) : XInv r t most (exploreE r t most).1 ∧ (exploreE r t most).1.edges.length ≤ most * 262144 := by
  refine runG_inv hr64 hrc most 0 _ (by omega) ⟨rfl, ⟨by simpa using ht, by simpa using hm⟩, by simp, fun j h1 h2 => ?_⟩ (by simp) h0
  simp at h2; omega
end Go.Dw
end
section
set_option linter.unusedVariables false
set_option linter.unusedSimpArgs false
set_option maxRecDepth 100000
namespace Go.Dw
def noLo : ALoop := ⟨⟨noT, []⟩, [], []⟩
/-- The first edge that closes a loop. -/
def firstL (t : Term) (g : AGraph) : List AEdge → ALoop × Bool × Int
  | [] => (noLo, false, 0)
  | e :: l => match instF t (visit (g.terms.getD e.dst.toNat default) []) with
    | none => firstL t g l
    | some q => (⟨⟨t, pathG g e.src.toNat ++ [e.step]⟩, q.1, q.2⟩, true, 0)
def findL (r : List ARule) (t : Term) (most : Int) : ALoop × Bool × Int :=
  if (ExploreE r t most).2 ≠ 0 then (noLo, false, (ExploreE r t most).2) else firstL t (ExploreE r t most).1 (ExploreE r t most).1.edges
def encF (x : ALoop × Bool × Int) : V := .tup [encLo x.1, .bool x.2.1, .int .i64 x.2.2]
theorem pathG_len (g : AGraph) (a : Nat) : (pathG g a).length ≤ a := by
  unfold pathG
  rw [List.length_reverse]
  have : ∀ n b, (backP g n b).length ≤ n := by
    intro n
    induction n with
    | zero => intro b; simp [backP]
    | succ n ih =>
      intro b
      simp only [backP]
      split
      · simp
      · split
        · simp
        · simp only [List.length_cons]; have := ih (g.edges.getD ‹Nat› default).src; omega
  exact this a a
theorem ExploreE_inv {r : List ARule} {t : Term} {most : Int} (h : (ExploreE r t most).2 = 0) : checkSystem r = 0 ∧ check t = 0 ∧ 1 ≤ most ∧ most ≤ 4096 ∧ XInv r t most.toNat (ExploreE r t most).1 ∧ (ExploreE r t most).1.edges.length ≤ most.toNat * 262144 := by
  unfold ExploreE at h ⊢
  split at h
  · rename_i h1; exact absurd h h1
  · rename_i h1
    rw [if_neg h1]
    have h1 : bothE r t = 0 := by simpa using h1
    have hc : checkSystem r = 0 ∧ check t = 0 := by
      unfold bothE at h1
      split at h1
      · rename_i h2; exact absurd h1 h2
      · rename_i h2; exact ⟨by simpa using h2, h1⟩
    split at h
    · cases h
    · rename_i h2
      rw [if_neg h2]
      obtain ⟨k1, k2⟩ := exploreE_inv (checkSystem_len hc.1) (checkSystem_sides hc.1) hc.2 (most := most.toNat) (by omega) h
      exact ⟨hc.1, hc.2, by omega, by omega, k1, k2⟩
theorem loop_Find_s (r : List ARule) (t : Term) (most : Int) (hr : rbs r < 2 ^ 28) (ht : tb t < 2 ^ 28) : PF n_loop_Find [encRs r, encT t, .int .i64 most] (encF (findL r t most)) := by
  refine pf_of loop_Find.ok rfl ?_
  push_cast
  refine .of (derive_Explore_s r t most hr ht) ?_
  unfold findL
  by_cases h : (ExploreE r t most).2 = 0
  · obtain ⟨hc1, hc2, hm1, hm2, hX, hel⟩ := ExploreE_inv h
    rw [if_neg (by simpa using h)]
    push_cast [h]
    generalize (ExploreE r t most).1 = g at hX hel ⊢
    have hgt := check_good hc2
    refine loop_up (n := g.edges.length) (R := fun k => firstL t g (g.edges.drop k) = firstL t g g.edges → loop_Find.L5 (.ro (cT t) 0) (.ptr 0 0) (.ro (cG g) 0) (encEds g.edges) (.int .i64 g.edges.length) (.int .i64 k) 0 [Ob.cells t_Loop [V.str [], V.bool false, V.sl 3 [], V.sl 2 [], V.sl 1 [], V.sl 4 []], Ob.dead] (Ends 0 loop_Find.rs fun x' H' => x' = encF (firstL t g g.edges) ∧ H' = [])) ?_ ?_ 0 (Nat.zero_le _) rfl
    · intro k hk ih hq
      rw [drop_getD hk] at hq
      have hm := getD_mem hk
      generalize hee : g.edges.getD k default = e at hm hq
      obtain ⟨a, b, x, y, h1, h2, h3, h4, h5, h6⟩ := hX.edges e hm
      have hal := (List.getElem?_eq_some_iff.1 h3).1
      have hbl := (List.getElem?_eq_some_iff.1 h4).1
      have hyc := hX.ok.check y (List.mem_of_getElem? h4)
      have hgy := check_good hyc
      have hyd : g.terms.getD b default = y := by simp [List.getD_eq_getElem?_getD, h4]
      have hbi : ((b : Int) < (g.terms.length : Int)) = True := eq_true (by omega)
      have hln := hX.ok.len
      refine loop_Find.G5 ?_
      push_cast [ilt hk, hee, h2, hbi, hyd]
      refine .of (loop_instance_s t y (by have := hgt.2; omega) (by have := hgy.2; omega)) ?_
      simp only [firstL, h1, h2, Int.toNat_natCast, hyd] at hq
      cases hi : instF t (visit y []) with
      | none =>
        rw [hi] at hq
        push_cast [instV, w64 (show k < 2 ^ 62 by omega)]
        have := ih hq
        push_cast at this
        exact this
      | some q =>
        rw [hi] at hq
        push_cast [instV, h1]
        have hpl := pathG_len g a
        generalize hP : pathG g a = P at hpl
        have hC := loop_chain_s g t a hX.first (by have := hgt.2; omega) hX.tree hal (by omega) (by omega)
        rw [hP] at hC
        refine callG_new (x := V.agg (cT t ++ [V.rw 0 2 P.length])) (H1 := [.row t_Step 2 (P.map cSt)]) (show Spec prog n_loop_chain (rens (fun _ => none) [encG g, .int .i64 a]) [] _ from hC) ?_
        have hb0 : ∀ n, ren (fun i => some (3 + i)) (V.agg (cT t ++ [V.rw 0 2 n])) = .agg (cT t ++ [.rw 3 2 n]) := fun _ => rfl
        have hp1 : ∀ x, put 0 (cT t ++ [x]) [V.str [], V.bool false, V.sl 3 [], V.nil] = cT t ++ [x] := fun _ => rfl
        have hp4 : ∀ y, (cT t ++ [y])[3]? = some y := fun _ => rfl
        have hlim : ((4096 : Int) < (P.length : Int) + 1) = False := eq_false (by omega)
        have hp5 : ∀ x, sub 0 4 (cT t ++ [x]) = cT t ++ [x] := fun _ => rfl
        have hp6 : (List.map (rens fun x => none) (List.map cSt P ++ [cSt e.step])) = (P ++ [e.step]).map cSt := by
          rw [List.map_append, rens_cSts, List.map_append]; rfl
        have hp7 : ∀ x, put 0 (cT t ++ [x]) [V.str [], V.bool false, V.sl 3 [], V.sl 2 [], V.sl 1 [], V.sl 4 []] = cT t ++ [x, V.sl 1 [], V.sl 4 []] := fun _ => rfl
        have hp8 : ∀ x y, put 4 [y] (cT t ++ [x, V.sl 1 [], V.sl 4 []]) = cT t ++ [x, y, V.sl 4 []] := fun _ _ => rfl
        have hp9 : ∀ x y z, put 5 [z] (cT t ++ [x, y, V.sl 4 []]) = cT t ++ [x, y, z] := fun _ _ _ => rfl
        have hpl6 : ∀ x y z : V, (cT t ++ [x, y, z]).length = 6 := fun _ _ _ => rfl
        have hpa : ∀ x y z, put 0 (cT t ++ [x, y, z]) [V.str [], V.bool false, V.sl 3 [], V.sl 2 [], V.sl 1 [], V.sl 4 []] = cT t ++ [x, y, z] := fun _ _ _ => rfl
        push_cast [hb0, hp1, hp4, hlim, hp5, hp6, hp7, hp8, hp9, hpl6, hpa]
        refine ⟨⟨by simp, Nat.le_trans (Nat.mul_le_mul_right 32 (show _ ≤ 2 ^ 41 by omega)) (by unfold maxEls; decide)⟩, by simp, ?_⟩
        rw [← hq, hP]
        exact pf_ret (by push_cast [loop_Find.rs, encF]; rfl)
    · intro hq
      rw [drop_map_none] at hq
      refine loop_Find.G5 ?_
      push_cast [inlt (Nat.le_refl _)]
      rw [← hq]
      exact pf_ret (by push_cast [loop_Find.rs, encF, firstL]; rfl)
  · rw [if_pos (by simpa using h)]
    push_cast [h]
    exact pf_ret (by push_cast [loop_Find.rs, encF]; rfl)
end Go.Dw
end
