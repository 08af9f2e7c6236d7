/-
  The example's system, read.
-/
import Derived.Test.YtokdinonifchaaaGreatCd
import Derived.Test.YtokdinonifchaaaGreatXf
import Derived.Test.YtokdinonifchaaaGreatRb
import Derived.KernelRfl
section
set_option linter.unusedVariables false
set_option linter.unusedSimpArgs false
set_option maxRecDepth 100000
namespace Go.Dw
/-! values read back -/
def mapO {α β : Type} (f : α → Option β) : List α → Option (List β)
  | [] => some []
  | x :: l => match f x with
    | some y => match mapO f l with
      | some m => some (y :: m)
      | none => none
    | none => none
theorem mapO_sound {α β : Type} {f : α → Option β} {g : β → α} (h : ∀ x y, f x = some y → x = g y) : ∀ {l : List α} {m : List β}, mapO f l = some m → l = m.map g
  | [], m, hm => by cases hm; rfl
  | x :: l, m, hm => by
    simp only [mapO] at hm
    cases hx : f x with
    | none => rw [hx] at hm; cases hm
    | some y =>
      rw [hx] at hm
      cases hl : mapO f l with
      | none => rw [hl] at hm; cases hm
      | some m' =>
        rw [hl] at hm
        cases hm
        rw [h x y hx, mapO_sound h hl]; rfl
def dC : Nat → List V → Option Term
  | 0, _ => none
  | n + 1, cs => match cs with
    | [.str s, .bool v, .sl z l] => bif Nat.beq z 3 then (match mapO (dC n) l with | some m => some (.mk s v m) | none => none) else none
    | _ => none
theorem dC_sound : ∀ {n : Nat} {cs : List V} {t : Term}, dC n cs = some t → cs = cT t
  | 0, _, _, h => by cases h
  | n + 1, cs, t, h => by
    simp only [dC] at h
    split at h
    case h_2 => cases h
    rename_i s v z l
    cases hz : Nat.beq z 3 with
    | false => rw [hz] at h; cases h
    | true =>
      rw [hz] at h
      have hz := Nat.eq_of_beq_eq_true hz
      subst hz
      simp only [cond_true] at h
      cases hm : mapO (dC n) l with
      | none => rw [hm] at h; cases h
      | some m =>
        rw [hm] at h
        cases h
        rw [mapO_sound (g := cT) (fun x y hx => dC_sound hx) hm, cT_eq]; rfl
def dT : V → Option Term
  | .agg cs => dC 300 cs
  | _ => none
theorem dT_sound {v : V} {t : Term} (h : dT v = some t) : v = encT t := by
  cases v <;> simp only [dT] at h
  case agg cs => rw [dC_sound h]; rfl
  all_goals cases h
def dR : List V → Option ARule
  | [a, b, c, d, e, f] => match dC 300 [a, b, c] with
    | some x => match dC 300 [d, e, f] with
      | some y => some ⟨x, y⟩
      | none => none
    | none => none
  | _ => none
theorem dR_sound {cs : List V} {x : ARule} (h : dR cs = some x) : cs = cR x := by
  unfold dR at h
  split at h
  case h_2 => cases h
  rename_i a b c d e f
  cases h1 : dC 300 [a, b, c] with
  | none => rw [h1] at h; cases h
  | some y =>
    rw [h1] at h
    cases h2 : dC 300 [d, e, f] with
    | none => rw [h2] at h; cases h
    | some z =>
      rw [h2] at h
      cases h
      have e1 := dC_sound h1
      have e2 := dC_sound h2
      show [a, b, c] ++ [d, e, f] = _
      rw [e1, e2]; rfl
def dRs : V → Option (List ARule)
  | .sl z l => bif Nat.beq z 6 then mapO dR l else none
  | _ => none
theorem dRs_sound {v : V} {r : List ARule} (h : dRs v = some r) : v = encRs r := by
  cases v <;> simp only [dRs] at h
  case sl z l =>
    cases hz : Nat.beq z 6 with
    | false => rw [hz] at h; cases h
    | true =>
      rw [hz] at h
      have hz := Nat.eq_of_beq_eq_true hz
      subst hz
      simp only [cond_true] at h
      rw [mapO_sound (g := cR) (fun x y hx => dR_sound hx) h]; rfl
  all_goals cases h
def dI : List V → Option Int
  | [.int .i64 n] => some n
  | _ => none
theorem dI_sound {cs : List V} {n : Int} (h : dI cs = some n) : cs = cI n := by
  unfold dI at h
  split at h
  · cases h; rfl
  · cases h
def dP : V → Option (List Int)
  | .sl z l => bif Nat.beq z 1 then mapO dI l else none
  | _ => none
theorem dP_sound {v : V} {p : List Int} (h : dP v = some p) : v = encP p := by
  cases v <;> simp only [dP] at h
  case sl z l =>
    cases hz : Nat.beq z 1 with
    | false => rw [hz] at h; cases h
    | true =>
      rw [hz] at h
      have hz := Nat.eq_of_beq_eq_true hz
      subst hz
      simp only [cond_true] at h
      rw [mapO_sound (g := cI) (fun x y hx => dI_sound hx) h]; rfl
  all_goals cases h
/-! the steps -/
abbrev P1 := List V → Option V
def okPr (f : Nat) (p : P1) : Prop := ∀ args x, p args = some x → PF f args x
def pFind : P1
  | [a, b] => match dT a with
    | some p => match dT b with
      | some t => bif Nat.blt (size p) 100000 && Nat.blt (size t) 100000 then some (.tup [encBs (matchT [] p t).1, .bool (matchT [] p t).2]) else none
      | none => none
    | none => none
  | _ => none
theorem pFind_ok : okPr n_unify_Find pFind := by
  intro args x h
  unfold pFind at h
  split at h
  case h_2 => cases h
  rename_i a b
  split at h
  case h_2 => cases h
  rename_i p hp
  split at h
  case h_2 => cases h
  rename_i t ht
  cases hc : (Nat.blt (size p) 100000 && Nat.blt (size t) 100000) with
  | false => rw [hc] at h; cases h
  | true =>
    rw [hc] at h
    simp only [Bool.and_eq_true, Nat.blt_eq] at hc
    cases h
    rw [dT_sound hp, dT_sound ht]
    exact unify_Find_s p t (by omega) (by omega)
def pInst : P1
  | [a, b] => match dT a with
    | some p => match dT b with
      | some t => bif Nat.blt (size p) 100000 && Nat.blt (size t) 100000 then some (instV (instF p (visit t []))) else none
      | none => none
    | none => none
  | _ => none
theorem pInst_ok : okPr n_loop_instance pInst := by
  intro args x h
  unfold pInst at h
  split at h
  case h_2 => cases h
  rename_i a b
  split at h
  case h_2 => cases h
  rename_i p hp
  split at h
  case h_2 => cases h
  rename_i t ht
  cases hc : (Nat.blt (size p) 100000 && Nat.blt (size t) 100000) with
  | false => rw [hc] at h; cases h
  | true =>
    rw [hc] at h
    simp only [Bool.and_eq_true, Nat.blt_eq] at hc
    cases h
    rw [dT_sound hp, dT_sound ht]
    exact loop_instance_s p t (by omega) (by omega)
def pAll : P1
  | [a, b] => match dRs a with
    | some r => match dT b with
      | some t => bif Nat.blt (rbs r) 100000 && Nat.blt (size t) 100000 then some (encSts (allE r t)) else none
      | none => none
    | none => none
  | _ => none
theorem pAll_ok : okPr n_rewrite_All pAll := by
  intro args x h
  unfold pAll at h
  split at h
  case h_2 => cases h
  rename_i a b
  split at h
  case h_2 => cases h
  rename_i r hr
  split at h
  case h_2 => cases h
  rename_i t ht
  cases hc : (Nat.blt (rbs r) 100000 && Nat.blt (size t) 100000) with
  | false => rw [hc] at h; cases h
  | true =>
    rw [hc] at h
    simp only [Bool.and_eq_true, Nat.blt_eq] at hc
    cases h
    rw [dRs_sound hr, dT_sound ht]
    have hl := length_le_rbs r
    have hm : size t * r.length ≤ 100000 * 100000 := Nat.mul_le_mul (by omega) (by omega)
    exact rewrite_All_s r t (by omega) (fun y hy => by have := rbs_mem hy; have := size_le_tb y.left; omega) (by omega) (by omega)
def pSys : P1
  | [a] => match dRs a with
    | some r => bif Nat.blt (rbs r) 100000 then some (.int .i64 (checkSystem r)) else none
    | none => none
  | _ => none
theorem pSys_ok : okPr n_term_CheckSystem pSys := by
  intro args x h
  unfold pSys at h
  split at h
  case h_2 => cases h
  rename_i a
  split at h
  case h_2 => cases h
  rename_i r hr
  cases hc : Nat.blt (rbs r) 100000 with
  | false => rw [hc] at h; cases h
  | true =>
    rw [hc] at h
    simp only [Nat.blt_eq] at hc
    cases h
    rw [dRs_sound hr]
    exact term_CheckSystem_t r (by omega)
def pCat : P1
  | [.sl z [[a], [b]]] => match dP a with
    | some p => match dP b with
      | some q => bif Nat.beq z 1 && Nat.blt (p.length + q.length) 100000 then some (encP (p ++ q)) else none
      | none => none
    | none => none
  | _ => none
theorem pCat_ok : okPr n_slices_Concat_s_int_int pCat := by
  intro args x h
  unfold pCat at h
  split at h
  case h_2 => cases h
  rename_i z a b
  split at h
  case h_2 => cases h
  rename_i p hp
  split at h
  case h_2 => cases h
  rename_i q hq
  cases hc : (Nat.beq z 1 && Nat.blt (p.length + q.length) 100000) with
  | false => rw [hc] at h; cases h
  | true =>
    rw [hc] at h
    simp only [Bool.and_eq_true, Nat.blt_eq, Nat.beq_eq] at hc
    cases h
    rw [dP_sound hp, dP_sound hq, hc.1]
    exact concat2 p q (by omega)
def pCmp : P1
  | [.str a, .str b] => some (.int .i64 (cmpS a b))
  | _ => none
theorem pCmp_ok : okPr n_bytealg_abigen_runtime_cmpstring pCmp := by
  intro args x h
  unfold pCmp at h
  split at h
  · cases h; exact cmpstring_s _ _
  · cases h
def pSysR : P1
  | [a] => match dRs a with
    | some r => bif Nat.blt (rbs r) 100000 then some (.int .i64 (checkSystem r)) else none
    | none => none
  | _ => none
theorem pSysR_ok : okPr n_r01_CheckSystem pSysR := by
  intro args x h
  unfold pSysR at h
  split at h
  case h_2 => cases h
  rename_i a
  split at h
  case h_2 => cases h
  rename_i r hr
  cases hc : Nat.blt (rbs r) 100000 with
  | false => rw [hc] at h; cases h
  | true =>
    rw [hc] at h
    simp only [Nat.blt_eq] at hc
    cases h
    rw [dRs_sound hr]
    exact r01_CheckSystem_s r (by omega)
def pLett : P1
  | [.str s] => bif Nat.blt s.length 100000 then some (.bool (s.all letter)) else none
  | _ => none
theorem pLett_ok : okPr n_r01_Letters pLett := by
  intro args x h
  unfold pLett at h
  split at h
  case h_2 => cases h
  rename_i s
  cases hc : Nat.blt s.length 100000 with
  | false => rw [hc] at h; cases h
  | true =>
    rw [hc] at h
    simp only [Nat.blt_eq] at hc
    cases h
    exact r01_Letters_s s (by omega)
def pName : P1
  | [.str s, .bool m] => bif Nat.blt s.length 100000 then some (.bool (isName s m)) else none
  | _ => none
theorem pName_ok : okPr n_r01_IsName pName := by
  intro args x h
  unfold pName at h
  split at h
  case h_2 => cases h
  rename_i s m
  cases hc : Nat.blt s.length 100000 with
  | false => rw [hc] at h; cases h
  | true =>
    rw [hc] at h
    simp only [Nat.blt_eq] at hc
    cases h
    exact r01_IsName_s s m (by omega)
/-- A table of them. -/
structure PK where
  f : Nat
  p : P1
  ok : okPr f p
def lookP (f : Nat) (args : List V) : List PK → Option V
  | [] => none
  | k :: l => bif Nat.beq k.f f then (match k.p args with | some x => some x | none => lookP f args l) else lookP f args l
theorem lookP_ok {f : Nat} {args : List V} {x : V} : ∀ {l : List PK}, lookP f args l = some x → PF f args x
  | [], h => by cases h
  | k :: l, h => by
    simp only [lookP] at h
    cases hb : Nat.beq k.f f with
    | true =>
      rw [hb] at h
      simp only [cond_true] at h
      split at h
      · rename_i y hy
        cases h
        rw [← Nat.eq_of_beq_eq_true hb]
        exact k.ok _ _ hy
      · exact lookP_ok h
    | false => rw [hb] at h; exact lookP_ok h
def primsOf (l : List PK) : Prims := fun f args H => match H with
  | [] => match lookP f args l with
    | some x => some (x, [])
    | none => none
  | _ => none
theorem primsOf_ok {l : List PK} : ∀ f args H x H', primsOf l f args H = some (x, H') → Spec prog f args H fun x' H'' => x' = x ∧ H'' = H' := by
  intro f args H x H' h
  unfold primsOf at h
  split at h
  case h_2 => cases h
  split at h
  case h_2 => cases h
  rename_i y hy
  cases h
  exact lookP_ok hy
def tabR : List PK := [⟨_, _, pLett_ok⟩, ⟨_, _, pName_ok⟩, ⟨_, _, pSysR_ok⟩, ⟨_, _, pCmp_ok⟩]
def tabP : List PK := [⟨_, _, pCmp_ok⟩, ⟨_, _, pFind_ok⟩, ⟨_, _, pInst_ok⟩, ⟨_, _, pAll_ok⟩, ⟨_, _, pSys_ok⟩, ⟨_, _, pCat_ok⟩]
/-- One call whose arguments are given. -/
def pOne (args0 : List V) (x : V) : P1 := fun args => bif eqL args args0 then some x else none
theorem pOne_ok {f : Nat} {args0 : List V} {x : V} (h : PF f args0 x) : okPr f (pOne args0 x) := by
  intro args y hy
  unfold pOne at hy
  cases hb : eqL args args0 with
  | false => rw [hb] at hy; cases hy
  | true => rw [hb] at hy; cases hy; rw [eqL_sound _ _ hb]; exact h
theorem closed (l : List PK) (n : Nat) {f : Nat} {args : List V} {x : V} (h : callI code (primsOf l) (go code (primsOf l) n) true f args [] = some (x, [])) : PF f args x :=
  run_closed mixed code_ok primsOf_ok n h
end Go.Dw
end
section
set_option maxRecDepth 100000
namespace Go.Dw
def txt : Str := [40, 86, 65, 82, 32, 120, 41, 32, 40, 82, 85, 76, 69, 83, 32, 102, 40, 120, 41, 32, 45, 62, 32, 103, 40, 102, 40, 115, 40, 120, 41, 41, 41, 41]
def vx : Term := .mk [120] true []
def tf (t : Term) : Term := .mk [102] false [t]
def tg (t : Term) : Term := .mk [103] false [t]
def ts (t : Term) : Term := .mk [115] false [t]
def r0 : List ARule := [⟨tf vx, tg (tf (ts vx))⟩]
def sysV : V := .tup [encRs r0, .int .i64 0, .int .i64 0]
/-- What a run gives. -/
def yields (r : Res) (x : V) : Bool := match r with
  | some (y, []) => eqV y x
  | _ => false
theorem yields_sound {r : Res} {x : V} (h : yields r x = true) : r = some (x, []) := by
  unfold yields at h
  split at h
  · rw [eqV_all _ _ h]
  · cases h
def txs : Str := [115, 40, 120, 41]
theorem nx_txt_0 : PF n_r02_Next [.str txt, .int .i64 0] (.tup [.str [40], .int .i64 0]) := closed tabR 100000 (yields_sound (by kernel_rfl))
theorem nx_txt_1 : PF n_r02_Next [.str txt, .int .i64 1] (.tup [.str [86, 65, 82], .int .i64 1]) := closed tabR 100000 (yields_sound (by kernel_rfl))
theorem nx_txt_4 : PF n_r02_Next [.str txt, .int .i64 4] (.tup [.str [120], .int .i64 5]) := closed tabR 100000 (yields_sound (by kernel_rfl))
theorem nx_txt_6 : PF n_r02_Next [.str txt, .int .i64 6] (.tup [.str [41], .int .i64 6]) := closed tabR 100000 (yields_sound (by kernel_rfl))
theorem nx_txt_7 : PF n_r02_Next [.str txt, .int .i64 7] (.tup [.str [40], .int .i64 8]) := closed tabR 100000 (yields_sound (by kernel_rfl))
theorem nx_txt_9 : PF n_r02_Next [.str txt, .int .i64 9] (.tup [.str [82, 85, 76, 69, 83], .int .i64 9]) := closed tabR 100000 (yields_sound (by kernel_rfl))
theorem nx_txt_14 : PF n_r02_Next [.str txt, .int .i64 14] (.tup [.str [102], .int .i64 15]) := closed tabR 100000 (yields_sound (by kernel_rfl))
theorem nx_txt_16 : PF n_r02_Next [.str txt, .int .i64 16] (.tup [.str [40], .int .i64 16]) := closed tabR 100000 (yields_sound (by kernel_rfl))
theorem nx_txt_17 : PF n_r02_Next [.str txt, .int .i64 17] (.tup [.str [120], .int .i64 17]) := closed tabR 100000 (yields_sound (by kernel_rfl))
theorem nx_txt_18 : PF n_r02_Next [.str txt, .int .i64 18] (.tup [.str [41], .int .i64 18]) := closed tabR 100000 (yields_sound (by kernel_rfl))
theorem nx_txt_19 : PF n_r02_Next [.str txt, .int .i64 19] (.tup [.str [45, 62], .int .i64 20]) := closed tabR 100000 (yields_sound (by kernel_rfl))
theorem nx_txt_22 : PF n_r02_Next [.str txt, .int .i64 22] (.tup [.str [103], .int .i64 23]) := closed tabR 100000 (yields_sound (by kernel_rfl))
theorem nx_txt_24 : PF n_r02_Next [.str txt, .int .i64 24] (.tup [.str [40], .int .i64 24]) := closed tabR 100000 (yields_sound (by kernel_rfl))
theorem nx_txt_25 : PF n_r02_Next [.str txt, .int .i64 25] (.tup [.str [102], .int .i64 25]) := closed tabR 100000 (yields_sound (by kernel_rfl))
theorem nx_txt_26 : PF n_r02_Next [.str txt, .int .i64 26] (.tup [.str [40], .int .i64 26]) := closed tabR 100000 (yields_sound (by kernel_rfl))
theorem nx_txt_27 : PF n_r02_Next [.str txt, .int .i64 27] (.tup [.str [115], .int .i64 27]) := closed tabR 100000 (yields_sound (by kernel_rfl))
theorem nx_txt_28 : PF n_r02_Next [.str txt, .int .i64 28] (.tup [.str [40], .int .i64 28]) := closed tabR 100000 (yields_sound (by kernel_rfl))
theorem nx_txt_29 : PF n_r02_Next [.str txt, .int .i64 29] (.tup [.str [120], .int .i64 29]) := closed tabR 100000 (yields_sound (by kernel_rfl))
theorem nx_txt_30 : PF n_r02_Next [.str txt, .int .i64 30] (.tup [.str [41], .int .i64 30]) := closed tabR 100000 (yields_sound (by kernel_rfl))
theorem nx_txt_31 : PF n_r02_Next [.str txt, .int .i64 31] (.tup [.str [41], .int .i64 31]) := closed tabR 100000 (yields_sound (by kernel_rfl))
theorem nx_txt_32 : PF n_r02_Next [.str txt, .int .i64 32] (.tup [.str [41], .int .i64 32]) := closed tabR 100000 (yields_sound (by kernel_rfl))
theorem nx_txt_33 : PF n_r02_Next [.str txt, .int .i64 33] (.tup [.str [41], .int .i64 33]) := closed tabR 100000 (yields_sound (by kernel_rfl))
theorem nx_txt_34 : PF n_r02_Next [.str txt, .int .i64 34] (.tup [.str [], .int .i64 34]) := closed tabR 100000 (yields_sound (by kernel_rfl))
theorem nx_txs_0 : PF n_r02_Next [.str txs, .int .i64 0] (.tup [.str [115], .int .i64 0]) := closed tabR 100000 (yields_sound (by kernel_rfl))
theorem nx_txs_1 : PF n_r02_Next [.str txs, .int .i64 1] (.tup [.str [40], .int .i64 1]) := closed tabR 100000 (yields_sound (by kernel_rfl))
theorem nx_txs_2 : PF n_r02_Next [.str txs, .int .i64 2] (.tup [.str [120], .int .i64 2]) := closed tabR 100000 (yields_sound (by kernel_rfl))
theorem nx_txs_3 : PF n_r02_Next [.str txs, .int .i64 3] (.tup [.str [41], .int .i64 3]) := closed tabR 100000 (yields_sound (by kernel_rfl))
theorem nx_txs_4 : PF n_r02_Next [.str txs, .int .i64 4] (.tup [.str [], .int .i64 4]) := closed tabR 100000 (yields_sound (by kernel_rfl))
def tabN : List PK := [⟨_, _, pOne_ok nx_txt_0⟩,
  ⟨_, _, pOne_ok nx_txt_1⟩,
  ⟨_, _, pOne_ok nx_txt_4⟩,
  ⟨_, _, pOne_ok nx_txt_6⟩,
  ⟨_, _, pOne_ok nx_txt_7⟩,
  ⟨_, _, pOne_ok nx_txt_9⟩,
  ⟨_, _, pOne_ok nx_txt_14⟩,
  ⟨_, _, pOne_ok nx_txt_16⟩,
  ⟨_, _, pOne_ok nx_txt_17⟩,
  ⟨_, _, pOne_ok nx_txt_18⟩,
  ⟨_, _, pOne_ok nx_txt_19⟩,
  ⟨_, _, pOne_ok nx_txt_22⟩,
  ⟨_, _, pOne_ok nx_txt_24⟩,
  ⟨_, _, pOne_ok nx_txt_25⟩,
  ⟨_, _, pOne_ok nx_txt_26⟩,
  ⟨_, _, pOne_ok nx_txt_27⟩,
  ⟨_, _, pOne_ok nx_txt_28⟩,
  ⟨_, _, pOne_ok nx_txt_29⟩,
  ⟨_, _, pOne_ok nx_txt_30⟩,
  ⟨_, _, pOne_ok nx_txt_31⟩,
  ⟨_, _, pOne_ok nx_txt_32⟩,
  ⟨_, _, pOne_ok nx_txt_33⟩,
  ⟨_, _, pOne_ok nx_txt_34⟩,
  ⟨_, _, pOne_ok nx_txs_0⟩,
  ⟨_, _, pOne_ok nx_txs_1⟩,
  ⟨_, _, pOne_ok nx_txs_2⟩,
  ⟨_, _, pOne_ok nx_txs_3⟩,
  ⟨_, _, pOne_ok nx_txs_4⟩]
theorem sys_run : yields (callI code (primsOf (tabN ++ tabR)) (go code (primsOf (tabN ++ tabR)) 100000) true n_r02_System [.str txt] []) sysV = true := by kernel_rfl
theorem sys_ok : PF n_r02_System [.str txt] sysV := closed (tabN ++ tabR) 100000 (yields_sound sys_run)
end Go.Dw
end
