/-
  Contracts and lemmas for BoundsFinds: part e of 8.
-/
import Derived.Test.YtokdinonifchaaaGreatKfd
import Derived.Ground.NamesProg
import Derived.Shelf.Slices.In.SortAlone
import Derived.Shelf.Slices.In.SortNone
import Derived.Sort.EveryDepth
import Derived.Sort.Grow
import Derived.Test.YtokdinonifchaaaGreatKfc
import Derived.Sort.KeysCollected
import Derived.Shelf.Spec.SlicesInsert
import Derived.Lib.AppendZerosOnto
import Derived.ArgAppend
import Derived.Shelf.Spec.SlicesGrow
import Derived.Test.YtokdinonifchaaaGreatRows
import Derived.WalkKit
import Derived.ProofKit
import Derived.OpenShut
import Derived.JoinedCond
import Derived.ReadAgain
import Derived.Carry
set_option linter.unusedVariables false
set_option linter.unusedSimpArgs false
set_option maxRecDepth 100000
section
namespace Go.Dw
theorem ends_one {rs : List RV} {t : T} {H : List Ob} {Q : V → List Ob → Prop} {e : X} (k : Nat) {x : V} {o : Ob} (h : retV rs t H = some x) (hk : H[k]? = some o) (hq : Q (ren (pos? [k]) x) [renOb (pos? [k]) o])
    (he : e = .ret ∨ e = .fall := by first | exact .inl rfl | exact .inr rfl) : Ends 0 rs Q e t H := by
  refine ends_ex (B := 0) he [k] (by simp) (fun i hi => ?_) h ?_
  · simp only [List.mem_singleton] at hi; subst hi; exact (List.getElem?_eq_some_iff.1 hk).1
  · have : give (List.range 0 ++ [k]) H = [renOb (pos? [k]) o] := by
      simp only [List.range_zero, List.nil_append, give, List.map_cons, List.map_nil, List.getD_eq_getElem?_getD, hk, Option.getD_some]
    rw [this]; exact hq
theorem slices_Clone_int_s (p : List Int) (hp : p.length < 2 ^ 40) : Spec prog n_slices_Clone_s_int_int [encP p] [] fun x' H' => x' = ownL cI 0 1 p ∧ H' = [.arr t_int 1 p.length] := by
  refine spec_of_run mixed slices_Clone_s_int_int.ok rfl ?_
  push_cast
  intro c hc
  refine ⟨fun h => ?_, fun h => ⟨by rw [List.length_map]; unfold maxEls; omega, ?_⟩⟩
  · have hp0 : p = [] := by simpa using hc (by cases c <;> simp_all)
    subst hp0
    exact ends_one 1 rfl rfl ⟨rfl, rfl⟩
  · exact ends_one 1 rfl rfl ⟨rfl, by simp [renOb]⟩
section
variable {α : Type} {H l : List α} {n : Nat} (h : H.length = n)
include h
theorem get_off (k : Nat) : (H ++ l)[n + k]? = l[k]? := by rw [List.getElem?_append_right (by omega)]; congr 1; omega
theorem get_off0 : (H ++ l)[n]? = l[0]? := get_off h 0
theorem set_off (k : Nat) (x : α) : (H ++ l).set (n + k) x = H ++ l.set k x := by rw [List.set_append_right _ _ (by omega)]; congr 2; omega
theorem set_off0 (x : α) : (H ++ l).set n x = H ++ l.set 0 x := set_off h 0 x
theorem take_off : (H ++ l).take n = H := List.take_left' h
end
theorem shut_clip {n : Nat} {H : List Ob} (h : Shut n H) : H.map (renOb (clip n)) = H := h.2
theorem pos_range (n : Nat) : pos? (List.range n) = clip n := by
  funext i
  unfold pos? clip
  by_cases h : i < n
  · rw [if_pos h, List.findIdx?_eq_some_iff_getElem]
    refine ⟨by simpa using h, by simp, fun j hj => by simp; omega⟩
  · rw [if_neg h, List.findIdx?_eq_none_iff]
    intro x hx
    have := List.mem_range.1 hx
    simp; omega
theorem give_keep {n : Nat} {H J : List Ob} (h : Shut n H) : give (List.range n) (H ++ J) = H := by
  have h2 := h.2
  unfold give
  rw [pos_range]
  conv => rhs; rw [← h2]
  apply List.ext_getElem
  · simp [h.1]
  · intro i hi1 hi2
    have hi : i < H.length := by simpa [h.1] using hi1
    simp [List.getD_eq_getElem?_getD, List.getElem?_append_left hi, hi]
theorem takeB_keep {n : Nat} {H J H' : List Ob} (h : Shut n H) (h' : Shut n H') : takeB (List.range n) (H ++ J) H' = H' ++ J := by
  have hb : ∀ i, i < n → back (List.range n) (H ++ J).length i = some i := fun i hi => by simp [back, hi]
  unfold takeB
  rw [List.length_range, List.drop_of_length_le (by rw [h'.1]; exact Nat.le_refl _), List.map_nil, List.append_nil, shut_map h'.2 hb]
  unfold takeG
  rw [pos_range]
  apply List.ext_getElem
  · simp [h.1, h'.1]
  · intro i hi1 hi2
    simp only [List.getElem_map, List.getElem_range]
    unfold clip
    by_cases hi : i < n
    · have : i < H'.length := by rw [h'.1]; exact hi
      rw [if_pos hi, List.getElem_append_left this]
      simp [List.getD_eq_getElem?_getD, this]
    · rw [if_neg hi, List.getElem_append_right (by rw [h'.1]; omega)]
      have : H.length ≤ i := by rw [h.1]; omega
      simp only [List.getD_eq_getElem?_getD]
      rw [List.getElem?_append_right this]
      have h3 : i - H.length < J.length := by simp only [List.length_append, h'.1] at hi2; rw [h.1]; omega
      simp only [h.1, h'.1] at h3 ⊢
      simp [h3]
section
variable {N : Nat → C} {B : Nat} {s : List K} {t : T} {H : List Ob} {Q : X → T → List Ob → Prop}
theorem callG_keep {d : Option Nat} {l : List S} {F : Fn} {vs vs' : List V} {n : Nat} {J : List Ob} {R : V → List Ob → Prop} (h : Shut n H) (hvs : rens (clip n) vs = vs') (hs : SpecF prog F vs' H R) (hR : ∀ x H', R x H' → Shut n H')
    (k : ∀ x H', R x H' → Run prog N B (.r l :: s) (setO d (ren (back (List.range n) (H ++ J).length) x) t) (H' ++ J) Q) : CallG prog N B d l s t Q F vs (H ++ J) := by
  refine CallG.some (List.range n) List.nodup_range (fun i hi => by have := List.mem_range.1 hi; rw [List.length_append, h.1]; omega) (R := R) ?_ ?_
  · rw [give_keep h, pos_range, hvs]; exact hs
  · intro x H' hx _
    rw [takeB_keep h (hR x H' hx)]
    exact k x H' hx
end
theorem ends_keep {rs : List RV} {t : T} {n : Nat} {H J : List Ob} {Q : V → List Ob → Prop} {e : X} {x : V} (h : Shut n H) (hr : retV rs t (H ++ J) = some x) (hq : Q (ren (clip n) x) H)
    (he : e = .ret ∨ e = .fall := by first | exact .inl rfl | exact .inr rfl) : Ends n rs Q e t (H ++ J) := by
  refine ends_ex (B := n) he [] (by simp [List.nodup_range]) (fun i hi => by cases hi) hr ?_
  rw [List.append_nil, give_keep h, pos_range]; exact hq
mutual
def visit : Term → List Int → List (List Int × Term)
  | .mk n v l, p => (p, .mk n v l) :: visits l p 0
def visits : List Term → List Int → Nat → List (List Int × Term)
  | [], _, _ => []
  | a :: l, p, i => visit a (p ++ [(i : Int)]) ++ visits l p (i + 1)
end
theorem visit_eq (t : Term) (p : List Int) : visit t p = (p, t) :: visits t.args p 0 := by cases t; simp [visit, Term.args]
theorem visits_append (a b : List Term) (p : List Int) (i : Nat) : visits (a ++ b) p i = visits a p i ++ visits b p (i + a.length) := by
  induction a generalizing i with
  | nil => simp [visits]
  | cons x xs ih => simp only [List.cons_append, visits, ih, List.append_assoc, List.length_cons]; congr 3; omega
theorem visits_take_succ {l : List Term} {p : List Int} {k : Nat} (h : k < l.length) : visits (l.take (k + 1)) p 0 = visits (l.take k) p 0 ++ visit (l.getD k default) (p ++ [(k : Int)]) := by
  rw [take_succ_getD h, visits_append]
  have : (l.take k).length = k := by simp; omega
  simp [visits, this]
theorem visits_drop {l : List Term} {p : List Int} {k : Nat} (h : k < l.length) : visits l p 0 = visits (l.take k) p 0 ++ (visit (l.getD k default) (p ++ [(k : Int)]) ++ visits (l.drop (k + 1)) p (k + 1)) := by
  have h1 : l = l.take k ++ (l.getD k default :: l.drop (k + 1)) := by rw [← drop_getD h, List.take_append_drop]
  have : (l.take k).length = k := by simp; omega
  conv => lhs; rw [h1, visits_append]
  rw [visits, this, Nat.zero_add]
def encIt (x : List Int × Term) : List V := [encP x.1, encT x.2]
theorem at_app {α : Type} {l a b c : List α} {k : Nat} (h : l.drop k = a ++ (b ++ c)) : l.drop (k + a.length) = b ++ c := by
  rw [← List.drop_drop, h, List.drop_left]
theorem at_get {α : Type} {l b : List α} {a : α} {k : Nat} (h : l.drop k = a :: b) : l[k]? = some a := by
  have := List.getElem?_drop (xs := l) (i := k) (j := 0)
  rw [h] at this; simpa using this.symm
theorem term_walk_s {F : Fn} {G : Nat → List Ob → Prop} {S : List Ob → Prop} {n : Nat} {its : List (List Int × Term)} (hG : ∀ k H, G k H → Shut n H) (hS : ∀ H, S H → Shut n H)
    (hF : ∀ k it H, its[k]? = some it → G k H → SpecF prog F (encIt it) H fun x H' => x = .bool true ∧ G (k + 1) H' ∨ x = .bool false ∧ S H') (t : Term) :
    ∀ (p : List Int) (k : Nat) (rest : List (List Int × Term)), its.drop k = visit t p ++ rest → p.length + size t < 2 ^ 40 → ∀ H, G k H → Spec prog n_term_walk [encT t, encP p, .fn F [] []] H fun x H' => x = .bool true ∧ G (k + (visit t p).length) H' ∨ x = .bool false ∧ S H' := by
  induction t using term_ind with
  | h t ih =>
  intro p k rest hd hsz H hg
  have hH := hG _ _ hg
  have hl := length_le_sizes t.args
  have hst := size_args t
  rw [visit_eq, List.cons_append] at hd
  refine spec_of_run mixed term_walk.ok rfl ?_
  push_cast
  refine .all (hF k _ H (at_get hd) hg) ?_
  rintro x H1 (⟨rfl, hg1⟩ | ⟨rfl, hs1⟩)
  case inr =>
    push_cast
    refine ends_all (.inl rfl) rfl (.inr ⟨rfl, hs1⟩)
  case inl =>
    have hH1 := hG _ _ hg1
    have hkp : ∀ H1, Shut n H1 → (H1.take H.length).map (renOb (clip H.length)) = H1 := fun H1 h => by rw [hH.1, List.take_of_length_le (Nat.le_of_eq h.1), h.2]
    push_cast [hkp H1 hH1]
    have hd1 : its.drop (k + 1) = visits t.args p 0 ++ rest := by rw [← List.drop_drop, hd]; rfl
    refine loop_up (n := t.args.length) (R := fun j => ∀ H1, G (k + 1 + (visits (t.args.take j) p 0).length) H1 → term_walk.L3 (encP p) (.fn F [] []) (encTs t.args) (.int .i64 t.args.length) (.int .i64 j) H.length H1 _) ?_ ?_ 0 (by omega) H1 hg1
    · intro j hj ih2 H1 hg1
      have hm := getD_mem hj
      have hsm := size_mem hm
      have hH1 := hG _ _ hg1
      have hn : H.length = n := hH.1
      rw [hn]
      refine term_walk.G3 ?_
      push_cast [ilt hj, hH1.1, get_off0 hH1.1, get_off hH1.1, set_off hH1.1, set_off0 hH1.1, w64 (show j < 2 ^ 62 by omega)]
      have hp1 : (p ++ [(j : Int)]).length + size (t.args.getD j default) < 2 ^ 40 := by rw [List.length_append, List.length_singleton]; omega
      have hd2 : its.drop (k + 1 + (visits (t.args.take j) p 0).length) = visit (t.args.getD j default) (p ++ [(j : Int)]) ++ (visits (t.args.drop (j + 1)) p (j + 1) ++ rest) := by
        refine at_app ?_
        rw [hd1, visits_drop hj]; simp
      have hw : SpecF prog (.func n_term_walk) _ _ _ := specF_func ▸ ih _ hm _ _ _ hd2 hp1 H1 hg1
      rw [visits_take_succ hj, List.length_append] at ih2
      refine ⟨?_, ?_⟩ <;>
      · refine callG_new (slices_Clone_int_s p (by omega)) ?_
        push_cast [hH1.1, get_off0 hH1.1, get_off hH1.1, set_off hH1.1, set_off0 hH1.1]
        refine ⟨by unfold maxEls; omega, ?_⟩
        refine callG_keep hH1 (vs' := [encT (t.args.getD j default), encP (p ++ [(j : Int)]), .fn F [] []]) ?_ hw ?_ ?_
        · push_cast
          rw [if_neg (by omega)]
          simp [encL, cI]
        · rintro x H2 (⟨_, h⟩ | ⟨_, h⟩)
          · exact hG _ _ h
          · exact hS _ h
        · rintro x H2 (⟨rfl, h⟩ | ⟨rfl, h⟩)
          · have hH2 := hG _ _ h
            push_cast [w64 (show j < 2 ^ 62 by omega), take_off hH2.1, shut_clip hH2]
            have := ih2 H2 (by rw [← Nat.add_assoc]; exact h)
            rw [hn] at this
            exact this
          · have hH2 := hS _ h
            push_cast
            exact ends_keep hH2 rfl (.inr ⟨rfl, h⟩)
    · intro H1 hg1
      refine term_walk.G3 ?_
      push_cast [inlt (Nat.le_refl _)]
      refine ends_all (.inl rfl) rfl (.inl ⟨rfl, ?_⟩)
      rw [List.take_length] at hg1
      rw [visit_eq, List.length_cons, Nat.add_comm _ 1, ← Nat.add_assoc]
      exact hg1
theorem term_Walk_iter (t : Term) (hs : size t < 2 ^ 40) : IterSpec prog n_term_Walk_1 [] [.ro (cT t) 0] ((visit t []).map encIt) := by
  intro F G S n hG hS hF H hg
  have hH := hG _ _ hg
  refine spece_of_run mixed term_Walk_1.ok rfl ?_
  push_cast
  have hw := term_walk_s (F := F) (n := n) (its := visit t []) hG hS (fun k it H' hit => hF k (encIt it) H' (by rw [List.getElem?_map, hit]; rfl)) t [] 0 [] (by simp) (by simpa using hs) H hg
  have hw : SpecF prog (.func n_term_walk) _ _ _ := specF_func ▸ hw
  refine CallG.all hw ?_
  rintro x H1 (⟨rfl, h⟩ | ⟨rfl, h⟩)
  · push_cast
    exact ends_all (.inr rfl) rfl (.inl (by rw [Nat.zero_add] at h; rw [List.length_map]; exact h))
  · push_cast
    exact ends_all (.inr rfl) rfl (.inr h)
theorem term_Walk_s (t : Term) : PF n_term_Walk [encT t] (.fn (.func n_term_Walk_1) [] [.ro (cT t) 0]) := by
  refine pf_of term_Walk.ok rfl ?_
  push_cast
  exact pf_ret (by push_cast [term_Walk.rs])
end Go.Dw
end
section
namespace Go.Proofs
open Go.RowKit Go.Shelf Go.Sort
def Tryz.laysSort_ren : Go.Shelf.Ren := ⟨fun | 190 => 120 | 125 => 176 | 258 => 175 | 128 => 217 | 129 => 218 | 302 => 208 | 303 => 209 | 304 => 210 | 305 => 211 | 306 => 212 | 307 => 213 | 308 => 214 | 309 => 215 | 310 => 216 | 333 => 239 | 329 => 240 | 330 => 241 | 334 => 242 | 335 => 243 | 336 => 205 | 344 => 251 | n => n, fun | 31 => 63 | 9 => 9 | 3 => 3 | 46 => 232 | 0 => 0 | 51 => 263 | 53 => 51 | 4 => 4 | 183 => 257 | 182 => 256 | 131 => 179 | 5 => 5 | 218 => 277 | 222 => 281 | 228 => 287 | 229 => 135 | n => n, fun | n => n⟩
theorem Tryz.laysSort : Go.Proofs.Lays.n190 Tryz.prog Tryz.laysSort_ren := {
  mixed := by kernel_rfl
  f125 := Tryz.func176.trans (congrArg some (by kernel_rfl))
  f128 := Tryz.func217.trans (congrArg some (by kernel_rfl))
  f129 := Tryz.func218.trans (congrArg some (by kernel_rfl))
  f190 := Tryz.func120.trans (congrArg some (by kernel_rfl))
  f258 := Tryz.func175.trans (congrArg some (by kernel_rfl))
  f302 := Tryz.func208.trans (congrArg some (by kernel_rfl))
  f303 := Tryz.func209.trans (congrArg some (by kernel_rfl))
  f304 := Tryz.func210.trans (congrArg some (by kernel_rfl))
  f305 := Tryz.func211.trans (congrArg some (by kernel_rfl))
  f306 := Tryz.func212.trans (congrArg some (by kernel_rfl))
  f307 := Tryz.func213.trans (congrArg some (by kernel_rfl))
  f308 := Tryz.func214.trans (congrArg some (by kernel_rfl))
  f309 := Tryz.func215.trans (congrArg some (by kernel_rfl))
  f310 := Tryz.func216.trans (congrArg some (by kernel_rfl))
  f329 := Tryz.func240.trans (congrArg some (by kernel_rfl))
  f330 := Tryz.func241.trans (congrArg some (by kernel_rfl))
  f333 := Tryz.func239.trans (congrArg some (by kernel_rfl))
  f334 := Tryz.func242.trans (congrArg some (by kernel_rfl))
  f335 := Tryz.func243.trans (congrArg some (by kernel_rfl))
  f336 := Tryz.func205.trans (congrArg some (by kernel_rfl))
  f344 := Tryz.func251.trans (congrArg some (by kernel_rfl))
  t0 := Tryz.underlying0
  a0 := Tryz.isAgg0
  z0 := Tryz.sizeOf0
  v0 := Tryz.zeroValue0
  t3 := Tryz.underlying3
  a3 := Tryz.isAgg3
  z3 := Tryz.sizeOf3
  v3 := Tryz.zeroValue3
  t4 := Tryz.underlying4
  a4 := Tryz.isAgg4
  z4 := Tryz.sizeOf4
  v4 := Tryz.zeroValue4
  t5 := Tryz.underlying5
  a5 := Tryz.isAgg5
  z5 := Tryz.sizeOf5
  v5 := Tryz.zeroValue5
  t9 := Tryz.underlying9
  a9 := Tryz.isAgg9
  z9 := Tryz.sizeOf9
  v9 := Tryz.zeroValue9
  t31 := Tryz.underlying63
  a31 := Tryz.isAgg63
  z31 := Tryz.sizeOf63
  v31 := Tryz.zeroValue63
  t46 := Tryz.underlying232
  a46 := Tryz.isAgg232
  z46 := Tryz.sizeOf232
  v46 := Tryz.zeroValue232
  t51 := Tryz.underlying263
  a51 := Tryz.isAgg263
  z51 := Tryz.sizeOf263
  v51 := Tryz.zeroValue263
  t53 := Tryz.underlying51
  a53 := Tryz.isAgg51
  z53 := Tryz.sizeOf51
  v53 := Tryz.zeroValue51
  t131 := Tryz.underlying179
  a131 := Tryz.isAgg179
  z131 := Tryz.sizeOf179
  v131 := Tryz.zeroValue179
  t182 := Tryz.underlying256
  a182 := Tryz.isAgg256
  z182 := Tryz.sizeOf256
  v182 := Tryz.zeroValue256
  t183 := Tryz.underlying257
  a183 := Tryz.isAgg257
  z183 := Tryz.sizeOf257
  v183 := Tryz.zeroValue257
  t218 := Tryz.underlying277
  a218 := Tryz.isAgg277
  z218 := Tryz.sizeOf277
  v218 := Tryz.zeroValue277
  t222 := Tryz.underlying281
  a222 := Tryz.isAgg281
  z222 := Tryz.sizeOf281
  v222 := Tryz.zeroValue281
  t228 := Tryz.underlying287
  a228 := Tryz.isAgg287
  z228 := Tryz.sizeOf287
  v228 := Tryz.zeroValue287
  t229 := Tryz.underlying135
  a229 := Tryz.isAgg135
  z229 := Tryz.sizeOf135
  v229 := Tryz.zeroValue135 }
theorem Tryz.sort_num : Tryz.laysSort_ren.f 190 = Go.Dw.n_slices_Sort_s_string_string := by kernel_rfl
theorem Tryz.sort_in (args : Array Value) (w : World) : (callFunc Go.Dw.n_slices_Sort_s_string_string args).run Tryz.prog w = .ok (.enter Go.Dw.n_slices_Sort_s_string_string args) w := by
  have := enters_of (P := Tryz.prog) Tryz.laysSort.f190 (by kernel_rfl) rfl args w
  rw [Tryz.sort_num] at this
  exact this
abbrev sortS (l : List (List UInt8)) : List (List UInt8) := l.mergeSort fun x y => decide (x ≤ y)
theorem Tryz.sort_c (blk off cap : Nat) (zs : List (List UInt8)) (w : World) (hH : Holds encStr w blk off zs.toArray) (hblk : blk < w.heap.size) (hsz : zs.length < 4611686018427387904) :
    Calls Tryz.prog Go.Dw.n_slices_Sort_s_string_string #[.slice (some ⟨blk, off, none⟩) zs.length cap] w fun e w' =>
      e = .returned (.tuple #[]) ∧ ∃ n os, w' = grow (putRow encStr (Sort.ahead w n) blk off (sortS zs).toArray) os := by
  have := calls_of_every_depth fun D => AnyS.slices_Sort_string_alone Tryz.laysSort D blk off cap zs w hH hblk hsz
  rw [Tryz.sort_num] at this
  exact this
theorem Tryz.sort_n (cap : Nat) (w : World) : Calls Tryz.prog Go.Dw.n_slices_Sort_s_string_string #[.slice none 0 cap] w fun e w' => e = .returned (.tuple #[]) ∧ w' = w := by
  have := calls_of_every_depth fun D => AnyS.slices_Sort_string_none_alone Tryz.laysSort D none cap w
  rw [Tryz.sort_num] at this
  exact this
end Go.Proofs
namespace Go.Dw
open Go.Proofs Go.Sort
theorem sort_row (l : List (List UInt8)) : Spec prog n_slices_Sort_s_string_string [.rw 0 1 l.length] [.row t_string 1 (l.map fun s => [V.str s])] fun x H' => x = .tup [] ∧ H' = [.row t_string 1 ((sortS l).map fun s => [V.str s])] := by
  intro c vs hH hc hr
  obtain ⟨v, vs', rfl, h1, h2⟩ := hr
  have h2 : vs' = [] := h2
  subst h2
  left
  have h0 : c.H[0]? = some (.row t_string 1 (l.map fun s => [V.str s])) := by rw [hH]; rfl
  obtain ⟨q1, q2⟩ := hc.obj 0 _ h0
  obtain ⟨p1, ⟨a, k, p2, p3, p4⟩, p5⟩ := h1
  have hcur := (p5 _ _ _ h0).2.2 (by simp)
  have hperm : (sortS l).length = l.length := (List.mergeSort_perm l _).length_eq
  refine ⟨Tryz.sort_in _ _, ?_⟩
  cases hρ : c.ρ 0 with
  | none =>
    have hl : l = [] := by simpa using q1 hρ
    subst hl
    rw [hρ] at hcur
    have hcur : v = .slice none 0 0 := hcur
    subst hcur
    refine (Tryz.sort_n 0 c.w).mono ?_
    rintro e w' ⟨rfl, rfl⟩
    exact ⟨_, .tup [], c, rfl, rfl, ⟨rfl, by rw [hH]; simp⟩, hc, ⟨#[], rfl, rfl⟩, .refl c⟩
  | some bk =>
    obtain ⟨b, m⟩ := bk
    rw [hρ] at hcur
    have hcur : v = .slice (some ⟨b, 0, none⟩) l.length m := hcur
    subst hcur
    obtain ⟨vs, r1, r2, r3, r4, r5, r6⟩ := q2 b m hρ
    have hblt : b < c.w.heap.size := (Array.getElem?_eq_some_iff.1 r1).1
    have hcell : ∀ j (s : List UInt8), l[j]? = some s → vs[j]? = some (encStr s) := fun j s hj => by
      obtain ⟨_, hx⟩ := r6 j [V.str s] (by rw [List.getElem?_map, hj]; rfl)
      obtain ⟨v, e1, _, e3⟩ := hx 0 _ rfl
      have e3 : v = .string ⟨⟨s⟩⟩ := e3
      rw [Nat.mul_one, Nat.add_zero] at e1
      rw [e1, e3]
    have hHolds : Holds encStr c.w b 0 l.toArray := fun j hj => by
      have hj : j < l.length := by simpa using hj
      have hg : l[j]? = some l[j] := by simp [hj]
      have := hcell j _ hg
      have hgd : l.toArray[j]! = l[j] := by simp [hj]
      refine ⟨?_, ?_⟩
      · simp only [World.cell?, r1, Nat.zero_add, hgd]
        exact this
      · simp [World.frozen?, r1]
    refine (Tryz.sort_c b 0 m l c.w hHolds hblt (by unfold maxEls at p3; omega)).mono ?_
    rintro e w' ⟨rfl, n, os, rfl⟩
    generalize hso : sortS l = so at hperm
    generalize hw' : grow (putRow encStr (Sort.ahead c.w n) b 0 so.toArray) os = w'
    have hsz : w'.heap.size = c.w.heap.size + os.size := by subst hw'; simp [grow, putRow, mapBlock, Sort.ahead]
    have hoth : ∀ b', b' < c.w.heap.size → b' ≠ b → w'.heap[b']? = c.w.heap[b']? := fun b' h1 h2 => by
      subst hw'
      simp only [grow, putRow, mapBlock, Sort.ahead]
      rw [Array.getElem?_append_left (by simpa using h1), Array.getElem?_modify, if_neg (Ne.symm h2)]
    have hsame : w'.heap[b]? = some (.cells (putCells encStr 0 so.toArray vs) t_string (0, 0)) := by
      subst hw'
      simp only [grow, putRow, mapBlock, Sort.ahead]
      rw [Array.getElem?_append_left (by simpa using hblt), Array.getElem?_modify, if_pos rfl, r1]
      rfl
    have howns : ∀ b', c.owns b' ↔ b' = b := fun b' => by
      constructor
      · rintro ⟨i, k', h1, h2⟩
        have : i = 0 := by rw [hH] at h1; simpa using h1
        subst this
        rw [hρ] at h2; cases h2; rfl
      · rintro rfl; exact ⟨0, m, p1, hρ⟩
    refine ⟨_, .tup [], ⟨w', c.ok, c.ρ, [.row t_string 1 (so.map fun s => [V.str s])]⟩, rfl, rfl, ⟨rfl, rfl⟩, ?_, ⟨#[], rfl, rfl⟩, ?_⟩
    · refine ⟨fun i j b1 k1 k2 h1 h2 _ _ => ?_, fun b' o h => ?_, fun i o hi => ?_⟩
      · simp only [List.length_singleton] at h1 h2; omega
      · have := hc.okLt _ _ h; show b' < w'.heap.size; omega
      · cases i with
        | succ i => simp at hi
        | zero =>
          simp only [List.getElem?_cons_zero, Option.some.injEq] at hi
          subst hi
          refine ⟨fun h => ?_, fun b' k' h => ?_⟩
          · have h : c.ρ 0 = none := h
            rw [hρ] at h; cases h
          · have h : c.ρ 0 = some (b', k') := h
            rw [hρ] at h; cases h
            refine ⟨putCells encStr 0 so.toArray vs, hsame, by simpa [putCells] using r2, by simpa [hperm] using r3, r4, r5, fun i el hi => ?_⟩
            rw [List.getElem?_map] at hi
            cases hs : so[i]? with
            | none => rw [hs] at hi; cases hi
            | some s =>
              rw [hs] at hi; cases hi
              refine ⟨rfl, fun j x hx => ?_⟩
              cases j with
              | succ j => simp at hx
              | zero =>
                simp only [List.getElem?_cons_zero, Option.some.injEq] at hx
                subst hx
                have hil : i < so.length := (List.getElem?_eq_some_iff.1 hs).1
                have hsi : so[i] = s := (List.getElem?_eq_some_iff.1 hs).2
                have hiv : i < vs.size := by rw [List.length_map] at r3; omega
                refine ⟨encStr s, ?_, rfl, rfl⟩
                rw [Nat.mul_one, Nat.add_zero]
                simp only [putCells, Array.getElem?_mapIdx, Array.getElem?_eq_getElem hiv, Option.map_some]
                rw [if_pos (by simpa using hil)]
                simp [hil, hsi]
    · refine ⟨fun _ _ h => h, fun b' o h => ?_, by show c.w.heap.size ≤ w'.heap.size; omega, fun _ _ h => .inl h, fun b' hb hno => hoth b' hb (fun e => hno ((howns b').2 e)), fun b' hb => .inl ?_, fun j o hj => ?_, ?_, ?_, ?_, ?_⟩
      · have hne : b' ≠ b := fun e => r5 o (e ▸ h)
        simp only [World.cell?]
        rw [hoth b' (hc.okLt _ _ h) hne]
      · obtain ⟨i, k', h1, h2⟩ := hb
        exact ⟨i, k', by rw [hH]; exact h1, h2⟩
      · rw [hH] at hj
        cases j with
        | succ j => simp at hj
        | zero =>
          simp only [List.getElem?_cons_zero, Option.some.injEq] at hj
          subst hj
          exact ⟨_, rfl, rfl, rfl, by simp [hperm], fun _ => rfl⟩
      · subst hw'; rfl
      · subst hw'; rfl
      · subst hw'; rfl
      · subst hw'; exact Nat.le_add_right _ _
end Go.Dw
end
section
namespace Go.Dw
open Go.Proofs (sortS)
theorem rens_strs {σ : Nat → Option Nat} {l : List Str} : (l.map fun s => [V.str s]).map (rens σ) = l.map fun s => [V.str s] := by rw [List.map_map]; rfl
attribute [push_cast] rens_strs
theorem take_2 (a b c d o : Ob) : takeB [2] [a, b, c, d] [o] = [a, b, renOb (back [2] 4) o, d] := rfl
theorem give_2 (a b c d : Ob) : give [2] [a, b, c, d] = [renOb (pos? [2]) c] := rfl
def addS (ks : List Str) (n : Str) : List Str := if n ∈ ks then ks else ks ++ [n]
def encKs (ks : List Str) : List (V × V) := ks.map fun k => (.str k, .bool true)
theorem ren_encKs {σ : Nat → Option Nat} {ks : List Str} : ((encKs ks).map fun p => (ren σ p.1, ren σ p.2)) = encKs ks := by
  unfold encKs; rw [List.map_map]; rfl
attribute [push_cast] ren_encKs
theorem findM_encKs (n : Str) : ∀ (ks : List Str) (i : Nat), findM (.str n) (encKs ks) i = some (if n ∈ ks then some (i + ks.idxOf n, .bool true) else none)
  | [], i => by simp [findM, encKs]
  | k :: ks, i => by
    have ih := findM_encKs n ks (i + 1)
    unfold encKs at ih ⊢
    by_cases h : k = n
    · subst h; simp [findM, sameK]
    · have h' : n ≠ k := fun e => h e.symm
      have e : sameK (.str n) (.str k) = some false := by simp [sameK, h']
      have hb : (k == n) = false := by simp [h]
      simp only [List.map_cons, findM, e, ih, List.mem_cons, h', false_or, List.idxOf_cons, hb, cond_false]
      split
      · congr 3; omega
      · rfl
theorem updM_encKs (n : Str) (ks : List Str) : updM (.str n) (.bool true) (encKs ks) = some (encKs (addS ks n)) := by
  unfold updM
  rw [findM_encKs]
  unfold addS
  by_cases h : n ∈ ks
  · simp only [h, if_true]
    congr 1
    unfold encKs
    apply List.ext_getElem (by simp)
    intro i h1 h2
    rw [List.getElem_set]
    split
    · rename_i e
      subst e
      simp [List.getElem_idxOf]
    · rfl
  · simp only [h, if_false]
    simp [encKs]
def varsIn (l : List (List Int × Term)) : List Str := (l.filter fun x => x.2.var).map fun x => x.2.name
def vset (ks : List Str) (l : List (List Int × Term)) : List Str := (varsIn l).foldl addS ks
def vsetT (ks : List Str) (l : List Term) : List Str := l.foldl (fun ks t => vset ks (visit t [])) ks
def varsOf (l : List Term) : List Str := sortS (vsetT [] l)
mutual
theorem visit_len : ∀ (t : Term) (p : List Int), (visit t p).length = size t
  | .mk n v l, p => by simp only [visit, size, List.length_cons, visits_len l p 0]; omega
theorem visits_len : ∀ (l : List Term) (p : List Int) (i : Nat), (visits l p i).length = sizes l
  | [], p, i => rfl
  | a :: l, p, i => by simp only [visits, sizes, List.length_append, visit_len a, visits_len l]
end
theorem addS_len (ks : List Str) (n : Str) : (addS ks n).length ≤ ks.length + 1 := by unfold addS; split <;> simp
theorem foldl_addS_len : ∀ (l : List Str) (ks : List Str), (l.foldl addS ks).length ≤ ks.length + l.length
  | [], ks => by simp
  | n :: l, ks => by have := foldl_addS_len l (addS ks n); have := addS_len ks n; simp only [List.foldl_cons, List.length_cons]; omega
theorem vset_len (ks : List Str) (l : List (List Int × Term)) : (vset ks l).length ≤ ks.length + l.length := by
  have h1 := foldl_addS_len (varsIn l) ks
  have h2 : (varsIn l).length ≤ l.length := by unfold varsIn; rw [List.length_map]; exact List.length_filter_le _ _
  unfold vset; omega
theorem vsetT_len : ∀ (l : List Term) (ks : List Str), (vsetT ks l).length ≤ ks.length + sizes l
  | [], ks => by simp [vsetT, sizes]
  | t :: l, ks => by
    have h1 := vsetT_len l (vset ks (visit t []))
    have h2 := vset_len ks (visit t [])
    rw [visit_len] at h2
    simp only [vsetT, List.foldl_cons, sizes] at h1 ⊢; omega
theorem term_VarsOf_s (l : List Term) (hs : sizes l < 2 ^ 40) : PF n_term_VarsOf [encTs l] (encSs (varsOf l)) := by
  have hl := length_le_sizes l
  refine pf_of term_VarsOf.ok rfl ?_
  push_cast
  refine loop_up (n := l.length) (R := fun k => term_VarsOf.L8 (.ptr 1 0) .any (encTs l) (.int .i64 l.length) (.int .i64 k) 0 [.map (encKs (vsetT [] (l.take k))), .cells t_m_string_bool [.map 0]] _) ?_ ?_ 0 (by omega)
  · intro k hk ih
    have hm := getD_mem hk
    have hsm := size_mem hm
    refine term_VarsOf.G8 ?_
    push_cast [ilt hk]
    refine .of (term_Walk_s _) ?_
    push_cast
    have hks : vsetT [] (l.take (k + 1)) = vset (vsetT [] (l.take k)) (visit (l.getD k default) []) := by rw [take_succ_getD hk]; simp [vsetT]
    rw [hks] at ih
    generalize vsetT [] (l.take k) = ks at ih ⊢
    generalize l.getD k default = u at ih hsm ⊢
    refine Run.rf n_term_Walk_1 [] [.ro (cT u) 0] ((visit u []).map encIt) (fun j H1 => H1 = [.map (encKs (vset ks ((visit u []).take j))), .cells t_m_string_bool [.map 0], .dead]) (fun _ _ => False) rfl (term_Walk_iter u (by omega)) ?_ (by simp [vset, varsIn]) ?_ ?_ (fun _ _ h => h.elim) ?_ ?_ (fun _ _ h => h.elim)
    · intro it hit
      obtain ⟨x, _, rfl⟩ := List.mem_map.1 hit
      rfl
    · push_cast
    · rintro j H1 rfl
      refine ⟨rfl, ?_⟩
      push_cast
    · rintro lo r j it H1 hit rfl
      rw [List.getElem?_map] at hit
      cases hx : (visit u [])[j]? with
      | none => rw [hx] at hit; cases hit
      | some x =>
      rw [hx] at hit
      have hit : it = encIt x := by simpa using hit.symm
      subst hit
      have hj : j < (visit u []).length := (List.getElem?_eq_some_iff.1 hx).1
      have hxj : (visit u [])[j] = x := (List.getElem?_eq_some_iff.1 hx).2
      have htk : (visit u []).take (j + 1) = (visit u []).take j ++ [x] := by rw [List.take_succ_eq_append_getElem hj, hxj]
      push_cast [setPs, encIt]
      refine run_m.2 ?_
      cases hv : x.2.var with
      | false =>
        have hvs : vset ks ((visit u []).take (j + 1)) = vset ks ((visit u []).take j) := by rw [htk]; simp [vset, varsIn, hv]
        push_cast [hv]
        refine ⟨rfl, ?_⟩
        push_cast [cut, hvs]
      | true =>
        have hvs : vset ks ((visit u []).take (j + 1)) = addS (vset ks ((visit u []).take j)) x.2.name := by rw [htk]; simp [vset, varsIn, hv]
        push_cast [hv, updM_encKs, ksB]
        refine ⟨rfl, ?_⟩
        push_cast [cut, hvs]
    · rintro H1 rfl
      push_cast [w64 (show k < 2 ^ 62 by omega)]
      have : (visit u []).take ((visit u []).map encIt).length = visit u [] := by rw [List.length_map, List.take_length]
      rw [this]
      exact ih
  · refine term_VarsOf.G8 ?_
    push_cast [inlt (Nat.le_refl _)]
    unfold varsOf
    rw [List.take_length]
    have hkl := vsetT_len l []
    generalize vsetT [] l = ks at hkl ⊢
    simp only [List.length_nil, Nat.zero_add] at hkl
    have hlen : (encKs ks).length = ks.length := by unfold encKs; rw [List.length_map]
    rw [hlen]
    have fin : ∀ (seen : List Nat), seen.Nodup → (∀ i ∈ seen, i < ks.length) → (∀ k, k < ks.length → k ∈ seen) → sortS (seen.map fun i => ks.getD i []) = sortS ks := fun seen h1 h2 h3 => by
      refine Go.mergeSort_of_perm ?_
      have hp : seen.Perm (List.range ks.length) := (List.perm_ext_iff_of_nodup h1 List.nodup_range).2 fun i => by rw [List.mem_range]; exact ⟨h2 i, h3 i⟩
      have he : (List.range ks.length).map (fun i => ks.getD i []) = ks := by
        apply List.ext_getElem (by simp)
        intro i a b
        have hi : i < ks.length := by simpa using b
        simp [List.getD_eq_getElem?_getD, hi]
      have := hp.map fun i => ks.getD i []
      rw [he] at this
      exact this
    have key : ∀ (m : Nat) (seen : List Nat), ks.length - seen.length ≤ m → seen.Nodup → (∀ i ∈ seen, i < ks.length) → term_VarsOf.L3 (.rw 2 1 seen.length) (.it 3) 0
        [.map (encKs ks), .cells t_m_string_bool [.map 0], .row t_string 1 ((seen.map fun i => ks.getD i []).map fun s => [V.str s]), .iter (some 0) ks.length seen]
        (Ends 0 term_VarsOf.rs fun x' H' => x' = encSs (sortS ks) ∧ H' = []) := by
      intro m
      induction m with
      | zero =>
        intro seen hm hnd hlt
        refine term_VarsOf.G3 ?_
        push_cast
        refine nxP_of 0 ks.length seen (encKs ks) rfl rfl hlen.symm (fun hall => ?_) (fun k p hp hk => ?_)
        · have hsl : (seen.map fun i => ks.getD i []).length = seen.length := by simp
          have hc := sort_row (seen.map fun i => ks.getD i [])
          have hso : (sortS (seen.map fun i => ks.getD i [])).length = seen.length := by rw [(List.mergeSort_perm _ _).length_eq, hsl]
          rw [hsl, fin seen hnd hlt hall] at hc
          rw [fin seen hnd hlt hall] at hso
          push_cast
          refine CallG.some [2] (by simp) (by simp) (R := fun x H' => x = .tup [] ∧ H' = [.row t_string 1 ((sortS ks).map fun s => [V.str s])]) (by rw [give_2, renOb_row, rens_strs]; exact hc) ?_
          rintro x H' ⟨rfl, rfl⟩ _
          rw [take_2]
          push_cast
          refine ⟨by rw [List.length_map]; exact hso, pf_ret ?_⟩
          push_cast [term_VarsOf.rs]
          rfl
        · have : (seen ++ [k]).length ≤ (List.range ks.length).length := List.Nodup.length_le_of_subset (by simp [List.nodup_append, hnd]; intro a ha e; exact hk (e ▸ ha)) (by
            intro i hi
            rw [List.mem_range]
            rcases List.mem_append.1 hi with h | h
            · exact hlt i h
            · simp only [List.mem_singleton] at h; subst h; rw [← hlen]; exact (List.getElem?_eq_some_iff.1 hp).1)
          simp at this; omega
      | succ m ih =>
        intro seen hm hnd hlt
        refine term_VarsOf.G3 ?_
        push_cast
        refine nxP_of 0 ks.length seen (encKs ks) rfl rfl hlen.symm (fun hall => ?_) (fun k p hp hk => ?_)
        · have hsl : (seen.map fun i => ks.getD i []).length = seen.length := by simp
          have hc := sort_row (seen.map fun i => ks.getD i [])
          have hso : (sortS (seen.map fun i => ks.getD i [])).length = seen.length := by rw [(List.mergeSort_perm _ _).length_eq, hsl]
          rw [hsl, fin seen hnd hlt hall] at hc
          rw [fin seen hnd hlt hall] at hso
          push_cast
          refine CallG.some [2] (by simp) (by simp) (R := fun x H' => x = .tup [] ∧ H' = [.row t_string 1 ((sortS ks).map fun s => [V.str s])]) (by rw [give_2, renOb_row, rens_strs]; exact hc) ?_
          rintro x H' ⟨rfl, rfl⟩ _
          rw [take_2]
          push_cast
          refine ⟨by rw [List.length_map]; exact hso, pf_ret ?_⟩
          push_cast [term_VarsOf.rs]
          rfl
        · have hkl : k < ks.length := by rw [← hlen]; exact (List.getElem?_eq_some_iff.1 hp).1
          have hpe : p = (.str (ks.getD k []), .bool true) := by
            unfold encKs at hp
            rw [List.getElem?_map] at hp
            simp [hkl] at hp
            rw [← hp]; simp [List.getD_eq_getElem?_getD, hkl]
          have hen : ∀ a b, enV [.map (encKs ks), a, b, .iter (some 0) ks.length (seen ++ [k])] (.it 3) = some (.tup [p.1, p.2]) := fun a b => by
            simp [enV, hlen, hp]
          subst hpe
          push_cast [hen]
          refine ⟨?_, ?_⟩
          · have : (seen.map fun i => ks.getD i []).length = seen.length := by simp
            have h2 : seen.length ≤ ks.length := by simpa using List.Nodup.length_le_of_subset hnd (l₂ := List.range ks.length) fun i hi => List.mem_range.2 (hlt i hi)
            exact ⟨by simp, room (n := seen.length) (b := 16) (by omega) (by omega)⟩
          · have hnd2 : (seen ++ [k]).Nodup := by simp [List.nodup_append, hnd]; intro a ha e; exact hk (e ▸ ha)
            have hlt2 : ∀ i ∈ seen ++ [k], i < ks.length := fun i hi => by
              rcases List.mem_append.1 hi with h | h
              · exact hlt i h
              · simp only [List.mem_singleton] at h; subst h; exact hkl
            have := ih (seen ++ [k]) (by simp; omega) hnd2 hlt2
            simp only [List.map_append, List.map_cons, List.map_nil, List.length_append, List.length_singleton] at this
            rw [List.map_append, rens_strs]
            exact this
    exact key ks.length [] (by simp) List.nodup_nil (by simp)
end Go.Dw
end
section
namespace Go.Dw
open Go.Proofs (sortS)
def rbs : List ARule → Nat
  | [] => 0
  | x :: r => 1 + tb x.left + tb x.right + rbs r
theorem rbs_mem {r : List ARule} {x : ARule} (h : x ∈ r) : 1 + tb x.left + tb x.right ≤ rbs r := by
  induction r with
  | nil => cases h
  | cons y ys ih => rcases List.mem_cons.1 h with rfl | h <;> simp [rbs]; have := ih h; omega
theorem length_le_rbs (r : List ARule) : r.length ≤ rbs r := by
  induction r with
  | nil => simp
  | cons x xs ih => simp only [rbs, List.length_cons]; omega
section
variable (r : ARule)
theorem cR_0 : (cR r)[0]? = some (.str r.left.name) := rfl
theorem cR_1 : (cR r)[1]? = some (.bool r.left.var) := rfl
theorem cR_2 : (cR r)[2]? = some (encTs r.left.args) := by show some (V.sl 3 (argC r.left)) = _; rw [argC_eq]; rfl
theorem cR_3 : (cR r)[3]? = some (.str r.right.name) := rfl
theorem cR_4 : (cR r)[4]? = some (.bool r.right.var) := rfl
theorem cR_5 : (cR r)[5]? = some (encTs r.right.args) := by show some (V.sl 3 (argC r.right)) = _; rw [argC_eq]; rfl
end
attribute [push_cast] cR_0 cR_1 cR_2 cR_3 cR_4 cR_5
def checkPairs : List ARule → Int
  | [] => 0
  | x :: r => if checks [x.left, x.right] ≠ 0 then checks [x.left, x.right] else checkPairs r
def checkRules (r : List ARule) : Int := if 64 < r.length then 3 else checkPairs r
theorem encTs_two (a b : Term) : (.sl 3 [cT a, cT b] : V) = encTs [a, b] := rfl
theorem term_CheckRules_s (r : List ARule) (hs : rbs r < 2 ^ 61) : PF n_term_CheckRules [encRs r] (.int .i64 (checkRules r)) := by
  have hl := length_le_rbs r
  refine pf_of term_CheckRules.ok rfl ?_
  by_cases h64 : 64 < r.length
  · have hi : ((64 : Int) < (r.length : Int)) = True := eq_true (by omega)
    push_cast [hi]
    refine pf_ret ?_
    push_cast [term_CheckRules.rs, checkRules, h64]
  · have hi : ((64 : Int) < (r.length : Int)) = False := eq_false (by omega)
    push_cast [hi, checkRules, h64]
    refine loop_up (n := r.length) (R := fun k => checkPairs (r.drop k) = checkPairs r → term_CheckRules.L3 (encRs r) (.int .i64 r.length) (.int .i64 k) 0 [] _) ?_ ?_ 0 (by omega) rfl
    · intro k hk ih hq
      have hm := rbs_mem (getD_mem hk)
      refine term_CheckRules.G3 ?_
      rw [drop_getD hk] at hq
      simp only [checkPairs] at hq
      generalize hx : r.getD k default = x at hm hq
      have hA := term_All_s [x.left, x.right] (by simp) (by simp; omega)
      push_cast [ilt hk, hx]
      refine .of hA ?_
      push_cast [w64 (show k < 2 ^ 62 by omega)]
      refine ⟨fun h => pf_ret ?_, fun h => ih ?_⟩
      · push_cast [term_CheckRules.rs]
        rw [← hq, if_pos h]
      · rw [← hq, if_neg h]
    · intro hq
      refine term_CheckRules.G3 ?_
      push_cast [inlt (Nat.le_refl _)]
      refine pf_ret ?_
      push_cast [term_CheckRules.rs]
      rw [← hq, drop_map_none]; rfl
theorem slices_Index_str_s (l : List Str) (v : Str) (hl : l.length < 2 ^ 62) : PF n_slices_Index_s_string_string [encSs l, .str v] (.int .i64 (idxI (fun x => decide (v = x)) l)) := by
  refine pf_of slices_Index_s_string_string.ok rfl ?_
  push_cast
  refine loop_up (n := l.length) (R := fun k => (∀ j, j < k → decide (v = l.getD j default) = false) → slices_Index_s_string_string.L3 (encSs l) (.str v) (.int .i64 l.length) (.int .i64 k) 0 [] _) ?_ ?_ 0 (by omega) (by intro j hj; omega)
  · intro k hk ih hq
    refine slices_Index_s_string_string.G3 ?_
    push_cast [ilt hk, w64 (show k < 2 ^ 62 by omega)]
    refine ⟨fun hp => pf_ret ?_, fun hp => ?_⟩
    · push_cast [slices_Index_s_string_string.rs]
      rw [idxI_some hk (by simpa using hp) hq]
    · refine ih fun j hj => ?_
      rcases Nat.lt_succ_iff_lt_or_eq.1 hj with h | rfl
      · exact hq j h
      · simpa using hp
  · intro hq
    refine slices_Index_s_string_string.G3 ?_
    push_cast [inlt (Nat.le_refl _)]
    refine pf_ret ?_
    push_cast [slices_Index_s_string_string.rs]
    rw [idxI_none hq]
theorem slices_Contains_str_s (l : List Str) (v : Str) (hl : l.length < 2 ^ 62) : PF n_slices_Contains_s_string_string [encSs l, .str v] (.bool (decide (v ∈ l))) := by
  refine pf_of slices_Contains_s_string_string.ok rfl ?_
  push_cast
  refine .of (slices_Index_str_s l v hl) ?_
  push_cast
  refine pf_ret ?_
  push_cast [slices_Contains_s_string_string.rs, idxI_any]
  rw [Bool.eq_iff_iff]; simp
def extra (x : ARule) : Bool := x.left.var || (varsOf [x.right]).any fun v => !decide (v ∈ varsOf [x.left])
theorem varsOf_len (l : List Term) : (varsOf l).length ≤ sizes l := by
  have := vsetT_len l []
  unfold varsOf; rw [(List.mergeSort_perm _ _).length_eq]; simpa using this
theorem term_extra_s (x : ARule) (hs : tb x.left + tb x.right < 2 ^ 39) : PF n_term_extra [encR x] (.bool (extra x)) := by
  have h1 := size_le_tb x.left
  have h2 := size_le_tb x.right
  have e1 : ∀ t, sizes [t] = size t := fun t => by simp [sizes]
  have hv := varsOf_len [x.left]
  have hv2 := varsOf_len [x.right]
  rw [e1] at hv hv2
  have hL := term_VarsOf_s [x.left] (by rw [e1]; omega)
  have hR := term_VarsOf_s [x.right] (by rw [e1]; omega)
  refine pf_of term_extra.ok rfl ?_
  push_cast
  refine .of hL ?_
  cases hvar : x.left.var with
  | true =>
    push_cast [hvar]
    refine pf_ret ?_
    push_cast [term_extra.rs, extra, hvar]
    rfl
  | false =>
    push_cast [hvar]
    refine .of hR ?_
    push_cast
    refine .of (slices_ContainsFunc_s_string_string_s (p := fun v => !decide (v ∈ varsOf [x.left])) (caps := [.ro [encSs (varsOf [x.left])] 0]) (fun _ => rfl) _ (by omega) fun v hv => ?_) ?_
    · refine pf_of term_extra_1.ok rfl ?_
      push_cast
      refine .of (slices_Contains_str_s _ _ (by omega)) ?_
      push_cast
      exact pf_ret (by push_cast [term_extra_1.rs])
    · push_cast
      refine pf_ret ?_
      push_cast [term_extra.rs, extra, hvar]
      rfl
end Go.Dw
end
section
namespace Go.Dw
abbrev Ars := List (Str × Nat)
def getA : Ars → Str → Option Nat
  | [], _ => none
  | p :: m, n => if p.1 = n then some p.2 else getA m n
def arStep (m : Ars) (u : Term) : Option Ars := if u.var then some m else match getA m u.name with
  | some n => if n = u.args.length then some m else none
  | none => some (m ++ [(u.name, u.args.length)])
def arAll (m : Ars) : List (List Int × Term) → Option Ars
  | [] => some m
  | x :: l => (arStep m x.2).bind fun m' => arAll m' l
def arRules (m : Ars) : List ARule → Option Ars
  | [] => some m
  | x :: r => (arAll m (visit x.left [])).bind fun m1 => (arAll m1 (visit x.right [])).bind fun m2 => arRules m2 r
theorem arAll_append : ∀ (a b : List (List Int × Term)) (m : Ars), arAll m (a ++ b) = (arAll m a).bind fun m' => arAll m' b
  | [], b, m => rfl
  | x :: a, b, m => by simp only [List.cons_append, arAll]; cases arStep m x.2 <;> simp [arAll_append a b]
def encAr (m : Ars) : List (V × V) := m.map fun p => (.str p.1, .int .i64 p.2)
theorem ren_encAr {σ : Nat → Option Nat} {m : Ars} : ((encAr m).map fun p => (ren σ p.1, ren σ p.2)) = encAr m := by
  unfold encAr; rw [List.map_map]; rfl
attribute [push_cast] ren_encAr
theorem findM_encAr (n : Str) : ∀ (m : Ars) (i : Nat), match getA m n with
    | none => findM (.str n) (encAr m) i = some none
    | some a => ∃ j, findM (.str n) (encAr m) i = some (some (i + j, .int .i64 a)) ∧ (encAr m)[j]? = some (.str n, .int .i64 a)
  | [], i => rfl
  | p :: m, i => by
    have ih := findM_encAr n m (i + 1)
    unfold getA
    by_cases h : p.1 = n
    · rw [if_pos h]
      refine ⟨0, ?_, ?_⟩
      · simp [encAr, findM, sameK, h]
      · simp [encAr, h]
    · rw [if_neg h]
      have h' : n ≠ p.1 := fun e => h e.symm
      have hb : (n == p.1) = false := by simpa using h'
      have e : ∀ (k : Nat) , findM (.str n) (encAr (p :: m)) k = findM (.str n) (encAr m) (k + 1) := fun k => by simp [encAr, findM, sameK, hb]
      cases hg : getA m n with
      | none => rw [hg] at ih; simp only at ih ⊢; rw [e]; exact ih
      | some a =>
        rw [hg] at ih
        obtain ⟨j, h1, h2⟩ := ih
        refine ⟨j + 1, ?_, ?_⟩
        · rw [e, h1]; congr 3; omega
        · simp only [encAr, List.map_cons, List.getElem?_cons_succ]; exact h2
theorem look_encAr (m : Ars) (n : Str) {H : List Ob} {k : Nat} (hk : H[k]? = some (.map (encAr m))) : lookV H true true (.int .i64 0) (.map k) (.str n) = some (.tup [.int .i64 ((getA m n).getD 0 : Nat), .bool (getA m n).isSome]) := by
  have h := findM_encAr n m 0
  have he : entsV H (.map k) = some (encAr m) := by simp [entsV, hk]
  unfold lookV
  rw [he]
  cases hg : getA m n with
  | none => rw [hg] at h; simp only at h; simp [ksB, h, foundX]
  | some a => rw [hg] at h; obtain ⟨j, h1, h2⟩ := h; simp [ksB, h1, foundX]
theorem upd_encAr {m m' : Ars} {u : Term} (hv : u.var = false) (h : arStep m u = some m') : updM (.str u.name) (.int .i64 u.args.length) (encAr m) = some (encAr m') := by
  have hf := findM_encAr u.name m 0
  unfold arStep at h
  rw [hv] at h
  simp only [Bool.false_eq_true, if_false] at h
  unfold updM
  cases hg : getA m u.name with
  | none =>
    rw [hg] at h hf
    simp only [Option.some.injEq] at h hf
    subst h
    rw [hf]; simp [encAr]
  | some a =>
    rw [hg] at h hf
    simp only at h
    split at h
    · rename_i ha
      cases h
      obtain ⟨j, h1, h2⟩ := hf
      rw [h1]
      subst ha
      simp only [Nat.zero_add, Option.some.injEq]
      obtain ⟨h3, h4⟩ := List.getElem?_eq_some_iff.1 h2
      rw [← h4, List.set_getElem_self]
    · cases h
def arOut (o : Option Ars) (x : V) (H : List Ob) : Prop := match o with
  | none => x = .tup [.nilm, .bool false] ∧ H = []
  | some m => x = .tup [.map 0, .bool true] ∧ H = [.map (encAr m)]
abbrev arH (m : Ars) (l : List Ob) : List Ob := .cells t_m_string_int [.nilm] :: .cells t_bool [.bool false] :: .map (encAr m) :: .cells t_m_string_int [.map 2] :: l
theorem ar_pass {u : Term} {m : Ars} {r : List ARule} {v24 : V} {j k n : Nat} (hs : size u < 2 ^ 40) (hj : j < 2) (hra : ∀ σ, ren σ v24 = v24) (hix : ixaV 3 2 (some 3) v24 (.int .i64 j) = some (encT u)) (hnone : arAll m (visit u []) = none → arRules [] r = none)
    (hsome : ∀ m', arAll m (visit u []) = some m' → term_Arities.L6 (.ptr 0 0) (.ptr 1 0) (.ptr 3 0) .any (encRs r) (.int .i64 n) (.int .i64 k) v24 (.int .i64 (j + 1 : Nat)) 0 (arH m' [.dead]) (Ends 0 term_Arities.rs (arOut (arRules [] r)))) :
    term_Arities.L6 (.ptr 0 0) (.ptr 1 0) (.ptr 3 0) .any (encRs r) (.int .i64 n) (.int .i64 k) v24 (.int .i64 j) 0 (arH m [.dead]) (Ends 0 term_Arities.rs (arOut (arRules [] r))) := by
  have hj2 : ((j : Int) < 2) = True := eq_true (by omega)
  refine term_Arities.G6 ?_
  push_cast [hj2, hix]
  refine .of (term_Walk_s _) ?_
  push_cast
  refine Run.rf n_term_Walk_1 [] [.ro (cT u) 0] ((visit u []).map encIt) (fun i H1 => ∃ m', arAll m ((visit u []).take i) = some m' ∧ H1 = arH m' [.dead, .dead]) (fun e H1 => e = .ret ∧ arAll m (visit u []) = none ∧ ∃ m', H1 = arH m' [.dead, .dead]) rfl (term_Walk_iter u hs) ?_ ⟨m, rfl, rfl⟩ ?_ ?_ ?_ ?_ ?_ ?_
  · intro it hit
    obtain ⟨x, _, rfl⟩ := List.mem_map.1 hit
    rfl
  · push_cast [hra]
  · rintro i H1 ⟨m', _, rfl⟩
    refine ⟨rfl, ?_⟩
    push_cast
  · rintro i H1 ⟨_, _, m', rfl⟩
    refine ⟨rfl, ?_⟩
    push_cast
  · rintro lo rr i it H1 hit ⟨m', hm', rfl⟩
    rw [List.getElem?_map] at hit
    cases hx : (visit u [])[i]? with
    | none => rw [hx] at hit; cases hit
    | some x =>
    rw [hx] at hit
    have hit : it = encIt x := by simpa using hit.symm
    subst hit
    have hi : i < (visit u []).length := (List.getElem?_eq_some_iff.1 hx).1
    have hxi : (visit u [])[i] = x := (List.getElem?_eq_some_iff.1 hx).2
    have htk : (visit u []).take (i + 1) = (visit u []).take i ++ [x] := by rw [List.take_succ_eq_append_getElem hi, hxi]
    have hst : arAll m ((visit u []).take (i + 1)) = arStep m' x.2 := by rw [htk, arAll_append, hm']; simp [arAll]
    have hlk : ∀ (a b : Ob) l, lookV (a :: b :: .map (encAr m') :: l) true true (.int .i64 0) (.map 2) (.str x.2.name) = some (.tup [.int .i64 ((getA m' x.2.name).getD 0 : Nat), .bool (getA m' x.2.name).isSome]) := fun a b l => look_encAr m' _ rfl
    push_cast [setPs, encIt]
    refine run_m.2 ?_
    cases hv : x.2.var with
    | true =>
      have hst2 : arStep m' x.2 = some m' := by unfold arStep; rw [hv]; rfl
      push_cast [hv]
      refine ⟨rfl, ?_⟩
      refine ⟨m', by rw [hst, hst2], ?_⟩
      push_cast [cut]
    | false =>
      cases hg : getA m' x.2.name with
      | none =>
        have hst2 : arStep m' x.2 = some (m' ++ [(x.2.name, x.2.args.length)]) := by unfold arStep; rw [hv, hg]; rfl
        have hup := upd_encAr hv hst2
        push_cast [hv, hlk, hg, Option.isSome_none, hup, ksB]
        refine ⟨rfl, ?_⟩
        refine ⟨_, by rw [hst, hst2], ?_⟩
        push_cast [cut]
      | some a =>
        by_cases ha : a = x.2.args.length
        · have hst2 : arStep m' x.2 = some m' := by unfold arStep; rw [hv, hg]; simp [ha]
          have hup := upd_encAr hv hst2
          have ha' : ((a : Int) = (x.2.args.length : Int)) = True := eq_true (by omega)
          push_cast [hv, hlk, hg, Option.isSome_some, Option.getD_some, ha', hup, ksB]
          refine ⟨rfl, ?_⟩
          refine ⟨_, by rw [hst, hst2], ?_⟩
          push_cast [cut]
        · have hst2 : arStep m' x.2 = none := by unfold arStep; rw [hv, hg]; simp [ha]
          have ha' : ((a : Int) = (x.2.args.length : Int)) = False := eq_false (by omega)
          push_cast [hv, hlk, hg, Option.isSome_some, Option.getD_some, ha', ksB]
          refine ⟨rfl, ?_⟩
          have hall : arAll m (visit u []) = none := by
            have : visit u [] = (visit u []).take (i + 1) ++ (visit u []).drop (i + 1) := (List.take_append_drop _ _).symm
            rw [this, arAll_append, hst, hst2]; rfl
          refine ⟨rfl, hall, m', ?_⟩
          push_cast [cut]
  · rintro H1 ⟨m', hm', rfl⟩
    rw [List.length_map, List.take_length] at hm'
    have := hsome m' hm'
    push_cast [hra, w64 (show j < 2 ^ 62 by omega)]
    push_cast at this
    exact this
  · rintro e H1 ⟨rfl, hn, m', rfl⟩
    simp only [jumpC]
    push_cast
    rw [hnone hn]
    exact ends_nil (.inl rfl) rfl ⟨rfl, rfl⟩
theorem term_Arities_s (r : List ARule) (hs : rbs r < 2 ^ 40) : Spec prog n_term_Arities [encRs r] [] (arOut (arRules [] r)) := by
  have hl := length_le_rbs r
  refine spec_of_run mixed term_Arities.ok rfl ?_
  push_cast
  refine loop_up (n := r.length) (R := fun k => ∀ m, arRules m (r.drop k) = arRules [] r → term_Arities.L8 (.ptr 0 0) (.ptr 1 0) (.ptr 3 0) .any (encRs r) (.int .i64 r.length) (.int .i64 k) 0 (arH m []) (Ends 0 term_Arities.rs (arOut (arRules [] r)))) ?_ ?_ 0 (by omega) [] rfl
  · intro k hk ih m hm
    have hmm := rbs_mem (getD_mem hk)
    rw [drop_getD hk] at hm
    refine term_Arities.G8 ?_
    generalize hx : r.getD k default = x at hm hmm
    have h1 := size_le_tb x.left
    have h2 := size_le_tb x.right
    simp only [arRules] at hm
    have hr24 : ∀ σ, rens σ (cT x.left ++ cT x.right) = cT x.left ++ cT x.right := fun σ => rfl
    push_cast [ilt hk, hx, hr24]
    refine ar_pass (j := 0) (u := x.left) (by omega) (by omega) (fun σ => by rw [ren_agg, hr24]) rfl (fun h => by rw [← hm, h]; rfl) fun m1 hm1 => ?_
    rw [hm1, Option.bind_some] at hm
    refine ar_pass (j := 1) (u := x.right) (by omega) (by omega) (fun σ => by rw [ren_agg, hr24]) rfl (fun h => by rw [← hm, h]; rfl) fun m2 hm2 => ?_
    rw [hm2, Option.bind_some] at hm
    refine term_Arities.G6 ?_
    push_cast [w64 (show k < 2 ^ 62 by omega)]
    exact ih m2 hm
  · intro m hm
    refine term_Arities.G8 ?_
    push_cast [inlt (Nat.le_refl _)]
    rw [drop_map_none] at hm
    rw [← hm]
    refine ends_one 2 rfl rfl ⟨rfl, ?_⟩
    push_cast
end Go.Dw
end
section
namespace Go.Dw
def marked (n : Str) : Bool := hasSuf n [35]
def checkSystem (r : List ARule) : Int := if checkRules r ≠ 0 then checkRules r else match arRules [] r with
  | none => 6
  | some m => if m.any (fun p => marked p.1) then 6 else if r.any extra then 7 else 0
theorem seen_all {n : Nat} {seen : List Nat} {k : Nat} (hm : n ≤ seen.length) (hnd : seen.Nodup) (hlt : ∀ i ∈ seen, i < n) (hk : k ∉ seen) (hkn : k < n) : False := by
  have h1 : (seen ++ [k]).Nodup := by simp [List.nodup_append, hnd]; intro a ha e; exact hk (e ▸ ha)
  have h2 : (seen ++ [k]).length ≤ (List.range n).length := List.Nodup.length_le_of_subset h1 (by
    intro i hi
    rw [List.mem_range]
    rcases List.mem_append.1 hi with h | h
    · exact hlt i h
    · simp only [List.mem_singleton] at h; subst h; exact hkn)
  simp at h2; omega
theorem seen_snoc {n : Nat} {seen : List Nat} {k : Nat} (hnd : seen.Nodup) (hlt : ∀ i ∈ seen, i < n) (hk : k ∉ seen) (hkn : k < n) : (seen ++ [k]).Nodup ∧ ∀ i ∈ seen ++ [k], i < n := by
  refine ⟨by simp [List.nodup_append, hnd]; intro a ha e; exact hk (e ▸ ha), fun i hi => ?_⟩
  rcases List.mem_append.1 hi with h | h
  · exact hlt i h
  · simp only [List.mem_singleton] at h; subst h; exact hkn
theorem term_CheckSystem_s (r : List ARule) (hs : rbs r < 2 ^ 38) (hn : ∀ m, arRules [] r = some m → ∀ p ∈ m, p.1.length < 2 ^ 62) : PF n_term_CheckSystem [encRs r] (.int .i64 (checkSystem r)) := by
  have hl := length_le_rbs r
  refine pf_of term_CheckSystem.ok rfl ?_
  push_cast
  refine .of (term_CheckRules_s r (by omega)) ?_
  unfold checkSystem
  by_cases h1 : checkRules r = 0
  · rw [if_neg (by simpa using h1)]
    push_cast [h1]
    refine CallG.all (show SpecF prog (.func n_term_Arities) [encRs r] [] (arOut (arRules [] r)) from specF_func ▸ term_Arities_s r (by omega)) ?_
    intro x H' h
    cases hr : arRules [] r with
    | none =>
      rw [hr] at h
      obtain ⟨rfl, rfl⟩ := h
      push_cast
      refine pf_ret ?_
      push_cast [term_CheckSystem.rs]
    | some m =>
      have hnm := hn m hr
      rw [hr] at h
      obtain ⟨rfl, rfl⟩ := h
      push_cast
      have hlen : (encAr m).length = m.length := by unfold encAr; rw [List.length_map]
      rw [hlen]
      have key : ∀ (f : Nat) (seen : List Nat), m.length - seen.length < f → seen.Nodup → (∀ i ∈ seen, i < m.length) → (∀ i ∈ seen, marked (m.getD i default).1 = false) → term_CheckSystem.L4 (encRs r) (.it 1) 0
          [.map (encAr m), .iter (some 0) m.length seen] (Ends 0 term_CheckSystem.rs fun x' H' => x' = .int .i64 (if m.any (fun p => marked p.1) then 6 else if r.any extra then 7 else 0) ∧ H' = []) := by
        intro f
        induction f with
        | zero =>
          intro seen hm hnd hlt hun
          omega
        | succ f ih =>
          intro seen hm hnd hlt hun
          refine term_CheckSystem.G4 ?_
          push_cast
          refine nxP_of 0 m.length seen (encAr m) rfl rfl hlen.symm (fun hall => ?_) (fun k p hp hk => ?_)
          · have hany : m.any (fun p => marked p.1) = false := by
              rw [List.any_eq_false]
              intro p hp
              obtain ⟨i, hi, rfl⟩ := List.getElem_of_mem hp
              have := hun i (hall i hi)
              simp only [List.getD_eq_getElem?_getD, hi, List.getElem?_eq_getElem, Option.getD_some] at this
              simp [this]
            push_cast [hany]
            refine .of (slices_ContainsFunc_s_Rule_Rule_s (p := extra) (g := n_term_extra) (caps := []) (fun _ => rfl) r (by omega) fun x hx => term_extra_s x (by have := rbs_mem hx; omega)) ?_
            push_cast
            refine ⟨fun h => pf_ret ?_, fun h => pf_ret ?_⟩ <;> push_cast [term_CheckSystem.rs, h]
          · have hkl : k < m.length := by rw [← hlen]; exact (List.getElem?_eq_some_iff.1 hp).1
            have hpe : p = (.str (m.getD k default).1, .int .i64 (m.getD k default).2) := by
              unfold encAr at hp
              rw [List.getElem?_map] at hp
              simp [hkl] at hp
              rw [← hp]; simp [List.getD_eq_getElem?_getD, hkl]
            have hen : enV [.map (encAr m), .iter (some 0) m.length (seen ++ [k])] (.it 1) = some (.tup [p.1, p.2]) := by
              simp [enV, hlen, hp]
            subst hpe
            have hmem : m.getD k default ∈ m := getD_mem hkl
            push_cast [hen]
            refine .of (term_Marked_s _ (hnm _ hmem)) ?_
            cases hmk : marked (m.getD k default).1 with
            | true =>
              have hany : m.any (fun p => marked p.1) = true := List.any_eq_true.2 ⟨_, hmem, hmk⟩
              unfold marked at hmk
              push_cast [hmk]
              refine pf_ret ?_
              push_cast [term_CheckSystem.rs, hany]
            | false =>
              have h2 := seen_snoc hnd hlt hk hkl
              have hlt' : seen.length < m.length := by
                rcases Nat.lt_or_ge seen.length m.length with h | h
                · exact h
                · exact (seen_all h hnd hlt hk hkl).elim
              have := ih (seen ++ [k]) (by simp; omega) h2.1 h2.2 (fun i hi => by
                rcases List.mem_append.1 hi with h | h
                · exact hun i h
                · simp only [List.mem_singleton] at h; subst h; exact hmk)
              unfold marked at hmk
              push_cast [hmk]
              exact this
      exact key (m.length + 1) [] (by simp) List.nodup_nil (by simp) (by simp)
  · rw [if_pos h1]
    push_cast [h1]
    refine pf_ret ?_
    push_cast [term_CheckSystem.rs]
end Go.Dw
end
section
namespace Go.Proofs
open Go.Shelf Go.RowKit Go.Lib
theorem run_copy_cellsZ {P : Program} (w : World) (dT sT ty elem : TypeId) (b o dLen dCap : Nat) (a : Addr) (sLen sCap z : Nat) (cs : List Value)
    (hu : P.underlying dT = some (.slice elem)) (hs : (P.info? elem).map (·.size) = some z) (hn : cs.length = Nat.min sLen dLen * z)
    (hsrc : ∀ j v, cs[j]? = some v → w.cell? (a.add j) = some v) (hc : ∀ j, j < cs.length → (w.cell? ⟨b, o + j, none⟩).isSome = true) (hf : ∀ j, j < cs.length → w.frozen? ⟨b, o + j, none⟩ = false) (h1 : ∀ v ∈ cs, v.oneCell' = true) :
    (Builtin.copy_ #[dT, sT] ty #[.slice (some ⟨b, o, none⟩) dLen dCap, .slice (some a) sLen sCap]).run P w = .ok (goInt (Nat.min sLen dLen)) (w.setCells b o cs) := by
  have hl := run_loadCells_list (P := P) w a cs hsrc
  have hst := run_storeCells_cells (P := P) b o cs 0 w (by simpa using hc) (by simpa using hf) h1
  cases hq : P.info? elem with
  | none => simp [hq] at hs
  | some i =>
    have hi : i.size = z := by simpa [hq] using hs
    simp [Builtin.copy_, run_underlying hu, Builtin.lenOf, Builtin.firstCells, sizeOf, typeInfo, hq, hi, ← hn, hl, hst]
end Go.Proofs
end
section
namespace Go.Proofs
open Go.Shelf Go.RowKit Go.Lib
theorem zeroCells_size (cs : Array Value) (k : Nat) : (Builtin.zeroCells cs k).size = k * cs.size := by
  simp [Builtin.zeroCells]
end Go.Proofs
end
section
namespace Go.Dw
open Go.Proofs Go.Sort Go.Lib
theorem heap_setCells (b : Nat) : ∀ (us : List Value) (o : Nat) (w : World), (w.setCells b o us).heap.size = w.heap.size ∧ (∀ b', b' ≠ b → (w.setCells b o us).heap[b']? = w.heap[b']?) ∧
    (∀ vs t fr, w.heap[b]? = some (.cells vs t fr) → ∃ vs1, (w.setCells b o us).heap[b]? = some (.cells vs1 t fr) ∧ vs1.size = vs.size) ∧ (w.setCells b o us).os = w.os ∧ (w.setCells b o us).tape = w.tape ∧ (w.setCells b o us).output = w.output
  | [], o, w => ⟨rfl, fun _ _ => rfl, fun vs t fr h => ⟨vs, h, rfl⟩, rfl, rfl, rfl⟩
  | u :: us, o, w => by
    obtain ⟨h1, h2, h3, h4, h5, h6⟩ := heap_setCells b us (o + 1) (w.setCell ⟨b, o, none⟩ u)
    have e1 : (w.setCell ⟨b, o, none⟩ u).heap.size = w.heap.size := by rw [setCell_eq]; simp [mapBlock]
    have e2 : ∀ b', b' ≠ b → (w.setCell ⟨b, o, none⟩ u).heap[b']? = w.heap[b']? := fun b' hb => by
      rw [setCell_eq]; simp only [mapBlock]; rw [Array.getElem?_modify, if_neg (Ne.symm hb)]
    refine ⟨by rw [World.setCells, h1, e1], fun b' hb => by rw [World.setCells, h2 b' hb, e2 b' hb], fun vs t fr h => ?_, ?_, ?_, ?_⟩
    · have : (w.setCell ⟨b, o, none⟩ u).heap[b]? = some (.cells (vs.setIfInBounds o u) t fr) := by
        rw [setCell_eq]; simp only [mapBlock]; rw [Array.getElem?_modify, if_pos rfl, h]; rfl
      obtain ⟨vs1, q1, q2⟩ := h3 _ _ _ this
      exact ⟨vs1, by rw [World.setCells]; exact q1, by rw [q2]; simp⟩
    · rw [World.setCells, h4, setCell_eq]; rfl
    · rw [World.setCells, h5, setCell_eq]; rfl
    · rw [World.setCells, h6, setCell_eq]; rfl
theorem drawn_setCells (b : Nat) : ∀ (us : List Value) (o : Nat) (w : World), (w.setCells b o us).drawn = w.drawn
  | [], o, w => rfl
  | u :: us, o, w => by rw [World.setCells, drawn_setCells b us, setCell_eq]; rfl
theorem ins_fin {c : Cx} (hc : Conc c) {els : List (List V)} {new : List V} {e i n z : Nat} (hH : c.H = [.row e z els, .arr e z 1]) (hn : els.length = n) (hi : i ≤ n) {w' : World} {bN kN : Nat} {vs1 : Array Value} {us : List Value}
    (hb : (∃ k, c.ρ 0 = some (bN, k)) ∨ c.w.heap.size ≤ bN) (hmax : n + 1 ≤ maxEls)
    (h1 : w'.heap[bN]? = some (.cells vs1 e (0, 0))) (h2 : vs1.size = kN * z) (h3 : n + 1 ≤ kN) (h4 : kN ≤ capMax)
    (hold : ∀ (l : Nat) (el : List V), els[l]? = some el → el.length = z ∧ ∀ (j : Nat) (x : V), el[j]? = some x → ∃ v, vs1[(if l < i then l else l + 1) * z + j]? = some v ∧ oneC v = true ∧ rep c x v)
    (hnew : new.length = z ∧ ∀ (j : Nat) (x : V), new[j]? = some x → ∃ v, vs1[i * z + j]? = some v ∧ oneC v = true ∧ rep c x v)
    (hoth : ∀ b', b' < c.w.heap.size → b' ≠ bN → w'.heap[b']? = c.w.heap[b']?) (hsz : c.w.heap.size ≤ w'.heap.size) (hos : w'.os = c.w.os) (htp : w'.tape = c.w.tape) (hou : w'.output = c.w.output) (hdr : c.w.drawn ≤ w'.drawn) :
    ∃ v x c', Ending.returned (.slice (some ⟨bN, 0, none⟩) (n + 1) kN) = .returned v ∧ c'.w = w' ∧ (x = .rw 0 z (n + 1) ∧ c'.H = [.row e z (els.take i ++ new :: els.drop i), .arr e z 1]) ∧ Conc c' ∧ rep c' x v ∧ Fr c c' := by
  have hH0 : c.H[0]? = some (.row e z els) := by rw [hH]; rfl
  have hH1 : c.H[1]? = some (.arr e z 1) := by rw [hH]; rfl
  have hHl : c.H.length = 2 := by rw [hH]; rfl
  obtain ⟨o1, o2⟩ := hc.obj 0 _ hH0
  have hnok : ∀ o, ¬ c.ok bN o := fun o ho => by
    rcases hb with ⟨k, hk⟩ | hb
    · obtain ⟨_, _, _, _, _, h5, _⟩ := o2 bN k hk; exact h5 o ho
    · have := hc.okLt _ _ ho; omega
  have h1ne : ∀ b' k', c.ρ 1 = some (b', k') → b' ≠ bN ∧ b' < c.w.heap.size := fun b' k' h => by
    have hlt := own_lt hc (show 1 < c.H.length by omega) h
    refine ⟨fun e1 => ?_, hlt⟩
    subst e1
    rcases hb with ⟨k, hk⟩ | hb
    · exact absurd (hc.inj 0 1 b' k k' (by omega) (by omega) hk h) (by decide)
    · omega
  generalize hc' : (⟨w', c.ok, upd c.ρ 0 (some (bN, kN)), [.row e z (els.take i ++ new :: els.drop i), .arr e z 1]⟩ : Cx) = c'
  have hw : c'.w = w' := by rw [← hc']
  have hk' : c'.ok = c.ok := by rw [← hc']
  have hρ0 : c'.ρ 0 = some (bN, kN) := by rw [← hc']; simp [upd]
  have hρ1 : ∀ j, j ≠ 0 → c'.ρ j = c.ρ j := fun j hj => by rw [← hc']; exact upd_ne hj
  have hH' : c'.H = [.row e z (els.take i ++ new :: els.drop i), .arr e z 1] := by rw [← hc']
  have hlen' : (els.take i ++ new :: els.drop i).length = n + 1 := by simp; omega
  have hf : Fr c c' := by
    refine ⟨fun _ _ h => by rw [hk']; exact h, fun b' o h => ?_, by rw [hw]; exact hsz, fun _ _ h => .inl (by rw [hk'] at h; exact h), fun b' hlt hno => ?_, fun b' hb' => ?_, fun j o hj => ?_, by rw [hw]; exact hos, by rw [hw]; exact htp, by rw [hw]; exact hou, by rw [hw]; exact hdr⟩
    · have hne : b' ≠ bN := fun e => hnok o (e ▸ h)
      simp only [World.cell?, hw]
      rw [hoth b' (hc.okLt _ _ h) hne]
    · rw [hw]
      refine hoth b' hlt fun e1 => ?_
      subst e1
      rcases hb with ⟨k, hk⟩ | hb
      · exact hno ⟨0, k, by omega, hk⟩
      · omega
    · obtain ⟨j, k', hj, hr⟩ := hb'
      have hj : j < 2 := by rw [hH'] at hj; simpa using hj
      by_cases e0 : j = 0
      · subst e0
        rw [hρ0] at hr; cases hr
        rcases hb with ⟨k, hk⟩ | hb
        · exact .inl ⟨0, k, by omega, hk⟩
        · exact .inr hb
      · rw [hρ1 j e0] at hr
        exact .inl ⟨j, k', by omega, hr⟩
    · rw [hH] at hj
      match j, hj with
      | 0, hj =>
        simp only [List.getElem?_cons_zero, Option.some.injEq] at hj
        subst hj
        exact ⟨.row e z (els.take i ++ new :: els.drop i), by rw [hH']; rfl, rfl, rfl, by omega, fun h => by omega⟩
      | 1, hj =>
        simp only [List.getElem?_cons_succ, List.getElem?_cons_zero, Option.some.injEq] at hj
        subst hj
        exact ⟨.arr e z 1, by rw [hH']; rfl, rfl, rfl, Nat.le_refl _, fun _ => hρ1 1 (by omega)⟩
      | j + 2, hj => simp at hj
  refine ⟨_, _, c', rfl, hw, ⟨rfl, hH'⟩, ?_, ?_, hf⟩
  · refine ⟨fun j1 j2 b' k1 k2 q1 q2 q3 q4 => ?_, fun b' o h => ?_, fun j o hj => ?_⟩
    · rw [hH'] at q1 q2
      simp only [List.length_cons, List.length_nil] at q1 q2
      by_cases e1 : j1 = 0 <;> by_cases e2 : j2 = 0
      · omega
      · have : j2 = 1 := by omega
        subst e1 this
        rw [hρ0] at q3; cases q3
        rw [hρ1 1 (by omega)] at q4
        exact absurd rfl (h1ne _ _ q4).1
      · have : j1 = 1 := by omega
        subst e2 this
        rw [hρ0] at q4; cases q4
        rw [hρ1 1 (by omega)] at q3
        exact absurd rfl (h1ne _ _ q3).1
      · omega
    · rw [hk'] at h; rw [hw]; have := hc.okLt _ _ h; omega
    · rw [hH'] at hj
      match j, hj with
      | 0, hj =>
        simp only [List.getElem?_cons_zero, Option.some.injEq] at hj
        subst hj
        refine ⟨fun h => (by rw [hρ0] at h; cases h), fun b' k' h => ?_⟩
        rw [hρ0] at h; cases h
        refine ⟨vs1, by rw [hw]; exact h1, h2, by omega, h4, fun o ho => hnok o (by rw [hk'] at ho; exact ho), fun l el hl => ?_⟩
        rw [List.getElem?_append] at hl
        have hti : (els.take i).length = i := by rw [List.length_take]; omega
        rw [hti] at hl
        by_cases e1 : l < i
        · rw [if_pos e1, List.getElem?_take, if_pos e1] at hl
          obtain ⟨q1, q2⟩ := hold l el hl
          refine ⟨q1, fun j x hx => ?_⟩
          obtain ⟨v, r1, r2, r3⟩ := q2 j x hx
          rw [if_pos e1] at r1
          exact ⟨v, r1, r2, rep_fr hf r3⟩
        · rw [if_neg e1] at hl
          by_cases e2 : l = i
          · subst e2
            rw [Nat.sub_self, List.getElem?_cons_zero] at hl
            cases hl
            refine ⟨hnew.1, fun j x hx => ?_⟩
            obtain ⟨v, r1, r2, r3⟩ := hnew.2 j x hx
            exact ⟨v, r1, r2, rep_fr hf r3⟩
          · obtain ⟨m, rfl⟩ : ∃ m, l = m + 1 := ⟨l - 1, by omega⟩
            have e3 : m + 1 - i = (m - i) + 1 := by omega
            rw [e3, List.getElem?_cons_succ, List.getElem?_drop, show i + (m - i) = m by omega] at hl
            obtain ⟨q1, q2⟩ := hold m el hl
            refine ⟨q1, fun j x hx => ?_⟩
            obtain ⟨v, r1, r2, r3⟩ := q2 j x hx
            rw [if_neg (by omega)] at r1
            exact ⟨v, r1, r2, rep_fr hf r3⟩
      | 1, hj =>
        simp only [List.getElem?_cons_succ, List.getElem?_cons_zero, Option.some.injEq] at hj
        subst hj
        obtain ⟨a1, a2⟩ := hc.obj 1 _ hH1
        refine ⟨fun h => a1 (by rw [← hρ1 1 (by omega)]; exact h), fun b' k' h => ?_⟩
        rw [hρ1 1 (by omega)] at h
        obtain ⟨ne, hlt⟩ := h1ne _ _ h
        obtain ⟨vs, r1, r2, r3, r4, r5⟩ := a2 b' k' h
        exact ⟨vs, by rw [hw, hoth b' hlt ne]; exact r1, r2, r3, r4, fun o ho => by rw [hk']; exact r5 o ho⟩
      | j + 2, hj => simp at hj
  · refine ⟨by rw [hH']; simp, ⟨_, _, rfl, hmax, .inr ⟨_, _, rfl⟩⟩, fun e' sz' els' hh => ?_⟩
    rw [hH'] at hh
    simp only [List.getElem?_cons_zero, Option.some.injEq, Ob.row.injEq] at hh
    obtain ⟨rfl, rfl, rfl⟩ := hh
    exact ⟨rfl, by omega, fun _ => by rw [hρ0]; rfl⟩
end Go.Dw
end
section
namespace Go.Dw
open Go.Proofs Go.Sort Go.Lib
theorem ins_go {c : Cx} (hc : Conc c) {els : List (List V)} {new : List V} {e i n : Nat} (hH : c.H = [.row e 4 els, .arr e 4 1]) (hn : els.length = n) (hi : i ≤ n) {w' : World} {bN kN : Nat} {vs0 vs1 : Array Value} {us cs : List Value}
    (hb : (∃ k, c.ρ 0 = some (bN, k)) ∨ c.w.heap.size ≤ bN) (hmax : n + 1 ≤ maxEls) (h1 : w'.heap[bN]? = some (.cells vs1 e (0, 0))) (h2 : vs1.size = kN * 4) (h3 : n + 1 ≤ kN) (h4 : kN ≤ capMax)
    (hrow : rowOk c 4 els vs0) (hcs : ∀ j, j < n * 4 → cs[j]? = vs0[j]?) (hus : new.length = 4 ∧ ∀ (j : Nat) (x : V), new[j]? = some x → ∃ v, us[j]? = some v ∧ oneC v = true ∧ rep c x v)
    (hcell : ∀ j, j < (n + 1) * 4 → vs1[j]? = if j < i * 4 then cs[j]? else if j < i * 4 + 4 then us[j - i * 4]? else cs[j - 4]?)
    (hoth : ∀ b', b' < c.w.heap.size → b' ≠ bN → w'.heap[b']? = c.w.heap[b']?) (hsz : c.w.heap.size ≤ w'.heap.size) (hos : w'.os = c.w.os) (htp : w'.tape = c.w.tape) (hou : w'.output = c.w.output) (hdr : c.w.drawn ≤ w'.drawn := by first | exact Nat.le_refl _ | exact Nat.le_succ _ | (simp only [drawn_setCells]; first | exact Nat.le_refl _ | exact Nat.le_succ _) | (subst_vars; simp only [World.drew, World.alloc, drawn_setCells]; omega)) :
    ∃ v x c', Ending.returned (.slice (some ⟨bN, 0, none⟩) (n + 1) kN) = .returned v ∧ c'.w = w' ∧ (x = .rw 0 4 (n + 1) ∧ c'.H = [.row e 4 (els.take i ++ new :: els.drop i), .arr e 4 1]) ∧ Conc c' ∧ rep c' x v ∧ Fr c c' := by
  refine ins_fin hc hH hn hi hb hmax h1 h2 h3 h4 (fun l el hl => ?_) ⟨hus.1, fun j x hx => ?_⟩ hoth hsz hos htp hou hdr (us := us)
  · obtain ⟨q1, q2⟩ := hrow l el hl
    refine ⟨q1, fun j x hx => ?_⟩
    obtain ⟨v, r1, r2, r3⟩ := q2 j x hx
    have hj : j < 4 := by rw [← q1]; exact (List.getElem?_eq_some_iff.1 hx).1
    have hln : l < n := by rw [← hn]; exact (List.getElem?_eq_some_iff.1 hl).1
    refine ⟨v, ?_, r2, r3⟩
    by_cases e1 : l < i
    · rw [if_pos e1, hcell _ (by omega), if_pos (by omega), hcs _ (by omega)]; exact r1
    · rw [if_neg e1, hcell _ (by omega), if_neg (by omega), if_neg (by omega), hcs _ (by omega), show (l + 1) * 4 + j - 4 = l * 4 + j by omega]; exact r1
  · obtain ⟨v, r1, r2, r3⟩ := hus.2 j x hx
    have hj : j < 4 := by rw [← hus.1]; exact (List.getElem?_eq_some_iff.1 hx).1
    refine ⟨v, ?_, r2, r3⟩
    rw [hcell _ (by omega), if_neg (by omega), if_pos (by omega), show i * 4 + j - i * 4 = j by omega]; exact r1
end Go.Dw
end
section
namespace Go.Dw
theorem rens_cBs {σ : Nat → Option Nat} {s : List ABind} : (s.map cB).map (rens σ) = s.map cB := by rw [List.map_map]; rfl
attribute [push_cast] rens_cBs
end Go.Dw
end
section
namespace Go.Dw
mutual
def short : Term → Bool
  | .mk n v l => decide (n.length ≤ 24) && ((!v || l.isEmpty) && shorts l)
def shorts : List Term → Bool
  | [] => true
  | a :: l => short a && shorts l
end
theorem shorts_iff {l : List Term} : shorts l = true ↔ ∀ a ∈ l, short a = true := by
  induction l with
  | nil => simp [shorts]
  | cons a l ih => simp [shorts, ih]
theorem short_iff {t : Term} : short t = true ↔ t.name.length ≤ 24 ∧ (t.var = true → t.args = []) ∧ ∀ a ∈ t.args, short a = true := by
  cases t with | mk n v l => cases v <;> simp [short, shorts_iff, Term.name, Term.var, Term.args]
theorem formed_short (t : Term) : formed t = true → short t = true := by
  induction t using term_ind with
  | h t ih =>
  intro h
  rw [formed_eq] at h
  rw [short_iff]
  split at h
  · simp only [Bool.and_eq_true, decide_eq_true_eq, isName] at h
    refine ⟨h.2.1, fun _ => List.length_eq_zero_iff.1 h.1, fun a ha => ?_⟩
    rw [List.length_eq_zero_iff.1 h.1] at ha; cases ha
  · rename_i hv
    simp only [Bool.and_eq_true, decide_eq_true_eq, isName, List.all_eq_true] at h
    exact ⟨h.2.1.1, fun hv2 => absurd hv2 hv, fun a ha => ih a ha (h.2.2 a ha)⟩
theorem fits_size {t : Term} (h : fits t = true) : size t ≤ 4000 := by
  simp only [fits, Bool.and_eq_true, decide_eq_true_eq] at h; exact h.1
def good (t : Term) : Prop := short t = true ∧ size t ≤ 4000
theorem check_good {t : Term} (h : check t = 0) : good t := by
  unfold check at h
  split at h
  · rename_i h1
    split at h
    · rename_i h2; exact ⟨formed_short t h1, fits_size h2⟩
    · omega
  · omega
end Go.Dw
end
section
namespace Go.Dw
def cPp (p : List Int) : List V := [encP p]
theorem cPp_0 (p : List Int) : (cPp p)[0]? = some (encP p) := rfl
theorem cPp_len (p : List Int) : (cPp p).length = 1 := rfl
attribute [push_cast] cPp_0 cPp_len
end Go.Dw
end
section
namespace Go.Dw
mutual
theorem visit_name : ∀ (t : Term) (p : List Int), ∀ x ∈ visit t p, x.2.name.length < tb t
  | .mk n v l, p, x, hx => by
    rw [visit_eq] at hx
    simp only [tb]
    rcases List.mem_cons.1 hx with rfl | hx
    · simp only [Term.name]; omega
    · have := visits_name l p 0 x hx; simp only [tbs] at this; omega
theorem visits_name : ∀ (l : List Term) (p : List Int) (i : Nat), ∀ x ∈ visits l p i, x.2.name.length < tbs l
  | [], p, i, x, hx => by simp [visits] at hx
  | a :: l, p, i, x, hx => by
    simp only [visits, List.mem_append] at hx
    simp only [tbs, tb.tbs]
    rcases hx with hx | hx
    · have := visit_name a _ x hx; omega
    · have := visits_name l _ _ x hx; simp only [tbs] at this; omega
end
theorem arAll_name {M : Nat} : ∀ (l : List (List Int × Term)) {m m' : Ars}, arAll m l = some m' → (∀ x ∈ l, x.2.name.length < M) → (∀ p ∈ m, p.1.length < M) → ∀ p ∈ m', p.1.length < M
  | [], m, m', h, _, hm => by cases h; exact hm
  | x :: l, m, m', h, hl, hm => by
    simp only [arAll] at h
    cases hs : arStep m x.2 with
    | none => rw [hs] at h; cases h
    | some m1 =>
      rw [hs, Option.bind_some] at h
      refine arAll_name l h (fun y hy => hl y (by simp [hy])) ?_
      unfold arStep at hs
      split at hs
      · cases hs; exact hm
      · split at hs
        · split at hs
          · cases hs; exact hm
          · cases hs
        · cases hs
          intro p hp
          rcases List.mem_append.1 hp with hp | hp
          · exact hm p hp
          · simp only [List.mem_singleton] at hp; subst hp; exact hl x (by simp)
theorem arRules_name {M : Nat} : ∀ (r : List ARule) {m m' : Ars}, arRules m r = some m' → rbs r ≤ M → (∀ p ∈ m, p.1.length < M) → ∀ p ∈ m', p.1.length < M
  | [], m, m', h, _, hm => by cases h; exact hm
  | x :: r, m, m', h, hM, hm => by
    simp only [arRules] at h
    simp only [rbs] at hM
    cases ha : arAll m (visit x.left []) with
    | none => rw [ha] at h; cases h
    | some m1 =>
      rw [ha, Option.bind_some] at h
      cases hb : arAll m1 (visit x.right []) with
      | none => rw [hb] at h; cases h
      | some m2 =>
        rw [hb, Option.bind_some] at h
        exact arRules_name r h (by omega) (arAll_name _ hb (fun y hy => by have := visit_name _ _ y hy; omega) (arAll_name _ ha (fun y hy => by have := visit_name _ _ y hy; omega) hm))
theorem term_CheckSystem_t (r : List ARule) (hs : rbs r < 2 ^ 38) : PF n_term_CheckSystem [encRs r] (.int .i64 (checkSystem r)) :=
  term_CheckSystem_s r hs fun m hm p hp => by have := arRules_name r hm (Nat.le_refl _) (by simp) p hp; omega
theorem checkPairs_ok : ∀ {r : List ARule}, checkPairs r = 0 → ∀ x ∈ r, check x.left = 0 ∧ check x.right = 0
  | [], _, x, hx => by cases hx
  | y :: r, h, x, hx => by
    simp only [checkPairs] at h
    split at h
    · omega
    · rename_i h1
      rcases List.mem_cons.1 hx with rfl | hx
      · simp only [checks, ne_eq, Classical.not_not] at h1
        split at h1
        · omega
        · rename_i h2
          split at h1
          · omega
          · rename_i h3
            exact ⟨by simpa using h2, by simpa using h3⟩
      · exact checkPairs_ok h x hx
theorem checkSystem_good {r : List ARule} (h : checkSystem r = 0) : ∀ x ∈ r, good x.left ∧ good x.right := by
  have h1 : checkRules r = 0 := by
    unfold checkSystem at h
    split at h
    · rename_i h1; exact absurd h h1
    · rename_i h1; simpa using h1
  unfold checkRules at h1
  split at h1
  · omega
  · intro x hx
    have := checkPairs_ok h1 x hx
    exact ⟨check_good this.1, check_good this.2⟩
end Go.Dw
end
section
namespace Go.Dw
open Go.Proofs.YtokdinonifchaaaGreat
abbrev okW (W : World) : Nat → Nat → Prop := fun b _ => b < W.heap.size
def Cells (W : World) (xs : List V) (cs : List Value) : Prop := prepL W (okW W) xs cs ∧ ∀ u ∈ cs, oneC u = true
theorem prepL_app {w : World} {ok : Nat → Nat → Prop} : ∀ {xs ys : List V} {cs ds : List Value}, prepL w ok xs cs → prepL w ok ys ds → prepL w ok (xs ++ ys) (cs ++ ds)
  | [], ys, cs, ds, h1, h2 => by
    have h1 : cs = [] := h1
    subst h1; exact h2
  | x :: xs, ys, cs, ds, ⟨v, vs, e, h1, h2⟩, h3 => by
    subst e
    exact ⟨v, vs ++ ds, rfl, h1, prepL_app h2 h3⟩
theorem prepL_get {w : World} {ok : Nat → Nat → Prop} : ∀ {xs : List V} {cs : List Value} {i : Nat} {x : V}, prepL w ok xs cs → xs[i]? = some x → ∃ v, cs[i]? = some v ∧ prep w ok x v
  | [], _, i, x, _, h => by simp at h
  | y :: xs, cs, i, x, ⟨v, vs, e, h1, h2⟩, h => by
    subst e
    cases i with
    | zero => simp only [List.getElem?_cons_zero, Option.some.injEq] at h; subst h; exact ⟨v, rfl, h1⟩
    | succ i => simp only [List.getElem?_cons_succ] at h ⊢; exact prepL_get h2 h
theorem Cells.app {W : World} {xs ys : List V} {cs ds : List Value} (h1 : Cells W xs cs) (h2 : Cells W ys ds) : Cells W (xs ++ ys) (cs ++ ds) :=
  ⟨prepL_app h1.1 h2.1, fun u hu => (List.mem_append.1 hu).elim (h1.2 u) (h2.2 u)⟩
theorem Cells.one {W : World} {x : V} {c : Value} (h : prep W (okW W) x c) (ho : oneC c = true) : Cells W [x] [c] := ⟨⟨c, [], rfl, h, rfl⟩, fun u hu => by simp only [List.mem_singleton] at hu; subst hu; exact ho⟩
section
variable {H : Type} {enc : TypeId × Value → H} {W : World}
noncomputable abbrev trd (enc : TypeId × Value → H) (W : World) := DataW.trod enc prog W 0 (fun _ => true) true
def Br {α : Type} (enc : TypeId × Value → H) (W : World) (n : Nat) (t : TypeId) (c : α → List V) (b : α → Nat) : Prop := ∀ cs x, trd enc W n t cs = some x → Rows.uptoBulk x.1 ≤ 1048576 → ∃ a, b a ≤ Rows.uptoBulk x.1 ∧ Cells W (c a) cs
theorem br_str {n : Nat} : Br enc W n t_string (fun s : Str => [.str s]) (fun s => s.length + 1) := by
  intro cs x h _
  obtain ⟨s, rfl, rfl, _⟩ := DataW.trod_string (P := prog) Go.Proofs.Tryz.underlying9 h
  refine ⟨s.data.toList, by simp [Rows.uptoBulk], Cells.one ?_ rfl⟩
  show Value.string s = .string ⟨⟨s.data.toList⟩⟩
  cases s with | mk d => cases d; rfl
theorem br_bool {n : Nat} : Br enc W n t_bool (fun s : Bool => [.bool s]) (fun _ => 1) := by
  intro cs x h _
  obtain ⟨s, rfl, rfl⟩ := DataW.trod_bool (P := prog) Go.Proofs.Tryz.underlying4 h
  exact ⟨s, by simp [Rows.uptoBulk], Cells.one rfl rfl⟩
theorem cell_spot {w : World} {a : Addr} {v : Value} (h : w.cell? a = some v) : a.spot = none ∧ a.block < w.heap.size := by
  unfold World.cell? at h
  split at h
  · rename_i hb
    split at h
    · cases h
    · rename_i hs
      exact ⟨by cases hq : a.spot <;> simp_all, (Array.getElem?_eq_some_iff.1 hb).1⟩
  · cases h
theorem addr_add {a : Addr} (h : a.spot = none) (n : Nat) : a.add n = ⟨a.block, a.off + n, none⟩ := by
  unfold Addr.add
  split
  · rename_i h0; subst h0; cases a; simp_all
  · rfl
def sumB {α : Type} (b : α → Nat) : List α → Nat
  | [] => 0
  | x :: l => b x + sumB b l
theorem one_le (d : DataW H) : 1 ≤ Rows.uptoBulk d := by
  cases d with
  | lit l => cases l <;> simp [Rows.uptoBulk]
  | _ => simp [Rows.uptoBulk]
theorem bulk_len (l : List (DataW H)) : l.length ≤ Rows.uptoBulkAll l := by
  induction l with
  | nil => simp [Rows.uptoBulkAll]
  | cons x r ih => have := one_le x; simp only [Rows.uptoBulkAll, List.length_cons]; omega
theorem bulk_part {d : DataW H} {l : List (DataW H)} (h : d ∈ l) : Rows.uptoBulk d ≤ Rows.uptoBulkAll l := by
  induction l with
  | nil => cases h
  | cons x r ih =>
    simp only [Rows.uptoBulkAll]
    rcases List.mem_cons.1 h with e | e
    · subst e; omega
    · have := ih e; omega
theorem sumB_le {α : Type} {b : α → Nat} : ∀ {l : List α} {es : List (DataW H × List MemPlace)}, l.length = es.length → (∀ (i : Nat) (a : α) (e : DataW H × List MemPlace), l[i]? = some a → es[i]? = some e → b a ≤ Rows.uptoBulk e.1) → sumB b l ≤ Rows.uptoBulkAll (es.map (·.1))
  | [], [], _, _ => by simp [sumB]
  | [], _ :: _, h, _ => by simp at h
  | _ :: _, [], h, _ => by simp at h
  | a :: l, e :: es, h, hb => by
    have h1 := hb 0 a e rfl rfl
    have h2 := sumB_le (l := l) (es := es) (by simpa using h) fun i a' e' h1 h2 => hb (i + 1) a' e' (by simpa using h1) (by simpa using h2)
    simp only [sumB, List.map_cons, Rows.uptoBulkAll]; omega
theorem br_slice {α : Type} {n : Nat} {ts t : TypeId} {sz : Nat} {c : α → List V} {b : α → Nat} (hts : prog.underlying ts = some (.slice t)) (hsz : prog.cellsOf t = sz) (hpos : 0 < sz) (hc : ∀ a, (c a).length = sz)
    (h : ∀ m, m + 1 = n → Br enc W m t c b) : Br enc W n ts (fun l : List α => [encL c sz l]) (fun l => sumB b l + 1) := by
  intro cs x hx hbk
  rcases DataW.trod_slice (P := prog) hts hx with ⟨rfl, rfl⟩ | ⟨a, len, cap, elems, rest, m, rfl, rfl, rfl, _, hle, hcap, hlen, hel, _, _⟩
  · exact ⟨[], by simp [sumB, Rows.uptoBulk], Cells.one ⟨none, 0, 0, 0, rfl, Nat.le_refl _, by unfold capMax; omega, by unfold maxEls; simp, .inl rfl, trivial⟩ rfl⟩
  · have hbr := h m rfl
    have hba : Rows.uptoBulkAll (elems.map (·.1)) ≤ 1048576 := by simp only [Rows.uptoBulk] at hbk; omega
    have hln := bulk_len (elems.map (·.1))
    rw [List.length_map] at hln
    rw [hsz] at hel
    have step : ∀ i, i < len → ∃ y : α, (∀ e, elems[i]? = some e → b y ≤ Rows.uptoBulk e.1) ∧ ∃ ecs, W.cells? 0 (a.add (i * sz)) sz = some ecs ∧ Cells W (c y) ecs := by
      intro i hi
      have h1 := hel i hi
      have hil : i < elems.length := by omega
      rw [List.getElem?_eq_getElem hil] at h1
      simp only [Option.bind_eq_some_iff] at h1
      obtain ⟨ecs, h2, h3⟩ := h1
      obtain ⟨y, hy1, hy2⟩ := hbr ecs _ h3 (Nat.le_trans (bulk_part (List.mem_map.2 ⟨_, List.getElem_mem hil, rfl⟩)) hba)
      refine ⟨y, fun e he => ?_, ecs, h2, hy2⟩
      rw [List.getElem?_eq_getElem hil] at he
      cases he; exact hy1
    obtain ⟨f, hf⟩ : ∃ f : Nat → Option α, ∀ i, i < len → ∃ y, f i = some y ∧ (∀ e, elems[i]? = some e → b y ≤ Rows.uptoBulk e.1) ∧ ∃ ecs, W.cells? 0 (a.add (i * sz)) sz = some ecs ∧ Cells W (c y) ecs := by
      refine ⟨fun i => if h : i < len then some (Classical.choose (step i h)) else none, fun i hi => ?_⟩
      exact ⟨Classical.choose (step i hi), by simp [hi], Classical.choose_spec (step i hi)⟩
    have hl : ∀ k, k ≤ len → ∃ l : List α, l.length = k ∧ ∀ i, i < k → f i = l[i]? := by
      intro k
      induction k with
      | zero => intro _; exact ⟨[], rfl, fun i hi => by omega⟩
      | succ k ih =>
        intro hk
        obtain ⟨l, h1, h2⟩ := ih (by omega)
        obtain ⟨y, hy, _⟩ := hf k (by omega)
        refine ⟨l ++ [y], by simp [h1], fun i hi => ?_⟩
        rcases Nat.lt_succ_iff_lt_or_eq.1 hi with h3 | rfl
        · rw [List.getElem?_append_left (by omega)]; exact h2 i h3
        · rw [List.getElem?_append_right (by omega), h1]; simpa using hy
    obtain ⟨l, hl1, hl2⟩ := hl len (Nat.le_refl _)
    have hat : ∀ i y, l[i]? = some y → (∀ e, elems[i]? = some e → b y ≤ Rows.uptoBulk e.1) ∧ ∃ ecs, W.cells? 0 (a.add (i * sz)) sz = some ecs ∧ Cells W (c y) ecs := by
      intro i y hy
      have hi : i < len := by rw [← hl1]; exact (List.getElem?_eq_some_iff.1 hy).1
      obtain ⟨z, h1, h2⟩ := hf i hi
      rw [hl2 i hi, hy] at h1
      cases h1; exact h2
    refine ⟨l, ?_, Cells.one ?_ rfl⟩
    · have := sumB_le (b := b) (l := l) (es := elems) (by omega) fun i y e h1 h2 => (hat i y h1).1 e h2
      simp only [Rows.uptoBulk]; omega
    · have hspot : l ≠ [] → a.spot = none ∧ a.block < W.heap.size := by
        intro hne
        obtain ⟨y, hy⟩ : ∃ y, l[0]? = some y := by cases l with | nil => exact absurd rfl hne | cons y l => exact ⟨y, rfl⟩
        obtain ⟨_, ecs, h1, h2⟩ := hat 0 y hy
        obtain ⟨_, g1, g2⟩ := World.cells?_some h1
        have h3 := g2 0 hpos
        have hel : ecs.length = sz := g1
        obtain ⟨e0, he0⟩ : ∃ e0, ecs[0]? = some e0 := ⟨ecs[0]'(by omega), List.getElem?_eq_getElem (by omega)⟩
        rw [he0] at h3
        simpa [Addr.add] using cell_spot h3
      refine ⟨some a, cap, a.block, a.off, by simp [hl1], by simpa [hl1] using hle, by unfold capMax; unfold maxLen at hcap; omega, ?_, ?_, prepE_mk fun i e he => ?_⟩
      · rw [List.length_map]; unfold maxEls; omega
      · by_cases hne : l = []
        · left; simp [hne]
        · right
          have := (hspot hne).1
          cases a; simp_all
      · rw [List.getElem?_map] at he
        cases hy : l[i]? with
        | none => rw [hy] at he; cases he
        | some y =>
          rw [hy] at he
          simp only [Option.map_some, Option.some.injEq] at he
          subst he
          obtain ⟨_, ecs, h1, h2⟩ := hat i y hy
          obtain ⟨_, g1, g2⟩ := World.cells?_some h1
          obtain ⟨hsp, hbl⟩ := hspot (by intro e; rw [e] at hy; simp at hy)
          refine ⟨hc y, prepC_mk fun j x hx => ?_⟩
          obtain ⟨v, k1, k2⟩ := prepL_get h2.1 hx
          have hj : j < sz := by rw [← hc y]; exact (List.getElem?_eq_some_iff.1 hx).1
          have h3 := g2 j hj
          rw [k1, addr_add hsp, addr_add rfl] at h3
          refine ⟨v, ?_, hbl, h2.2 v (List.mem_of_getElem? k1), k2⟩
          rw [Nat.zero_add, ← Nat.add_assoc]
          exact h3
theorem split2 {α : Type} {cs : List α} {a b : Nat} (h : cs.length = a + b) : cs = (cs.drop 0).take a ++ (cs.drop a).take b := by
  rw [List.drop_zero, List.take_of_length_le (l := cs.drop a) (by simp; omega), List.take_append_drop]
theorem split3 {α : Type} {cs : List α} {a b c : Nat} (h : cs.length = a + b + c) : cs = (cs.drop 0).take a ++ ((cs.drop a).take b ++ (cs.drop (a + b)).take c) := by
  have h1 : cs.drop a = (cs.drop a).take b ++ (cs.drop (a + b)).take c := by
    rw [List.take_of_length_le (l := cs.drop (a + b)) (by simp; omega), ← List.drop_drop, List.take_append_drop]
  rw [← h1, List.drop_zero, List.take_append_drop]
theorem tbs_sumB (l : List Term) : sumB tb l = tbs l := by
  induction l with
  | nil => rfl
  | cons a l ih => simp only [sumB, tbs, tb.tbs, ih]
theorem sum_rbs : ∀ l : List ARule, sumB (fun x : ARule => 1 + tb x.left + tb x.right) l = rbs l
  | [] => rfl
  | a :: l => by simp only [sumB, rbs, sum_rbs l]
theorem c9 : prog.cellsOf 9 = 1 := by kernel_rfl
theorem c4 : prog.cellsOf 4 = 1 := by kernel_rfl
theorem c3 : prog.cellsOf 3 = 1 := by kernel_rfl
theorem c23 : prog.cellsOf 23 = 1 := by kernel_rfl
theorem c25 : prog.cellsOf 25 = 1 + 1 + 1 := by kernel_rfl
theorem c122 : prog.cellsOf 122 = 3 + 3 := by kernel_rfl
theorem br_term : ∀ n, Br enc W n 25 cT tb
  | 0 => by intro cs x h; simp [DataW.trod] at h
  | n + 1 => by
    intro cs x h hbk
    obtain ⟨xs, m, hm, rfl, hl, hlen, hf⟩ := DataW.trod_struct (P := prog) Go.Proofs.Tryz.underlying25 h
    obtain rfl : n = m := by omega
    rw [c25] at hl
    match xs, hlen with
    | [x0, x1, x2], _ =>
    have f0 : trd enc W n 9 ((cs.drop 0).take (prog.cellsOf 9)) = some x0 := hf 0 _ rfl
    have f1 : trd enc W n 4 ((cs.drop 1).take (prog.cellsOf 4)) = some x1 := hf 1 _ rfl
    have f2 : trd enc W n 23 ((cs.drop 2).take (prog.cellsOf 23)) = some x2 := hf 2 _ rfl
    rw [c9] at f0; rw [c4] at f1; rw [c23] at f2
    simp only [List.map_cons, List.map_nil, Rows.uptoBulk, Rows.uptoBulkAll] at hbk ⊢
    obtain ⟨s, b0, d0⟩ := br_str _ _ f0 (by omega)
    obtain ⟨v, b1, d1⟩ := br_bool _ _ f1 (by omega)
    obtain ⟨l, b2, d2⟩ := br_slice (n := n) (sz := 3) (c := cT) (b := tb) Go.Proofs.Tryz.underlying23 c25 (by omega) (fun _ => rfl) (fun m hm => br_term m) _ _ f2 (by omega)
    try dsimp only at b0
    try dsimp only at b1
    try dsimp only at b2
    refine ⟨.mk s v l, ?_, ?_⟩
    · rw [tbs_sumB] at b2
      simp only [tb]
      simp only [tbs] at b2
      omega
    · rw [split3 hl, cT_eq]
      exact d0.app (d1.app d2)
theorem br_rule : ∀ n, Br enc W n 122 cR (fun x => 1 + tb x.left + tb x.right)
  | 0 => by intro cs x h; simp [DataW.trod] at h
  | n + 1 => by
    intro cs x h hbk
    obtain ⟨xs, m, hm, rfl, hl, hlen, hf⟩ := DataW.trod_struct (P := prog) Go.Proofs.Tryz.underlying122 h
    obtain rfl : n = m := by omega
    rw [c122] at hl
    match xs, hlen with
    | [x0, x1], _ =>
    have f0 : trd enc W n 25 ((cs.drop 0).take (prog.cellsOf 25)) = some x0 := hf 0 _ rfl
    have f1 : trd enc W n 25 ((cs.drop 3).take (prog.cellsOf 25)) = some x1 := hf 1 _ rfl
    rw [c25] at f0 f1
    simp only [List.map_cons, List.map_nil, Rows.uptoBulk, Rows.uptoBulkAll] at hbk ⊢
    obtain ⟨s, b0, d0⟩ := br_term n _ _ f0 (by omega)
    obtain ⟨v, b1, d1⟩ := br_term n _ _ f1 (by omega)
    try dsimp only at b0
    try dsimp only at b1
    refine ⟨⟨s, v⟩, by dsimp only; omega, ?_⟩
    rw [split2 hl]
    exact d0.app d1
theorem br_rules {n : Nat} : Br enc W n 22 (fun r : List ARule => [encRs r]) (fun r => rbs r) := by
  intro cs x h hbk
  obtain ⟨l, b0, d0⟩ := br_slice (n := n) (sz := 6) (c := cR) (b := fun x => 1 + tb x.left + tb x.right) Go.Proofs.Tryz.underlying22 c122 (by omega) (fun _ => rfl) (fun m hm => br_rule m) _ _ h hbk
  refine ⟨l, ?_, d0⟩
  have : sumB (fun x : ARule => 1 + tb x.left + tb x.right) l = rbs l := sum_rbs l
  dsimp only at b0 ⊢
  omega
end
end Go.Dw
end
section
namespace Go.Dw
open Go.ChangeShapes Go.WideShapes Go.ChangeAt Go.RowKit Go.Proofs
theorem post_same {H : Type} {enc : TypeId × Value → H} {P : Program} {f : Func} {s : ChangeSpec} {apart fresh handsOn again : Bool} {W W' : World} {args : Array Value} {v : Value} {ds gs : List (DataW H)} {before pa pv : List MemPlace}
    (hW : DataW.Whole enc P f.params.toList s.vars apart W args.toList ds gs before)
    (hres : ∀ (b : Nat) (sp : Nat → Bool) (hd : Bool), DataW.TrodAll enc P W' b sp hd f.resultTypes.toList (v.resultList f.resultTypes.size) (s.fn H (ds ++ gs)).results [])
    (hargs : ∀ sp : Nat → Bool, (∀ p ∈ before, sp p.block = true) → DataW.TrodAll enc P W' 0 sp true f.params.toList args.toList (s.fn H (ds ++ gs)).args pa)
    (hvars : ∀ sp : Nat → Bool, (∀ p ∈ before, sp p.block = true) → DataW.TrodVars enc P W' sp s.vars (s.fn H (ds ++ gs)).vars pv)
    (hps : before = pa ++ pv) (hk : W.keptBut W' (· ∈ before)) (hfz : ∀ a : Addr, a.block < W.heap.size → W'.frozen? a = W.frozen? a)
    (hok : ∀ (j : Nat) (t : TypeId) (r : Value), f.resultTypes[j]? = some t → (v.resultList f.resultTypes.size)[j]? = some r → Value.okWide P W' .any 0 t r) :
    s.post enc P f apart fresh handsOn again W args v W' := by
  have hold : ∀ p ∈ before, (fun b => decide (b < W.heap.size)) p.block = true := fun p hp => by simpa using hW.lt p hp
  have hlt := hW.lt
  refine ⟨ds, gs, before, [], pa, pv, hW, hres _ _ _, hargs _ hold, hvars _ hold, World.keptBut_mono (fun p hp => ⟨hp, ?_⟩) hk, fun _ => ?_⟩
  · rw [hps, List.mem_append] at hp
    exact Or.inr hp
  · obtain ⟨_, _, _, _, _, hz, hn⟩ := hW
    refine ⟨hok, _, _, ([] ++ pa) ++ pv, ⟨[] ++ pa, pv, trodAll_append (hargs _ (fun _ _ => rfl)) (hres _ _ _), hvars _ (fun _ _ => rfl), rfl, ?_, ?_⟩, ?_⟩
    · intro b off hp
      have hp' : MemPlace.cell b off ∈ before := by rw [hps]; simpa using hp
      rw [hfz _ (hlt _ hp')]
      exact hz b off hp'
    · intro ha
      have := hn ha
      rw [hps] at this
      simpa using this
    · intro p hp _
      rw [hps]
      simpa using hp
theorem trodAll_old {H : Type} {enc : TypeId × Value → H} {P : Program} {W W' : World} (hh : ∀ b, b < W.heap.size → W'.heap[b]? = W.heap[b]?) {base : Nat} {sp : Nat → Bool} {held : Bool} :
    ∀ {ts : List TypeId} {vs : List Value} {ds : List (DataW H)} {ps : List MemPlace}, DataW.TrodAll enc P W base sp held ts vs ds ps → DataW.TrodAll enc P W' base sp held ts vs ds ps
  | [], [], [], _, h => h
  | [], [], _ :: _, _, h => h.elim
  | [], _ :: _, _, _, h => h.elim
  | _ :: _, [], _, _, h => h.elim
  | _ :: _, _ :: _, [], _, h => h.elim
  | t :: ts, v :: vs, d :: ds, ps, ⟨p, q, ⟨n, h1⟩, h2, e⟩ => by
    refine ⟨p, q, ⟨n, DataW.trod_carry n _ _ _ h1 fun x hx => ?_⟩, trodAll_old hh h2, e⟩
    have hl := DataW.trod_lt n _ _ _ h1 x hx
    cases x with
    | cell b o => exact World.cell?_of_block (w := W) (hh b hl)
    | map b => exact hh b hl
end Go.Dw
end
section
namespace Go.Dw
theorem r01_Letters_s (s : Str) (h1 : s.length < 2 ^ 62) : PF n_r01_Letters [.str s] (.bool (s.all letter)) := by
  refine pf_of r01_Letters.ok rfl ?_
  push_cast
  refine loop_up (n := s.length) (R := fun k => (s.drop k).all letter = s.all letter → r01_Letters.L3 (.str s) (.int .i64 s.length) (.int .i64 k) 0 [] _) ?_ ?_ 0 (by omega) rfl
  · intro k hk ih hq
    rw [drop_getD hk] at hq
    simp only [List.all_cons] at hq
    refine r01_Letters.G3 ?_
    have hb : btV s k = ((s.getD k default).toNat : Int) := rfl
    push_cast [ilt hk, hb]
    refine .of (r01_letter_s _) ?_
    push_cast [w64 (show k < 2 ^ 62 by omega)]
    refine ⟨fun h => pf_ret ?_, fun h => ih ?_⟩
    · push_cast [r01_Letters.rs]
      rw [← hq]; simp_all
    · rw [← hq]; simp_all
  · intro hq
    refine r01_Letters.G3 ?_
    push_cast [inlt (Nat.le_refl _)]
    refine pf_ret ?_
    push_cast [r01_Letters.rs]
    rw [← hq, drop_map_none]; rfl
theorem hasSuf_last {s : Str} (h : s ≠ []) : hasSuf s [35] = decide (btV s (s.length - 1) = 35) := by
  have hl : 0 < s.length := List.length_pos_iff.2 h
  have e : s.drop (s.length - 1) = [s.getD (s.length - 1) default] := by
    rw [drop_getD (show s.length - 1 < s.length by omega), show s.length - 1 + 1 = s.length by omega, drop_map_none]
  have e2 : btV s (s.length - 1) = ((s.getD (s.length - 1) default).toNat : Int) := rfl
  unfold hasSuf
  rw [e2]
  simp only [List.length_singleton]
  rw [decide_eq_true (show 1 ≤ s.length by omega), Bool.true_and, decide_eq_decide, e]
  generalize s.getD (s.length - 1) default = c
  constructor
  · intro h; simp only [List.cons.injEq, and_true] at h; rw [h]; rfl
  · intro h; simp only [List.cons.injEq, and_true]; exact UInt8.toNat_inj.1 (show c.toNat = 35 by omega)
theorem r01_Marked_s (s : Str) (h1 : s.length < 2 ^ 62) : PF n_r01_Marked [.str s] (.bool (hasSuf s [35])) := by
  refine pf_of r01_Marked.ok rfl ?_
  by_cases h : s = []
  · subst h
    push_cast
    refine pf_ret ?_
    push_cast [r01_Marked.rs]
    rfl
  · have hl : 0 < s.length := List.length_pos_iff.2 h
    have hlt : (((s.length - 1 : Nat) : Int) < (s.length : Int)) = True := eq_true (by omega)
    push_cast [h, sub1 h1 hl, hlt]
    refine pf_ret ?_
    push_cast [r01_Marked.rs, hasSuf_last h]
theorem r01_IsName_s (s : Str) (m : Bool) (h1 : s.length < 2 ^ 62) : PF n_r01_IsName [.str s, .bool m] (.bool (isName s m)) := by
  refine pf_of r01_IsName.ok rfl ?_
  push_cast
  refine ⟨fun h => pf_ret ?_, fun h => ?_⟩
  · push_cast [r01_IsName.rs, isName]
    rw [show decide (s.length ≤ 24) = false from decide_eq_false (by omega)]; rfl
  · have hlen : s.length ≤ 24 := by omega
    have hu : isName s m = (!decide (nameOf s m = []) && (nameOf s m).all letter) := by simp [isName, hlen]
    rw [hu]
    have hnl := nameOf_len s m
    have hL := r01_Letters_s (nameOf s m) (by omega)
    have fin2 : ∀ u : Str, u = nameOf s m → PF n_r01_Letters [.str u] (.bool ((nameOf s m).all letter)) := fun u hu => hu ▸ hL
    cases m with
    | false =>
      have hn : s = nameOf s false := rfl
      push_cast
      rw [← hn]
      by_cases h0 : s = []
      · push_cast [h0]
        exact pf_ret (by push_cast [r01_IsName.rs])
      · push_cast [h0]
        refine .of (fin2 s hn) ?_
        push_cast
        exact pf_ret (by push_cast [r01_IsName.rs]; rw [← hn])
    | true =>
      push_cast
      refine .of (r01_Marked_s s h1) ?_
      cases hm : hasSuf s [35] with
      | false =>
        have hn : s = nameOf s true := by simp [nameOf, trimSuf, hm]
        push_cast
        rw [← hn]
        by_cases h0 : s = []
        · push_cast [h0]
          exact pf_ret (by push_cast [r01_IsName.rs])
        · push_cast [h0]
          refine .of (fin2 s hn) ?_
          push_cast
          exact pf_ret (by push_cast [r01_IsName.rs]; rw [← hn])
      | true =>
        have hn : (s.drop 0).take (s.length - 1 - 0) = nameOf s true := by simp [nameOf, trimSuf, hm]
        have hl : 0 < s.length := by
          unfold hasSuf at hm; simp only [Bool.and_eq_true, decide_eq_true_eq, List.length_singleton] at hm; omega
        have hle : s.length - 1 ≤ s.length := by omega
        by_cases h0 : nameOf s true = []
        · push_cast [sub1 h1 hl, hn, hle, h0]
          refine ⟨by omega, ?_⟩
          exact pf_ret (by push_cast [r01_IsName.rs, h0])
        · push_cast [sub1 h1 hl, hn, hle, h0]
          refine ⟨by omega, .of hL ?_⟩
          push_cast
          exact pf_ret (by push_cast [r01_IsName.rs, h0])
end Go.Dw
end
section
namespace Go.Dw
theorem r01_Size_s (t : Term) (hs : size t < 2 ^ 62) : PF n_r01_Size [encT t] (.int .i64 (size t)) := by
  induction t using term_ind with
  | h t ih =>
  refine pf_of r01_Size.ok rfl ?_
  have hst := size_args t
  have hl := length_le_sizes t.args
  push_cast
  refine loop_up (n := t.args.length) (R := fun k => r01_Size.L3 (.int .i64 ((1 + sizes (t.args.take k) : Nat) : Int)) (encTs t.args) (.int .i64 t.args.length) (.int .i64 k) 0 [] _) ?_ ?_ 0 (by omega)
  · intro k hk ih2
    have h1 := sizes_take_succ _ _ hk
    have h2 := sizes_take_le t.args (k+1)
    have hm := getD_mem hk
    refine r01_Size.G3 ?_
    push_cast [ilt hk]
    refine .of (ih _ hm (by omega)) ?_
    push_cast [w64 (show k < 2 ^ 62 by omega)]
    rw [wrap64 (by omega) (by omega)]
    rw [h1] at ih2
    simpa [Int.add_assoc] using ih2
  · refine r01_Size.G3 ?_
    push_cast [inlt (Nat.le_refl _)]
    refine pf_ret ?_
    push_cast [r01_Size.rs, List.take_length, hst]
theorem r01_Depth_s (t : Term) (hs : size t < 2 ^ 62) : PF n_r01_Depth [encT t] (.int .i64 (depth t)) := by
  induction t using term_ind with
  | h t ih =>
  refine pf_of r01_Depth.ok rfl ?_
  have hst := size_args t
  have hl := length_le_sizes t.args
  have hd := depths_le_sizes t.args
  push_cast
  refine loop_up (n := t.args.length) (R := fun k => r01_Depth.L3 (.int .i64 (depths (t.args.take k) : Nat)) (encTs t.args) (.int .i64 t.args.length) (.int .i64 k) 0 [] _) ?_ ?_ 0 (by omega)
  · intro k hk ih2
    have h1 := depths_take_succ _ _ hk
    have hm := getD_mem hk
    have := size_mem hm
    refine r01_Depth.G3 ?_
    push_cast [ilt hk]
    refine .of (ih _ hm (by omega)) ?_
    push_cast [w64 (show k < 2 ^ 62 by omega)]
    rw [h1] at ih2
    exact ih2
  · refine r01_Depth.G3 ?_
    push_cast [inlt (Nat.le_refl _)]
    rw [wrap64 (by have := depths_take_le t.args t.args.length; omega) (by have := depths_take_le t.args t.args.length; omega)]
    refine pf_ret ?_
    push_cast [r01_Depth.rs, List.take_length, depth_args t]
theorem r01_Formed_s (t : Term) (hs : tb t < 2 ^ 62) : PF n_r01_Formed [encT t] (.bool (formed t)) := by
  induction t using term_ind with
  | h t ih =>
  have htb := tb_args t
  have hl := length_le_tbs t.args
  have hI : ∀ m, PF n_r01_IsName [.str t.name, .bool m] (.bool (isName t.name m)) := fun m => r01_IsName_s _ m (by omega)
  refine pf_of r01_Formed.ok rfl ?_
  cases hv : t.var with
  | true =>
    push_cast [hv]
    refine .of (hI false) ?_
    cases hn : isName t.name false
    · push_cast
      exact pf_ret (by push_cast [r01_Formed.rs, formed_eq t, hv, hn])
    · push_cast
      exact pf_ret (by push_cast [r01_Formed.rs, formed_eq t, hv, hn]; simp)
  | false =>
    push_cast [hv]
    refine .of (hI true) ?_
    have hf : formed t = (decide (t.args.length ≤ 8) && (isName t.name true && t.args.all formed)) := by rw [formed_eq, hv]; rfl
    rw [hf]
    cases hn : isName t.name true
    · push_cast
      exact pf_ret (by push_cast [r01_Formed.rs])
    · by_cases h0 : t.args.length ≤ 8
      · have hi : ((8 : Int) < (t.args.length : Int)) = False := eq_false (by omega)
        push_cast [hi, h0]
        refine loop_up (n := t.args.length) (R := fun k => (t.args.drop k).all formed = t.args.all formed → r01_Formed.L3 (encTs t.args) (.int .i64 t.args.length) (.int .i64 k) 0 [] _) ?_ ?_ 0 (by omega) rfl
        · intro k hk ih2 hq
          rw [drop_getD hk] at hq
          simp only [List.all_cons] at hq
          have hm := getD_mem hk
          refine r01_Formed.G3 ?_
          push_cast [ilt hk]
          refine .of (ih _ hm (by have := tb_mem hm; omega)) ?_
          push_cast [w64 (show k < 2 ^ 62 by omega)]
          refine ⟨fun h => pf_ret ?_, fun h => ih2 ?_⟩
          · push_cast [r01_Formed.rs]
            rw [← hq]; simp_all
          · rw [← hq]; simp_all
        · intro hq
          refine r01_Formed.G3 ?_
          push_cast [inlt (Nat.le_refl _)]
          refine pf_ret ?_
          push_cast [r01_Formed.rs]
          rw [← hq, drop_map_none]; rfl
      · have hi : ((8 : Int) < (t.args.length : Int)) = True := eq_true (by omega)
        push_cast [hi, h0]
        exact pf_ret (by push_cast [r01_Formed.rs])
theorem r01_Check_s (t : Term) (hs : tb t < 2 ^ 62) : PF n_r01_Check [encT t] (.int .i64 (check t)) := by
  have hst := size_le_tb t
  refine pf_of r01_Check.ok rfl ?_
  push_cast
  refine .of (r01_Formed_s t hs) ?_
  cases hf : formed t
  · push_cast
    exact pf_ret (by push_cast [r01_Check.rs, check, hf])
  · push_cast
    refine .of (r01_Size_s t (by omega)) ?_
    by_cases h : size t ≤ 4000
    · have hi : ((4000 : Int) < (size t : Int)) = False := eq_false (by omega)
      push_cast [hi]
      refine .of (r01_Depth_s t (by omega)) ?_
      by_cases hd : depth t ≤ 200
      · have hi2 : ((200 : Int) < (depth t : Int)) = False := eq_false (by omega)
        push_cast [hi2]
        exact pf_ret (by push_cast [r01_Check.rs, check, hf, fits, h, hd])
      · have hi2 : ((200 : Int) < (depth t : Int)) = True := eq_true (by omega)
        push_cast [hi2]
        exact pf_ret (by push_cast [r01_Check.rs, check, hf, fits, h, hd])
    · have hi : ((4000 : Int) < (size t : Int)) = True := eq_true (by omega)
      push_cast [hi]
      exact pf_ret (by push_cast [r01_Check.rs, check, hf, fits, h])
theorem r01_CheckAll_s (l : List Term) (hl : l.length < 2 ^ 62) (hs : ∀ t ∈ l, tb t < 2 ^ 62) : PF n_r01_CheckAll [encTs l] (.int .i64 (checks l)) := by
  refine pf_of r01_CheckAll.ok rfl ?_
  push_cast
  refine loop_up (n := l.length) (R := fun k => checks (l.drop k) = checks l → r01_CheckAll.L3 (encTs l) (.int .i64 l.length) (.int .i64 k) 0 [] _) ?_ ?_ 0 (by omega) rfl
  · intro k hk ih hq
    rw [drop_getD hk] at hq
    simp only [checks] at hq
    refine r01_CheckAll.G3 ?_
    push_cast [ilt hk]
    refine .of (r01_Check_s _ (hs _ (getD_mem hk))) ?_
    push_cast [w64 (show k < 2 ^ 62 by omega)]
    refine ⟨fun h => pf_ret ?_, fun h => ih ?_⟩
    · push_cast [r01_CheckAll.rs]
      rw [← hq, if_pos (by simpa using h)]
    · rw [← hq, if_neg (by simpa using h)]
  · intro hq
    refine r01_CheckAll.G3 ?_
    push_cast [inlt (Nat.le_refl _)]
    refine pf_ret ?_
    push_cast [r01_CheckAll.rs]
    rw [← hq, drop_map_none]; rfl
def cmpI (a b : Int) : Int := if a < b then -1 else if b < a then 1 else 0
theorem r01_CompareInts_s (a b : Int) : PF n_r01_CompareInts [.int .i64 a, .int .i64 b] (.int .i64 (cmpI a b)) := by
  refine pf_of r01_CompareInts.ok rfl ?_
  push_cast
  refine ⟨fun h => pf_ret ?_, fun h => ⟨fun h2 => pf_ret ?_, fun h2 => pf_ret ?_⟩⟩ <;> push_cast [r01_CompareInts.rs, cmpI, h]
  · simp_all
  · simp_all
def cmpB : Str → Str → Int
  | [], [] => 0
  | [], _ :: _ => -1
  | _ :: _, [] => 1
  | a :: s, b :: u => if a = b then cmpB s u else cmpI a.toNat b.toNat
theorem cmpB_eq : ∀ a b : Str, cmpB a b = cmpS a b := by
  intro a b
  rw [cmpS_eq]
  induction a generalizing b with
  | nil => cases b <;> simp [cmpB]
  | cons x a ih =>
    cases b with
    | nil => simp [cmpB]
    | cons y b =>
      simp only [cmpB, List.cons_lt_cons_iff]
      by_cases h : x = y
      · subst h
        rw [if_pos rfl, ih]
        have : ¬ x < x := UInt8.lt_irrefl x
        simp [this]
      · rw [if_neg h]
        have h' : ¬ y = x := fun e => h e.symm
        simp only [h, h', false_and, or_false, cmpI, UInt8.lt_iff_toNat_lt]
        norm_cast
theorem r01_CompareNames_s (a b : Str) (ha : a.length < 2 ^ 62) (hb : b.length < 2 ^ 62) : PF n_r01_CompareNames [.str a, .str b] (.int .i64 (cmpS a b)) := by
  rw [← cmpB_eq]
  refine pf_of r01_CompareNames.ok rfl ?_
  have hmn : (if (b.length : Int) < (a.length : Int) then (b.length : Int) else (a.length : Int)) = ((min a.length b.length : Nat) : Int) := by split <;> omega
  push_cast [hmn]
  refine loop_up (n := min a.length b.length) (R := fun k => cmpB (a.drop k) (b.drop k) = cmpB a b → r01_CompareNames.L3 (.str a) (.str b) (.int .i64 (min a.length b.length : Nat)) (.int .i64 k) 0 [] _) ?_ ?_ 0 (by omega) rfl
  · intro k hk ih hq
    have hka : k < a.length := by omega
    have hkb : k < b.length := by omega
    rw [drop_getD hka, drop_getD hkb] at hq
    simp only [cmpB] at hq
    have h1 : btV a k = ((a.getD k default).toNat : Int) := rfl
    have h2 : btV b k = ((b.getD k default).toNat : Int) := rfl
    have hr : ∀ c : UInt8, IntKind.i64.wrap (c.toNat : Int) = c.toNat := fun c => wrap64 (by omega) (by have := UInt8.toNat_lt c; omega)
    refine r01_CompareNames.G3 ?_
    push_cast [ilt hk, ilt hka, ilt hkb, h1, h2, hr, w64 (show k < 2 ^ 62 by omega)]
    refine ⟨fun h => .of (r01_CompareInts_s _ _) ?_, fun h => ih ?_⟩
    · push_cast
      refine pf_ret ?_
      push_cast [r01_CompareNames.rs]
      rw [← hq, if_neg]
      intro e; rw [e] at h; exact h rfl
    · rw [← hq, if_pos]
      exact UInt8.toNat_inj.1 (Int.ofNat.inj (by simpa using h))
  · intro hq
    refine r01_CompareNames.G3 ?_
    push_cast [inlt (Nat.le_refl _)]
    refine .of (r01_CompareInts_s _ _) ?_
    push_cast
    refine pf_ret ?_
    push_cast [r01_CompareNames.rs]
    rw [← hq]
    rcases Nat.lt_or_ge a.length b.length with h | h
    · rw [Nat.min_eq_left (by omega), drop_map_none, drop_getD h]
      simp [cmpB, cmpI]; omega
    · rw [Nat.min_eq_right (by omega), drop_map_none]
      rcases Nat.lt_or_ge b.length a.length with h2 | h2
      · rw [drop_getD h2]
        simp [cmpB, cmpI]; omega
      · rw [show b.length = a.length by omega, drop_map_none]
        simp [cmpB, cmpI]
end Go.Dw
end
section
namespace Go.Dw
mutual
def count (v : Str) : Term → Nat
  | .mk n b l => (if b && decide (n = v) then 1 else 0) + counts v l
def counts (v : Str) : List Term → Nat
  | [] => 0
  | a :: l => count v a + counts v l
end
theorem count_eq (v : Str) (t : Term) : count v t = (if t.var && decide (t.name = v) then 1 else 0) + counts v t.args := by cases t; rfl
theorem counts_append (v : Str) (a b : List Term) : counts v (a ++ b) = counts v a + counts v b := by
  induction a with
  | nil => simp [counts]
  | cons x xs ih => simp [counts, ih]; omega
theorem counts_take_succ (v : Str) (l : List Term) (k : Nat) (h : k < l.length) : counts v (l.take (k+1)) = counts v (l.take k) + count v (l.getD k default) := by
  rw [take_succ_getD h, counts_append]; simp [counts]
theorem counts_take_le (v : Str) (l : List Term) (k : Nat) : counts v (l.take k) ≤ counts v l := by
  conv => rhs; rw [← List.take_append_drop k l]
  rw [counts_append]; omega
mutual
theorem count_le (v : Str) : ∀ t, count v t ≤ size t
  | .mk n b l => by simp only [count, size]; have := counts_le v l; split <;> omega
theorem counts_le (v : Str) : ∀ l, counts v l ≤ sizes l
  | [] => by simp [counts, sizes]
  | a :: l => by simp only [counts, sizes]; have := count_le v a; have := counts_le v l; omega
end
theorem r01_Count_s (t : Term) (v : Str) (hs : size t < 2 ^ 62) : PF n_r01_Count [encT t, .str v] (.int .i64 (count v t)) := by
  induction t using term_ind with
  | h t ih =>
  have hst := size_args t
  have hl := length_le_sizes t.args
  have hce := count_eq v t
  have hcl := counts_le v t.args
  have fin : ∀ c : Nat, c ≤ 1 → count v t = c + counts v t.args → r01_Count.L3 (.str v) (.int .i64 c) (encTs t.args) (.int .i64 t.args.length) (.int .i64 0) 0 [] (Ends 0 r01_Count.rs fun x' H' => x' = .int .i64 (count v t) ∧ H' = []) := by
    intro c hc hcv
    refine loop_up (n := t.args.length) (R := fun k => r01_Count.L3 (.str v) (.int .i64 ((c + counts v (t.args.take k) : Nat) : Int)) (encTs t.args) (.int .i64 t.args.length) (.int .i64 k) 0 [] _) ?_ ?_ 0 (by omega)
    · intro k hk ih2
      have h1 := counts_take_succ v _ _ hk
      have h2 := counts_take_le v t.args (k+1)
      have hm := getD_mem hk
      have hm2 := size_mem hm
      refine r01_Count.G3 ?_
      push_cast [ilt hk]
      refine .of (ih _ hm (by omega)) ?_
      push_cast [w64 (show k < 2 ^ 62 by omega)]
      rw [wrap64 (by omega) (by omega)]
      rw [h1] at ih2
      simpa [Int.add_assoc] using ih2
    · refine r01_Count.G3 ?_
      push_cast [inlt (Nat.le_refl _)]
      refine pf_ret ?_
      push_cast [r01_Count.rs, List.take_length, hcv]
  refine pf_of r01_Count.ok rfl ?_
  cases hv : t.var with
  | true =>
    by_cases hn : t.name = v
    · push_cast [hv, hn]
      exact fin 1 (by omega) (by rw [hce]; simp [hv, hn])
    · push_cast [hv, hn]
      exact fin 0 (by omega) (by rw [hce]; simp [hv, hn])
  | false =>
    push_cast [hv]
    exact fin 0 (by omega) (by rw [hce]; simp [hv])
def lbg {α : Type} (p : α → Bool) : List α → Nat
  | [] => 0
  | x :: l => if p x then lbg p l + 1 else 0
theorem lbg_le {α : Type} (p : α → Bool) : ∀ l : List α, lbg p l ≤ l.length
  | [] => Nat.le_refl _
  | x :: l => by simp only [lbg]; have := lbg_le p l; split <;> simp <;> omega
theorem lbg_lt {α : Type} [Inhabited α] {p : α → Bool} : ∀ {l : List α} {j : Nat}, j < lbg p l → p (l.getD j default) = true
  | [], j, h => by simp [lbg] at h
  | x :: l, j, h => by
    simp only [lbg] at h
    split at h
    · rename_i hx
      cases j with
      | zero => simpa using hx
      | succ j => simpa using lbg_lt (l := l) (j := j) (by omega)
    · omega
theorem lbg_ge {α : Type} [Inhabited α] {p : α → Bool} : ∀ {l : List α}, lbg p l < l.length → p (l.getD (lbg p l) default) = false
  | [], h => by simp at h
  | x :: l, h => by
    simp only [lbg] at h ⊢
    split
    · rename_i hx
      rw [if_pos hx] at h
      simpa using lbg_ge (l := l) (by simpa using h)
    · rename_i hx
      simpa using hx
def insS (l : List Str) (s : Str) : List Str := if lbg (fun x => decide (x < s)) l < l.length ∧ l.getD (lbg (fun x => decide (x < s)) l) default = s then l else l.take (lbg (fun x => decide (x < s)) l) ++ s :: l.drop (lbg (fun x => decide (x < s)) l)
theorem mem_insS {l : List Str} {s v : Str} : v ∈ insS l s ↔ v ∈ l ∨ v = s := by
  unfold insS
  split
  · rename_i h
    constructor
    · exact .inl
    · rintro (h2 | rfl)
      · exact h2
      · rw [← h.2]; exact getD_mem h.1
  · generalize lbg (fun x => decide (x < s)) l = k
    have := List.take_append_drop k l
    constructor
    · intro h
      simp only [List.mem_append, List.mem_cons] at h
      rcases h with h | h | h
      · exact .inl (List.mem_of_mem_take h)
      · exact .inr h
      · exact .inl (List.mem_of_mem_drop h)
    · rintro (h | rfl)
      · rw [← this] at h
        simp only [List.mem_append, List.mem_cons] at h ⊢
        rcases h with h | h
        · exact .inl h
        · exact .inr (.inr h)
      · simp
theorem insS_len (l : List Str) (s : Str) : (insS l s).length ≤ l.length + 1 := by
  unfold insS
  have := lbg_le (fun x => decide (x < s)) l
  split <;> simp <;> omega
theorem r01_Insert_s (l : List Str) (s : Str) (hl : l.length < 2 ^ 40) (hn : ∀ x ∈ l, x.length < 2 ^ 62) (hs : s.length < 2 ^ 62) : PF n_r01_Insert [encSs l, .str s] (encSs (insS l s)) := by
  have hle := lbg_le (fun x => decide (x < s)) l
  have hge := @lbg_ge _ _ (fun x => decide (x < s)) l
  have hlt := fun j => @lbg_lt _ _ (fun x => decide (x < s)) l j
  unfold insS
  generalize lbg (fun x => decide (x < s)) l = a at hle hge hlt
  refine pf_of r01_Insert.ok rfl ?_
  push_cast
  refine loop_up (n := a) (R := fun k => r01_Insert.L4 (encSs l) (.str s) (.int .i64 k) 0 [] _) ?_ ?_ 0 (by omega)
  · intro k hk ih
    have hkl : k < l.length := by omega
    have h1 : cmpS (l.getD k default) s < 0 := cmpS_neg.2 (by simpa using hlt k hk)
    refine r01_Insert.G4 ?_
    push_cast [ilt hkl]
    refine .of (r01_CompareNames_s _ _ (hn _ (getD_mem hkl)) hs) ?_
    push_cast [h1, w64 (show k < 2 ^ 62 by omega)]
    exact ih
  · refine r01_Insert.G4 ?_
    have tail : ∀ m : Nat, m ≤ 2 ^ 40 → ∀ b, b ≤ 64 → m * b ≤ maxEls := fun m hm b hb => Nat.le_trans (Nat.mul_le_mul hm hb) (by unfold maxEls; decide)
    rcases Nat.lt_or_ge a l.length with h | h
    · have h2 : ¬ cmpS (l.getD a default) s < 0 := fun hc => by have := cmpS_neg.1 hc; have := hge h; simp_all
      push_cast [ilt h]
      refine .of (r01_CompareNames_s _ _ (hn _ (getD_mem h)) hs) ?_
      by_cases he : l.getD a default = s
      · rw [he] at h2
        push_cast [h2, ilt h, he, h]
        exact pf_ret (by push_cast [r01_Insert.rs])
      · push_cast [h2, ilt h, he, h]
        refine ⟨⟨by omega, hle⟩, tail _ (by simp; omega) _ (by omega), tail _ (by simp; omega) _ (by omega), hle, tail _ (by simp; omega) _ (by omega), pf_ret ?_⟩
        push_cast [r01_Insert.rs]
        simp [encL, cS, List.take_of_length_le]
    · push_cast [inlt h]
      rw [if_neg (by omega)]
      refine ⟨⟨by omega, hle⟩, tail _ (by simp; omega) _ (by omega), tail _ (by simp; omega) _ (by omega), hle, tail _ (by simp; omega) _ (by omega), pf_ret ?_⟩
      push_cast [r01_Insert.rs]
      simp [encL, cS, List.take_of_length_le]
mutual
def collectT (l : List Str) : Term → List Str
  | .mk n b ar => collectTs (if b then insS l n else l) ar
def collectTs (l : List Str) : List Term → List Str
  | [] => l
  | a :: ar => collectTs (collectT l a) ar
end
theorem collectT_eq (l : List Str) (t : Term) : collectT l t = collectTs (if t.var then insS l t.name else l) t.args := by cases t; rfl
theorem collectTs_append (a b : List Term) : ∀ l : List Str, collectTs l (a ++ b) = collectTs (collectTs l a) b := by
  induction a with
  | nil => intro l; simp [collectTs]
  | cons x xs ih => intro l; simp [collectTs, ih]
theorem collectTs_take_succ (s : List Str) (l : List Term) (k : Nat) (h : k < l.length) : collectTs s (l.take (k+1)) = collectT (collectTs s (l.take k)) (l.getD k default) := by
  rw [take_succ_getD h, collectTs_append]; simp [collectTs]
mutual
theorem collectT_len : ∀ (t : Term) (l : List Str), (collectT l t).length ≤ l.length + size t
  | .mk n b ar, l => by
    simp only [collectT, size]
    have := collectTs_len ar (if b then insS l n else l)
    have := insS_len l n
    cases b <;> simp at * <;> omega
theorem collectTs_len : ∀ (ar : List Term) (l : List Str), (collectTs l ar).length ≤ l.length + sizes ar
  | [], l => by simp [collectTs, sizes]
  | a :: ar, l => by simp only [collectTs, sizes]; have := collectT_len a l; have := collectTs_len ar (collectT l a); omega
end
mutual
def occ (v : Str) : Term → Bool
  | .mk n b ar => (b && decide (n = v)) || occs v ar
def occs (v : Str) : List Term → Bool
  | [] => false
  | a :: ar => occ v a || occs v ar
end
mutual
theorem mem_collectT (v : Str) : ∀ (t : Term) (l : List Str), v ∈ collectT l t ↔ v ∈ l ∨ occ v t = true
  | .mk n b ar, l => by
    simp only [collectT, occ, mem_collectTs v ar]
    cases b
    · simp
    · simp only [if_true, mem_insS, Bool.true_and, Bool.or_eq_true, decide_eq_true_eq, or_assoc]
      constructor
      · rintro (h | h | h)
        · exact .inl h
        · exact .inr (.inl h.symm)
        · exact .inr (.inr h)
      · rintro (h | h | h)
        · exact .inl h
        · exact .inr (.inl h.symm)
        · exact .inr (.inr h)
theorem mem_collectTs (v : Str) : ∀ (ar : List Term) (l : List Str), v ∈ collectTs l ar ↔ v ∈ l ∨ occs v ar = true
  | [], l => by simp [collectTs, occs]
  | a :: ar, l => by simp only [collectTs, occs, mem_collectTs v ar, mem_collectT v a, Bool.or_eq_true, or_assoc]
end
mutual
theorem occ_len (v : Str) : ∀ t, occ v t = true → v.length < tb t
  | .mk n b ar, h => by
    simp only [occ, Bool.or_eq_true, Bool.and_eq_true, decide_eq_true_eq] at h
    simp only [tb]
    rcases h with ⟨_, rfl⟩ | h
    · omega
    · have := occs_len v ar h; simp only [tbs] at this; omega
theorem occs_len (v : Str) : ∀ l, occs v l = true → v.length < tbs l
  | [], h => by simp [occs] at h
  | a :: ar, h => by
    simp only [occs, Bool.or_eq_true] at h
    simp only [tbs, tb.tbs]
    rcases h with h | h
    · have := occ_len v a h; omega
    · have := occs_len v ar h; simp only [tbs] at this; omega
end
mutual
theorem count_occ (v : Str) : ∀ t, decide (count v t = 0) = !occ v t
  | .mk n b ar => by
    simp only [count, occ]
    have := counts_occ v ar
    cases b <;> by_cases h : n = v <;> simp_all
theorem counts_occ (v : Str) : ∀ l, decide (counts v l = 0) = !occs v l
  | [] => by simp [counts, occs]
  | a :: ar => by
    have h1 := count_occ v a
    have h2 := counts_occ v ar
    have e : counts v (a :: ar) = count v a + counts v ar := rfl
    have e2 : occs v (a :: ar) = (occ v a || occs v ar) := rfl
    rw [e2, Bool.not_or, ← h1, ← h2]
    by_cases c1 : count v a = 0 <;> by_cases c2 : counts v ar = 0 <;> simp [e, c1, c2]
end
theorem tbs_take_le (l : List Term) (k : Nat) : tbs (l.take k) ≤ tbs l := by
  induction l generalizing k with
  | nil => simp
  | cons a l ih => cases k with
    | zero => simp [tbs, tb.tbs]
    | succ k => simp only [List.take_succ_cons, tbs, tb.tbs]; have := ih k; simp only [tbs] at this; omega
theorem r01_collect_s (t : Term) : ∀ (l : List Str), tb t < 2 ^ 39 → l.length + size t < 2 ^ 39 → (∀ x ∈ l, x.length < 2 ^ 62) → PF n_r01_collect [encT t, encSs l] (encSs (collectT l t)) := by
  induction t using term_ind with
  | h t ih =>
  intro l htb hls hn
  have hst := size_args t
  have htb2 := tb_args t
  have hll := length_le_sizes t.args
  have hce := collectT_eq l t
  have fin : ∀ s : List Str, s = (if t.var then insS l t.name else l) → r01_collect.L3 (encSs s) (encTs t.args) (.int .i64 t.args.length) (.int .i64 0) 0 [] (Ends 0 r01_collect.rs fun x' H' => x' = encSs (collectT l t) ∧ H' = []) := by
    intro s hs
    have hsl : s.length ≤ l.length + 1 := by rw [hs]; have := insS_len l t.name; split <;> omega
    have hsn : ∀ x ∈ s, x.length < 2 ^ 62 := by
      intro x hx
      rw [hs] at hx
      split at hx
      · rcases mem_insS.1 hx with h | rfl
        · exact hn x h
        · omega
      · exact hn x hx
    rw [← hs] at hce
    refine loop_up (n := t.args.length) (R := fun k => r01_collect.L3 (encSs (collectTs s (t.args.take k))) (encTs t.args) (.int .i64 t.args.length) (.int .i64 k) 0 [] _) ?_ ?_ 0 (by omega)
    · intro k hk ih2
      have h1 := collectTs_take_succ s _ _ hk
      have h2 := collectTs_len (t.args.take k) s
      have h3 := sizes_take_le t.args (k+1)
      rw [sizes_take_succ _ _ hk] at h3
      have hm := getD_mem hk
      have hm3 := tb_mem hm
      refine r01_collect.G3 ?_
      push_cast [ilt hk]
      refine .of (ih _ hm _ (by omega) (by omega) fun x hx => ?_) ?_
      · rcases (mem_collectTs x _ _).1 hx with h | h
        · exact hsn x h
        · have := occs_len x _ h
          have h4 := tbs_take_le t.args k
          omega
      push_cast [w64 (show k < 2 ^ 62 by omega)]
      rw [h1] at ih2
      exact ih2
    · refine r01_collect.G3 ?_
      push_cast [inlt (Nat.le_refl _)]
      refine pf_ret ?_
      push_cast [r01_collect.rs, List.take_length, hce]
  refine pf_of r01_collect.ok rfl ?_
  cases hv : t.var with
  | true =>
    push_cast [hv]
    refine .of (r01_Insert_s l t.name (by omega) hn (by omega)) ?_
    push_cast
    exact fin _ (by rw [hv]; rfl)
  | false =>
    push_cast [hv]
    exact fin _ (by rw [hv]; rfl)
def varsT (t : Term) : List Str := collectT [] t
theorem r01_Vars_s (t : Term) (ht : tb t < 2 ^ 39) : PF n_r01_Vars [encTs [t]] (encSs (varsT t)) := by
  have := size_le_tb t
  refine pf_of r01_Vars.ok rfl ?_
  push_cast
  rw [show (V.sl 1 [] : V) = encSs (collectTs [] ([t].take 0)) from rfl]
  refine loop_up (n := 1) (R := fun k => r01_Vars.L3 (encSs (collectTs [] ([t].take k))) (encTs [t]) (.int .i64 1) (.int .i64 k) 0 [] _) ?_ ?_ 0 (by omega)
  · intro k hk ih2
    obtain rfl : k = 0 := by omega
    refine r01_Vars.G3 ?_
    push_cast
    refine .of (r01_collect_s t [] ht (by simpa using by omega) (by simp)) ?_
    push_cast
    exact ih2
  · refine r01_Vars.G3 ?_
    push_cast
    refine pf_ret ?_
    push_cast [r01_Vars.rs]
    rfl
def within (a b : Term) : Bool := (varsT a).all fun v => occ v b
theorem r01_Within_s (a b : Term) (ha : tb a < 2 ^ 39) (hb : tb b < 2 ^ 39) : PF n_r01_Within [encT a, encT b] (.bool (within a b)) := by
  have hsa := size_le_tb a
  have hsb := size_le_tb b
  have hvl := collectT_len a []
  have hV := r01_Vars_s a ha
  unfold within
  have e1 : (.sl 3 [cT a] : V) = encTs [a] := rfl
  have hcl : (varsT a).length < 2 ^ 62 := by unfold varsT; simp at hvl; omega
  generalize varsT a = l at hV hcl
  refine pf_of r01_Within.ok rfl ?_
  push_cast [e1]
  refine .of hV ?_
  push_cast
  refine loop_up (n := l.length) (R := fun k => ((l.drop k).all fun v => occ v b) = (l.all fun v => occ v b) → r01_Within.L3 (.ro (cT b) 0) (encSs l) (.int .i64 l.length) (.int .i64 k) 0 [] _) ?_ ?_ 0 (by omega) rfl
  · intro k hk ih hq
    rw [drop_getD hk] at hq
    simp only [List.all_cons] at hq
    refine r01_Within.G3 ?_
    push_cast [ilt hk]
    refine .of (r01_Count_s _ _ (by omega)) ?_
    have hc := count_occ (l.getD k default) b
    push_cast [w64 (show k < 2 ^ 62 by omega)]
    refine ⟨fun h => pf_ret ?_, fun h => ih ?_⟩
    · push_cast [r01_Within.rs]
      rw [← hq]
      have h0 : count (l.getD k default) b = 0 := by omega
      rw [decide_eq_true h0] at hc
      simp_all
    · rw [← hq]
      have h0 : ¬ count (l.getD k default) b = 0 := by omega
      rw [decide_eq_false h0] at hc
      simp_all
  · intro hq
    refine r01_Within.G3 ?_
    push_cast [inlt (Nat.le_refl _)]
    refine pf_ret ?_
    push_cast [r01_Within.rs]
    rw [← hq, drop_map_none]; rfl
theorem r01_Rules_s (r : List ARule) (hs : rbs r < 2 ^ 61) : PF n_r01_Rules [encRs r] (.int .i64 (checkRules r)) := by
  have hl := length_le_rbs r
  refine pf_of r01_Rules.ok rfl ?_
  by_cases h64 : 64 < r.length
  · have hi : ((64 : Int) < (r.length : Int)) = True := eq_true (by omega)
    push_cast [hi]
    refine pf_ret ?_
    push_cast [r01_Rules.rs, checkRules, h64]
  · have hi : ((64 : Int) < (r.length : Int)) = False := eq_false (by omega)
    push_cast [hi, checkRules, h64]
    refine loop_up (n := r.length) (R := fun k => checkPairs (r.drop k) = checkPairs r → r01_Rules.L3 (encRs r) (.int .i64 r.length) (.int .i64 k) 0 [] _) ?_ ?_ 0 (by omega) rfl
    · intro k hk ih hq
      have hm := rbs_mem (getD_mem hk)
      refine r01_Rules.G3 ?_
      rw [drop_getD hk] at hq
      simp only [checkPairs] at hq
      generalize hx : r.getD k default = x at hm hq
      have hA := r01_CheckAll_s [x.left, x.right] (by simp) (by simp; omega)
      push_cast [ilt hk, hx, encTs_two]
      refine .of hA ?_
      push_cast [w64 (show k < 2 ^ 62 by omega)]
      refine ⟨fun h => pf_ret ?_, fun h => ih ?_⟩
      · push_cast [r01_Rules.rs]
        rw [← hq, if_pos h]
      · rw [← hq, if_neg h]
    · intro hq
      refine r01_Rules.G3 ?_
      push_cast [inlt (Nat.le_refl _)]
      refine pf_ret ?_
      push_cast [r01_Rules.rs]
      rw [← hq, drop_map_none]; rfl
end Go.Dw
end
section
namespace Go.Dw
structure ASym where
  name : Str
  arity : Int
  deriving Inhabited, DecidableEq
def cSy (s : ASym) : List V := [.str s.name, .int .i64 s.arity]
abbrev encSys (l : List ASym) : V := encL cSy 2 l
theorem cSy_len (s : ASym) : (cSy s).length = 2 := rfl
theorem cSy_0 (s : ASym) : (cSy s)[0]? = some (.str s.name) := rfl
theorem cSy_1 (s : ASym) : (cSy s)[1]? = some (.int .i64 s.arity) := rfl
theorem own_sym {i : Nat} {l : List ASym} {n : Str} {k : Int} : (.own i 2 (l.map cSy ++ [[V.str n, .int .i64 k]]) : V) = ownL cSy i 2 (l ++ [⟨n, k⟩]) := by simp [ownL, cSy]
attribute [push_cast] cSy_len cSy_0 cSy_1
abbrev syAt (l : List ASym) (n : Str) : Nat := lbg (fun x => decide (x.name < n)) l
def insSy (l : List ASym) (n : Str) (k : Int) : List ASym := if syAt l n < l.length ∧ (l.getD (syAt l n) default).name = n then l else l.take (syAt l n) ++ ⟨n, k⟩ :: l.drop (syAt l n)
mutual
def symT (l : List ASym) : Term → List ASym × Bool
  | .mk n b ar => if b then (l, true) else if marked n then (l, false) else if ((insSy l n ar.length).getD (syAt l n) default).arity ≠ ar.length then (insSy l n ar.length, false) else symTs (insSy l n ar.length) ar
def symTs (l : List ASym) : List Term → List ASym × Bool
  | [] => (l, true)
  | a :: ar => if (symT l a).2 then symTs (symT l a).1 ar else (l, false)
end
theorem symT_eq (l : List ASym) (t : Term) : symT l t = if t.var then (l, true) else if marked t.name then (l, false) else if ((insSy l t.name t.args.length).getD (syAt l t.name) default).arity ≠ t.args.length then (insSy l t.name t.args.length, false) else symTs (insSy l t.name t.args.length) t.args := by cases t; rfl
theorem insSy_len (l : List ASym) (n : Str) (k : Int) : (insSy l n k).length ≤ l.length + 1 := by
  unfold insSy
  have := lbg_le (fun x : ASym => decide (x.name < n)) l
  split <;> simp <;> omega
theorem mem_insSy {l : List ASym} {n : Str} {k : Int} {x : ASym} (h : x ∈ insSy l n k) : x ∈ l ∨ x = ⟨n, k⟩ := by
  unfold insSy at h
  split at h
  · exact .inl h
  · simp only [List.mem_append, List.mem_cons] at h
    rcases h with h | h | h
    · exact .inl (List.mem_of_mem_take h)
    · exact .inr h
    · exact .inl (List.mem_of_mem_drop h)
def Few (M : Nat) (m : Nat) (l : List ASym) : Prop := l.length ≤ m ∧ ∀ x ∈ l, x.name.length < M
theorem Few.ins {M m : Nat} {l : List ASym} (h : Few M m l) {n : Str} {k : Int} (hn : n.length < M) : Few M (m + 1) (insSy l n k) := by
  refine ⟨by have := insSy_len l n k; have := h.1; omega, fun x hx => ?_⟩
  rcases mem_insSy hx with h1 | rfl
  · exact h.2 x h1
  · exact hn
mutual
theorem few_symT {M : Nat} : ∀ (t : Term) (m : Nat) (l : List ASym), Few M m l → tb t ≤ M → Few M (m + size t) (symT l t).1
  | .mk n b ar, m, l, h, ht => by
    simp only [tb] at ht
    have h0 : Few M (m + size (.mk n b ar)) l := ⟨by have := h.1; omega, h.2⟩
    have h1 := h.ins (n := n) (k := ar.length) (by omega)
    have h2 : Few M (m + size (.mk n b ar)) (insSy l n ar.length) := ⟨by have := h1.1; simp only [size]; omega, h1.2⟩
    have h3 := few_symTs ar (m + 1) _ h1 (by simp only [tbs]; omega)
    simp only [symT]
    split
    · exact h0
    split
    · exact h0
    split
    · exact h2
    · exact ⟨by have := h3.1; simp only [size]; omega, h3.2⟩
theorem few_symTs {M : Nat} : ∀ (ar : List Term) (m : Nat) (l : List ASym), Few M m l → tbs ar ≤ M → Few M (m + sizes ar) (symTs l ar).1
  | [], m, l, h, _ => by simpa [symTs, sizes] using h
  | a :: ar, m, l, h, ht => by
    simp only [tbs, tb.tbs] at ht
    have h1 := few_symT a m l h (by omega)
    have h2 := few_symTs ar _ _ h1 (by simp only [tbs]; omega)
    simp only [symTs]
    split
    · exact ⟨by have := h2.1; simp only [sizes]; omega, h2.2⟩
    · exact ⟨by have := h.1; show l.length ≤ _; omega, h.2⟩
end
theorem symTs_append (a b : List Term) : ∀ l : List ASym, (symTs l a).2 = true → symTs l (a ++ b) = symTs (symTs l a).1 b := by
  induction a with
  | nil => intro l _; rfl
  | cons x xs ih =>
    intro l h
    simp only [symTs, List.cons_append] at h ⊢
    by_cases hx : (symT l x).2 = true
    · rw [if_pos hx] at h ⊢
      rw [if_pos hx]
      exact ih _ h
    · rw [if_neg hx] at h
      cases h
set_option maxHeartbeats 1000000 in
theorem r01_symbols_s (t : Term) : ∀ (m : Nat) (l : List ASym), tb t < 2 ^ 39 → m + size t < 2 ^ 39 → Few (2 ^ 39) m l → PF n_r01_symbols [encT t, encSys l] (.tup [encSys (symT l t).1, .bool (symT l t).2]) := by
  induction t using term_ind with
  | h t ih =>
  intro m l htb hms hf
  have hst := size_args t
  have htb2 := tb_args t
  have hll := length_le_sizes t.args
  have hse := symT_eq l t
  have hl : l.length < 2 ^ 39 := by have := hf.1; omega
  refine pf_of r01_symbols.ok rfl ?_
  cases hv : t.var with
  | true =>
    rw [hv, if_pos rfl] at hse
    push_cast [hv]
    exact pf_ret (by push_cast [r01_symbols.rs, hse])
  | false =>
  rw [hv, if_neg (by simp)] at hse
  push_cast [hv]
  refine .of (r01_Marked_s t.name (by omega)) ?_
  cases hmk : hasSuf t.name [35] with
  | true =>
    have hmk' : marked t.name = true := hmk
    rw [hmk', if_pos rfl] at hse
    push_cast
    exact pf_ret (by push_cast [r01_symbols.rs, hse])
  | false =>
  have hmk' : marked t.name = false := hmk
  rw [hmk', if_neg (by simp)] at hse
  have hI := insSy_len l t.name t.args.length
  have hF := hf.ins (n := t.name) (k := t.args.length) (by omega)
  have hle : syAt l t.name ≤ l.length := lbg_le (fun x : ASym => decide (x.name < t.name)) l
  have hge : syAt l t.name < l.length → ¬ (l.getD (syAt l t.name) default).name < t.name := fun h => of_decide_eq_false (@lbg_ge _ _ (fun x : ASym => decide (x.name < t.name)) l h)
  have hlt : ∀ j, j < syAt l t.name → (l.getD j default).name < t.name := fun j h => of_decide_eq_true (@lbg_lt _ _ (fun x : ASym => decide (x.name < t.name)) l j h)
  have hat : syAt l t.name < (insSy l t.name t.args.length).length := by
    unfold insSy
    split
    · rename_i h; exact h.1
    · rw [List.length_append, List.length_take, List.length_cons, Nat.min_eq_left hle]; omega
  have hins : insSy l t.name t.args.length = if syAt l t.name < l.length ∧ (l.getD (syAt l t.name) default).name = t.name then l else l.take (syAt l t.name) ++ ⟨t.name, t.args.length⟩ :: l.drop (syAt l t.name) := rfl
  generalize insSy l t.name t.args.length = l1 at *
  have kids : (l1.getD (syAt l t.name) default).arity = t.args.length → r01_symbols.L3 (encSys l1) (encTs t.args) (.int .i64 t.args.length) (.int .i64 0) 0 [] (Ends 0 r01_symbols.rs fun x' H' => x' = .tup [encSys (symT l t).1, .bool (symT l t).2] ∧ H' = []) := by
    intro har
    rw [if_neg (by simpa using har)] at hse
    rw [hse]
    refine loop_up (n := t.args.length) (R := fun k => (symTs l1 (t.args.take k)).2 = true → r01_symbols.L3 (encSys (symTs l1 (t.args.take k)).1) (encTs t.args) (.int .i64 t.args.length) (.int .i64 k) 0 [] _) ?_ ?_ 0 (by omega) rfl
    · intro k hk ih2 hok
      have hm := getD_mem hk
      have hm3 := tb_mem hm
      have h3 := sizes_take_le t.args (k+1)
      rw [sizes_take_succ _ _ hk] at h3
      have hFk := few_symTs (t.args.take k) _ _ hF (by have := tbs_take_le t.args k; omega)
      have hcat : symTs l1 (t.args.take (k + 1)) = if (symT (symTs l1 (t.args.take k)).1 (t.args.getD k default)).2 then (symT (symTs l1 (t.args.take k)).1 (t.args.getD k default)) else ((symTs l1 (t.args.take k)).1, false) := by
        rw [take_succ_getD hk, symTs_append _ _ _ hok]
        simp only [symTs]
        split
        · rename_i h; exact Prod.ext rfl h.symm
        · rfl
      have hend : (symT (symTs l1 (t.args.take k)).1 (t.args.getD k default)).2 = false → symTs l1 t.args = ((symTs l1 (t.args.take k)).1, false) := by
        intro h
        conv => lhs; rw [← List.take_append_drop k t.args]
        rw [symTs_append _ _ _ hok, drop_getD hk]
        simp only [symTs, h]
        rfl
      refine r01_symbols.G3 ?_
      push_cast [ilt hk]
      refine .of (ih _ hm _ _ (by omega) (by omega) hFk) ?_
      cases hb : (symT (symTs l1 (t.args.take k)).1 (t.args.getD k default)).2 with
      | false =>
        push_cast
        refine pf_ret ?_
        push_cast [r01_symbols.rs, hend hb]
      | true =>
        rw [hb, if_pos rfl] at hcat
        push_cast [w64 (show k < 2 ^ 62 by omega)]
        rw [hcat] at ih2
        exact ih2 hb
    · intro hok
      rw [List.take_length] at hok
      refine r01_symbols.G3 ?_
      push_cast [inlt (Nat.le_refl _)]
      refine pf_ret ?_
      push_cast [r01_symbols.rs, List.take_length, hok]
  generalize syAt l t.name = a at *
  push_cast
  refine loop_up (n := a) (R := fun k => r01_symbols.L9 (encSys l) (.ro (cT t) 0) (.int .i64 k) 0 [] _) ?_ ?_ 0 (by omega)
  · intro k hk ih2
    have hkl : k < l.length := by omega
    have h1 : cmpS (l.getD k default).name t.name < 0 := cmpS_neg.2 (hlt k hk)
    refine r01_symbols.G9 ?_
    push_cast [ilt hkl]
    refine .of (r01_CompareNames_s _ _ (by have := hf.2 _ (getD_mem hkl); omega) (by omega)) ?_
    push_cast [h1, w64 (show k < 2 ^ 62 by omega)]
    exact ih2
  · refine r01_symbols.G9 ?_
    have tail : ∀ m : Nat, m ≤ 2 ^ 40 → ∀ b, b ≤ 64 → m * b ≤ maxEls := fun m hm b hb => Nat.le_trans (Nat.mul_le_mul hm hb) (by unfold maxEls; decide)
    have e1 : (l.drop 0).take (a - 0) = l.take a := by simp
    have e2 : (l.drop a).take (l.length - a) = l.drop a := by rw [List.take_of_length_le]; simp
    rcases Nat.lt_or_ge a l.length with h | h
    · have h2 : ¬ cmpS (l.getD a default).name t.name < 0 := fun hc => hge h (cmpS_neg.1 hc)
      have h3 : ((a : Int) = (l.length : Int)) = False := eq_false (by omega)
      push_cast [ilt h]
      refine .of (r01_CompareNames_s _ _ (by have := hf.2 _ (getD_mem h); omega) (by omega)) ?_
      by_cases he : (l.getD a default).name = t.name
      · rw [if_pos ⟨h, he⟩] at hins
        subst hins
        rw [he] at h2
        push_cast [h2, h3, he, ilt h]
        refine ⟨fun har => pf_ret ?_, fun har => kids (by simpa using har)⟩
        rw [if_pos har] at hse
        push_cast [r01_symbols.rs, hse]
      · rw [if_neg (fun hh => he hh.2)] at hins
        push_cast [h2, h3, he, ilt h, own_sym, e1, e2, List.cons_append, List.nil_append, ← hins, hat]
        refine ⟨⟨by omega, hle⟩, tail _ (by simp; omega) _ (by omega), tail _ (by simp; omega) _ (by omega), hle, ⟨by simp, tail _ (by simp; omega) _ (by omega)⟩, by omega, fun har => pf_ret ?_, fun har => kids (by simpa using har)⟩
        rw [if_pos har] at hse
        push_cast [r01_symbols.rs, hse]
    · rw [if_neg (fun hh => by omega)] at hins
      have h3 : ((a : Int) = (l.length : Int)) = True := eq_true (by omega)
      push_cast (maxSteps := 1000000) [inlt h, h3, own_sym, e1, e2, List.cons_append, List.nil_append, ← hins, hat]
      refine ⟨⟨by omega, hle⟩, tail _ (by simp; omega) _ (by omega), tail _ (by simp; omega) _ (by omega), hle, ⟨by simp, tail _ (by simp; omega) _ (by omega)⟩, by omega, fun har => pf_ret ?_, fun har => kids (by simpa using har)⟩
      rw [if_pos har] at hse
      push_cast [r01_symbols.rs, hse]
end Go.Dw
end
section
namespace Go.Dw
open Go.Proofs (sortS)
def symRs (l : List ASym) : List ARule → List ASym × Bool
  | [] => (l, true)
  | x :: r => if (symT l x.left).2 then if (symT (symT l x.left).1 x.right).2 then symRs (symT (symT l x.left).1 x.right).1 r else ([], false) else ([], false)
theorem r01_Symbols_s (r : List ARule) (hs : rbs r < 2 ^ 38) : PF n_r01_Symbols [encRs r] (.tup [encSys (symRs [] r).1, .bool (symRs [] r).2]) := by
  have hl := length_le_rbs r
  have hw1 : IntKind.i64.wrap 1 = 1 := wrap64 (by omega) (by omega)
  have hw2 : IntKind.i64.wrap 2 = 2 := wrap64 (by omega) (by omega)
  refine pf_of r01_Symbols.ok rfl ?_
  push_cast
  rw [show (V.sl 2 [] : V) = encSys [] from rfl]
  refine loop_up (n := r.length) (R := fun k => ∀ l m, Few (2 ^ 39) m l → m + rbs (r.drop k) < 2 ^ 38 → symRs l (r.drop k) = symRs [] r → r01_Symbols.L6 (encSys l) (encRs r) (.int .i64 r.length) (.int .i64 k) 0 [] (Ends 0 r01_Symbols.rs fun x' H' => x' = .tup [encSys (symRs [] r).1, .bool (symRs [] r).2] ∧ H' = [])) ?_ ?_ 0 (by omega) [] 0 ⟨by simp, by simp⟩ (by simpa using hs) rfl
  · intro k hk ih l m hf hm hq
    have hr := rbs_mem (getD_mem hk)
    rw [drop_getD hk] at hm hq
    simp only [rbs, symRs] at hm hq
    generalize hx : r.getD k default = x at hm hq hr
    have s1 := size_le_tb x.left
    have s2 := size_le_tb x.right
    have hf1 := few_symT x.left m l hf (by omega)
    have hf2 := few_symT x.right _ _ hf1 (by omega)
    refine r01_Symbols.G6 ?_
    push_cast [ilt hk, hx, encTs_two]
    refine r01_Symbols.G4 ?_
    push_cast
    refine .of (r01_symbols_s x.left m l (by omega) (by omega) hf) ?_
    cases h1 : (symT l x.left).2 with
    | false =>
      rw [if_neg (by simp [h1])] at hq
      push_cast
      refine pf_ret ?_
      push_cast [r01_Symbols.rs, ← hq]
      rfl
    | true =>
      rw [if_pos h1] at hq
      push_cast [hw1]
      refine r01_Symbols.G4 ?_
      push_cast
      refine .of (r01_symbols_s x.right _ _ (by omega) (by omega) hf1) ?_
      cases h2 : (symT (symT l x.left).1 x.right).2 with
      | false =>
        rw [if_neg (by simp [h2])] at hq
        push_cast
        refine pf_ret ?_
        push_cast [r01_Symbols.rs, ← hq]
        rfl
      | true =>
        rw [if_pos h2] at hq
        push_cast [hw2]
        refine r01_Symbols.G4 ?_
        push_cast [w64 (show k < 2 ^ 62 by omega)]
        exact ih _ _ hf2 (by omega) hq
  · intro l m hf hm hq
    refine r01_Symbols.G6 ?_
    push_cast [inlt (Nat.le_refl _)]
    refine pf_ret ?_
    rw [drop_map_none] at hq
    push_cast [r01_Symbols.rs, ← hq]
    exact ⟨rfl, rfl⟩
def extraR (x : ARule) : Bool := x.left.var || !within x.right x.left
def checkSystemR (r : List ARule) : Int := if checkRules r ≠ 0 then checkRules r else if (symRs [] r).2 then (if r.any extraR then 7 else 0) else 6
theorem r01_CheckSystem_sR (r : List ARule) (hs : rbs r < 2 ^ 38) : PF n_r01_CheckSystem [encRs r] (.int .i64 (checkSystemR r)) := by
  have hl := length_le_rbs r
  refine pf_of r01_CheckSystem.ok rfl ?_
  push_cast
  refine .of (r01_Rules_s r (by omega)) ?_
  unfold checkSystemR
  by_cases h1 : checkRules r = 0
  · rw [if_neg (by simpa using h1)]
    push_cast [h1]
    refine .of (r01_Symbols_s r hs) ?_
    cases h2 : (symRs [] r).2 with
    | false =>
      push_cast
      refine pf_ret ?_
      push_cast [r01_CheckSystem.rs]
    | true =>
      push_cast
      refine loop_up (n := r.length) (R := fun k => (r.drop k).any extraR = r.any extraR → r01_CheckSystem.L3 (encRs r) (.int .i64 r.length) (.int .i64 k) 0 [] _) ?_ ?_ 0 (by omega) rfl
      · intro k hk ih hq
        have hr := rbs_mem (getD_mem hk)
        rw [drop_getD hk] at hq
        simp only [List.any_cons] at hq
        generalize hx : r.getD k default = x at hq hr
        refine r01_CheckSystem.G3 ?_
        cases hv : x.left.var with
        | true =>
          push_cast [ilt hk, hx, hv]
          refine pf_ret ?_
          push_cast [r01_CheckSystem.rs, ← hq, extraR, hv]
          simp
        | false =>
          push_cast [ilt hk, hx, hv]
          refine .of (r01_Within_s _ _ (by omega) (by omega)) ?_
          cases hw : within x.right x.left with
          | false =>
            push_cast
            refine pf_ret ?_
            push_cast [r01_CheckSystem.rs, ← hq, extraR, hv, hw]
            rfl
          | true =>
            push_cast [w64 (show k < 2 ^ 62 by omega)]
            exact ih (by rw [← hq]; simp [extraR, hv, hw])
      · intro hq
        rw [drop_map_none] at hq
        refine r01_CheckSystem.G3 ?_
        push_cast [inlt (Nat.le_refl _)]
        refine pf_ret ?_
        push_cast [r01_CheckSystem.rs, ← hq]
        rfl
  · rw [if_pos h1]
    push_cast [h1]
    refine pf_ret ?_
    push_cast [r01_CheckSystem.rs]
theorem mem_foldl_addS (v : Str) : ∀ (l ks : List Str), v ∈ l.foldl addS ks ↔ v ∈ ks ∨ v ∈ l
  | [], ks => by simp
  | x :: l, ks => by
    rw [List.foldl_cons, mem_foldl_addS v l]
    unfold addS
    split
    · rename_i h
      simp only [List.mem_cons]
      constructor
      · rintro (h1 | h1)
        · exact .inl h1
        · exact .inr (.inr h1)
      · rintro (h1 | rfl | h1)
        · exact .inl h1
        · exact .inl h
        · exact .inr h1
    · simp [or_assoc]
theorem varsIn_cons (x : List Int × Term) (l : List (List Int × Term)) : varsIn (x :: l) = if x.2.var then x.2.name :: varsIn l else varsIn l := by
  unfold varsIn; rw [List.filter_cons]; split <;> rfl
theorem varsIn_append (a b : List (List Int × Term)) : varsIn (a ++ b) = varsIn a ++ varsIn b := by
  unfold varsIn; rw [List.filter_append, List.map_append]
mutual
theorem mem_varsIn (v : Str) : ∀ (t : Term) (p : List Int), v ∈ varsIn (visit t p) ↔ occ v t = true
  | .mk n b ar, p => by
    have h := mem_varsIns v ar p 0
    rw [visit_eq, varsIn_cons]
    cases b
    · rw [if_neg (by simp [Term.var])]
      simpa [occ, Term.args] using h
    · rw [if_pos (by simp [Term.var])]
      simp only [occ, Bool.true_and, Bool.or_eq_true, decide_eq_true_eq, List.mem_cons, ← h]
      exact ⟨fun h => h.imp (fun e => e.symm) id, fun h => h.imp (fun e => e.symm) id⟩
theorem mem_varsIns (v : Str) : ∀ (ar : List Term) (p : List Int) (i : Nat), v ∈ varsIn (visits ar p i) ↔ occs v ar = true
  | [], p, i => by simp [visits, varsIn, occs]
  | a :: ar, p, i => by
    have h1 := mem_varsIn v a (p ++ [(i : Int)])
    have h2 := mem_varsIns v ar p (i + 1)
    simp only [visits, varsIn_append, List.mem_append, h1, h2, occs, Bool.or_eq_true]
end
theorem mem_varsOf (v : Str) (t : Term) : v ∈ varsOf [t] ↔ occ v t = true := by
  unfold varsOf
  rw [show (v ∈ sortS (vsetT [] [t])) ↔ v ∈ vsetT [] [t] from (List.mergeSort_perm _ _).mem_iff]
  simp only [vsetT, List.foldl_cons, List.foldl_nil, vset, mem_foldl_addS, mem_varsIn, List.not_mem_nil, false_or]
theorem extra_eq (x : ARule) : extra x = extraR x := by
  unfold extra extraR within
  congr 1
  rw [Bool.eq_iff_iff]
  simp only [List.any_eq_true, Bool.not_eq_true', decide_eq_false_iff_not, mem_varsOf, List.all_eq_false, varsT, mem_collectT, List.not_mem_nil, false_or]
theorem getA_append (m : Ars) (n v : Str) (k : Nat) : getA (m ++ [(n, k)]) v = match getA m v with | some a => some a | none => if n = v then some k else none := by
  induction m with
  | nil => simp [getA]
  | cons p m ih =>
    simp only [List.cons_append, getA]
    split
    · rfl
    · exact ih
def getSy : List ASym → Str → Option Int
  | [], _ => none
  | x :: l, n => if x.name = n then some x.arity else getSy l n
abbrev SySorted (l : List ASym) : Prop := l.Pairwise fun a b => a.name < b.name
theorem getSy_none {l : List ASym} {n : Str} (h : ∀ x ∈ l, x.name ≠ n) : getSy l n = none := by
  induction l with
  | nil => rfl
  | cons x l ih => simp only [getSy]; rw [if_neg (h x (by simp))]; exact ih fun y hy => h y (by simp [hy])
theorem getSy_at {n : Str} : ∀ {l : List ASym}, SySorted l → getSy l n = if syAt l n < l.length ∧ (l.getD (syAt l n) default).name = n then some (l.getD (syAt l n) default).arity else none
  | [], _ => by simp [getSy]
  | x :: l, hs => by
    obtain ⟨h1, h2⟩ := List.pairwise_cons.1 hs
    have ih := getSy_at (n := n) h2
    by_cases hx : x.name < n
    · have e : syAt (x :: l) n = syAt l n + 1 := by simp [syAt, lbg, hx]
      simp only [getSy, e]
      rw [if_neg (fun e2 : x.name = n => slt_irrefl n (by rw [e2] at hx; exact hx)), ih]
      simp
    · have e : syAt (x :: l) n = 0 := by simp only [syAt, lbg]; rw [if_neg (by simpa using hx)]
      simp only [getSy, e]
      by_cases he : x.name = n
      · simp [he]
      · rw [if_neg he]
        simp only [List.length_cons, Nat.zero_lt_succ, true_and, List.getD_cons_zero, he, if_false]
        refine getSy_none fun y hy e => ?_
        have := h1 y hy
        rw [e] at this
        exact hx this
def insR (n : Str) (k : Int) : List ASym → List ASym
  | [] => [⟨n, k⟩]
  | x :: l => if x.name < n then x :: insR n k l else ⟨n, k⟩ :: x :: l
theorem insR_eq (n : Str) (k : Int) : ∀ l : List ASym, l.take (syAt l n) ++ ⟨n, k⟩ :: l.drop (syAt l n) = insR n k l
  | [] => rfl
  | x :: l => by
    have ih := insR_eq n k l
    by_cases hx : x.name < n
    · have e : syAt (x :: l) n = syAt l n + 1 := by simp [syAt, lbg, hx]
      simp only [insR]
      rw [if_pos hx, e, List.take_succ_cons, List.drop_succ_cons, List.cons_append, ih]
    · have e : syAt (x :: l) n = 0 := by simp only [syAt, lbg]; rw [if_neg (by simpa using hx)]
      simp only [insR]
      rw [if_neg hx, e]; rfl
theorem mem_insR {n : Str} {k : Int} {x : ASym} : ∀ {l : List ASym}, x ∈ insR n k l ↔ x = ⟨n, k⟩ ∨ x ∈ l
  | [] => by simp [insR]
  | y :: l => by
    simp only [insR]
    split
    · simp only [List.mem_cons, mem_insR (l := l)]
      constructor
      · rintro (h | h | h)
        · exact .inr (.inl h)
        · exact .inl h
        · exact .inr (.inr h)
      · rintro (h | h | h)
        · exact .inr (.inl h)
        · exact .inl h
        · exact .inr (.inr h)
    · simp
theorem insR_sorted {n : Str} {k : Int} : ∀ {l : List ASym}, SySorted l → (∀ x ∈ l, x.name ≠ n) → SySorted (insR n k l)
  | [], _, _ => by simp [insR, SySorted]
  | x :: l, hs, hn => by
    obtain ⟨h1, h2⟩ := List.pairwise_cons.1 hs
    simp only [insR]
    split
    · rename_i hx
      refine List.pairwise_cons.2 ⟨fun y hy => ?_, insR_sorted h2 fun y hy => hn y (by simp [hy])⟩
      rcases mem_insR.1 hy with rfl | h
      · exact hx
      · exact h1 y h
    · rename_i hx
      have hlt : n < x.name := by
        rcases Classical.em (n < x.name) with h | h
        · exact h
        · exact absurd (slt_eq hx h) (hn x (by simp))
      refine List.pairwise_cons.2 ⟨fun y hy => ?_, hs⟩
      rcases List.mem_cons.1 hy with rfl | h
      · exact hlt
      · exact slt_trans hlt (h1 y h)
theorem getSy_insR {n v : Str} {k : Int} : ∀ {l : List ASym}, (∀ x ∈ l, x.name ≠ n) → getSy (insR n k l) v = if n = v then some k else getSy l v
  | [], _ => by simp [insR, getSy]
  | x :: l, hn => by
    simp only [insR]
    split
    · simp only [getSy]
      rw [getSy_insR fun y hy => hn y (by simp [hy])]
      by_cases h : x.name = v
      · rw [if_pos h, if_pos h, if_neg (fun e => hn x (by simp) (h.trans e.symm))]
      · rw [if_neg h, if_neg h]
    · simp only [getSy]
theorem getSy_some {l : List ASym} {n : Str} {x : ASym} (hx : x ∈ l) (hn : x.name = n) : getSy l n ≠ none := by
  induction l with
  | nil => cases hx
  | cons y l ih =>
    simp only [getSy]
    split
    · simp
    · rename_i h
      rcases List.mem_cons.1 hx with rfl | hx
      · exact absurd hn h
      · exact ih hx
def mk (m : Ars) : Bool := m.any fun p => marked p.1
def Rel (l : List ASym) (m : Ars) : Prop := SySorted l ∧ (∀ n, getSy l n = (getA m n).map fun k : Nat => (k : Int)) ∧ mk m = false
theorem mk_getA {m : Ars} {n : Str} {k : Nat} (h : getA m n = some k) (hm : mk m = false) : marked n = false := by
  induction m with
  | nil => cases h
  | cons p m ih =>
    simp only [mk, List.any_cons, Bool.or_eq_false_iff] at hm
    simp only [getA] at h
    split at h
    · rename_i e; rw [← e]; exact hm.1
    · exact ih h hm.2
theorem arStep_mk {m m' : Ars} {u : Term} (h : arStep m u = some m') (hm : mk m = true) : mk m' = true := by
  unfold arStep at h
  split at h
  · cases h; exact hm
  · split at h
    · split at h
      · cases h; exact hm
      · cases h
    · cases h
      simp only [mk, List.any_append, Bool.or_eq_true] at hm ⊢
      exact .inl hm
theorem arAll_mk : ∀ (l : List (List Int × Term)) {m m' : Ars}, arAll m l = some m' → mk m = true → mk m' = true
  | [], m, m', h, hm => by cases h; exact hm
  | x :: l, m, m', h, hm => by
    simp only [arAll] at h
    cases hs : arStep m x.2 with
    | none => rw [hs] at h; cases h
    | some m1 =>
      rw [hs, Option.bind_some] at h
      exact arAll_mk l h (arStep_mk hs hm)
def Says (o : Option Ars) (s : List ASym × Bool) : Prop := match o with
  | none => s.2 = false
  | some m => if mk m then s.2 = false else s.2 = true ∧ Rel s.1 m
theorem insSy_eq (l : List ASym) (n : Str) (k : Int) (hs : SySorted l) : insSy l n k = if getSy l n = none then insR n k l else l := by
  unfold insSy
  rw [getSy_at hs, insR_eq]
  split
  · simp
  · simp
theorem sy_new {l : List ASym} {n : Str} {k : Int} : (l.take (syAt l n) ++ ⟨n, k⟩ :: l.drop (syAt l n)).getD (syAt l n) default = ⟨n, k⟩ := by
  have hle : syAt l n ≤ l.length := lbg_le (fun x : ASym => decide (x.name < n)) l
  rw [List.getD_eq_getElem?_getD, List.getElem?_append_right (by simp; omega), List.length_take, Nat.min_eq_left hle]
  simp
mutual
theorem says_T : ∀ (t : Term) (p : List Int) (l : List ASym) (m : Ars), Rel l m → formed t = true → Says (arAll m (visit t p)) (symT l t)
  | .mk n b ar, p, l, m, hR, hf => by
    have ht := formed_eq (.mk n b ar)
    rw [hf] at ht
    simp only [Term.var, Term.args, Term.name] at ht
    simp only [visit_eq, arAll, symT, Term.args]
    cases b with
    | true =>
      simp only [if_true] at ht
      have har : ar = [] := by
        have := ht.symm
        simp only [Bool.and_eq_true, decide_eq_true_eq] at this
        exact List.length_eq_zero_iff.1 (of_decide_eq_true this.1)
      subst har
      simp only [arStep, Term.var, if_true, visits, arAll, Option.bind_some, Says, hR.2.2, Bool.false_eq_true, if_false]
      exact ⟨trivial, hR⟩
    | false =>
      have hfs : formeds ar = true := by
        rw [formeds_all]
        have := ht.symm
        simp only [Bool.false_eq_true, if_false, Bool.and_eq_true] at this
        exact this.2.2
      simp only [Bool.false_eq_true, if_false]
      by_cases hmk : marked n = true
      · rw [if_pos hmk]
        have hg : getA m n = none := by
          cases hg : getA m n with
          | none => rfl
          | some k => rw [mk_getA hg hR.2.2] at hmk; cases hmk
        have hst : arStep m (.mk n false ar) = some (m ++ [(n, ar.length)]) := by simp [arStep, Term.var, Term.name, Term.args, hg]
        rw [hst, Option.bind_some]
        have hm1 : mk (m ++ [(n, ar.length)]) = true := by simp [mk, hmk]
        cases hr : arAll (m ++ [(n, ar.length)]) (visits ar p 0) with
        | none => rfl
        | some m' => simp only [Says, arAll_mk _ hr hm1, if_true]
      · rw [if_neg hmk]
        have hg2 := hR.2.1 n
        have hat := getSy_at (n := n) hR.1
        cases hg : getA m n with
        | some k =>
          rw [hg] at hg2
          have hne : ¬ getSy l n = none := by rw [hg2]; simp
          have hins : insSy l n ar.length = l := by rw [insSy_eq _ _ _ hR.1, if_neg hne]
          have har : (l.getD (syAt l n) default).arity = k := by
            rw [hg2] at hat
            split at hat
            · simpa using hat.symm
            · cases hat
          rw [hins, har]
          by_cases hk : k = ar.length
          · have hst : arStep m (.mk n false ar) = some m := by simp [arStep, Term.var, Term.name, Term.args, hg, hk]
            rw [hst, Option.bind_some, if_neg (by simp [hk])]
            exact says_Ts ar p 0 l m hR hfs
          · have hst : arStep m (.mk n false ar) = none := by simp [arStep, Term.var, Term.name, Term.args, hg, hk]
            rw [hst, if_pos (by simp; omega)]
            rfl
        | none =>
          rw [hg] at hg2
          have hg2' : getSy l n = none := hg2
          have hnm : ∀ x ∈ l, x.name ≠ n := fun x hx e => getSy_some hx e hg2'
          have hst : arStep m (.mk n false ar) = some (m ++ [(n, ar.length)]) := by simp [arStep, Term.var, Term.name, Term.args, hg]
          have hins : insSy l n ar.length = insR n ar.length l := by rw [insSy_eq _ _ _ hR.1, if_pos hg2']
          have hnew : ((insR n ar.length l).getD (syAt l n) default).arity = ar.length := by rw [← insR_eq, sy_new]
          rw [hst, Option.bind_some, hins, hnew, if_neg (by simp)]
          refine says_Ts ar p 0 _ _ ⟨insR_sorted hR.1 hnm, fun v => ?_, ?_⟩ hfs
          · rw [getSy_insR hnm, getA_append, hR.2.1 v]
            by_cases e : n = v
            · subst e; rw [if_pos rfl, if_pos rfl, hg]; rfl
            · rw [if_neg e, if_neg e]; cases getA m v <;> rfl
          · have := hR.2.2
            simp only [mk] at this ⊢
            rw [List.any_append, this]
            simpa using hmk
theorem says_Ts : ∀ (ar : List Term) (p : List Int) (i : Nat) (l : List ASym) (m : Ars), Rel l m → formeds ar = true → Says (arAll m (visits ar p i)) (symTs l ar)
  | [], p, i, l, m, hR, _ => by
    simp only [visits, arAll, symTs, Says, hR.2.2, Bool.false_eq_true, if_false]
    exact ⟨trivial, hR⟩
  | a :: ar, p, i, l, m, hR, hf => by
    simp only [formeds, Bool.and_eq_true] at hf
    have h1 := says_T a (p ++ [(i : Int)]) l m hR hf.1
    simp only [visits, arAll_append, symTs]
    cases hr : arAll m (visit a (p ++ [(i : Int)])) with
    | none =>
      rw [hr] at h1
      rw [if_neg (by rw [show (symT l a).2 = false from h1]; simp)]
      rfl
    | some m1 =>
      rw [hr] at h1
      rw [Option.bind_some]
      simp only [Says] at h1
      by_cases hm1 : mk m1 = true
      · rw [if_pos hm1] at h1
        rw [if_neg (by rw [h1]; simp)]
        cases hr2 : arAll m1 (visits ar p (i + 1)) with
        | none => rfl
        | some m' => simp only [Says, arAll_mk _ hr2 hm1, if_true]
      · rw [if_neg hm1] at h1
        rw [if_pos h1.1]
        exact says_Ts ar p (i + 1) _ _ h1.2 hf.2
end
theorem says_Rs : ∀ (r : List ARule) (l : List ASym) (m : Ars), Rel l m → (∀ x ∈ r, formed x.left = true ∧ formed x.right = true) → match arRules m r with
    | none => (symRs l r).2 = false
    | some m => (symRs l r).2 = !mk m
  | [], l, m, hR, _ => by simp only [arRules, symRs, hR.2.2]; rfl
  | x :: r, l, m, hR, hf => by
    obtain ⟨hf1, hf2⟩ := hf x (by simp)
    have h1 := says_T x.left [] l m hR hf1
    have mono : ∀ (r : List ARule) {m m' : Ars}, arRules m r = some m' → mk m = true → mk m' = true := by
      intro r
      induction r with
      | nil => intro m m' h hm; cases h; exact hm
      | cons y r ih =>
        intro m m' h hm
        simp only [arRules] at h
        cases ha : arAll m (visit y.left []) with
        | none => rw [ha] at h; cases h
        | some m1 =>
          rw [ha, Option.bind_some] at h
          cases hb : arAll m1 (visit y.right []) with
          | none => rw [hb] at h; cases h
          | some m2 =>
            rw [hb, Option.bind_some] at h
            exact ih h (arAll_mk _ hb (arAll_mk _ ha hm))
    simp only [arRules, symRs]
    cases ha : arAll m (visit x.left []) with
    | none =>
      rw [ha] at h1
      have : (symT l x.left).2 = false := h1
      simp [this]
    | some m1 =>
      rw [ha] at h1
      simp only [Says] at h1
      rw [Option.bind_some]
      by_cases hm1 : mk m1 = true
      · rw [if_pos hm1] at h1
        rw [if_neg (by rw [h1]; simp)]
        cases hr : (arAll m1 (visit x.right [])).bind fun m2 => arRules m2 r with
        | none => rfl
        | some m' =>
          have : mk m' = true := by
            cases hb : arAll m1 (visit x.right []) with
            | none => rw [hb] at hr; cases hr
            | some m2 => rw [hb, Option.bind_some] at hr; exact mono r hr (arAll_mk _ hb hm1)
          simp [this]
      · rw [if_neg hm1] at h1
        rw [if_pos h1.1]
        have h2 := says_T x.right [] _ m1 h1.2 hf2
        cases hb : arAll m1 (visit x.right []) with
        | none =>
          rw [hb] at h2
          have : (symT (symT l x.left).1 x.right).2 = false := h2
          simp [this]
        | some m2 =>
          rw [hb] at h2
          simp only [Says] at h2
          rw [Option.bind_some]
          by_cases hm2 : mk m2 = true
          · rw [if_pos hm2] at h2
            rw [if_neg (by rw [h2]; simp)]
            cases hr : arRules m2 r with
            | none => rfl
            | some m' => simp [mono r hr hm2]
          · rw [if_neg hm2] at h2
            rw [if_pos h2.1]
            exact says_Rs r _ _ h2.2 fun y hy => hf y (by simp [hy])
theorem check_formed {t : Term} (h : check t = 0) : formed t = true := by
  unfold check at h
  split at h
  · assumption
  · omega
theorem checkPairs_formed : ∀ {r : List ARule}, checkPairs r = 0 → ∀ x ∈ r, check x.left = 0 ∧ check x.right = 0
  | [], _, x, hx => by cases hx
  | y :: r, h, x, hx => by
    simp only [checkPairs] at h
    split at h
    · omega
    · rename_i h1
      rcases List.mem_cons.1 hx with rfl | hx
      · simp only [checks, ne_eq, Classical.not_not] at h1
        split at h1
        · omega
        · rename_i h2
          split at h1
          · omega
          · rename_i h3
            exact ⟨by simpa using h2, by simpa using h3⟩
      · exact checkPairs_formed h x hx
theorem checkRules_formed {r : List ARule} (h : checkRules r = 0) : ∀ x ∈ r, check x.left = 0 ∧ check x.right = 0 := by
  unfold checkRules at h
  split at h
  · omega
  · exact checkPairs_formed h
theorem checkSystemR_eq (r : List ARule) : checkSystemR r = checkSystem r := by
  unfold checkSystemR checkSystem
  by_cases h1 : checkRules r = 0
  · rw [h1, if_neg (show ¬ ((0 : Int) ≠ 0) by simp), if_neg (show ¬ ((0 : Int) ≠ 0) by simp)]
    have hf := checkRules_formed h1
    have := says_Rs r [] [] ⟨by simp [SySorted], fun n => rfl, rfl⟩ fun x hx => ⟨check_formed (hf x hx).1, check_formed (hf x hx).2⟩
    rw [show r.any extra = r.any extraR from by congr 1; funext x; exact extra_eq x]
    cases ha : arRules [] r with
    | none => rw [ha] at this; simp only at this; simp [this]
    | some m =>
      rw [ha] at this
      simp only at this
      rw [this]
      by_cases hk : (m.any fun p => marked p.1) = true
      · simp [mk, hk]
      · simp [mk, hk]
  · rw [if_pos (by simpa using h1), if_pos (by simpa using h1)]
theorem r01_CheckSystem_s (r : List ARule) (hs : rbs r < 2 ^ 38) : PF n_r01_CheckSystem [encRs r] (.int .i64 (checkSystem r)) := checkSystemR_eq r ▸ r01_CheckSystem_sR r hs
end Go.Dw
end
section
namespace Go.Dw
theorem check_iff {t : Term} : check t = 0 ↔ formed t = true ∧ fits t = true := by
  unfold check
  cases formed t <;> cases fits t <;> simp
theorem checkSystem_sides {r : List ARule} (h : checkSystem r = 0) : ∀ x ∈ r, check x.left = 0 ∧ check x.right = 0 := by
  have h1 : checkRules r = 0 := by
    unfold checkSystem at h
    split at h
    · rename_i h1; exact absurd h h1
    · rename_i h1; simpa using h1
  unfold checkRules at h1
  split at h1
  · omega
  · exact checkPairs_ok h1
end Go.Dw
end
section
namespace Go.Dw
theorem rens_cTs {σ : Nat → Option Nat} {l : List Term} : (l.map cT).map (rens σ) = l.map cT := by rw [List.map_map]; rfl
end Go.Dw
end
section
namespace Go.Dw
namespace idxEdge
end idxEdge
theorem rens_cSts {σ : Nat → Option Nat} {l : List AStep} : (l.map cSt).map (rens σ) = l.map cSt := by rw [List.map_map]; rfl
attribute [push_cast] rens_cSts
end Go.Dw
end
section
namespace Go.Dw
section
variable {P : Program} {N : Nat → C} {B : Nat} {ds : List Nat} {g l : List S} {s : List K} {t : T} {H : List Ob} {Q : X → T → List Ob → Prop}
theorem gP_tt : gP P N B true ds g l s t H Q (.bool true) = Run P N B (.r (g ++ l) :: s) t H Q := by simp [gP]
theorem gP_ff : gP P N B false ds g l s t H Q (.bool false) = Run P N B (.r (g ++ l) :: s) t H Q := by simp [gP]
theorem gP_tf : gP P N B true ds g l s t H Q (.bool false) = Run P N B (.r l :: s) (ds.map (fun d => (d, V.tup [])) ++ t) H Q := by simp [gP]
theorem gP_ft : gP P N B false ds g l s t H Q (.bool true) = Run P N B (.r l :: s) (ds.map (fun d => (d, V.tup [])) ++ t) H Q := by simp [gP]
theorem cP_t {a b : C} : cP P N B a b s t H Q (.bool true) = Run P N B (.c a :: s) t H Q := by simp [cP]
theorem cP_f {a b : C} : cP P N B a b s t H Q (.bool false) = Run P N B (.c b :: s) t H Q := by simp [cP]
end
end Go.Dw
end
section
namespace Go.Dw
def wordT : Term → List Str × Term
  | .mk n false [a] => (n :: (wordT a).1, (wordT a).2)
  | t => ([], t)
theorem wordT_step (t : Term) : wordT t = if t.var = false ∧ t.args.length = 1 then (t.name :: (wordT (t.args.getD 0 default)).1, (wordT (t.args.getD 0 default)).2) else ([], t) := by
  cases t with | mk n v l =>
  cases v with
  | true => rw [if_neg (by simp [Term.var])]; simp [wordT]
  | false =>
    cases l with
    | nil => rw [if_neg (by simp [Term.args])]; simp [wordT]
    | cons a l =>
      cases l with
      | nil => rw [if_pos (by simp [Term.var, Term.args])]; simp [wordT, Term.name, Term.args]
      | cons b l => rw [if_neg (by simp [Term.args])]; simp [wordT]
theorem own_str {i : Nat} {l : List Str} {s : Str} : (.own i 1 (l.map cS ++ [[V.str s]]) : V) = ownL cS i 1 (l ++ [s]) := by simp [ownL, cS]
theorem put_cTz (t u : Term) : put 0 (cT t) (cT u) = cT t := rfl
theorem bounds_word_s (t : Term) (hs : size t < 2 ^ 40) : PF n_bounds_word [encT t] (.tup [encSs (wordT t).1, encT (wordT t).2]) := by
  refine pf_of bounds_word.ok rfl ?_
  push_cast
  have key : ∀ (n : Nat) (u : Term) (acc : List Str), size u ≤ n → acc.length + size u ≤ size t → (acc ++ (wordT u).1, (wordT u).2) = wordT t →
      bounds_word.L3 (.ptr 0 0) (.ptr 1 0) (ownL cS 2 1 acc) 0 [.cells t_Term (cT u), .cells t_Term [.str [], .bool false, .sl 3 []], .arr t_string 1 acc.length] (Ends 0 bounds_word.rs fun x' H' => x' = .tup [encSs (wordT t).1, encT (wordT t).2] ∧ H' = []) := by
    intro n
    induction n with
    | zero => intro u acc h; have := size_args u; omega
    | succ n ih =>
      intro u acc h hl hw
      have hsu := size_args u
      rw [wordT_step u] at hw
      refine bounds_word.G3 ?_
      by_cases h1 : u.var = false
      · by_cases h2 : u.args.length = 1
        · rw [if_pos ⟨h1, h2⟩] at hw
          have h2i : ((u.args.length : Int) = 1) = True := eq_true (by omega)
          have h0i : ((0 : Int) < (u.args.length : Int)) = True := eq_true (by omega)
          have hm := size_mem (getD_mem (l := u.args) (k := 0) (by omega))
          push_cast [h1, h2i, h0i, own_str, put_cTz]
          refine ⟨Nat.le_trans (Nat.mul_le_mul_right 16 (show _ ≤ 2 ^ 41 by omega)) (by unfold maxEls; decide), ?_⟩
          have := ih (u.args.getD 0 default) (acc ++ [u.name]) (by omega) (by rw [List.length_append, List.length_singleton]; omega) (by rw [← hw]; simp)
          rw [List.length_append, List.length_singleton] at this
          exact this
        · rw [if_neg (by simp [h2])] at hw
          have h2i : ((u.args.length : Int) = 1) = False := eq_false (by omega)
          push_cast [h1, h2i, put_cTz]
          rw [← hw]
          exact pf_ret (by push_cast [bounds_word.rs, List.append_nil])
      · have h1 : u.var = true := by simpa using h1
        rw [if_neg (by simp [h1])] at hw
        push_cast [h1, put_cTz]
        rw [← hw]
        exact pf_ret (by push_cast [bounds_word.rs, List.append_nil])
  exact key (size t) t [] (Nat.le_refl _) (by simp) rfl
theorem r24_Word_s (t : Term) (hs : size t < 2 ^ 40) : PF n_r24_Word [encT t] (.tup [encSs (wordT t).1, encT (wordT t).2]) := by
  refine pf_of r24_Word.ok rfl ?_
  push_cast
  have key : ∀ (n : Nat) (u : Term) (acc : List Str), size u ≤ n → acc.length + size u ≤ size t → (acc ++ (wordT u).1, (wordT u).2) = wordT t →
      r24_Word.L3 (.ptr 0 0) (.ptr 1 0) (ownL cS 2 1 acc) 0 [.cells t_Term (cT u), .cells t_Term [.str [], .bool false, .sl 3 []], .arr t_string 1 acc.length] (Ends 0 r24_Word.rs fun x' H' => x' = .tup [encSs (wordT t).1, encT (wordT t).2] ∧ H' = []) := by
    intro n
    induction n with
    | zero => intro u acc h; have := size_args u; omega
    | succ n ih =>
      intro u acc h hl hw
      have hsu := size_args u
      rw [wordT_step u] at hw
      refine r24_Word.G3 ?_
      by_cases h1 : u.var = false
      · by_cases h2 : u.args.length = 1
        · rw [if_pos ⟨h1, h2⟩] at hw
          have h2i : ((u.args.length : Int) = 1) = True := eq_true (by omega)
          have h0i : ((0 : Int) < (u.args.length : Int)) = True := eq_true (by omega)
          have hm := size_mem (getD_mem (l := u.args) (k := 0) (by omega))
          push_cast [h1, h2i, h0i, own_str, put_cTz]
          refine ⟨Nat.le_trans (Nat.mul_le_mul_right 16 (show _ ≤ 2 ^ 41 by omega)) (by unfold maxEls; decide), ?_⟩
          have := ih (u.args.getD 0 default) (acc ++ [u.name]) (by omega) (by rw [List.length_append, List.length_singleton]; omega) (by rw [← hw]; simp)
          rw [List.length_append, List.length_singleton] at this
          exact this
        · rw [if_neg (by simp [h2])] at hw
          have h2i : ((u.args.length : Int) = 1) = False := eq_false (by omega)
          push_cast [h1, h2i, put_cTz]
          rw [← hw]
          exact pf_ret (by push_cast [r24_Word.rs, List.append_nil])
      · have h1 : u.var = true := by simpa using h1
        rw [if_neg (by simp [h1])] at hw
        push_cast [h1, put_cTz]
        rw [← hw]
        exact pf_ret (by push_cast [r24_Word.rs, List.append_nil])
  exact key (size t) t [] (Nat.le_refl _) (by simp) rfl
end Go.Dw
end
section
namespace Go.Dw
structure ARl where
  left : List Str
  right : List Str
  deriving Inhabited, DecidableEq
def cRl (x : ARl) : List V := [encSs x.left, encSs x.right]
abbrev encRls (l : List ARl) : V := encL cRl 2 l
theorem cRl_0 (x : ARl) : (cRl x)[0]? = some (encSs x.left) := rfl
theorem cRl_1 (x : ARl) : (cRl x)[1]? = some (encSs x.right) := rfl
theorem cRl_len (x : ARl) : (cRl x).length = 2 := rfl
attribute [push_cast] cRl_0 cRl_1 cRl_len
def strR (x : ARule) : Bool := (wordT x.left).2.var && (wordT x.right).2.var
def toRl (x : ARule) : ARl := ⟨(wordT x.left).1, (wordT x.right).1⟩
def rulesV (r : List ARule) : V := if r.all strR then .tup [encRls (r.map toRl), .bool true] else .tup [encRls [], .bool false]
theorem own_rl {i : Nat} {l : List ARl} {x : ARule} : (.own i 2 (l.map cRl ++ [[encSs (wordT x.left).1, encSs (wordT x.right).1]]) : V) = ownL cRl i 2 (l ++ [toRl x]) := by simp [ownL, cRl, toRl]
theorem bounds_rules_s (r : List ARule) (hr : rbs r < 2 ^ 38) : PF n_bounds_rules [encRs r] (rulesV r) := by
  have hl := length_le_rbs r
  refine pf_of bounds_rules.ok rfl ?_
  push_cast
  refine loop_up (n := r.length) (R := fun k => (r.take k).all strR = true → bounds_rules.L3 (ownL cRl 0 2 ((r.take k).map toRl)) (encRs r) (.int .i64 r.length) (.int .i64 k) 0 [.arr t_bounds_rule 2 k] (Ends 0 bounds_rules.rs fun x H => x = rulesV r ∧ H = [])) ?_ ?_ 0 (Nat.zero_le _) (by simp)
  · intro k hk ih hall
    have hmm := rbs_mem (getD_mem hk)
    have htk : r.take (k + 1) = r.take k ++ [r.getD k default] := by rw [List.take_succ_eq_append_getElem hk]; simp [List.getD_eq_getElem?_getD, hk]
    have hlk : ((r.take k).map toRl).length = k := by simp; omega
    refine bounds_rules.G3 ?_
    have hmem := getD_mem hk
    generalize hx : r.getD k default = x at htk hmm hmem
    have h1 := size_le_tb x.left
    have h2 := size_le_tb x.right
    push_cast [ilt hk, hx]
    refine .of (bounds_word_s x.left (by omega)) ?_
    push_cast
    refine .of (bounds_word_s x.right (by omega)) ?_
    cases ha : (wordT x.left).2.var with
    | false =>
      have hno : r.all strR = false := List.all_eq_false.2 ⟨x, hmem, by simp [strR, ha]⟩
      push_cast [ha]
      refine pf_ret ?_
      push_cast [bounds_rules.rs, rulesV, hno]
      rfl
    | true =>
      cases hb : (wordT x.right).2.var with
      | false =>
        have hno : r.all strR = false := List.all_eq_false.2 ⟨x, hmem, by simp [strR, hb]⟩
        push_cast [ha, hb]
        refine pf_ret ?_
        push_cast [bounds_rules.rs, rulesV, hno]
        rfl
      | true =>
        push_cast [ha, hb, own_rl, hlk, w64 (show k < 2 ^ 62 by omega)]
        rw [htk, List.map_append, List.all_append] at ih
        have := ih (by simp [hall, strR, ha, hb])
        push_cast at this
        refine ⟨by unfold maxEls; omega, ?_⟩
        exact this
  · intro hall
    rw [List.take_length] at hall
    refine bounds_rules.G3 ?_
    push_cast [inlt (Nat.le_refl _), List.take_length]
    refine pf_ret ?_
    push_cast [bounds_rules.rs, rulesV, hall]
end Go.Dw
end
section
namespace Go.Dw
def systemE (r : List ARule) : List ARl × Int := if checkSystem r ≠ 0 then ([], checkSystem r) else if r.all strR then (r.map toRl, 0) else ([], 4)
theorem bounds_system_s (r : List ARule) (hr : rbs r < 2 ^ 38) : PF n_bounds_system [encRs r] (.tup [encRls (systemE r).1, .int .i64 (systemE r).2]) := by
  refine pf_of bounds_system.ok rfl ?_
  unfold systemE
  push_cast
  refine .of (term_CheckSystem_t r hr) ?_
  by_cases h : checkSystem r = 0
  · rw [if_neg (by simpa using h)]
    push_cast [h]
    refine .of (bounds_rules_s r hr) ?_
    unfold rulesV
    cases ha : r.all strR with
    | true =>
      push_cast [if_true]
      exact pf_ret (by push_cast [bounds_system.rs])
    | false =>
      push_cast
      exact pf_ret (by push_cast [bounds_system.rs]; rfl)
  · rw [if_pos (by simpa using h)]
    push_cast [h]
    exact pf_ret (by push_cast [bounds_system.rs]; rfl)
def strQ (x : ARule) : Bool := (wordT x.left).2.var && (wordT x.right).2.var && decide ((wordT x.left).2.name = (wordT x.right).2.name)
theorem all_drop_false {α : Type} {p : α → Bool} {l : List α} {k : Nat} [Inhabited α] (hk : k < l.length) (h : p (l.getD k default) = false) : l.all p = false := List.all_eq_false.2 ⟨_, getD_mem hk, by rw [h]; exact Bool.false_ne_true⟩
theorem r24_Is_s (r : List ARule) (hr : rbs r < 2 ^ 38) : PF n_r24_Is [encRs r] (.bool (r.all strQ)) := by
  have hl := length_le_rbs r
  refine pf_of r24_Is.ok rfl ?_
  push_cast
  refine loop_up (n := r.length) (R := fun k => (r.take k).all strQ = true → r24_Is.L3 (encRs r) (.int .i64 r.length) (.int .i64 k) 0 [] (Ends 0 r24_Is.rs fun x H => x = .bool (r.all strQ) ∧ H = [])) ?_ ?_ 0 (Nat.zero_le _) (by simp)
  · intro k hk ih hall
    have hmm := rbs_mem (getD_mem hk)
    have htk : r.take (k + 1) = r.take k ++ [r.getD k default] := by rw [List.take_succ_eq_append_getElem hk]; simp [List.getD_eq_getElem?_getD, hk]
    have hno := all_drop_false (p := strQ) hk
    refine r24_Is.G3 ?_
    generalize hx : r.getD k default = x at htk hmm hno
    have h1 := size_le_tb x.left
    have h2 := size_le_tb x.right
    push_cast [ilt hk, hx]
    refine .of (r24_Word_s x.left (by omega)) ?_
    push_cast
    refine .of (r24_Word_s x.right (by omega)) ?_
    cases ha : (wordT x.left).2.var with
    | false =>
      push_cast [ha]
      refine pf_ret ?_
      push_cast [r24_Is.rs, hno (by simp [strQ, ha])]
    | true =>
      cases hb : (wordT x.right).2.var with
      | false =>
        push_cast [ha, hb]
        refine pf_ret ?_
        push_cast [r24_Is.rs, hno (by simp [strQ, hb])]
      | true =>
        by_cases hc : (wordT x.left).2.name = (wordT x.right).2.name
        · push_cast [ha, hb, eq_true hc, w64 (show k < 2 ^ 62 by omega)]
          rw [htk, List.all_append] at ih
          have := ih (by simp [hall, strQ, ha, hb, hc])
          push_cast at this
          exact this
        · push_cast [ha, hb, eq_false hc]
          refine pf_ret ?_
          push_cast [r24_Is.rs, hno (by simp [strQ, hc])]
  · intro hall
    rw [List.take_length] at hall
    refine r24_Is.G3 ?_
    push_cast [inlt (Nat.le_refl _)]
    refine pf_ret ?_
    push_cast [r24_Is.rs, hall]
end Go.Dw
end
section
namespace Go.Dw
theorem occ_word : ∀ (n : Nat) (t : Term), size t ≤ n → short t = true → (wordT t).2.var = true → ∀ v, occ v t = true ↔ (wordT t).2.name = v := by
  intro n
  induction n with
  | zero => intro t h; have := size_args t; omega
  | succ n ih =>
    intro t h hsh hv v
    have hs3 := short_iff.1 hsh
    rw [wordT_step] at hv ⊢
    cases t with | mk nm vr l =>
    cases vr with
    | true =>
      rw [if_neg (by simp [Term.var])] at hv ⊢
      have hl : l = [] := hs3.2.1 rfl
      subst hl
      simp [occ, occs, Term.name]
    | false =>
      cases l with
      | nil => rw [if_neg (by simp [Term.args])] at hv; simp [Term.var] at hv
      | cons a l =>
        cases l with
        | cons b l => rw [if_neg (by simp [Term.args])] at hv; simp [Term.var] at hv
        | nil =>
          rw [if_pos (by simp [Term.var, Term.args])] at hv ⊢
          simp only [Term.args, List.getD_cons_zero] at hv ⊢
          have h2 := ih a (by simp only [size, sizes] at h; omega) (hs3.2.2 a (by simp [Term.args])) hv v
          rw [← h2]
          simp [occ, occs]
theorem strR_Q {r : List ARule} (h : checkSystem r = 0) : r.all strR = r.all strQ := by
  have hx : ∀ x ∈ r, strR x = strQ x := by
    intro x hx
    obtain ⟨hg1, hg2⟩ := checkSystem_good h x hx
    unfold strR strQ
    cases ha : (wordT x.left).2.var with
    | false => rfl
    | true =>
      cases hb : (wordT x.right).2.var with
      | false => rfl
      | true =>
        have he : extra x = false := by
          unfold checkSystem at h
          split at h
          · rename_i h1; exact absurd h h1
          · split at h
            · cases h
            · split at h
              · cases h
              · split at h
                · cases h
                · rename_i h3
                  cases he : extra x with
                  | false => rfl
                  | true => exact absurd (List.any_eq_true.2 ⟨x, hx, he⟩) h3
        unfold extra at he
        simp only [Bool.or_eq_false_iff] at he
        have h1 : (wordT x.right).2.name ∈ varsOf [x.right] := (mem_varsOf _ _).2 ((occ_word _ _ (Nat.le_refl _) hg2.1 hb _).2 rfl)
        have h2 := List.any_eq_false.1 he.2 _ h1
        have h3 : (wordT x.right).2.name ∈ varsOf [x.left] := by simpa using h2
        have h4 := (occ_word _ _ (Nat.le_refl _) hg1.1 ha _).1 ((mem_varsOf _ _).1 h3)
        simp [h4]
  rw [Bool.eq_iff_iff, List.all_eq_true, List.all_eq_true]
  exact ⟨fun h x hx' => by rw [← hx x hx']; exact h x hx', fun h x hx' => by rw [hx x hx']; exact h x hx'⟩
end Go.Dw
end
section
namespace Go.Dw
structure AMove where
  src : Int
  dst : Int
  name : Str
  h : Int
  deriving Inhabited, DecidableEq
def cMv (m : AMove) : List V := [.int .i64 m.src, .int .i64 m.dst, .str m.name, .int .i64 m.h]
def encMv (m : AMove) : V := .agg (cMv m)
abbrev encMvs (l : List AMove) : V := encL cMv 4 l
theorem cMv_0 (m : AMove) : (cMv m)[0]? = some (.int .i64 m.src) := rfl
theorem cMv_1 (m : AMove) : (cMv m)[1]? = some (.int .i64 m.dst) := rfl
theorem cMv_2 (m : AMove) : (cMv m)[2]? = some (.str m.name) := rfl
theorem cMv_3 (m : AMove) : (cMv m)[3]? = some (.int .i64 m.h) := rfl
theorem cMv_len (m : AMove) : (cMv m).length = 4 := rfl
theorem sto_encMv (m : AMove) : sto (encMv m) = some (cMv m) := rfl
theorem ren_encMv {σ : Nat → Option Nat} (m : AMove) : ren σ (encMv m) = encMv m := rfl
theorem rens_cMv {σ : Nat → Option Nat} (m : AMove) : rens σ (cMv m) = cMv m := rfl
theorem agg_cMv (m : AMove) : V.agg (cMv m) = encMv m := rfl
theorem sub_cMv (m : AMove) : sub 0 4 (cMv m) = cMv m := rfl
attribute [push_cast] cMv_0 cMv_1 cMv_2 cMv_3 cMv_len sto_encMv ren_encMv rens_cMv agg_cMv sub_cMv
theorem isNaN_int_s (a : Int) : PF n_cmp_isNaN_int [.int .i64 a] (.bool false) := by
  refine pf_of cmp_isNaN_int.ok rfl ?_
  push_cast
  exact pf_ret (by push_cast [cmp_isNaN_int.rs])
theorem cmp_Compare_int_s (a b : Int) : PF n_cmp_Compare_int [.int .i64 a, .int .i64 b] (.int .i64 (cmpI a b)) := by
  refine pf_of cmp_Compare_int.ok rfl ?_
  push_cast
  refine .of (isNaN_int_s a) ?_
  push_cast
  refine .of (isNaN_int_s b) ?_
  unfold cmpI
  by_cases h1 : a < b
  · push_cast [eq_true h1]
    exact pf_ret (by push_cast [cmp_Compare_int.rs, h1])
  · by_cases h2 : b < a
    · push_cast [eq_false h1, eq_true h2]
      exact pf_ret (by push_cast [cmp_Compare_int.rs, h1, h2])
    · push_cast [eq_false h1, eq_false h2]
      exact pf_ret (by push_cast [cmp_Compare_int.rs, h1, h2])
def firstN : List Int → Int
  | [] => 0
  | x :: l => if x ≠ 0 then x else firstN l
theorem cmp_Or_int_s (l : List Int) (hl : l.length < 2 ^ 62) : PF n_cmp_Or_int [encP l] (.int .i64 (firstN l)) := by
  refine pf_of cmp_Or_int.ok rfl ?_
  push_cast
  refine loop_up (n := l.length) (R := fun k => firstN (l.drop k) = firstN l → cmp_Or_int.L3 (.int .i64 0) (encP l) (.int .i64 l.length) (.int .i64 k) 0 [] (Ends 0 cmp_Or_int.rs fun x H => x = .int .i64 (firstN l) ∧ H = [])) ?_ ?_ 0 (Nat.zero_le _) rfl
  · intro k hk ih hq
    rw [drop_getD hk] at hq
    refine cmp_Or_int.G3 ?_
    generalize hx : l.getD k default = x at hq
    simp only [firstN] at hq
    by_cases h : x = 0
    · push_cast [ilt hk, hx, h, w64 (show k < 2 ^ 62 by omega)]
      rw [if_neg (by simp [h])] at hq
      have := ih hq
      push_cast at this
      exact this
    · push_cast [ilt hk, hx, h]
      rw [if_pos h] at hq
      rw [← hq]
      exact pf_ret (by push_cast [cmp_Or_int.rs])
  · intro hq
    rw [drop_map_none] at hq
    refine cmp_Or_int.G3 ?_
    push_cast [inlt (Nat.le_refl _)]
    rw [← hq]
    exact pf_ret (by push_cast [cmp_Or_int.rs, firstN])
theorem isNaN_str_s (a : Str) : PF n_cmp_isNaN_string [.str a] (.bool false) := by
  refine pf_of cmp_isNaN_string.ok rfl ?_
  push_cast
  exact pf_ret (by push_cast [cmp_isNaN_string.rs, bne_self_eq_false])
theorem cmp_Compare_string_s (a b : Str) : PF n_cmp_Compare_string [.str a, .str b] (.int .i64 (cmpS a b)) := by
  rw [cmpS_eq]
  refine pf_of cmp_Compare_string.ok rfl ?_
  push_cast
  refine .of (isNaN_str_s a) ?_
  push_cast
  refine .of (isNaN_str_s b) ?_
  by_cases h1 : a < b
  · push_cast [decide_eq_true h1]
    exact pf_ret (by push_cast [cmp_Compare_string.rs, h1])
  · by_cases h2 : b < a
    · push_cast [decide_eq_false h1, decide_eq_true h2]
      exact pf_ret (by push_cast [cmp_Compare_string.rs, h1, h2])
    · push_cast [decide_eq_false h1, decide_eq_false h2]
      exact pf_ret (by push_cast [cmp_Compare_string.rs, h1, h2])
def cmpM (a b : AMove) : Int := firstN [cmpI a.src b.src, cmpI a.dst b.dst, cmpS a.name b.name, cmpI a.h b.h]
theorem bounds_compare_s (a b : AMove) : PF n_bounds_compare [encMv a, encMv b] (.int .i64 (cmpM a b)) := by
  refine pf_of bounds_compare.ok rfl ?_
  push_cast
  refine .of (cmp_Compare_int_s _ _) ?_
  push_cast
  refine .of (cmp_Compare_int_s _ _) ?_
  push_cast
  refine .of (cmp_Compare_string_s _ _) ?_
  push_cast
  refine .of (cmp_Compare_int_s _ _) ?_
  push_cast
  refine .of (show PF n_cmp_Or_int [.sl 1 [[V.int .i64 _], [V.int .i64 _], [V.int .i64 _], [V.int .i64 _]]] _ from cmp_Or_int_s [_, _, _, _] (by simp)) ?_
  push_cast
  exact pf_ret (by push_cast [bounds_compare.rs]; rfl)
def lessM (a b : AMove) : Bool := if a.src ≠ b.src then decide (a.src < b.src) else if a.dst ≠ b.dst then decide (a.dst < b.dst) else if a.name ≠ b.name then decide (a.name < b.name) else decide (a.h < b.h)
theorem r24_less_s (a b : AMove) : PF n_r24_less [encMv a, encMv b] (.bool (lessM a b)) := by
  unfold lessM
  refine pf_of r24_less.ok rfl ?_
  by_cases h1 : a.src = b.src
  · by_cases h2 : a.dst = b.dst
    · by_cases h3 : a.name = b.name
      · push_cast [h1, h2, h3, bne_self_eq_false]
        exact pf_ret (by push_cast [r24_less.rs])
      · push_cast [h1, h2, h3]
        exact pf_ret (by push_cast [r24_less.rs])
    · push_cast [h1, h2]
      exact pf_ret (by push_cast [r24_less.rs])
  · push_cast [h1]
    exact pf_ret (by push_cast [r24_less.rs])
theorem cmpI_three (x y : Int) : (x = y ∧ cmpI x y = 0) ∨ (x ≠ y ∧ x < y ∧ cmpI x y = -1) ∨ (x ≠ y ∧ ¬ x < y ∧ cmpI x y = 1) := by
  unfold cmpI
  by_cases h1 : x < y
  · exact .inr (.inl ⟨by omega, h1, by simp [h1]⟩)
  · by_cases h2 : y < x
    · exact .inr (.inr ⟨by omega, h1, by simp [h1, h2]⟩)
    · exact .inl ⟨by omega, by simp [h1, h2]⟩
theorem cmpS_three (x y : Str) : (x = y ∧ cmpS x y = 0) ∨ (x ≠ y ∧ x < y ∧ cmpS x y = -1) ∨ (x ≠ y ∧ ¬ x < y ∧ cmpS x y = 1) := by
  rw [cmpS_eq]
  by_cases h1 : x < y
  · exact .inr (.inl ⟨fun e => slt_irrefl y (e ▸ h1), h1, by simp [h1]⟩)
  · by_cases h2 : y < x
    · exact .inr (.inr ⟨fun e => slt_irrefl y (e ▸ h2), h1, by simp [h1, h2]⟩)
    · exact .inl ⟨slt_eq h1 h2, by simp [h1, h2]⟩
theorem cmpM_less (a b : AMove) : 0 ≤ cmpM a b ↔ lessM a b = false := by
  unfold cmpM lessM
  simp only [firstN]
  rcases cmpI_three a.src b.src with ⟨h1, e1⟩ | ⟨h1, l1, e1⟩ | ⟨h1, l1, e1⟩
  · rcases cmpI_three a.dst b.dst with ⟨h2, e2⟩ | ⟨h2, l2, e2⟩ | ⟨h2, l2, e2⟩
    · rcases cmpS_three a.name b.name with ⟨h3, e3⟩ | ⟨h3, l3, e3⟩ | ⟨h3, l3, e3⟩
      · rcases cmpI_three a.h b.h with ⟨h4, e4⟩ | ⟨h4, l4, e4⟩ | ⟨h4, l4, e4⟩
        · rw [e1, e2, e3, e4]; simp [h1, h2, h3, h4]
        · rw [e1, e2, e3, e4]; simp [h1, h2, h3, l4]
        · rw [e1, e2, e3, e4]; simp [h1, h2, h3]; omega
      · rw [e1, e2, e3]; simp [h1, h2, h3, l3]
      · rw [e1, e2, e3]; simp [h1, h2, l3]; exact fun h => absurd h h3
    · rw [e1, e2]; simp [h1, h2, l2]
    · rw [e1, e2]; simp [h1, h2]; omega
  · rw [e1]; simp [h1, l1]
  · rw [e1]; simp [h1]; omega
end Go.Dw
end
section
namespace Go.Dw
structure AAut where
  states : Int
  bound : Int
  moves : List AMove
  deriving Inhabited, DecidableEq
def cAu (a : AAut) : List V := [.int .i64 a.states, .int .i64 a.bound, encMvs a.moves]
def encAu (a : AAut) : V := .agg (cAu a)
theorem cAu_0 (a : AAut) : (cAu a)[0]? = some (.int .i64 a.states) := rfl
theorem cAu_1 (a : AAut) : (cAu a)[1]? = some (.int .i64 a.bound) := rfl
theorem cAu_2 (a : AAut) : (cAu a)[2]? = some (encMvs a.moves) := rfl
theorem cAu_len (a : AAut) : (cAu a).length = 3 := rfl
theorem sto_encAu (a : AAut) : sto (encAu a) = some (cAu a) := rfl
theorem ren_encAu {σ : Nat → Option Nat} (a : AAut) : ren σ (encAu a) = encAu a := rfl
theorem rens_cAu {σ : Nat → Option Nat} (a : AAut) : rens σ (cAu a) = cAu a := rfl
theorem agg_cAu (a : AAut) : V.agg (cAu a) = encAu a := rfl
theorem sub_cAu (a : AAut) : sub 0 3 (cAu a) = cAu a := rfl
attribute [push_cast] cAu_0 cAu_1 cAu_2 cAu_len sto_encAu ren_encAu rens_cAu agg_cAu sub_cAu
def moveE (a : AAut) (x : AMove) : Int :=
  if x.src < 0 ∨ a.states ≤ x.src ∨ x.dst < 0 ∨ a.states ≤ x.dst then 8 else if x.h < 0 ∨ a.bound < x.h then 2 else if isName x.name true then 0 else 4
def movesE (a : AAut) : List AMove → Int
  | [] => 0
  | x :: l => if moveE a x ≠ 0 then moveE a x else movesE a l
def inOrder (l : List AMove) : Bool := (List.range (l.length - 1)).all fun i => lessM (l.getD i default) (l.getD (i + 1) default)
def formE (a : AAut) : Int :=
  if a.states < 1 ∨ 256 < a.states ∨ a.bound < 0 ∨ 16 < a.bound then 2 else if 4096 < a.moves.length then 3 else
    if movesE a a.moves ≠ 0 then movesE a a.moves else if inOrder a.moves then 0 else 4
theorem bounds_form_s (a : AAut) (hl : a.moves.length < 2 ^ 40) (hn : ∀ x ∈ a.moves, x.name.length < 2 ^ 40) : PF n_bounds_form [encAu a] (.int .i64 (formE a)) := by
  refine pf_of bounds_form.ok rfl ?_
  unfold formE
  by_cases c1 : a.states < 1
  · rw [if_pos (.inl c1)]
    push_cast [eq_true c1]
    exact pf_ret (by push_cast [bounds_form.rs])
  by_cases c2 : 256 < a.states
  · rw [if_pos (.inr (.inl c2))]
    push_cast [eq_false c1, eq_true c2]
    exact pf_ret (by push_cast [bounds_form.rs])
  by_cases c3 : a.bound < 0
  · rw [if_pos (.inr (.inr (.inl c3)))]
    push_cast [eq_false c1, eq_false c2, eq_true c3]
    exact pf_ret (by push_cast [bounds_form.rs])
  by_cases c4 : 16 < a.bound
  · rw [if_pos (.inr (.inr (.inr c4)))]
    push_cast [eq_false c1, eq_false c2, eq_false c3, eq_true c4]
    exact pf_ret (by push_cast [bounds_form.rs])
  rw [if_neg (by omega)]
  by_cases c5 : 4096 < a.moves.length
  · have c5i : ((4096 : Int) < (a.moves.length : Int)) = True := eq_true (by omega)
    rw [if_pos c5]
    push_cast [eq_false c1, eq_false c2, eq_false c3, eq_false c4, c5i]
    exact pf_ret (by push_cast [bounds_form.rs])
  have c5i : ((4096 : Int) < (a.moves.length : Int)) = False := eq_false (by omega)
  rw [if_neg c5]
  push_cast [eq_false c1, eq_false c2, eq_false c3, eq_false c4, c5i]
  refine loop_up (n := a.moves.length) (R := fun k => movesE a (a.moves.drop k) = movesE a a.moves → bounds_form.L7 (.ro (cAu a) 0) (encMvs a.moves) (.int .i64 a.moves.length) (.int .i64 k) 0 [] _) ?_ ?_ 0 (Nat.zero_le _) rfl
  · intro k hk ih hq
    have hnm := hn _ (getD_mem hk)
    rw [drop_getD hk] at hq
    refine bounds_form.G7 ?_
    generalize hx : a.moves.getD k default = x at hq hnm
    simp only [movesE] at hq
    have bad : ∀ e : Int, moveE a x = e → e ≠ 0 → movesE a a.moves = e := fun e h1 h2 => by rw [← hq, if_pos (by rw [h1]; exact h2), h1]
    by_cases d1 : x.src < 0
    · rw [bad 8 (by unfold moveE; rw [if_pos (.inl d1)]) (by decide), if_pos (by decide)]
      push_cast [ilt hk, hx, eq_true d1]
      exact pf_ret (by push_cast [bounds_form.rs])
    by_cases d2 : a.states ≤ x.src
    · rw [bad 8 (by unfold moveE; rw [if_pos (.inr (.inl d2))]) (by decide), if_pos (by decide)]
      push_cast [ilt hk, hx, eq_false d1, eq_true d2]
      exact pf_ret (by push_cast [bounds_form.rs])
    by_cases d3 : x.dst < 0
    · rw [bad 8 (by unfold moveE; rw [if_pos (.inr (.inr (.inl d3)))]) (by decide), if_pos (by decide)]
      push_cast [ilt hk, hx, eq_false d1, eq_false d2, eq_true d3]
      exact pf_ret (by push_cast [bounds_form.rs])
    by_cases d4 : a.states ≤ x.dst
    · rw [bad 8 (by unfold moveE; rw [if_pos (.inr (.inr (.inr d4)))]) (by decide), if_pos (by decide)]
      push_cast [ilt hk, hx, eq_false d1, eq_false d2, eq_false d3, eq_true d4]
      exact pf_ret (by push_cast [bounds_form.rs])
    have hm1 : moveE a x = if x.h < 0 ∨ a.bound < x.h then 2 else if isName x.name true then 0 else 4 := by unfold moveE; rw [if_neg (by omega)]
    by_cases d5 : x.h < 0
    · rw [bad 2 (by rw [hm1, if_pos (.inl d5)]) (by decide), if_pos (by decide)]
      push_cast [ilt hk, hx, eq_false d1, eq_false d2, eq_false d3, eq_false d4, eq_true d5]
      exact pf_ret (by push_cast [bounds_form.rs])
    by_cases d6 : a.bound < x.h
    · rw [bad 2 (by rw [hm1, if_pos (.inr d6)]) (by decide), if_pos (by decide)]
      push_cast [ilt hk, hx, eq_false d1, eq_false d2, eq_false d3, eq_false d4, eq_false d5, eq_true d6]
      exact pf_ret (by push_cast [bounds_form.rs])
    rw [if_neg (by omega)] at hm1
    push_cast [ilt hk, hx, eq_false d1, eq_false d2, eq_false d3, eq_false d4, eq_false d5, eq_false d6]
    refine .of (term_IsName_s x.name true (by omega)) ?_
    cases hi : isName x.name true with
    | false =>
      rw [bad 4 (by rw [hm1, hi]; rfl) (by decide), if_pos (by decide)]
      push_cast
      exact pf_ret (by push_cast [bounds_form.rs])
    | true =>
      rw [hi, if_pos rfl] at hm1
      rw [hm1, if_neg (by decide)] at hq
      push_cast [w64 (show k < 2 ^ 62 by omega)]
      have := ih hq
      push_cast at this
      exact this
  · intro hq
    rw [drop_map_none] at hq
    have h0 : movesE a a.moves = 0 := by rw [← hq]; rfl
    rw [h0, if_neg (by decide)]
    refine bounds_form.G7 ?_
    push_cast [inlt (Nat.le_refl _)]
    have hb : ∀ k, k < a.moves.length - 1 → lessM (a.moves.getD k default) (a.moves.getD (k + 1) default) = false → inOrder a.moves = false := fun k hk h =>
      List.all_eq_false.2 ⟨k, List.mem_range.2 hk, by rw [h]; exact Bool.false_ne_true⟩
    refine loop_up (n := a.moves.length - 1) (R := fun k => (∀ j, j < k → lessM (a.moves.getD j default) (a.moves.getD (j + 1) default) = true) → bounds_form.L3 (.ro (cAu a) 0) (.int .i64 ((k + 1 : Nat) : Int)) 0 [] (Ends 0 bounds_form.rs fun x' H' => x' = V.int IntKind.i64 (if inOrder a.moves = true then 0 else 4) ∧ H' = [])) ?_ ?_ 0 (Nat.zero_le _) (by intro j hj; omega)
    · intro k hk ih hj
      refine bounds_form.G3 ?_
      have hk1 : (((k + 1 : Nat) : Int) < (a.moves.length : Int)) = True := eq_true (by omega)
      have hk0 : ((k : Int) < (a.moves.length : Int)) = True := eq_true (by omega)
      have hw : IntKind.i64.wrap (((k : Int) + 1) - 1) = k := by rw [wrap64 (by omega) (by omega)]; omega
      have hbk := hb k hk
      have hjk : lessM (a.moves.getD k default) (a.moves.getD (k + 1) default) = true → ∀ j, j < k + 1 → lessM (a.moves.getD j default) (a.moves.getD (j + 1) default) = true := fun h j hj' => by
        by_cases e : j = k
        · subst e; exact h
        · exact hj j (by omega)
      have hcl := cmpM_less (a.moves.getD k default) (a.moves.getD (k + 1) default)
      generalize hx : a.moves.getD k default = x at hbk hjk hcl
      generalize hy : a.moves.getD (k + 1) default = y at hbk hjk hcl
      push_cast at hk1
      have htn : ((k : Int) + 1).toNat = k + 1 := by omega
      push_cast [hk1, hk0, hw, hx, htn, hy]
      refine ⟨by omega, ?_⟩
      refine .of (bounds_compare_s x y) ?_
      by_cases hc : 0 ≤ cmpM x y
      · push_cast [eq_true hc]
        rw [hbk (hcl.1 hc)]
        exact pf_ret (by push_cast [bounds_form.rs])
      · have hw2 : IntKind.i64.wrap ((k : Int) + 1 + 1) = (k : Int) + 1 + 1 := by rw [wrap64 (by omega) (by omega)]
        push_cast [eq_false hc, hw2]
        have := ih (hjk (by cases hl : lessM x y with | true => rfl | false => exact absurd (hcl.2 hl) hc))
        push_cast at this
        exact this
    · intro hj
      have hio : inOrder a.moves = true := List.all_eq_true.2 fun k hk => hj k (List.mem_range.1 hk)
      refine bounds_form.G3 ?_
      have hk1 : (((a.moves.length - 1 + 1 : Nat) : Int) < (a.moves.length : Int)) = False := eq_false (by omega)
      generalize a.moves.length - 1 + 1 = i at hk1
      push_cast [hk1]
      rw [hio]
      exact pf_ret (by push_cast [bounds_form.rs])
end Go.Dw
end
section
namespace Go.Dw
def symbolsR : List ARule → List Str
  | [] => []
  | x :: r => (wordT x.left).1 ++ (wordT x.right).1 ++ symbolsR r
theorem symbolsR_append (a b : List ARule) : symbolsR (a ++ b) = symbolsR a ++ symbolsR b := by
  induction a with
  | nil => rfl
  | cons x a ih => simp [symbolsR, ih]
theorem symbolsR_take (r : List ARule) {k : Nat} (hk : k < r.length) : symbolsR (r.take (k + 1)) = symbolsR (r.take k) ++ (wordT (r.getD k default).left).1 ++ (wordT (r.getD k default).right).1 := by
  rw [List.take_succ_eq_append_getElem hk, symbolsR_append]; simp [symbolsR, List.getD_eq_getElem?_getD, hk]
theorem wordT_len : ∀ (n : Nat) (t : Term), size t ≤ n → (wordT t).1.length < size t
  | 0, t, h => by have := size_args t; omega
  | n + 1, t, h => by
    have hs := size_args t
    rw [wordT_step]
    split
    · rename_i hc
      have hm := size_mem (getD_mem (l := t.args) (k := 0) (by omega))
      have := wordT_len n (t.args.getD 0 default) (by omega)
      simp only [List.length_cons]; omega
    · simp only [List.length_nil]; omega
theorem symbolsR_len : ∀ r : List ARule, (symbolsR r).length ≤ rbs r
  | [] => by simp [symbolsR]
  | x :: r => by
    have h1 := wordT_len _ x.left (Nat.le_refl _)
    have h2 := wordT_len _ x.right (Nat.le_refl _)
    have h3 := symbolsR_len r
    have h4 := size_le_tb x.left
    have h5 := size_le_tb x.right
    simp only [symbolsR, List.length_append, rbs]
    omega
theorem r24_Symbols_s (r : List ARule) (hr : rbs r < 2 ^ 38) : PF n_r24_Symbols [encRs r] (encSs (symbolsR r)) := by
  have hl := length_le_rbs r
  refine pf_of r24_Symbols.ok rfl ?_
  push_cast
  refine loop_up (n := r.length) (R := fun k => r24_Symbols.L3 (ownL cS 0 1 (symbolsR (r.take k))) (encRs r) (.int .i64 r.length) (.int .i64 k) 0 [.arr t_string 1 (symbolsR (r.take k)).length] (Ends 0 r24_Symbols.rs fun x H => x = encSs (symbolsR r) ∧ H = [])) ?_ ?_ 0 (Nat.zero_le _)
  · intro k hk ih
    have hmm := rbs_mem (getD_mem hk)
    have htk := symbolsR_take r hk
    have hsl : (symbolsR (r.take (k + 1))).length ≤ rbs r := by
      have h1 := symbolsR_len r
      have h2 := symbolsR_append (r.take (k + 1)) (r.drop (k + 1))
      rw [List.take_append_drop] at h2
      rw [h2, List.length_append] at h1
      omega
    rw [htk] at ih hsl
    refine r24_Symbols.G3 ?_
    generalize hx : r.getD k default = x at hmm ih hsl
    generalize symbolsR (r.take k) = A at ih hsl ⊢
    have h1 := size_le_tb x.left
    have h2 := size_le_tb x.right
    push_cast [ilt hk, hx]
    refine .of (r24_Word_s x.left (by omega)) ?_
    push_cast
    refine .of (r24_Word_s x.right (by omega)) ?_
    generalize (wordT x.left).1 = u at ih hsl ⊢
    generalize (wordT x.right).1 = v at ih hsl ⊢
    simp only [List.length_append] at hsl
    push_cast [w64 (show k < 2 ^ 62 by omega)]
    have e1 : (List.map cS u).length = u.length := by simp
    have e2 : (List.map cS v).length = v.length := by simp
    rw [e1, e2]
    rw [List.append_assoc, List.length_append, List.length_append, ← Nat.add_assoc] at ih
    push_cast at ih
    refine ⟨by unfold maxEls; omega, ⟨rfl, by unfold maxEls; omega⟩, ?_⟩
    exact ih
  · refine r24_Symbols.G3 ?_
    push_cast [inlt (Nat.le_refl _), List.take_length]
    exact pf_ret (by push_cast [r24_Symbols.rs])
def hasI (l : List Int) (x : Int) : Bool := l.any fun y => decide (x = y)
theorem r24_contains_s (l : List Int) (x : Int) (hl : l.length < 2 ^ 62) : PF n_r24_contains [encP l, .int .i64 x] (.bool (hasI l x)) := by
  refine pf_of r24_contains.ok rfl ?_
  push_cast
  refine loop_up (n := l.length) (R := fun k => hasI (l.drop k) x = hasI l x → r24_contains.L3 (.int .i64 x) (encP l) (.int .i64 l.length) (.int .i64 k) 0 [] (Ends 0 r24_contains.rs fun y H => y = .bool (hasI l x) ∧ H = [])) ?_ ?_ 0 (Nat.zero_le _) rfl
  · intro k hk ih hq
    rw [drop_getD hk] at hq
    refine r24_contains.G3 ?_
    generalize hy : l.getD k default = y at hq
    simp only [hasI, List.any_cons] at hq
    by_cases h : x = y
    · push_cast [ilt hk, hy, eq_true h]
      simp only [h, decide_true, Bool.true_or] at hq
      exact pf_ret (by push_cast [r24_contains.rs, hasI, h, ← hq])
    · push_cast [ilt hk, hy, eq_false h, w64 (show k < 2 ^ 62 by omega)]
      simp only [h, decide_false, Bool.false_or] at hq
      have := ih hq
      push_cast at this
      exact this
  · intro hq
    rw [drop_map_none] at hq
    refine r24_contains.G3 ?_
    push_cast [inlt (Nat.le_refl _)]
    rw [← hq]
    exact pf_ret (by push_cast [r24_contains.rs, hasI]; rfl)
end Go.Dw
end
section
namespace Go.Dw
abbrev Gr := List (Int × List AMove)
def addGr (x : AMove) : Gr → Gr
  | [] => [(x.src, [x])]
  | p :: g => if p.1 = x.src then (p.1, p.2 ++ [x]) :: g else p :: addGr x g
def getG (s : Int) : Gr → List AMove
  | [] => []
  | p :: g => if p.1 = s then p.2 else getG s g
def fromM (l : List AMove) : Gr := l.foldl (fun g x => addGr x g) []
theorem getG_add (s : Int) (x : AMove) : ∀ g : Gr, getG s (addGr x g) = getG s g ++ if x.src = s then [x] else []
  | [] => by simp only [addGr, getG]; split <;> simp
  | p :: g => by
    simp only [addGr]
    by_cases h : p.1 = x.src
    · rw [if_pos h]
      simp only [getG]
      by_cases h2 : p.1 = s
      · rw [if_pos h2, if_pos h2, if_pos (by omega)]
      · rw [if_neg h2, if_neg h2, if_neg (by omega)]; simp
    · rw [if_neg h]
      simp only [getG]
      by_cases h2 : p.1 = s
      · rw [if_pos h2, if_pos h2, if_neg (by omega)]; simp
      · rw [if_neg h2, if_neg h2, getG_add s x g]
theorem getG_foldl (s : Int) : ∀ (l : List AMove) (g : Gr), getG s (l.foldl (fun g x => addGr x g) g) = getG s g ++ l.filter fun x => decide (x.src = s)
  | [], g => by simp
  | x :: l, g => by
    rw [List.foldl_cons, getG_foldl s l, getG_add, List.append_assoc, List.filter_cons]
    by_cases h : x.src = s <;> simp [h]
theorem getG_from (s : Int) (l : List AMove) : getG s (fromM l) = l.filter fun x => decide (x.src = s) := by
  unfold fromM; rw [getG_foldl]; rfl
def encGr (g : Gr) : List (V × V) := g.map fun p => (.int .i64 p.1, encMvs p.2)
abbrev Go' := List (Int × Nat × List AMove)
def entG (g : Go') : List (V × V) := g.map fun p => (.int .i64 p.1, ownL cMv p.2.1 4 p.2.2)
def addGo (new : Nat) (x : AMove) : Go' → Go'
  | [] => [(x.src, new, [x])]
  | p :: g => if p.1 = x.src then (p.1, p.2.1, p.2.2 ++ [x]) :: g else p :: addGo new x g
def plainG (g : Go') : Gr := g.map fun p => (p.1, p.2.2)
theorem plain_add (new : Nat) (x : AMove) : ∀ g : Go', plainG (addGo new x g) = addGr x (plainG g)
  | [] => rfl
  | p :: g => by
    simp only [addGo, plainG, List.map_cons, addGr]
    by_cases h : p.1 = x.src
    · rw [if_pos h, if_pos h]; rfl
    · rw [if_neg h, if_neg h]
      have := plain_add new x g
      simp only [plainG] at this
      simp only [List.map_cons, this]
theorem findM_none {s : Int} : ∀ {g : Go'} {i : Nat}, (∀ p ∈ g, p.1 ≠ s) → findM (.int .i64 s) (entG g) i = some none
  | [], i, _ => rfl
  | p :: g, i, h => by
    have h1 := h p (by simp)
    have : (s == p.1) = false := by simpa using fun e => h1 e.symm
    simp [entG, findM, sameK, this]
    exact findM_none (g := g) fun q hq => h q (by simp [hq])
theorem addGo_none {new : Nat} {x : AMove} : ∀ {g : Go'}, (∀ p ∈ g, p.1 ≠ x.src) → addGo new x g = g ++ [(x.src, new, [x])]
  | [], _ => rfl
  | p :: g, h => by
    simp only [addGo]
    rw [if_neg (h p (by simp)), addGo_none fun q hq => h q (by simp [hq])]; rfl
theorem findM_some {x : AMove} : ∀ {g : Go'}, (∃ p ∈ g, p.1 = x.src) → ∃ j p, g[j]? = some p ∧ p.1 = x.src ∧ (∀ i, findM (.int .i64 x.src) (entG g) i = some (some (i + j, ownL cMv p.2.1 4 p.2.2))) ∧ ∀ new, addGo new x g = g.set j (p.1, p.2.1, p.2.2 ++ [x])
  | [], h => by obtain ⟨p, hp, _⟩ := h; cases hp
  | q :: g, h => by
    by_cases h1 : q.1 = x.src
    · refine ⟨0, q, rfl, h1, fun i => ?_, fun new => ?_⟩
      · simp [entG, findM, sameK, h1]
      · simp only [addGo]; rw [if_pos h1]; rfl
    · obtain ⟨j, p, h2, h3, h4, h5⟩ := findM_some (x := x) (g := g) (by
        obtain ⟨p, hp, h2⟩ := h
        rcases List.mem_cons.1 hp with rfl | hp
        · exact absurd h2 h1
        · exact ⟨p, hp, h2⟩)
      refine ⟨j + 1, p, h2, h3, fun i => ?_, fun new => ?_⟩
      · have hb : (x.src == q.1) = false := by simpa using fun e => h1 e.symm
        have : findM (.int .i64 x.src) (entG (q :: g)) i = findM (.int .i64 x.src) (entG g) (i + 1) := by simp [entG, findM, sameK, hb]
        rw [this, h4]; congr 3; omega
      · simp only [addGo]; rw [if_neg h1, h5]; rfl
structure GoOk (g : Go') (H : List Ob) : Prop where
  map : H[0]? = some (.map (entG g))
  arr : ∀ p ∈ g, 0 < p.2.1 ∧ H[p.2.1]? = some (.arr t_Move 4 p.2.2.length)
  nd : (g.map (·.2.1)).Nodup
theorem set_last {H : List Ob} {o o' : Ob} : (H ++ [o]).set H.length o' = H ++ [o'] := by
  rw [List.set_append_right _ _ (Nat.le_refl _)]; simp
theorem get_last {H : List Ob} {o : Ob} : (H ++ [o])[H.length]? = some o := by simp
theorem bounds_from_s (a : AAut) (hl : a.moves.length < 2 ^ 38) : Spec prog n_bounds_from [encAu a] [] fun x H' => x = .map 0 ∧ H' = [.map (encGr (fromM a.moves))] := by
  refine spec_of_run mixed bounds_from.ok rfl ?_
  push_cast
  refine loop_up (n := a.moves.length) (R := fun k => ∀ g H, GoOk g H → plainG g = fromM (a.moves.take k) → (∀ p ∈ g, p.2.2.length ≤ k) → bounds_from.L3 (.map 0) (encMvs a.moves) (.int .i64 a.moves.length) (.int .i64 k) 0 H (Ends 0 bounds_from.rs fun x H' => x = .map 0 ∧ H' = [.map (encGr (fromM a.moves))])) ?_ ?_ 0 (Nat.zero_le _) [] [.map []] ⟨rfl, by simp, by simp⟩ rfl (by simp)
  · intro k hk ih g H hg hp hc
    refine bounds_from.G3 ?_
    have htk : a.moves.take (k + 1) = a.moves.take k ++ [a.moves.getD k default] := take_succ_getD hk
    generalize hx0 : a.moves.getD k default = x at htk
    have hfm : fromM (a.moves.take (k + 1)) = addGr x (fromM (a.moves.take k)) := by rw [htk]; simp [fromM]
    have hHl : 0 < H.length := (List.getElem?_eq_some_iff.1 hg.map).1
    have hm1 : ∀ R : List Ob, (H ++ R)[0]? = some (.map (entG g)) := fun R => by rw [List.getElem?_append_left hHl]; exact hg.map
    have hmx : (40 ≤ maxEls) = True := eq_true (by unfold maxEls; decide)
    by_cases hx : ∃ p ∈ g, p.1 = x.src
    · obtain ⟨j, p, q1, q2, q3, q4⟩ := findM_some hx
      have hpm := List.mem_of_getElem? q1
      obtain ⟨r1, r2⟩ := hg.arr p hpm
      have hpl := hc p hpm
      have hil : p.2.1 < H.length := (List.getElem?_eq_some_iff.1 r2).1
      have hjl : j < g.length := (List.getElem?_eq_some_iff.1 q1).1
      have hlk : lookV (H ++ [.dead]) false false .nil (.map 0) (.int .i64 x.src) = some (.own p.2.1 4 (p.2.2.map cMv)) := by
        have h0 : entsV (H ++ [.dead]) (.map 0) = some (entG g) := by unfold entsV; simp only [hm1]
        unfold lookV; rw [h0]; simp only [q3 0]; rfl
      have hgi : (H ++ [Ob.dead])[p.2.1]? = some (.arr t_Move 4 p.2.2.length) := by rw [List.getElem?_append_left hil]; exact r2
      have hsi : ∀ o, (H ++ [Ob.dead]).set p.2.1 o = H.set p.2.1 o ++ [.dead] := fun o => List.set_append_left _ _ hil
      have hm2 : ∀ o, (H.set p.2.1 o ++ [Ob.dead])[0]? = some (.map (entG g)) := fun o => by
        rw [List.getElem?_append_left (by simpa using hHl), List.getElem?_set_ne (by omega)]; exact hg.map
      have hs2 : ∀ o o', (H.set p.2.1 o ++ [Ob.dead]).set 0 o' = (H.set p.2.1 o).set 0 o' ++ [.dead] := fun o o' => List.set_append_left _ _ (by simpa using hHl)
      have hup : updM (.int .i64 x.src) (ownL cMv p.2.1 4 (p.2.2 ++ [x])) (entG g) = some (entG (addGo 0 x g)) := by
        unfold updM; rw [q3 0, q4]
        simp only [Nat.zero_add, entG, List.map_set, q2]
      have hlen : (p.2.2.length * 40 + 40 ≤ maxEls) = True := eq_true (by unfold maxEls; omega)
      have hlen2 : ((p.2.2.length + 1) * 40 ≤ maxEls) = True := eq_true (by unfold maxEls; omega)
      push_cast [ilt hk, hx0, set_last, get_last, hlk, hgi, hsi, hm2, hs2, hup, hlen, hlen2, hmx, ksB, List.length_map, w64 (show k < 2 ^ 62 by omega)]
      have := ih (addGo 0 x g) ((H.set p.2.1 (.arr t_Move 4 (p.2.2.length + 1))).set 0 (.map (entG (addGo 0 x g))) ++ [.dead]) ?_ (by rw [plain_add, hp, hfm]) ?_
      · push_cast at this
        exact this
      · rw [q4]
        refine ⟨by rw [List.getElem?_append_left (by simpa using hHl), List.getElem?_set_self (by simpa using hHl)], fun p' hp' => ?_, ?_⟩
        · obtain ⟨l, hl1, hl2⟩ := List.getElem_of_mem hp'
          have hll : l < g.length := by simpa using hl1
          have h0 : ∀ n, n < H.length → 0 < n → ((H.set p.2.1 (.arr t_Move 4 (p.2.2.length + 1))).set 0 (Ob.map (entG (g.set j (p.1, p.2.1, p.2.2 ++ [x])))) ++ [Ob.dead])[n]? = (H.set p.2.1 (.arr t_Move 4 (p.2.2.length + 1)))[n]? := fun n h1 h2 => by
            rw [List.getElem?_append_left (by simpa using h1), List.getElem?_set_ne (by omega)]
          rw [List.getElem_set] at hl2
          split at hl2
          · rw [← hl2]
            refine ⟨r1, ?_⟩
            rw [h0 _ hil r1, List.getElem?_set_self hil]; simp
          · have hp'g : p' ∈ g := by rw [← hl2]; exact List.getElem_mem _
            obtain ⟨s1, s2⟩ := hg.arr p' hp'g
            have hne : p.2.1 ≠ p'.2.1 := fun e => by
              rename_i hjl'
              have hnd := hg.nd
              have e1 : (g.map (·.2.1))[j]'(by simpa using hjl) = (g.map (·.2.1))[l]'(by simpa using hll) := by
                simp only [List.getElem_map]
                have : g[j] = p := (List.getElem?_eq_some_iff.1 q1).2
                rw [this, hl2]; exact e
              exact hjl' ((List.getElem_inj hnd).1 e1)
            have hil' : p'.2.1 < H.length := (List.getElem?_eq_some_iff.1 s2).1
            exact ⟨s1, by rw [h0 _ hil' s1, List.getElem?_set_ne hne]; exact s2⟩
        · rw [List.map_set]
          have : (g.map (·.2.1)).set j p.2.1 = g.map (·.2.1) := by
            have h1 : (g.map (·.2.1))[j]'(by simpa using hjl) = p.2.1 := by
              simp only [List.getElem_map]
              have : g[j] = p := (List.getElem?_eq_some_iff.1 q1).2
              rw [this]
            rw [← h1, List.set_getElem_self]
          show ((g.map (·.2.1)).set j p.2.1).Nodup
          rw [this]; exact hg.nd
      · rw [q4]
        intro p' hp'
        rcases List.mem_or_eq_of_mem_set hp' with h | h
        · have := hc p' h; omega
        · rw [h]; simp; omega
    · have hx' : ∀ p ∈ g, p.1 ≠ x.src := fun p hp e => hx ⟨p, hp, e⟩
      have hlk : lookV (H ++ [.dead]) false false .nil (.map 0) (.int .i64 x.src) = some .nil := by
        have h0 : entsV (H ++ [.dead]) (.map 0) = some (entG g) := by unfold entsV; simp only [hm1]
        unfold lookV; rw [h0]; simp only [findM_none hx']; rfl
      have hg2 : (H ++ [Ob.dead, Ob.arr t_Move 4 0])[H.length + 1]? = some (.arr t_Move 4 0) := by
        rw [List.getElem?_append_right (by omega)]; simp
      have hs2 : ∀ o, (H ++ [Ob.dead, Ob.arr t_Move 4 0]).set (H.length + 1) o = H ++ [.dead, o] := fun o => by
        rw [List.set_append_right _ _ (by omega)]; simp
      have hs3 : ∀ R o, (H ++ R).set 0 o = H.set 0 o ++ R := fun R o => List.set_append_left _ _ hHl
      have hup : updM (.int .i64 x.src) (.own (H.length + 1) 4 [cMv x]) (entG g) = some (entG (addGo (H.length + 1) x g)) := by
        unfold updM; rw [findM_none hx', addGo_none hx']
        simp only [entG, List.map_append]; rfl
      push_cast [ilt hk, hx0, set_last, get_last, hlk, hg2, hs2, hm1, hs3, hup, hmx, ksB, w64 (show k < 2 ^ 62 by omega)]
      have := ih (addGo (H.length + 1) x g) (H.set 0 (.map (entG (addGo (H.length + 1) x g))) ++ [.dead, .arr t_Move 4 1]) ?_ (by rw [plain_add, hp, hfm]) ?_
      · push_cast at this
        exact this
      · rw [addGo_none hx']
        refine ⟨by rw [List.getElem?_append_left (by simpa using hHl), List.getElem?_set_self (by simpa using hHl)], fun p' hp' => ?_, ?_⟩
        · rcases List.mem_append.1 hp' with h | h
          · obtain ⟨s1, s2⟩ := hg.arr p' h
            have hil' : p'.2.1 < H.length := (List.getElem?_eq_some_iff.1 s2).1
            exact ⟨s1, by rw [List.getElem?_append_left (by simpa using hil'), List.getElem?_set_ne (by omega)]; exact s2⟩
          · rw [List.mem_singleton.1 h]
            refine ⟨by show 0 < H.length + 1; omega, ?_⟩
            show (H.set 0 _ ++ [Ob.dead, Ob.arr t_Move 4 1])[H.length + 1]? = _
            rw [List.getElem?_append_right (by simp)]; simp
        · rw [List.map_append, List.nodup_append]
          refine ⟨hg.nd, by simp, fun u hu v hv => ?_⟩
          obtain ⟨p', hp', rfl⟩ := List.mem_map.1 hu
          have hil' : p'.2.1 < H.length := (List.getElem?_eq_some_iff.1 (hg.arr p' hp').2).1
          have hv : v = H.length + 1 := by simpa using hv
          omega
      · rw [addGo_none hx']
        intro p' hp'
        rcases List.mem_append.1 hp' with h | h
        · have := hc p' h; omega
        · rw [List.mem_singleton.1 h]; simp
  · intro g H hg hp hc
    refine bounds_from.G3 ?_
    push_cast [inlt (Nat.le_refl _)]
    rw [List.take_length] at hp
    have hHl : 0 < H.length := (List.getElem?_eq_some_iff.1 hg.map).1
    refine ends_ex (.inl rfl) [0] (x := .map 0) (by simp) (by simpa using hHl) rfl ⟨rfl, ?_⟩
    have h1 : pos? [0] = fun i => if i = 0 then some 0 else none := by
      funext i; cases i <;> rfl
    show [renOb (pos? [0]) (H.getD 0 .dead)] = _
    have h2 : H.getD 0 .dead = .map (entG g) := by rw [List.getD_eq_getElem?_getD, hg.map]; rfl
    rw [h2, ← hp]
    push_cast
    simp only [entG, encGr, plainG, List.map_map]
    refine congrArg Ob.map (List.map_congr_left fun p hpm => ?_)
    have := (hg.arr p hpm).1
    obtain ⟨s, n, l⟩ := p
    simp only [Function.comp, ren_int, ren_ownL]
    have h3 : pos? [0] n = none := by rw [h1]; simp only; rw [if_neg (by simp at this; omega)]
    rw [h3]
end Go.Dw
end
section
namespace Go.Dw
theorem seen_full {n : Nat} {seen : List Nat} {k : Nat} (hm : n ≤ seen.length) (hnd : seen.Nodup) (hlt : ∀ i ∈ seen, i < n) (hk : k ∉ seen) (hkn : k < n) : False := by
  have h1 : (seen ++ [k]).Nodup := by simp [List.nodup_append, hnd]; intro a ha e; exact hk (e ▸ ha)
  have h2 : (seen ++ [k]).length ≤ (List.range n).length := List.Nodup.length_le_of_subset h1 (by
    intro i hi
    rw [List.mem_range]
    rcases List.mem_append.1 hi with h | h
    · exact hlt i h
    · simp only [List.mem_singleton] at h; subst h; exact hkn)
  simp at h2; omega
theorem range_up (n : Nat) (R : List Nat → Prop) (h : ∀ seen, seen.Nodup → (∀ i ∈ seen, i < n) → seen.length ≤ n → (∀ k, k < n → k ∉ seen → R (seen ++ [k])) → R seen) : R [] := by
  have key : ∀ (f : Nat) (seen : List Nat), n - seen.length < f → seen.Nodup → (∀ i ∈ seen, i < n) → R seen := by
    intro f
    induction f with
    | zero => intro seen hf; omega
    | succ f ih =>
      intro seen hf hnd hlt
      have hl : seen.length ≤ n := by simpa using List.Nodup.length_le_of_subset hnd (l₂ := List.range n) fun i hi => List.mem_range.2 (hlt i hi)
      refine h seen hnd hlt hl fun k hkn hk => ?_
      have hlen : seen.length < n := by
        rcases Nat.lt_or_ge seen.length n with h | h
        · exact h
        · exact (seen_full h hnd hlt hk hkn).elim
      refine ih (seen ++ [k]) (by simp; omega) (by simp [List.nodup_append, hnd]; intro a ha e; exact hk (e ▸ ha)) fun i hi => ?_
      rcases List.mem_append.1 hi with h | h
      · exact hlt i h
      · simp only [List.mem_singleton] at h; subst h; exact hkn
  exact key (n + 1) [] (by simp) List.nodup_nil (by simp)
abbrev ASp := Int × Int
def cSp (s : ASp) : List V := [.int .i64 s.1, .int .i64 s.2]
def encSp (s : ASp) : V := .agg (cSp s)
abbrev encSps (l : List ASp) : V := encL cSp 2 l
theorem cSp_0 (s : ASp) : (cSp s)[0]? = some (.int .i64 s.1) := rfl
theorem cSp_1 (s : ASp) : (cSp s)[1]? = some (.int .i64 s.2) := rfl
theorem cSp_len (s : ASp) : (cSp s).length = 2 := rfl
theorem sto_encSp (s : ASp) : sto (encSp s) = some (cSp s) := rfl
theorem ren_encSp {σ : Nat → Option Nat} (s : ASp) : ren σ (encSp s) = encSp s := rfl
theorem rens_cSp {σ : Nat → Option Nat} (s : ASp) : rens σ (cSp s) = cSp s := rfl
theorem agg_cSp (s : ASp) : V.agg (cSp s) = encSp s := rfl
theorem sub_cSp (s : ASp) : sub 0 2 (cSp s) = cSp s := rfl
attribute [push_cast] cSp_0 cSp_1 cSp_len sto_encSp ren_encSp rens_cSp agg_cSp sub_cSp
def insK (K : List ASp) (s : ASp) : List ASp := if s ∈ K then K else K ++ [s]
def entS (K : List ASp) : List (V × V) := K.map fun s => (encSp s, .bool true)
theorem ren_entS {σ : Nat → Option Nat} {K : List ASp} : ((entS K).map fun p => (ren σ p.1, ren σ p.2)) = entS K := by
  unfold entS; rw [List.map_map]; rfl
theorem ren_encGr {σ : Nat → Option Nat} {g : Gr} : ((encGr g).map fun p => (ren σ p.1, ren σ p.2)) = encGr g := by
  unfold encGr; rw [List.map_map]; rfl
attribute [push_cast] ren_entS ren_encGr
theorem sameQ_sp (s u : ASp) : sameQ (encSp s) (encSp u) = some (decide (s = u)) := by
  obtain ⟨a, b⟩ := s
  obtain ⟨c, d⟩ := u
  simp only [sameQ, encSp, cSp, sameC, sameK, if_true]
  by_cases h1 : a = c
  · subst h1
    by_cases h2 : b = d
    · subst h2; simp
    · have e : (b == d) = false := by simpa using h2
      simp [h2, e]
  · have e : (a == c) = false := by simpa using h1
    simp [h1, e]
theorem findQ_entS (s : ASp) : ∀ (K : List ASp) (i : Nat), (s ∉ K → findQ (encSp s) (entS K) i = some none) ∧ (s ∈ K → ∃ j, findQ (encSp s) (entS K) i = some (some (i + j, .bool true)) ∧ K[j]? = some s)
  | [], i => ⟨fun _ => rfl, fun h => by cases h⟩
  | u :: K, i => by
    obtain ⟨h1, h2⟩ := findQ_entS s K (i + 1)
    by_cases h : s = u
    · subst h
      refine ⟨fun h => absurd List.mem_cons_self h, fun _ => ⟨0, ?_, rfl⟩⟩
      simp [entS, findQ, sameQ_sp]
    · have e : findQ (encSp s) (entS (u :: K)) i = findQ (encSp s) (entS K) (i + 1) := by simp [entS, findQ, sameQ_sp, h]
      refine ⟨fun hn => ?_, fun hm => ?_⟩
      · rw [e]; exact h1 fun hm => hn (List.mem_cons_of_mem _ hm)
      · obtain ⟨j, q1, q2⟩ := h2 ((List.mem_cons.1 hm).resolve_left h)
        exact ⟨j + 1, by rw [e, q1]; congr 3; omega, q2⟩
theorem updQ_entS (s : ASp) (K : List ASp) : updQ (encSp s) (.bool true) (entS K) = some (entS (insK K s)) := by
  obtain ⟨h1, h2⟩ := findQ_entS s K 0
  unfold updQ insK
  by_cases h : s ∈ K
  · obtain ⟨j, q1, q2⟩ := h2 h
    rw [q1, if_pos h]
    simp only [Nat.zero_add, Option.some.injEq]
    have h3 : (entS K)[j]? = some (encSp s, .bool true) := by simp [entS, q2]
    obtain ⟨h4, h5⟩ := List.getElem?_eq_some_iff.1 h3
    rw [← h5, List.set_getElem_self]
  · rw [h1 h, if_neg h]; simp [entS]
theorem shB_sp (s : ASp) : shB [false, false] (encSp s) = true := rfl
theorem insK_mem {K : List ASp} {s u : ASp} : u ∈ insK K s ↔ u ∈ K ∨ u = s := by
  unfold insK; split
  · rename_i h; exact ⟨.inl, fun h2 => h2.elim id fun e => e ▸ h⟩
  · simp
theorem insK_nodup {K : List ASp} {s : ASp} (h : K.Nodup) : (insK K s).Nodup := by
  unfold insK; split
  · exact h
  · rename_i hn; rw [List.nodup_append]; exact ⟨h, by simp, fun a ha b hb e => hn (by rw [← List.mem_singleton.1 hb, ← e]; exact ha)⟩
def stepL (mv : List AMove) (fit : Int → Bool) (n : Str) (s : ASp) : List ASp := ((mv.filter fun x => decide (x.src = s.1)).filter fun x => decide (x.name = n) && fit x.h).map fun x => (x.dst, if x.h < s.2 then x.h else s.2)
def nextL (mv : List AMove) (fit : Int → Bool) (K : List ASp) (n : Str) : List ASp := (K.flatMap (stepL mv fit n)).foldl insK []
def readL (mv : List AMove) (fit : Int → Bool) (s : ASp) (w : List Str) : List ASp := w.foldl (nextL mv fit) [s]
theorem foldl_insK : ∀ (l K : List ASp), K.Nodup → (l.foldl insK K).Nodup ∧ ∀ u, u ∈ l.foldl insK K ↔ u ∈ K ∨ u ∈ l
  | [], K, h => ⟨h, fun u => by simp⟩
  | s :: l, K, h => by
    obtain ⟨h1, h2⟩ := foldl_insK l (insK K s) (insK_nodup h)
    exact ⟨h1, fun u => by rw [List.foldl_cons, h2, insK_mem, List.mem_cons]; grind⟩
theorem readL_snoc (mv : List AMove) (fit : Int → Bool) (s : ASp) (w : List Str) (n : Str) : readL mv fit s (w ++ [n]) = nextL mv fit (readL mv fit s w) n := by simp [readL]
theorem readL_nodup (mv : List AMove) (fit : Int → Bool) (s : ASp) (w : List Str) : (readL mv fit s w).Nodup := by
  rcases List.eq_nil_or_concat w with rfl | ⟨w, n, rfl⟩
  · simp [readL]
  · rw [List.concat_eq_append, readL_snoc]; exact (foldl_insK _ _ List.nodup_nil).1
theorem nextL_mem {mv : List AMove} {fit : Int → Bool} {K : List ASp} {n : Str} {u : ASp} : u ∈ nextL mv fit K n ↔ ∃ s ∈ K, u ∈ stepL mv fit n s := by
  unfold nextL; rw [(foldl_insK _ _ List.nodup_nil).2]; simp
def cfS (x y : ASp) : Int := firstN [cmpI x.1 y.1, cmpI x.2 y.2]
end Go.Dw
end
