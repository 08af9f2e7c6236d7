/-
  Contracts: the sort of strings.
-/
import Derived.Test.YtokdinonifchaaaGreatNm
import Derived.Test.YtokdinonifchaaaGreatDe
import Derived.Ground.NamesProg
import Derived.Shelf.Slices.In.SortAlone
import Derived.Shelf.Slices.In.SortNone
import Derived.Sort.EveryDepth
import Derived.Sort.Grow
import Derived.Shelf.Spec.SlicesInsert
import Derived.Lib.AppendZerosOnto
section
set_option linter.unusedVariables false
set_option linter.unusedSimpArgs false
namespace Go.Dw
/-- A function that only computes. -/
abbrev PF (f : Nat) (args : List V) (x : V) : Prop := Spec prog f args [] fun x' H' => x' = x ∧ H' = []
theorem pf_of {f : Nat} {nd : Nat → C} {c : C} {n : Nat} {rs : List RV} (hok : okF prog f nd c n rs = true) {args : List V} {x : V} (hn : args.length = n)
    (hrun : Run prog nd 0 [.c c] (ini 0 args) [] (Ends 0 rs fun x' H' => x' = x ∧ H' = [])) : PF f args x := spec_of_run mixed hok hn hrun
theorem pf_ret {rs : List RV} {t : T} {H : List Ob} {v : V} {e : X} (h : oP (retV rs t H) fun x => ren (fun _ => none) x = v) (he : e = .ret ∨ e = .fall := by first | exact .inl rfl | exact .inr rfl) : Ends 0 rs (fun x' H' => x' = v ∧ H' = []) e t H := by
  cases hr : retV rs t H with
  | none => rw [hr] at h; exact h.elim
  | some x => rw [hr] at h; exact ends_nil he hr ⟨h, rfl⟩
attribute [push_cast] List.forall_mem_singleton List.forall_mem_map Option.map_some Option.map_none Option.bind_some Option.bind_none ne_eq Bool.false_eq_true Bool.true_eq_false and_true true_and implies_true Int.natCast_nonneg implies_true not_true_eq_false not_false_eq_true true_implies false_implies forall_const V.int.injEq V.bool.injEq V.str.injEq V.tup.injEq V.agg.injEq List.cons.injEq
theorem sub_z {l : List V} : sub 0 0 l = [] := rfl
theorem sub_s {k : Nat} {x : V} {l : List V} : sub 0 (k + 1) (x :: l) = x :: sub 0 k l := rfl
theorem sub_d {o k : Nat} {x : V} {l : List V} : sub (o + 1) k (x :: l) = sub o k l := rfl
theorem put_z {l : List V} : put 0 [] l = l := by simp [put]
theorem put_s {x y : V} {n l : List V} : put 0 (x :: n) (y :: l) = x :: put 0 n l := by simp [put]
theorem put_d {o : Nat} {y : V} {n l : List V} : put (o + 1) n (y :: l) = y :: put o n l := by
  simp only [put, List.take_succ_cons, List.cons_append]
  rw [show o + 1 + n.length = (o + n.length) + 1 by omega, List.drop_succ_cons]
theorem put_cT3 (t : Term) (a b c : V) (l : List V) : put 0 (cT t) (a :: b :: c :: l) = cT t ++ l := by simp [put, cT_len]
theorem put_app (t : Term) (n l : List V) (k : Nat) : put (k + 3) n (cT t ++ l) = cT t ++ put k n l := by
  simp only [put]
  have h : (cT t).length = 3 := rfl
  rw [List.take_append, List.drop_append, List.take_of_length_le (by omega), List.drop_of_length_le (by omega)]
  simp only [h, List.nil_append, List.append_assoc]
  rw [show k + 3 - 3 = k by omega, show k + 3 + n.length - 3 = k + n.length by omega]
theorem app_get_cT (t : Term) (l : List V) (k : Nat) : (cT t ++ l)[k + 3]? = l[k]? := by
  rw [List.getElem?_append_right (by simp [cT_len])]; simp [cT_len]
theorem sub_app_cT (t : Term) (l : List V) : sub 0 3 (cT t ++ l) = cT t := by
  simp only [sub, List.drop_zero]
  exact List.take_left' rfl
attribute [push_cast] sub_z sub_s sub_d put_z put_s put_d put_cT3 put_app app_get_cT sub_app_cT List.length_append List.append_assoc
theorem getD_mem {α : Type} [Inhabited α] {l : List α} {k : Nat} (h : k < l.length) : l.getD k default ∈ l := by simp [List.getD_eq_getElem?_getD, h]
theorem take_succ_getD {α : Type} [Inhabited α] {l : List α} {k : Nat} (h : k < l.length) : l.take (k + 1) = l.take k ++ [l.getD k default] := by
  rw [List.take_succ_eq_append_getElem h]; simp [List.getD_eq_getElem?_getD, h]
theorem drop_getD {α : Type} [Inhabited α] {l : List α} {k : Nat} (h : k < l.length) : l.drop k = l.getD k default :: l.drop (k + 1) := by
  rw [List.drop_eq_getElem_cons h]; simp [List.getD_eq_getElem?_getD, h]
theorem ilt {k n : Nat} (h : k < n) : ((k : Int) < (n : Int)) = True := eq_true (by omega)
theorem inlt {k n : Nat} (h : n ≤ k) : ((k : Int) < (n : Int)) = False := eq_false (by omega)
theorem w64 {k : Nat} (h : k < 2 ^ 62) : IntKind.i64.wrap ((k : Int) + 1) = (k : Int) + 1 := wrap64 (by omega) (by omega)
theorem pos_nil : pos? [] = fun _ => none := by funext i; rfl
theorem takeG_nil (H H' : List Ob) : takeG [] H H' = H := by
  unfold takeG
  apply List.ext_getElem (by simp)
  intro i h1 h2
  simp [pos?, h2]
theorem takeB_none (H H' : List Ob) : takeB [] H H' = H ++ H'.map (renOb fun i => some (H.length + i)) := by
  unfold takeB
  rw [takeG_nil]
  have : back [] H.length = fun i => some (H.length + i) := by funext i; simp [back]
  rw [this]; simp
section
variable {N : Nat → C} {B : Nat} {s : List K} {t : T} {H : List Ob} {Q : X → T → List Ob → Prop}
/-- A call that lays new own objects, and touches none. -/
theorem callG_new {d : Option Nat} {l : List S} {f : Nat} {vs : List V} {x : V} {H1 : List Ob} (h : Spec prog f (rens (fun _ => none) vs) [] fun x' H' => x' = x ∧ H' = H1)
    (k : Run prog N B (.r l :: s) (setO d (ren (fun i => some (H.length + i)) x) t) (H ++ H1.map (renOb fun i => some (H.length + i))) Q) : CallG prog N B d l s t Q (.func f) vs H := by
  refine CallG.some [] List.nodup_nil (fun i hi => by cases hi) (R := fun x' H' => x' = x ∧ H' = H1) (by rw [pos_nil]; exact h) ?_
  rintro x' H' ⟨rfl, rfl⟩ _
  rw [takeB_none]
  have : back [] H.length = fun i => some (H.length + i) := by funext i; simp [back]
  rw [this]; exact k
end
end Go.Dw
end
section
set_option linter.unusedVariables false
set_option linter.unusedSimpArgs false
namespace Go.Proofs
open Go.RowKit Go.Shelf Go.Sort
def Tryz.laysSort_ren : Go.Shelf.Ren := ⟨fun | 190 => 120 | 125 => 176 | 258 => 175 | 128 => 217 | 129 => 218 | 302 => 208 | 303 => 209 | 304 => 210 | 305 => 211 | 306 => 212 | 307 => 213 | 308 => 214 | 309 => 215 | 310 => 216 | 333 => 239 | 329 => 240 | 330 => 241 | 334 => 242 | 335 => 243 | 336 => 205 | 344 => 251 | n => n, fun | 31 => 63 | 9 => 9 | 3 => 3 | 46 => 232 | 0 => 0 | 51 => 263 | 53 => 51 | 4 => 4 | 183 => 257 | 182 => 256 | 131 => 179 | 5 => 5 | 218 => 277 | 222 => 281 | 228 => 287 | 229 => 135 | n => n, fun | n => n⟩
theorem Tryz.laysSort : Go.Proofs.Lays.n190 Tryz.prog Tryz.laysSort_ren := {
  mixed := by kernel_rfl
  f125 := Tryz.func176.trans (congrArg some (by kernel_rfl))
  f128 := Tryz.func217.trans (congrArg some (by kernel_rfl))
  f129 := Tryz.func218.trans (congrArg some (by kernel_rfl))
  f190 := Tryz.func120.trans (congrArg some (by kernel_rfl))
  f258 := Tryz.func175.trans (congrArg some (by kernel_rfl))
  f302 := Tryz.func208.trans (congrArg some (by kernel_rfl))
  f303 := Tryz.func209.trans (congrArg some (by kernel_rfl))
  f304 := Tryz.func210.trans (congrArg some (by kernel_rfl))
  f305 := Tryz.func211.trans (congrArg some (by kernel_rfl))
  f306 := Tryz.func212.trans (congrArg some (by kernel_rfl))
  f307 := Tryz.func213.trans (congrArg some (by kernel_rfl))
  f308 := Tryz.func214.trans (congrArg some (by kernel_rfl))
  f309 := Tryz.func215.trans (congrArg some (by kernel_rfl))
  f310 := Tryz.func216.trans (congrArg some (by kernel_rfl))
  f329 := Tryz.func240.trans (congrArg some (by kernel_rfl))
  f330 := Tryz.func241.trans (congrArg some (by kernel_rfl))
  f333 := Tryz.func239.trans (congrArg some (by kernel_rfl))
  f334 := Tryz.func242.trans (congrArg some (by kernel_rfl))
  f335 := Tryz.func243.trans (congrArg some (by kernel_rfl))
  f336 := Tryz.func205.trans (congrArg some (by kernel_rfl))
  f344 := Tryz.func251.trans (congrArg some (by kernel_rfl))
  t0 := Tryz.underlying0
  a0 := Tryz.isAgg0
  z0 := Tryz.sizeOf0
  v0 := Tryz.zeroValue0
  t3 := Tryz.underlying3
  a3 := Tryz.isAgg3
  z3 := Tryz.sizeOf3
  v3 := Tryz.zeroValue3
  t4 := Tryz.underlying4
  a4 := Tryz.isAgg4
  z4 := Tryz.sizeOf4
  v4 := Tryz.zeroValue4
  t5 := Tryz.underlying5
  a5 := Tryz.isAgg5
  z5 := Tryz.sizeOf5
  v5 := Tryz.zeroValue5
  t9 := Tryz.underlying9
  a9 := Tryz.isAgg9
  z9 := Tryz.sizeOf9
  v9 := Tryz.zeroValue9
  t31 := Tryz.underlying63
  a31 := Tryz.isAgg63
  z31 := Tryz.sizeOf63
  v31 := Tryz.zeroValue63
  t46 := Tryz.underlying232
  a46 := Tryz.isAgg232
  z46 := Tryz.sizeOf232
  v46 := Tryz.zeroValue232
  t51 := Tryz.underlying263
  a51 := Tryz.isAgg263
  z51 := Tryz.sizeOf263
  v51 := Tryz.zeroValue263
  t53 := Tryz.underlying51
  a53 := Tryz.isAgg51
  z53 := Tryz.sizeOf51
  v53 := Tryz.zeroValue51
  t131 := Tryz.underlying179
  a131 := Tryz.isAgg179
  z131 := Tryz.sizeOf179
  v131 := Tryz.zeroValue179
  t182 := Tryz.underlying256
  a182 := Tryz.isAgg256
  z182 := Tryz.sizeOf256
  v182 := Tryz.zeroValue256
  t183 := Tryz.underlying257
  a183 := Tryz.isAgg257
  z183 := Tryz.sizeOf257
  v183 := Tryz.zeroValue257
  t218 := Tryz.underlying277
  a218 := Tryz.isAgg277
  z218 := Tryz.sizeOf277
  v218 := Tryz.zeroValue277
  t222 := Tryz.underlying281
  a222 := Tryz.isAgg281
  z222 := Tryz.sizeOf281
  v222 := Tryz.zeroValue281
  t228 := Tryz.underlying287
  a228 := Tryz.isAgg287
  z228 := Tryz.sizeOf287
  v228 := Tryz.zeroValue287
  t229 := Tryz.underlying135
  a229 := Tryz.isAgg135
  z229 := Tryz.sizeOf135
  v229 := Tryz.zeroValue135 }
theorem Tryz.sort_num : Tryz.laysSort_ren.f 190 = Go.Dw.n_slices_Sort_s_string_string := by kernel_rfl
theorem Tryz.sort_in (args : Array Value) (w : World) : (callFunc Go.Dw.n_slices_Sort_s_string_string args).run Tryz.prog w = .ok (.enter Go.Dw.n_slices_Sort_s_string_string args) w := by
  have := enters_of (P := Tryz.prog) Tryz.laysSort.f190 (by kernel_rfl) rfl args w
  rw [Tryz.sort_num] at this
  exact this
/-- The sort of strings. -/
abbrev sortS (l : List (List UInt8)) : List (List UInt8) := l.mergeSort fun x y => decide (x ≤ y)
theorem Tryz.sort_c (blk off cap : Nat) (zs : List (List UInt8)) (w : World) (hH : Holds encStr w blk off zs.toArray) (hblk : blk < w.heap.size) (hsz : zs.length < 4611686018427387904) :
    Calls Tryz.prog Go.Dw.n_slices_Sort_s_string_string #[.slice (some ⟨blk, off, none⟩) zs.length cap] w fun e w' =>
      e = .returned (.tuple #[]) ∧ ∃ n os, w' = grow (putRow encStr (Sort.ahead w n) blk off (sortS zs).toArray) os := by
  have := calls_of_every_depth fun D => AnyS.slices_Sort_string_alone Tryz.laysSort D blk off cap zs w hH hblk hsz
  rw [Tryz.sort_num] at this
  exact this
theorem Tryz.sort_n (cap : Nat) (w : World) : Calls Tryz.prog Go.Dw.n_slices_Sort_s_string_string #[.slice none 0 cap] w fun e w' => e = .returned (.tuple #[]) ∧ w' = w := by
  have := calls_of_every_depth fun D => AnyS.slices_Sort_string_none_alone Tryz.laysSort D none cap w
  rw [Tryz.sort_num] at this
  exact this
end Go.Proofs
namespace Go.Dw
open Go.Proofs Go.Sort
theorem sort_row (l : List (List UInt8)) : Spec prog n_slices_Sort_s_string_string [.rw 0 1 l.length] [.row t_string 1 (l.map fun s => [V.str s])] fun x H' => x = .tup [] ∧ H' = [.row t_string 1 ((sortS l).map fun s => [V.str s])] := by
  intro c vs hH hc hr
  obtain ⟨v, vs', rfl, h1, h2⟩ := hr
  have h2 : vs' = [] := h2
  subst h2
  left
  have h0 : c.H[0]? = some (.row t_string 1 (l.map fun s => [V.str s])) := by rw [hH]; rfl
  obtain ⟨q1, q2⟩ := hc.obj 0 _ h0
  obtain ⟨p1, ⟨a, k, p2, p3, p4⟩, p5⟩ := h1
  have hcur := (p5 _ _ _ h0).2.2 (by simp)
  have hperm : (sortS l).length = l.length := (List.mergeSort_perm l _).length_eq
  refine ⟨Tryz.sort_in _ _, ?_⟩
  cases hρ : c.ρ 0 with
  | none =>
    have hl : l = [] := by simpa using q1 hρ
    subst hl
    rw [hρ] at hcur
    have hcur : v = .slice none 0 0 := hcur
    subst hcur
    refine (Tryz.sort_n 0 c.w).mono ?_
    rintro e w' ⟨rfl, rfl⟩
    exact ⟨_, .tup [], c, rfl, rfl, ⟨rfl, by rw [hH]; simp⟩, hc, ⟨#[], rfl, rfl⟩, .refl c⟩
  | some bk =>
    obtain ⟨b, m⟩ := bk
    rw [hρ] at hcur
    have hcur : v = .slice (some ⟨b, 0, none⟩) l.length m := hcur
    subst hcur
    obtain ⟨vs, r1, r2, r3, r4, r5, r6⟩ := q2 b m hρ
    have hblt : b < c.w.heap.size := (Array.getElem?_eq_some_iff.1 r1).1
    have hcell : ∀ j (s : List UInt8), l[j]? = some s → vs[j]? = some (encStr s) := fun j s hj => by
      obtain ⟨_, hx⟩ := r6 j [V.str s] (by rw [List.getElem?_map, hj]; rfl)
      obtain ⟨v, e1, _, e3⟩ := hx 0 _ rfl
      have e3 : v = .string ⟨⟨s⟩⟩ := e3
      rw [Nat.mul_one, Nat.add_zero] at e1
      rw [e1, e3]
    have hHolds : Holds encStr c.w b 0 l.toArray := fun j hj => by
      have hj : j < l.length := by simpa using hj
      have hg : l[j]? = some l[j] := by simp [hj]
      have := hcell j _ hg
      have hgd : l.toArray[j]! = l[j] := by simp [hj]
      refine ⟨?_, ?_⟩
      · simp only [World.cell?, r1, Nat.zero_add, hgd]
        exact this
      · simp [World.frozen?, r1]
    refine (Tryz.sort_c b 0 m l c.w hHolds hblt (by unfold maxEls at p3; omega)).mono ?_
    rintro e w' ⟨rfl, n, os, rfl⟩
    generalize hso : sortS l = so at hperm
    generalize hw' : grow (putRow encStr (Sort.ahead c.w n) b 0 so.toArray) os = w'
    have hsz : w'.heap.size = c.w.heap.size + os.size := by subst hw'; simp [grow, putRow, mapBlock, Sort.ahead]
    have hoth : ∀ b', b' < c.w.heap.size → b' ≠ b → w'.heap[b']? = c.w.heap[b']? := fun b' h1 h2 => by
      subst hw'
      simp only [grow, putRow, mapBlock, Sort.ahead]
      rw [Array.getElem?_append_left (by simpa using h1), Array.getElem?_modify, if_neg (Ne.symm h2)]
    have hsame : w'.heap[b]? = some (.cells (putCells encStr 0 so.toArray vs) t_string (0, 0)) := by
      subst hw'
      simp only [grow, putRow, mapBlock, Sort.ahead]
      rw [Array.getElem?_append_left (by simpa using hblt), Array.getElem?_modify, if_pos rfl, r1]
      rfl
    have howns : ∀ b', c.owns b' ↔ b' = b := fun b' => by
      constructor
      · rintro ⟨i, k', h1, h2⟩
        have : i = 0 := by rw [hH] at h1; simpa using h1
        subst this
        rw [hρ] at h2; cases h2; rfl
      · rintro rfl; exact ⟨0, m, p1, hρ⟩
    refine ⟨_, .tup [], ⟨w', c.ok, c.ρ, [.row t_string 1 (so.map fun s => [V.str s])]⟩, rfl, rfl, ⟨rfl, rfl⟩, ?_, ⟨#[], rfl, rfl⟩, ?_⟩
    · refine ⟨fun i j b1 k1 k2 h1 h2 _ _ => ?_, fun b' o h => ?_, fun i o hi => ?_⟩
      · simp only [List.length_singleton] at h1 h2; omega
      · have := hc.okLt _ _ h; show b' < w'.heap.size; omega
      · cases i with
        | succ i => simp at hi
        | zero =>
          simp only [List.getElem?_cons_zero, Option.some.injEq] at hi
          subst hi
          refine ⟨fun h => ?_, fun b' k' h => ?_⟩
          · have h : c.ρ 0 = none := h
            rw [hρ] at h; cases h
          · have h : c.ρ 0 = some (b', k') := h
            rw [hρ] at h; cases h
            refine ⟨putCells encStr 0 so.toArray vs, hsame, by simpa [putCells] using r2, by simpa [hperm] using r3, r4, r5, fun i el hi => ?_⟩
            rw [List.getElem?_map] at hi
            cases hs : so[i]? with
            | none => rw [hs] at hi; cases hi
            | some s =>
              rw [hs] at hi; cases hi
              refine ⟨rfl, fun j x hx => ?_⟩
              cases j with
              | succ j => simp at hx
              | zero =>
                simp only [List.getElem?_cons_zero, Option.some.injEq] at hx
                subst hx
                have hil : i < so.length := (List.getElem?_eq_some_iff.1 hs).1
                have hsi : so[i] = s := (List.getElem?_eq_some_iff.1 hs).2
                have hiv : i < vs.size := by rw [List.length_map] at r3; omega
                refine ⟨encStr s, ?_, rfl, rfl⟩
                rw [Nat.mul_one, Nat.add_zero]
                simp only [putCells, Array.getElem?_mapIdx, Array.getElem?_eq_getElem hiv, Option.map_some]
                rw [if_pos (by simpa using hil)]
                simp [hil, hsi]
    · refine ⟨fun _ _ h => h, fun b' o h => ?_, by show c.w.heap.size ≤ w'.heap.size; omega, fun _ _ h => .inl h, fun b' hb hno => hoth b' hb (fun e => hno ((howns b').2 e)), fun b' hb => .inl ?_, fun j o hj => ?_, ?_, ?_, ?_⟩
      · have hne : b' ≠ b := fun e => r5 o (e ▸ h)
        simp only [World.cell?]
        rw [hoth b' (hc.okLt _ _ h) hne]
      · obtain ⟨i, k', h1, h2⟩ := hb
        exact ⟨i, k', by rw [hH]; exact h1, h2⟩
      · rw [hH] at hj
        cases j with
        | succ j => simp at hj
        | zero =>
          simp only [List.getElem?_cons_zero, Option.some.injEq] at hj
          subst hj
          exact ⟨_, rfl, rfl, rfl, by simp [hperm], fun _ => rfl⟩
      · subst hw'; rfl
      · subst hw'; rfl
      · subst hw'; rfl
end Go.Dw
end
section
set_option linter.unusedVariables false
set_option linter.unusedSimpArgs false
namespace Go.Proofs
open Go.Shelf Go.RowKit Go.Lib
theorem run_copy_cellsZ {P : Program} (w : World) (dT sT ty elem : TypeId) (b o dLen dCap : Nat) (a : Addr) (sLen sCap z : Nat) (cs : List Value)
    (hu : P.underlying dT = some (.slice elem)) (hs : (P.info? elem).map (·.size) = some z) (hn : cs.length = Nat.min sLen dLen * z)
    (hsrc : ∀ j v, cs[j]? = some v → w.cell? (a.add j) = some v) (hc : ∀ j, j < cs.length → (w.cell? ⟨b, o + j, none⟩).isSome = true) (hf : ∀ j, j < cs.length → w.frozen? ⟨b, o + j, none⟩ = false) (h1 : ∀ v ∈ cs, v.oneCell' = true) :
    (Builtin.copy_ #[dT, sT] ty #[.slice (some ⟨b, o, none⟩) dLen dCap, .slice (some a) sLen sCap]).run P w = .ok (goInt (Nat.min sLen dLen)) (w.setCells b o cs) := by
  have hl := run_loadCells_list (P := P) w a cs hsrc
  have hst := run_storeCells_cells (P := P) b o cs 0 w (by simpa using hc) (by simpa using hf) h1
  cases hq : P.info? elem with
  | none => simp [hq] at hs
  | some i =>
    have hi : i.size = z := by simpa [hq] using hs
    simp [Builtin.copy_, run_underlying hu, Builtin.lenOf, Builtin.firstCells, sizeOf, typeInfo, hq, hi, ← hn, hl, hst]
theorem Tryz.bind_size : (Tryz.prog.info? 133).map (·.size) = some 4 := by kernel_rfl
set_option maxHeartbeats 4000000 in
set_option maxRecDepth 100000 in
theorem Tryz.ins_shift (b n c i vb vc : Nat) (cs vs : List Value) (w : World) (hi : i < n) (hroom : n + 1 ≤ c) (hc63 : c ≤ 9223372036854775807) (hvb : vb ≠ b)
    (hcl : cs.length = n * 4) (hvl : vs.length = 4)
    (hcs : ∀ j v, cs[j]? = some v → w.cell? ⟨b, j, none⟩ = some v) (hsp : ∀ j, j < (n + 1) * 4 → (w.cell? ⟨b, j, none⟩).isSome = true) (hfz : ∀ j, j < (n + 1) * 4 → w.frozen? ⟨b, j, none⟩ = false)
    (hvs : ∀ j v, vs[j]? = some v → w.cell? ⟨vb, j, none⟩ = some v) (h1c : ∀ v ∈ cs, v.oneCell' = true) (h1v : ∀ v ∈ vs, v.oneCell' = true)
    (tA tB : TypeId) (kA kB : Nat) (hsa : w.shape? vb = some (tA, kA)) (hsb : w.shape? b = some (tB, kB)) (hkB : kB ≠ 0) (hfa : w.frozen? ⟨vb, 0, none⟩ = false) (hfe : w.frozen? ⟨vb, kA, none⟩ = false) :
    Calls Tryz.prog 230 #[.slice (some ⟨b, 0, none⟩) n c, .int .i64 i, .slice (some ⟨vb, 0, none⟩) 1 vc] w fun e w' =>
      e = .returned (.slice (some ⟨b, 0, none⟩) (n + 1) c) ∧ w' = (w.drew.setCells b ((i + 1) * 4) (cs.drop (i * 4))).setCells b (i * 4) vs := by
  have hz2 : ¬ ((i : Int) = (n : Int)) := by omega
  have hsz := Tryz.bind_size
  have hov : ∀ lb cb, (callFunc 246 #[.slice (some ⟨vb, 0, none⟩) 1 vc, .slice (some ⟨b, (i + 1) * 4, none⟩) lb cb]).run Tryz.prog w = .ok (.value (.bool false)) w := fun lb cb => by
    rw [run_callFunc_extern Tryz.func246 (by kernel_rfl) (by kernel_rfl) (by kernel_rfl) (e := Extern.SlicesOverlaps.overlaps #[30, 30] #[4]) (by kernel_rfl),
      Lib.run_overlaps_apart w 30 4 133 Tryz.underlying30 4 Tryz.sizeOf133 ⟨vb, 0, none⟩ ⟨b, (i + 1) * 4, none⟩ 1 vc lb cb hvb tA tB kA kB hsa hsb hkB hfa hfe]
    rfl
  have hdl : (cs.drop (i * 4)).length = (n - i) * 4 := by rw [List.length_drop, hcl]; omega
  have hw1 : IntKind.i64.wrap ((i : Int) + 1) = (i : Int) + 1 := by rw [IntKind.wrap_i64]; omega
  have mixed := Go.Dw.mixed
  have hb1 : (0 : Int) ≤ (i : Int) + 1 := by omega
  have hin : i ≤ n := by omega
  have htn : ((i : Int) + 1).toNat = i + 1 := by omega
  have hb2 : ¬ (c = i + 1) := by omega
  have hb3 : (i : Int) ≤ (n : Int) + 1 := by omega
  have hb4 : ¬ (c = i) := by omega
  have hcp1 : ∀ ty dc sc, (Builtin.copy_ #[30, 30] ty #[.slice (some ⟨b, (i + 1) * 4, none⟩) (n - i) dc, .slice (some ⟨b, i * 4, none⟩) (n + 1 - i) sc]).run Tryz.prog w.drew = .ok (goInt (Nat.min (n + 1 - i) (n - i))) (w.drew.setCells b ((i + 1) * 4) (cs.drop (i * 4))) := fun ty dc sc =>
    run_copy_cellsZ w.drew _ _ ty 133 b ((i + 1) * 4) (n - i) dc ⟨b, i * 4, none⟩ (n + 1 - i) sc 4 (cs.drop (i * 4)) Tryz.underlying30 hsz (by rw [hdl]; simp only [Nat.min_def]; split <;> omega)
      (fun j v hj => by rw [Addr.add_lit]; exact hcs (i * 4 + j) v (by rwa [List.getElem?_drop] at hj))
      (fun j hj => hsp _ (by omega)) (fun j hj => hfz _ (by omega)) (fun v hv => h1c v (List.mem_of_mem_drop hv))
  obtain ⟨W1, hW1⟩ : ∃ W1, W1 = w.drew.setCells b ((i + 1) * 4) (cs.drop (i * 4)) := ⟨_, rfl⟩
  have hsp1 : ∀ k, k < (n + 1) * 4 → (W1.cell? ⟨b, k, none⟩).isSome = true := fun k hk => by
    rw [hW1]
    exact isSome_setCells b _ _ w.drew (fun j hj => hsp ((i + 1) * 4 + j) (by rw [hdl] at hj; omega)) _ (hsp k hk)
  have hcp2 : ∀ (W : World), (∀ x, W.cell? x = W1.cell? x) → (∀ x, W.frozen? x = W1.frozen? x) → ∀ ty dc, (Builtin.copy_ #[30, 30] ty #[.slice (some ⟨b, i * 4, none⟩) (n + 1 - i) dc, .slice (some ⟨vb, 0, none⟩) 1 vc]).run Tryz.prog W = .ok (goInt (Nat.min 1 (n + 1 - i))) (W.setCells b (i * 4) vs) := fun W hWc hWf ty dc =>
    run_copy_cellsZ W _ _ ty 133 b (i * 4) (n + 1 - i) dc ⟨vb, 0, none⟩ 1 vc 4 vs Tryz.underlying30 hsz (by rw [hvl]; simp only [Nat.min_def]; split <;> omega)
      (fun j v hj => by
        rw [Addr.add_lit, hWc, hW1, World.cell?_setCells_out b _ _ _ _ (fun h _ => absurd h hvb), Nat.zero_add]
        exact hvs j v hj)
      (fun j hj => by rw [hWc]; exact hsp1 _ (by omega)) (fun j hj => by rw [hWf, hW1, World.frozen?_setCells]; exact hfz _ (by omega)) h1v
  rw [← hW1] at hcp1
  go_enter Tryz.func230, Tryz.ntmps230
  go_wp2_with (simp only [hov])
  go_region_law_o (refine step_copy_runI rfl _ _ 30 30 rfl _ _ (by simp [Act.eval, Act.put]) (by simp [Act.eval, Act.put]) (hcp1 _ _ _) ?_)
  go_wp2_with (at_builtin; refine wpList_copy_runI _ rfl _ _ 30 30 rfl _ _ rfl rfl (hcp2 _ (fun _ => rfl) (fun _ => rfl) _ _) ?_)
  go_ret
  first | exact ⟨rfl, rfl⟩ | exact ⟨rfl, by rw [hW1]⟩
end Go.Proofs
end
