/-
  Contracts of library functions.
-/
import Derived.Test.YtokdinonifchaaaGreatYa
import Derived.ArgAppend
import Derived.Shelf.Spec.SlicesGrow
section
set_option linter.unusedVariables false
set_option linter.unusedSimpArgs false
namespace Go.Proofs
open Go.Shelf Go.RowKit Go.Lib
def zBind : Value := .agg #[.string ⟨#[]⟩, .string ⟨#[]⟩, .bool false, .slice none 0 0]
theorem Tryz.bind_info : (Tryz.prog.info? 133).map (fun i => (i.zero, i.size, i.bytes)) = some (some zBind, 4, 64) := by kernel_rfl
theorem zeroCells_size (cs : Array Value) (k : Nat) : (Builtin.zeroCells cs k).size = k * cs.size := by
  simp [Builtin.zeroCells]
set_option maxHeartbeats 4000000 in
set_option maxRecDepth 100000 in
theorem Tryz.ins_grow (b n c i vb vc : Nat) (cs vs : List Value) (w : World) (hi : i < n) (hnc : n ≤ c) (hroom : c < n + 1) (hbig : (n + 1) * 64 ≤ 140737488355328)
    (hcl : cs.length = n * 4) (hvl : vs.length = 4)
    (hcs : ∀ j v, cs[j]? = some v → w.cell? ⟨b, j, none⟩ = some v)
    (hvs : ∀ j v, vs[j]? = some v → w.cell? ⟨vb, j, none⟩ = some v) (h1c : ∀ v ∈ cs, v.oneCell' = true) (h1v : ∀ v ∈ vs, v.oneCell' = true) :
    Calls Tryz.prog 230 #[.slice (some ⟨b, 0, none⟩) n c, .int .i64 i, .slice (some ⟨vb, 0, none⟩) 1 vc] w fun e w' =>
      e = .returned (.slice (some ⟨w.heap.size, 0, none⟩) (n + 1) (grownCap w (n + 1) c 133)) ∧
      w' = (((w.alloc (.cells ((cs.take (i * 4)).toArray ++ Builtin.zeroCells zBind.cells (n + 1 - i) ++ Builtin.zeroCells zBind.cells (grownCap w (n + 1) c 133 - (n + 1))) 133)).drew.setCells w.heap.size (i * 4) vs).drew).setCells w.heap.size ((i + 1) * 4) (cs.drop (i * 4)) := by
  have mixed := Go.Dw.mixed
  obtain ⟨i0, hi0, hz0, hzs, hzb⟩ := info_parts Tryz.bind_info
  have hz2 : ¬ ((i : Int) = (n : Int)) := by omega
  have hz3 : (c : Int) < (n : Int) + 1 := by omega
  have hsz := Tryz.bind_size
  have hbw : b < w.heap.size := block_lt_of_cell (hcs 0 _ (List.getElem?_eq_getElem (by omega)))
  have hvw : vb < w.heap.size := block_lt_of_cell (hvs 0 _ (List.getElem?_eq_getElem (by omega)))
  have hkk : (n : Int) + 1 - (i : Int) = ((n + 1 - i : Nat) : Int) := by omega
  have hik : i + (n + 1 - i) = n + 1 := by omega
  have hold : (Builtin.firstCells i0.size i (.slice (some ⟨b, 0, none⟩) i c)).run Tryz.prog w.drew = .ok (cs.take (i * 4)).toArray w.drew := by
    rw [hzs]
    exact run_firstCells_some w.drew 4 i ⟨b, 0, none⟩ i c (cs.take (i * 4)) (by rw [List.length_take]; omega) (fun j v hj => by
      rw [Addr.add_lit, Nat.zero_add]
      rw [List.getElem?_take] at hj
      split at hj
      · exact hcs j v hj
      · cases hj)
  have hrz : ∀ ty, (Builtin.append_ #[30, 3] ty #[.slice (some ⟨b, 0, none⟩) i c, .int .i64 ((n : Int) + 1 - (i : Int))]).run Tryz.prog w =
      .ok (.slice (some ⟨w.heap.size, 0, none⟩) (n + 1) (grownCap w (n + 1) c 133)) (w.drew.alloc (.cells ((cs.take (i * 4)).toArray ++ Builtin.zeroCells zBind.cells (n + 1 - i) ++ Builtin.zeroCells zBind.cells (grownCap w (n + 1) c 133 - (n + 1))) 133)) := fun ty => by
    have h := Lib.run_append_grow_zeros w 30 3 ty 133 i0 _ .i64 .i64 Tryz.underlying30 Tryz.underlying3 hi0 hz0 (some ⟨b, 0, none⟩) i c (cs.take (i * 4)) hold (n + 1 - i) (by omega) (by omega) (by omega) (by omega) (by rw [hzb]; omega) (by rw [hzb, hik]; exact growslice_fits hroom hbig)
    rw [hik] at h
    rw [hkk]
    exact h
  obtain ⟨G, hG⟩ : ∃ G, G = grownCap w (n + 1) c 133 := ⟨_, rfl⟩
  obtain ⟨ROW, hROW⟩ : ∃ ROW : Array Value, ROW = (cs.take (i * 4)).toArray ++ Builtin.zeroCells zBind.cells (n + 1 - i) ++ Builtin.zeroCells zBind.cells (G - (n + 1)) := ⟨_, rfl⟩
  rw [← hG] at hrz ⊢
  rw [← hROW] at hrz ⊢
  have hRl : (n + 1) * 4 ≤ ROW.size := by
    rw [hROW]
    have hzc : zBind.cells.size = 4 := rfl
    simp only [Array.size_append, zeroCells_size, hzc, List.size_toArray, List.length_take, hcl]
    omega
  obtain ⟨W1, hW1⟩ : ∃ W1, W1 = w.drew.alloc (.cells ROW 133) := ⟨_, rfl⟩
  rw [← hW1] at hrz
  have hN : ∀ j, j < (n + 1) * 4 → (W1.cell? ⟨w.heap.size, j, none⟩).isSome = true := fun j hj => by
    rw [hW1, World.cell?_alloc_at (w := w.drew) ROW _ w.heap.size j rfl, Array.getElem?_eq_getElem (by omega)]; rfl
  have hNf : ∀ j, W1.frozen? ⟨w.heap.size, j, none⟩ = false := fun j => by rw [hW1]; exact World.frozen?_alloc_at (w := w.drew) ROW _ w.heap.size j rfl
  have hOb : ∀ j v, w.cell? ⟨b, j, none⟩ = some v → W1.cell? ⟨b, j, none⟩ = some v := fun j v h => by rw [hW1, World.cell?_alloc_past (w := w.drew) _ b j hbw]; exact h
  have hOv : ∀ j v, w.cell? ⟨vb, j, none⟩ = some v → W1.cell? ⟨vb, j, none⟩ = some v := fun j v h => by rw [hW1, World.cell?_alloc_past (w := w.drew) _ vb j hvw]; exact h
  have hcpA : ∀ (W : World), (∀ x, W.cell? x = W1.cell? x) → (∀ x, W.frozen? x = W1.frozen? x) → ∀ ty dc, (Builtin.copy_ #[30, 30] ty #[.slice (some ⟨w.heap.size, i * 4, none⟩) (n + 1 - i) dc, .slice (some ⟨vb, 0, none⟩) 1 vc]).run Tryz.prog W = .ok (goInt (Nat.min 1 (n + 1 - i))) (W.setCells w.heap.size (i * 4) vs) := fun W hWc hWf ty dc =>
    run_copy_cellsZ W _ _ ty 133 w.heap.size (i * 4) (n + 1 - i) dc ⟨vb, 0, none⟩ 1 vc 4 vs Tryz.underlying30 hsz (by rw [hvl]; simp only [Nat.min_def]; split <;> omega)
      (fun j v hj => by rw [Addr.add_lit, hWc, Nat.zero_add]; exact hOv _ v (hvs j v hj))
      (fun j hj => by rw [hWc]; exact hN _ (by omega)) (fun j hj => by rw [hWf]; exact hNf _) h1v
  have hGn : n + 1 ≤ G := by rw [hG]; exact grownCap_ge w _ _ _
  have hG63 : G ≤ 9223372036854775807 := by
    have := grownCap_le_maxLen w (n + 1) c 133 (by unfold maxLen; omega)
    rw [← hG] at this
    unfold maxLen at this
    omega
  have hGi : ¬ (G = i) := by omega
  have hGim : ¬ (G = i + 1) := by omega
  have hci : ¬ (c = i) := by omega
  have hbN : b ≠ w.heap.size := by omega
  have hdl : (cs.drop (i * 4)).length = (n - i) * 4 := by rw [List.length_drop, hcl]; omega
  have hcpB : ∀ (W : World), (∀ x, W.cell? x = (W1.setCells w.heap.size (i * 4) vs).cell? x) → (∀ x, W.frozen? x = (W1.setCells w.heap.size (i * 4) vs).frozen? x) → ∀ ty dc sc, (Builtin.copy_ #[30, 30] ty #[.slice (some ⟨w.heap.size, (i + 1) * 4, none⟩) (n - i) dc, .slice (some ⟨b, i * 4, none⟩) (n - i) sc]).run Tryz.prog W = .ok (goInt (Nat.min (n - i) (n - i))) (W.setCells w.heap.size ((i + 1) * 4) (cs.drop (i * 4))) := fun W hWc hWf ty dc sc =>
    run_copy_cellsZ W _ _ ty 133 w.heap.size ((i + 1) * 4) (n - i) dc ⟨b, i * 4, none⟩ (n - i) sc 4 (cs.drop (i * 4)) Tryz.underlying30 hsz (by rw [hdl]; simp only [Nat.min_def]; split <;> omega)
      (fun j v hj => by
        rw [Addr.add_lit, hWc, World.cell?_setCells_out _ _ _ _ _ (fun h _ => absurd h hbN)]
        exact hOb _ v (hcs (i * 4 + j) v (by rwa [List.getElem?_drop] at hj)))
      (fun j hj => by rw [hWc]; exact isSome_setCells _ _ _ W1 (fun t ht => hN (i * 4 + t) (by omega)) _ (hN ((i + 1) * 4 + j) (by omega)))
      (fun j hj => by rw [hWf, World.frozen?_setCells]; exact hNf _) (fun v hv => h1c v (List.mem_of_mem_drop hv))
  subst hW1
  have hE1 : ∀ x, ((w.alloc (.cells ROW 133)).drew).cell? x = (w.drew.alloc (.cells ROW 133)).cell? x := fun x => rfl
  have hE2 : ∀ x, ((w.alloc (.cells ROW 133)).drew).frozen? x = (w.drew.alloc (.cells ROW 133)).frozen? x := fun x => rfl
  have hF1 : ∀ x, (((w.alloc (.cells ROW 133)).drew.setCells w.heap.size (i * 4) vs).drew).cell? x = ((w.drew.alloc (.cells ROW 133)).setCells w.heap.size (i * 4) vs).cell? x := fun x => rfl
  have hF2 : ∀ x, (((w.alloc (.cells ROW 133)).drew.setCells w.heap.size (i * 4) vs).drew).frozen? x = ((w.drew.alloc (.cells ROW 133)).setCells w.heap.size (i * 4) vs).frozen? x := fun x => rfl
  have hw1 : IntKind.i64.wrap ((i : Int) + 1) = (i : Int) + 1 := by rw [IntKind.wrap_i64]; omega
  have hb1 : (0 : Int) ≤ (i : Int) + 1 := by omega
  have hin : i ≤ n := by omega
  have htn : ((i : Int) + 1).toNat = i + 1 := by omega
  have hb3 : (i : Int) ≤ (n : Int) := by omega
  clear hkk hik hold hROW hG hRl
  go_enter Tryz.func230, Tryz.ntmps230
  go_wp2_with (first
    | (at_builtin; refine Lib.wpList_append_run _ rfl _ _ _ _ rfl _ _ rfl rfl _ _ (hrz _) ?_)
    | (at_builtin; refine wpList_copy_runI _ rfl _ _ 30 30 rfl _ _ rfl rfl (hcpA _ hE1 hE2 _ _) ?_)
    | (at_builtin; refine wpList_copy_runI _ rfl _ _ 30 30 rfl _ _ rfl rfl (hcpB _ (fun _ => rfl) (fun _ => rfl) _ _ _) ?_))
  go_region_law_o (refine step_copy_runI rfl _ _ 30 30 rfl (.slice (some ⟨w.heap.size, (i + 1) * 4, none⟩) (n - i) (G - (i + 1))) (.slice (some ⟨b, i * 4, none⟩) (n - i) (c - i)) (by simp [Act.eval, Act.put]) (by simp [Act.eval, Act.put]) (hcpB _ hF1 hF2 3 (G - (i + 1)) (c - i)) ?_)
  go_wp2
  go_ret
  exact ⟨rfl, rfl⟩
end Go.Proofs
end
section
set_option linter.unusedVariables false
set_option linter.unusedSimpArgs false
namespace Go.Proofs
open Go.Shelf Go.RowKit Go.Lib
set_option maxHeartbeats 4000000 in
set_option maxRecDepth 100000 in
theorem Tryz.ins_end_grow (base : Option Addr) (n c vb vc : Nat) (cs vs : List Value) (w : World) (hnc : n ≤ c) (hroom : c < n + 1) (hbig : (n + 1) * 64 ≤ 140737488355328)
    (hcl : cs.length = n * 4) (hvl : vs.length = 4) (hnil : base = none → n = 0)
    (hcs : ∀ a, base = some a → ∀ j v, cs[j]? = some v → w.cell? (a.add j) = some v)
    (hvs : ∀ j v, vs[j]? = some v → w.cell? ⟨vb, j, none⟩ = some v) (h1v : ∀ v ∈ vs, v.oneCell' = true) :
    Calls Tryz.prog 230 #[.slice base n c, .int .i64 n, .slice (some ⟨vb, 0, none⟩) 1 vc] w fun e w' =>
      e = .returned (.slice (some ⟨w.heap.size, 0, none⟩) (n + 1) (grownCap w (n + 1) c 133)) ∧
      w' = w.drew.alloc (.cells ((cs ++ vs).toArray ++ Builtin.zeroCells zBind.cells (grownCap w (n + 1) c 133 - (n + 1))) 133) := by
  have mixed := Go.Dw.mixed
  obtain ⟨i0, hi0, hz0, hzs, hzb⟩ := info_parts Tryz.bind_info
  have hsrc : Src Tryz.prog i0.size 30 (.slice (some ⟨vb, 0, none⟩) 1 vc) 1 vs w := by
    rw [hzs]
    exact Src.ofSlice w Tryz.underlying30 ⟨vb, 0, none⟩ 1 vc vs (by omega) (fun j u hj => by rw [Addr.add_lit, Nat.zero_add]; exact hvs j u hj) h1v
  have hold : (Builtin.firstCells i0.size n (.slice base n c)).run Tryz.prog w.drew = .ok cs.toArray w.drew := by
    rw [hzs]
    cases base with
    | none =>
      have h0 := hnil rfl
      subst h0
      have hc0 : cs = [] := List.length_eq_zero_iff.1 (by omega)
      rw [hc0]
      exact run_firstCells_none w.drew 4 0 0 c
    | some a => exact run_firstCells_some w.drew 4 n a n c cs (by omega) (fun j v hj => hcs a rfl j v hj)
  have hrun : ∀ ty, (Builtin.append_ #[30, 30] ty #[.slice base n c, .slice (some ⟨vb, 0, none⟩) 1 vc]).run Tryz.prog w = .ok (.slice (some ⟨w.heap.size, 0, none⟩) (n + 1) (grownCap w (n + 1) c 133)) (w.drew.alloc (.cells ((cs ++ vs).toArray ++ Builtin.zeroCells zBind.cells (grownCap w (n + 1) c 133 - (n + 1))) 133)) := fun ty =>
    run_append_grow_src w 30 30 ty 133 i0 zBind Tryz.underlying30 hi0 hz0 base n c cs hold _ 1 vs hsrc hroom (by omega) (by rw [hzb]; exact growslice_fits hroom hbig)
  obtain ⟨ROW, hROW⟩ : ∃ ROW : Array Value, ROW = (cs ++ vs).toArray ++ Builtin.zeroCells zBind.cells (grownCap w (n + 1) c 133 - (n + 1)) := ⟨_, rfl⟩
  rw [← hROW] at hrun ⊢
  clear hROW
  go_enter Tryz.func230, Tryz.ntmps230
  cases base with
  | none =>
    have h0 := hnil rfl
    subst h0
    go_wp2_with (at_builtin; refine Lib.wpList_append_run _ rfl _ _ _ _ rfl _ _ rfl rfl _ _ (hrun _) ?_)
    go_ret
    exact ⟨rfl, rfl⟩
  | some a =>
    obtain ⟨ab, ao, asp⟩ := a
    go_wp2_with (at_builtin; refine Lib.wpList_append_run _ rfl _ _ _ _ rfl _ _ rfl rfl _ _ (hrun _) ?_)
    all_goals (go_ret; exact ⟨rfl, rfl⟩)
set_option maxHeartbeats 4000000 in
set_option maxRecDepth 100000 in
theorem Tryz.ins_end_room (b n c vb vc : Nat) (vs : List Value) (w : World) (hroom : n + 1 ≤ c) (hc63 : c ≤ 9223372036854775807)
    (hvl : vs.length = 4) (hsp : ∀ j, j < 4 → (w.cell? ⟨b, n * 4 + j, none⟩).isSome = true) (hfz : ∀ j, j < 4 → w.frozen? ⟨b, n * 4 + j, none⟩ = false)
    (hvs : ∀ j v, vs[j]? = some v → w.cell? ⟨vb, j, none⟩ = some v) (h1v : ∀ v ∈ vs, v.oneCell' = true) :
    Calls Tryz.prog 230 #[.slice (some ⟨b, 0, none⟩) n c, .int .i64 n, .slice (some ⟨vb, 0, none⟩) 1 vc] w fun e w' =>
      e = .returned (.slice (some ⟨b, 0, none⟩) (n + 1) c) ∧ w' = w.setCells b (n * 4) vs := by
  have mixed := Go.Dw.mixed
  obtain ⟨i0, hi0, hz0, hzs, hzb⟩ := info_parts Tryz.bind_info
  have hrun : ∀ ty, (Builtin.append_ #[30, 30] ty #[.slice (some ⟨b, 0, none⟩) n c, .slice (some ⟨vb, 0, none⟩) 1 vc]).run Tryz.prog w = .ok (.slice (some ⟨b, 0, none⟩) (n + 1) c) (w.setCells b (n * 4) vs) := fun ty => by
    have h := run_append_room_cells (P := Tryz.prog) w 30 ty 133 i0 Tryz.underlying30 hi0 b 0 n c ⟨vb, 0, none⟩ 1 vc vs (by rw [hzs]; omega) (fun j u hj => by rw [Addr.add_lit, Nat.zero_add]; exact hvs j u hj) h1v hroom
      (fun j hj => by rw [hzs, Nat.zero_add]; exact hsp j (by omega)) (fun j hj => by rw [hzs, Nat.zero_add]; exact hfz j (by omega))
    rw [hzs, Nat.zero_add] at h
    exact h
  obtain ⟨W, hW⟩ : ∃ W, W = w.setCells b (n * 4) vs := ⟨_, rfl⟩
  rw [← hW] at hrun ⊢
  clear hW
  go_enter Tryz.func230, Tryz.ntmps230
  go_wp2_with (at_builtin; refine Lib.wpList_append_run _ rfl _ _ _ _ rfl _ _ rfl rfl _ _ (hrun _) ?_)
  go_ret
  exact ⟨rfl, rfl⟩
end Go.Proofs
end
section
set_option linter.unusedVariables false
set_option linter.unusedSimpArgs false
namespace Go.Dw
open Go.Proofs Go.Sort Go.Lib
theorem heap_setCells (b : Nat) : ∀ (us : List Value) (o : Nat) (w : World), (w.setCells b o us).heap.size = w.heap.size ∧ (∀ b', b' ≠ b → (w.setCells b o us).heap[b']? = w.heap[b']?) ∧
    (∀ vs t fr, w.heap[b]? = some (.cells vs t fr) → ∃ vs1, (w.setCells b o us).heap[b]? = some (.cells vs1 t fr) ∧ vs1.size = vs.size) ∧ (w.setCells b o us).os = w.os ∧ (w.setCells b o us).tape = w.tape ∧ (w.setCells b o us).output = w.output
  | [], o, w => ⟨rfl, fun _ _ => rfl, fun vs t fr h => ⟨vs, h, rfl⟩, rfl, rfl, rfl⟩
  | u :: us, o, w => by
    obtain ⟨h1, h2, h3, h4, h5, h6⟩ := heap_setCells b us (o + 1) (w.setCell ⟨b, o, none⟩ u)
    have e1 : (w.setCell ⟨b, o, none⟩ u).heap.size = w.heap.size := by rw [setCell_eq]; simp [mapBlock]
    have e2 : ∀ b', b' ≠ b → (w.setCell ⟨b, o, none⟩ u).heap[b']? = w.heap[b']? := fun b' hb => by
      rw [setCell_eq]; simp only [mapBlock]; rw [Array.getElem?_modify, if_neg (Ne.symm hb)]
    refine ⟨by rw [World.setCells, h1, e1], fun b' hb => by rw [World.setCells, h2 b' hb, e2 b' hb], fun vs t fr h => ?_, ?_, ?_, ?_⟩
    · have : (w.setCell ⟨b, o, none⟩ u).heap[b]? = some (.cells (vs.setIfInBounds o u) t fr) := by
        rw [setCell_eq]; simp only [mapBlock]; rw [Array.getElem?_modify, if_pos rfl, h]; rfl
      obtain ⟨vs1, q1, q2⟩ := h3 _ _ _ this
      exact ⟨vs1, by rw [World.setCells]; exact q1, by rw [q2]; simp⟩
    · rw [World.setCells, h4, setCell_eq]; rfl
    · rw [World.setCells, h5, setCell_eq]; rfl
    · rw [World.setCells, h6, setCell_eq]; rfl
/-- How a row stands after an insertion, whichever road was taken. -/
theorem ins_fin {c : Cx} (hc : Conc c) {els : List (List V)} {new : List V} {e i n z : Nat} (hH : c.H = [.row e z els, .arr e z 1]) (hn : els.length = n) (hi : i ≤ n) {w' : World} {bN kN : Nat} {vs1 : Array Value} {us : List Value}
    (hb : (∃ k, c.ρ 0 = some (bN, k)) ∨ c.w.heap.size ≤ bN) (hmax : n + 1 ≤ maxEls)
    (h1 : w'.heap[bN]? = some (.cells vs1 e (0, 0))) (h2 : vs1.size = kN * z) (h3 : n + 1 ≤ kN) (h4 : kN ≤ capMax)
    (hold : ∀ (l : Nat) (el : List V), els[l]? = some el → el.length = z ∧ ∀ (j : Nat) (x : V), el[j]? = some x → ∃ v, vs1[(if l < i then l else l + 1) * z + j]? = some v ∧ oneC v = true ∧ rep c x v)
    (hnew : new.length = z ∧ ∀ (j : Nat) (x : V), new[j]? = some x → ∃ v, vs1[i * z + j]? = some v ∧ oneC v = true ∧ rep c x v)
    (hoth : ∀ b', b' < c.w.heap.size → b' ≠ bN → w'.heap[b']? = c.w.heap[b']?) (hsz : c.w.heap.size ≤ w'.heap.size) (hos : w'.os = c.w.os) (htp : w'.tape = c.w.tape) (hou : w'.output = c.w.output) :
    ∃ v x c', Ending.returned (.slice (some ⟨bN, 0, none⟩) (n + 1) kN) = .returned v ∧ c'.w = w' ∧ (x = .rw 0 z (n + 1) ∧ c'.H = [.row e z (els.take i ++ new :: els.drop i), .arr e z 1]) ∧ Conc c' ∧ rep c' x v ∧ Fr c c' := by
  have hH0 : c.H[0]? = some (.row e z els) := by rw [hH]; rfl
  have hH1 : c.H[1]? = some (.arr e z 1) := by rw [hH]; rfl
  have hHl : c.H.length = 2 := by rw [hH]; rfl
  obtain ⟨o1, o2⟩ := hc.obj 0 _ hH0
  have hnok : ∀ o, ¬ c.ok bN o := fun o ho => by
    rcases hb with ⟨k, hk⟩ | hb
    · obtain ⟨_, _, _, _, _, h5, _⟩ := o2 bN k hk; exact h5 o ho
    · have := hc.okLt _ _ ho; omega
  have h1ne : ∀ b' k', c.ρ 1 = some (b', k') → b' ≠ bN ∧ b' < c.w.heap.size := fun b' k' h => by
    have hlt := own_lt hc (show 1 < c.H.length by omega) h
    refine ⟨fun e1 => ?_, hlt⟩
    subst e1
    rcases hb with ⟨k, hk⟩ | hb
    · exact absurd (hc.inj 0 1 b' k k' (by omega) (by omega) hk h) (by decide)
    · omega
  generalize hc' : (⟨w', c.ok, upd c.ρ 0 (some (bN, kN)), [.row e z (els.take i ++ new :: els.drop i), .arr e z 1]⟩ : Cx) = c'
  have hw : c'.w = w' := by rw [← hc']
  have hk' : c'.ok = c.ok := by rw [← hc']
  have hρ0 : c'.ρ 0 = some (bN, kN) := by rw [← hc']; simp [upd]
  have hρ1 : ∀ j, j ≠ 0 → c'.ρ j = c.ρ j := fun j hj => by rw [← hc']; exact upd_ne hj
  have hH' : c'.H = [.row e z (els.take i ++ new :: els.drop i), .arr e z 1] := by rw [← hc']
  have hlen' : (els.take i ++ new :: els.drop i).length = n + 1 := by simp; omega
  have hf : Fr c c' := by
    refine ⟨fun _ _ h => by rw [hk']; exact h, fun b' o h => ?_, by rw [hw]; exact hsz, fun _ _ h => .inl (by rw [hk'] at h; exact h), fun b' hlt hno => ?_, fun b' hb' => ?_, fun j o hj => ?_, by rw [hw]; exact hos, by rw [hw]; exact htp, by rw [hw]; exact hou⟩
    · have hne : b' ≠ bN := fun e => hnok o (e ▸ h)
      simp only [World.cell?, hw]
      rw [hoth b' (hc.okLt _ _ h) hne]
    · rw [hw]
      refine hoth b' hlt fun e1 => ?_
      subst e1
      rcases hb with ⟨k, hk⟩ | hb
      · exact hno ⟨0, k, by omega, hk⟩
      · omega
    · obtain ⟨j, k', hj, hr⟩ := hb'
      have hj : j < 2 := by rw [hH'] at hj; simpa using hj
      by_cases e0 : j = 0
      · subst e0
        rw [hρ0] at hr; cases hr
        rcases hb with ⟨k, hk⟩ | hb
        · exact .inl ⟨0, k, by omega, hk⟩
        · exact .inr hb
      · rw [hρ1 j e0] at hr
        exact .inl ⟨j, k', by omega, hr⟩
    · rw [hH] at hj
      match j, hj with
      | 0, hj =>
        simp only [List.getElem?_cons_zero, Option.some.injEq] at hj
        subst hj
        exact ⟨.row e z (els.take i ++ new :: els.drop i), by rw [hH']; rfl, rfl, rfl, by omega, fun h => by omega⟩
      | 1, hj =>
        simp only [List.getElem?_cons_succ, List.getElem?_cons_zero, Option.some.injEq] at hj
        subst hj
        exact ⟨.arr e z 1, by rw [hH']; rfl, rfl, rfl, Nat.le_refl _, fun _ => hρ1 1 (by omega)⟩
      | j + 2, hj => simp at hj
  refine ⟨_, _, c', rfl, hw, ⟨rfl, hH'⟩, ?_, ?_, hf⟩
  · refine ⟨fun j1 j2 b' k1 k2 q1 q2 q3 q4 => ?_, fun b' o h => ?_, fun j o hj => ?_⟩
    · rw [hH'] at q1 q2
      simp only [List.length_cons, List.length_nil] at q1 q2
      by_cases e1 : j1 = 0 <;> by_cases e2 : j2 = 0
      · omega
      · have : j2 = 1 := by omega
        subst e1 this
        rw [hρ0] at q3; cases q3
        rw [hρ1 1 (by omega)] at q4
        exact absurd rfl (h1ne _ _ q4).1
      · have : j1 = 1 := by omega
        subst e2 this
        rw [hρ0] at q4; cases q4
        rw [hρ1 1 (by omega)] at q3
        exact absurd rfl (h1ne _ _ q3).1
      · omega
    · rw [hk'] at h; rw [hw]; have := hc.okLt _ _ h; omega
    · rw [hH'] at hj
      match j, hj with
      | 0, hj =>
        simp only [List.getElem?_cons_zero, Option.some.injEq] at hj
        subst hj
        refine ⟨fun h => (by rw [hρ0] at h; cases h), fun b' k' h => ?_⟩
        rw [hρ0] at h; cases h
        refine ⟨vs1, by rw [hw]; exact h1, h2, by omega, h4, fun o ho => hnok o (by rw [hk'] at ho; exact ho), fun l el hl => ?_⟩
        rw [List.getElem?_append] at hl
        have hti : (els.take i).length = i := by rw [List.length_take]; omega
        rw [hti] at hl
        by_cases e1 : l < i
        · rw [if_pos e1, List.getElem?_take, if_pos e1] at hl
          obtain ⟨q1, q2⟩ := hold l el hl
          refine ⟨q1, fun j x hx => ?_⟩
          obtain ⟨v, r1, r2, r3⟩ := q2 j x hx
          rw [if_pos e1] at r1
          exact ⟨v, r1, r2, rep_fr hf r3⟩
        · rw [if_neg e1] at hl
          by_cases e2 : l = i
          · subst e2
            rw [Nat.sub_self, List.getElem?_cons_zero] at hl
            cases hl
            refine ⟨hnew.1, fun j x hx => ?_⟩
            obtain ⟨v, r1, r2, r3⟩ := hnew.2 j x hx
            exact ⟨v, r1, r2, rep_fr hf r3⟩
          · obtain ⟨m, rfl⟩ : ∃ m, l = m + 1 := ⟨l - 1, by omega⟩
            have e3 : m + 1 - i = (m - i) + 1 := by omega
            rw [e3, List.getElem?_cons_succ, List.getElem?_drop, show i + (m - i) = m by omega] at hl
            obtain ⟨q1, q2⟩ := hold m el hl
            refine ⟨q1, fun j x hx => ?_⟩
            obtain ⟨v, r1, r2, r3⟩ := q2 j x hx
            rw [if_neg (by omega)] at r1
            exact ⟨v, r1, r2, rep_fr hf r3⟩
      | 1, hj =>
        simp only [List.getElem?_cons_succ, List.getElem?_cons_zero, Option.some.injEq] at hj
        subst hj
        obtain ⟨a1, a2⟩ := hc.obj 1 _ hH1
        refine ⟨fun h => a1 (by rw [← hρ1 1 (by omega)]; exact h), fun b' k' h => ?_⟩
        rw [hρ1 1 (by omega)] at h
        obtain ⟨ne, hlt⟩ := h1ne _ _ h
        obtain ⟨vs, r1, r2, r3, r4, r5⟩ := a2 b' k' h
        exact ⟨vs, by rw [hw, hoth b' hlt ne]; exact r1, r2, r3, r4, fun o ho => by rw [hk']; exact r5 o ho⟩
      | j + 2, hj => simp at hj
  · refine ⟨by rw [hH']; simp, ⟨_, _, rfl, hmax, .inr ⟨_, _, rfl⟩⟩, fun e' sz' els' hh => ?_⟩
    rw [hH'] at hh
    simp only [List.getElem?_cons_zero, Option.some.injEq, Ob.row.injEq] at hh
    obtain ⟨rfl, rfl, rfl⟩ := hh
    exact ⟨rfl, by omega, fun _ => by rw [hρ0]; rfl⟩
end Go.Dw
end
section
set_option linter.unusedVariables false
set_option linter.unusedSimpArgs false
namespace Go.Dw
open Go.Proofs Go.Sort Go.Lib
theorem ins_in (args : Array Value) (w : World) : (callFunc 230 args).run Tryz.prog w = .ok (.enter 230 args) w := enters_of (P := Tryz.prog) Tryz.func230 (by kernel_rfl) rfl args w
/-- .. the cells one by one. -/
theorem ins_go {c : Cx} (hc : Conc c) {els : List (List V)} {new : List V} {e i n : Nat} (hH : c.H = [.row e 4 els, .arr e 4 1]) (hn : els.length = n) (hi : i ≤ n) {w' : World} {bN kN : Nat} {vs0 vs1 : Array Value} {us cs : List Value}
    (hb : (∃ k, c.ρ 0 = some (bN, k)) ∨ c.w.heap.size ≤ bN) (hmax : n + 1 ≤ maxEls) (h1 : w'.heap[bN]? = some (.cells vs1 e (0, 0))) (h2 : vs1.size = kN * 4) (h3 : n + 1 ≤ kN) (h4 : kN ≤ capMax)
    (hrow : rowOk c 4 els vs0) (hcs : ∀ j, j < n * 4 → cs[j]? = vs0[j]?) (hus : new.length = 4 ∧ ∀ (j : Nat) (x : V), new[j]? = some x → ∃ v, us[j]? = some v ∧ oneC v = true ∧ rep c x v)
    (hcell : ∀ j, j < (n + 1) * 4 → vs1[j]? = if j < i * 4 then cs[j]? else if j < i * 4 + 4 then us[j - i * 4]? else cs[j - 4]?)
    (hoth : ∀ b', b' < c.w.heap.size → b' ≠ bN → w'.heap[b']? = c.w.heap[b']?) (hsz : c.w.heap.size ≤ w'.heap.size) (hos : w'.os = c.w.os) (htp : w'.tape = c.w.tape) (hou : w'.output = c.w.output) :
    ∃ v x c', Ending.returned (.slice (some ⟨bN, 0, none⟩) (n + 1) kN) = .returned v ∧ c'.w = w' ∧ (x = .rw 0 4 (n + 1) ∧ c'.H = [.row e 4 (els.take i ++ new :: els.drop i), .arr e 4 1]) ∧ Conc c' ∧ rep c' x v ∧ Fr c c' := by
  refine ins_fin hc hH hn hi hb hmax h1 h2 h3 h4 (fun l el hl => ?_) ⟨hus.1, fun j x hx => ?_⟩ hoth hsz hos htp hou (us := us)
  · obtain ⟨q1, q2⟩ := hrow l el hl
    refine ⟨q1, fun j x hx => ?_⟩
    obtain ⟨v, r1, r2, r3⟩ := q2 j x hx
    have hj : j < 4 := by rw [← q1]; exact (List.getElem?_eq_some_iff.1 hx).1
    have hln : l < n := by rw [← hn]; exact (List.getElem?_eq_some_iff.1 hl).1
    refine ⟨v, ?_, r2, r3⟩
    by_cases e1 : l < i
    · rw [if_pos e1, hcell _ (by omega), if_pos (by omega), hcs _ (by omega)]; exact r1
    · rw [if_neg e1, hcell _ (by omega), if_neg (by omega), if_neg (by omega), hcs _ (by omega), show (l + 1) * 4 + j - 4 = l * 4 + j by omega]; exact r1
  · obtain ⟨v, r1, r2, r3⟩ := hus.2 j x hx
    have hj : j < 4 := by rw [← hus.1]; exact (List.getElem?_eq_some_iff.1 hx).1
    refine ⟨v, ?_, r2, r3⟩
    rw [hcell _ (by omega), if_neg (by omega), if_pos (by omega), show i * 4 + j - i * 4 = j by omega]; exact r1
theorem insert_row (els : List (List V)) (new : List V) (i n : Nat) (hn : els.length = n) (hi : i ≤ n) (hbig : (n + 1) * 64 ≤ maxEls) :
    Spec prog n_slices_Insert_s_Bind_Bind [.rw 0 4 n, .int .i64 i, .own 1 4 [new]] [.row t_Bind 4 els, .arr t_Bind 4 1] fun x H' => x = .rw 0 4 (n + 1) ∧ H' = [.row t_Bind 4 (els.take i ++ new :: els.drop i), .arr t_Bind 4 1] := by
  intro c vs hH hc hr
  obtain ⟨v0, vs', rfl, hv0, v1, vs'', rfl, hv1, v2, vs3, rfl, hv2, hvn⟩ := hr
  have hvn : vs3 = [] := hvn
  subst hvn
  have hv1 : v1 = .int .i64 i := hv1
  subst hv1
  left
  have hH0 : c.H[0]? = some (.row t_Bind 4 els) := by rw [hH]; rfl
  have hH1 : c.H[1]? = some (.arr t_Bind 4 1) := by rw [hH]; rfl
  refine ⟨ins_in _ _, ?_⟩
  obtain ⟨hp, _, q2⟩ := hv2
  have hcur := (q2 _ _ _ hH1).2.2 rfl
  -- the new element
  obtain ⟨a', c', b', o', e3, _, _, _, e4, e5⟩ := hp
  obtain ⟨us, s1, s2, s3⟩ := prepE_vals e5
  have he4 := e4.resolve_left (by simp)
  subst e3 he4
  cases hρ1 : c.ρ 1 with
  | none => rw [hρ1] at hcur; cases hcur
  | some bk =>
  obtain ⟨vb, kv⟩ := bk
  rw [hρ1] at hcur
  have hcur : Value.slice (some ⟨b', o', none⟩) 1 c' = .slice (some ⟨vb, 0, none⟩) 1 kv := hcur
  simp only [Value.slice.injEq, Option.some.injEq, Addr.mk.injEq, and_true, true_and] at hcur
  obtain ⟨⟨rfl, rfl⟩, rfl⟩ := hcur
  obtain ⟨va, va1, va2, va3, va4, _⟩ := (hc.obj 1 _ hH1).2 _ _ hρ1
  have hus4 : us.length = 4 := by simpa using s1
  have husc : ∀ j v, us[j]? = some v → c.w.cell? ⟨b', j, none⟩ = some v := fun j v hj => by have := (s2 j v hj).1; simpa using this
  have hus1 : ∀ v ∈ us, v.oneCell' = true := fun v hv => by
    obtain ⟨j, hj, e⟩ := List.getElem_of_mem hv
    rw [oneC_eq]; exact (s2 j v (by rw [List.getElem?_eq_getElem hj, e])).2
  have hnewf : new.length = 4 ∧ ∀ (j : Nat) (x : V), new[j]? = some x → ∃ v, us[j]? = some v ∧ oneC v = true ∧ rep c x v := by
    obtain ⟨t1, t2⟩ := s3 0 new rfl
    refine ⟨t1, fun j x hx => ?_⟩
    obtain ⟨v, u1, u2⟩ := t2 j x hx
    have u1 : us[j]? = some v := by simpa using u1
    exact ⟨v, u1, (s2 j v u1).2, rep_of_prep u2⟩
  have hvlt : b' < c.w.heap.size := (Array.getElem?_eq_some_iff.1 va1).1
  have hmx : maxEls = 140737488355328 := rfl
  have hcm : capMax = 9223372036854775807 := rfl
  obtain ⟨_, ⟨a0, k0, hv0, hle0, _⟩, q3⟩ := hv0
  have hcur0 := (q3 _ _ _ hH0).2.2 hn
  obtain ⟨o1, o2⟩ := hc.obj 0 _ hH0
  cases hρ0 : c.ρ 0 with
  | none =>
    have hels := o1 hρ0
    subst hels
    have hn0 : n = 0 := hn.symm
    subst hn0
    have hi0 : i = 0 := by omega
    subst hi0
    rw [hρ0] at hcur0
    have hcur0 : v0 = .slice none 0 0 := hcur0
    subst hcur0
    refine (Tryz.ins_end_grow none 0 0 b' c' [] us c.w (by omega) (by omega) (by omega) rfl hus4 (fun _ => rfl) (fun a h => by cases h) husc hus1).mono ?_
    rintro e w' ⟨rfl, rfl⟩
    have hG := grownCap_ge c.w 1 0 133
    have hG2 := grownCap_le_maxLen c.w 1 0 133 (by unfold maxLen; omega)
    generalize grownCap c.w (0 + 1) 0 133 = G at hG hG2 ⊢
    refine ins_go hc hH rfl (Nat.le_refl 0) (bN := c.w.heap.size) (kN := G) (vs0 := #[]) (vs1 := ([] ++ us).toArray ++ Builtin.zeroCells zBind.cells (G - 1)) (us := us) (cs := []) (.inr (Nat.le_refl _)) (by omega) ?_ ?_ hG (by unfold maxLen at hG2; omega) (fun l el hl => by simp at hl) (fun j hj => by omega) hnewf (fun j hj => ?_) (fun b1 h1 h2 => ?_) ?_ rfl rfl rfl
    · show (c.w.heap.push _)[c.w.heap.size]? = _
      rw [Array.getElem?_push_size]; rfl
    · have hzc : zBind.cells.size = 4 := rfl
      simp only [Array.size_append, zeroCells_size, hzc, List.size_toArray, List.nil_append, hus4]; omega
    · rw [if_neg (by omega), if_pos (by omega), Array.getElem?_append_left (by simp; omega)]
      simp
    · exact heap_push_lt h1
    · show c.w.heap.size ≤ (c.w.heap.push _).size
      rw [Array.size_push]; omega
  | some bk =>
  obtain ⟨b, k⟩ := bk
  rw [hρ0] at hcur0
  have hcur0 : v0 = .slice (some ⟨b, 0, none⟩) n k := hcur0
  subst hcur0
  obtain ⟨vs0, r1, r2, r3, r4, r5, r6⟩ := o2 b k hρ0
  rw [hn] at r3
  have hblt : b < c.w.heap.size := (Array.getElem?_eq_some_iff.1 r1).1
  have hvb : b' ≠ b := fun e => by
    have := hc.inj 0 1 b k c' (by rw [hH]; simp) (by rw [hH]; simp) hρ0 (e ▸ hρ1)
    omega
  generalize hcs : vs0.toList.take (n * 4) = cs
  have hcsl : cs.length = n * 4 := by rw [← hcs, List.length_take, Array.length_toList, r2]; omega
  have hcsg : ∀ j, j < n * 4 → cs[j]? = vs0[j]? := fun j hj => by rw [← hcs, List.getElem?_take, if_pos hj]; simp
  have hcell : ∀ j, c.w.cell? ⟨b, j, none⟩ = vs0[j]? := fun j => by simp only [World.cell?, r1]; rfl
  have hfz : ∀ j, c.w.frozen? ⟨b, j, none⟩ = false := fun j => by simp [World.frozen?, r1]
  have hcsc : ∀ j v, cs[j]? = some v → c.w.cell? ⟨b, j, none⟩ = some v := fun j v hj => by
    have hjl : j < n * 4 := by rw [← hcsl]; exact (List.getElem?_eq_some_iff.1 hj).1
    rw [hcell, ← hcsg j hjl]; exact hj
  have hcs1 : ∀ v ∈ cs, v.oneCell' = true := fun v hv => by
    obtain ⟨j, hj, e⟩ := List.getElem_of_mem hv
    have hjl : j < n * 4 := by rw [← hcsl]; exact hj
    have hl : j / 4 < els.length := by omega
    obtain ⟨t1, t2⟩ := r6 (j / 4) els[j / 4] (List.getElem?_eq_getElem hl)
    obtain ⟨u, u1, u2, _⟩ := t2 (j % 4) (els[j / 4][j % 4]'(by omega)) (List.getElem?_eq_getElem (by omega))
    rw [show j / 4 * 4 + j % 4 = j by omega, ← hcsg j hjl, List.getElem?_eq_getElem hj, e] at u1
    cases u1
    rw [oneC_eq]; exact u2
  have hsp : k ≥ n + 1 → ∀ j, j < (n + 1) * 4 → (c.w.cell? ⟨b, j, none⟩).isSome = true := fun hk j hj => by
    rw [hcell, Array.getElem?_eq_getElem (by omega)]; rfl
  by_cases hin : i = n
  · subst hin
    by_cases hk : i + 1 ≤ k
    · refine (Tryz.ins_end_room b i k b' c' us c.w hk (by omega) hus4 (fun j hj => hsp hk _ (by omega)) (fun j _ => hfz _) husc hus1).mono ?_
      rintro e w' ⟨rfl, rfl⟩
      obtain ⟨g1, g2, g3, g4, g5, g6⟩ := heap_setCells b us (i * 4) c.w
      obtain ⟨vs1, g7, g8⟩ := g3 _ _ _ r1
      have hw : ∀ j, vs1[j]? = (c.w.setCells b (i * 4) us).cell? ⟨b, j, none⟩ := fun j => by simp only [World.cell?, g7]; rfl
      refine ins_go hc hH hn hi (bN := b) (kN := k) (vs0 := vs0) (vs1 := vs1) (us := us) (cs := cs) (.inl ⟨k, hρ0⟩) (by omega) g7 (by rw [g8, r2]) hk r4 r6 hcsg hnewf (fun j hj => ?_) (fun b1 _ h2 => g2 b1 h2) (by rw [g1]; exact Nat.le_refl _) g4 g5 g6
      rw [hw]
      by_cases e1 : j < i * 4
      · rw [if_pos e1, World.cell?_setCells_out b _ _ _ _ (fun _ _ => .inl e1), hcell, hcsg j e1]
      · rw [if_neg e1, if_pos (by omega)]
        have := World.cell?_setCells_in b us (i * 4) c.w (fun t ht => hsp hk _ (by omega)) (j - i * 4) (by omega)
        rw [show i * 4 + (j - i * 4) = j by omega] at this
        rw [this, List.getElem?_eq_getElem]
    · refine (Tryz.ins_end_grow (some ⟨b, 0, none⟩) i k b' c' cs us c.w r3 (by omega) (by omega) hcsl hus4 (fun h => by cases h) (fun a h j v hj => by cases h; rw [Addr.add_lit, Nat.zero_add]; exact hcsc j v hj) husc hus1).mono ?_
      rintro e w' ⟨rfl, rfl⟩
      have hG := grownCap_ge c.w (i + 1) k 133
      have hG2 := grownCap_le_maxLen c.w (i + 1) k 133 (by unfold maxLen; omega)
      generalize grownCap c.w (i + 1) k 133 = G at hG hG2 ⊢
      refine ins_go hc hH hn hi (bN := c.w.heap.size) (kN := G) (vs0 := vs0) (vs1 := (cs ++ us).toArray ++ Builtin.zeroCells zBind.cells (G - (i + 1))) (us := us) (cs := cs) (.inr (Nat.le_refl _)) (by omega) ?_ ?_ hG (by unfold maxLen at hG2; omega) r6 hcsg hnewf (fun j hj => ?_) (fun b1 h1 h2 => ?_) ?_ rfl rfl rfl
      · show (c.w.heap.push _)[c.w.heap.size]? = _
        rw [Array.getElem?_push_size]; rfl
      · have hzc : zBind.cells.size = 4 := rfl
        simp only [Array.size_append, zeroCells_size, hzc, List.size_toArray, List.length_append, hus4, hcsl]; omega
      · rw [Array.getElem?_append_left (by simp [hcsl, hus4]; omega), List.getElem?_toArray, List.getElem?_append, hcsl]
        by_cases e1 : j < i * 4
        · rw [if_pos e1, if_pos e1]
        · rw [if_neg e1, if_neg e1, if_pos (by omega)]
      · exact heap_push_lt h1
      · show c.w.heap.size ≤ (c.w.heap.push _).size
        rw [Array.size_push]; omega
  · have hin' : i < n := by omega
    by_cases hk : n + 1 ≤ k
    · refine (Tryz.ins_shift b n k i b' c' cs us c.w hin' hk (by omega) hvb hcsl hus4 hcsc (hsp hk) (fun j _ => hfz _) husc hcs1 hus1 t_Bind t_Bind va.size vs0.size (by simp [World.shape?, va1]) (by simp [World.shape?, r1]) (by omega) (by simp [World.frozen?, va1]) (by simp [World.frozen?, va1])).mono ?_
      rintro e w' ⟨rfl, rfl⟩
      have hdl : (cs.drop (i * 4)).length = (n - i) * 4 := by rw [List.length_drop, hcsl]; omega
      have hsp' : ∀ j, j < (n + 1) * 4 → (c.w.drew.cell? ⟨b, j, none⟩).isSome = true := hsp hk
      obtain ⟨g1, g2, g3, g4, g5, g6⟩ := heap_setCells b (cs.drop (i * 4)) ((i + 1) * 4) c.w.drew
      obtain ⟨vsA, g7, g8⟩ := g3 _ _ _ r1
      generalize hW1 : c.w.drew.setCells b ((i + 1) * 4) (cs.drop (i * 4)) = W1 at g1 g2 g3 g4 g5 g6 g7 ⊢
      obtain ⟨f1, f2, f3, f4, f5, f6⟩ := heap_setCells b us (i * 4) W1
      obtain ⟨vs1, f7, f8⟩ := f3 _ _ _ g7
      have hw : ∀ j, vs1[j]? = (W1.setCells b (i * 4) us).cell? ⟨b, j, none⟩ := fun j => by simp only [World.cell?, f7]; rfl
      refine ins_go hc hH hn hi (bN := b) (kN := k) (vs0 := vs0) (vs1 := vs1) (us := us) (cs := cs) (.inl ⟨k, hρ0⟩) (by omega) f7 (by rw [f8, g8, r2]) hk r4 r6 hcsg hnewf (fun j hj => ?_) (fun b1 _ h2 => by rw [f2 b1 h2, g2 b1 h2]; rfl) (by rw [f1, g1]; exact Nat.le_refl _) (by rw [f4, g4]; rfl) (by rw [f5, g5]; rfl) (by rw [f6, g6]; rfl)
      rw [hw]
      have hsp1 : ∀ j, j < (n + 1) * 4 → (W1.cell? ⟨b, j, none⟩).isSome = true := fun j hj => by
        rw [← hW1]
        exact isSome_setCells b _ _ c.w.drew (fun t ht => hsp' ((i + 1) * 4 + t) (by rw [hdl] at ht; omega)) _ (hsp' j hj)
      by_cases e1 : j < i * 4
      · rw [if_pos e1, World.cell?_setCells_out b _ _ _ _ (fun _ _ => .inl e1), ← hW1, World.cell?_setCells_out b _ _ _ _ (fun _ _ => .inl (by show j < (i + 1) * 4; omega))]
        show c.w.cell? ⟨b, j, none⟩ = _
        rw [hcell, hcsg j (by omega)]
      · rw [if_neg e1]
        by_cases e2 : j < i * 4 + 4
        · rw [if_pos e2]
          have := World.cell?_setCells_in b us (i * 4) W1 (fun t ht => hsp1 _ (by omega)) (j - i * 4) (by omega)
          rw [show i * 4 + (j - i * 4) = j by omega] at this
          rw [this, List.getElem?_eq_getElem]
        · rw [if_neg e2, World.cell?_setCells_out b _ _ _ _ (fun _ _ => .inr (by show i * 4 + us.length ≤ j; omega)), ← hW1]
          have := World.cell?_setCells_in b (cs.drop (i * 4)) ((i + 1) * 4) c.w.drew (fun t ht => hsp' _ (by omega)) (j - (i + 1) * 4) (by omega)
          rw [show (i + 1) * 4 + (j - (i + 1) * 4) = j by omega] at this
          rw [this, ← List.getElem?_eq_getElem, List.getElem?_drop, show i * 4 + (j - (i + 1) * 4) = j - 4 by omega]
    · refine (Tryz.ins_grow b n k i b' c' cs us c.w hin' r3 (by omega) (by omega) hcsl hus4 hcsc husc hcs1 hus1).mono ?_
      rintro e w' ⟨rfl, rfl⟩
      have hG := grownCap_ge c.w (n + 1) k 133
      have hG2 := grownCap_le_maxLen c.w (n + 1) k 133 (by unfold maxLen; omega)
      generalize grownCap c.w (n + 1) k 133 = G at hG hG2 ⊢
      have hdl : (cs.drop (i * 4)).length = (n - i) * 4 := by rw [List.length_drop, hcsl]; omega
      have hzc : zBind.cells.size = 4 := rfl
      generalize hR : (cs.take (i * 4)).toArray ++ Builtin.zeroCells zBind.cells (n + 1 - i) ++ Builtin.zeroCells zBind.cells (G - (n + 1)) = ROW
      have hRs : ROW.size = G * 4 := by
        rw [← hR]
        simp only [Array.size_append, zeroCells_size, hzc, List.size_toArray, List.length_take, hcsl]; omega
      have hRg : ∀ j, j < i * 4 → ROW[j]? = cs[j]? := fun j hj => by
        rw [← hR, Array.getElem?_append_left (by simp [zeroCells_size, hzc, hcsl]; omega), Array.getElem?_append_left (by simp [hcsl]; omega), List.getElem?_toArray, List.getElem?_take, if_pos hj]
      generalize hN : c.w.heap.size = N
      have hNb : ∀ j, (c.w.alloc (.cells ROW 133)).cell? ⟨N, j, none⟩ = ROW[j]? := fun j => World.cell?_alloc_at (w := c.w) ROW _ N j hN.symm
      generalize hW0 : (c.w.alloc (.cells ROW 133)).drew = W0
      have hW0c : ∀ j, W0.cell? ⟨N, j, none⟩ = ROW[j]? := fun j => by rw [← hW0]; exact hNb j
      have hW0h : W0.heap = c.w.heap.push (.cells ROW 133) := by rw [← hW0]; rfl
      obtain ⟨g1, g2, g3, g4, g5, g6⟩ := heap_setCells N us (i * 4) W0
      obtain ⟨vsA, g7, g8⟩ := g3 ROW t_Bind (0, 0) (by rw [hW0h, ← hN, Array.getElem?_push_size]; rfl)
      have hsA : ∀ j, j < (n + 1) * 4 → ((W0.setCells N (i * 4) us).cell? ⟨N, j, none⟩).isSome = true := fun j hj =>
        isSome_setCells N us _ W0 (fun t ht => by rw [hW0c, Array.getElem?_eq_getElem (by omega)]; rfl) _ (by rw [hW0c, Array.getElem?_eq_getElem (by omega)]; rfl)
      generalize hW1 : W0.setCells N (i * 4) us = W1 at g1 g2 g3 g4 g5 g6 g7 hsA ⊢
      obtain ⟨f1, f2, f3, f4, f5, f6⟩ := heap_setCells N (cs.drop (i * 4)) ((i + 1) * 4) W1.drew
      obtain ⟨vs1, f7, f8⟩ := f3 _ _ _ g7
      have hw : ∀ j, vs1[j]? = (W1.drew.setCells N ((i + 1) * 4) (cs.drop (i * 4))).cell? ⟨N, j, none⟩ := fun j => by simp only [World.cell?, f7]; rfl
      have hold : ∀ b1, b1 < c.w.heap.size → b1 ≠ N → W0.heap[b1]? = c.w.heap[b1]? := fun b1 h _ => by rw [hW0h]; exact heap_push_lt h
      refine ins_go hc hH hn hi (bN := N) (kN := G) (vs0 := vs0) (vs1 := vs1) (us := us) (cs := cs) (.inr (by omega)) (by omega) f7 (by rw [f8, g8, hRs]) hG (by unfold maxLen at hG2; omega) r6 hcsg hnewf (fun j hj => ?_) (fun b1 h1 h2 => ?_) ?_ ?_ ?_ ?_
      · rw [hw]
        by_cases e1 : j < i * 4
        · rw [if_pos e1, World.cell?_setCells_out N _ _ _ _ (fun _ _ => .inl (by show j < (i + 1) * 4; omega))]
          show W1.cell? ⟨N, j, none⟩ = _
          rw [← hW1, World.cell?_setCells_out N _ _ _ _ (fun _ _ => .inl e1), hW0c, hRg j e1]
        · rw [if_neg e1]
          by_cases e2 : j < i * 4 + 4
          · rw [if_pos e2, World.cell?_setCells_out N _ _ _ _ (fun _ _ => .inl (by show j < (i + 1) * 4; omega))]
            show W1.cell? ⟨N, j, none⟩ = _
            rw [← hW1]
            have := World.cell?_setCells_in N us (i * 4) W0 (fun t ht => by rw [hW0c, Array.getElem?_eq_getElem (by omega)]; rfl) (j - i * 4) (by omega)
            rw [show i * 4 + (j - i * 4) = j by omega] at this
            rw [this, List.getElem?_eq_getElem]
          · rw [if_neg e2]
            have := World.cell?_setCells_in N (cs.drop (i * 4)) ((i + 1) * 4) W1.drew (fun t ht => hsA _ (by omega)) (j - (i + 1) * 4) (by omega)
            rw [show (i + 1) * 4 + (j - (i + 1) * 4) = j by omega] at this
            rw [this, ← List.getElem?_eq_getElem, List.getElem?_drop, show i * 4 + (j - (i + 1) * 4) = j - 4 by omega]
      · rw [f2 b1 h2]
        show W1.heap[b1]? = _
        rw [g2 b1 h2, hold b1 h1 h2]
      · rw [f1]
        show c.w.heap.size ≤ W1.heap.size
        rw [g1, hW0h, Array.size_push]; omega
      · rw [f4]
        show W1.os = _
        rw [g4, ← hW0]; rfl
      · rw [f5]
        show W1.tape = _
        rw [g5, ← hW0]; rfl
      · rw [f6]
        show W1.output = _
        rw [g6, ← hW0]; rfl
end Go.Dw
end
section
set_option linter.unusedVariables false
set_option linter.unusedSimpArgs false
namespace Go.Proofs
open Go.Shelf Go.RowKit
def Tryz.growI_ren : Go.Shelf.Ren := ⟨fun | 4 => 85 | n => n, fun | 22 => 29 | 25 => 3 | 3 => 3 | 4 => 4 | 9 => 9 | 20 => 20 | 0 => 0 | n => n, fun | n => n⟩
theorem Tryz.growI : Go.Proofs.Lays8.n4 Tryz.prog Tryz.growI_ren := {
  mixed := by kernel_rfl
  f4 := ⟨Tryz.f85.name, by decide, Tryz.func85.trans (congrArg some (by kernel_rfl))⟩
  t0 := Tryz.underlying0
  a0 := Tryz.isAgg0
  z0 := Tryz.sizeOf0
  v0 := Tryz.zeroValue0
  t3 := Tryz.underlying3
  a3 := Tryz.isAgg3
  z3 := Tryz.sizeOf3
  v3 := Tryz.zeroValue3
  t4 := Tryz.underlying4
  a4 := Tryz.isAgg4
  z4 := Tryz.sizeOf4
  v4 := Tryz.zeroValue4
  t9 := Tryz.underlying9
  a9 := Tryz.isAgg9
  z9 := Tryz.sizeOf9
  v9 := Tryz.zeroValue9
  t20 := Tryz.underlying20
  a20 := Tryz.isAgg20
  z20 := Tryz.sizeOf20
  v20 := Tryz.zeroValue20
  t22 := Tryz.underlying29
  a22 := Tryz.isAgg29
  z22 := Tryz.sizeOf29
  v22 := Tryz.zeroValue29 }
theorem Tryz.grow_num : Tryz.growI_ren.f 4 = Go.Dw.n_slices_Grow_s_int_int := by kernel_rfl
theorem Tryz.grow_t : Tryz.growI_ren.t 25 = Go.Dw.t_int := by kernel_rfl
theorem Tryz.int_info : (Tryz.prog.info? Go.Dw.t_int).map (fun i => (i.zero, i.size, i.bytes)) = some (some (.int .i64 0), 1, 8) := by kernel_rfl
theorem Tryz.grow_in (args : Array Value) (w : World) : (callFunc Go.Dw.n_slices_Grow_s_int_int args).run Tryz.prog w = .ok (.enter Go.Dw.n_slices_Grow_s_int_int args) w := by
  have := enters_of (P := Tryz.prog) (f := Go.Dw.n_slices_Grow_s_int_int) (by kernel_rfl : Tryz.prog.funcs[Go.Dw.n_slices_Grow_s_int_int]? = some Tryz.f85) (by kernel_rfl) rfl args w
  exact this
end Go.Proofs
namespace Go.Dw
open Go.Proofs
theorem grow_row (n : Nat) (hn : n < 2 ^ 40) : Spec prog n_slices_Grow_s_int_int [.nil, .int .i64 n] [] fun x H' => x = .own 0 1 [] ∧ H' = [.arr t_int 1 0] := by
  intro c vs hH hc hr
  obtain ⟨v, vs1, rfl, h1, v2, vs2, rfl, h2, h3⟩ := hr
  have h1 : v = .slice none 0 0 := h1
  have h2 : v2 = .int .i64 n := h2
  have h3 : vs2 = [] := h3
  subst h1; subst h2; subst h3
  left
  refine ⟨Tryz.grow_in _ _, ?_⟩
  by_cases h0 : n = 0
  · subst h0
    have := Any8.slices_Grow_room Tryz.growI none 0 0 0 c.w (Nat.le_refl _) (by omega) (by omega) (by omega)
    rw [Tryz.grow_num] at this
    refine this.mono ?_
    rintro e w' ⟨rfl, rfl⟩
    refine ⟨_, .own 0 1 [], ⟨c.w, c.ok, fun _ => none, [.arr t_int 1 0]⟩, rfl, rfl, ⟨rfl, rfl⟩, ?_, ?_, ?_⟩
    · refine ⟨fun i j b k k' hi hj h1 _ => (by cases h1), hc.okLt, fun i o hi => ?_⟩
      cases i with
      | succ i => simp at hi
      | zero =>
        simp only [List.getElem?_cons_zero, Option.some.injEq] at hi
        subst hi
        exact ⟨fun _ => rfl, fun b k h => by cases h⟩
    · refine ⟨⟨none, 0, 0, 0, rfl, Nat.le_refl _, by unfold capMax; omega, by unfold maxEls; simp, .inl rfl, trivial⟩, by simp, fun e sz' n hn => ?_⟩
      simp only [List.getElem?_cons_zero, Option.some.injEq, Ob.arr.injEq] at hn
      obtain ⟨rfl, rfl, rfl⟩ := hn
      exact ⟨rfl, Nat.le_refl _, fun _ => rfl⟩
    · refine ⟨fun _ _ h => h, fun _ _ _ => rfl, Nat.le_refl _, fun _ _ h => .inl h, fun _ _ _ => rfl, fun b hb => ?_, fun i o ho => ?_, rfl, rfl, rfl⟩
      · obtain ⟨i, k, _, h⟩ := hb; cases h
      · rw [hH] at ho; simp at ho
  · obtain ⟨i0, hi0, hz0, hzs, hzb⟩ := info_parts Tryz.int_info
    have := Any8.slices_Grow_grow Tryz.growI i0 (.int .i64 0) (by rw [Tryz.grow_t]; exact hi0) hz0 (by omega) none 0 0 n [] c.w (by omega) (by omega) (by rw [hzb]; omega) (by omega) (by simp) (fun _ => rfl) (fun _ h => by cases h)
    rw [Tryz.grow_num, Tryz.grow_t] at this
    refine this.mono ?_
    rintro e w' ⟨rfl, rfl⟩
    have hge : 0 + n ≤ grownCap c.w (0 + n) 0 t_int := grownCap_ge c.w _ _ _
    have hle := grownCap_le_maxLen c.w (0 + n) 0 t_int (by unfold maxLen; omega)
    unfold maxLen at hle
    generalize grownCap c.w (0 + n) 0 t_int = cap at hge hle ⊢
    obtain ⟨k1, k2⟩ := conc_heap hc (w' := c.w.drew) rfl rfl rfl rfl
    generalize hvs : ((#[] : Array Value) ++ Builtin.zeroCells (Value.int .i64 0).cells (0 + n - 0) ++ Builtin.zeroCells (Value.int .i64 0).cells (cap - (0 + n))) = vs
    have hsz : vs.size = cap := by
      subst hvs
      simp only [Array.size_append, size_zeroCells, show (Value.int .i64 0).cells.size = 1 from rfl]
      simp; omega
    have hk := conc_addOwn k1 (.cells vs t_int (0, 0)) (.arr t_int 1 0) cap (fun _ => False) ⟨fun h => (by cases h), fun b k h => by
      cases h
      exact ⟨vs, heap_alloc_new c.w.drew _, by omega, by omega, by unfold capMax; omega, fun o _ ho => by
        rcases ho with ho | ⟨_, ho⟩
        · have := hc.okLt _ _ ho; exact absurd this (Nat.lt_irrefl _)
        · exact ho⟩⟩
    have hf := fr_addOwn k1 (.cells vs t_int (0, 0)) (.arr t_int 1 0) cap (fun _ => False)
    refine ⟨_, .own 0 1 [], _, rfl, rfl, ⟨rfl, ?_⟩, hk, ?_, k2.trans hf⟩
    · simp only [Cx.addOwn, hH]; rfl
    · refine ⟨⟨some ⟨c.w.heap.size, 0, none⟩, cap, 0, 0, rfl, by simp, by unfold capMax; omega, by unfold maxEls; simp, .inl rfl, trivial⟩, by simp [Cx.addOwn], fun e sz' n hn => ?_⟩
      simp only [Cx.addOwn, hH, List.nil_append, List.getElem?_cons_zero, Option.some.injEq, Ob.arr.injEq] at hn
      obtain ⟨rfl, rfl, rfl⟩ := hn
      refine ⟨rfl, Nat.le_refl _, fun _ => ?_⟩
      simp only [Cx.addOwn, hH, List.length_nil, upd_same]
      rfl
end Go.Dw
end
