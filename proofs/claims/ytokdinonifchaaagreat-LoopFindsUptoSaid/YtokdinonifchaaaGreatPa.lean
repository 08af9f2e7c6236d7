/-
  From the statement's data to the reader's.
-/
import Derived.Test.YtokdinonifchaaaGreatRows
import Derived.WalkKit
import Derived.ProofKit
import Derived.OpenShut
import Derived.JoinedCond
import Derived.ReadAgain
import Derived.Carry
import Derived.Test.YtokdinonifchaaaGreatXf
set_option linter.unusedVariables false
set_option linter.unusedSimpArgs false
set_option maxRecDepth 100000
namespace Go.Dw
open Go.Proofs.YtokdinonifchaaaGreat
abbrev okW (W : World) : Nat → Nat → Prop := fun b _ => b < W.heap.size
/-- Cells that stand for values. -/
def Cells (W : World) (xs : List V) (cs : List Value) : Prop := prepL W (okW W) xs cs ∧ ∀ u ∈ cs, oneC u = true
theorem prepL_app {w : World} {ok : Nat → Nat → Prop} : ∀ {xs ys : List V} {cs ds : List Value}, prepL w ok xs cs → prepL w ok ys ds → prepL w ok (xs ++ ys) (cs ++ ds)
  | [], ys, cs, ds, h1, h2 => by
    have h1 : cs = [] := h1
    subst h1; exact h2
  | x :: xs, ys, cs, ds, ⟨v, vs, e, h1, h2⟩, h3 => by
    subst e
    exact ⟨v, vs ++ ds, rfl, h1, prepL_app h2 h3⟩
theorem prepL_get {w : World} {ok : Nat → Nat → Prop} : ∀ {xs : List V} {cs : List Value} {i : Nat} {x : V}, prepL w ok xs cs → xs[i]? = some x → ∃ v, cs[i]? = some v ∧ prep w ok x v
  | [], _, i, x, _, h => by simp at h
  | y :: xs, cs, i, x, ⟨v, vs, e, h1, h2⟩, h => by
    subst e
    cases i with
    | zero => simp only [List.getElem?_cons_zero, Option.some.injEq] at h; subst h; exact ⟨v, rfl, h1⟩
    | succ i => simp only [List.getElem?_cons_succ] at h ⊢; exact prepL_get h2 h
theorem Cells.app {W : World} {xs ys : List V} {cs ds : List Value} (h1 : Cells W xs cs) (h2 : Cells W ys ds) : Cells W (xs ++ ys) (cs ++ ds) :=
  ⟨prepL_app h1.1 h2.1, fun u hu => (List.mem_append.1 hu).elim (h1.2 u) (h2.2 u)⟩
theorem Cells.one {W : World} {x : V} {c : Value} (h : prep W (okW W) x c) (ho : oneC c = true) : Cells W [x] [c] := ⟨⟨c, [], rfl, h, rfl⟩, fun u hu => by simp only [List.mem_singleton] at hu; subst hu; exact ho⟩
section
variable {H : Type} {enc : TypeId × Value → H} {W : World}
noncomputable abbrev trd (enc : TypeId × Value → H) (W : World) := DataW.trod enc prog W 0 (fun _ => true) true
/-- Data of a type, read with so much fuel. -/
def Br {α : Type} (enc : TypeId × Value → H) (W : World) (n : Nat) (t : TypeId) (c : α → List V) (b : α → Nat) : Prop := ∀ cs x, trd enc W n t cs = some x → Rows.uptoBulk x.1 ≤ 1048576 → ∃ a, b a ≤ Rows.uptoBulk x.1 ∧ Cells W (c a) cs
theorem br_str {n : Nat} : Br enc W n t_string (fun s : Str => [.str s]) (fun s => s.length + 1) := by
  intro cs x h _
  obtain ⟨s, rfl, rfl, _⟩ := DataW.trod_string (P := prog) Go.Proofs.Tryz.underlying9 h
  refine ⟨s.data.toList, by simp [Rows.uptoBulk], Cells.one ?_ rfl⟩
  show Value.string s = .string ⟨⟨s.data.toList⟩⟩
  cases s with | mk d => cases d; rfl
theorem br_bool {n : Nat} : Br enc W n t_bool (fun s : Bool => [.bool s]) (fun _ => 1) := by
  intro cs x h _
  obtain ⟨s, rfl, rfl⟩ := DataW.trod_bool (P := prog) Go.Proofs.Tryz.underlying4 h
  exact ⟨s, by simp [Rows.uptoBulk], Cells.one rfl rfl⟩
theorem br_int {n : Nat} : Br enc W n t_int (fun s : Int => cI s) (fun _ => 1) := by
  intro cs x h _
  obtain ⟨s, rfl, rfl, _⟩ := DataW.trod_int (P := prog) Go.Proofs.Tryz.underlying3 h
  exact ⟨s, by simp [Rows.uptoBulk], Cells.one rfl rfl⟩
theorem cell_spot {w : World} {a : Addr} {v : Value} (h : w.cell? a = some v) : a.spot = none ∧ a.block < w.heap.size := by
  unfold World.cell? at h
  split at h
  · rename_i hb
    split at h
    · cases h
    · rename_i hs
      exact ⟨by cases hq : a.spot <;> simp_all, (Array.getElem?_eq_some_iff.1 hb).1⟩
  · cases h
theorem addr_add {a : Addr} (h : a.spot = none) (n : Nat) : a.add n = ⟨a.block, a.off + n, none⟩ := by
  unfold Addr.add
  split
  · rename_i h0; subst h0; cases a; simp_all
  · rfl
def sumB {α : Type} (b : α → Nat) : List α → Nat
  | [] => 0
  | x :: l => b x + sumB b l
theorem one_le (d : DataW H) : 1 ≤ Rows.uptoBulk d := by
  cases d with
  | lit l => cases l <;> simp [Rows.uptoBulk]
  | _ => simp [Rows.uptoBulk]
theorem bulk_len (l : List (DataW H)) : l.length ≤ Rows.uptoBulkAll l := by
  induction l with
  | nil => simp [Rows.uptoBulkAll]
  | cons x r ih => have := one_le x; simp only [Rows.uptoBulkAll, List.length_cons]; omega
theorem bulk_part {d : DataW H} {l : List (DataW H)} (h : d ∈ l) : Rows.uptoBulk d ≤ Rows.uptoBulkAll l := by
  induction l with
  | nil => cases h
  | cons x r ih =>
    simp only [Rows.uptoBulkAll]
    rcases List.mem_cons.1 h with e | e
    · subst e; omega
    · have := ih e; omega
theorem sumB_le {α : Type} {b : α → Nat} : ∀ {l : List α} {es : List (DataW H × List MemPlace)}, l.length = es.length → (∀ (i : Nat) (a : α) (e : DataW H × List MemPlace), l[i]? = some a → es[i]? = some e → b a ≤ Rows.uptoBulk e.1) → sumB b l ≤ Rows.uptoBulkAll (es.map (·.1))
  | [], [], _, _ => by simp [sumB]
  | [], _ :: _, h, _ => by simp at h
  | _ :: _, [], h, _ => by simp at h
  | a :: l, e :: es, h, hb => by
    have h1 := hb 0 a e rfl rfl
    have h2 := sumB_le (l := l) (es := es) (by simpa using h) fun i a' e' h1 h2 => hb (i + 1) a' e' (by simpa using h1) (by simpa using h2)
    simp only [sumB, List.map_cons, Rows.uptoBulkAll]; omega
theorem br_slice {α : Type} {n : Nat} {ts t : TypeId} {sz : Nat} {c : α → List V} {b : α → Nat} (hts : prog.underlying ts = some (.slice t)) (hsz : prog.cellsOf t = sz) (hpos : 0 < sz) (hc : ∀ a, (c a).length = sz)
    (h : ∀ m, m + 1 = n → Br enc W m t c b) : Br enc W n ts (fun l : List α => [encL c sz l]) (fun l => sumB b l + 1) := by
  intro cs x hx hbk
  rcases DataW.trod_slice (P := prog) hts hx with ⟨rfl, rfl⟩ | ⟨a, len, cap, elems, rest, m, rfl, rfl, rfl, _, hle, hcap, hlen, hel, _, _⟩
  · exact ⟨[], by simp [sumB, Rows.uptoBulk], Cells.one ⟨none, 0, 0, 0, rfl, Nat.le_refl _, by unfold capMax; omega, by unfold maxEls; simp, .inl rfl, trivial⟩ rfl⟩
  · have hbr := h m rfl
    have hba : Rows.uptoBulkAll (elems.map (·.1)) ≤ 1048576 := by simp only [Rows.uptoBulk] at hbk; omega
    have hln := bulk_len (elems.map (·.1))
    rw [List.length_map] at hln
    rw [hsz] at hel
    have step : ∀ i, i < len → ∃ y : α, (∀ e, elems[i]? = some e → b y ≤ Rows.uptoBulk e.1) ∧ ∃ ecs, W.cells? 0 (a.add (i * sz)) sz = some ecs ∧ Cells W (c y) ecs := by
      intro i hi
      have h1 := hel i hi
      have hil : i < elems.length := by omega
      rw [List.getElem?_eq_getElem hil] at h1
      simp only [Option.bind_eq_some_iff] at h1
      obtain ⟨ecs, h2, h3⟩ := h1
      obtain ⟨y, hy1, hy2⟩ := hbr ecs _ h3 (Nat.le_trans (bulk_part (List.mem_map.2 ⟨_, List.getElem_mem hil, rfl⟩)) hba)
      refine ⟨y, fun e he => ?_, ecs, h2, hy2⟩
      rw [List.getElem?_eq_getElem hil] at he
      cases he; exact hy1
    obtain ⟨f, hf⟩ : ∃ f : Nat → Option α, ∀ i, i < len → ∃ y, f i = some y ∧ (∀ e, elems[i]? = some e → b y ≤ Rows.uptoBulk e.1) ∧ ∃ ecs, W.cells? 0 (a.add (i * sz)) sz = some ecs ∧ Cells W (c y) ecs := by
      refine ⟨fun i => if h : i < len then some (Classical.choose (step i h)) else none, fun i hi => ?_⟩
      exact ⟨Classical.choose (step i hi), by simp [hi], Classical.choose_spec (step i hi)⟩
    have hl : ∀ k, k ≤ len → ∃ l : List α, l.length = k ∧ ∀ i, i < k → f i = l[i]? := by
      intro k
      induction k with
      | zero => intro _; exact ⟨[], rfl, fun i hi => by omega⟩
      | succ k ih =>
        intro hk
        obtain ⟨l, h1, h2⟩ := ih (by omega)
        obtain ⟨y, hy, _⟩ := hf k (by omega)
        refine ⟨l ++ [y], by simp [h1], fun i hi => ?_⟩
        rcases Nat.lt_succ_iff_lt_or_eq.1 hi with h3 | rfl
        · rw [List.getElem?_append_left (by omega)]; exact h2 i h3
        · rw [List.getElem?_append_right (by omega), h1]; simpa using hy
    obtain ⟨l, hl1, hl2⟩ := hl len (Nat.le_refl _)
    have hat : ∀ i y, l[i]? = some y → (∀ e, elems[i]? = some e → b y ≤ Rows.uptoBulk e.1) ∧ ∃ ecs, W.cells? 0 (a.add (i * sz)) sz = some ecs ∧ Cells W (c y) ecs := by
      intro i y hy
      have hi : i < len := by rw [← hl1]; exact (List.getElem?_eq_some_iff.1 hy).1
      obtain ⟨z, h1, h2⟩ := hf i hi
      rw [hl2 i hi, hy] at h1
      cases h1; exact h2
    refine ⟨l, ?_, Cells.one ?_ rfl⟩
    · have := sumB_le (b := b) (l := l) (es := elems) (by omega) fun i y e h1 h2 => (hat i y h1).1 e h2
      simp only [Rows.uptoBulk]; omega
    · have hspot : l ≠ [] → a.spot = none ∧ a.block < W.heap.size := by
        intro hne
        obtain ⟨y, hy⟩ : ∃ y, l[0]? = some y := by cases l with | nil => exact absurd rfl hne | cons y l => exact ⟨y, rfl⟩
        obtain ⟨_, ecs, h1, h2⟩ := hat 0 y hy
        obtain ⟨_, g1, g2⟩ := World.cells?_some h1
        have h3 := g2 0 hpos
        have hel : ecs.length = sz := g1
        obtain ⟨e0, he0⟩ : ∃ e0, ecs[0]? = some e0 := ⟨ecs[0]'(by omega), List.getElem?_eq_getElem (by omega)⟩
        rw [he0] at h3
        simpa [Addr.add] using cell_spot h3
      refine ⟨some a, cap, a.block, a.off, by simp [hl1], by simpa [hl1] using hle, by unfold capMax; unfold maxLen at hcap; omega, ?_, ?_, prepE_mk fun i e he => ?_⟩
      · rw [List.length_map]; unfold maxEls; omega
      · by_cases hne : l = []
        · left; simp [hne]
        · right
          have := (hspot hne).1
          cases a; simp_all
      · rw [List.getElem?_map] at he
        cases hy : l[i]? with
        | none => rw [hy] at he; cases he
        | some y =>
          rw [hy] at he
          simp only [Option.map_some, Option.some.injEq] at he
          subst he
          obtain ⟨_, ecs, h1, h2⟩ := hat i y hy
          obtain ⟨_, g1, g2⟩ := World.cells?_some h1
          obtain ⟨hsp, hbl⟩ := hspot (by intro e; rw [e] at hy; simp at hy)
          refine ⟨hc y, prepC_mk fun j x hx => ?_⟩
          obtain ⟨v, k1, k2⟩ := prepL_get h2.1 hx
          have hj : j < sz := by rw [← hc y]; exact (List.getElem?_eq_some_iff.1 hx).1
          have h3 := g2 j hj
          rw [k1, addr_add hsp, addr_add rfl] at h3
          refine ⟨v, ?_, hbl, h2.2 v (List.mem_of_getElem? k1), k2⟩
          rw [Nat.zero_add, ← Nat.add_assoc]
          exact h3
theorem split2 {α : Type} {cs : List α} {a b : Nat} (h : cs.length = a + b) : cs = (cs.drop 0).take a ++ (cs.drop a).take b := by
  rw [List.drop_zero, List.take_of_length_le (l := cs.drop a) (by simp; omega), List.take_append_drop]
theorem split3 {α : Type} {cs : List α} {a b c : Nat} (h : cs.length = a + b + c) : cs = (cs.drop 0).take a ++ ((cs.drop a).take b ++ (cs.drop (a + b)).take c) := by
  have h1 : cs.drop a = (cs.drop a).take b ++ (cs.drop (a + b)).take c := by
    rw [List.take_of_length_le (l := cs.drop (a + b)) (by simp; omega), ← List.drop_drop, List.take_append_drop]
  rw [← h1, List.drop_zero, List.take_append_drop]
theorem tbs_sumB (l : List Term) : sumB tb l = tbs l := by
  induction l with
  | nil => rfl
  | cons a l ih => simp only [sumB, tbs, tb.tbs, ih]
theorem sum_one : ∀ l : List Int, sumB (fun _ : Int => 1) l = l.length
  | [] => rfl
  | a :: l => by simp only [sumB, List.length_cons, sum_one l]; omega
theorem sum_rbs : ∀ l : List ARule, sumB (fun x : ARule => 1 + tb x.left + tb x.right) l = rbs l
  | [] => rfl
  | a :: l => by simp only [sumB, rbs, sum_rbs l]
theorem sum_bbs : ∀ l : List ABind, sumB (fun b : ABind => 1 + b.name.length + tb b.term) l = bbs l
  | [] => rfl
  | a :: l => by simp only [sumB, bbs, sum_bbs l]
theorem sum_mem {α : Type} {b : α → Nat} {l : List α} {a : α} (h : a ∈ l) : b a ≤ sumB b l := by
  induction l with
  | nil => cases h
  | cons x l ih =>
    simp only [sumB]
    rcases List.mem_cons.1 h with rfl | h
    · omega
    · have := ih h; omega
theorem sum_steps : ∀ l : List AStep, l.length ≤ sumB (fun s : AStep => s.pos.length + 1) l
  | [] => by simp [sumB]
  | a :: l => by have := sum_steps l; simp only [sumB, List.length_cons]; omega
theorem c9 : prog.cellsOf 9 = 1 := by kernel_rfl
theorem c4 : prog.cellsOf 4 = 1 := by kernel_rfl
theorem c3 : prog.cellsOf 3 = 1 := by kernel_rfl
theorem c23 : prog.cellsOf 23 = 1 := by kernel_rfl
theorem c26 : prog.cellsOf 26 = 1 := by kernel_rfl
theorem c29 : prog.cellsOf 29 = 1 := by kernel_rfl
theorem c30 : prog.cellsOf 30 = 1 := by kernel_rfl
theorem c25 : prog.cellsOf 25 = 1 + 1 + 1 := by kernel_rfl
theorem c122 : prog.cellsOf 122 = 3 + 3 := by kernel_rfl
theorem c133 : prog.cellsOf 133 = 1 + 3 := by kernel_rfl
theorem c82 : prog.cellsOf 82 = 1 + 1 := by kernel_rfl
theorem c28 : prog.cellsOf 28 = 3 + 1 := by kernel_rfl
theorem c32 : prog.cellsOf 32 = 4 + 1 + 1 := by kernel_rfl
theorem c27 : prog.cellsOf 27 = 3 + 1 := by kernel_rfl
theorem br_term : ∀ n, Br enc W n 25 cT tb
  | 0 => by intro cs x h; simp [DataW.trod] at h
  | n + 1 => by
    intro cs x h hbk
    obtain ⟨xs, m, hm, rfl, hl, hlen, hf⟩ := DataW.trod_struct (P := prog) Go.Proofs.Tryz.underlying25 h
    obtain rfl : n = m := by omega
    rw [c25] at hl
    match xs, hlen with
    | [x0, x1, x2], _ =>
    have f0 : trd enc W n 9 ((cs.drop 0).take (prog.cellsOf 9)) = some x0 := hf 0 _ rfl
    have f1 : trd enc W n 4 ((cs.drop 1).take (prog.cellsOf 4)) = some x1 := hf 1 _ rfl
    have f2 : trd enc W n 23 ((cs.drop 2).take (prog.cellsOf 23)) = some x2 := hf 2 _ rfl
    rw [c9] at f0; rw [c4] at f1; rw [c23] at f2
    simp only [List.map_cons, List.map_nil, Rows.uptoBulk, Rows.uptoBulkAll] at hbk ⊢
    obtain ⟨s, b0, d0⟩ := br_str _ _ f0 (by omega)
    obtain ⟨v, b1, d1⟩ := br_bool _ _ f1 (by omega)
    obtain ⟨l, b2, d2⟩ := br_slice (n := n) (sz := 3) (c := cT) (b := tb) Go.Proofs.Tryz.underlying23 c25 (by omega) (fun _ => rfl) (fun m hm => br_term m) _ _ f2 (by omega)
    try dsimp only at b0
    try dsimp only at b1
    try dsimp only at b2
    refine ⟨.mk s v l, ?_, ?_⟩
    · rw [tbs_sumB] at b2
      simp only [tb]
      simp only [tbs] at b2
      omega
    · rw [split3 hl, cT_eq]
      exact d0.app (d1.app d2)
theorem br_rule : ∀ n, Br enc W n 122 cR (fun x => 1 + tb x.left + tb x.right)
  | 0 => by intro cs x h; simp [DataW.trod] at h
  | n + 1 => by
    intro cs x h hbk
    obtain ⟨xs, m, hm, rfl, hl, hlen, hf⟩ := DataW.trod_struct (P := prog) Go.Proofs.Tryz.underlying122 h
    obtain rfl : n = m := by omega
    rw [c122] at hl
    match xs, hlen with
    | [x0, x1], _ =>
    have f0 : trd enc W n 25 ((cs.drop 0).take (prog.cellsOf 25)) = some x0 := hf 0 _ rfl
    have f1 : trd enc W n 25 ((cs.drop 3).take (prog.cellsOf 25)) = some x1 := hf 1 _ rfl
    rw [c25] at f0 f1
    simp only [List.map_cons, List.map_nil, Rows.uptoBulk, Rows.uptoBulkAll] at hbk ⊢
    obtain ⟨s, b0, d0⟩ := br_term n _ _ f0 (by omega)
    obtain ⟨v, b1, d1⟩ := br_term n _ _ f1 (by omega)
    try dsimp only at b0
    try dsimp only at b1
    refine ⟨⟨s, v⟩, by dsimp only; omega, ?_⟩
    rw [split2 hl]
    exact d0.app d1
theorem br_bind : ∀ n, Br enc W n 133 cB (fun b => 1 + b.name.length + tb b.term)
  | 0 => by intro cs x h; simp [DataW.trod] at h
  | n + 1 => by
    intro cs x h hbk
    obtain ⟨xs, m, hm, rfl, hl, hlen, hf⟩ := DataW.trod_struct (P := prog) Go.Proofs.Tryz.underlying133 h
    obtain rfl : n = m := by omega
    rw [c133] at hl
    match xs, hlen with
    | [x0, x1], _ =>
    have f0 : trd enc W n 9 ((cs.drop 0).take (prog.cellsOf 9)) = some x0 := hf 0 _ rfl
    have f1 : trd enc W n 25 ((cs.drop 1).take (prog.cellsOf 25)) = some x1 := hf 1 _ rfl
    rw [c9] at f0; rw [c25] at f1
    simp only [List.map_cons, List.map_nil, Rows.uptoBulk, Rows.uptoBulkAll] at hbk ⊢
    obtain ⟨s, b0, d0⟩ := br_str _ _ f0 (by omega)
    obtain ⟨v, b1, d1⟩ := br_term n _ _ f1 (by omega)
    try dsimp only at b0
    try dsimp only at b1
    refine ⟨⟨s, v⟩, by dsimp only; omega, ?_⟩
    rw [split2 hl]
    exact d0.app d1
theorem br_ints {n : Nat} : Br enc W n 29 (fun p : List Int => [encP p]) (fun p => p.length + 1) := by
  intro cs x h hbk
  obtain ⟨l, b0, d0⟩ := br_slice (n := n) (sz := 1) (c := cI) (b := fun _ => 1) Go.Proofs.Tryz.underlying29 c3 (by omega) (fun _ => rfl) (fun m hm => br_int) _ _ h hbk
  refine ⟨l, ?_, d0⟩
  have := sum_one l
  dsimp only at b0 ⊢
  omega
theorem br_step : ∀ n, Br enc W n 82 cSt (fun s => s.pos.length + 1)
  | 0 => by intro cs x h; simp [DataW.trod] at h
  | n + 1 => by
    intro cs x h hbk
    obtain ⟨xs, m, hm, rfl, hl, hlen, hf⟩ := DataW.trod_struct (P := prog) Go.Proofs.Tryz.underlying82 h
    obtain rfl : n = m := by omega
    rw [c82] at hl
    match xs, hlen with
    | [x0, x1], _ =>
    have f0 : trd enc W n 3 ((cs.drop 0).take (prog.cellsOf 3)) = some x0 := hf 0 _ rfl
    have f1 : trd enc W n 29 ((cs.drop 1).take (prog.cellsOf 29)) = some x1 := hf 1 _ rfl
    rw [c3] at f0; rw [c29] at f1
    simp only [List.map_cons, List.map_nil, Rows.uptoBulk, Rows.uptoBulkAll] at hbk ⊢
    obtain ⟨s, b0, d0⟩ := br_int _ _ f0 (by omega)
    obtain ⟨v, b1, d1⟩ := br_ints _ _ f1 (by omega)
    try dsimp only at b0
    try dsimp only at b1
    refine ⟨⟨s, v⟩, by dsimp only; omega, ?_⟩
    rw [split2 hl]
    exact d0.app d1
theorem br_chain : ∀ n, Br enc W n 28 cC (fun c => tb c.start + sumB (fun s : AStep => s.pos.length + 1) c.steps)
  | 0 => by intro cs x h; simp [DataW.trod] at h
  | n + 1 => by
    intro cs x h hbk
    obtain ⟨xs, m, hm, rfl, hl, hlen, hf⟩ := DataW.trod_struct (P := prog) Go.Proofs.Tryz.underlying28 h
    obtain rfl : n = m := by omega
    rw [c28] at hl
    match xs, hlen with
    | [x0, x1], _ =>
    have f0 : trd enc W n 25 ((cs.drop 0).take (prog.cellsOf 25)) = some x0 := hf 0 _ rfl
    have f1 : trd enc W n 26 ((cs.drop 3).take (prog.cellsOf 26)) = some x1 := hf 1 _ rfl
    rw [c25] at f0; rw [c26] at f1
    simp only [List.map_cons, List.map_nil, Rows.uptoBulk, Rows.uptoBulkAll] at hbk ⊢
    obtain ⟨s, b0, d0⟩ := br_term n _ _ f0 (by omega)
    obtain ⟨l, b1, d1⟩ := br_slice (n := n) (sz := 2) (c := cSt) (b := fun s : AStep => s.pos.length + 1) Go.Proofs.Tryz.underlying26 c82 (by omega) (fun _ => rfl) (fun m hm => br_step m) _ _ f1 (by omega)
    try dsimp only at b0
    try dsimp only at b1
    refine ⟨⟨s, l⟩, by dsimp only; omega, ?_⟩
    rw [split2 hl]
    exact d0.app d1
theorem br_loop : ∀ n, Br enc W n 32 cL (fun l => tb l.chain.start + sumB (fun s : AStep => s.pos.length + 1) l.chain.steps + l.pos.length + sumB (fun b : ABind => 1 + b.name.length + tb b.term) l.subst)
  | 0 => by intro cs x h; simp [DataW.trod] at h
  | n + 1 => by
    intro cs x h hbk
    obtain ⟨xs, m, hm, rfl, hl, hlen, hf⟩ := DataW.trod_struct (P := prog) Go.Proofs.Tryz.underlying32 h
    obtain rfl : n = m := by omega
    rw [c32] at hl
    match xs, hlen with
    | [x0, x1, x2], _ =>
    have f0 : trd enc W n 28 ((cs.drop 0).take (prog.cellsOf 28)) = some x0 := hf 0 _ rfl
    have f1 : trd enc W n 29 ((cs.drop 4).take (prog.cellsOf 29)) = some x1 := hf 1 _ rfl
    have f2 : trd enc W n 30 ((cs.drop 5).take (prog.cellsOf 30)) = some x2 := hf 2 _ rfl
    rw [c28] at f0; rw [c29] at f1; rw [c30] at f2
    simp only [List.map_cons, List.map_nil, Rows.uptoBulk, Rows.uptoBulkAll] at hbk ⊢
    obtain ⟨c, b0, d0⟩ := br_chain n _ _ f0 (by omega)
    obtain ⟨p, b1, d1⟩ := br_ints _ _ f1 (by omega)
    obtain ⟨l, b2, d2⟩ := br_slice (n := n) (sz := 4) (c := cB) (b := fun b : ABind => 1 + b.name.length + tb b.term) Go.Proofs.Tryz.underlying30 c133 (by omega) (fun _ => rfl) (fun m hm => br_bind m) _ _ f2 (by omega)
    try dsimp only at b0
    try dsimp only at b1
    try dsimp only at b2
    refine ⟨⟨c, p, l⟩, by dsimp only; omega, ?_⟩
    rw [split3 hl]
    exact d0.app (d1.app d2)
theorem br_rules {n : Nat} : Br enc W n 22 (fun r : List ARule => [encRs r]) (fun r => rbs r) := by
  intro cs x h hbk
  obtain ⟨l, b0, d0⟩ := br_slice (n := n) (sz := 6) (c := cR) (b := fun x => 1 + tb x.left + tb x.right) Go.Proofs.Tryz.underlying22 c122 (by omega) (fun _ => rfl) (fun m hm => br_rule m) _ _ h hbk
  refine ⟨l, ?_, d0⟩
  have : sumB (fun x : ARule => 1 + tb x.left + tb x.right) l = rbs l := sum_rbs l
  dsimp only at b0 ⊢
  omega
end
end Go.Dw
