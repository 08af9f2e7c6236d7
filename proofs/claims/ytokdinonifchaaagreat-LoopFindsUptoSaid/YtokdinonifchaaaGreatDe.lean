/-
  The reader of the printed functions, last part; the reading of a closed call.
-/
import Derived.Test.YtokdinonifchaaaGreatDd
section
set_option linter.unusedVariables false
set_option linter.unusedSimpArgs false
namespace Go.Dw

def okRV (P : Program) : List ResultVar → List RV → Bool
  | [], [] => true
  | .tmp n :: l, .t n' :: r => n == n' && okRV P l r
  | .cell n ty :: l, .c n' :: r => n == n' && plainB P ty && okRV P l r
  | .cell n ty :: l, .a n' k :: r => n == n' && aggB P ty && sizeB P ty k && okRV P l r
  | _, _ => false

/-- What a result variable gives, as 'results' reads it. -/
def resM (tmps : Array Value) : ResultVar → Sem Value
  | .tmp t => pure (tmps.getD t undef)
  | .cell a t => do loadVar t (← asAddr (tmps.getD a undef))

theorem run_mapM_list {P : Program} {α : Type} (f : α → Sem Value) (w : World) : ∀ (l : List α) (vs : List Value), l.length = vs.length → (∀ (i : Nat) (x : α) (v : Value), l[i]? = some x → vs[i]? = some v → (f x).run P w = .ok v w) → (l.mapM f).run P w = .ok vs w
  | [], [], _, _ => by simp
  | x :: l, v :: vs, hl, h => by
    have h1 := h 0 x v rfl rfl
    have h2 := run_mapM_list f w l vs (by simpa using hl) fun i x v hx hv => h (i + 1) x v (by simpa using hx) (by simpa using hv)
    simp [List.mapM_cons, h1, h2]
  | [], _ :: _, hl, _ => by simp at hl
  | _ :: _, [], hl, _ => by simp at hl

section
variable {P : Program} {c0 : Cx} {N : Nat} {D : List Deferred} {t : T} {H : List Ob} {a : Act} {w : World}

theorem rv_sound {c : Cx} (h3 : c.w = w) (h4 : c.H = H) (h5 : Conc c) (h7 : TRep N c t a) : ∀ {l : List ResultVar} {rs : List RV} {xs : List V}, okRV P l rs = true → rvs t H rs = some xs →
    ∃ vs : List Value, l.length = vs.length ∧ repL c xs vs ∧ ∀ (i : Nat) (x : ResultVar) (v : Value), l[i]? = some x → vs[i]? = some v → (resM a.tmps x).run P w = .ok v w
  | [], [], xs, _, h => by
    simp only [rvs, Option.some.injEq] at h
    subst h
    exact ⟨[], rfl, rfl, by simp⟩
  | [], _ :: _, _, h, _ => by simp [okRV] at h
  | r :: l, [], _, h, _ => by cases r <;> simp [okRV] at h
  | r :: l, y :: rs, xs, hk, h => by
    simp only [rvs] at h
    split at h
    case h_2 => cases h
    rename_i x xs' hx hxs
    cases h
    have key : okRV P l rs = true ∧ ∃ v, (resM a.tmps r).run P w = .ok v w ∧ rep c x v := by
      subst h3; subst h4
      cases r <;> cases y <;> simp only [okRV, Bool.false_eq_true, Bool.and_eq_true, beq_iff_eq] at hk
      case tmp.t n n' =>
        obtain ⟨rfl, hk⟩ := hk
        simp only [rvV, Option.some.injEq] at hx
        subst hx
        exact ⟨hk, _, by simp [resM], lk_rep h7 n⟩
      case cell.c n ty n' =>
        obtain ⟨⟨rfl, hp⟩, hk⟩ := hk
        simp only [rvV] at hx
        obtain ⟨b, off, u, q1, q2, q3⟩ := ldV_some h5 hx (lk_rep h7 n)
        refine ⟨hk, u, ?_, q3⟩
        simp only [resM, q1]
        simp [asAddr, run_loadVar_one hp q2]
      case cell.a n ty n' k =>
        obtain ⟨⟨⟨rfl, hp⟩, hz⟩, hk⟩ := hk
        simp only [rvV] at hx
        obtain ⟨b, off, vs, q1, q2, q3, q4⟩ := laV_some h5 hx (lk_rep h7 n)
        refine ⟨hk, _, ?_, q4⟩
        simp only [resM, q1]
        simp [asAddr, run_loadVar_agg hp hz q2 q3]
    obtain ⟨hk, v, hv, hr⟩ := key
    obtain ⟨vs, q1, q2, q3⟩ := rv_sound h3 h4 h5 h7 hk hxs
    refine ⟨v :: vs, by simp [q1], ⟨v, vs, rfl, hr, q2⟩, fun i x' v' h1 h2 => ?_⟩
    cases i with
    | zero => simp at h1 h2; subst h1; subst h2; exact hv
    | succ i => exact q3 i x' v' (by simpa using h1) (by simpa using h2)

theorem results_resM (fn : Func) (tmps : Array Value) : results fn tmps = (do let vs ← fn.results.mapM (resM tmps); pure (if h : vs.size = 1 then vs[0] else .tuple vs)) := by
  unfold results
  congr 1

theorem retV_sound {fn : Func} {rs : List RV} {x : V} {c : Cx} (h3 : c.w = w) (h4 : c.H = H) (h5 : Conc c) (h7 : TRep N c t a) (hk : okRV P fn.results.toList rs = true) (h : retV rs t H = some x) :
    ∃ v, (results fn a.tmps).run P w = .ok v w ∧ rep c x v := by
  unfold retV at h
  have hrun : ∀ vs : List Value, (fn.results.toList.mapM (resM a.tmps)).run P w = .ok vs w → (fn.results.mapM (resM a.tmps)).run P w = .ok vs.toArray w := by
    intro vs hv
    rw [Array.mapM_eq_mapM_toList]
    simp [hv]
  split at h
  · rename_i x' hx
    cases h
    obtain ⟨vs, q1, q2, q3⟩ := rv_sound h3 h4 h5 h7 hk hx
    obtain ⟨v, vs', rfl, r1, r2⟩ := q2
    cases r2
    refine ⟨v, ?_, r1⟩
    rw [results_resM]
    simp [hrun _ (run_mapM_list _ w _ _ q1 q3)]
  · rename_i xs hne hx
    cases h
    obtain ⟨vs, q1, q2, q3⟩ := rv_sound h3 h4 h5 h7 hk hx
    refine ⟨.tuple vs.toArray, ?_, ⟨vs.toArray, rfl, q2⟩⟩
    rw [results_resM]
    have hl : vs.length ≠ 1 := by
      intro e
      have := repL_length q2
      match xs, this with
      | [y], _ => exact hne y rfl
      | [], h => simp [e] at h
      | _ :: _ :: _, h => simp [e] at h
    simp [hrun _ (run_mapM_list _ w _ _ q1 q3), hl]
  · cases h
end

/-! ### Entering and leaving -/

/-- The arguments lie in the first slots. -/
def ini : Nat → List V → T
  | _, [] => []
  | k, x :: xs => (k, x) :: ini (k + 1) xs

theorem ini_find : ∀ {xs : List V} {k s : Nat} {x : V}, find (ini k xs) s = some x → k ≤ s ∧ xs[s - k]? = some x
  | [], _, _, _, h => by simp [ini, find] at h
  | y :: ys, k, s, x, h => by
    simp only [ini, find] at h
    by_cases e : k = s
    · subst e; rw [if_pos rfl] at h; cases h
      exact ⟨Nat.le_refl _, by simp⟩
    · rw [if_neg e] at h
      obtain ⟨h1, h2⟩ := ini_find h
      refine ⟨by omega, ?_⟩
      have : s - k = (s - (k + 1)) + 1 := by omega
      rw [this]
      simpa using h2

theorem repL_lt {c : Cx} {xs : List V} {vs : List Value} (h : repL c xs vs) {i : Nat} {x : V} (hx : xs[i]? = some x) : ∃ v, vs[i]? = some v ∧ rep c x v := repL_get h hx

theorem fr_give {c c' : Cx} (hf : Fr c c') {ex : List Nat} (hex : ∀ i ∈ ex, i < c'.H.length) : Fr c (c'.give (List.range c.H.length ++ ex)) := by
  refine ⟨hf.okS, hf.cell, hf.size, hf.okN, hf.heap, fun b hb => ?_, fun i o hi => ?_, hf.os, hf.tape, hf.output⟩
  · obtain ⟨k, m, hk, hr⟩ := hb
    have hk := give_lt hk
    have e1 := List.getElem?_eq_getElem hk
    simp only [Cx.give, e1] at hr
    refine hf.own b ⟨_, m, ?_, hr⟩
    rcases List.mem_append.1 (List.getElem_mem hk) with h | h
    · have := hf.ext.lt (List.mem_range.1 h)
      exact this
    · exact hex _ h
  · have hlt := (List.getElem?_eq_some_iff.1 hi).1
    obtain ⟨o', q1, q2⟩ := hf.ext i o hi
    have e1 : (List.range c.H.length ++ ex)[i]? = some i := by
      rw [List.getElem?_append_left (by simpa using hlt)]
      simp [hlt]
    refine ⟨_, by simp only [Cx.give, give_get, e1, Option.map_some, getD_get q1]; rfl, ?_⟩
    simp only [Cx.give, e1]
    cases o <;> cases o' <;> simp only [ExtOb, renOb, List.length_map] at q2 ⊢ <;> exact q2

/-- What the kernel sees of a function. -/
def okF (P : Program) (f : Nat) (nd : Nat → C) (c : C) (n : Nat) (rs : List RV) : Bool := match P.funcs[f]? with
  | some fn => fn.name != "runtime.NumGoroutine" && decide (n ≤ fn.ntmps) && okRV P fn.results.toList rs && (match fn.body with | some b => okK P fn.ntmps nd true 1000 b c | none => false)
  | none => false

/-- The marks among the deferred calls hand over nothing. -/
theorem marks_steps {P : Program} {c0 : Cx} : ∀ (D : List Deferred) (c : Cx) (fr : Frame) (cs : List Frame), Conc c → FrD c0 D c → fr.mode = .returning → fr.defers = D →
    ∃ c', Steps P (lone fr cs c.w) (lone { fr with defers := [] } cs c'.w) ∧ Conc c' ∧ Fr c0 c' ∧ c'.H = c.H ∧ ∀ x v, rep c x v → rep c' x v
  | [], c, fr, cs, hc, hf, hm, hd => ⟨c, by rw [show { fr with defers := [] } = fr by cases fr; simp_all]; exact .refl _ _, hc, hf.fr, rfl, fun _ _ h => h⟩
  | d :: D, c, fr, cs, hc, hf, hm, hd => by
    obtain ⟨b, rfl, p2, p3, p4, p5⟩ := hf.marks d (by simp)
    have hlt := (Array.getElem?_eq_some_iff.1 p3).1
    have hstep := step_collected (P := P) (fr := fr) (cs := cs) (w := c.w) (d := markOf b) (r := b) (ds := D) (by rw [hm]; simp) hd rfl (run_takeDeferred p3)
    let c1 : Cx := ⟨c.w.putObj b (.deferred none), c.ok, c.ρ, c.H⟩
    have hcell : ∀ b' o, c.ok b' o → c1.w.cell? ⟨b', o, none⟩ = c.w.cell? ⟨b', o, none⟩ := fun b' o h => by
      have hne : b' ≠ b := by intro e; subst e; exact p5 _ h
      simp only [c1, World.cell?, World.putObj_heap_other hne]
    have hext : Ext c c1 := fun i o h => ⟨o, h, by cases o <;> simp [ExtOb, c1]⟩
    have hrep : ∀ x v, rep c x v → rep c1 x v := rep_mono_all hcell (fun _ _ h => h) hext
    have hother : ∀ i b' k, i < c.H.length → c.ρ i = some (b', k) → c1.w.heap[b']? = c.w.heap[b']? := fun i b' k hi hr => by
      have hne : b' ≠ b := by intro e; subst e; exact p4 ⟨i, k, hi, hr⟩
      simp only [c1, World.putObj_heap_other hne]
    have hc1 : Conc c1 := by
      refine ⟨hc.inj, fun b' o h => by simpa [c1] using hc.okLt b' o h, fun i o hi => ?_⟩
      have hil := (List.getElem?_eq_some_iff.1 hi).1
      have h := hc.obj i o hi
      cases o with
      | cells e cs =>
        obtain ⟨b, vs, q1, q2, q3, q4, q5⟩ := h
        exact ⟨b, vs, q1, (hother i b 0 hil q1).trans q2, q3, q4, fun i x hx => (q5 i x hx).imp fun v hv => ⟨hv.1, hv.2.1, hrep _ _ hv.2.2⟩⟩
      | arr e sz n =>
        refine ⟨h.1, fun b k hr => ?_⟩
        obtain ⟨vs, q1, q2⟩ := h.2 b k hr
        exact ⟨vs, (hother i b k hil hr).trans q1, q2⟩
      | map es =>
        obtain ⟨b, ents, q1, q2, q3, q4⟩ := h
        exact ⟨b, ents, q1, (hother i b 0 hil q1).trans q2, q3, q4.mono hrep⟩
      | iter m n seen =>
        obtain ⟨b, bm, q1, q2, q3, q4⟩ := h
        exact ⟨b, bm, q1, (hother i b bm hil q1).trans q2, q3, q4.mono hext⟩
      | dead => exact h
      | row e sz els =>
        refine ⟨h.1, fun b k hr => ?_⟩
        obtain ⟨vs, q1, q2, q3, q4, q5, q6⟩ := h.2 b k hr
        exact ⟨vs, (hother i b k hil hr).trans q1, q2, q3, q4, q5, q6.mono hrep⟩
      | lp l st r ts =>
        obtain ⟨q1, q2, q3, q4⟩ := h
        exact ⟨q1, (hother i l 0 hil q1).trans q2, q3, q4.mono hrep⟩
    have hnd := List.nodup_cons.1 hf.nodup
    have hf1 : FrD c0 D c1 := by
      have h := hf.fr
      refine ⟨⟨h.okS, fun b' o hb => (hcell b' o (h.okS _ _ hb)).trans (h.cell b' o hb), by simpa [c1] using h.size, h.okN, fun b' hb' hno => ?_, h.own, h.ext.trans hext, h.os, h.tape, h.output⟩, fun d' hd' => ?_, hnd.2⟩
      · have hne : b' ≠ b := by omega
        simp only [c1, World.putObj_heap_other hne]
        exact h.heap b' hb' hno
      · obtain ⟨b', rfl, r2, r3, r4, r5⟩ := hf.marks d' (by simp [hd'])
        have hne : b' ≠ b := by intro e; subst e; exact hnd.1 hd'
        exact ⟨b', rfl, r2, by simp only [c1, World.putObj_heap_other hne]; exact r3, r4, r5⟩
    obtain ⟨c', s1, s2, s3, s4, s5⟩ := marks_steps D c1 { fr with defers := [] ++ D } cs hc1 hf1 hm rfl
    exact ⟨c', .head hstep s1, s2, s3, s4, fun x v h => s5 _ _ (hrep _ _ h)⟩

theorem spece_of_run {P : Program} {f : Nat} {nd : Nat → C} {c : C} {n : Nat} {rs : List RV} (hm : P.follows .mixedOrders = true) (hok : okF P f nd c n rs = true) {args : List V} {H : List Ob} {Q : V → List Ob → Prop} (hn : args.length = n)
    (hrun : Run P nd H.length [.c c] (ini 0 args) H (Ends H.length rs Q)) : SpecE P f args H Q := by
  intro cx vs hH hc hr
  subst hH
  unfold okF at hok
  split at hok
  case h_2 => cases hok
  rename_i fn hfn
  simp only [Bool.and_eq_true, bne_iff_ne, ne_eq, decide_eq_true_eq] at hok
  obtain ⟨⟨⟨h1, h2⟩, h3⟩, h4⟩ := hok
  split at h4
  case h_2 => cases h4
  rename_i body hb
  have hlen : vs.length = args.length := (repL_length hr).symm
  refine ⟨by simp [callFunc, hfn, h1, hb], fun cs => ?_⟩
  let b : Frame := { (default : Frame) with fn := f, kind := .normal }
  let a0 : Act := { tmps := vs.toArray ++ Array.replicate (fn.ntmps - vs.toArray.size) undef, defers := [] }
  have hro : b.roundOf = none := rfl
  have henter : Frame.enter P f vs.toArray .normal = b.atR a0 [.code body] := by rw [Frame.atR_of_none hro]; simp [Frame.enter, Frame.at, hfn, hb, b, a0]
  have hs : Sm cx fn.ntmps [] (ini 0 args) cx.H a0 cx.w := by
    refine ⟨by simp [a0]; omega, rfl, cx, rfl, rfl, hc, ⟨.refl cx, fun d hd => (by cases hd), List.nodup_nil⟩, fun s x hx => ?_⟩
    obtain ⟨_, hx⟩ := ini_find hx
    simp only [Nat.sub_zero] at hx
    have hlt := (List.getElem?_eq_some_iff.1 hx).1
    obtain ⟨v, q1, q2⟩ := repL_get hr hx
    refine ⟨by omega, ?_⟩
    have : a0.tmps.getD s undef = v := by
      have hlt2 := (List.getElem?_eq_some_iff.1 q1).1
      simp only [a0, Array.getD_eq_getD_getElem?]
      rw [Array.getElem?_append_left (by simpa using hlt2)]
      simp [q1]
    rw [this]; exact q2
  have hcon := Con.of_mo (run_mo (N := fn.ntmps) hm hrun none)
  obtain ⟨D', e, t', H', a', w', ⟨he, hends⟩, ⟨s1, s2, c', s3, s4, s5, s6, s7⟩, hfin⟩ := hcon cx [] a0 cx.w [.code body] (Nat.le_refl _) (by simp only [okT]; exact ⟨⟨1000, h4⟩, trivial⟩) hs b cs hro
  subst s3; subst s4
  have hsteps : ∃ fr, Steps P (lone (Frame.enter P f vs.toArray .normal) cs cx.w) (lone fr cs c'.w) ∧ fr.fn = f ∧ fr.mode = .returning ∧ fr.defers = D' ∧ fr.kind = .normal ∧ fr.tmps = a'.tmps := by
    rw [henter]
    rcases he with rfl | rfl
    · obtain ⟨todo, hst⟩ := hfin
      exact ⟨_, hst.trans (.one (stepR_ret hro)), rfl, rfl, s2, rfl, rfl⟩
    · exact ⟨_, Steps.trans hfin (.one (stepR_end hro)), rfl, rfl, s2, rfl, rfl⟩
  obtain ⟨fr, e1, e2, e3, e4, e5, e6⟩ := hsteps
  obtain ⟨c2, m1, m2, m3, m4, m5⟩ := marks_steps (P := P) D' c' fr cs s5 s6 e3 e4
  have s7' : TRep fn.ntmps c2 t' a' := fun s x hx => ⟨(s7 s x hx).1, m5 _ _ (s7 s x hx).2⟩
  rw [← m4] at hends
  rcases hends with ⟨x, hx, hQ⟩ | ⟨ex, x, hnd, hex, hx, hQ⟩
  · obtain ⟨v, hv, hrep⟩ := retV_sound (P := P) (fn := fn) rfl rfl m2 s7' h3 hx
    exact ⟨.returned v, c2.w, { fr with defers := [] }, ⟨v, _, c2, rfl, rfl, hQ, m2, hrep, m3⟩, e1.trans m1, e2, e3, rfl, e5, fn, by rw [e2]; exact hfn, by rw [e6]; exact hv⟩
  · obtain ⟨v, hv, hrep⟩ := retV_sound (P := P) (fn := fn) rfl rfl m2 s7' h3 hx
    have hlt : ∀ i ∈ List.range cx.H.length ++ ex, i < c2.H.length := fun i hi => by
      rcases List.mem_append.1 hi with h | h
      · exact m3.ext.lt (List.mem_range.1 h)
      · exact hex i h
    exact ⟨.returned v, c2.w, { fr with defers := [] }, ⟨v, _, c2.give (List.range cx.H.length ++ ex), rfl, rfl, hQ, conc_give m2 hnd hlt, rep_give hnd hlt hrep, fr_give m3 hex⟩, e1.trans m1, e2, e3, rfl, e5, fn, by rw [e2]; exact hfn, by rw [e6]; exact hv⟩

theorem spec_of_run {P : Program} {f : Nat} {nd : Nat → C} {c : C} {n : Nat} {rs : List RV} (hm : P.follows .mixedOrders = true) (hok : okF P f nd c n rs = true) {args : List V} {H : List Ob} {Q : V → List Ob → Prop} (hn : args.length = n)
    (hrun : Run P nd H.length [.c c] (ini 0 args) H (Ends H.length rs Q)) : Spec P f args H Q := (spece_of_run hm hok hn hrun).spec

end Go.Dw
end
section
set_option linter.unusedVariables false
set_option linter.unusedSimpArgs false
namespace Go.Dw

section
variable {P : Program} {N : Nat → C} {B : Nat} {s : List K} {t : T} {H : List Ob} {Q : X → T → List Ob → Prop}

theorem run_done : Run P N B [] t H Q ↔ Q .fall t H := ⟨fun h => by cases h; assumption, .done⟩
theorem run_skip : Run P N B (.c .skip :: s) t H Q ↔ Run P N B s t H Q := ⟨fun h => by cases h; assumption, .skip⟩
theorem run_seq {a b : C} : Run P N B (.c (.seq a b) :: s) t H Q ↔ Run P N B (.c a :: .c b :: s) t H Q := ⟨fun h => by cases h; assumption, .seq⟩
theorem run_reg {l : List S} : Run P N B (.c (.reg l) :: s) t H Q ↔ Run P N B (.r l :: s) t H Q := ⟨fun h => by cases h; assumption, .reg⟩
theorem run_dr {π : List Nat} {l : List S} : Run P N B (.c (.dr π l) :: s) t H Q ↔ Run P N B (.r l :: s) t H Q := ⟨fun h => by cases h; assumption, .dr⟩
theorem run_gh {l : List I} {c : C} : Run P N B (.c (.gh l c) :: s) t H Q ↔ Run P N B (.r (l.map .op) :: .c c :: s) t H Q := ⟨fun h => by cases h; assumption, .gh⟩
theorem run_rend : Run P N B (.r [] :: s) t H Q ↔ Run P N B s t H Q := ⟨fun h => by cases h; assumption, .rend⟩
theorem run_blk {id : Nat} {a : C} : Run P N B (.c (.blk id a) :: s) t H Q ↔ Run P N B (.c a :: .mk id :: s) t H Q := ⟨fun h => by cases h; assumption, .blk⟩
theorem run_mk {id : Nat} : Run P N B (.mk id :: s) t H Q ↔ Run P N B s t H Q := ⟨fun h => by cases h; assumption, .mk⟩
theorem run_loop {a : C} : Run P N B (.c (.loop a) :: s) t H Q ↔ Run P N B (.c a :: .c (.loop a) :: s) t H Q := ⟨fun h => by cases h; assumption, .loop⟩
theorem run_ret : Run P N B (.c .ret :: s) t H Q ↔ Q .ret t H := ⟨fun h => by cases h; assumption, .ret⟩
theorem run_m {k : Nat} : Run P N B (.c (.m k) :: s) t H Q ↔ Run P N B (.c (N k) :: s) t H Q := ⟨fun h => by cases h; assumption, .m⟩
theorem run_bad : Run P N B (.c .bad :: s) t H Q ↔ False := ⟨fun h => (by cases h), False.elim⟩
/- The continuations are no functions: rewriting would run them ahead of time, with nothing known. -/
def nlP (P : Program) (N : Nat → C) (B : Nat) (l : List S) (s : List K) (t : T) (H : List Ob) (Q : X → T → List Ob → Prop) (d : Nat) (ne : Bool) : Option (List (List V)) → Prop
  | some els => ∀ c : Bool, (c = true → els = []) → Run P N B (.r l :: s) ((d, .bool (c != ne)) :: t) H Q
  | none => False
theorem nlP_some {els : List (List V)} {d : Nat} {ne : Bool} {l : List S} : nlP P N B l s t H Q d ne (some els) = ∀ c : Bool, (c = true → els = []) → Run P N B (.r l :: s) ((d, .bool (c != ne)) :: t) H Q := rfl
theorem run_nl {d : Nat} {ne : Bool} {x : O} {l : List S} : Run P N B (.r (.nl d ne x :: l) :: s) t H Q ↔ nlP P N B l s t H Q d ne (elV (ev t x)) := by
  constructor
  · intro h
    cases h with
    | nl els h1 h2 => rw [h1]; exact h2
  · intro h
    cases he : elV (ev t x) with
    | none => rw [he] at h; exact h.elim
    | some els => rw [he] at h; exact .nl els he h
theorem run_n {k : Nat} : Run P N B (.c (.n k) :: s) t H Q ↔ Run P N B (.c (N k) :: s) t H Q := ⟨fun h => by cases h; assumption, .n⟩

def goP (P : Program) (N : Nat → C) (B : Nat) (id : Nat) (t : T) (H : List Ob) (Q : X → T → List Ob → Prop) : Option (List K) → Prop
  | some s => Run P N B s t H Q
  | none => Q (.exit id) t H
theorem goP_some {id : Nat} : goP P N B id t H Q (some s) = Run P N B s t H Q := rfl
theorem goP_none {id : Nat} : goP P N B id t H Q none = Q (.exit id) t H := rfl
theorem run_exit {id : Nat} : Run P N B (.c (.exit id) :: s) t H Q ↔ goP P N B id t H Q (popTo id s) := by
  constructor
  · intro h
    cases h with
    | exit s' h1 h2 => rw [h1]; exact h2
    | exitX h1 h2 => rw [h1]; exact h2
  · intro h
    cases hp : popTo id s with
    | some s' => rw [hp] at h; exact .exit s' hp h
    | none => rw [hp] at h; exact .exitX hp h

def exP (P : Program) (N : Nat → C) (B : Nat) (l : List S) (s : List K) (Q : X → T → List Ob → Prop) : Option (T × List Ob) → Prop
  | some (t, H) => Run P N B (.r l :: s) t H Q
  | none => False
theorem exP_some {l : List S} : exP P N B l s Q (some (t, H)) = Run P N B (.r l :: s) t H Q := rfl
theorem exP_none {l : List S} : exP P N B l s Q none = False := rfl
theorem exP_ite {c : Prop} [Decidable c] {o : Option (T × List Ob)} {l : List S} : exP P N B l s Q (if c then o else none) ↔ c ∧ exP P N B l s Q o := by by_cases h : c <;> simp [h, exP]
theorem run_op {i : I} {l : List S} : Run P N B (.r (.op i :: l) :: s) t H Q ↔ exP P N B l s Q (exec B i t H) := by
  constructor
  · intro h
    cases h with
    | op t' H' h1 h2 => rw [h1]; exact h2
  · intro h
    cases he : exec B i t H with
    | none => rw [he] at h; exact h.elim
    | some p => rw [he] at h; exact .op p.1 p.2 he h
/-- A temporary is set. -/
def o1P (P : Program) (N : Nat → C) (B : Nat) (l : List S) (s : List K) (Q : X → T → List Ob → Prop) (d : Nat) (t : T) (H : List Ob) : Option V → Prop
  | some v => Run P N B (.r l :: s) ((d, v) :: t) H Q
  | none => False
theorem o1P_some {l : List S} {d : Nat} {v : V} : o1P P N B l s Q d t H (some v) = Run P N B (.r l :: s) ((d, v) :: t) H Q := rfl
theorem o1P_none {l : List S} {d : Nat} : o1P P N B l s Q d t H none = False := rfl
theorem o1P_ite {l : List S} {d : Nat} {c : Prop} [Decidable c] {o : Option V} : o1P P N B l s Q d t H (if c then o else none) ↔ c ∧ o1P P N B l s Q d t H o := by by_cases h : c <;> simp [h, o1P]
theorem o1P_ite' {l : List S} {d : Nat} {c : Prop} [Decidable c] {o : Option V} : o1P P N B l s Q d t H (if c then none else o) ↔ ¬ c ∧ o1P P N B l s Q d t H o := by by_cases h : c <;> simp [h, o1P]
theorem exP_set1 {l : List S} {d : Nat} {o : Option V} : exP P N B l s Q (set1 d o t H) = o1P P N B l s Q d t H o := by cases o <;> rfl
def o2P (P : Program) (N : Nat → C) (B : Nat) (l : List S) (s : List K) (Q : X → T → List Ob → Prop) (d : Nat) (t : T) : Option (V × List Ob) → Prop
  | some p => Run P N B (.r l :: s) ((d, p.1) :: t) p.2 Q
  | none => False
theorem o2P_some {l : List S} {d : Nat} {v : V} : o2P P N B l s Q d t (some (v, H)) = Run P N B (.r l :: s) ((d, v) :: t) H Q := rfl
theorem o2P_none {l : List S} {d : Nat} : o2P P N B l s Q d t none = False := rfl
theorem o2P_ite {l : List S} {d : Nat} {c : Prop} [Decidable c] {o : Option (V × List Ob)} : o2P P N B l s Q d t (if c then o else none) ↔ c ∧ o2P P N B l s Q d t o := by by_cases h : c <;> simp [h, o2P]
theorem exP_set2 {l : List S} {d : Nat} {o : Option (V × List Ob)} : exP P N B l s Q (set2 d o t) = o2P P N B l s Q d t o := by cases o <;> rfl
def oP (o : Option V) (K : V → Prop) : Prop := match o with
  | some v => K v
  | none => False
theorem oP_some {v : V} {K : V → Prop} : oP (some v) K = K v := rfl
theorem oP_none {K : V → Prop} : oP none K = False := rfl
theorem oP_ite {c : Prop} [Decidable c] {o : Option V} {K : V → Prop} : oP (if c then o else none) K ↔ c ∧ oP o K := by by_cases h : c <;> simp [h, oP]
theorem oP_ite' {c : Prop} [Decidable c] {o : Option V} {K : V → Prop} : oP (if c then none else o) K ↔ ¬ c ∧ oP o K := by by_cases h : c <;> simp [h, oP]
def cP (P : Program) (N : Nat → C) (B : Nat) (a b : C) (s : List K) (t : T) (H : List Ob) (Q : X → T → List Ob → Prop) : V → Prop
  | .bool c => (c = true → Run P N B (.c a :: s) t H Q) ∧ (c = false → Run P N B (.c b :: s) t H Q)
  | _ => False
theorem cP_bool {a b : C} {c : Bool} : cP P N B a b s t H Q (.bool c) = ((c = true → Run P N B (.c a :: s) t H Q) ∧ (c = false → Run P N B (.c b :: s) t H Q)) := rfl
theorem run_cond {x : O} {a b : C} : Run P N B (.c (.cond x a b) :: s) t H Q ↔ cP P N B a b s t H Q (ev t x) := by
  constructor
  · intro h
    cases h with
    | cond c h1 h2 =>
      rw [h1]
      refine ⟨fun h => ?_, fun h => ?_⟩ <;> subst h <;> exact h2
  · intro h
    cases hv : ev t x with
    | bool c =>
      rw [hv] at h
      refine .cond c hv ?_
      cases c
      · exact h.2 rfl
      · exact h.1 rfl
    | _ => rw [hv] at h; exact h.elim

/-- A guarded group. -/
def gP (P : Program) (N : Nat → C) (B : Nat) (b : Bool) (ds : List Nat) (g l : List S) (s : List K) (t : T) (H : List Ob) (Q : X → T → List Ob → Prop) : V → Prop
  | .bool c => (c = b → Run P N B (.r (g ++ l) :: s) t H Q) ∧ (c ≠ b → Run P N B (.r l :: s) (ds.map (fun d => (d, V.tup [])) ++ t) H Q)
  | .tup [] => Run P N B (.r l :: s) (ds.map (fun d => (d, V.tup [])) ++ t) H Q
  | _ => False
theorem gP_bool {c b : Bool} {ds : List Nat} {g l : List S} : gP P N B b ds g l s t H Q (.bool c) = ((c = b → Run P N B (.r (g ++ l) :: s) t H Q) ∧ (c ≠ b → Run P N B (.r l :: s) (ds.map (fun d => (d, V.tup [])) ++ t) H Q)) := rfl
theorem gP_tup {b : Bool} {ds : List Nat} {g l : List S} : gP P N B b ds g l s t H Q (.tup []) = Run P N B (.r l :: s) (ds.map (fun d => (d, V.tup [])) ++ t) H Q := rfl
theorem run_gd {x : O} {b : Bool} {ds : List Nat} {g l : List S} : Run P N B (.r (.gd x b ds g :: l) :: s) t H Q ↔ gP P N B b ds g l s t H Q (ev t x) := by
  constructor
  · intro h
    cases h with
    | gd c h1 h2 =>
      rw [h1]
      refine ⟨fun h => ?_, fun h => ?_⟩
      · simpa [h] using h2
      · simpa [h] using h2
    | gdU h1 h2 => rw [h1]; exact h2
  · intro h
    have key : ∀ c, ev t x = .bool c → Run P N B (.r (.gd x b ds g :: l) :: s) t H Q := fun c hv => by
      rw [hv] at h
      refine .gd c hv ?_
      by_cases e : c = b
      · simpa [e] using h.1 e
      · simpa [e] using h.2 e
    cases hv : ev t x with
    | bool c => exact key c hv
    | tup l =>
      cases l with
      | nil => rw [hv] at h; exact .gdU hv h
      | cons y ys => rw [hv] at h; exact h.elim
    | _ => rw [hv] at h; exact h.elim

theorem run_alt0 : Run P N B (.r [.alt []] :: s) t H Q ↔ True := ⟨fun _ => trivial, fun _ => .alt fun p hp => by cases hp⟩
theorem run_alt1 {p : List Nat × List S} {ls : List (List Nat × List S)} : Run P N B (.r [.alt (p :: ls)] :: s) t H Q ↔ Run P N B (.r p.2 :: s) t H Q ∧ Run P N B (.r [.alt ls] :: s) t H Q := by
  constructor
  · intro h
    cases h with
    | alt h => exact ⟨h p (by simp), .alt fun q hq => h q (List.mem_cons_of_mem _ hq)⟩
  · rintro ⟨h1, h2⟩
    cases h2 with
    | alt h2 =>
      refine .alt fun q hq => ?_
      rcases List.mem_cons.1 hq with rfl | hq
      · exact h1
      · exact h2 q hq
def nxP (P : Program) (N : Nat → C) (B : Nat) (d : Nat) (l : List S) (s : List K) (t : T) (H : List Ob) (Q : X → T → List Ob → Prop) : V → Prop
  | .it j => ∃ i n seen es, H[j]? = some (.iter (some i) n seen) ∧ H[i]? = some (.map es) ∧ n = es.length ∧ ((∀ k, k < n → k ∈ seen) → Run P N B (.r l :: s) ((d, .tup [.bool false]) :: t) H Q) ∧
      ∀ k p, es[k]? = some p → k ∉ seen → Run P N B (.r l :: s) ((d, .tup [.bool true, p.1, p.2]) :: t) (H.set j (.iter (some i) n (seen ++ [k]))) Q
  | _ => False
theorem nxP_of {d : Nat} {l : List S} {j : Nat} (i n : Nat) (seen : List Nat) (es : List (V × V)) (h1 : H[j]? = some (.iter (some i) n seen)) (h2 : H[i]? = some (.map es)) (h3 : n = es.length)
    (h4 : (∀ k, k < n → k ∈ seen) → Run P N B (.r l :: s) ((d, .tup [.bool false]) :: t) H Q)
    (h5 : ∀ k p, es[k]? = some p → k ∉ seen → Run P N B (.r l :: s) ((d, .tup [.bool true, p.1, p.2]) :: t) (H.set j (.iter (some i) n (seen ++ [k]))) Q) : nxP P N B d l s t H Q (.it j) := ⟨i, n, seen, es, h1, h2, h3, h4, h5⟩
theorem run_nx {d : Nat} {x : O} {l : List S} : Run P N B (.r (.nx d x :: l) :: s) t H Q ↔ nxP P N B d l s t H Q (ev t x) := by
  constructor
  · intro h
    cases h with
    | nx j i n seen es h1 h2 h3 h4 h5 h6 =>
      rw [h1]
      exact ⟨i, n, seen, es, h2, h3, h4, h5, h6⟩
  · intro h
    cases hv : ev t x with
    | it j =>
      rw [hv] at h
      obtain ⟨i, n, seen, es, h1, h2, h3, h4, h5⟩ := h
      exact .nx j i n seen es hv h1 h2 h3 h4 h5
    | _ => rw [hv] at h; exact h.elim
/-- A pure call. -/
def CallP (P : Program) (N : Nat → C) (B : Nat) (d : Option Nat) (l : List S) (s : List K) (t : T) (H : List Ob) (Q : X → T → List Ob → Prop) (f : Nat) (vs : List V) : Prop :=
  ∃ x, Spec P f vs [] (fun x' H' => x' = x ∧ H' = []) ∧ Run P N B (.r l :: s) (setO d (ren (fun _ => none) x) t) H Q
theorem run_callp {d : Option Nat} {f : Nat} {args : List O} {l : List S} : Run P N B (.r (.callp d f args :: l) :: s) t H Q ↔ CallP P N B d l s t H Q f (rens (fun _ => none) (args.map (ev t))) := by
  constructor
  · intro h
    cases h with
    | callp x h1 h2 => exact ⟨x, h1, h2⟩
  · rintro ⟨x, h1, h2⟩
    exact .callp x h1 h2
def fnP (P : Program) (N : Nat → C) (B : Nat) (d : Option Nat) (args : List O) (l : List S) (s : List K) (t : T) (H : List Ob) (Q : X → T → List Ob → Prop) : V → Prop
  | .fn (.func f) fst caps => CallP P N B d l s t H Q f (rens (fun _ => none) (fst ++ args.map (ev t) ++ caps))
  | _ => False
theorem fnP_fn {d : Option Nat} {args : List O} {l : List S} {f : Nat} {fst caps : List V} : fnP P N B d args l s t H Q (.fn (.func f) fst caps) = CallP P N B d l s t H Q f (rens (fun _ => none) (fst ++ args.map (ev t) ++ caps)) := rfl
theorem run_callvp {d : Option Nat} {g : O} {args : List O} {l : List S} : Run P N B (.r (.callvp d g args :: l) :: s) t H Q ↔ fnP P N B d args l s t H Q (ev t g) := by
  constructor
  · intro h
    cases h with
    | callvp f fst caps x h0 h1 h2 => rw [h0]; exact ⟨x, h1, h2⟩
  · intro h
    unfold fnP at h
    split at h
    · rename_i f a c hv
      obtain ⟨x, h1, h2⟩ := h
      exact .callvp f a c x hv h1 h2
    · exact h.elim
theorem CallP.of {d : Option Nat} {l : List S} {f : Nat} {vs : List V} {x : V} (h : Spec P f vs [] (fun x' H' => x' = x ∧ H' = [])) (k : Run P N B (.r l :: s) (setO d (ren (fun _ => none) x) t) H Q) : CallP P N B d l s t H Q f vs := ⟨x, h, k⟩

theorem ev_s {n : Nat} : ev t (.s n) = lk t n := rfl
theorem ev_c {v : V} : ev t (.c v) = v := rfl
theorem ev_f {f : Nat} : ev t (.f f) = .fn (.func f) [] [] := rfl
theorem lk_nil {n : Nat} : lk [] n = .any := rfl
theorem lk_cons {m n : Nat} {v : V} : lk ((m, v) :: t) n = if m = n then v else lk t n := by
  unfold lk; simp only [find]; split <;> rfl

theorem ends_nil {rs : List RV} {Q : V → List Ob → Prop} {e : X} (he : e = .ret ∨ e = .fall) {x : V} (h : retV rs t H = some x) (hq : Q (ren (fun _ => none) x) []) : Ends 0 rs Q e t H :=
  ⟨he, .inr ⟨[], x, by simp, by simp, h, hq⟩⟩
/-- The own objects are handed back as they are. -/
theorem ends_all {rs : List RV} {Q : V → List Ob → Prop} {e : X} (he : e = .ret ∨ e = .fall) {x : V} (h : retV rs t H = some x) (hq : Q x H) : Ends B rs Q e t H :=
  ⟨he, .inl ⟨x, h, hq⟩⟩
/-- Some of the new objects are handed on. -/
theorem ends_ex {rs : List RV} {Q : V → List Ob → Prop} {e : X} (he : e = .ret ∨ e = .fall) (ex : List Nat) {x : V} (hnd : (List.range B ++ ex).Nodup) (hlt : ∀ i ∈ ex, i < H.length) (h : retV rs t H = some x)
    (hq : Q (ren (pos? (List.range B ++ ex)) x) (give (List.range B ++ ex) H)) : Ends B rs Q e t H := ⟨he, .inr ⟨ex, x, hnd, hlt, h, hq⟩⟩

/-- A call that may touch own objects. -/
def CallG (P : Program) (N : Nat → C) (B : Nat) (d : Option Nat) (l : List S) (s : List K) (t : T) (Q : X → T → List Ob → Prop) (F : Fn) (vs : List V) (H : List Ob) : Prop :=
  (∃ R, SpecF P F vs H R ∧ ∀ x H', R x H' → Run P N B (.r l :: s) (setO d x t) H' Q) ∨
    ∃ idx R, idx.Nodup ∧ (∀ i ∈ idx, i < H.length) ∧ SpecF P F (rens (pos? idx) vs) (give idx H) R ∧ ∀ x H', R x H' → idx.length ≤ H'.length → Run P N B (.r l :: s) (setO d (ren (back idx H.length) x) t) (takeB idx H H') Q
theorem CallG.all {d : Option Nat} {l : List S} {F : Fn} {vs : List V} {R : V → List Ob → Prop} (h : SpecF P F vs H R) (k : ∀ x H', R x H' → Run P N B (.r l :: s) (setO d x t) H' Q) : CallG P N B d l s t Q F vs H := .inl ⟨R, h, k⟩
theorem CallG.some {d : Option Nat} {l : List S} {F : Fn} {vs : List V} (idx : List Nat) {R : V → List Ob → Prop} (h1 : idx.Nodup) (h2 : ∀ i ∈ idx, i < H.length) (h : SpecF P F (rens (pos? idx) vs) (give idx H) R)
    (k : ∀ x H', R x H' → idx.length ≤ H'.length → Run P N B (.r l :: s) (setO d (ren (back idx H.length) x) t) (takeB idx H H') Q) : CallG P N B d l s t Q F vs H := .inr ⟨idx, R, h1, h2, h, k⟩
theorem run_call {d : Option Nat} {f : Nat} {args : List O} {l : List S} : Run P N B (.r (.call d f args :: l) :: s) t H Q ↔ CallG P N B d l s t Q (.func f) (args.map (ev t)) H := by
  constructor
  · intro h
    cases h with
    | callA R h1 h2 => exact .inl ⟨R, h1, h2⟩
    | call idx R h1 h2 h3 h4 => exact .inr ⟨idx, R, h1, h2, h3, h4⟩
  · rintro (⟨R, h1, h2⟩ | ⟨idx, R, h1, h2, h3, h4⟩)
    · exact .callA R h1 h2
    · exact .call idx R h1 h2 h3 h4
def fnG (P : Program) (N : Nat → C) (B : Nat) (d : Option Nat) (args : List O) (l : List S) (s : List K) (t : T) (H : List Ob) (Q : X → T → List Ob → Prop) : V → Prop
  | .fn F fst caps => ((∃ f, F = .func f) ∨ caps = []) ∧ CallG P N B d l s t Q F (fst ++ args.map (ev t) ++ caps) H
  | _ => False
theorem fnG_func {d : Option Nat} {args : List O} {l : List S} {f : Nat} {a c : List V} : fnG P N B d args l s t H Q (.fn (.func f) a c) = CallG P N B d l s t Q (.func f) (a ++ args.map (ev t) ++ c) H := by simp [fnG]
theorem fnG_nil {d : Option Nat} {args : List O} {l : List S} {F : Fn} {a : List V} : fnG P N B d args l s t H Q (.fn F a []) = CallG P N B d l s t Q F (a ++ args.map (ev t) ++ []) H := by simp [fnG]
theorem run_callv {d : Option Nat} {g : O} {args : List O} {l : List S} : Run P N B (.r (.callv d g args :: l) :: s) t H Q ↔ fnG P N B d args l s t H Q (ev t g) := by
  constructor
  · intro h
    cases h with
    | callvA F fst caps R h0 hF h1 h2 => rw [h0]; exact ⟨hF, .inl ⟨R, h1, h2⟩⟩
    | callv F fst caps idx R h0 hF h1 h2 h3 h4 => rw [h0]; exact ⟨hF, .inr ⟨idx, R, h1, h2, h3, h4⟩⟩
  · intro h
    unfold fnG at h
    split at h
    · rename_i F fst caps hv
      obtain ⟨hF, h⟩ := h
      rcases h with ⟨R, h1, h2⟩ | ⟨idx, R, h1, h2, h3, h4⟩
      · exact .callvA F fst caps R hv hF h1 h2
      · exact .callv F fst caps idx R hv hF h1 h2 h3 h4
    · exact h.elim
def brP (o : Option Ob) (l : Nat) (K : Loop → T → Prop) : Prop := match o with
  | some (.lp l' .ready r ts) => l' = l ∧ K r ts
  | _ => False
theorem brP_some {l l' : Nat} {r : Loop} {ts : T} {K : Loop → T → Prop} : brP (some (.lp l' .ready r ts)) l K = (l' = l ∧ K r ts) := rfl
theorem run_br {l n : Nat} : Run P N B (.br l n :: s) t H Q ↔ brP H[n]? l fun r ts => Run P N B s t (H.set n (.lp l .busy r ts)) Q := by
  constructor
  · intro h
    cases h with
    | br h1 h2 => rw [h1]; exact ⟨rfl, h2⟩
  · intro h
    unfold brP at h
    split at h
    · rename_i l' r ts hh
      obtain ⟨rfl, h⟩ := h
      exact .br hh h
    · exact h.elim
end

/-- Up a loop: the state at k comes to the state at k + 1. -/
theorem loop_up {n : Nat} {R : Nat → Prop} (hstep : ∀ k, k < n → R (k + 1) → R k) (hend : R n) : ∀ k, k ≤ n → R k := by
  intro k hk
  obtain ⟨m, rfl⟩ : ∃ m, n = k + m := ⟨n - k, by omega⟩
  induction m generalizing k with
  | zero => exact hend
  | succ m ih => exact hstep k (by omega) (ih (k + 1) (fun j hj => hstep j (by omega)) (by rw [show k + 1 + m = k + (m + 1) by omega]; exact hend) (by omega))

theorem ren_int {σ : Nat → Option Nat} {k : IntKind} {n : Int} : ren σ (.int k n) = .int k n := rfl
theorem ren_bool {σ : Nat → Option Nat} {b : Bool} : ren σ (.bool b) = .bool b := rfl
theorem ren_str {σ : Nat → Option Nat} {s : List UInt8} : ren σ (.str s) = .str s := rfl
theorem ren_sl {σ : Nat → Option Nat} {z : Nat} {l : List (List V)} : ren σ (.sl z l) = .sl z l := rfl
theorem ren_ro {σ : Nat → Option Nat} {l : List V} {k : Nat} : ren σ (.ro l k) = .ro l k := rfl
theorem ren_nil {σ : Nat → Option Nat} : ren σ .nil = .nil := rfl
theorem ren_nilp {σ : Nat → Option Nat} : ren σ .nilp = .nilp := rfl
theorem ren_nilm {σ : Nat → Option Nat} : ren σ .nilm = .nilm := rfl
theorem ren_nilf {σ : Nat → Option Nat} : ren σ .nilf = .nilf := rfl
theorem ren_any {σ : Nat → Option Nat} : ren σ .any = .any := rfl
theorem ren_agg {σ : Nat → Option Nat} {l : List V} : ren σ (.agg l) = .agg (rens σ l) := by simp only [ren]
theorem ren_tup {σ : Nat → Option Nat} {l : List V} : ren σ (.tup l) = .tup (rens σ l) := by simp only [ren]
theorem ren_fn {σ : Nat → Option Nat} {f : Fn} {a l : List V} : ren σ (.fn f a l) = .fn f (rens σ a) (rens σ l) := by simp only [ren]
theorem ren_own {σ : Nat → Option Nat} {i z : Nat} {l : List (List V)} : ren σ (.own i z l) = match σ i with | some j => .own j z l | none => .sl z l := by simp only [ren]; rfl
theorem ren_ptr {σ : Nat → Option Nat} {i o : Nat} : ren σ (.ptr i o) = match σ i with | some j => .ptr j o | none => .any := by simp only [ren]; rfl
theorem rens_nil {σ : Nat → Option Nat} : rens σ [] = [] := by simp only [rens]
theorem rens_cons {σ : Nat → Option Nat} {x : V} {l : List V} : rens σ (x :: l) = ren σ x :: rens σ l := by simp only [rens]
theorem sto_int {k : IntKind} {n : Int} : sto (.int k n) = some [.int k n] := rfl
theorem sto_bool {b : Bool} : sto (.bool b) = some [.bool b] := rfl
theorem sto_str {s : List UInt8} : sto (.str s) = some [.str s] := rfl
theorem sto_sl {z : Nat} {l : List (List V)} : sto (.sl z l) = some [.sl z l] := rfl
theorem sto_own {i z : Nat} {l : List (List V)} : sto (.own i z l) = some [.own i z l] := rfl
theorem sto_agg {l : List V} : sto (.agg l) = some l := rfl
theorem sto_map {i : Nat} : sto (.map i) = some [.map i] := rfl
theorem sto_nilm : sto .nilm = some [.nilm] := rfl
theorem sto_nilf : sto .nilf = some [.nilf] := rfl
theorem sto_nilp : sto .nilp = some [.nilp] := rfl
theorem ren_map {σ : Nat → Option Nat} {i : Nat} : ren σ (.map i) = match σ i with | some j => .map j | none => .any := by simp only [ren]; rfl
theorem ren_it {σ : Nat → Option Nat} {i : Nat} : ren σ (.it i) = match σ i with | some j => .it j | none => .any := by simp only [ren]; rfl
theorem sto_nil : sto .nil = some [.nil] := rfl
theorem sto_fn {f : Fn} {a l : List V} : sto (.fn f a l) = some [.fn f a l] := rfl
theorem sto_ptr {i o : Nat} : sto (.ptr i o) = some [.ptr i o] := rfl
theorem ren_rw {σ : Nat → Option Nat} {i z n : Nat} : ren σ (.rw i z n) = match σ i with | some j => .rw j z n | none => .any := by simp only [ren]; rfl
theorem ren_rp {σ : Nat → Option Nat} {i n k o : Nat} : ren σ (.rp i n k o) = match σ i with | some j => .rp j n k o | none => .any := by simp only [ren]; rfl
theorem sto_rw {i z n : Nat} : sto (.rw i z n) = some [.rw i z n] := rfl
theorem sto_rp {i n k o : Nat} : sto (.rp i n k o) = some [.rp i n k o] := rfl
theorem renOb_cells {σ : Nat → Option Nat} {e : Nat} {cs : List V} : renOb σ (.cells e cs) = .cells e (rens σ cs) := rfl
theorem renOb_arr {σ : Nat → Option Nat} {e z n : Nat} : renOb σ (.arr e z n) = .arr e z n := rfl
theorem renOb_map {σ : Nat → Option Nat} {es : List (V × V)} : renOb σ (.map es) = .map (es.map fun p => (ren σ p.1, ren σ p.2)) := rfl
theorem renOb_iter {σ : Nat → Option Nat} {m : Option Nat} {n : Nat} {s : List Nat} : renOb σ (.iter m n s) = .iter (m.bind σ) n s := rfl
theorem renOb_dead {σ : Nat → Option Nat} : renOb σ .dead = .dead := rfl
theorem renOb_row {σ : Nat → Option Nat} {e z : Nat} {els : List (List V)} : renOb σ (.row e z els) = .row e z (els.map (rens σ)) := rfl
theorem renOb_lp {σ : Nat → Option Nat} {l : Nat} {st : LS} {r : Loop} {ts : T} : renOb σ (.lp l st r ts) = .lp l st r (ts.map fun p => (p.1, ren σ p.2)) := rfl
theorem sto_ro {l : List V} {o : Nat} : sto (.ro l o) = some [.ro l o] := rfl
theorem wrap64 {x : Int} (h1 : -9223372036854775808 ≤ x) (h2 : x ≤ 9223372036854775807) : IntKind.i64.wrap x = x := by
  unfold IntKind.wrap IntKind.bits IntKind.signed; simp; omega

/-! the values' functions, case by case -/
def cellsO (o : Option Ob) (f : List V → Option V) : Option V := match o with
  | some (.cells _ cs) => f cs
  | _ => none
theorem cellsO_some {e : Nat} {cs : List V} {f : List V → Option V} : cellsO (some (.cells e cs)) f = f cs := rfl
theorem ldV_ro {H : List Ob} {cs : List V} {k : Nat} : ldV H (.ro cs k) = cs[k]? := rfl
theorem ldV_ptr {H : List Ob} {i k : Nat} : ldV H (.ptr i k) = cellsO H[i]? fun cs => cs[k]? := by unfold ldV cellsO; rfl
theorem laV_ro {H : List Ob} {cs : List V} {k n : Nat} : laV n H (.ro cs k) = if k + n ≤ cs.length then some (.agg (sub k n cs)) else none := rfl
theorem laV_ptr {H : List Ob} {i k n : Nat} : laV n H (.ptr i k) = cellsO H[i]? fun cs => if k + n ≤ cs.length then some (.agg (sub k n cs)) else none := by unfold laV cellsO; rfl
def rowO (o : Option Ob) (f : List (List V) → Option V) : Option V := match o with
  | some (.row _ _ els) => f els
  | _ => none
theorem rowO_some {e z : Nat} {els : List (List V)} {f : List (List V) → Option V} : rowO (some (.row e z els)) f = f els := rfl
theorem ldV_rp {H : List Ob} {i n k o : Nat} : ldV H (.rp i n k o) = rowO H[i]? fun els => if els.length = n then (els[k]?).bind fun el => el[o]? else none := by unfold ldV rowO; rfl
theorem laV_rp {H : List Ob} {i n j o k : Nat} : laV k H (.rp i n j o) = rowO H[i]? fun els => if els.length = n then (els[j]?).bind fun el => if o + k ≤ el.length then some (.agg (sub o k el)) else none else none := by unfold laV rowO; rfl
theorem faV_rp {H : List Ob} {i n j o k : Nat} : faV k H (.rp i n j o) = some (.rp i n j (o + k)) := rfl
theorem ncV_rp {H : List Ob} {i n j o : Nat} : ncV H (.rp i n j o) = some (.rp i n j o) := rfl
theorem lenV_rw {i z n : Nat} : lenV (.rw i z n) = some (.int .i64 n) := rfl
theorem iaV_rw {z y i m : Nat} {k : IntKind} {n : Int} : iaV z (.rw i y m) (.int k n) = if y = z ∧ 0 ≤ n ∧ n < m then some (.rp i m n.toNat 0) else none := rfl
theorem faV_ro {H : List Ob} {cs : List V} {k n : Nat} : faV n H (.ro cs k) = some (.ro cs (k + n)) := rfl
theorem faV_ptr {H : List Ob} {i k n : Nat} : faV n H (.ptr i k) = cellsO H[i]? fun _ => some (.ptr i (k + n)) := by unfold faV cellsO; rfl
theorem ncV_ro {H : List Ob} {cs : List V} {k : Nat} : ncV H (.ro cs k) = some (.ro cs k) := rfl
theorem ncV_ptr {H : List Ob} {i k : Nat} : ncV H (.ptr i k) = cellsO H[i]? fun _ => some (.ptr i k) := by unfold ncV cellsO; rfl
theorem fdV_none {cs : List V} {k : Nat} : fdV k none (.agg cs) = cs[k]? := rfl
theorem fdV_some {cs : List V} {k n : Nat} : fdV k (some n) (.agg cs) = if k + n ≤ cs.length then some (.agg (sub k n cs)) else none := rfl
theorem elV_sl {z : Nat} {l : List (List V)} : elV (.sl z l) = some l := rfl
theorem elV_own {i z : Nat} {l : List (List V)} : elV (.own i z l) = some l := rfl
theorem elV_nil : elV .nil = some [] := rfl
theorem lenV_sl {z : Nat} {l : List (List V)} : lenV (.sl z l) = some (.int .i64 l.length) := rfl
theorem lenV_own {i z : Nat} {l : List (List V)} : lenV (.own i z l) = some (.int .i64 l.length) := rfl
theorem lenV_nil : lenV .nil = some (.int .i64 0) := rfl
theorem lensV_str {l : List UInt8} : lensV (.str l) = some (.int .i64 l.length) := rfl
theorem iaV_sl {z y : Nat} {l : List (List V)} {k : IntKind} {n : Int} : iaV z (.sl y l) (.int k n) = if y = z ∧ 0 ≤ n ∧ n < l.length then some (.ro (l.getD n.toNat []) 0) else none := rfl
theorem iaV_own {i z y : Nat} {l : List (List V)} {k : IntKind} {n : Int} : iaV z (.own i y l) (.int k n) = if y = z ∧ 0 ≤ n ∧ n < l.length then some (.ro (l.getD n.toNat []) 0) else none := rfl
theorem ixV_str {l : List UInt8} {k : IntKind} {n : Int} : ixV (.str l) (.int k n) = if 0 ≤ n ∧ n < l.length then some (.int .u8 (btV l n.toNat)) else none := rfl
theorem ixaV_int {z L : Nat} {o : Option Nat} {x : V} {k : IntKind} {n : Int} : ixaV z L o x (.int k n) = if 0 ≤ n ∧ n < L then fdV (n.toNat * z) o x else none := rfl
section
variable {k : IntKind} {a b : Int}
theorem binV_add : binV .add (.int k a) (.int k b) = some (.int k (k.wrap (a + b))) := by simp [binV]
theorem binV_sub : binV .sub (.int k a) (.int k b) = some (.int k (k.wrap (a - b))) := by simp [binV]
theorem binV_mul : binV .mul (.int k a) (.int k b) = some (.int k (k.wrap (a * b))) := by simp [binV]
theorem binV_quo : binV .quo (.int k a) (.int k b) = if b = 0 then none else some (.int k (k.wrap (a.tdiv b))) := by simp [binV]
theorem binV_rem : binV .rem (.int k a) (.int k b) = if b = 0 then none else some (.int k (a.tmod b)) := by simp [binV]
theorem shV_shl {j : IntKind} : shV .shl (.int k a) (.int j b) = if b < 0 then none else some (.int k (k.wrap (a * 2 ^ (min b.toNat k.bits)))) := rfl
theorem shV_shr {j : IntKind} : shV .shr (.int k a) (.int j b) = if b < 0 then none else some (.int k (a.fdiv (2 ^ (min b.toNat k.bits)))) := rfl
theorem binV_eql : binV .eql (.int k a) (.int k b) = some (.bool (decide (a = b))) := by simp [binV, intCmpV, BEq.beq]
theorem binV_neq : binV .neq (.int k a) (.int k b) = some (.bool (decide (a ≠ b))) := by simp [binV, intCmpV, BEq.beq, bne]
theorem binV_lss : binV .lss (.int k a) (.int k b) = some (.bool (decide (a < b))) := by simp [binV, intCmpV]
theorem binV_leq : binV .leq (.int k a) (.int k b) = some (.bool (decide (a ≤ b))) := by simp [binV, intCmpV]
theorem binV_gtr : binV .gtr (.int k a) (.int k b) = some (.bool (decide (b < a))) := by simp [binV, intCmpV]
theorem binV_geq : binV .geq (.int k a) (.int k b) = some (.bool (decide (b ≤ a))) := by simp [binV, intCmpV]
end
theorem binV_str {op : BinOp} {a b : List UInt8} : binV op (.str a) (.str b) = strOpV op a b := rfl
theorem strOpV_add {a b : List UInt8} : strOpV .add a b = if a.length + b.length ≤ capMax then some (.str (a ++ b)) else none := rfl
theorem strOpV_eql {a b : List UInt8} : strOpV .eql a b = some (.bool (decide (a = b))) := by by_cases h : a = b <;> simp [strOpV, h]
theorem strOpV_neq {a b : List UInt8} : strOpV .neq a b = some (.bool (decide (a ≠ b))) := by by_cases h : a = b <;> simp [strOpV, h]
theorem strOpV_lss {a b : List UInt8} : strOpV .lss a b = some (.bool (Op.bytesLess a b)) := rfl
theorem bbV_eql {a b : Bool} : bbV .eql (.bool a) (.bool b) = some (.bool (a == b)) := rfl
theorem bbV_neq {a b : Bool} : bbV .neq (.bool a) (.bool b) = some (.bool (a != b)) := rfl
theorem unV_not {b : Bool} : unV .not (.bool b) = some (.bool !b) := rfl
theorem unV_neg {k : IntKind} {n : Int} : unV .neg (.int k n) = some (.int k (k.wrap (0 - n))) := rfl
theorem exV_tup {l : List V} {i : Nat} : exV i (.tup l) = l[i]? := rfl
theorem sxsV_str {l : List UInt8} {lo hi : Option V} : sxsV (.str l) lo hi = match bnd lo 0, bnd hi l.length with
    | some a, some b => if a ≤ b ∧ b ≤ l.length then some (.str ((l.drop a).take (b - a))) else none
    | _, _ => none := rfl
theorem bnd_none {n : Nat} : bnd none n = some n := rfl
theorem bnd_int {k : IntKind} {m : Int} {n : Nat} : bnd (some (.int k m)) n = if 0 ≤ m then some m.toNat else none := rfl

/-! the operations, case by case -/
section
variable {B : Nat} {t : T} {H : List Ob}
theorem xc_mv {d : Nat} {x : O} : exec B (.mv d x) t H = some ((d, ev t x) :: t, H) := rfl
theorem xc_pick {d : Nat} {c : O} {a : O} {b : O} : exec B (.pick d c a b) t H = (match ev t c with
    | .bool c => some ((d, if c then ev t a else ev t b) :: t, H)
    | _ => none) := rfl
theorem xc_al {d : Nat} {e : Nat} {z : List V} : exec B (.al d e z) t H = some ((d, .ptr H.length 0) :: t, H ++ [.cells e z]) := rfl
theorem xc_bx {d : Nat} {e : Nat} {x : O} : exec B (.bx d e x) t H = (match sto (ev t x) with
    | some cs => some ((d, .ptr H.length 0) :: t, H ++ [.cells e cs])
    | none => none) := rfl
theorem xc_br {d : Nat} {e : Nat} {x : O} : exec B (.br d e x) t H = (match sto (ev t x) with
    | some cs => some ((d, .ro (rens (fun _ => none) cs) 0) :: t, H)
    | none => none) := rfl
theorem xc_sf {d : Nat} {k : Nat} {x : O} : exec B (.sf d k x) t H = (match lk t d with
    | .ptr i 0 => match H[i]? with
      | some (.cells e cs) => match sto (ev t x) with
        | some new => if new.length = k ∧ cs.length = k then some ((d, .ro (rens (fun _ => none) new) 0) :: t, H.set i .dead) else none
        | none => none
      | _ => none
    | _ => none) := rfl
theorem xc_ld {d : Nat} {x : O} : exec B (.ld d x) t H = set1 d (ldV H (ev t x)) t H := rfl
theorem xc_la {d : Nat} {k : Nat} {x : O} : exec B (.la d k x) t H = set1 d (laV k H (ev t x)) t H := rfl
theorem xc_st {k : Nat} {a : O} {x : O} : exec B (.st k a x) t H = (match ev t a with
    | .ptr i off => match H[i]? with
      | some (.cells e cs) => match sto (ev t x) with
        | some new => if new.length = k ∧ off + k ≤ cs.length then some (t, H.set i (.cells e (put off new cs))) else none
        | none => none
      | _ => none
    | .rp i n j off => match H[i]? with
      | some (.row e sz els) => match sto (ev t x) with
        | some new => if els.length = n ∧ j < n ∧ new.length = k ∧ off + k ≤ sz then some (t, H.set i (.row e sz (els.set j (put off new (els.getD j []))))) else none
        | none => none
      | _ => none
    | _ => none) := rfl
theorem xc_fa {d : Nat} {off : Nat} {x : O} : exec B (.fa d off x) t H = set1 d (faV off H (ev t x)) t H := rfl
theorem xc_nc {d : Nat} {x : O} : exec B (.nc d x) t H = set1 d (ncV H (ev t x)) t H := rfl
theorem xc_fd {d : Nat} {off : Nat} {k : Option Nat} {x : O} : exec B (.fd d off k x) t H = set1 d (fdV off k (ev t x)) t H := rfl
theorem xc_bd {d : Nat} {z : List V} {ps : List (Nat × Nat × O)} : exec B (.bd d z ps) t H = set1 d ((bdV t ps z).map .agg) t H := rfl
theorem xc_bs {d : Nat} {sz : Nat} {xs : List O} : exec B (.bs d sz xs) t H = set1 d ((bsV t sz xs).map (.sl sz)) t H := rfl
theorem xc_bo {d : Nat} {e : Nat} {sz : Nat} {xs : List O} : exec B (.bo d e sz xs) t H = (match bsV t sz xs with
    | some els => some ((d, .own H.length sz els) :: t, H ++ [.arr e sz els.length])
    | none => none) := rfl
theorem xc_bin {d : Nat} {op : BinOp} {x : O} {y : O} : exec B (.bin d op x y) t H = set1 d (binV op (ev t x) (ev t y)) t H := rfl
theorem xc_bb {d : Nat} {op : BinOp} {x : O} {y : O} : exec B (.bb d op x y) t H = set1 d (bbV op (ev t x) (ev t y)) t H := rfl
theorem xc_sh {d : Nat} {op : BinOp} {x : O} {y : O} : exec B (.sh d op x y) t H = set1 d (shV op (ev t x) (ev t y)) t H := rfl
theorem xc_un {d : Nat} {op : UnOp} {x : O} : exec B (.un d op x) t H = set1 d (unV op (ev t x)) t H := rfl
theorem xc_cvi {d : Nat} {k : IntKind} {x : O} : exec B (.cvi d k x) t H = (match ev t x with
    | .int _ n => some ((d, .int k (k.wrap n)) :: t, H)
    | _ => none) := rfl
theorem xc_cvs {d : Nat} {x : O} : exec B (.cvs d x) t H = (match ev t x with
    | .str s => some ((d, .str s) :: t, H)
    | _ => none) := rfl
theorem xc_s2b {d : Nat} {x : O} : exec B (.s2b d x) t H = (match ev t x with
    | .str s => if s.length ≤ maxEls then some ((d, .sl 1 (s.map fun c => [.int .u8 c.toNat])) :: t, H) else none
    | _ => none) := rfl
theorem xc_b2s {d : Nat} {x : O} : exec B (.b2s d x) t H = (match elV (ev t x) with
    | some els => match b2sV els with
      | some l => some ((d, .str l) :: t, H)
      | none => none
    | none => none) := rfl
theorem xc_mf {d : Nat} {g : Nat} {fst : List O} {caps : List O} : exec B (.mf d g fst caps) t H = some ((d, .fn (.func g) (fst.map (ev t)) (caps.map (ev t))) :: t, H) := rfl
theorem xc_len {d : Nat} {x : O} : exec B (.len d x) t H = set1 d (lenV (ev t x)) t H := rfl
theorem xc_lens {d : Nat} {x : O} : exec B (.lens d x) t H = set1 d (lensV (ev t x)) t H := rfl
theorem xc_ia {d : Nat} {sz : Nat} {x : O} {i : O} : exec B (.ia d sz x i) t H = set1 d (iaV sz (ev t x) (ev t i)) t H := rfl
theorem xc_ix {d : Nat} {x : O} {i : O} : exec B (.ix d x i) t H = set1 d (ixV (ev t x) (ev t i)) t H := rfl
theorem xc_ixa {d : Nat} {sz n : Nat} {k : Option Nat} {x : O} {i : O} : exec B (.ixa d sz n k x i) t H = set1 d (ixaV sz n k (ev t x) (ev t i)) t H := rfl
theorem xc_sx {d : Nat} {sz : Nat} {x : O} {lo : Option O} {hi : Option O} : exec B (.sx d sz x lo hi) t H = set1 d (sxV sz (ev t x) (lo.map (ev t)) (hi.map (ev t))) t H := rfl
theorem xc_sxs {d : Nat} {x : O} {lo : Option O} {hi : Option O} : exec B (.sxs d x lo hi) t H = set1 d (sxsV (ev t x) (lo.map (ev t)) (hi.map (ev t))) t H := rfl
theorem xc_ex {d : Nat} {x : O} {i : Nat} : exec B (.ex d x i) t H = set1 d (exV i (ev t x)) t H := rfl
theorem xc_app {d : Nat} {e : Nat} {sz : Nat} {bytes : Nat} {x : O} {y : O} : exec B (.app d e sz bytes x y) t H = set2 d (appV H e sz bytes (ev t x) (ev t y)) t := rfl
theorem xc_apr {d : Nat} {e : Nat} {sz : Nat} {bytes : Nat} {x : O} {y : O} : exec B (.apr d e sz bytes x y) t H = set2 d (aprV H e sz bytes (ev t x) (ev t y)) t := rfl
theorem xc_mx {d : Nat} {x : O} {y : O} : exec B (.mx d x y) t H = (match ev t x, ev t y with
    | .int k a, .int k' b => if k = k' then some ((d, .int k (if b > a then b else a)) :: t, H) else none
    | _, _ => none) := rfl
theorem xc_mn {d : Nat} {x : O} {y : O} : exec B (.mn d x y) t H = (match ev t x, ev t y with
    | .int k a, .int k' b => if k = k' then some ((d, .int k (if b < a then b else a)) :: t, H) else none
    | _, _ => none) := rfl
theorem xc_non {d : Nat} {e : Nat} {sz : Nat} : exec B (.non d e sz) t H = (match lk t d with
    | .nil => some ((d, .own H.length sz []) :: t, H ++ [.arr e sz 0])
    | _ => none) := rfl
theorem xc_ono {e : Nat} {sz : Nat} {k : Nat} {a : O} : exec B (.ono e sz k a) t H = (match ev t a with
    | .ptr i off => match H[i]? with
      | some (.cells e' cs) => match cs[off + k]? with
        | some .nil => some (t, H.set i (.cells e' (put (off + k) [.own H.length sz []] cs)) ++ [.arr e sz 0])
        | _ => none
      | _ => none
    | _ => none) := rfl
theorem xc_mkm {d : Nat} : exec B (.mkm d) t H = some ((d, .map H.length) :: t, H ++ [.map []]) := rfl
theorem xc_lkp {d : Nat} {ks : Bool} {ok : Bool} {z : V} {m : O} {k : O} : exec B (.lkp d ks ok z m k) t H = set1 d (lookV H ks ok z (ev t m) (ev t k)) t H := rfl
theorem xc_mup {ks : Bool} {m : O} {k : O} {x : O} : exec B (.mup ks m k x) t H = (match ev t m with
    | .map i => match H[i]? with
      | some (.map es) => if ksB ks (ev t k) then match updM (ev t k) (ev t x) es with
        | some es' => some (t, H.set i (.map es'))
        | none => none
        else none
      | _ => none
    | _ => none) := rfl
theorem xc_rg {d : Nat} {m : O} : exec B (.rg d m) t H = (match ev t m with
    | .map i => match H[i]? with
      | some (.map es) => some ((d, .it H.length) :: t, H ++ [.iter (some i) es.length []])
      | _ => none
    | _ => none) := rfl
theorem xc_en {d : Nat} {x : O} : exec B (.en d x) t H = set1 d (enV H (ev t x)) t H := rfl
theorem xc_rnon {d : Nat} {e : Nat} {sz : Nat} : exec B (.rnon d e sz) t H = (match lk t d with
    | .nil => some ((d, .rw H.length sz 0) :: t, H ++ [.row e sz []])
    | _ => none) := rfl
theorem xc_rono {e : Nat} {sz : Nat} {k : Nat} {a : O} : exec B (.rono e sz k a) t H = (match ev t a with
    | .ptr i off => match H[i]? with
      | some (.cells e' cs) => match cs[off + k]? with
        | some .nil => some (t, H.set i (.cells e' (put (off + k) [.rw H.length sz 0] cs)) ++ [.row e sz []])
        | _ => none
      | _ => none
    | _ => none) := rfl
theorem xc_frz {d : Nat} : exec B (.frz d) t H = (match lk t d with
    | .rw i z n => match H[i]? with
      | some (.row e sz els) => if els.length = n then some ((d, .sl sz (els.map (rens fun _ => none))) :: t, H.set i .dead) else none
      | _ => none
    | _ => none) := rfl
theorem xc_e2r {d : Nat} : exec B (.e2r d) t H = (match lk t d with
    | .own i z [] => match H[i]? with
      | some (.arr e sz 0) => if z = sz then some ((d, .rw H.length sz 0) :: t, H.set i .dead ++ [.row e sz []]) else none
      | _ => none
    | _ => none) := rfl
theorem xc_frc {k : Nat} {a : O} : exec B (.frc k a) t H = (match ev t a with
    | .ptr i off => match H[i]? with
      | some (.cells e cs) => match cs[off + k]? with
        | some (.rw j z n) => match H[j]? with
          | some (.row e' sz els) => if els.length = n then some (t, (H.set j .dead).set i (.cells e (put (off + k) [.sl sz (els.map (rens fun _ => none))] cs))) else none
          | _ => none
        | _ => none
      | _ => none
    | _ => none) := rfl
theorem xc_ks {m : Nat} {l : List Nat} : exec B (.ks m l) t H = some (l.map fun n => (n, ren (clip (B + m)) (lk t n)), (H.take (B + m)).map (renOb (clip (B + m)))) := rfl
end

attribute [push_cast] run_done run_skip run_seq run_reg run_dr run_gh run_rend run_blk run_mk run_loop run_ret goP_some goP_none run_exit popTo exP_some exP_none exP_ite run_op oP_some oP_none oP_ite o1P_some o1P_none o1P_ite o1P_ite' exP_set1
  cP_bool run_cond gP_bool gP_tup run_gd run_alt0 run_alt1 run_nx run_callp fnP_fn run_callvp ev_s ev_c ev_f lk_nil lk_cons xc_mv xc_pick xc_al xc_bx xc_br xc_sf xc_ld xc_la xc_st xc_fa xc_nc xc_fd xc_bd xc_bs xc_bo xc_bin xc_bb xc_sh xc_un xc_cvi xc_cvs xc_s2b xc_b2s xc_mf xc_len xc_lens xc_ia xc_ix xc_ixa xc_sx xc_sxs xc_ex xc_app xc_apr xc_mx xc_mn xc_non xc_ono xc_mkm xc_lkp xc_mup xc_rg xc_en xc_rnon xc_rono xc_frz xc_e2r xc_frc xc_ks cellsO_some ldV_ro ldV_ptr laV_ro laV_ptr faV_ro faV_ptr ncV_ro ncV_ptr fdV_none fdV_some elV_sl elV_own elV_nil lenV_sl lenV_own lenV_nil lensV_str
  iaV_sl iaV_own ixV_str ixaV_int binV_add binV_sub binV_mul binV_eql binV_neq binV_lss binV_leq binV_gtr binV_geq binV_str strOpV_add strOpV_eql strOpV_neq strOpV_lss bbV_eql bbV_neq unV_not unV_neg exV_tup sxsV_str bnd_none bnd_int
  bdV bsV clip setO exP_set2 o2P_some o2P_none o2P_ite run_call fnG_func fnG_nil run_callv run_br brP_some run_bad nlP_some run_nl run_n binV_quo binV_rem shV_shl shV_shr oP_ite' rowO_some ldV_rp laV_rp faV_rp ncV_rp lenV_rw iaV_rw ren_rw ren_rp sto_rw sto_rp renOb_cells renOb_arr renOb_map renOb_iter renOb_dead renOb_row renOb_lp
  ren_int ren_bool ren_str ren_sl ren_ro ren_nil ren_nilp ren_nilm ren_nilf ren_any ren_agg ren_tup ren_fn ren_own ren_ptr rens_nil rens_cons sto_int sto_bool sto_str sto_sl sto_own sto_agg sto_nil sto_fn sto_ptr sto_ro sto_map sto_nilm sto_nilf sto_nilp ren_map ren_it
  List.map_cons List.map_nil List.cons_append List.nil_append List.append_nil rvs rvV retV ini
  List.length_nil List.length_cons List.getElem?_nil List.getElem?_cons_zero List.getElem?_cons_succ List.set_cons_zero List.set_cons_succ List.take_zero List.take_nil List.take_succ_cons Nat.le_refl true_and and_true and_self Nat.zero_add Nat.add_zero
  decide_eq_true_eq decide_eq_false_iff_not if_true if_false Bool.not_true Bool.not_false Int.toNat_natCast decide_true decide_false Bool.true_and Bool.and_true Bool.false_and Bool.and_false forall_const not_true_eq_false not_false_eq_true true_implies false_implies
end Go.Dw
end
section
set_option linter.unusedVariables false
set_option linter.unusedSimpArgs false
namespace Go.Dw

abbrev Str := List UInt8
inductive Term where
  | mk (name : Str) (var : Bool) (args : List Term)
deriving Inhabited
namespace Term
def name : Term → Str | mk n _ _ => n
def var : Term → Bool | mk _ v _ => v
def args : Term → List Term | mk _ _ a => a
theorem eta (t : Term) : mk t.name t.var t.args = t := by cases t; rfl
end Term

/-! ### Slices of anything -/
/-- A slice of elements of z cells each. -/
def encL {α : Type} (f : α → List V) (z : Nat) (l : List α) : V := .sl z (l.map f)
/-- A row of the caller's own that only grows. -/
def ownL {α : Type} (f : α → List V) (i z : Nat) (l : List α) : V := .own i z (l.map f)
section
variable {α : Type} {f : α → List V} {z : Nat}
theorem sto_encL {l : List α} : sto (encL f z l) = some [encL f z l] := rfl
theorem ren_encL {σ : Nat → Option Nat} {l : List α} : ren σ (encL f z l) = encL f z l := rfl
theorem lenV_encL {l : List α} : lenV (encL f z l) = some (.int .i64 l.length) := by simp [encL, lenV]
theorem elV_encL {l : List α} : elV (encL f z l) = some (l.map f) := rfl
theorem iaV_encL [Inhabited α] {l : List α} {k : IntKind} {n : Int} {y : Nat} : iaV y (encL f z l) (.int k n) = if z = y ∧ 0 ≤ n ∧ n < l.length then some (.ro (f (l.getD n.toNat default)) 0) else none := by
  simp only [encL, iaV, List.length_map]
  split
  · rename_i h
    have hlt : n.toNat < l.length := by omega
    simp [List.getD_eq_getElem?_getD, hlt]
  · rfl
theorem encL_nil : (.sl z [] : V) = encL f z [] := rfl
theorem sxV_encL {l : List α} {lo hi : Option V} {y : Nat} : sxV y (encL f z l) lo hi = match bnd lo 0, bnd hi l.length with
    | some a, some b => if z = y ∧ a ≤ b ∧ b ≤ l.length then some (encL f z ((l.drop a).take (b - a))) else none
    | _, _ => none := by
  simp only [encL, sxV, List.length_map, ← List.map_drop, ← List.map_take]
  rfl
theorem sto_ownL {i : Nat} {l : List α} : sto (ownL f i z l) = some [ownL f i z l] := rfl
theorem ren_ownL {σ : Nat → Option Nat} {i : Nat} {l : List α} : ren σ (ownL f i z l) = match σ i with | some j => ownL f j z l | none => encL f z l := by simp only [ownL, encL, ren]; rfl
theorem lenV_ownL {i : Nat} {l : List α} : lenV (ownL f i z l) = some (.int .i64 l.length) := by simp [ownL, lenV]
theorem elV_ownL {i : Nat} {l : List α} : elV (ownL f i z l) = some (l.map f) := rfl
theorem iaV_ownL [Inhabited α] {i : Nat} {l : List α} {k : IntKind} {n : Int} {y : Nat} : iaV y (ownL f i z l) (.int k n) = if z = y ∧ 0 ≤ n ∧ n < l.length then some (.ro (f (l.getD n.toNat default)) 0) else none := by
  simp only [ownL, iaV, List.length_map]
  split
  · rename_i h
    have hlt : n.toNat < l.length := by omega
    simp [List.getD_eq_getElem?_getD, hlt]
  · rfl
theorem ownL_nil {i : Nat} : (.own i z [] : V) = ownL f i z [] := rfl
/-- A row grows by elements. -/
def arrO (o : Option Ob) (K : Nat → Nat → Nat → Option (V × List Ob)) : Option (V × List Ob) := match o with
  | some (.arr e z n) => K e z n
  | _ => none
theorem arrO_some {e y n : Nat} {K : Nat → Nat → Nat → Option (V × List Ob)} : arrO (some (.arr e y n)) K = K e y n := rfl
def newO (o : Option (List (List V))) (K : List (List V) → Option (V × List Ob)) : Option (V × List Ob) := match o with
  | some l => K l
  | none => none
theorem newO_some {l : List (List V)} {K : List (List V) → Option (V × List Ob)} : newO (some l) K = K l := rfl
theorem appV_ownL {H : List Ob} {e y bytes i : Nat} {l : List α} {v : V} : appV H e y bytes (ownL f i z l) v = newO (elV v) fun new => arrO H[i]? fun e' z' n => if z = y ∧ z' = y ∧ e' = e ∧ n = l.length ∧ (∀ x ∈ new, x.length = y) ∧ (l.length + new.length) * bytes ≤ maxEls then some (.own i y (l.map f ++ new), H.set i (.arr e y (l.length + new.length))) else none := by
  unfold appV ownL newO arrO
  cases elV v with
  | none => rfl
  | some new =>
    simp only [List.length_map]
    rfl
theorem appV_own {H : List Ob} {e y bytes i : Nat} {l : List (List V)} {v : V} : appV H e y bytes (.own i z l) v = newO (elV v) fun new => arrO H[i]? fun e' z' n => if z = y ∧ z' = y ∧ e' = e ∧ n = l.length ∧ (∀ x ∈ new, x.length = y) ∧ (l.length + new.length) * bytes ≤ maxEls then some (.own i y (l ++ new), H.set i (.arr e y (l.length + new.length))) else none := by
  unfold appV newO arrO
  cases elV v with
  | none => rfl
  | some new => rfl
def rowP (o : Option Ob) (K : Nat → Nat → List (List V) → Option (V × List Ob)) : Option (V × List Ob) := match o with
  | some (.row e z els) => K e z els
  | _ => none
theorem rowP_some {e y : Nat} {els : List (List V)} {K : Nat → Nat → List (List V) → Option (V × List Ob)} : rowP (some (.row e y els)) K = K e y els := rfl
theorem aprV_rw {H : List Ob} {e y bytes i n : Nat} {v : V} : aprV H e y bytes (.rw i z n) v = newO (elV v) fun new => rowP H[i]? fun e' z' els => if z' = y ∧ e' = e ∧ els.length = n ∧ (∀ x ∈ new, x.length = y) ∧ (n + new.length) * bytes ≤ maxEls then some (.rw i y (n + new.length), H.set i (.row e y (els ++ new))) else none := by
  unfold aprV newO rowP
  cases elV v with
  | none => rfl
  | some new => rfl
theorem own_snoc {i : Nat} {l : List α} {x : α} : (.own i z (l.map f ++ [f x]) : V) = ownL f i z (l ++ [x]) := by simp [ownL]
theorem own_app {i : Nat} {l m : List α} : (.own i z (l.map f ++ m.map f) : V) = ownL f i z (l ++ m) := by simp [ownL]
end
attribute [push_cast] sto_encL ren_encL lenV_encL elV_encL iaV_encL sxV_encL sto_ownL ren_ownL lenV_ownL elV_ownL iaV_ownL arrO_some newO_some appV_ownL appV_own rowP_some aprV_rw own_snoc own_app eq_self

/-! ### Terms -/
mutual
def argC : Term → List (List V)
  | .mk _ _ as => argCs as
def argCs : List Term → List (List V)
  | [] => []
  | a :: as => [.str a.name, .bool a.var, .sl 3 (argC a)] :: argCs as
end
def cT (t : Term) : List V := [.str t.name, .bool t.var, .sl 3 (argC t)]
theorem argCs_eq (as : List Term) : argCs as = as.map cT := by
  induction as with
  | nil => simp [argCs]
  | cons a as ih => simp [argCs, ih, cT]
theorem argC_eq (t : Term) : argC t = t.args.map cT := by cases t; simp [argC, argCs_eq, Term.args]
abbrev encTs (l : List Term) : V := encL cT 3 l
theorem cT_eq (t : Term) : cT t = [.str t.name, .bool t.var, encTs t.args] := by rw [cT, argC_eq]; rfl
def encT (t : Term) : V := .agg (cT t)
theorem sto_encT (t : Term) : sto (encT t) = some (cT t) := rfl
theorem cT_len (t : Term) : (cT t).length = 3 := rfl
theorem cT_0 (t : Term) : (cT t)[0]? = some (.str t.name) := rfl
theorem cT_1 (t : Term) : (cT t)[1]? = some (.bool t.var) := rfl
theorem cT_2 (t : Term) : (cT t)[2]? = some (encTs t.args) := by rw [cT_eq]; rfl
theorem cT_sub (t : Term) : sub 0 3 (cT t) = cT t := rfl
theorem encT_fold (t : Term) : V.agg (cT t) = encT t := rfl
theorem rens_cT {σ : Nat → Option Nat} (t : Term) : rens σ (cT t) = cT t := rfl
theorem ren_encT {σ : Nat → Option Nat} (t : Term) : ren σ (encT t) = encT t := by unfold encT; rw [ren_agg, rens_cT]
/-- A term out of its parts. -/
theorem cT_mk (n : Str) (v : Bool) (l : List Term) : [V.str n, .bool v, encTs l] = cT (.mk n v l) := by rw [cT_eq]; rfl
theorem fdV_encT_none (t : Term) (k : Nat) : fdV k none (encT t) = (cT t)[k]? := rfl
theorem put_0_3 (x : List V) (a b c : V) (h : x.length = 3) : put 0 x [a, b, c] = x := by
  simp only [put, h]; simp
theorem put_cT (t : Term) (a b c : V) : put 0 (cT t) [a, b, c] = cT t := put_0_3 _ _ _ _ rfl
theorem put_cT' (t u : Term) : put 0 (cT t) (cT u) = cT t := put_0_3 _ _ _ _ rfl
theorem put_one (x : V) (k : Nat) (l : List V) : put k [x] l = l.take k ++ x :: l.drop (k + 1) := by simp [put]
theorem sub_all (l : List V) : sub 0 l.length l = l := by simp [sub]
attribute [push_cast] sto_encT cT_len cT_0 cT_1 cT_2 cT_sub encT_fold ren_encT rens_cT fdV_encT_none put_cT put_cT'
end Go.Dw
end
section
set_option linter.unusedVariables false
set_option linter.unusedSimpArgs false
namespace Go.Dw

mutual
def eqV : V → V → Bool
  | .any, .any => true
  | .int k n, .int k' n' => decide (k = k') && decide (n = n')
  | .bool a, .bool b => a == b
  | .str a, .str b => decide (a = b)
  | .agg a, .agg b => eqL a b
  | .tup a, .tup b => eqL a b
  | .nil, .nil => true
  | .sl z a, .sl z' b => decide (z = z') && eqE a b
  | .ro a o, .ro b o' => decide (o = o') && eqL a b
  | .nilp, .nilp => true
  | .nilm, .nilm => true
  | .nilf, .nilf => true
  | .own i z a, .own i' z' b => decide (i = i') && decide (z = z') && eqE a b
  | .ptr i o, .ptr i' o' => decide (i = i') && decide (o = o')
  | .map i, .map i' => decide (i = i')
  | .it i, .it i' => decide (i = i')
  | .rw i z n, .rw i' z' n' => decide (i = i') && decide (z = z') && decide (n = n')
  | .rp i n k o, .rp i' n' k' o' => decide (i = i') && decide (n = n') && decide (k = k') && decide (o = o')
  | _, _ => false
def eqL : List V → List V → Bool
  | [], [] => true
  | a :: l, b :: m => eqV a b && eqL l m
  | _, _ => false
def eqE : List (List V) → List (List V) → Bool
  | [], [] => true
  | a :: l, b :: m => eqL a b && eqE l m
  | _, _ => false
end
theorem eqV_all : (∀ x y, eqV x y = true → x = y) := by
  refine fun x => V.rec (motive_1 := fun x => ∀ y, eqV x y = true → x = y) (motive_2 := fun xs => ∀ ys, eqL xs ys = true → xs = ys) (motive_3 := fun xs => ∀ ys, eqE xs ys = true → xs = ys)
    ?_ ?_ ?_ ?_ ?_ ?_ ?_ ?_ ?_ ?_ ?_ ?_ ?_ ?_ ?_ ?_ ?_ ?_ ?_ ?_ ?_ ?_ ?_ x
  case refine_5 => intro a ih y h; cases y <;> simp only [eqV, Bool.false_eq_true] at h; rw [ih _ h]
  case refine_6 => intro a ih y h; cases y <;> simp only [eqV, Bool.false_eq_true] at h; rw [ih _ h]
  case refine_8 => intro z a ih y h; cases y <;> simp only [eqV, Bool.false_eq_true, Bool.and_eq_true, decide_eq_true_eq] at h; rw [h.1, ih _ h.2]
  case refine_9 => intro z a ih y h; cases y <;> simp only [eqV, Bool.false_eq_true, Bool.and_eq_true, decide_eq_true_eq] at h; rw [h.1, ih _ h.2]
  case refine_13 => intro f a l iha ihl y h; cases y <;> simp only [eqV, Bool.false_eq_true] at h
  case refine_14 => intro i z a ih y h; cases y <;> simp only [eqV, Bool.false_eq_true, Bool.and_eq_true, decide_eq_true_eq] at h; rw [h.1.1, h.1.2, ih _ h.2]
  case refine_20 => intro ys h; cases ys <;> simp only [eqL, Bool.false_eq_true] at h; rfl
  case refine_21 => intro a l iha ihl ys h; cases ys <;> simp only [eqL, Bool.false_eq_true, Bool.and_eq_true] at h; rw [iha _ h.1, ihl _ h.2]
  case refine_22 => intro ys h; cases ys <;> simp only [eqE, Bool.false_eq_true] at h; rfl
  case refine_23 => intro a l iha ihl ys h; cases ys <;> simp only [eqE, Bool.false_eq_true, Bool.and_eq_true] at h; rw [iha _ h.1, ihl _ h.2]
  all_goals (intros; rename_i y h; cases y <;> simp_all [eqV])
theorem eqL_sound : ∀ (xs ys : List V), eqL xs ys = true → xs = ys
  | [], [], _ => rfl
  | [], _ :: _, h => by simp [eqL] at h
  | _ :: _, [], h => by simp [eqL] at h
  | a :: l, b :: m, h => by simp only [eqL, Bool.and_eq_true] at h; rw [eqV_all _ _ h.1, eqL_sound _ _ h.2]
theorem eqE_sound : ∀ (xs ys : List (List V)), eqE xs ys = true → xs = ys
  | [], [], _ => rfl
  | [], _ :: _, h => by simp [eqE] at h
  | _ :: _, [], h => by simp [eqE] at h
  | a :: l, b :: m, h => by simp only [eqE, Bool.and_eq_true] at h; rw [eqL_sound _ _ h.1, eqE_sound _ _ h.2]
def eqM : List (V × V) → List (V × V) → Bool
  | [], [] => true
  | a :: l, b :: m => eqV a.1 b.1 && eqV a.2 b.2 && eqM l m
  | _, _ => false
theorem eqM_sound : ∀ (xs ys : List (V × V)), eqM xs ys = true → xs = ys
  | [], [], _ => rfl
  | [], _ :: _, h => by simp [eqM] at h
  | _ :: _, [], h => by simp [eqM] at h
  | (a, a') :: l, (b, b') :: m, h => by simp only [eqM, Bool.and_eq_true] at h; rw [eqV_all _ _ h.1.1, eqV_all _ _ h.1.2, eqM_sound _ _ h.2]
def eqOb : Ob → Ob → Bool
  | .cells e a, .cells e' b => decide (e = e') && eqL a b
  | .arr e z n, .arr e' z' n' => decide (e = e') && decide (z = z') && decide (n = n')
  | .map a, .map b => eqM a b
  | .dead, .dead => true
  | .row e z a, .row e' z' b => decide (e = e') && decide (z = z') && eqE a b
  | _, _ => false
theorem eqOb_sound : ∀ (x y : Ob), eqOb x y = true → x = y := by
  intro x y h
  cases x <;> cases y <;> simp only [eqOb, Bool.false_eq_true, Bool.and_eq_true, decide_eq_true_eq] at h
  · rw [h.1, eqL_sound _ _ h.2]
  · rw [h.1.1, h.1.2, h.2]
  · rw [eqM_sound _ _ h]
  · rfl
  · rw [h.1.1, h.1.2, eqE_sound _ _ h.2]
def eqH : List Ob → List Ob → Bool
  | [], [] => true
  | a :: l, b :: m => eqOb a b && eqH l m
  | _, _ => false
theorem eqH_sound : ∀ (xs ys : List Ob), eqH xs ys = true → xs = ys
  | [], [], _ => rfl
  | [], _ :: _, h => by simp [eqH] at h
  | _ :: _, [], h => by simp [eqH] at h
  | a :: l, b :: m, h => by simp only [eqH, Bool.and_eq_true] at h; rw [eqOb_sound _ _ h.1, eqH_sound _ _ h.2]

abbrev Res := Option (V × List Ob)
abbrev Go := Bool → List RV → (Nat → C) → Nat → List K → T → List Ob → Res
def bothR (a b : Res) : Res := match a with
  | some a => match b with
    | some b => if eqV a.1 b.1 && eqH a.2 b.2 then some a else none
    | none => none
  | none => none
theorem bothR_sound {a b : Res} {p : V × List Ob} (h : bothR a b = some p) : a = some p ∧ b = some p := by
  cases a with
  | none => cases h
  | some a =>
    cases b with
    | none => cases h
    | some b =>
      simp only [bothR] at h
      split at h
      case isFalse => cases h
      rename_i hq
      simp only [Option.some.injEq] at h
      subst h
      simp only [Bool.and_eq_true] at hq
      exact ⟨rfl, by rw [show a = b from Prod.ext (eqV_all _ _ hq.1) (eqH_sound _ _ hq.2)]⟩
def agree : List Res → Res
  | [] => none
  | [r] => r
  | r :: r2 :: rs => bothR r (agree (r2 :: rs))
theorem agree_sound : ∀ (l : List Res) (p : V × List Ob), agree l = some p → ∀ r ∈ l, r = some p
  | [], _, h, _, hr => by cases hr
  | [r], p, h, r', hr => by simp only [List.mem_singleton] at hr; rw [hr]; exact h
  | r :: r2 :: rs, p, h, r', hr => by
    have h' := bothR_sound (show bothR r (agree (r2 :: rs)) = some p from h)
    rcases List.mem_cons.1 hr with rfl | hr
    · exact h'.1
    · exact agree_sound (r2 :: rs) p h'.2 r' hr

mutual
def refs : V → List Nat
  | .agg cs | .tup cs => refsL cs
  | .fn _ a l => refsL a ++ refsL l
  | .own i _ _ => [i]
  | .ptr i _ => [i]
  | .map i => [i]
  | .it i => [i]
  | .rw i _ _ => [i]
  | .rp i _ _ _ => [i]
  | _ => []
def refsL : List V → List Nat
  | [] => []
  | x :: xs => refs x ++ refsL xs
end
def refsM : List (V × V) → List Nat
  | [] => []
  | p :: es => refs p.2 ++ refsM es
def refsE : List (List V) → List Nat
  | [] => []
  | x :: xs => refsL x ++ refsE xs
def refsO : Ob → List Nat
  | .cells _ cs => refsL cs
  | .map es => refsM es
  | .row _ _ els => refsE els
  | .iter (some i) _ _ => [i]
  | _ => []
def refsH : List Ob → List Nat
  | [] => []
  | o :: H => refsO o ++ refsH H
def memN (i : Nat) : List Nat → Bool
  | [] => false
  | j :: l => Nat.beq i j || memN i l
def reach (B : Nat) (H : List Ob) : Nat → List Nat → List Nat → List Nat
  | 0, _, acc => acc
  | _ + 1, [], acc => acc
  | n + 1, i :: l, acc => bif Nat.blt i B || memN i acc then reach B H n l acc else reach B H n (refsO (H.getD i .dead) ++ l) (acc ++ [i])
/-- The objects that are handed on are new ones, each once. -/
def okEx (B n : Nat) : List Nat → Bool
  | [] => true
  | i :: l => Nat.ble B i && Nat.blt i n && !memN i l && okEx B n l
theorem memN_iff : ∀ {l : List Nat} {i : Nat}, memN i l = true ↔ i ∈ l
  | [], i => by simp [memN]
  | j :: l, i => by simp [memN, memN_iff, Nat.beq_eq]
theorem okEx_sound {B n : Nat} : ∀ {ex : List Nat}, okEx B n ex = true → (∀ i ∈ ex, B ≤ i ∧ i < n) ∧ ex.Nodup
  | [], _ => ⟨fun _ h => (by cases h), List.nodup_nil⟩
  | j :: l, h => by
    simp only [okEx, Bool.and_eq_true, Bool.not_eq_true', Nat.ble_eq, Nat.blt_eq] at h
    obtain ⟨⟨⟨h1, h2⟩, h3⟩, h4⟩ := h
    obtain ⟨k1, k2⟩ := okEx_sound h4
    refine ⟨fun i hi => ?_, List.nodup_cons.2 ⟨fun hm => ?_, k2⟩⟩
    · rcases List.mem_cons.1 hi with rfl | hi
      · exact ⟨h1, h2⟩
      · exact k1 i hi
    · rw [← memN_iff, h3] at hm; cases hm
def fin (pure : Bool) (rs : List RV) (B : Nat) (t : T) (H : List Ob) : Res :=
  match retV rs t H with
  | none => none
  | some x => bif pure then (match B with | 0 => some (ren (fun _ => none) x, []) | _ => none) else
    match reach B H 1000 (refs x ++ refsH (H.take B)) [] with
    | ex => bif okEx B H.length ex then some (ren (pos? (List.range B ++ ex)) x, give (List.range B ++ ex) H) else none
theorem fin_sound {pure : Bool} {rs : List RV} {B : Nat} {t : T} {H : List Ob} {x : V} {Hr : List Ob} (h : fin pure rs B t H = some (x, Hr)) {e : X} (he : e = .ret ∨ e = .fall) : Ends B rs (fun x' H' => x' = x ∧ H' = Hr) e t H := by
  unfold fin at h
  split at h
  case h_1 => cases h
  rename_i y hy
  cases pure with
  | true =>
    simp only [cond_true] at h
    split at h
    case h_2 => cases h
    cases h
    exact ends_nil he hy ⟨rfl, rfl⟩
  | false =>
    simp only [cond_false] at h
    cases hk : okEx B H.length (reach B H 1000 (refs y ++ refsH (H.take B)) []) with
    | false => rw [hk] at h; cases h
    | true =>
      rw [hk] at h
      cases h
      obtain ⟨k1, k2⟩ := okEx_sound hk
      refine ends_ex he _ ?_ (fun i hi => (k1 i hi).2) hy ⟨rfl, rfl⟩
      rw [List.nodup_append]
      exact ⟨List.nodup_range, k2, fun a ha b hb e => by subst e; have := List.mem_range.1 ha; have := (k1 _ hb).1; omega⟩

/-- A function's text. -/
structure FD where
  nd : Nat → C
  c : C
  n : Nat
  rs : List RV
abbrev Code := Nat → Option FD
abbrev Prims := Nat → List V → List Ob → Res
def callI (code : Code) (prims : Prims) (ih : Go) (pure : Bool) (f : Nat) (args : List V) (H : List Ob) : Res :=
  match prims f args H with
  | some r => some r
  | none => match code f with
    | some fd => bif Nat.beq args.length fd.n then ih pure fd.rs fd.nd H.length [.c fd.c] (ini 0 args) H else none
    | none => none
def nxK (seen : List Nat) (k : Nat) : List (V × V) → List (Nat × V × V)
  | [] => []
  | p :: es => bif memN k seen then nxK seen (k + 1) es else (k, p) :: nxK seen (k + 1) es
def allSeen (seen : List Nat) : Nat → Bool
  | 0 => true
  | n + 1 => memN n seen && allSeen seen n
def step (code : Code) (prims : Prims) (ih : Go) (pure : Bool) (rs : List RV) (N : Nat → C) (B : Nat) (s : List K) (t : T) (H : List Ob) : Res :=
  match s with
  | [] => fin pure rs B t H
  | .c c :: s => match c with
    | .skip => ih pure rs N B s t H
    | .seq a b => ih pure rs N B (.c a :: .c b :: s) t H
    | .reg l => ih pure rs N B (.r l :: s) t H
    | .dr _ l => ih pure rs N B (.r l :: s) t H
    | .gh l c => ih pure rs N B (.r (l.map .op) :: .c c :: s) t H
    | .cond x a b => match ev t x with
      | .bool c => ih pure rs N B (.c (if c then a else b) :: s) t H
      | _ => none
    | .blk id a => ih pure rs N B (.c a :: .mk id :: s) t H
    | .loop a => ih pure rs N B (.c a :: .c (.loop a) :: s) t H
    | .exit id => match popTo id s with
      | some s' => ih pure rs N B s' t H
      | none => none
    | .ret => fin pure rs B t H
    | .n k => ih pure rs N B (.c (N k) :: s) t H
    | .m k => ih pure rs N B (.c (N k) :: s) t H
    | _ => none
  | .mk _ :: s => ih pure rs N B s t H
  | .br .. :: _ => none
  | .r l :: s => match l with
    | [] => ih pure rs N B s t H
    | .op i :: l => match exec B i t H with
      | some (t', H') => ih pure rs N B (.r l :: s) t' H'
      | none => none
    | .call d f args :: l => match callI code prims ih false f (args.map (ev t)) H with
      | some (x, H') => ih pure rs N B (.r l :: s) (setO d x t) H'
      | none => none
    | .callv d g args :: l => match ev t g with
      | .fn (.func f) fst caps => match callI code prims ih false f (fst ++ args.map (ev t) ++ caps) H with
        | some (x, H') => ih pure rs N B (.r l :: s) (setO d x t) H'
        | none => none
      | _ => none
    | .callp d f args :: l => match callI code prims ih true f (rens (fun _ => none) (args.map (ev t))) [] with
      | some (x, []) => ih pure rs N B (.r l :: s) (setO d (ren (fun _ => none) x) t) H
      | _ => none
    | .callvp d g args :: l => match ev t g with
      | .fn (.func f) fst caps => match callI code prims ih true f (rens (fun _ => none) (fst ++ args.map (ev t) ++ caps)) [] with
        | some (x, []) => ih pure rs N B (.r l :: s) (setO d (ren (fun _ => none) x) t) H
        | _ => none
      | _ => none
    | .gd x b ds g :: l => match ev t x with
      | .bool c => ih pure rs N B (.r ((if c = b then g else []) ++ l) :: s) (if c = b then t else ds.map (fun d => (d, V.tup [])) ++ t) H
      | .tup [] => ih pure rs N B (.r l :: s) (ds.map (fun d => (d, V.tup [])) ++ t) H
      | _ => none
    | .alt ls :: l => match l with
      | [] => agree (ls.map fun p => ih pure rs N B (.r p.2 :: s) t H)
      | _ => none
    | .nl d ne x :: l => match elV (ev t x) with
      | some [] => agree [ih pure rs N B (.r l :: s) ((d, .bool (true != ne)) :: t) H, ih pure rs N B (.r l :: s) ((d, .bool (false != ne)) :: t) H]
      | some _ => ih pure rs N B (.r l :: s) ((d, .bool (false != ne)) :: t) H
      | none => none
    | .nx d x :: l => match ev t x with
      | .it j => match H[j]? with
        | some (.iter (some i) n seen) => match H[i]? with
          | some (.map es) => if n = es.length then
              bif allSeen seen n then ih pure rs N B (.r l :: s) ((d, .tup [.bool false]) :: t) H
              else agree ((nxK seen 0 es).map fun p => ih pure rs N B (.r l :: s) ((d, .tup [.bool true, p.2.1, p.2.2]) :: t) (H.set j (.iter (some i) n (seen ++ [p.1]))))
            else none
          | _ => none
        | _ => none
      | _ => none
def go (code : Code) (prims : Prims) : Nat → Go
  | 0 => fun _ _ _ _ _ _ _ => none
  | n + 1 => step code prims (go code prims n)

section
variable {P : Program} {code : Code} {prims : Prims}
def Snd (P : Program) (g : Go) : Prop := ∀ pure rs N B s t H x Hr, g pure rs N B s t H = some (x, Hr) → Run P N B s t H (Ends B rs fun x' H' => x' = x ∧ H' = Hr)
theorem callI_sound (hm : P.follows .mixedOrders = true) (hc : ∀ f fd, code f = some fd → okF P f fd.nd fd.c fd.n fd.rs = true)
    (hp : ∀ f args H x H', prims f args H = some (x, H') → Spec P f args H fun x' H'' => x' = x ∧ H'' = H') {ih : Go} (hi : Snd P ih) {pure : Bool} {f : Nat} {args : List V} {H : List Ob} {x : V} {H' : List Ob}
    (h : callI code prims ih pure f args H = some (x, H')) : Spec P f args H fun x' H'' => x' = x ∧ H'' = H' := by
  unfold callI at h
  split at h
  case h_1 r hr =>
    cases h
    exact hp _ _ _ _ _ hr
  split at h
  case h_2 => cases h
  rename_i fd hfd
  cases hl : Nat.beq args.length fd.n with
  | false => rw [hl] at h; cases h
  | true =>
    rw [hl] at h
    exact spec_of_run hm (hc _ _ hfd) (Nat.eq_of_beq_eq_true hl) (hi _ _ _ _ _ _ _ _ _ h)
theorem allSeen_of : ∀ {n : Nat} {seen : List Nat}, (∀ k, k < n → k ∈ seen) → allSeen seen n = true
  | 0, _, _ => rfl
  | n + 1, seen, h => by simp only [allSeen, Bool.and_eq_true]; exact ⟨memN_iff.2 (h n (by omega)), allSeen_of fun k hk => h k (by omega)⟩
theorem allSeen_to : ∀ {n : Nat} {seen : List Nat}, allSeen seen n = true → ∀ k, k < n → k ∈ seen
  | 0, _, _, k, hk => by omega
  | n + 1, seen, h, k, hk => by
    simp only [allSeen, Bool.and_eq_true] at h
    rcases Nat.lt_succ_iff_lt_or_eq.1 hk with h1 | rfl
    · exact allSeen_to h.2 k h1
    · exact memN_iff.1 h.1
theorem nxK_mem {seen : List Nat} : ∀ {es : List (V × V)} {j k : Nat} {p : V × V}, es[k]? = some p → j + k ∉ seen → (j + k, p) ∈ nxK seen j es
  | [], j, k, p, h, _ => by simp at h
  | q :: es, j, 0, p, h, hn => by
    simp only [List.getElem?_cons_zero, Option.some.injEq] at h
    subst h
    cases hm : memN j seen with
    | true => exact absurd (memN_iff.1 hm) hn
    | false => simp only [nxK, hm, cond_false]; exact List.mem_cons_self
  | q :: es, j, k + 1, p, h, hn => by
    simp only [List.getElem?_cons_succ] at h
    have := nxK_mem (seen := seen) (j := j + 1) h (by rw [show j + 1 + k = j + (k + 1) by omega]; exact hn)
    rw [show j + 1 + k = j + (k + 1) by omega] at this
    cases hm : memN j seen with
    | true => simp only [nxK, hm, cond_true]; exact this
    | false => simp only [nxK, hm, cond_false]; exact List.mem_cons_of_mem _ this
theorem step_sound (hm : P.follows .mixedOrders = true) (hc : ∀ f fd, code f = some fd → okF P f fd.nd fd.c fd.n fd.rs = true)
    (hp : ∀ f args H x H', prims f args H = some (x, H') → Spec P f args H fun x' H'' => x' = x ∧ H'' = H') {ih : Go} (hi : Snd P ih) : Snd P (step code prims ih) := by
  intro pure rs N B s t H x Hr h
  have hi' : ∀ {s t H}, ih pure rs N B s t H = some (x, Hr) → Run P N B s t H (Ends B rs fun x' H' => x' = x ∧ H' = Hr) := fun h => hi _ _ _ _ _ _ _ _ _ h
  unfold step at h
  split at h
  · exact .done (fin_sound h (.inr rfl))
  · split at h
    · exact .skip (hi' h)
    · exact .seq (hi' h)
    · exact .reg (hi' h)
    · exact .dr (hi' h)
    · exact .gh (hi' h)
    · split at h
      case h_2 => cases h
      rename_i c hv
      exact .cond c hv (hi' h)
    · exact .blk (hi' h)
    · exact .loop (hi' h)
    · split at h
      case h_2 => cases h
      rename_i s' hs
      exact .exit s' hs (hi' h)
    · exact .ret (fin_sound h (.inl rfl))
    · exact .n (hi' h)
    · exact .m (hi' h)
    · cases h
  · exact .mk (hi' h)
  · cases h
  · split at h
    · exact .rend (hi' h)
    · split at h
      case h_2 => cases h
      rename_i t' H' he
      exact .op t' H' he (hi' h)
    · split at h
      case h_2 => cases h
      rename_i y H' he
      exact .callA _ (callI_sound hm hc hp hi he) (by rintro _ _ ⟨rfl, rfl⟩; exact hi' h)
    · split at h
      case h_2 => cases h
      rename_i f fst caps hv
      split at h
      case h_2 => cases h
      rename_i y H' he
      exact .callvA (.func f) fst caps (fun x' H'' => x' = y ∧ H'' = H') hv (.inl ⟨f, rfl⟩) (specF_func ▸ callI_sound hm hc hp hi he) (by rintro _ _ ⟨rfl, rfl⟩; exact hi' h)
    · split at h
      case h_2 => cases h
      rename_i y he
      exact .callp y (callI_sound hm hc hp hi he) (hi' h)
    · split at h
      case h_2 => cases h
      rename_i f fst caps hv
      split at h
      case h_2 => cases h
      rename_i y he
      exact .callvp f fst caps y hv (callI_sound hm hc hp hi he) (hi' h)
    · split at h
      · rename_i c hv
        exact .gd c hv (hi' h)
      · rename_i hv
        exact .gdU hv (hi' h)
      · cases h
    · split at h
      case h_2 => cases h
      refine .alt fun p hp' => hi' (agree_sound _ _ h _ (List.mem_map.2 ⟨p, hp', rfl⟩))
    · split at h
      · rename_i he
        refine .nl [] he fun c _ => ?_
        have h2 := agree_sound _ _ h
        cases c with
        | true => exact hi' (h2 _ (by simp))
        | false => exact hi' (h2 _ (by simp))
      · rename_i els hne he
        refine .nl els he fun c hcc => ?_
        cases c with
        | true => exact absurd (hcc rfl) (fun e => hne (by rw [← e]))
        | false => exact hi' h
      · cases h
    · split at h
      case h_2 => cases h
      rename_i j hv
      split at h
      case h_2 => cases h
      rename_i i n seen h1
      split at h
      case h_2 => cases h
      rename_i es h2
      split at h
      case isFalse => cases h
      rename_i hn
      refine .nx j i n seen es hv h1 h2 hn (fun hs => ?_) fun k p hk hk2 => ?_
      · rw [allSeen_of hs] at h
        exact hi' h
      · cases hall : allSeen seen n with
        | true =>
          have hlt := (List.getElem?_eq_some_iff.1 hk).1
          exact absurd (allSeen_to hall k (by omega)) hk2
        | false =>
          rw [hall] at h
          have := agree_sound _ _ h _ (List.mem_map.2 ⟨(k, p), by simpa using nxK_mem (j := 0) hk (by simpa using hk2), rfl⟩)
          exact hi' this
theorem go_sound (hm : P.follows .mixedOrders = true) (hc : ∀ f fd, code f = some fd → okF P f fd.nd fd.c fd.n fd.rs = true)
    (hp : ∀ f args H x H', prims f args H = some (x, H') → Spec P f args H fun x' H'' => x' = x ∧ H'' = H') : ∀ n, Snd P (go code prims n)
  | 0 => fun _ _ _ _ _ _ _ _ _ h => by cases h
  | n + 1 => step_sound hm hc hp (go_sound hm hc hp n)
/-- A closed call. -/
theorem run_closed (hm : P.follows .mixedOrders = true) (hc : ∀ f fd, code f = some fd → okF P f fd.nd fd.c fd.n fd.rs = true)
    (hp : ∀ f args H x H', prims f args H = some (x, H') → Spec P f args H fun x' H'' => x' = x ∧ H'' = H') (n : Nat) {f : Nat} {args : List V} {x : V}
    (h : callI code prims (go code prims n) true f args [] = some (x, [])) : Spec P f args [] fun x' H' => x' = x ∧ H' = [] :=
  callI_sound hm hc hp (go_sound hm hc hp n) h
end
end Go.Dw
end
