/-
  The reader of the printed functions, second part: steps and loops.
-/
import Derived.Test.YtokdinonifchaaaGreatDa
import Derived.Laws.Slices
import Derived.Laws.BytesArg
import Derived.Laws.IdiomStrings
section
set_option linter.unusedVariables false
set_option linter.unusedSimpArgs false
namespace Go.Dw
section
variable {P : Program} {c0 : Cx} {N : Nat} {D : List Deferred} {o : Oper} {a : Act} {w : World} {t : T} {H : List Ob}

theorem run_part_plain' {ty off : Nat} (hp : plainB P ty = true) {cs : Array Value} {v : Value} (h : cs[off]? = some v) (w : World) : (part ty cs off).run P w = .ok v w := by
  simp [part, run_isAgg_false hp, h]
theorem run_part_agg' {ty off k : Nat} (hp : aggB P ty = true) (hk : sizeB P ty k = true) {cs : Array Value} (w : World) : (part ty cs off).run P w = .ok (.agg (cs.extract off (off + k))) w := by
  simp [part, run_isAgg_true hp, run_sizeOf_k hk]
def partB (P : Program) (ty : Nat) : Option Nat → Bool
  | none => plainB P ty
  | some k => aggB P ty && sizeB P ty k
def lenK : Option Nat → Nat
  | none => 1
  | some k => k
/-- A part of a value. -/
theorem fdV_part {c : Cx} {off : Nat} {k : Option Nat} {p r : V} {ty : Nat} (h : fdV off k p = some r) (hk : partB P ty k = true) {v : Value} (hr : rep c p v) :
    ∃ cs u, v = .agg cs ∧ (∀ w, (part ty cs off).run P w = .ok u w) ∧ rep c r u := by
  cases p <;> simp only [fdV, reduceCtorEq] at h
  obtain ⟨vs, rfl, h2, h3⟩ := hr
  cases k with
  | none =>
    obtain ⟨u, q1, q2⟩ := repL_get h2 h
    exact ⟨vs, u, rfl, run_part_plain' hk (by simpa using q1), q2⟩
  | some k =>
    simp only [partB, Bool.and_eq_true] at hk
    simp only at h
    split at h
    · rename_i hl
      cases h
      refine ⟨vs, _, rfl, run_part_agg' hk.1 hk.2, _, rfl, ?_, ?_⟩
      · have := repL_take k (repL_drop off h2)
        simpa [sub] using this
      · intro u hu
        apply h3
        have : u ∈ (vs.toList.drop off).take k := by simpa using hu
        exact List.mem_of_mem_drop (List.mem_of_mem_take this)
    · cases h
def fldB (P : Program) (t f off : Nat) (k : Option Nat) : Bool := match P.underlying t with
  | some (.struct fs) => match fs[f]? with
    | some g => g.offset == off && partB P g.type k
    | none => false
  | _ => false
theorem does_fd {d off ty f : Nat} {k : Option Nat} {x : O} {y : Operand} {r : V} (hs : Sm c0 N D t H a w) (hd : o.dst = some d) (hn : d < N) (ho : o.op = .field ty y f) (hf : fldB P ty f off k = true) (hx : okO y x = true) (hr : fdV off k (ev t x) = some r) :
    Does P c0 N D o a w ((d, r) :: t) H := by
  unfold fldB at hf
  cases hu : P.underlying ty with
  | none => simp [hu] at hf
  | some ds =>
    cases ds <;> simp only [hu, Bool.false_eq_true] at hf
    rename_i fs
    cases hg : fs[f]? with
    | none => simp [hg] at hf
    | some g =>
      simp only [hg, Bool.and_eq_true, beq_iff_eq] at hf
      obtain ⟨hf1, hf2⟩ := hf
      obtain ⟨c, _, _, _, _, hrep⟩ := sm_rep hs hx
      obtain ⟨cs, u, q1, q2, q3⟩ := fdV_part (P := P) hr hf2 hrep
      refine does_val hs hd hn (v := u) ?_ (fun c' _ _ h7 _ => ?_)
      · simp only [execOp, ho, Instr.field, Sem.run_bind, run_underlying hu, Result.andThen_ok, hg, q1, asAgg, Sem.run_pure, hf1, q2]
      · obtain ⟨cs', u', p1, p2, p3⟩ := fdV_part (P := P) hr hf2 (ev_rep h7 hx)
        rw [q1] at p1; cases p1
        have := (q2 w).symm.trans (p2 w)
        cases this; exact p3
theorem does_ixa {d ty e sz n : Nat} {k : Option Nat} {x i : O} {xo io : Operand} {r : V} (hs : Sm c0 N D t H a w) (hd : o.dst = some d) (hn : d < N) (ho : o.op = .index ty xo io) (hu : P.underlying ty = some (.array n e)) (hsz : sizeB P e sz = true)
    (hk' : partB P e k = true) (hx : okO xo x = true) (hi : okO io i = true) (hr : ixaV sz n k (ev t x) (ev t i) = some r) : Does P c0 N D o a w ((d, r) :: t) H := by
  obtain ⟨_, _, c, _, _, _, _, h7⟩ := id hs
  cases h1 : ev t i <;> simp only [h1, ixaV, reduceCtorEq] at hr
  rename_i ki m
  split at hr
  · rename_i h0
    have q1 := ev_rep h7 hi
    rw [h1] at q1
    have hv : a.eval io = .int ki m := q1
    obtain ⟨cs, u, q1, q2, q3⟩ := fdV_part (P := P) hr hk' (ev_rep h7 hx)
    refine does_val hs hd hn (v := u) ?_ (fun c' _ _ h7' _ => ?_)
    · simp only [execOp, ho, Instr.index, hv, asIntOf, Sem.run_bind, Sem.run_pure, Result.andThen_ok, run_underlying hu, q1]
      rw [if_pos ⟨h0.1, by omega⟩]
      simp only [Sem.run_bind, run_sizeOf_k hsz, Result.andThen_ok, q2, Sem.run_pure]
    · obtain ⟨cs', u', p1, p2, p3⟩ := fdV_part (P := P) hr hk' (ev_rep h7' hx)
      rw [q1] at p1; cases p1
      have := (q2 w).symm.trans (p2 w)
      cases this; exact p3
  · cases hr
def arIxB (P : Program) (ty n e : Nat) : Bool := match P.underlying ty with
  | some (.array n' e') => n == n' && e == e'
  | _ => false
theorem arIxB_eq {P : Program} {ty n e : Nat} (h : arIxB P ty n e = true) : P.underlying ty = some (.array n e) := by
  unfold arIxB at h
  cases hu : P.underlying ty with
  | none => simp [hu] at h
  | some d => cases d <;> simp [hu] at h; rw [h.1, h.2]
def arrE (P : Program) (ty : Nat) : Nat := match P.underlying ty with
  | some (.array _ e) => e
  | _ => 0

theorem eqGuard_plain {op : BinOp} {ty : TypeId} {x y : Operand} {u v : Value} (h : (∃ k n, u = .int k n) ∨ (∃ s, u = .string s) ∨ (∃ b, u = .bool b)) : (eqGuard op ty x y u v).run P w = .ok () w := by
  unfold eqGuard
  rcases h with ⟨k, n, rfl⟩ | ⟨s, rfl⟩ | ⟨b, rfl⟩ <;> cases op <;> simp

theorem toList_data (s : ByteArray) : s.toList = s.data.toList := by
  have key : ∀ (n i : Nat) (r : List UInt8), s.size - i = n → i ≤ s.size → ByteArray.toList.loop s i r = r.reverse ++ s.data.toList.drop i := by
    intro n
    induction n with
    | zero =>
      intro i r h1 h2
      unfold ByteArray.toList.loop
      have : s.data.toList.length = s.size := by simp
      rw [if_neg (by omega), List.drop_eq_nil_of_le (by omega), List.append_nil]
    | succ n ih =>
      intro i r h1 h2
      unfold ByteArray.toList.loop
      have hs : i < s.data.toList.length := by have : s.data.toList.length = s.size := by simp
                                               omega
      rw [if_pos (by omega), ih (i + 1) _ (by omega) (by omega), List.drop_eq_getElem_cons hs]
      have : s.get! i = s.data.toList[i] := by
        have h3 : i < s.data.size := by simpa using hs
        simp [ByteArray.get!, getElem!_pos s.data i h3]
      simp [this]
  have := key s.size 0 [] (by omega) (by omega)
  simpa [ByteArray.toList] using this

theorem run_equalIn_bool {ty : TypeId} (hu : P.underlying ty = some .bool) (b b' : Bool) (w : World) (d : Nat) : (Op.equalIn (d + 1) ty (.bool b) (.bool b')).run P w = .ok (b == b') w := by
  simp only [Op.equalIn, Sem.run_bind, run_underlying hu, Result.andThen_ok, Sem.run_pure]
theorem run_equal_bool {ty : TypeId} (hu : P.underlying ty = some .bool) (b b' : Bool) (w : World) : (Op.equal ty (.bool b) (.bool b')).run P w = .ok (b == b') w := by
  exact run_equalIn_bool hu b b' w 9999

theorem binV_run {op : BinOp} {ty : TypeId} {x y : Operand} {p q r : V} {u v : Value} {c : Cx} (h : binV op p q = some r) (hp : rep c p u) (hq : rep c q v) :
    ∃ z, (do eqGuard op ty x y u v; binOp op ty u v : Sem Value).run P w = .ok z w ∧ ∀ c', rep c' r z := by
  unfold binV at h
  split at h
  · rename_i k n k' n'
    cases hp; cases hq
    split at h
    · rename_i hk
      subst hk
      have hg := eqGuard_plain (P := P) (w := w) (op := op) (ty := ty) (x := x) (y := y) (u := .int k n) (v := .int k n') (.inl ⟨_, _, rfl⟩)
      cases op <;> simp only [intCmpV, Option.some.injEq, reduceCtorEq] at h
      case quo =>
        split at h
        · cases h
        · rename_i hz
          cases h
          simp [hg, binOp, Op.intDiv, hz, rep]
      case rem =>
        split at h
        · cases h
        · rename_i hz
          cases h
          simp [hg, binOp, Op.intDiv, hz, rep]
      all_goals subst h <;> simp [hg, binOp, Op.intArith, Op.intCmp, rep] <;> (refine ⟨_, rfl, ?_⟩; intro c'; first | rfl | simp [rep])
    · cases h
  · rename_i s s'
    cases hp; cases hq
    have hg := eqGuard_plain (P := P) (w := w) (op := op) (ty := ty) (x := x) (y := y) (u := .string ⟨⟨s⟩⟩) (v := .string ⟨⟨s'⟩⟩) (.inr (.inl ⟨_, rfl⟩))
    have e1 : (⟨⟨s⟩⟩ : ByteArray).toList = s := toList_data _
    have e2 : (⟨⟨s'⟩⟩ : ByteArray).toList = s' := toList_data _
    cases op <;> simp only [strOpV, Option.some.injEq, reduceCtorEq] at h
    case add =>
      split at h
      · rename_i hl
        cases h
        refine ⟨.string (⟨⟨s⟩⟩ ++ ⟨⟨s'⟩⟩), ?_, fun c' => ?_⟩
        · have h63 : ¬ (((⟨⟨s⟩⟩ : ByteArray).size + (⟨⟨s'⟩⟩ : ByteArray).size : Nat) : Int) > IntKind.i64.max := by
            have h1 : (⟨⟨s⟩⟩ : ByteArray).size = s.length := rfl
            have h2 : (⟨⟨s'⟩⟩ : ByteArray).size = s'.length := rfl
            rw [h1, h2]; unfold capMax at hl; simp [IntKind.max, IntKind.signed, IntKind.bits]; omega
          simp only [Sem.run_bind, hg, Result.andThen_ok, binOp, Op.stringOp, if_neg h63, Sem.run_pure]
        · show _ = Value.string _
          congr 1
      · cases h
    all_goals subst h; simp [hg, binOp, Op.stringOp, e1, e2, rep]; (try (refine ⟨_, rfl, ?_⟩; intro c'; rfl)); (try (intro c'; cases h : (s == s') <;> simp_all [bne]))
  · cases h

theorem bbV_run {op : BinOp} {ty : TypeId} {x y : Operand} {p q r : V} {u v : Value} {c : Cx} (h : bbV op p q = some r) (hp : rep c p u) (hq : rep c q v) (hu : P.underlying ty = some .bool) :
    ∃ z, (do eqGuard op ty x y u v; binOp op ty u v : Sem Value).run P w = .ok z w ∧ ∀ c', rep c' r z := by
  unfold bbV at h
  split at h
  · rename_i b b'
    cases hp; cases hq
    have hg := eqGuard_plain (P := P) (w := w) (op := op) (ty := ty) (x := x) (y := y) (u := .bool b) (v := .bool b') (.inr (.inr ⟨_, rfl⟩))
    cases op <;> simp only [Option.some.injEq, reduceCtorEq] at h <;> subst h
    · exact ⟨.bool (b == b'), by simp only [Sem.run_bind, hg, Result.andThen_ok, binOp, run_equal_bool hu, Sem.run_pure], fun c' => rfl⟩
    · exact ⟨.bool (!(b == b')), by simp only [Sem.run_bind, hg, Result.andThen_ok, binOp, run_equal_bool hu, Sem.run_pure], fun c' => rfl⟩
  · cases h

theorem does_bb {d ty ty2 : Nat} {op : BinOp} {x y : O} {xo yo : Operand} {r : V} (hs : Sm c0 N D t H a w) (hd : o.dst = some d) (hn : d < N) (ho : o.op = .binOp op ty xo yo ty2) (hx : okO xo x = true) (hy : okO yo y = true)
    (hr : bbV op (ev t x) (ev t y) = some r) (hu : P.underlying ty = some .bool) : Does P c0 N D o a w ((d, r) :: t) H := by
  obtain ⟨_, _, c, _, _, _, _, h7⟩ := id hs
  obtain ⟨z, h1, h2⟩ := bbV_run (P := P) (w := w) (op := op) (ty := ty) (x := xo) (y := yo) hr (ev_rep h7 hx) (ev_rep h7 hy) hu
  refine does_val hs hd hn (v := z) ?_ (fun c' _ _ _ _ => h2 c')
  simp only [execOp, ho]
  rw [Sem.run_bind, h1]
  rfl

theorem does_bin {d ty ty2 : Nat} {op : BinOp} {x y : O} {xo yo : Operand} {r : V} (hs : Sm c0 N D t H a w) (hd : o.dst = some d) (hn : d < N) (ho : o.op = .binOp op ty xo yo ty2) (hx : okO xo x = true) (hy : okO yo y = true)
    (hr : binV op (ev t x) (ev t y) = some r) : Does P c0 N D o a w ((d, r) :: t) H := by
  obtain ⟨_, _, c, _, _, _, _, h7⟩ := id hs
  obtain ⟨z, h1, h2⟩ := binV_run (P := P) (w := w) (op := op) (ty := ty) (x := xo) (y := yo) hr (ev_rep h7 hx) (ev_rep h7 hy)
  refine does_val hs hd hn (v := z) ?_ (fun c' _ _ _ _ => h2 c')
  simp only [execOp, ho]
  rw [Sem.run_bind, h1]
  rfl

theorem does_sh {d ty ty2 : Nat} {op : BinOp} {x y : O} {xo yo : Operand} {r : V} (hs : Sm c0 N D t H a w) (hd : o.dst = some d) (hn : d < N) (ho : o.op = .binOp op ty xo yo ty2) (hx : okO xo x = true) (hy : okO yo y = true)
    (hr : shV op (ev t x) (ev t y) = some r) : Does P c0 N D o a w ((d, r) :: t) H := by
  obtain ⟨_, _, c, _, _, _, _, h7⟩ := id hs
  have q1 := ev_rep h7 hx
  have q2 := ev_rep h7 hy
  unfold shV at hr
  split at hr
  case h_2 => cases hr
  rename_i k n k' m h1 h2
  rw [h1] at q1
  rw [h2] at q2
  have hv1 : a.eval xo = .int k n := q1
  have hv2 : a.eval yo = .int k' m := q2
  split at hr
  case isTrue => cases hr
  rename_i hm
  have hg := eqGuard_plain (P := P) (w := w) (op := op) (ty := ty) (x := xo) (y := yo) (u := .int k n) (v := .int k' m) (.inl ⟨_, _, rfl⟩)
  split at hr
  · cases hr
    exact does_val hs hd hn (v := .int k (k.wrap (n * 2 ^ (min m.toNat k.bits)))) (by simp only [execOp, ho, hv1, hv2]; rw [Sem.run_bind, Sem.run_bind, hg]; simp [binOp, Op.shift, hm]) (fun c' _ _ _ _ => rfl)
  · cases hr
    exact does_val hs hd hn (v := .int k (n.fdiv (2 ^ (min m.toNat k.bits)))) (by simp only [execOp, ho, hv1, hv2]; rw [Sem.run_bind, Sem.run_bind, hg]; simp [binOp, Op.shift, hm]) (fun c' _ _ _ _ => rfl)
  · cases hr

theorem does_un {d ty : Nat} {op : UnOp} {x : O} {xo : Operand} {r : V} (hs : Sm c0 N D t H a w) (hd : o.dst = some d) (hn : d < N) (ho : o.op = .unOp op ty xo) (hx : okO xo x = true)
    (hr : unV op (ev t x) = some r) : Does P c0 N D o a w ((d, r) :: t) H := by
  obtain ⟨c, _, _, _, _, hrep⟩ := sm_rep hs hx
  unfold unV at hr
  split at hr
  · rename_i b hb
    cases hr
    rw [hb] at hrep
    have hv : a.eval xo = .bool b := hrep
    exact does_val hs hd hn (v := .bool !b) (by simp [execOp, ho, Op.unary, hv]) (fun c' _ _ _ _ => rfl)
  · rename_i k n hb
    cases hr
    rw [hb] at hrep
    have hv : a.eval xo = .int k n := hrep
    exact does_val hs hd hn (v := .int k (k.wrap (0 - n))) (by simp [execOp, ho, Op.unary, Op.intArith, hv]) (fun c' _ _ _ _ => rfl)
  · cases hr

theorem does_cvi {d ty ty2 : Nat} {k k' : IntKind} {n : Int} {x : O} {xo : Operand} {ds : TypeDesc} (hs : Sm c0 N D t H a w) (hd : o.dst = some d) (hn : d < N) (ho : o.op = .convert ty ty2 xo) (hx : okO xo x = true)
    (hu : P.underlying ty = some ds) (hu2 : P.underlying ty2 = some (.int k)) (hr : ev t x = .int k' n) : Does P c0 N D o a w ((d, .int k (k.wrap n)) :: t) H := by
  obtain ⟨c, _, _, _, _, hrep⟩ := sm_rep hs hx
  rw [hr] at hrep
  have hv : a.eval xo = .int k' n := hrep
  refine does_val hs hd hn (v := .int k (k.wrap n)) ?_ (fun c' _ _ _ _ => rfl)
  simp only [execOp, ho, convert, Sem.run_bind, run_underlying hu, run_underlying hu2, Result.andThen_ok, hv]
  cases ds <;> simp [Conv.intToInt]

theorem does_cvs {d ty ty2 : Nat} {s : List UInt8} {x : O} {xo : Operand} (hs : Sm c0 N D t H a w) (hd : o.dst = some d) (hn : d < N) (ho : o.op = .convert ty ty2 xo) (hx : okO xo x = true)
    (hu : P.underlying ty = some .string) (hu2 : P.underlying ty2 = some .string) (hr : ev t x = .str s) : Does P c0 N D o a w ((d, .str s) :: t) H := by
  obtain ⟨c, _, _, _, _, hrep⟩ := sm_rep hs hx
  rw [hr] at hrep
  have hv : a.eval xo = .string ⟨⟨s⟩⟩ := hrep
  refine does_val hs hd hn (v := .string ⟨⟨s⟩⟩) ?_ (fun c' _ _ _ _ => rfl)
  simp only [execOp, ho, convert, Sem.run_bind, run_underlying hu, run_underlying hu2, Result.andThen_ok, hv]
  simp

theorem does_mx {d ty1 ty2 : Nat} {k : IntKind} {n m : Int} {x y : O} {xo yo : Operand} (mx : Bool) (hs : Sm c0 N D t H a w) (hd : o.dst = some d) (hn : d < N)
    (ho : o.op = .call { callee := .builtin (if mx then .max else .min), args := #[xo, yo], argTypes := #[ty1, ty2] }) (hx : okO xo x = true) (hy : okO yo y = true) (h1 : ev t x = .int k n) (h2 : ev t y = .int k m) :
    Does P c0 N D o a w ((d, .int k (if mx then (if m > n then m else n) else (if m < n then m else n))) :: t) H := by
  obtain ⟨_, _, c, _, _, _, _, h7⟩ := id hs
  have q1 := ev_rep h7 hx
  have q2 := ev_rep h7 hy
  rw [h1] at q1; rw [h2] at q2
  have hv : a.eval xo = .int k n := q1
  have hv2 : a.eval yo = .int k m := q2
  refine does_val hs hd hn (v := .int k (if mx then (if m > n then m else n) else (if m < n then m else n))) ?_ (fun c' _ _ _ _ => rfl)
  cases mx <;> simp [execOp, ho, resolve, invoke, builtin, Builtin.max_, Builtin.min_, Builtin.max2, Builtin.min2, hv, hv2]

theorem prep_sl_els {w : World} {ok : Nat → Nat → Prop} {sz : Nat} {els : List (List V)} {v : Value} (h : prep w ok (.sl sz els) v) : ∃ ad cp b o, v = .slice ad els.length cp ∧ els.length ≤ cp ∧ cp ≤ capMax ∧ els.length ≤ maxEls ∧ (els = [] ∨ ad = some ⟨b, o, none⟩) ∧ prepE w ok b o sz els 0 := h

/-- What reads as a slice of data. -/
theorem elV_rep {c : Cx} {x : V} {els : List (List V)} {v : Value} (h : elV x = some els) (hr : rep c x v) : (x = .nil ∧ v = .slice none 0 0 ∧ els = []) ∨ ∃ sz, (x = .sl sz els ∨ ∃ i, x = .own i sz els) ∧ prep c.w c.ok (.sl sz els) v := by
  cases x <;> simp only [elV, Option.some.injEq, reduceCtorEq] at h
  · subst h; exact .inl ⟨rfl, hr, rfl⟩
  · subst h; exact .inr ⟨_, .inl rfl, hr⟩
  · subst h; exact .inr ⟨_, .inr ⟨_, rfl⟩, hr.1⟩

theorem run_equalIn_nil {ty e : Nat} (hu : P.underlying ty = some (.slice e)) {ad : Option Addr} {n cp : Nat} (w : World) (d : Nat) : (Op.equalIn (d + 1) ty (.slice ad n cp) (.slice none 0 0)).run P w = .ok ad.isNone w := by
  cases ad <;> simp only [Op.equalIn, Sem.run_bind, run_underlying hu, Result.andThen_ok, Sem.run_pure] <;> rfl
/-- A slice held against nil. -/
theorem nl_val {d ty e ty2 : Nat} {ne : Bool} {x : O} {xo : Operand} {els : List (List V)} (hs : Sm c0 N D t H a w) (hd : o.dst = some d) (hn : d < N) (ho : o.op = .binOp (if ne then .neq else .eql) ty xo (.const (.slice none 0 0)) ty2) (hu : P.underlying ty = some (.slice e)) (hx : okO xo x = true)
    (hr : elV (ev t x) = some els) : ∃ c : Bool, (c = true → els = []) ∧ Does P c0 N D o a w ((d, .bool (c != ne)) :: t) H := by
  obtain ⟨_, _, c, _, _, _, _, h7⟩ := id hs
  have q1 := ev_rep h7 hx
  obtain ⟨ad, n, cp, hv, hne⟩ : ∃ ad n cp, a.eval xo = .slice ad n cp ∧ (ad = none → els = []) := by
    rcases elV_rep hr q1 with ⟨_, h1, h2⟩ | ⟨sz, _, h2⟩
    · exact ⟨_, _, _, h1, fun _ => h2⟩
    · obtain ⟨ad, cp, b, off, p1, _, _, _, p5, _⟩ := h2
      exact ⟨_, _, _, p1, fun h => by rcases p5 with p5 | p5; exact p5; rw [h] at p5; cases p5⟩
  have hcst : a.eval (.const (.slice none 0 0)) = .slice none 0 0 := rfl
  have heq : (Op.equal ty (.slice ad n cp) (.slice none 0 0)).run P w = .ok ad.isNone w := by
    exact run_equalIn_nil hu w 9999
  refine ⟨ad.isNone, fun h => hne (by simpa using h), ?_⟩
  refine does_val hs hd hn (v := .bool (ad.isNone != ne)) ?_ (fun _ _ _ _ _ => rfl)
  cases ne
  · have hg : (eqGuard .eql ty xo (.const (.slice none 0 0)) (.slice ad n cp) (.slice none 0 0)).run P w = .ok () w := by simp [eqGuard]
    simp only [execOp, ho, hv, hcst, Bool.false_eq_true, if_false]
    rw [Sem.run_bind, Sem.run_bind, hg]
    simp [binOp, heq]
  · have hg : (eqGuard .neq ty xo (.const (.slice none 0 0)) (.slice ad n cp) (.slice none 0 0)).run P w = .ok () w := by simp [eqGuard]
    simp only [execOp, ho, hv, hcst, if_true]
    rw [Sem.run_bind, Sem.run_bind, hg]
    simp [binOp, heq]

theorem does_ia {d ty e sz : Nat} {x i : O} {xo io : Operand} {r : V} (hs : Sm c0 N D t H a w) (hd : o.dst = some d) (hn : d < N) (ho : o.op = .indexAddr ty xo io) (hsl : isSl P ty e = true) (hsz : sizeB P e sz = true) (hx : okO xo x = true) (hi : okO io i = true)
    (hr : iaV sz (ev t x) (ev t i) = some r) (hnr : ∀ j z n, ev t x ≠ .rw j z n) : Does P c0 N D o a w ((d, r) :: t) H := by
  have key : ∃ k n els, ev t i = .int k n ∧ (∀ c v, rep c (ev t x) v → prep c.w c.ok (.sl sz els) v) ∧ 0 ≤ n ∧ n < els.length ∧ r = .ro (els.getD n.toNat []) 0 := by
    cases h1 : ev t i <;> simp only [h1, iaV, reduceCtorEq] at hr
    rename_i k n
    cases h2 : ev t x <;> simp only [h2, reduceCtorEq] at hr
    case rw => exact absurd h2 (hnr _ _ _)
    all_goals
      split at hr
      · rename_i hh
        obtain ⟨rfl, hh1, hh2⟩ := hh
        cases hr
        refine ⟨k, n, _, rfl, ?_, hh1, hh2, rfl⟩
        intro c v hv
        first | exact hv | exact hv.1
      · cases hr
  obtain ⟨k, n, els, h1, h2, h3, h4, rfl⟩ := key
  obtain ⟨_, _, c, _, _, _, _, h7⟩ := id hs
  have q1 := ev_rep h7 hi
  rw [h1] at q1
  have hv : a.eval io = .int k n := q1
  have hlt : n.toNat < els.length := by omega
  have hget : els[n.toNat]? = some (els.getD n.toNat []) := by simp [List.getD_eq_getElem?_getD, hlt]
  obtain ⟨ad, cp, b, off, p1, p2, p3, p4, p5, p6⟩ := h2 c _ (ev_rep h7 hx)
  have hne : els ≠ [] := by intro e; subst e; simp at hlt
  have had := p5.resolve_left hne
  subst had
  refine does_val hs hd hn (v := .pointer (some ⟨b, off + n.toNat * sz, none⟩)) ?_ (fun c' _ _ h7' _ => ?_)
  · simp [execOp, ho, Instr.indexAt, hv, p1, asIntOf, run_underlying (isSl_eq hsl), h3, h4, run_sizeOf_k hsz, Addr.add_lit]
  · obtain ⟨ad', cp', b', off', p1', _, _, _, p5', p6'⟩ := h2 c' _ (ev_rep h7' hx)
    rw [p1] at p1'
    have had' := p5'.resolve_left hne
    subst had'
    cases p1'
    obtain ⟨g1, g2⟩ := prepE_get p6' hget
    exact ⟨b, off + n.toNat * sz, rfl, by simpa using g2⟩

theorem does_ix {d ty : Nat} {x i : O} {xo io : Operand} {r : V} (hs : Sm c0 N D t H a w) (hd : o.dst = some d) (hn : d < N) (ho : o.op = .index ty xo io) (hu : P.underlying ty = some .string) (hx : okO xo x = true) (hi : okO io i = true)
    (hr : ixV (ev t x) (ev t i) = some r) : Does P c0 N D o a w ((d, r) :: t) H := by
  obtain ⟨_, _, c, _, _, _, _, h7⟩ := id hs
  have q1 := ev_rep h7 hx
  have q2 := ev_rep h7 hi
  unfold ixV at hr
  split at hr
  · rename_i s k n h1 h2
    rw [h1] at q1; rw [h2] at q2
    have hv : a.eval xo = .string ⟨⟨s⟩⟩ := q1
    have hv2 : a.eval io = .int k n := q2
    split at hr
    · rename_i hh
      cases hr
      have hlt : n.toNat < s.length := by omega
      refine does_val hs hd hn (v := .int .u8 (btV s n.toNat)) ?_ (fun c' _ _ _ _ => rfl)
      have hg : (⟨⟨s⟩⟩ : ByteArray)[n.toNat]? = some s[n.toNat] := by
        rw [getElem?_pos (⟨⟨s⟩⟩ : ByteArray) n.toNat hlt]; rfl
      have hb : btV s n.toNat = (s[n.toNat].toNat : Int) := by simp [btV, List.getD_eq_getElem?_getD, hlt]
      simp [execOp, ho, Instr.index, hv, hv2, asIntOf, run_underlying hu, hh.1, hg, hb]
    · cases hr
  · cases hr

theorem prepE_sub {w : World} {ok : Nat → Nat → Prop} {b o sz l m : Nat} {els : List (List V)} (h : prepE w ok b o sz els 0) : prepE w ok b (o + l * sz) sz ((els.drop l).take m) 0 := by
  refine prepE_mk fun i e he => ?_
  rw [List.getElem?_take] at he
  split at he
  · rw [List.getElem?_drop] at he
    obtain ⟨h1, h2⟩ := prepE_get h he
    refine ⟨h1, ?_⟩
    have : o + l * sz + (0 + i) * sz = o + (0 + (l + i)) * sz := by simp only [Nat.zero_add, Nat.add_mul, Nat.add_assoc]
    rw [this]; exact h2
  · cases he

def okOo : Option Operand → Option O → Bool
  | none, none => true
  | some y, some x => okO y x
  | _, _ => false

theorem run_bound {c : Cx} (h7 : TRep N c t a) {lo : Option Operand} {lx : Option O} (ho : okOo lo lx = true) {n l cap : Nat} {code : BoundsCode} (hb : bnd (lx.map (ev t)) n = some l) (hl : l ≤ cap) :
    (match lo.map a.eval with | some v => Instr.sliceBound v cap code | none => pure n : Sem Nat).run P w = .ok l w := by
  cases lo with
  | none =>
    cases lx with
    | none => simp [bnd] at hb; subst hb; simp
    | some x => simp [okOo] at ho
  | some y =>
    cases lx with
    | none => simp [okOo] at ho
    | some x =>
      have q := ev_rep h7 (o := y) (y := x) ho
      simp only [Option.map_some, bnd] at hb ⊢
      split at hb
      · rename_i hh
        simp at hh
      · rename_i k m hh
        simp at hh
        rw [hh] at q
        have hv : a.eval y = .int k m := q
        split at hb
        · rename_i h0
          cases hb
          rw [hv]
          exact run_sliceBound w k m cap code h0 (by omega)
        · cases hb
      · cases hb

theorem run_sliceBounds {c : Cx} (h7 : TRep N c t a) {lo hi : Option Operand} {lx hx : Option O} (ho1 : okOo lo lx = true) (ho2 : okOo hi hx = true) {isS : Bool} {len cap l h : Nat} (h1 : bnd (lx.map (ev t)) 0 = some l) (h2 : bnd (hx.map (ev t)) len = some h) (hl : l ≤ h) (hh : h ≤ cap) :
    (Instr.sliceBounds isS len cap (lo.map a.eval) (hi.map a.eval) none).run P w = .ok (l, h, cap) w := by
  have e1 := run_bound (P := P) (w := w) h7 ho2 (code := if isS then .sliceAcap else .sliceAlen) h2 hh
  have e2 := run_bound (P := P) (w := w) h7 ho1 (code := .sliceB) h1 hl
  unfold Instr.sliceBounds
  simp only [Sem.run_bind, Sem.run_pure, Result.andThen_ok, Option.isSome_none, Bool.false_eq_true, if_false]
  cases hhi : hi.map a.eval with
  | none =>
    rw [hhi] at e1
    simp only [Sem.run_pure] at e1
    injection e1 with e1 _
    subst e1
    simp only [Sem.run_pure, Sem.run_bind, Result.andThen_ok]
    cases hlo : lo.map a.eval with
    | none => rw [hlo] at e2; simp only [Sem.run_pure] at e2; injection e2 with e2 _; subst e2; simp
    | some u => rw [hlo] at e2; simp only at e2; simp only [e2, Sem.run_pure, Sem.run_bind, Result.andThen_ok]
  | some v =>
    rw [hhi] at e1
    simp only at e1
    simp only [e1, Sem.run_bind, Result.andThen_ok]
    cases hlo : lo.map a.eval with
    | none => rw [hlo] at e2; simp only [Sem.run_pure] at e2; injection e2 with e2 _; subst e2; simp [e1]
    | some u => rw [hlo] at e2; simp only at e2; simp only [e1, e2, Sem.run_pure, Sem.run_bind, Result.andThen_ok]

theorem does_sx_str {d ty : Nat} {x : O} {xo : Operand} {lo hi : Option Operand} {lx hx : Option O} {r : V} (hs : Sm c0 N D t H a w) (hd : o.dst = some d) (hn : d < N) (ho : o.op = .slice ty xo lo hi none) (hu : P.underlying ty = some .string) (hxo : okO xo x = true)
    (ho1 : okOo lo lx = true) (ho2 : okOo hi hx = true) (hr : sxsV (ev t x) (lx.map (ev t)) (hx.map (ev t)) = some r) : Does P c0 N D o a w ((d, r) :: t) H := by
  obtain ⟨_, _, c, _, _, _, _, h7⟩ := id hs
  have q1 := ev_rep h7 hxo
  cases hp : ev t x <;> rw [hp] at hr q1 <;> simp only [sxsV, reduceCtorEq] at hr
  rename_i s
  have hv : a.eval xo = .string ⟨⟨s⟩⟩ := q1
  split at hr
  · rename_i l h e1 e2
    split at hr
    · rename_i hh
      cases hr
      have hsz : (⟨⟨s⟩⟩ : ByteArray).size = s.length := rfl
      have hb := run_sliceBounds (P := P) (w := w) h7 ho1 ho2 (isS := false) (cap := s.length) e1 e2 hh.1 hh.2
      refine does_val hs hd hn (v := .string ⟨⟨(s.drop l).take (h - l)⟩⟩) ?_ (fun c' _ _ _ _ => rfl)
      have hext : (⟨⟨s⟩⟩ : ByteArray).extract l h = ⟨⟨(s.drop l).take (h - l)⟩⟩ := by
        apply ByteArray.ext
        apply Array.ext'
        simp [ByteArray.data_extract]
      simp only [execOp, ho, Sem.run_bind, Option.map_none, run_sliceAt_string _ _ _ _ _ _ hu, hv, Instr.slice, run_underlying hu, Result.andThen_ok, hsz, hb, Option.isSome_none, Bool.false_eq_true, if_false, Sem.run_pure, hext]
    · cases hr
  · cases hr

theorem does_sx_sl {d ty e sz : Nat} {x : O} {xo : Operand} {lo hi : Option Operand} {lx hx : Option O} {r : V} (hs : Sm c0 N D t H a w) (hd : o.dst = some d) (hn : d < N) (ho : o.op = .slice ty xo lo hi none) (hsl : isSl P ty e = true) (hsz : sizeB P e sz = true) (hxo : okO xo x = true)
    (ho1 : okOo lo lx = true) (ho2 : okOo hi hx = true) (hr : sxV sz (ev t x) (lx.map (ev t)) (hx.map (ev t)) = some r) : Does P c0 N D o a w ((d, r) :: t) H := by
  have key : ∃ els l h, (∀ c v, rep c (ev t x) v → prep c.w c.ok (.sl sz els) v) ∧ bnd (lx.map (ev t)) 0 = some l ∧ bnd (hx.map (ev t)) els.length = some h ∧ l ≤ h ∧ h ≤ els.length ∧ r = .sl sz ((els.drop l).take (h - l)) := by
    cases h2 : ev t x <;> simp only [h2, sxV, reduceCtorEq] at hr
    all_goals
      split at hr
      · rename_i l h e1 e2
        split at hr
        · rename_i hh
          obtain ⟨rfl, hh1, hh2⟩ := hh
          cases hr
          exact ⟨_, l, h, fun c v hv => by first | exact hv | exact hv.1, e1, e2, hh1, hh2, rfl⟩
        · cases hr
      · cases hr
  obtain ⟨els, l, h, g1, g2, g3, g4, g5, rfl⟩ := key
  obtain ⟨_, _, c, _, _, _, _, h7⟩ := id hs
  obtain ⟨ad, cp, b, off, p1, p2, p3, p4, p5, p6⟩ := g1 c _ (ev_rep h7 hxo)
  have hb := run_sliceBounds (P := P) (w := w) h7 ho1 ho2 (isS := true) (cap := cp) g2 g3 g4 (by omega)
  have hu := isSl_eq hsl
  refine does_val hs hd hn (v := .slice (if cp = l then ad else ad.map (·.add (l * sz))) (h - l) (cp - l)) ?_ (fun c' _ _ h7' _ => ?_)
  · simp only [execOp, ho, Sem.run_bind, Option.map_none, Instr.sliceAt, run_underlying hu, p1, Instr.slice, Result.andThen_ok, hb, run_sizeOf_k hsz, Sem.run_pure]
  · obtain ⟨ad', cp', b', off', p1', _, _, _, p5', p6'⟩ := g1 c' _ (ev_rep h7' hxo)
    rw [p1] at p1'
    cases p1'
    have hlen : ((els.drop l).take (h - l)).length = h - l := by simp; omega
    refine ⟨_, _, b', off' + l * sz, by rw [hlen], by rw [hlen]; omega, by omega, by rw [hlen]; omega, ?_, prepE_sub p6'⟩
    by_cases hz : h = l
    · left; subst hz; simp
    · right
      have hne : els ≠ [] := by intro e; subst e; simp at g5; omega
      have had := p5'.resolve_left hne
      subst had
      rw [if_neg (by omega)]
      simp [Addr.add_lit]

end
end Go.Dw
end
section
set_option linter.unusedVariables false
set_option linter.unusedSimpArgs false
namespace Go.Dw

/-- An own object whose block has not turned. -/
theorem orep_keep {c c' : Cx} (hf : Fr c c') {o : Ob} {r : Option (Nat × Nat)} (h : orep c o r) (hb : ∀ b k, r = some (b, k) → c'.w.heap[b]? = c.w.heap[b]? ∧ ∀ x, c'.ok b x → c.ok b x) : orep c' o r := by
  cases o with
  | cells e cs =>
    obtain ⟨b, vs, q1, q2, q3, q4, q5⟩ := h
    obtain ⟨p1, p2⟩ := hb b 0 q1
    exact ⟨b, vs, q1, p1.trans q2, q3, fun o ho => q4 o (p2 _ ho), fun i x hx => (q5 i x hx).imp fun v hv => ⟨hv.1, hv.2.1, rep_fr hf hv.2.2⟩⟩
  | arr e sz n =>
    refine ⟨h.1, fun b k hr => ?_⟩
    obtain ⟨vs, q1, q2, q3, q4, q5⟩ := h.2 b k hr
    obtain ⟨p1, p2⟩ := hb b k hr
    exact ⟨vs, p1.trans q1, q2, q3, q4, fun o ho hh => q5 o ho (p2 _ hh)⟩
  | map es =>
    obtain ⟨b, ents, q1, q2, q3, q4⟩ := h
    obtain ⟨p1, p2⟩ := hb b 0 q1
    exact ⟨b, ents, q1, p1.trans q2, fun o ho => q3 o (p2 _ ho), q4.mono fun _ _ => rep_fr hf⟩
  | iter m n seen =>
    obtain ⟨b, bm, q1, q2, q3, q4⟩ := h
    obtain ⟨p1, p2⟩ := hb b bm q1
    exact ⟨b, bm, q1, p1.trans q2, fun o ho => q3 o (p2 _ ho), q4.mono hf.ext⟩
  | dead => exact h
  | row e sz els =>
    refine ⟨h.1, fun b k hr => ?_⟩
    obtain ⟨vs, q1, q2, q3, q4, q5, q6⟩ := h.2 b k hr
    obtain ⟨p1, p2⟩ := hb b k hr
    exact ⟨vs, p1.trans q1, q2, q3, q4, fun o ho => q5 o (p2 _ ho), q6.mono fun _ _ => rep_fr hf⟩
  | lp l st r ts =>
    obtain ⟨q1, q2, q3, q4⟩ := h
    obtain ⟨p1, p2⟩ := hb l 0 q1
    exact ⟨q1, p1.trans q2, fun o ho => q3 o (p2 _ ho), q4.mono fun _ _ => rep_fr hf⟩

theorem set_get {H : List Ob} {i j : Nat} {o : Ob} (hi : i < H.length) : (H.set i o)[j]? = if i = j then some o else H[j]? := by
  rw [List.getElem?_set]
  by_cases e : i = j
  · subst e; simp [hi]
  · simp [e]

/-- A store into an own variable. -/
def Cx.wr (c : Cx) (b : Nat) (vs' : Array Value) (i : Nat) (o : Ob) (m : Nat → Nat → Prop) (ρ' : Nat → Option (Nat × Nat)) : Cx := ⟨c.w.setRow b vs', fun b o => c.ok b o ∨ m b o, ρ', c.H.set i o⟩

theorem fr_wrG {c : Cx} (hc : Conc c) {b : Nat} {i k : Nat} {o0 : Ob} (hi : c.H[i]? = some o0) (hρ : c.ρ i = some (b, k)) (q4 : ∀ x, ¬ c.ok b x) (vs' : Array Value) (o : Ob) (m : Nat → Nat → Prop) (hm : ∀ b' o, m b' o → b' = b) (ρ' : Nat → Option (Nat × Nat))
    (hρ' : ∀ j, j ≠ i → ρ' j = c.ρ j) (hρi : ρ' i = c.ρ i ∨ ρ' i = none) (ho : ExtOb o0 o (c.ρ i) (ρ' i)) : Fr c (c.wr b vs' i o m ρ') := by
  have hil : i < c.H.length := (List.getElem?_eq_some_iff.1 hi).1
  have hown : c.owns b := ⟨i, k, hil, hρ⟩
  refine ⟨fun _ _ h => .inl h, fun b' o' h => ?_, by simp [Cx.wr, World.setRow], fun b' o' h => ?_, fun b' hb' hno => ?_, fun b' hb' => ?_, fun j o' hj => ?_, rfl, rfl, rfl⟩
  · have hne : b' ≠ b := by intro e; subst e; exact q4 _ h
    simp only [Cx.wr, World.cell?, setRow_other c.w b b' vs' hne]
  · rcases h with h | h
    · exact .inl h
    · exact .inr (.inr (by rw [hm _ _ h]; exact hown))
  · have hne : b' ≠ b := by intro e; subst e; exact hno hown
    exact setRow_other c.w b b' vs' hne
  · obtain ⟨j, k', hj, hr⟩ := hb'
    simp only [Cx.wr, List.length_set] at hj hr
    by_cases e : j = i
    · subst e
      rcases hρi with h | h
      · rw [h] at hr; exact .inl ⟨j, k', hj, hr⟩
      · rw [h] at hr; cases hr
    · rw [hρ' j e] at hr; exact .inl ⟨j, k', hj, hr⟩
  · simp only [Cx.wr, set_get hil]
    by_cases e : i = j
    · subst e
      rw [hi] at hj; cases hj
      exact ⟨o, by simp, ho⟩
    · refine ⟨o', by simp [e, hj], ?_⟩
      rw [hρ' j (Ne.symm e)]
      cases o' <;> simp [ExtOb]

theorem conc_wrG {c : Cx} (hc : Conc c) {b : Nat} {i k : Nat} {o0 : Ob} (hi : c.H[i]? = some o0) (hρ : c.ρ i = some (b, k)) (q4 : ∀ x, ¬ c.ok b x) (vs' : Array Value) (o : Ob) (m : Nat → Nat → Prop) (hm : ∀ b' o, m b' o → b' = b) (ρ' : Nat → Option (Nat × Nat))
    (hρ' : ∀ j, j ≠ i → ρ' j = c.ρ j) (hρi : ρ' i = c.ρ i ∨ ρ' i = none) (ho : ExtOb o0 o (c.ρ i) (ρ' i)) (hor : orep (c.wr b vs' i o m ρ') o (ρ' i)) : Conc (c.wr b vs' i o m ρ') := by
  have hf := fr_wrG hc hi hρ q4 vs' o m hm ρ' hρ' hρi ho
  have hil : i < c.H.length := (List.getElem?_eq_some_iff.1 hi).1
  have hlt := own_lt hc hil hρ
  refine ⟨fun j1 j2 b' k1 k2 h1 h2 h3 h4 => ?_, fun b' o' h => ?_, fun j o' hj => ?_⟩
  · simp only [Cx.wr, List.length_set] at h1 h2 h3 h4
    have g : ∀ j k', ρ' j = some (b', k') → ∃ k'', c.ρ j = some (b', k'') := fun j k' h => by
      by_cases e : j = i
      · subst e
        rcases hρi with q | q
        · exact ⟨k', q ▸ h⟩
        · rw [q] at h; cases h
      · exact ⟨k', hρ' j e ▸ h⟩
    obtain ⟨k1', g1⟩ := g j1 k1 h3
    obtain ⟨k2', g2⟩ := g j2 k2 h4
    exact hc.inj j1 j2 b' k1' k2' h1 h2 g1 g2
  · rcases h with h | h
    · simpa [Cx.wr, World.setRow] using hc.okLt _ _ h
    · rw [hm _ _ h]; simpa [Cx.wr, World.setRow] using hlt
  · simp only [Cx.wr, set_get hil] at hj
    by_cases e : i = j
    · subst e
      simp at hj; subst hj; exact hor
    · simp only [e, if_false] at hj
      have : (c.wr b vs' i o m ρ').ρ j = c.ρ j := hρ' j (Ne.symm e)
      rw [this]
      refine orep_keep hf (hc.obj j o' hj) fun b' k' hr => ?_
      have hne : b' ≠ b := by
        intro eb; subst eb
        exact e (hc.inj i j _ _ _ hil (List.getElem?_eq_some_iff.1 hj).1 hρ hr)
      exact ⟨setRow_other c.w b b' vs' hne, fun x hx => hx.resolve_right fun h => hne (hm _ _ h)⟩
theorem cells_nok {c : Cx} (hc : Conc c) {b : Nat} {i k e : Nat} {cs : List V} (hi : c.H[i]? = some (.cells e cs)) (hρ : c.ρ i = some (b, k)) : ∀ x, ¬ c.ok b x := by
  obtain ⟨b', vs, q1, q2, q3, q4, q5⟩ := hc.obj i _ hi
  rw [hρ] at q1; cases q1; exact q4
theorem fr_wr {c : Cx} (hc : Conc c) {b : Nat} {i k e : Nat} {cs : List V} (hi : c.H[i]? = some (.cells e cs)) (hρ : c.ρ i = some (b, k)) (vs' : Array Value) (o : Ob) (m : Nat → Nat → Prop) (hm : ∀ b' o, m b' o → b' = b) (ρ' : Nat → Option (Nat × Nat))
    (hρ' : ∀ j, j ≠ i → ρ' j = c.ρ j) (hρi : ρ' i = c.ρ i ∨ ρ' i = none) (ho : ExtOb (.cells e cs) o (c.ρ i) (ρ' i)) : Fr c (c.wr b vs' i o m ρ') := fr_wrG hc hi hρ (cells_nok hc hi hρ) vs' o m hm ρ' hρ' hρi ho
theorem conc_wr {c : Cx} (hc : Conc c) {b : Nat} {i k e : Nat} {cs : List V} (hi : c.H[i]? = some (.cells e cs)) (hρ : c.ρ i = some (b, k)) (vs' : Array Value) (o : Ob) (m : Nat → Nat → Prop) (hm : ∀ b' o, m b' o → b' = b) (ρ' : Nat → Option (Nat × Nat))
    (hρ' : ∀ j, j ≠ i → ρ' j = c.ρ j) (hρi : ρ' i = c.ρ i ∨ ρ' i = none) (ho : ExtOb (.cells e cs) o (c.ρ i) (ρ' i)) (hor : orep (c.wr b vs' i o m ρ') o (ρ' i)) : Conc (c.wr b vs' i o m ρ') := conc_wrG hc hi hρ (cells_nok hc hi hρ) vs' o m hm ρ' hρ' hρi ho hor

section
variable {P : Program} {c0 : Cx} {N : Nat} {D : List Deferred} {o : Oper} {a : Act} {w : World} {t : T} {H : List Ob}

theorem run_storeVar {ty k : Nat} (hk : sizeB P ty k = true) {b off : Nat} {v : Value} {vs : Array Value} {e : Nat} (hh : w.heap[b]? = some (.cells vs e (0, 0))) (hv : v.cells.size = k) (hl : off + k ≤ vs.size) (h1 : ∀ u ∈ v.cells.toList, oneC u = true) :
    (storeVar ty ⟨b, off, none⟩ v).run P w = .ok () (w.setRow b (vs.toList.take off ++ v.cells.toList ++ vs.toList.drop (off + v.cells.toList.length)).toArray) := by
  have := run_storeCells_at P b off e v.cells.toList 0 vs w hh (by simp [hv]; omega) (fun u hu => by rw [oneC_eq]; exact h1 u hu)
  simp only [Nat.add_zero] at this
  simp [storeVar, run_sizeOf_k hk, hv, this]

theorem put_world {vs : Array Value} {off : Nat} {c : Cx} {new cs : List V} {nl : List Value} (h1 : repL c new nl) (h2 : ∀ u ∈ nl, oneC u = true) (h3 : ∀ (i : Nat) (x : V), cs[i]? = some x → ∃ v, vs[i]? = some v ∧ oneC v = true ∧ rep c x v) (hs : vs.size = cs.length) (hl : off + new.length ≤ cs.length) :
    (vs.toList.take off ++ nl ++ vs.toList.drop (off + nl.length)).toArray.size = (put off new cs).length ∧ ∀ (i : Nat) (x : V), (put off new cs)[i]? = some x → ∃ v, (vs.toList.take off ++ nl ++ vs.toList.drop (off + nl.length)).toArray[i]? = some v ∧ oneC v = true ∧ rep c x v := by
  have hn := repL_length h1
  have hcs : repL c cs vs.toList := repL_mk (by simp [hs]) fun i x hx => by obtain ⟨v, q1, q2, q3⟩ := h3 i x hx; exact ⟨v, by simpa using q1, q3⟩
  have hp := repL_put (off := off) h1 hcs
  refine ⟨by have := repL_length hp; simpa using this.symm, fun i x hx => ?_⟩
  obtain ⟨v, q1, q2⟩ := repL_get hp hx
  refine ⟨v, by simpa using q1, ?_, q2⟩
  rw [List.getElem?_append, List.getElem?_append] at q1
  split at q1
  · split at q1
    · rename_i h
      rw [List.getElem?_take] at q1
      split at q1
      · have hi : i < cs.length := by simp at h; omega
        obtain ⟨v', p1, p2, _⟩ := h3 i _ (List.getElem?_eq_getElem hi)
        rw [show vs[i]? = some v by simpa using q1] at p1
        cases p1; exact p2
      · cases q1
    · exact h2 v (List.mem_of_getElem? q1)
  · rename_i h
    rw [List.getElem?_drop] at q1
    have q1' : vs[(off + nl.length + (i - (List.take off vs.toList ++ nl).length))]? = some v := by simpa using q1
    have hi := (Array.getElem?_eq_some_iff.1 q1').1
    obtain ⟨v', p1, p2, _⟩ := h3 _ _ (List.getElem?_eq_getElem (show _ < cs.length by rw [← hs]; exact hi))
    rw [q1'] at p1
    cases p1; exact p2

theorem does_st {k ty i off e : Nat} {x y : O} {xo yo : Operand} {cs new : List V} (hs : Sm c0 N D t H a w) (hd : o.dst = none) (ho : o.op = .store ty xo yo) (hk : sizeB P ty k = true) (hx : okO xo x = true) (hy : okO yo y = true)
    (h1 : ev t x = .ptr i off) (h2 : H[i]? = some (.cells e cs)) (h3 : sto (ev t y) = some new) (h4 : new.length = k) (h5 : off + k ≤ cs.length) : Does P c0 N D o a w t (H.set i (.cells e (put off new cs))) := by
  obtain ⟨g1, g2, c, rfl, rfl, hc, hf0, h7⟩ := hs
  have q1 := ev_rep h7 hx
  rw [h1] at q1
  obtain ⟨b, vs, r1, r2, r3, r4, r5, r6⟩ := ptr_own hc q1 h2
  obtain ⟨s1, s2⟩ := sto_rep h3 (ev_rep h7 hy)
  have hvl := repL_length s1
  simp only [Array.length_toList] at hvl
  have hrun := run_storeVar (P := P) (w := c.w) (v := a.eval yo) hk r3 (by omega) (by omega) s2 (off := off)
  have hob := hc.obj i _ h2
  obtain ⟨b', vs', p1, p2, p3, p4, p5⟩ := hob
  rw [r2] at p1; cases p1
  rw [r3] at p2; cases p2
  have hfr := fr_wr hc h2 r2 (vs.toList.take off ++ (a.eval yo).cells.toList ++ vs.toList.drop (off + (a.eval yo).cells.toList.length)).toArray (.cells e (put off new cs)) (fun _ _ => False) (by simp) c.ρ (fun _ _ => rfl) (.inl rfl) ⟨rfl, rfl⟩
  have hcn : Conc (c.wr b (vs.toList.take off ++ (a.eval yo).cells.toList ++ vs.toList.drop (off + (a.eval yo).cells.toList.length)).toArray i (.cells e (put off new cs)) (fun _ _ => False) c.ρ) := by
    refine conc_wr hc h2 r2 _ _ _ (by simp) _ (fun _ _ => rfl) (.inl rfl) ⟨rfl, rfl⟩ ?_
    obtain ⟨w1, w2⟩ := put_world (off := off) s1 s2 p5 p3 (by omega)
    exact ⟨b, _, r2, setRow_heap c.w b vs _ e _ r3, w1, fun o ho => p4 o (ho.resolve_right (by simp)), fun j z hz => by obtain ⟨v, u1, u2, u3⟩ := w2 j z hz; exact ⟨v, u1, u2, rep_fr hfr u3⟩⟩
  refine ⟨undef, c.w.setRow b (vs.toList.take off ++ (a.eval yo).cells.toList ++ vs.toList.drop (off + (a.eval yo).cells.toList.length)).toArray, .inr ⟨rfl, ?_⟩, ?_⟩
  · simp only [execOp, ho, Sem.run_bind, Instr.storeAt, r1, Instr.sureAddr, Sem.run_pure, Result.andThen_ok, hrun]
  · rw [hd]
    exact ⟨g1, g2, _, rfl, rfl, hcn, hf0.trans hfr, trep_fr hfr h7⟩

theorem does_sf {k ty i e d : Nat} {y : O} {yo : Operand} {cs new : List V} (hs : Sm c0 N D t H a w) (hn : d < N) (hd : o.dst = none) (ho : o.op = .store ty (.tmp d) yo) (hk : sizeB P ty k = true) (hy : okO yo y = true)
    (h1 : lk t d = .ptr i 0) (h2 : H[i]? = some (.cells e cs)) (h3 : sto (ev t y) = some new) (h4 : new.length = k) (h5 : cs.length = k) : Does P c0 N D o a w ((d, .ro (rens (fun _ => none) new) 0) :: t) (H.set i .dead) := by
  obtain ⟨g1, g2, c, rfl, rfl, hc, hf0, h7⟩ := hs
  have q1 := lk_rep h7 d
  rw [h1] at q1
  obtain ⟨b, vs, r1, r2, r3, r4, r5, r6⟩ := ptr_own hc q1 h2
  obtain ⟨s1, s2⟩ := sto_rep h3 (ev_rep h7 hy)
  have hvl := repL_length s1
  simp only [Array.length_toList] at hvl
  have hrun := run_storeVar (P := P) (w := c.w) (v := a.eval yo) hk r3 (by omega) (by omega) s2 (off := 0)
  have hfull : (vs.toList.take 0 ++ (a.eval yo).cells.toList ++ vs.toList.drop (0 + (a.eval yo).cells.toList.length)).toArray = (a.eval yo).cells := by
    apply Array.ext'
    simp
    omega
  rw [hfull] at hrun
  have hfr := fr_wr hc h2 r2 (a.eval yo).cells .dead (fun b' _ => b' = b) (by simp) (upd c.ρ i none) (fun j hj => upd_ne hj) (.inr (upd_same _ _ _)) trivial
  have hcn : Conc (c.wr b (a.eval yo).cells i .dead (fun b' _ => b' = b) (upd c.ρ i none)) :=
    conc_wr hc h2 r2 _ _ _ (by simp) _ (fun j hj => upd_ne hj) (.inr (upd_same _ _ _)) trivial (upd_same _ _ _)
  refine ⟨undef, c.w.setRow b (a.eval yo).cells, .inr ⟨rfl, ?_⟩, ?_⟩
  · have hev : a.eval (.tmp d) = .pointer (some ⟨b, 0, none⟩) := r1
    simp only [execOp, ho, Sem.run_bind, Instr.storeAt, hev, Instr.sureAddr, Sem.run_pure, Result.andThen_ok, hrun]
  · rw [hd]
    refine ⟨g1, g2, _, rfl, rfl, hcn, hf0.trans hfr, fun s x hx => ?_⟩
    simp only [find] at hx
    split at hx
    · rename_i e; subst e; cases hx
      refine ⟨hn, ?_⟩
      show rep _ _ (a.tmps.getD d undef)
      rw [r1]
      refine ⟨b, 0, rfl, prepC_mk fun j z hz => ?_⟩
      rw [rens_get] at hz
      cases hy' : new[j]? with
      | none => simp [hy'] at hz
      | some z' =>
        simp [hy'] at hz; subst hz
        obtain ⟨v, u1, u2⟩ := repL_get s1 hy'
        refine ⟨v, ?_, .inr rfl, s2 v (List.mem_of_getElem? u1), prep_vw (rep_fr hfr u2)⟩
        simp only [Cx.wr]
        rw [cell_of_heap (setRow_heap c.w b vs _ e _ r3)]
        simpa using u1
    · exact ⟨(h7 s x hx).1, rep_fr hfr (h7 s x hx).2⟩

end

/-! ### A row grows at its end -/
theorem prepC_vals {w : World} {ok : Nat → Nat → Prop} {b o : Nat} : ∀ {xs : List V} {k : Nat}, prepC w ok b o xs k →
    ∃ vs : List Value, vs.length = xs.length ∧ (∀ (j : Nat) (u : Value), vs[j]? = some u → w.cell? ⟨b, o + k + j, none⟩ = some u ∧ oneC u = true) ∧ ∀ (j : Nat) (x : V), xs[j]? = some x → ∃ v, vs[j]? = some v ∧ prep w ok x v
  | [], k, _ => ⟨[], rfl, by simp, by simp⟩
  | x :: xs, k, ⟨⟨v, h1, h2, h3, h4⟩, h5⟩ => by
    obtain ⟨vs, q1, q2, q3⟩ := prepC_vals h5
    refine ⟨v :: vs, by simp [q1], ?_, ?_⟩
    · intro j u hu
      cases j with
      | zero => simp at hu; subst hu; exact ⟨by simpa using h1, h3⟩
      | succ j =>
        simp at hu
        have := q2 j u hu
        rwa [show o + (k + 1) + j = o + k + (j + 1) by omega] at this
    · intro j y hy
      cases j with
      | zero => simp at hy; subst hy; exact ⟨v, rfl, h4⟩
      | succ j => simp at hy ⊢; exact q3 j y hy
theorem prepE_vals {w : World} {ok : Nat → Nat → Prop} {b o sz : Nat} : ∀ {es : List (List V)} {k : Nat}, prepE w ok b o sz es k →
    ∃ vs : List Value, vs.length = es.length * sz ∧ (∀ (j : Nat) (u : Value), vs[j]? = some u → w.cell? ⟨b, o + k * sz + j, none⟩ = some u ∧ oneC u = true) ∧
      ∀ (i : Nat) (e : List V), es[i]? = some e → e.length = sz ∧ ∀ (j : Nat) (x : V), e[j]? = some x → ∃ v, vs[i * sz + j]? = some v ∧ prep w ok x v
  | [], k, _ => ⟨[], by simp, by simp, by simp⟩
  | e :: es, k, ⟨h1, h2, h3⟩ => by
    obtain ⟨us, p1, p2, p3⟩ := prepC_vals h2
    obtain ⟨vs, q1, q2, q3⟩ := prepE_vals h3
    have hl : us.length = sz := by omega
    refine ⟨us ++ vs, by simp [q1, hl, Nat.add_mul]; omega, ?_, ?_⟩
    · intro j u hu
      rw [List.getElem?_append] at hu
      split at hu
      · have := p2 j u hu
        simpa using this
      · have := q2 _ u hu
        rwa [show o + (k + 1) * sz + (j - us.length) = o + k * sz + j by rw [Nat.add_mul, Nat.one_mul]; omega] at this
    · intro i x hx
      cases i with
      | zero =>
        simp at hx; subst hx
        refine ⟨h1, fun j y hy => ?_⟩
        obtain ⟨v, r1, r2⟩ := p3 j y hy
        have : j < us.length := (List.getElem?_eq_some_iff.1 r1).1
        exact ⟨v, by rw [Nat.zero_mul, Nat.zero_add, List.getElem?_append, if_pos this, r1], r2⟩
      | succ i =>
        simp at hx
        obtain ⟨r1, r2⟩ := q3 i x hx
        refine ⟨r1, fun j y hy => ?_⟩
        obtain ⟨v, s1, s2⟩ := r2 j y hy
        refine ⟨v, ?_, s2⟩
        rw [List.getElem?_append, if_neg (by rw [Nat.add_mul, Nat.one_mul]; omega), ← s1]
        congr 1
        rw [Nat.add_mul, Nat.one_mul]; omega

/-- Values laid one element behind the other. -/
def Lies (w : World) (ok : Nat → Nat → Prop) (sz : Nat) (els : List (List V)) (vs : List Value) : Prop :=
  vs.length = els.length * sz ∧ ∀ (i : Nat) (e : List V), els[i]? = some e → e.length = sz ∧ ∀ (j : Nat) (x : V), e[j]? = some x → ∃ v, vs[i * sz + j]? = some v ∧ prep w ok x v
theorem Lies.append {w ok sz a b us vs} (h : Lies w ok sz a us) (h' : Lies w ok sz b vs) : Lies w ok sz (a ++ b) (us ++ vs) := by
  refine ⟨by simp [h.1, h'.1, Nat.add_mul], fun i e he => ?_⟩
  rw [List.getElem?_append] at he
  split at he
  · rename_i hi
    obtain ⟨q1, q2⟩ := h.2 i e he
    refine ⟨q1, fun j x hx => ?_⟩
    obtain ⟨v, r1, r2⟩ := q2 j x hx
    have := (List.getElem?_eq_some_iff.1 r1).1
    exact ⟨v, by rw [List.getElem?_append, if_pos this, r1], r2⟩
  · rename_i hi
    obtain ⟨q1, q2⟩ := h'.2 _ e he
    refine ⟨q1, fun j x hx => ?_⟩
    obtain ⟨v, r1, r2⟩ := q2 j x hx
    refine ⟨v, ?_, r2⟩
    have h3 : a.length * sz ≤ i * sz := Nat.mul_le_mul_right _ (by omega)
    rw [List.getElem?_append, if_neg (by rw [h.1]; omega), ← r1]
    congr 1
    rw [h.1, Nat.mul_sub_right_distrib]
    omega

/-- A row's block is a new one. -/
def Cx.reArr (c : Cx) (ob : Obj) (i e sz n k : Nat) : Cx := ⟨{ c.w with heap := c.w.heap.push ob }, fun b o => c.ok b o ∨ b = c.w.heap.size ∧ o < n * sz, upd c.ρ i (some (c.w.heap.size, k)), c.H.set i (.arr e sz n)⟩
theorem fr_reArr {c : Cx} (hc : Conc c) (ob : Obj) {i e sz n0 n k : Nat} (hi : c.H[i]? = some (.arr e sz n0)) (hn : n0 < n) : Fr c (c.reArr ob i e sz n k) where
  okS _ _ h := .inl h
  cell b o h := cell_push (hc.okLt _ _ h)
  size := by simp [Cx.reArr]
  okN b _ h := by
    rcases h with h | h
    · exact .inl h
    · exact .inr (.inl (by omega))
  heap b hb _ := heap_push_lt hb
  own b := by
    rintro ⟨j, k', hj, hr⟩
    simp only [Cx.reArr, List.length_set] at hj hr
    by_cases e : j = i
    · subst e; rw [upd_same] at hr; cases hr; exact .inr (Nat.le_refl _)
    · rw [upd_ne e] at hr; exact .inl ⟨j, k', hj, hr⟩
  ext j o' h := by
    have hil : i < c.H.length := (List.getElem?_eq_some_iff.1 hi).1
    simp only [Cx.reArr, set_get hil]
    by_cases e : i = j
    · subst e
      rw [hi] at h; cases h
      exact ⟨.arr e sz n, by simp, rfl, rfl, by omega, fun h => by omega⟩
    · refine ⟨o', by simp [e, h], ?_⟩
      rw [upd_ne (Ne.symm e)]
      cases o' <;> simp [ExtOb]
  os := rfl
  tape := rfl
  output := rfl
theorem rep_reArr {c : Cx} (hc : Conc c) {i e sz n0 k : Nat} {vs : Array Value} {els : List (List V)} (hi : c.H[i]? = some (.arr e sz n0)) (hn : n0 < els.length) (hk : els.length ≤ k) (hm : k ≤ capMax) (hm2 : els.length ≤ maxEls) (hv : vs.size = k * sz) (h1 : ∀ v ∈ vs.toList, oneC v = true)
    {ys : List Value} (hl : Lies c.w c.ok sz els ys) (hy : vs.toList.take (els.length * sz) = ys) :
    Conc (c.reArr (.cells vs e (0, 0)) i e sz els.length k) ∧ Fr c (c.reArr (.cells vs e (0, 0)) i e sz els.length k) ∧ rep (c.reArr (.cells vs e (0, 0)) i e sz els.length k) (.own i sz els) (.slice (some ⟨c.w.heap.size, 0, none⟩) els.length k) := by
  have hf : Fr c (c.reArr (.cells vs e (0, 0)) i e sz els.length k) := fr_reArr hc _ hi hn
  have hil : i < c.H.length := (List.getElem?_eq_some_iff.1 hi).1
  refine ⟨⟨fun j1 j2 b k1 k2 h1 h2 h3 h4 => ?_, fun b o h => ?_, fun j o hj => ?_⟩, hf, ⟨⟨_, _, c.w.heap.size, 0, rfl, hk, hm, hm2, .inr rfl, prepE_mk fun j x hx => ?_⟩, by simp [Cx.reArr, hil], fun e' sz' n hn' => ?_⟩⟩
  · simp only [Cx.reArr, List.length_set] at h1 h2 h3 h4
    by_cases e1 : j1 = i <;> by_cases e2 : j2 = i
    · omega
    · subst e1; rw [upd_same] at h3; rw [upd_ne e2] at h4; cases h3
      have := own_lt hc h2 h4; omega
    · subst e2; rw [upd_same] at h4; rw [upd_ne e1] at h3; cases h4
      have := own_lt hc h1 h3; omega
    · rw [upd_ne e1] at h3; rw [upd_ne e2] at h4
      exact hc.inj j1 j2 b k1 k2 h1 h2 h3 h4
  · rcases h with h | h
    · have := hc.okLt _ _ h; simp [Cx.reArr]; omega
    · simp [Cx.reArr]; omega
  · simp only [Cx.reArr, set_get hil] at hj
    by_cases e1 : i = j
    · subst e1
      simp at hj; subst hj
      have : (c.reArr (.cells vs e (0, 0)) i e sz els.length k).ρ i = some (c.w.heap.size, k) := upd_same _ _ _
      rw [this]
      refine ⟨by simp, fun b k' hb => ?_⟩
      cases hb
      refine ⟨vs, heap_alloc_new _ _, hv, hk, hm, fun o ho h => ?_⟩
      rcases h with h | h
      · exact absurd (hc.okLt _ _ h) (Nat.lt_irrefl _)
      · omega
    · simp only [e1, if_false] at hj
      have : (c.reArr (.cells vs e (0, 0)) i e sz els.length k).ρ j = c.ρ j := upd_ne (Ne.symm e1)
      rw [this]
      exact orep_push hc hf (.cells vs e (0, 0)) rfl (fun b o hb h => h.resolve_right (by omega)) hj
  · obtain ⟨p1, p2⟩ := hl.2 j x hx
    refine ⟨p1, prepC_mk fun l y hy' => ?_⟩
    obtain ⟨v, r1, r2⟩ := p2 l y hy'
    have hj : j < els.length := (List.getElem?_eq_some_iff.1 hx).1
    have hll : l < sz := by have := (List.getElem?_eq_some_iff.1 hy').1; omega
    have hmul : (j + 1) * sz ≤ els.length * sz := Nat.mul_le_mul_right _ (by omega)
    rw [Nat.add_mul, Nat.one_mul] at hmul
    have hr1 : vs[j * sz + l]? = some v := by
      rw [← hy, List.getElem?_take, if_pos (by omega)] at r1
      simpa using r1
    refine ⟨v, ?_, .inr ⟨rfl, by simp; omega⟩, h1 v (List.mem_of_getElem? (l := vs.toList) (by simpa using hr1)), prep_mono hf.cell hf.okS r2⟩
    simp only [Cx.reArr]
    rw [cell_of_heap (vs := vs) (e := e) (fz := (0, 0)) (by simp)]
    simpa using hr1
  · simp only [Cx.reArr, set_get hil] at hn'
    simp at hn'
    obtain ⟨_, rfl, rfl⟩ := hn'
    exact ⟨rfl, Nat.le_refl _, fun _ => by simp [Cx.reArr, curV, upd_same]⟩

/-- A row grows where it lies. -/
def Cx.gr (c : Cx) (b : Nat) (vs' : Array Value) (i e sz n : Nat) : Cx := ⟨c.w.setRow b vs', fun b' o => c.ok b' o ∨ b' = b ∧ o < n * sz, c.ρ, c.H.set i (.arr e sz n)⟩
theorem rep_gr {c : Cx} (hc : Conc c) {i e sz n0 b k : Nat} {vs vs' : Array Value} {els : List (List V)} (hi : c.H[i]? = some (.arr e sz n0)) (hρ : c.ρ i = some (b, k)) (hh : c.w.heap[b]? = some (.cells vs e (0, 0))) (hn : n0 ≤ els.length) (hk : els.length ≤ k) (hm2 : els.length ≤ maxEls)
    (hs : vs'.size = vs.size) (h1 : ∀ (j : Nat) (v : Value), j < els.length * sz → vs'[j]? = some v → oneC v = true) (hpre : ∀ j, j < n0 * sz → vs'[j]? = vs[j]?) {ys : List Value} (hl : Lies c.w c.ok sz els ys) (hy : vs'.toList.take (els.length * sz) = ys) :
    Conc (c.gr b vs' i e sz els.length) ∧ Fr c (c.gr b vs' i e sz els.length) ∧ rep (c.gr b vs' i e sz els.length) (.own i sz els) (.slice (some ⟨b, 0, none⟩) els.length k) := by
  have hil : i < c.H.length := (List.getElem?_eq_some_iff.1 hi).1
  have hown : c.owns b := ⟨i, k, hil, hρ⟩
  have hob := hc.obj i _ hi
  obtain ⟨vs0, q1, q2, q3, q4, q5⟩ := hob.2 b k hρ
  rw [hh] at q1; cases q1
  have hlt := own_lt hc hil hρ
  have hf : Fr c (c.gr b vs' i e sz els.length) := by
    refine ⟨fun _ _ h => .inl h, fun b' o' h => ?_, by simp [Cx.gr, World.setRow], fun b' o' h => ?_, fun b' hb' hno => ?_, fun b' hb' => ?_, fun j o' hj => ?_, rfl, rfl, rfl⟩
    · by_cases e1 : b' = b
      · subst e1
        simp only [Cx.gr, cell_of_heap (setRow_heap c.w b' vs _ e _ hh), cell_of_heap hh]
        exact hpre _ (Nat.lt_of_not_le fun hle => q5 _ hle h)
      · simp only [Cx.gr, World.cell?, setRow_other c.w b b' vs' e1]
    · rcases h with h | h
      · exact .inl h
      · exact .inr (.inr (h.1 ▸ hown))
    · have hne : b' ≠ b := by intro e; subst e; exact hno hown
      exact setRow_other c.w b b' vs' hne
    · obtain ⟨j, k', hj, hr⟩ := hb'
      exact .inl ⟨j, k', by simpa [Cx.gr] using hj, hr⟩
    · simp only [Cx.gr, set_get hil]
      by_cases e1 : i = j
      · subst e1
        rw [hi] at hj; cases hj
        exact ⟨.arr e sz els.length, by simp, rfl, rfl, hn, fun _ => rfl⟩
      · exact ⟨o', by simp [e1, hj], by cases o' <;> simp [ExtOb]⟩
  refine ⟨⟨fun j1 j2 b k1 k2 h1 h2 h3 h4 => hc.inj j1 j2 b k1 k2 (by simpa [Cx.gr] using h1) (by simpa [Cx.gr] using h2) h3 h4, fun b' o h => ?_, fun j o hj => ?_⟩, hf, ⟨⟨_, _, b, 0, rfl, hk, q4, hm2, .inr rfl, prepE_mk fun j x hx => ?_⟩, by simp [Cx.gr, hil], fun e' sz' n hn' => ?_⟩⟩
  · rcases h with h | h
    · simpa [Cx.gr, World.setRow] using hc.okLt _ _ h
    · rw [h.1]; simpa [Cx.gr, World.setRow] using hlt
  · simp only [Cx.gr, set_get hil] at hj
    by_cases e1 : i = j
    · subst e1
      simp at hj; subst hj
      refine ⟨fun h => (by simp only [Cx.gr] at h; rw [hρ] at h; cases h), fun b2 k' hb => ?_⟩
      simp only [Cx.gr] at hb
      rw [hρ] at hb; cases hb
      refine ⟨vs', setRow_heap c.w b vs _ e _ hh, by rw [hs]; exact q2, hk, q4, fun o ho h => ?_⟩
      rcases h with h | h
      · exact q5 o (Nat.le_trans (Nat.mul_le_mul_right _ hn) ho) h
      · omega
    · simp only [e1, if_false] at hj
      refine orep_keep hf (hc.obj j o hj) fun b' k' hr => ?_
      have hne : b' ≠ b := by
        intro eb; subst eb
        exact e1 (hc.inj i j _ _ _ hil (List.getElem?_eq_some_iff.1 hj).1 hρ hr)
      exact ⟨setRow_other c.w b b' vs' hne, fun x hx => hx.resolve_right fun h => hne h.1⟩
  · obtain ⟨p1, p2⟩ := hl.2 j x hx
    refine ⟨p1, prepC_mk fun l y hy' => ?_⟩
    obtain ⟨v, r1, r2⟩ := p2 l y hy'
    have hj : j < els.length := (List.getElem?_eq_some_iff.1 hx).1
    have hll : l < sz := by have := (List.getElem?_eq_some_iff.1 hy').1; omega
    have hmul : (j + 1) * sz ≤ els.length * sz := Nat.mul_le_mul_right _ (by omega)
    rw [Nat.add_mul, Nat.one_mul] at hmul
    have hr1 : vs'[j * sz + l]? = some v := by
      rw [← hy, List.getElem?_take, if_pos (by omega)] at r1
      simpa using r1
    refine ⟨v, ?_, .inr ⟨rfl, by simp; omega⟩, h1 _ v (by omega) hr1, prep_mono hf.cell hf.okS r2⟩
    simp only [Cx.gr]
    rw [cell_of_heap (setRow_heap c.w b vs _ e _ hh)]
    simpa using hr1
  · simp only [Cx.gr, set_get hil] at hn'
    simp at hn'
    obtain ⟨_, rfl, rfl⟩ := hn'
    exact ⟨rfl, Nat.le_refl _, fun _ => by simp [Cx.gr, curV, hρ]⟩

def bytesB (P : Program) (e bytes : Nat) : Bool := match P.info? e with
  | some i => i.bytes == bytes && (match i.zero with | some z => z.cells.size == i.size && z.cells.all oneC | none => false)
  | none => false

theorem run_append_none {P : Program} {t ty e : TypeId} {i : TypeInfo} (ht : P.underlying t = some (.slice e)) (hi : P.info? e = some i) (b : Option Addr) (n k : Nat) (hnk : n ≤ k) (y : Value) (hy : ∃ a c, y = .slice a 0 c) (w : World) :
    (Builtin.append_ #[t, t] ty #[.slice b n k, y]).run P w = .ok (.slice b n k) w := by
  obtain ⟨a, c, rfl⟩ := hy
  have hf : (Builtin.firstCells i.size 0 (.slice a 0 c)).run P w = .ok #[] w := by cases a <;> simp [Builtin.firstCells, loadCells, loadCellsFrom]
  cases b <;> simp [Builtin.append_, run_underlying ht, sizeOf, typeInfo, hi, Builtin.lenOf, hnk, hf, storeCells]

section
variable {P : Program} {c0 : Cx} {N : Nat} {D : List Deferred} {o : Oper} {a : Act} {w : World} {t : T} {H : List Ob}

theorem take_get {l : List Value} {n : Nat} {j : Nat} (h : j < n) : (l.take n)[j]? = l[j]? := by rw [List.getElem?_take, if_pos h]

set_option maxHeartbeats 2000000 in
theorem does_app {d ty e sz bytes i n : Nat} {x y : O} {xo yo : Operand} {els new : List (List V)} (hs : Sm c0 N D t H a w) (hd : o.dst = some d) (hn : d < N) (ho : o.op = .call { callee := .builtin .append, args := #[xo, yo], argTypes := #[ty, ty] })
    (hsl : isSl P ty e = true) (hsz : sizeB P e sz = true) (hb : bytesB P e bytes = true) (hb0 : 0 < bytes) (hx : okO xo x = true) (hy : okO yo y = true) (h1 : ev t x = .own i sz els) (h2 : elV (ev t y) = some new) (h3 : H[i]? = some (.arr e sz n)) (h4 : n = els.length)
    (h5 : ∀ z ∈ new, z.length = sz) (h6 : (els.length + new.length) * bytes ≤ maxEls) : Does P c0 N D o a w ((d, .own i sz (els ++ new)) :: t) (H.set i (.arr e sz (els.length + new.length))) := by
  subst h4
  have hu := isSl_eq hsl
  unfold bytesB at hb
  cases hi : P.info? e with
  | none => simp [hi] at hb
  | some inf =>
    cases hz : inf.zero with
    | none => simp [hi, hz] at hb
    | some z =>
      simp only [hi, hz, Bool.and_eq_true, beq_iff_eq] at hb
      obtain ⟨hbb, hzs, hz1⟩ := hb
      have hsz' : inf.size = sz := by simpa [sizeB, hi] using hsz
      obtain ⟨g1, g2, c, rfl, rfl, hc, hf0, h7⟩ := id hs
      have q1 := ev_rep h7 hx
      have q2 := ev_rep h7 hy
      rw [h1] at q1
      obtain ⟨⟨ad, cp, b0, o0, hv, l1, l2, l3, l4, l5⟩, hil, q3⟩ := q1
      obtain ⟨_, _, hcur⟩ := q3 e sz _ h3
      have hcur := hcur rfl
      -- the old elements
      obtain ⟨olds, o1, o2, o3⟩ := prepE_vals l5
      have hlen0 : els.length ≤ maxEls := by
        have : els.length * 1 ≤ (els.length + new.length) * bytes := Nat.mul_le_mul (by omega) hb0
        omega
      have hlen1 : els.length + new.length ≤ maxEls := by
        have : (els.length + new.length) * 1 ≤ (els.length + new.length) * bytes := Nat.mul_le_mul (Nat.le_refl _) hb0
        omega
      have hexec : ∀ v' w', (Builtin.append_ #[ty, ty] o.type #[a.eval xo, a.eval yo]).run P c.w = .ok v' w' → (execOp a.eval o).run P c.w = .ok (.value v') w' := fun v' w' hr => by
        simp only [execOp, ho, resolve, invoke, builtin, Sem.run_bind, Sem.run_pure, Result.andThen_ok, List.map_toArray, List.map_cons, List.map_nil, hr]
      by_cases hm : new = []
      · -- nothing is appended
        subst hm
        have hy0 : ∃ a' c', a.eval yo = .slice a' 0 c' := by
          rcases elV_rep h2 q2 with ⟨_, e2, _⟩ | ⟨z', _, e2⟩
          · exact ⟨_, _, e2⟩
          · obtain ⟨a', c', _, _, e3, _⟩ := e2; exact ⟨a', c', by simpa using e3⟩
        refine ⟨a.eval xo, c.w, .inl (hexec _ _ (by rw [hv]; exact run_append_none hu hi ad els.length cp l1 _ hy0 c.w)), ?_⟩
        rw [hd]
        have hH : c.H.set i (.arr e sz (els.length + ([] : List (List V)).length)) = c.H := by
          apply List.ext_getElem?
          intro j
          rw [set_get hil]
          by_cases e1 : i = j
          · subst e1; simp [h3]
          · simp [e1]
        rw [hH, List.append_nil]
        exact sm_val hs hn fun c' w1 w2 w3 _ => by have := ev_rep w3 hx; rw [h1] at this; exact this
      · -- the new ones
        have hpos : 0 < new.length := List.length_pos_iff.2 hm
        obtain ⟨bn, on, cn, news, hvy, n1, n2, n3⟩ : ∃ bn on cn news, a.eval yo = .slice (some ⟨bn, on, none⟩) new.length cn ∧ List.length news = new.length * sz ∧ (∀ (j : Nat) (u : Value), news[j]? = some u → c.w.cell? ⟨bn, on + j, none⟩ = some u ∧ oneC u = true) ∧ (∀ (i : Nat) (e : List V), new[i]? = some e → e.length = sz ∧ ∀ (j : Nat) (x : V), e[j]? = some x → ∃ v, news[i * sz + j]? = some v ∧ prep c.w c.ok x v) := by
          rcases elV_rep h2 q2 with ⟨_, _, e2⟩ | ⟨z', _, e2⟩
          · exact absurd e2 hm
          · obtain ⟨a', c', b', o', e3, _, _, _, e4, e5⟩ := e2
            have ha := e4.resolve_left hm
            subst ha
            have hz' : z' = sz := by
              have hg : new[0]? = some new[0] := List.getElem?_eq_getElem hpos
              have := (prepE_get e5 hg).1
              rw [← this, h5 _ (List.getElem_mem hpos)]
            subst hz'
            obtain ⟨news, s1, s2, s3⟩ := prepE_vals e5
            exact ⟨b', o', c', news, e3, s1, by simpa using s2, s3⟩
        have hLo : Lies c.w c.ok sz els olds := ⟨o1, o3⟩
        have hLn : Lies c.w c.ok sz new news := ⟨n1, n3⟩
        have hL := hLo.append hLn
        have hone : ∀ v ∈ olds ++ news, oneC v = true := by
          intro v hv
          rcases List.mem_append.1 hv with h | h
          · obtain ⟨j, hj, e⟩ := List.getElem_of_mem h
            exact (o2 j v (by rw [List.getElem?_eq_getElem hj, e])).2
          · obtain ⟨j, hj, e⟩ := List.getElem_of_mem h
            exact (n2 j v (by rw [List.getElem?_eq_getElem hj, e])).2
        have hnews : ∀ (j : Nat) (u : Value), news[j]? = some u → c.w.cell? ((⟨bn, on, none⟩ : Addr).add j) = some u := fun j u hu => by rw [Addr.add_lit]; exact (n2 j u hu).1
        have hnl : news.length = new.length * inf.size := by rw [hsz']; exact n1
        have hlen : (els ++ new).length = els.length + new.length := by simp
        have h63 : ((els.length + new.length : Nat) : Int) ≤ 9223372036854775807 := by unfold maxEls at hlen1; omega
        have hbytes : (els.length + new.length) * inf.bytes ≤ 140737488355328 := by rw [hbb]; exact h6
        -- a new block
        have newblock : ∀ (cap : Nat), els.length + new.length ≤ cap → cap ≤ capMax → ∀ vs : Array Value, vs = (olds ++ news).toArray ++ Builtin.zeroCells z.cells (cap - (els.length + new.length)) →
            Sm c0 N D ((d, .own i sz (els ++ new)) :: t) (c.H.set i (.arr e sz (els.length + new.length))) (a.put (some d) (.slice (some ⟨c.w.heap.size, 0, none⟩) (els.length + new.length) cap)) (c.w.drew.alloc (.cells vs e)) := by
          intro cap hc1 hc2 vs hvs
          obtain ⟨k1, k2⟩ := conc_heap hc (w' := c.w.drew) rfl rfl rfl rfl
          have hLd : Lies c.w.drew c.ok sz (els ++ new) (olds ++ news) := ⟨hL.1, fun i e he => by
            obtain ⟨r1, r2⟩ := hL.2 i e he
            exact ⟨r1, fun j x hx => by obtain ⟨v, r3, r4⟩ := r2 j x hx; exact ⟨v, r3, prep_mono (w := c.w) (w' := c.w.drew) (ok := c.ok) (fun b o _ => rfl) (fun _ _ h => h) r4⟩⟩⟩
          have hvsz : vs.size = cap * sz := by
            rw [hvs]
            simp only [Array.size_append, List.size_toArray, size_zeroCells, hzs, hsz', List.length_append, o1, n1, ← Nat.add_mul]
            congr 1; omega
          have hvone : ∀ v ∈ vs.toList, oneC v = true := by
            intro v hv
            rw [hvs] at hv
            simp only [Array.toList_append, List.mem_append] at hv
            rcases hv with hv | hv
            · exact hone v (by simpa using hv)
            · simp only [Builtin.zeroCells, Array.toList_map, List.mem_map] at hv
              obtain ⟨j, hj, rfl⟩ := hv
              have hj' : j < (cap - (els.length + new.length)) * z.cells.size := by simpa using hj
              have hp : 0 < z.cells.size := by
                rcases Nat.eq_zero_or_pos z.cells.size with e | e
                · rw [e] at hj'; simp at hj'
                · exact e
              have hlt : j % z.cells.size < z.cells.size := Nat.mod_lt _ hp
              rw [Array.all_eq_true] at hz1
              rw [getElem!_pos z.cells _ hlt]
              exact hz1 _ hlt
          have hr := rep_reArr (c := { c with w := c.w.drew }) k1 (i := i) (e := e) (sz := sz) (n0 := els.length) (k := cap) (vs := vs) (els := els ++ new) h3 (by rw [hlen]; omega) (by rw [hlen]; exact hc1) hc2 (by rw [hlen]; exact hlen1) hvsz hvone hLd (by
            rw [hvs, hlen]
            simp only [Array.toList_append]
            rw [show (els.length + new.length) * sz = (olds ++ news).length by simp [o1, n1, Nat.add_mul]]
            exact List.take_left)
          rw [hlen] at hr
          obtain ⟨r1, r2, r3⟩ := hr
          have hfr := k2.trans r2
          exact ⟨by rw [put_size]; exact g1, by rw [put_defers]; exact g2, _, rfl, rfl, r1, hf0.trans hfr, trep_put g1 hn r3 (trep_fr hfr h7)⟩
        cases hρ : c.ρ i with
        | none =>
          rw [hρ] at hcur
          have hv0 : a.eval xo = .slice none 0 0 := hcur
          have he0 : els.length = 0 := (hc.obj i _ h3).1 hρ
          have hels : els = [] := List.eq_nil_of_length_eq_zero he0
          subst hels
          have hr := run_append_nil (P := P) c.w ty o.type e inf z hu hi hz ⟨bn, on, none⟩ new.length cn news hnl hnews hpos (by simpa using h63) (by simp at hbytes; omega)
          have hol : olds = [] := List.eq_nil_of_length_eq_zero (by simpa using o1)
          subst hol
          refine ⟨_, _, .inl (hexec _ _ (by rw [hv0, hvy]; exact hr)), ?_⟩
          rw [hd]
          have := newblock (grownCap c.w new.length 0 e) (by simpa using grownCap_ge c.w new.length 0 e) (by have := grownCap_le_maxLen c.w new.length 0 e (by simp only [maxLen]; simp at h63; omega); simpa [capMax, maxLen] using this) _ rfl
          simpa using this
        | some bk =>
          obtain ⟨b, k⟩ := bk
          rw [hρ] at hcur
          have hvb : a.eval xo = .slice (some ⟨b, 0, none⟩) els.length k := hcur
          rw [hv] at hvb
          cases hvb
          obtain ⟨vs, p1, p2, p3, p4, p5⟩ := (hc.obj i _ h3).2 b cp hρ
          by_cases hroom : els.length + new.length ≤ cp
          · have hfit : els.length * sz + news.length ≤ vs.size := by rw [n1, p2, ← Nat.add_mul]; exact Nat.mul_le_mul_right _ hroom
            have hr := run_append_room (P := P) c.w ty o.type e inf hu hi b els.length cp vs p1 ⟨bn, on, none⟩ new.length cn news hnl hnews (fun u hu => by rw [oneC_eq]; exact hone u (List.mem_append.2 (.inr hu))) hroom (by rw [hsz']; exact hfit)
            rw [hsz'] at hr
            refine ⟨_, _, .inl (hexec _ _ (by rw [hv, hvy]; exact hr)), ?_⟩
            rw [hd]
            -- the old cells are the old elements
            have hold : vs.toList.take (els.length * sz) = olds := by
              by_cases hE : els = []
              · subst hE
                have hol : olds = [] := List.eq_nil_of_length_eq_zero (by simpa using o1)
                simp [hol]
              · have ha := l4.resolve_left hE
                cases ha
                have hlen2 : els.length * sz ≤ vs.size := by rw [p2]; exact Nat.mul_le_mul_right _ p3
                apply List.ext_getElem?
                intro j
                by_cases hj : j < els.length * sz
                · rw [take_get hj]
                  have hjo : olds[j]? = some olds[j] := List.getElem?_eq_getElem (by omega)
                  have := (o2 j _ hjo).1
                  simp only [Nat.zero_mul, Nat.add_zero, Nat.zero_add] at this
                  rw [cell_of_heap p1] at this
                  rw [hjo, ← this]; simp
                · rw [List.getElem?_eq_none (by simp; omega), List.getElem?_eq_none (by omega)]
            have hvs' : ((vs.toList.take (els.length * sz) ++ news ++ vs.toList.drop (els.length * sz + news.length)).toArray).toList.take ((els ++ new).length * sz) = olds ++ news := by
              rw [hold, hlen, show (els.length + new.length) * sz = (olds ++ news).length by simp [o1, n1, Nat.add_mul]]
              exact List.take_left
            obtain ⟨r1, r2, r3⟩ := rep_gr hc (i := i) (e := e) (sz := sz) (n0 := els.length) (b := b) (k := cp) (vs := vs) (vs' := (vs.toList.take (els.length * sz) ++ news ++ vs.toList.drop (els.length * sz + news.length)).toArray) (els := els ++ new) h3 hρ p1 (by rw [hlen]; omega) (by rw [hlen]; exact hroom) (by rw [hlen]; exact hlen1)
              (by simp; omega) (fun j v hj hv => by
                have hg := take_get (l := (vs.toList.take (els.length * sz) ++ news ++ vs.toList.drop (els.length * sz + news.length)).toArray.toList) hj
                rw [hvs'] at hg
                exact hone v (List.mem_of_getElem? (by rw [hg]; simpa using hv)))
              (fun j hj => by
                rw [List.getElem?_toArray, List.getElem?_append, if_pos (by simp; rw [p2]; have := Nat.mul_le_mul_right sz p3; omega), List.getElem?_append, if_pos (by simp; rw [p2]; have := Nat.mul_le_mul_right sz p3; omega), take_get hj]
                simp) hL hvs'
            rw [hlen] at r1 r2 r3
            exact ⟨by rw [put_size]; exact g1, by rw [put_defers]; exact g2, _, rfl, rfl, r1, hf0.trans r2, trep_put g1 hn r3 (trep_fr r2 h7)⟩
          · have holds : ∀ (j : Nat) (u : Value), olds[j]? = some u → c.w.cell? ((⟨b, 0, none⟩ : Addr).add j) = some u := by
              intro j u hu'
              have hE : els ≠ [] := by
                intro hE; subst hE
                have hol : olds = [] := List.eq_nil_of_length_eq_zero (by simpa using o1)
                subst hol; simp at hu'
              have ha := l4.resolve_left hE
              cases ha
              rw [Addr.add_lit]
              simpa using (o2 j u hu').1
            have hr := run_append_grow (P := P) c.w ty o.type e inf z hu hi hz ⟨b, 0, none⟩ els.length cp olds (by rw [hsz']; exact o1) holds ⟨bn, on, none⟩ new.length cn news hnl hnews (by omega) h63 (growslice_fits (by omega) hbytes)
            refine ⟨_, _, .inl (hexec _ _ (by rw [hv, hvy]; exact hr)), ?_⟩
            rw [hd]
            have := newblock (grownCap c.w (els.length + new.length) cp e) (grownCap_ge c.w _ cp e) (by have := grownCap_le_maxLen c.w (els.length + new.length) cp e (by simp only [maxLen]; omega); simpa [capMax, maxLen] using this) _ rfl
            simpa using this

end
end Go.Dw
end
section
set_option linter.unusedVariables false
set_option linter.unusedSimpArgs false
namespace Go.Dw

theorem rep_clip {c : Cx} {m : Nat} {H' : List Ob} {x : V} {v : Value} (h : rep c x v) (hg : ∀ (i : Nat) (o : Ob), i < m → c.H[i]? = some o → H'[i]? = some (renOb (clip m) o)) : rep ⟨c.w, c.ok, c.ρ, H'⟩ (ren (clip m) x) v :=
  rep_ren (c := c) (c' := ⟨c.w, c.ok, c.ρ, H'⟩) (fun _ _ _ => rfl) (fun _ _ h => h) (fun i j o hi ho => by
    simp only [clip] at hi
    split at hi
    · rename_i h1; cases hi; exact ⟨hg i o h1 ho, rfl⟩
    · cases hi) h

section
variable {P : Program} {c0 : Cx} {N : Nat} {D : List Deferred} {o : Oper} {a : Act} {w : World} {t : T} {H : List Ob}

theorem b2sV_len : ∀ {els : List (List V)} {l : List UInt8}, b2sV els = some l → l.length = els.length
  | [], _, h => by cases h; rfl
  | e :: r, l, h => by
    unfold b2sV at h
    split at h
    · rename_i h1; cases h1
    · rename_i n r' h1
      cases h1
      split at h
      · rename_i l' hl; cases h; simp [b2sV_len hl]
      · cases h
    · cases h
theorem b2sV_get : ∀ {els : List (List V)} {l : List UInt8}, b2sV els = some l → ∃ xs : List Int, xs.length = els.length ∧ l = xs.map (fun n => UInt8.ofNat n.toNat) ∧ ∀ (i : Nat) (e : List V), els[i]? = some e → e = [V.int .u8 (xs.getD i 0)]
  | [], _, h => by cases h; exact ⟨[], rfl, rfl, by simp⟩
  | e :: r, l, h => by
    unfold b2sV at h
    split at h
    · rename_i h1; cases h1
    · rename_i n r' h1
      cases h1
      split at h
      · rename_i l' hl
        cases h
        obtain ⟨xs, q1, q2, q3⟩ := b2sV_get hl
        refine ⟨n :: xs, by simp [q1], by simp [q2], fun i e he => ?_⟩
        cases i with
        | zero => simp at he; subst he; rfl
        | succ i => simp at he; simpa using q3 i e he
      · cases h
    · cases h

theorem does_b2s {d ty e ty2 : Nat} {x : O} {xo : Operand} {els : List (List V)} {l : List UInt8} (hs : Sm c0 N D t H a w) (hd : o.dst = some d) (hn : d < N) (ho : o.op = .convert ty ty2 xo) (hx : okO xo x = true)
    (hu : P.underlying ty = some (.slice e)) (he : P.underlying e = some (.int .u8)) (hu2 : P.underlying ty2 = some .string) (h1 : elV (ev t x) = some els) (h2 : b2sV els = some l) : Does P c0 N D o a w ((d, .str l) :: t) H := by
  obtain ⟨xs, q1, q2, q3⟩ := b2sV_get h2
  obtain ⟨c, hw, _, _, _, hrep⟩ := sm_rep hs hx
  refine does_val hs hd hn (v := .string ⟨⟨l⟩⟩) ?_ (fun c' _ _ _ _ => rfl)
  rcases elV_rep h1 hrep with ⟨_, e2, e3⟩ | ⟨sz, _, ad, cp, b, off, e2, _, _, _, e3, e4⟩
  · subst e3
    have : l = [] := by cases h2; rfl
    subst this
    have := run_convert_bytes_nil (P := P) w ty e hu he 0 0 ty2 hu2
    simp only [execOp, ho, Sem.run_bind, e2, this, Result.andThen_ok, Sem.run_pure]
    rfl
  · by_cases hE : els = []
    · subst hE
      have hl : l = [] := by cases h2; rfl
      subst hl
      cases ad with
      | none =>
        have := run_convert_bytes_nil (P := P) w ty e hu he 0 cp ty2 hu2
        simp only [execOp, ho, Sem.run_bind, e2, List.length_nil, this, Result.andThen_ok, Sem.run_pure]
        rfl
      | some ad =>
        obtain ⟨b', o', sp⟩ := ad
        have hrun : (convert ty ty2 (.slice (some ⟨b', o', sp⟩) 0 cp)).run P w = .ok (.string ⟨⟨[]⟩⟩) w := by
          rw [run_convert_bytes_string w ty ty2 e _ 0 cp hu he hu2]
          simp [Conv.bytesToString, loadCells, loadCellsFrom]
          rfl
        simp only [execOp, ho, Sem.run_bind, e2, List.length_nil, hrun, Result.andThen_ok, Sem.run_pure]
    · have ha := e3.resolve_left hE
      subst ha
      have hcell : ∀ i, i < els.length → w.cell? ⟨b, off + i, none⟩ = some (.int .u8 (xs.getD i 0)) := by
        intro i hi
        have hg : els[i]? = some els[i] := List.getElem?_eq_getElem hi
        obtain ⟨g1, g2⟩ := prepE_get e4 hg
        rw [q3 i _ hg] at g1 g2
        have hsz : sz = 1 := by simpa using g1.symm
        subst hsz
        obtain ⟨⟨v, r1, _, _, r4⟩, _⟩ := g2
        have hv : v = .int .u8 (xs.getD i 0) := r4
        subst hv
        rw [hw] at r1
        simpa using r1
      have := run_convert_bytes_arg (P := P) w ty e hu he b off els.length cp xs q1 hcell ty2 hu2
      simp only [execOp, ho, Sem.run_bind, e2, this, Result.andThen_ok, Sem.run_pure, strOfNums, q2]

theorem does_s2b {d ty ty2 e : Nat} {s : List UInt8} {x : O} {xo : Operand} (hs : Sm c0 N D t H a w) (hd : o.dst = some d) (hn : d < N) (ho : o.op = .convert ty ty2 xo) (hx : okO xo x = true)
    (hu : P.underlying ty = some .string) (hu2 : P.underlying ty2 = some (.slice e)) (he : P.underlying e = some (.int .u8)) (h1 : ev t x = .str s) (hl : s.length ≤ maxEls) : Does P c0 N D o a w ((d, .sl 1 (s.map fun c => [.int .u8 c.toNat])) :: t) H := by
  obtain ⟨c, _, _, _, _, hrep⟩ := sm_rep hs hx
  rw [h1] at hrep
  have hv : a.eval xo = .string ⟨⟨s⟩⟩ := hrep
  have hsz : (⟨⟨s⟩⟩ : ByteArray).size = s.length := rfl
  have hr := run_bytes_of_string (P := P) w ty ty2 e ⟨⟨s⟩⟩ hu hu2 he
  rw [hsz] at hr
  have hcap1 := grownCap_ge w s.length 0 e
  have hcap2 := grownCap_le_maxLen w s.length 0 e (by simp only [maxLen]; unfold maxEls at hl; omega)
  generalize grownCap w s.length 0 e = cap at hr hcap1 hcap2
  refine ⟨.slice (some ⟨w.heap.size, 0, none⟩) s.length cap, w.drew.alloc (.cells (bytesRow ⟨⟨s⟩⟩ cap) e ((bytesRow ⟨⟨s⟩⟩ cap).size, (bytesRow ⟨⟨s⟩⟩ cap).size + 1)), .inl ?_, ?_⟩
  · simp only [execOp, ho, Sem.run_bind, hv, hr, Result.andThen_ok, Sem.run_pure]
  · rw [hd]
    refine sm_new hs hn fun c' h3 h4 h5 ht => ?_
    subst h3 h4
    obtain ⟨k1, k2⟩ := conc_heap h5 (w' := c'.w.drew) rfl rfl rfl rfl
    have hfr := fr_addRo k1 (.cells (bytesRow ⟨⟨s⟩⟩ cap) e ((bytesRow ⟨⟨s⟩⟩ cap).size, (bytesRow ⟨⟨s⟩⟩ cap).size + 1))
    refine ⟨Cx.addRo { c' with w := c'.w.drew } (.cells (bytesRow ⟨⟨s⟩⟩ cap) e ((bytesRow ⟨⟨s⟩⟩ cap).size, (bytesRow ⟨⟨s⟩⟩ cap).size + 1)), rfl, rfl, conc_addRo k1 _, k2.trans hfr, some ⟨c'.w.heap.size, 0, none⟩, cap, c'.w.heap.size, 0, by simp, by simpa using hcap1, by simpa [capMax, maxLen] using hcap2, by simpa using hl, .inr rfl, prepE_mk fun i x hx => ?_⟩
    simp only [List.getElem?_map] at hx
    cases hi : s[i]? with
    | none => simp [hi] at hx
    | some b =>
      simp [hi] at hx
      subst hx
      refine ⟨rfl, ⟨.int .u8 b.toNat, ?_, .inr rfl, rfl, rfl⟩, trivial⟩
      simp only [Cx.addRo]
      rw [cell_of_heap (vs := bytesRow ⟨⟨s⟩⟩ cap) (e := e) (fz := ((bytesRow ⟨⟨s⟩⟩ cap).size, (bytesRow ⟨⟨s⟩⟩ cap).size + 1)) (by exact heap_alloc_new c'.w.drew _)]
      have hil : i < s.length := (List.getElem?_eq_some_iff.1 hi).1
      have hb : s[i] = b := (List.getElem?_eq_some_iff.1 hi).2
      simp [bytesRow, Array.getElem?_append, hil, hb]

/-! ### What is only noted -/
theorem sm_non {d e sz : Nat} (hs : Sm c0 N D t H a w) (hn : lk t d = .nil) : Sm c0 N D ((d, .own H.length sz []) :: t) (H ++ [.arr e sz 0]) a w := by
  obtain ⟨g1, g2, c, rfl, rfl, hc, hf0, h7⟩ := hs
  have hf : Fr c ⟨c.w, c.ok, upd c.ρ c.H.length none, c.H ++ [.arr e sz 0]⟩ := by
    refine ⟨fun _ _ h => h, fun _ _ _ => rfl, Nat.le_refl _, fun _ _ h => .inl h, fun _ _ _ => rfl, fun b hb => ?_, fun i o hi => ?_, rfl, rfl, rfl⟩
    · obtain ⟨j, k, hj, hr⟩ := hb
      simp only [List.length_append, List.length_cons, List.length_nil] at hj hr
      by_cases e1 : j = c.H.length
      · subst e1; rw [upd_same] at hr; cases hr
      · rw [upd_ne e1] at hr; exact .inl ⟨j, k, by omega, hr⟩
    · have hil : i < c.H.length := (List.getElem?_eq_some_iff.1 hi).1
      refine ⟨o, by simpa [List.getElem?_append_left hil] using hi, ?_⟩
      simp only [upd_ne (show i ≠ c.H.length by omega)]
      cases o <;> simp [ExtOb]
  have hcn : Conc ⟨c.w, c.ok, upd c.ρ c.H.length none, c.H ++ [.arr e sz 0]⟩ := by
    refine ⟨fun i j b k1 k2 hi hj h1 h2 => ?_, hc.okLt, fun i o hi => ?_⟩
    · simp only [List.length_append, List.length_cons, List.length_nil] at hi hj h1 h2
      by_cases e1 : i = c.H.length
      · subst e1; rw [upd_same] at h1; cases h1
      · by_cases e2 : j = c.H.length
        · subst e2; rw [upd_same] at h2; cases h2
        · rw [upd_ne e1] at h1; rw [upd_ne e2] at h2
          exact hc.inj i j b k1 k2 (by omega) (by omega) h1 h2
    · by_cases e1 : i < c.H.length
      · have hi' : c.H[i]? = some o := by simpa [List.getElem?_append_left e1] using hi
        simp only [upd_ne (show i ≠ c.H.length by omega)]
        exact orep_keep hf (hc.obj i o hi') fun b k _ => ⟨rfl, fun _ h => h⟩
      · have hl := (List.getElem?_eq_some_iff.1 hi).1
        simp only [List.length_append, List.length_cons, List.length_nil] at hl
        have e2 : i = c.H.length := by omega
        subst e2
        simp only [List.getElem?_concat_length, Option.some.injEq] at hi
        subst hi
        simp only [upd_same]
        exact ⟨fun _ => rfl, fun b k h => by cases h⟩
  refine ⟨g1, g2, ⟨c.w, c.ok, upd c.ρ c.H.length none, c.H ++ [.arr e sz 0]⟩, rfl, rfl, hcn, hf0.trans hf, fun s x hx => ?_⟩
  simp only [find] at hx
  split at hx
  · rename_i e1; subst e1; cases hx
    have hl := lk_rep h7 d
    rw [hn] at hl
    have hv : a.tmps.getD d undef = .slice none 0 0 := hl
    have hd : d < N := by
      cases hfd : find t d with
      | none => simp [lk, hfd] at hn
      | some y => exact (h7 d y hfd).1
    refine ⟨hd, ⟨none, 0, 0, 0, hv, Nat.le_refl _, by unfold capMax; omega, by simp, .inl rfl, trivial⟩, by simp, fun e' sz' n hn' => ?_⟩
    simp only [List.getElem?_concat_length, Option.some.injEq, Ob.arr.injEq] at hn'
    obtain ⟨_, rfl, rfl⟩ := hn'
    exact ⟨rfl, Nat.le_refl _, fun _ => by simp only [upd_same]; exact hv⟩
  · exact ⟨(h7 s x hx).1, rep_fr hf (h7 s x hx).2⟩

theorem clip_conc {c0 c : Cx} {D : List Deferred} (hc : Conc c) (hf1 : FrD c0 D c) {m : Nat} (hB : c0.H.length ≤ m) :
    Conc ⟨c.w, c.ok, c.ρ, (c.H.take m).map (renOb (clip m))⟩ ∧ FrD c0 D ⟨c.w, c.ok, c.ρ, (c.H.take m).map (renOb (clip m))⟩ ∧ ∀ x v, rep c x v → rep ⟨c.w, c.ok, c.ρ, (c.H.take m).map (renOb (clip m))⟩ (ren (clip m) x) v := by
  have hf0 := hf1.fr
  -- the objects below m
  have hget : ∀ (i : Nat) (o : Ob), (((c.H.take m).map (renOb (clip m)))[i]? = some o) → ∃ o', i < m ∧ c.H[i]? = some o' ∧ o = renOb (clip m) o' := by
    intro i o hi
    rw [List.getElem?_map, List.getElem?_take] at hi
    split at hi
    · cases ho : c.H[i]? with
      | none => simp [ho] at hi
      | some o' => simp [ho] at hi; exact ⟨o', by assumption, rfl, hi.symm⟩
    · simp at hi
  have hget' : ∀ (i : Nat) (o : Ob), i < m → c.H[i]? = some o → ((c.H.take m).map (renOb (clip m)))[i]? = some (renOb (clip m) o) := by
    intro i o hi ho
    rw [List.getElem?_map, List.getElem?_take, if_pos hi, ho]; rfl
  have hren : ∀ x v, rep c x v → rep ⟨c.w, c.ok, c.ρ, (c.H.take m).map (renOb (clip m))⟩ (ren (clip m) x) v := by
    intro x v hx
    exact rep_clip hx hget'
  have hcn : Conc ⟨c.w, c.ok, c.ρ, (c.H.take m).map (renOb (clip m))⟩ := by
    refine ⟨fun i j b k1 k2 hi hj h1 h2 => hc.inj i j b k1 k2 (by simp at hi; omega) (by simp at hj; omega) h1 h2, hc.okLt, fun i o hi => ?_⟩
    obtain ⟨o', him, ho', rfl⟩ := hget i o hi
    have h := hc.obj i o' ho'
    cases o' with
    | cells e cs =>
      obtain ⟨b, vs, q1, q2, q3, q4, q5⟩ := h
      refine ⟨b, vs, q1, q2, by rw [rens_length]; exact q3, q4, fun j x hx => ?_⟩
      rw [rens_get] at hx
      cases hy : cs[j]? with
      | none => simp [hy] at hx
      | some y =>
        simp [hy] at hx; subst hx
        obtain ⟨v, r1, r2, r3⟩ := q5 j y hy
        exact ⟨v, r1, r2, hren _ _ r3⟩
    | arr e sz n => exact h
    | map es =>
      obtain ⟨b, ents, q1, q2, q3, q4⟩ := h
      exact ⟨b, ents, q1, by simpa [renOb] using q2, q3, q4.ren hren⟩
    | iter mm n seen =>
      obtain ⟨b, bm, q1, q2, q3, q4⟩ := h
      refine ⟨b, bm, q1, q2, q3, q4.ren fun i j o hi ho => ?_⟩
      unfold clip at hi
      split at hi
      · rename_i hlt; cases hi; exact ⟨hget' _ _ hlt ho, rfl⟩
      · cases hi
    | dead => exact h
    | row e sz els =>
      refine ⟨fun hr => by simpa [renOb] using h.1 hr, fun b k hb => ?_⟩
      obtain ⟨vs, q1, q2, q3, q4, q5, q6⟩ := h.2 b k hb
      exact ⟨vs, q1, q2, by simpa using q3, q4, q5, q6.ren hren⟩
    | lp l st r ts =>
      obtain ⟨q1, q2, q3, q4⟩ := h
      exact ⟨q1, q2, q3, q4.ren hren⟩
  have hf : Fr c0 ⟨c.w, c.ok, c.ρ, (c.H.take m).map (renOb (clip m))⟩ := by
    refine ⟨hf0.okS, hf0.cell, hf0.size, hf0.okN, hf0.heap, fun b hb => ?_, fun i o ho => ?_, hf0.os, hf0.tape, hf0.output⟩
    · obtain ⟨j, k, hj, hr⟩ := hb
      exact hf0.own b ⟨j, k, by simp at hj; omega, hr⟩
    · obtain ⟨o', h1, h2⟩ := hf0.ext i o ho
      have hi : i < c0.H.length := (List.getElem?_eq_some_iff.1 ho).1
      refine ⟨_, hget' i o' (by omega) h1, ?_⟩
      cases o <;> cases o' <;> simp only [ExtOb, renOb, List.length_map] at h2 ⊢ <;> exact h2
  refine ⟨hcn, ⟨hf, fun d hd => ?_, hf1.nodup⟩, hren⟩
  obtain ⟨b, p1, p2, p3, p4, p5⟩ := hf1.marks d hd
  refine ⟨b, p1, p2, p3, fun ho => ?_, p5⟩
  obtain ⟨j, k, hj, hr⟩ := ho
  exact p4 ⟨j, k, by simp at hj; omega, hr⟩
theorem sm_ks {B m : Nat} {l : List Nat} (hB : c0.H.length ≤ m) (hs : Sm c0 N D t H a w) (hl : ∀ n ∈ l, n < N) : Sm c0 N D (l.map fun n => (n, ren (clip m) (lk t n))) ((H.take m).map (renOb (clip m))) a w := by
  obtain ⟨g1, g2, c, rfl, rfl, hc, hf1, h7⟩ := hs
  obtain ⟨hcn, hfd, hren⟩ := clip_conc hc hf1 hB
  refine ⟨g1, g2, ⟨c.w, c.ok, c.ρ, (c.H.take m).map (renOb (clip m))⟩, rfl, rfl, hcn, hfd, fun s x hx => ?_⟩
  have key : ∀ (l : List Nat), (∀ n ∈ l, n < N) → find (l.map fun n => (n, ren (clip m) (lk t n))) s = some x → s < N ∧ x = ren (clip m) (lk t s) := by
    intro l
    induction l with
    | nil => intro _ h; simp [find] at h
    | cons n l ih =>
      intro hl h
      simp only [List.map_cons, find] at h
      split at h
      · rename_i e1; subst e1; cases h; exact ⟨hl _ (by simp), rfl⟩
      · exact ih (fun k hk => hl k (by simp [hk])) h
  obtain ⟨h1, rfl⟩ := key l hl hx
  exact ⟨h1, hren _ _ (lk_rep h7 s)⟩

theorem put1_get (off : Nat) (x : V) (cs : List V) (h : off < cs.length) (j : Nat) : (put off [x] cs)[j]? = if j = off then some x else cs[j]? := by
  simp only [put, List.getElem?_append, List.length_append, List.length_take, List.length_cons, List.length_nil, List.getElem?_take, List.getElem?_drop]
  rw [show min off cs.length = off by omega]
  by_cases h1 : j < off
  · simp [h1, show j < off + (0 + 1) by omega, show j ≠ off by omega]
  · by_cases h2 : j = off
    · subst h2; simp
    · simp [show ¬ j < off + 1 by omega, h2]
      congr 1; omega

theorem sm_ono {e sz i off e' : Nat} {cs : List V} (hs : Sm c0 N D t H a w) (hi : H[i]? = some (.cells e' cs)) (ho : cs[off]? = some .nil) : Sm c0 N D t (H.set i (.cells e' (put off [.own H.length sz []] cs)) ++ [.arr e sz 0]) a w := by
  obtain ⟨g1, g2, c, rfl, rfl, hc, hf0, h7⟩ := hs
  have hil : i < c.H.length := (List.getElem?_eq_some_iff.1 hi).1
  have hofl : off < cs.length := (List.getElem?_eq_some_iff.1 ho).1
  have hg : ∀ (j : Nat), (c.H.set i (.cells e' (put off [.own c.H.length sz []] cs)) ++ [.arr e sz 0])[j]? = if j = i then some (.cells e' (put off [.own c.H.length sz []] cs)) else if j = c.H.length then some (.arr e sz 0) else c.H[j]? := by
    intro j
    by_cases hj : j < c.H.length
    · rw [List.getElem?_append_left (by simpa using hj), set_get hil]
      by_cases e1 : i = j
      · subst e1; simp
      · simp [e1, Ne.symm e1, show j ≠ c.H.length by omega]
    · by_cases e1 : j = c.H.length
      · subst e1; simp [show c.H.length ≠ i by omega]
      · rw [List.getElem?_append_right (by simp; omega)]
        simp [show j ≠ i by omega, e1]
        rw [List.getElem?_eq_none (by simp; omega), List.getElem?_eq_none (by omega)]
  have hf : Fr c ⟨c.w, c.ok, upd c.ρ c.H.length none, c.H.set i (.cells e' (put off [.own c.H.length sz []] cs)) ++ [.arr e sz 0]⟩ := by
    refine ⟨fun _ _ h => h, fun _ _ _ => rfl, Nat.le_refl _, fun _ _ h => .inl h, fun _ _ _ => rfl, fun b hb => ?_, fun j o hj => ?_, rfl, rfl, rfl⟩
    · obtain ⟨j, k, hj, hr⟩ := hb
      simp only [List.length_append, List.length_cons, List.length_nil, List.length_set] at hj hr
      by_cases e1 : j = c.H.length
      · subst e1; rw [upd_same] at hr; cases hr
      · rw [upd_ne e1] at hr; exact .inl ⟨j, k, by omega, hr⟩
    · have hjl : j < c.H.length := (List.getElem?_eq_some_iff.1 hj).1
      simp only [hg, upd_ne (show j ≠ c.H.length by omega)]
      by_cases e1 : j = i
      · subst e1
        rw [hi] at hj; cases hj
        exact ⟨.cells e' (put off [.own c.H.length sz []] cs), by simp, rfl, rfl⟩
      · refine ⟨o, by simp [e1, show j ≠ c.H.length by omega, hj], ?_⟩
        cases o <;> simp [ExtOb]
  have hcn : Conc ⟨c.w, c.ok, upd c.ρ c.H.length none, c.H.set i (.cells e' (put off [.own c.H.length sz []] cs)) ++ [.arr e sz 0]⟩ := by
    refine ⟨fun j1 j2 b k1 k2 h1 h2 h3 h4 => ?_, hc.okLt, fun j o hj => ?_⟩
    · simp only [List.length_append, List.length_cons, List.length_nil, List.length_set] at h1 h2 h3 h4
      by_cases e1 : j1 = c.H.length
      · subst e1; rw [upd_same] at h3; cases h3
      · by_cases e2 : j2 = c.H.length
        · subst e2; rw [upd_same] at h4; cases h4
        · rw [upd_ne e1] at h3; rw [upd_ne e2] at h4
          exact hc.inj j1 j2 b k1 k2 (by omega) (by omega) h3 h4
    · simp only [hg] at hj
      by_cases e1 : j = i
      · subst e1
        simp at hj; subst hj
        simp only [upd_ne (show j ≠ c.H.length by omega)]
        obtain ⟨b, vs, q1, q2, q3, q4, q5⟩ := hc.obj j _ hi
        refine ⟨b, vs, q1, q2, by rw [put_length (by simp; omega)]; exact q3, q4, fun l x hx => ?_⟩
        rw [put1_get _ _ _ hofl] at hx
        by_cases e2 : l = off
        · subst e2
          simp at hx; subst hx
          obtain ⟨v, r1, r2, r3⟩ := q5 l _ ho
          have hv : v = .slice none 0 0 := r3
          refine ⟨v, r1, r2, ⟨none, 0, 0, 0, hv, Nat.le_refl _, by unfold capMax; omega, by simp, .inl rfl, trivial⟩, by simp, fun e'' sz' n hn' => ?_⟩
          simp only [hg, if_neg (show c.H.length ≠ j by omega), if_true, Option.some.injEq, Ob.arr.injEq] at hn'
          obtain ⟨_, rfl, rfl⟩ := hn'
          exact ⟨rfl, Nat.le_refl _, fun _ => by simp only [upd_same]; exact hv⟩
        · simp only [e2, if_false] at hx
          obtain ⟨v, r1, r2, r3⟩ := q5 l x hx
          exact ⟨v, r1, r2, rep_fr hf r3⟩
      · by_cases e2 : j = c.H.length
        · subst e2
          simp [e1] at hj; subst hj
          simp only [upd_same]
          exact ⟨fun _ => rfl, fun b k h => by cases h⟩
        · simp only [e1, e2, if_false] at hj
          simp only [upd_ne e2]
          exact orep_keep hf (hc.obj j o hj) fun b k _ => ⟨rfl, fun _ h => h⟩
  exact ⟨g1, g2, ⟨c.w, c.ok, upd c.ρ c.H.length none, c.H.set i (.cells e' (put off [.own c.H.length sz []] cs)) ++ [.arr e sz 0]⟩, rfl, rfl, hcn, hf0.trans hf, fun s x hx => ⟨(h7 s x hx).1, rep_fr hf (h7 s x hx).2⟩⟩

end
end Go.Dw
end
section
set_option linter.unusedVariables false
set_option linter.unusedSimpArgs false
namespace Go.Dw

/-- Another thing in the block of an own object. -/
def Cx.pt (c : Cx) (b : Nat) (ob : Obj) (i : Nat) (o : Ob) : Cx := ⟨{ c.w with heap := c.w.heap.setIfInBounds b ob }, c.ok, c.ρ, c.H.set i o⟩

theorem heap_set_ne {w : World} {b b' : Nat} {ob : Obj} (h : b' ≠ b) : (w.heap.setIfInBounds b ob)[b']? = w.heap[b']? := Array.getElem?_setIfInBounds_ne (Ne.symm h)
theorem fr_pt {c : Cx} (hc : Conc c) {b i k : Nat} {o0 o : Ob} (hi : c.H[i]? = some o0) (hρ : c.ρ i = some (b, k)) (hno : ∀ x, ¬ c.ok b x) (ob : Obj) (ho : ExtOb o0 o (c.ρ i) (c.ρ i)) : Fr c (c.pt b ob i o) := by
  have hil : i < c.H.length := (List.getElem?_eq_some_iff.1 hi).1
  refine ⟨fun _ _ h => h, fun b' o' h => ?_, by simp [Cx.pt], fun b' o' h => .inl h, fun b' hb' hn => ?_, fun b' hb' => ?_, fun j o' hj => ?_, rfl, rfl, rfl⟩
  · have hne : b' ≠ b := by intro e; subst e; exact hno _ h
    simp only [Cx.pt, World.cell?, heap_set_ne hne]
  · have hne : b' ≠ b := by intro e; subst e; exact hn ⟨i, k, hil, hρ⟩
    exact heap_set_ne hne
  · obtain ⟨j, k', hj, hr⟩ := hb'
    exact .inl ⟨j, k', by simpa [Cx.pt] using hj, hr⟩
  · simp only [Cx.pt, set_get hil]
    by_cases e : i = j
    · subst e
      rw [hi] at hj; cases hj
      exact ⟨o, by simp, ho⟩
    · refine ⟨o', by simp [e, hj], ?_⟩
      cases o' <;> simp [ExtOb]
theorem conc_pt {c : Cx} (hc : Conc c) {b i k : Nat} {o0 o : Ob} (hi : c.H[i]? = some o0) (hρ : c.ρ i = some (b, k)) (hno : ∀ x, ¬ c.ok b x) (ob : Obj) (ho : ExtOb o0 o (c.ρ i) (c.ρ i)) (hor : orep (c.pt b ob i o) o (c.ρ i)) : Conc (c.pt b ob i o) := by
  have hf := fr_pt hc hi hρ hno ob ho
  have hil : i < c.H.length := (List.getElem?_eq_some_iff.1 hi).1
  refine ⟨fun j1 j2 b' k1 k2 h1 h2 h3 h4 => hc.inj j1 j2 b' k1 k2 (by simpa [Cx.pt] using h1) (by simpa [Cx.pt] using h2) h3 h4, fun b' o' h => by simpa [Cx.pt] using hc.okLt b' o' h, fun j o' hj => ?_⟩
  simp only [Cx.pt, set_get hil] at hj
  by_cases e : i = j
  · subst e
    simp at hj; subst hj; exact hor
  · simp only [e, if_false] at hj
    refine orep_keep hf (hc.obj j o' hj) fun b' k' hr => ?_
    have hne : b' ≠ b := by
      intro eb; subst eb
      exact e (hc.inj i j _ _ _ hil (List.getElem?_eq_some_iff.1 hj).1 hρ hr)
    exact ⟨heap_set_ne hne, fun x hx => hx⟩

/-! ### Keys -/
theorem ba_beq (a b : List UInt8) : ((⟨⟨a⟩⟩ : ByteArray) == ⟨⟨b⟩⟩) = (a == b) := by
  rw [show ((⟨⟨a⟩⟩ : ByteArray) == ⟨⟨b⟩⟩) = ((⟨a⟩ : Array UInt8) == ⟨b⟩) from rfl]; simp

/-- The key's make fits the map's. -/
def kdB (kd : TypeDesc) (k : V) : Bool := match kd, k with
  | .int _, .int _ _ => true
  | .string, .str _ => true
  | _, _ => false
theorem sameK_sound {c : Cx} {kd : TypeDesc} {k q : V} (hkd : kdB kd k = true) {kv qv : Value} (hk : rep c k kv) (hq : rep c q qv) {b : Bool} (h : sameK k q = some b) : Instr.sameNow kd kv qv = some b := by
  unfold sameK at h
  unfold kdB at hkd
  split at h
  · rename_i j a j' a'
    split at hkd
    · rename_i heq; cases heq
      have e1 : kv = .int j a := hk
      have e2 : qv = .int j' a' := hq
      subst e1 e2
      simpa [Instr.sameNow] using h
    · rename_i heq; cases heq
    · cases hkd
  · rename_i a b'
    split at hkd
    · rename_i heq; cases heq
    · have e1 : kv = .string ⟨⟨a⟩⟩ := hk
      have e2 : qv = .string ⟨⟨b'⟩⟩ := hq
      subst e1 e2
      simp only [Option.some.injEq] at h
      subst h
      simp only [Instr.sameNow, ba_beq]
    · cases hkd
  · cases h

theorem findM_sound {c : Cx} {kd : TypeDesc} {k : V} (hkd : kdB kd k = true) {kv : Value} (hk : rep c k kv) : ∀ {es : List (V × V)} {el : List MapEntry} {n : Nat} {r : Option (Nat × V)}, el.length = es.length →
    (∀ (i : Nat) (p : V × V), es[i]? = some p → ∃ e, el[i]? = some e ∧ rep c p.1 e.key ∧ rep c p.2 e.val) → findM k es n = some r →
    (r = none ∧ Instr.findNow kd kv el n = some none) ∨ ∃ j x v, r = some (n + j, x) ∧ Instr.findNow kd kv el n = some (some (n + j, v)) ∧ rep c x v ∧ ∃ p, es[j]? = some p ∧ sameK k p.1 = some true
  | [], [], n, r, _, _, h => by
    simp only [findM, Option.some.injEq] at h
    exact .inl ⟨h.symm, rfl⟩
  | [], _ :: _, _, _, hl, _, _ => by simp at hl
  | _ :: _, [], _, _, hl, _, _ => by simp at hl
  | p :: es, e :: el, n, r, hl, hr, h => by
    obtain ⟨e', h0, h1, h2⟩ := hr 0 p rfl
    simp at h0
    subst h0
    simp only [findM] at h
    split at h
    · rename_i hs
      cases h
      right
      refine ⟨0, p.2, e.val, rfl, ?_, h2, p, rfl, hs⟩
      simp [Instr.findNow, sameK_sound hkd hk h1 hs]
    · rename_i hs
      rcases findM_sound hkd hk (by simpa using hl) (fun i q hq => hr (i + 1) q (by simpa using hq)) h with ⟨q1, q2⟩ | ⟨j, x, v, q1, q2, q3, q, q4, q5⟩
      · exact .inl ⟨q1, by simp [Instr.findNow, sameK_sound hkd hk h1 hs, q2]⟩
      · right
        refine ⟨j + 1, x, v, by rw [q1]; congr 2; omega, ?_, q3, q, by simpa using q4, q5⟩
        simp only [Instr.findNow, sameK_sound hkd hk h1 hs, q2]
        congr 3; omega
    · cases h

/-- The map's own key type, with the key. -/
def mapB (P : Program) (t : TypeId) (k : V → Bool) : Bool := match P.underlying t with
  | some (.map key _) => match P.underlying key with
    | some _ => true
    | none => false
  | _ => false
/-- What kind of keys a map type has. -/
def keyK (P : Program) (t : TypeId) : Option TypeDesc := match P.underlying t with
  | some (.map key _) => match P.underlying key with
    | some (.int j) => some (.int j)
    | some .string => some .string
    | _ => none
  | _ => none
theorem keyK_eq {P : Program} {t : TypeId} {kd : TypeDesc} (h : keyK P t = some kd) : ∃ key elem, P.underlying t = some (.map key elem) ∧ P.underlying key = some kd ∧ ((∃ j, kd = .int j) ∨ kd = .string) := by
  unfold keyK at h
  split at h
  · rename_i key elem hu
    split at h
    · rename_i j hk; cases h; exact ⟨key, elem, hu, hk, .inl ⟨_, rfl⟩⟩
    · rename_i hk; cases h; exact ⟨key, elem, hu, hk, .inr rfl⟩
    · cases h
  · cases h
theorem run_checkKey1 {P : Program} {key : TypeId} {kd : TypeDesc} (hk : P.underlying key = some kd) (hkd : (∃ j, kd = .int j) ∨ kd = .string) {e : Bool} {v : Value} (w : World) (n : Nat) : (Instr.checkKey e (n + 1) key v).run P w = .ok () w := by
  rcases hkd with ⟨j, rfl⟩ | rfl <;> simp [Instr.checkKey, run_underlying hk]
theorem run_checkKey {P : Program} {key : TypeId} {kd : TypeDesc} (hk : P.underlying key = some kd) (hkd : (∃ j, kd = .int j) ∨ kd = .string) {e : Bool} {v : Value} (w : World) : (Instr.checkKey e 10000 key v).run P w = .ok () w :=
  run_checkKey1 hk hkd w 9999
theorem run_findKey {P : Program} {key : TypeId} {kd : TypeDesc} (hk : P.underlying key = some kd) {kv : Value} {el : List MapEntry} {r : Option (Nat × Value)} (h : Instr.findNow kd kv el 0 = some r) (w : World) : (Instr.findKey key kv el).run P w = .ok r w := by
  simp [Instr.findKey, run_underlying hk, h]
theorem run_getMap {P : Program} {w : World} {b : Nat} {es : Array MapEntry} {n : Nat} (h : w.heap[b]? = some (.map es n)) : (getObj b).run P w = .ok (.map es n) w := by simp [getObj, Sem.run, h]

/-! ### The operations -/
def kindB (ks : Bool) : TypeDesc → Bool
  | .string => ks
  | .int _ => !ks
  | _ => false
def lookB (P : Program) (t : TypeId) (ks : Bool) (z : V) : Bool := (match keyK P t with | some kd => kindB ks kd | none => false) && (match P.underlying t with
  | some (.map _ elem) => (match P.info? elem with | some i => (match i.zero with | some v => okC v z | none => false) | none => false)
  | _ => false)
theorem kind_kd {ks : Bool} {kd : TypeDesc} {k : V} (h : kindB ks kd = true) (h2 : ksB ks k = true) : kdB kd k = true := by
  cases kd <;> simp only [kindB, Bool.false_eq_true] at h <;> cases k <;> simp only [ksB, Bool.false_eq_true] at h2 <;> simp_all [kdB]

section
variable {P : Program} {c0 : Cx} {N : Nat} {D : List Deferred} {o : Oper} {a : Act} {w : World} {t : T} {H : List Ob}

theorem does_mkm {d ty : Nat} (hs : Sm c0 N D t H a w) (hd : o.dst = some d) (hn : d < N) (ho : o.op = .makeMap ty none) : Does P c0 N D o a w ((d, .map H.length) :: t) (H ++ [.map []]) := by
  refine ⟨.map (some w.heap.size), w.alloc (.map #[] 0), .inl ?_, ?_⟩
  · simp [execOp, ho, Instr.makeMap, newObj, Sem.run]
  · rw [hd]
    refine sm_new hs hn fun c h3 h4 h5 h7 => ⟨c.addOwn (.map #[] 0) (.map []) 0 fun _ => False, by subst h3; rfl, by subst h4; rfl, ?_, fr_addOwn h5 _ _ _ _, ?_⟩
    · refine conc_addOwn h5 _ _ _ _ ⟨c.w.heap.size, #[], rfl, heap_alloc_new _ _, fun o ho => ?_, rfl, by simp⟩
      exact absurd (h5.okLt _ _ (ho.resolve_right (by simp))) (Nat.lt_irrefl _)
    · subst h3; subst h4
      exact ⟨by simp [Cx.addOwn], ⟨_, rfl⟩, fun es h => ⟨c.w.heap.size, 0, upd_same _ _ _, rfl⟩⟩

theorem entsV_some {c : Cx} (hc : Conc c) {m : V} {mv : Value} (hr : rep c m mv) {es : List (V × V)} (h : entsV c.H m = some es) : (mv = .map none ∧ es = []) ∨ ∃ i b ents, m = .map i ∧ c.H[i]? = some (.map es) ∧ c.ρ i = some (b, 0) ∧ mv = .map (some b) ∧ c.w.heap[b]? = some (.map ents es.length) ∧ (∀ o, ¬ c.ok b o) ∧ entsOk c es ents := by
  unfold entsV at h
  split at h
  · cases h; exact .inl ⟨hr, rfl⟩
  · rename_i i
    split at h
    · rename_i es' hi
      cases h
      obtain ⟨h1, h2, h3⟩ := hr
      obtain ⟨b, k, q1, q2⟩ := h3 _ hi
      obtain ⟨b', ents, p1, p2, p3, p4⟩ := hc.obj i _ hi
      rw [p1] at q1; cases q1
      exact .inr ⟨i, _, ents, rfl, hi, p1, q2, p2, p3, p4⟩
    · cases h
  · cases h
theorem ents_list {c : Cx} {es : List (V × V)} {ents : Array MapEntry} (h : entsOk c es ents) : ents.toList.length = es.length ∧ ∀ (i : Nat) (p : V × V), es[i]? = some p → ∃ e, ents.toList[i]? = some e ∧ rep c p.1 e.key ∧ rep c p.2 e.val :=
  ⟨by simpa using h.1, fun i p hp => (h.2 i p hp).imp fun e he => ⟨by simpa using he.1, he.2.2⟩⟩

def foundV (zv : Value) (ok : Bool) (fv : Option (Nat × Value)) : Value := if ok then .tuple #[(match fv with | some p => p.2 | none => zv), .bool fv.isSome] else (match fv with | some p => p.2 | none => zv)
theorem run_lookup_nil {ty key elem : Nat} {kd : TypeDesc} {inf : TypeInfo} {zv kv : Value} {ok : Bool} (hu : P.underlying ty = some (.map key elem)) (huk : P.underlying key = some kd) (hkk : (∃ j, kd = .int j) ∨ kd = .string) (hi : P.info? elem = some inf) (hz : inf.zero = some zv) (w : World) :
    (Instr.lookup ty (.map none) kv ok).run P w = .ok (foundV zv ok none) w := by
  have h1 : (Instr.findKey key kv []).run P w = .ok none w := run_findKey huk (by rfl) w
  have h2 : (zeroValue elem).run P w = .ok zv w := by simp [zeroValue, typeInfo, hi, hz]
  cases ok <;> simp [Instr.lookup, run_underlying hu, run_checkKey huk hkk, h1, h2, foundV]
theorem run_lookup {ty key elem : Nat} {kd : TypeDesc} {inf : TypeInfo} {zv kv : Value} {ok : Bool} (hu : P.underlying ty = some (.map key elem)) (huk : P.underlying key = some kd) (hkk : (∃ j, kd = .int j) ∨ kd = .string) (hi : P.info? elem = some inf) (hz : inf.zero = some zv) {w : World} {b n : Nat} {ents : Array MapEntry}
    (hb : w.heap[b]? = some (.map ents n)) {fv : Option (Nat × Value)} (hf : Instr.findNow kd kv ents.toList 0 = some fv) : (Instr.lookup ty (.map (some b)) kv ok).run P w = .ok (foundV zv ok fv) w := by
  have h1 : (Instr.findKey key kv ents.toList).run P w = .ok fv w := run_findKey huk hf w
  have h2 : (zeroValue elem).run P w = .ok zv w := by simp [zeroValue, typeInfo, hi, hz]
  cases ok <;> cases fv <;> simp [Instr.lookup, run_underlying hu, run_checkKey huk hkk, run_getMap hb, h1, h2, foundV]

theorem does_lkp {d ty : Nat} {ks ok : Bool} {z : V} {m k : O} {ym yk : Operand} {r : V} (hs : Sm c0 N D t H a w) (hd : o.dst = some d) (hn : d < N) (ho : o.op = .lookup ty ym yk ok) (hb : lookB P ty ks z = true) (hm : okO ym m = true) (hk : okO yk k = true) (hr : lookV H ks ok z (ev t m) (ev t k) = some r) :
    Does P c0 N D o a w ((d, r) :: t) H := by
  simp only [lookB, Bool.and_eq_true] at hb
  obtain ⟨hb1, hb2⟩ := hb
  split at hb1
  case h_2 => cases hb1
  rename_i kd hkd
  obtain ⟨key, elem, hu, huk, hkk⟩ := keyK_eq hkd
  rw [hu] at hb2
  simp only at hb2
  cases hi : P.info? elem with
  | none => simp [hi] at hb2
  | some inf =>
  cases hz : inf.zero with
  | none => simp [hi, hz] at hb2
  | some zv =>
  simp only [hi, hz] at hb2
  unfold lookV at hr
  split at hr
  case isFalse => cases hr
  rename_i hks
  have hkdB := kind_kd hb1 hks
  split at hr
  case h_2 => cases hr
  rename_i es hes
  split at hr
  case h_2 => cases hr
  rename_i f hf
  cases hr
  have fin : ∀ (c : Cx) (fv : Option (Nat × Value)), ((f = none ∧ fv = none) ∨ ∃ j x v, f = some (j, x) ∧ fv = some (j, v) ∧ rep c x v) → rep c (foundX z ok f) (foundV zv ok fv) := by
    intro c fv h
    have hzr := (okC_rep hb2 c).1
    rcases h with ⟨rfl, rfl⟩ | ⟨j, x, v, rfl, rfl, hx⟩
    · cases ok
      · exact hzr
      · exact ⟨_, rfl, _, _, rfl, hzr, _, _, rfl, rfl, rfl⟩
    · cases ok
      · exact hx
      · exact ⟨_, rfl, _, _, rfl, hx, _, _, rfl, rfl, rfl⟩
  obtain ⟨_, _, c, h3, h4, h5, _, h7⟩ := id hs
  subst h3; subst h4
  rcases entsV_some h5 (ev_rep h7 hm) hes with ⟨q1, q2⟩ | ⟨i, b, ents, q1, q2, q3, q4, q5, q6, q7⟩
  · subst q2
    have hf' : f = none := by simpa [findM] using hf.symm
    refine does_val hs hd hn (v := foundV zv ok none) ?_ fun c' _ _ _ _ => fin c' none (.inl ⟨hf', rfl⟩)
    simp [execOp, ho, q1, run_lookup_nil hu huk hkk hi hz]
  · obtain ⟨l1, l2⟩ := ents_list q7
    have getf : ∀ c', c'.w = c.w → c'.H = c.H → TRep N c' t a → Conc c' → ∃ fv, Instr.findNow kd (a.eval yk) ents.toList 0 = some fv ∧ ((f = none ∧ fv = none) ∨ ∃ j x v, f = some (j, x) ∧ fv = some (j, v) ∧ rep c' x v) := by
      intro c' e1 e2 e3 e4
      have hes' : entsV c'.H (ev t m) = some es := by rw [e2]; exact hes
      rcases entsV_some e4 (ev_rep e3 hm) hes' with ⟨p1, p2⟩ | ⟨i', b', ents', p1, p2, p3, p4, p5, p6, p7⟩
      · rw [q4] at p1; cases p1
      · rw [q4] at p4; cases p4
        rw [e1, q5] at p5; cases p5
        obtain ⟨l1', l2'⟩ := ents_list p7
        rcases findM_sound hkdB (ev_rep e3 hk) l1' l2' hf with ⟨g1, g2⟩ | ⟨j, x, v, g1, g2, g3, _⟩
        · exact ⟨none, g2, .inl ⟨g1, rfl⟩⟩
        · exact ⟨some (0 + j, v), g2, .inr ⟨0 + j, x, v, g1, rfl, g3⟩⟩
    obtain ⟨fv, f1, f2⟩ := getf c rfl rfl h7 h5
    refine does_val hs hd hn (v := foundV zv ok fv) ?_ fun c' e1 e2 e3 e4 => ?_
    · simp [execOp, ho, q4, run_lookup hu huk hkk hi hz q5 f1]
    · obtain ⟨fv', f1', f2'⟩ := getf c' e1 e2 e3 e4
      rw [f1] at f1'; cases f1'
      exact fin c' fv f2'

theorem run_setMap {w : World} {b n : Nat} {es : Array MapEntry} (ob : Obj) (h : w.heap[b]? = some (.map es n)) : (setObj b ob).run P w = .ok () { w with heap := w.heap.setIfInBounds b ob } := by simp [setObj, Sem.run, h]
theorem sameK_bits {c : Cx} {k q : V} {kv qv : Value} (hk : rep c k kv) (hq : rep c q qv) (h : sameK k q = some true) : Instr.sameBits 10000 qv kv = true ∧ kv = qv := by
  unfold sameK at h
  split at h
  · rename_i j a j' a'
    have e1 : kv = .int j a := hk
    have e2 : qv = .int j' a' := hq
    split at h
    · rename_i hj
      subst hj
      simp only [Option.some.injEq, beq_iff_eq] at h
      subst h; subst e1; subst e2
      simp [Instr.sameBits]
    · cases h
  · rename_i a b'
    have e1 : kv = .string ⟨⟨a⟩⟩ := hk
    have e2 : qv = .string ⟨⟨b'⟩⟩ := hq
    simp only [Option.some.injEq, beq_iff_eq] at h
    subst h; subst e1; subst e2
    simp [Instr.sameBits, ba_beq]
  · cases h

theorem run_update_new {ty key elem : Nat} {kd : TypeDesc} {kv xv : Value} (hu : P.underlying ty = some (.map key elem)) (huk : P.underlying key = some kd) (hkk : (∃ j, kd = .int j) ∨ kd = .string) {w : World} {b n : Nat} {ents : Array MapEntry}
    (hb : w.heap[b]? = some (.map ents n)) (hf : Instr.findNow kd kv ents.toList 0 = some none) : (Instr.mapUpdate ty (.map (some b)) kv xv).run P w = .ok () { w with heap := w.heap.setIfInBounds b (.map (ents.push { key := kv, val := xv, born := n }) (n + 1)) } := by
  have h1 : (Instr.findKey key kv ents.toList).run P w = .ok none w := run_findKey huk hf w
  simp [Instr.mapUpdate, run_underlying hu, run_checkKey huk hkk, run_getMap hb, h1, run_setMap _ hb]
theorem run_update_old {ty key elem : Nat} {kd : TypeDesc} {kv xv : Value} (hu : P.underlying ty = some (.map key elem)) (huk : P.underlying key = some kd) (hkk : (∃ j, kd = .int j) ∨ kd = .string) {w : World} {b n j : Nat} {ents : Array MapEntry} {v0 : Value}
    (hb : w.heap[b]? = some (.map ents n)) (hf : Instr.findNow kd kv ents.toList 0 = some (some (j, v0))) {e : MapEntry} (he : ents[j]? = some e) (hbits : Instr.sameBits 10000 e.key kv = true) :
    (Instr.mapUpdate ty (.map (some b)) kv xv).run P w = .ok () { w with heap := w.heap.setIfInBounds b (.map (ents.modify j fun e => { e with key := kv, val := xv }) n) } := by
  have h1 : (Instr.findKey key kv ents.toList).run P w = .ok (some (j, v0)) w := run_findKey huk hf w
  have h2 : (Instr.keyThatStays e.key kv).run P w = .ok kv w := by simp [Instr.keyThatStays, hbits]
  simp [Instr.mapUpdate, run_underlying hu, run_checkKey huk hkk, run_getMap hb, h1, he, h2, run_setMap _ hb]

def mupB (P : Program) (t : TypeId) (ks : Bool) : Bool := match keyK P t with | some kd => kindB ks kd | none => false

theorem does_mup {ty : Nat} {ks : Bool} {m k x : O} {ym yk yx : Operand} {i : Nat} {es es' : List (V × V)} (hs : Sm c0 N D t H a w) (hd : o.dst = none) (ho : o.op = .mapUpdate ty ym yk yx) (hb : mupB P ty ks = true) (hm : okO ym m = true) (hk : okO yk k = true) (hx : okO yx x = true)
    (h1 : ev t m = .map i) (h2 : H[i]? = some (.map es)) (h3 : ksB ks (ev t k) = true) (h4 : updM (ev t k) (ev t x) es = some es') : Does P c0 N D o a w t (H.set i (.map es')) := by
  unfold mupB at hb
  split at hb
  case h_2 => cases hb
  rename_i kd hkd
  obtain ⟨key, elem, hu, huk, hkk⟩ := keyK_eq hkd
  have hkdB := kind_kd hb h3
  obtain ⟨s1, s2, c, s3, s4, s5, s6, s7⟩ := id hs
  subst s3; subst s4
  have hrm := ev_rep s7 hm
  rw [h1] at hrm
  obtain ⟨r1, r2, r3⟩ := hrm
  obtain ⟨b, k0, q1, q2⟩ := r3 es h2
  obtain ⟨b, ents, p1, p2, p3, p4⟩ := s5.obj i _ h2
  rw [p1] at q1; cases q1
  have hkr := ev_rep s7 hk
  have hxr := ev_rep s7 hx
  obtain ⟨l1, l2⟩ := ents_list p4
  have fin : ∀ (ents' : Array MapEntry), (Instr.mapUpdate ty (.map (some b)) (a.eval yk) (a.eval yx)).run P c.w = .ok () { c.w with heap := c.w.heap.setIfInBounds b (.map ents' es'.length) } →
      (∀ c', (∀ x v, rep c x v → rep c' x v) → entsOk c' es' ents') → Does P c0 N D o a c.w t (c.H.set i (.map es')) := by
    intro ents' hrun hents
    have hext : ExtOb (.map es) (.map es') (c.ρ i) (c.ρ i) := rfl
    have hf := fr_pt s5 h2 p1 p3 (.map ents' es'.length) hext
    refine ⟨undef, { c.w with heap := c.w.heap.setIfInBounds b (.map ents' es'.length) }, .inr ⟨rfl, ?_⟩, ?_⟩
    · simp [execOp, ho, q2, hrun]
    · rw [hd]
      refine ⟨s1, s2, c.pt b (.map ents' es'.length) i (.map es'), rfl, rfl, conc_pt s5 h2 p1 p3 _ hext ?_, s6.trans hf, trep_fr hf s7⟩
      refine ⟨b, ents', p1, ?_, p3, hents _ fun x v h => rep_fr hf h⟩
      have hlt := (Array.getElem?_eq_some_iff.1 p2).1
      simp [Cx.pt, hlt]
  unfold updM at h4
  split at h4
  · rename_i j x0 hfm
    cases h4
    rcases findM_sound hkdB hkr l1 l2 hfm with ⟨g1, _⟩ | ⟨j', x1, v1, g1, g2, g3, p, g4, g5⟩
    · cases g1
    · simp only [Option.some.injEq, Prod.mk.injEq, Nat.zero_add] at g1
      obtain ⟨rfl, rfl⟩ := g1
      obtain ⟨e, w1, w2, w3, w4⟩ := p4.2 j p g4
      obtain ⟨hbits, _⟩ := sameK_bits hkr w3 g5
      rw [Nat.zero_add] at g2
      refine fin _ (by rw [List.length_set]; exact run_update_old hu huk hkk p2 g2 w1 hbits) fun c' hc' => ⟨by simp [p4.1], fun n q hq => ?_⟩
      rw [List.getElem?_set] at hq
      by_cases hn : j = n
      · subst hn
        have hlt := (List.getElem?_eq_some_iff.1 g4).1
        simp only [if_true, hlt, Option.some.injEq] at hq
        subst hq
        refine ⟨{ e with key := a.eval yk, val := a.eval yx }, ?_, w2, hc' _ _ hkr, hc' _ _ hxr⟩
        simp [Array.getElem?_modify, w1]
      · simp only [hn, if_false] at hq
        obtain ⟨e', y1, y2, y3, y4⟩ := p4.2 n q hq
        refine ⟨e', ?_, y2, hc' _ _ y3, hc' _ _ y4⟩
        simp [Array.getElem?_modify, hn, y1]
  · rename_i hfm
    cases h4
    rcases findM_sound hkdB hkr l1 l2 hfm with ⟨_, g2⟩ | ⟨_, _, _, g1, _⟩
    · refine fin _ (by rw [List.length_append]; exact run_update_new hu huk hkk p2 g2) fun c' hc' => ⟨by simp [p4.1], fun n q hq => ?_⟩
      by_cases hn : n < es.length
      · rw [List.getElem?_append_left hn] at hq
        obtain ⟨e', y1, y2, y3, y4⟩ := p4.2 n q hq
        refine ⟨e', ?_, y2, hc' _ _ y3, hc' _ _ y4⟩
        rw [Array.getElem?_push]
        rw [if_neg (by rw [p4.1]; omega)]
        exact y1
      · rw [List.getElem?_append_right (by omega)] at hq
        have hn' : n = es.length := by
          have := (List.getElem?_eq_some_iff.1 hq).1
          simp at this; omega
        subst hn'
        simp at hq
        subst hq
        refine ⟨{ key := a.eval yk, val := a.eval yx, born := es.length }, ?_, rfl, hc' _ _ hkr, hc' _ _ hxr⟩
        rw [Array.getElem?_push]
        rw [if_pos p4.1.symm]
    · cases g1
  · cases h4

/-! ### Walking a map -/
theorem does_rg {d ty : Nat} {m : O} {ym : Operand} {i : Nat} {es : List (V × V)} (hs : Sm c0 N D t H a w) (hd : o.dst = some d) (hn : d < N) (ho : o.op = .range ty ym) (hu : (keyK P ty).isSome = true) (hm : okO ym m = true) (h1 : ev t m = .map i) (h2 : H[i]? = some (.map es)) :
    Does P c0 N D o a w ((d, .it H.length) :: t) (H ++ [.iter (some i) es.length []]) := by
  obtain ⟨kd, hkd⟩ := Option.isSome_iff_exists.1 hu
  obtain ⟨key, elem, hu, huk, hkk⟩ := keyK_eq hkd
  obtain ⟨_, _, c, s3, s4, s5, s6, s7⟩ := id hs
  subst s3; subst s4
  have hrm := ev_rep s7 hm
  rw [h1] at hrm
  obtain ⟨r1, r2, r3⟩ := hrm
  obtain ⟨b, k0, q1, q2⟩ := r3 es h2
  obtain ⟨b, ents, p1, p2, p3, p4⟩ := s5.obj i _ h2
  rw [p1] at q1; cases q1
  refine ⟨.pointer (some ⟨c.w.heap.size, 0, none⟩), c.w.alloc (.mapIter (some b) es.length #[] es.length), .inl ?_, ?_⟩
  · simp [execOp, ho, Instr.range, run_underlying hu, q2, run_getMap p2, newObj, Sem.run]
  · rw [hd]
    refine sm_new hs hn fun c' h3 h4 h5 h7 => ?_
    have hrm' := ev_rep h7 hm
    rw [h1] at hrm'
    obtain ⟨r1', r2', r3'⟩ := hrm'
    obtain ⟨b', k0', q1', q2'⟩ := r3' es (h4 ▸ h2)
    rw [q2] at q2'; cases q2'
    refine ⟨c'.addOwn (.mapIter (some b) es.length #[] es.length) (.iter (some i) es.length []) b fun _ => False, by rw [← h3]; rfl, by rw [← h4]; rfl, ?_, fr_addOwn h5 _ _ _ _, ?_⟩
    · refine conc_addOwn h5 _ _ _ _ ⟨c'.w.heap.size, b, rfl, heap_alloc_new _ _, fun o ho => ?_, fun k hk => ?_⟩
      · exact absurd (h5.okLt _ _ (ho.resolve_right (by simp))) (Nat.lt_irrefl _)
      · cases hk
        refine ⟨by simp [Cx.addOwn]; omega, fun es' hes' => ⟨k0', ?_⟩⟩
        show upd _ _ _ _ = _
        rw [upd_ne (by omega)]
        exact q1'
    · rw [← h3, ← h4]
      exact ⟨by simp [Cx.addOwn], ⟨_, rfl⟩, fun m n s h => ⟨c'.w.heap.size, b, upd_same _ _ _, rfl⟩⟩

/-- An iterator and its map. -/
theorem iter_open {c : Cx} (hc : Conc c) {j i n : Nat} {seen : List Nat} {es : List (V × V)} {x : V} {v : Value} (hr : rep c x v) (hx : x = .it j) (hj : c.H[j]? = some (.iter (some i) n seen)) (hi : c.H[i]? = some (.map es)) :
    ∃ bi bm ents, v = .pointer (some ⟨bi, 0, none⟩) ∧ c.ρ j = some (bi, bm) ∧ c.w.heap[bi]? = some (.mapIter (some bm) n seen.toArray n) ∧ (∀ o, ¬ c.ok bi o) ∧ c.w.heap[bm]? = some (.map ents es.length) ∧ entsOk c es ents ∧ itOk c (some i) bm := by
  subst hx
  obtain ⟨r1, r2, r3⟩ := hr
  obtain ⟨b, k, q1, q2⟩ := r3 _ _ _ hj
  obtain ⟨b', bm, p1, p2, p3, p4⟩ := hc.obj j _ hj
  rw [p1] at q1; cases q1
  obtain ⟨_, g2⟩ := p4 i rfl
  obtain ⟨k', g3⟩ := g2 es hi
  obtain ⟨b2, ents, w1, w2, w3, w4⟩ := hc.obj i _ hi
  rw [g3] at w1; cases w1
  exact ⟨_, _, ents, q2, p1, p2, p3, w2, w4, p4⟩
theorem run_getIter {w : World} {b : Nat} {m : Option Nat} {n l : Nat} {s : Array Nat} (h : w.heap[b]? = some (.mapIter m n s l)) : (getObj b).run P w = .ok (.mapIter m n s l) w := by simp [getObj, Sem.run, h]
theorem run_setIter {w : World} {b : Nat} {m : Option Nat} {n l : Nat} {s : Array Nat} (ob : Obj) (h : w.heap[b]? = some (.mapIter m n s l)) : (setObj b ob).run P w = .ok () { w with heap := w.heap.setIfInBounds b ob } := by simp [setObj, Sem.run, h]

theorem born_find {c : Cx} {es : List (V × V)} {ents : Array MapEntry} (h : entsOk c es ents) {k : Nat} {p : V × V} (hp : es[k]? = some p) : ∃ e, ents.find? (fun e => e.born == k) = some e ∧ ents[k]? = some e ∧ rep c p.1 e.key ∧ rep c p.2 e.val := by
  obtain ⟨e, q1, q2, q3, q4⟩ := h.2 k p hp
  have hall : ∀ (n : Nat) (e' : MapEntry), ents[n]? = some e' → e'.born = n := fun n e' he' => by
    have hn : n < es.length := by rw [← h.1]; exact (Array.getElem?_eq_some_iff.1 he').1
    obtain ⟨e2, g1, g2, _⟩ := h.2 n _ (List.getElem?_eq_getElem hn)
    rw [he'] at g1; cases g1; exact g2
  refine ⟨e, ?_, q1, q3, q4⟩
  cases hf : ents.find? (fun e => e.born == k) with
  | none =>
    rw [Array.find?_eq_none] at hf
    exact absurd (by simp [q2]) (hf e (Array.mem_of_getElem? q1))
  | some e' =>
    have h1 := Array.find?_some hf
    have h2 := Array.mem_of_find?_eq_some hf
    obtain ⟨n, hn⟩ := Array.getElem?_of_mem h2
    have h3 := hall n e' hn
    simp only [beq_iff_eq] at h1
    rw [h1] at h3
    subst h3
    rw [q1] at hn
    exact hn.symm

theorem does_en {d : Nat} {x : O} {y : Operand} {j i n k : Nat} {seen : List Nat} {es : List (V × V)} {p : V × V} (hs : Sm c0 N D t H a w) (hd : o.dst = some d) (hn : d < N) (ho : o.op = .entry y) (hx : okO y x = true)
    (h1 : ev t x = .it j) (h2 : H[j]? = some (.iter (some i) n seen)) (h3 : H[i]? = some (.map es)) (h4 : n = es.length) (h5 : seen.getLast? = some k) (h6 : es[k]? = some p) : Does P c0 N D o a w ((d, .tup [p.1, p.2]) :: t) H := by
  obtain ⟨_, _, c, s3, s4, s5, s6, s7⟩ := id hs
  subst s3; subst s4
  obtain ⟨bi, bm, ents, q1, q2, q3, q4, q5, q6, q7⟩ := iter_open s5 (ev_rep s7 hx) h1 h2 h3
  obtain ⟨e, e1, e2, e3, e4⟩ := born_find q6 h6
  refine does_val hs hd hn (v := .tuple #[e.key, e.val]) ?_ fun c' g3 g4 g7 g5 => ?_
  · have hb : seen.toArray.back? = some k := by simpa using h5
    simp [execOp, ho, Instr.entry, q1, run_getIter q3, hb, run_getMap q5, h4, e1]
  · obtain ⟨bi', bm', ents', p1, p2, p3, p4, p5, p6, p7⟩ := iter_open g5 (ev_rep g7 hx) h1 (g4 ▸ h2) (g4 ▸ h3)
    rw [q1] at p1; cases p1
    rw [g3, q3] at p3; cases p3
    rw [g3, q5] at p5; cases p5
    obtain ⟨e', f1, f2, f3, f4⟩ := born_find p6 h6
    rw [e2] at f2; cases f2
    exact ⟨#[e.key, e.val], rfl, _, _, rfl, f3, _, _, rfl, f4, rfl⟩

theorem run_mapNext {n : Nat} (w : World) : ∃ i w', (choose (.mapNext n)).run P w = .ok i w' ∧ (i < n ∨ n = 0) ∧ (w' = w ∨ w' = { w with drawn := w.drawn + 1 }) := by
  by_cases h : n ≤ 1
  · refine ⟨0, w, by simp [choose, Sem.run, Question.forced, h], by omega, .inl rfl⟩
  · refine ⟨w.tape w.drawn (.mapNext n) % n, { w with drawn := w.drawn + 1 }, by simp [choose, Sem.run, Question.forced, Question.cut, h], .inl (Nat.mod_lt _ (by omega)), .inr rfl⟩

/-- What is left of a map. -/
def leftM (ents : Array MapEntry) (seen : List Nat) : Array MapEntry := ents.filter fun e => !seen.toArray.contains e.born

theorem run_next_end {ty bi bm n : Nat} {seen : List Nat} {ents : Array MapEntry} {w : World} (h1 : w.heap[bi]? = some (.mapIter (some bm) n seen.toArray n)) (h2 : w.heap[bm]? = some (.map ents n)) (hb : ∀ e ∈ ents, e.born < n) (hl : leftM ents seen = #[]) :
    (Instr.next (.pointer (some ⟨bi, 0, none⟩)) false ty).run P w = .ok (.tuple #[.bool false]) w := by
  have hall : (!seen.toArray.isEmpty && !ents.isEmpty && ents.all (fun e => decide (e.born ≥ n))) = false := by
    by_cases he : ents.isEmpty = true
    · simp [he]
    · have hpos : 0 < ents.size := by
        rcases Nat.eq_zero_or_pos ents.size with h | h
        · exact absurd (by simpa using h) he
        · exact h
      have : ents.all (fun e => decide (e.born ≥ n)) = false := by
        rw [Array.all_eq_false]
        exact ⟨0, hpos, by have := hb ents[0] (Array.getElem_mem hpos); simp; omega⟩
      rw [this]; simp
  have hl' : ents.filter (fun e => !seen.toArray.contains e.born) = #[] := hl
  simp only [Instr.next, Sem.run_bind, run_getIter h1, run_getMap h2, hall, hl', Result.andThen_ok, Bool.false_eq_true, if_false]
  simp [choose, Sem.run, Question.forced]

theorem run_next_go {ty bi bm n : Nat} {seen : List Nat} {ents : Array MapEntry} {w : World} (h1 : w.heap[bi]? = some (.mapIter (some bm) n seen.toArray n)) (h2 : w.heap[bm]? = some (.map ents n)) (hb : ∀ e ∈ ents, e.born < n) (hl : leftM ents seen ≠ #[]) :
    ∃ e ∈ leftM ents seen, ∃ w1, (w1 = w ∨ w1 = { w with drawn := w.drawn + 1 }) ∧ (Instr.next (.pointer (some ⟨bi, 0, none⟩)) false ty).run P w = .ok (.tuple #[.bool true, e.key, e.val]) { w1 with heap := w1.heap.setIfInBounds bi (.mapIter (some bm) n (seen ++ [e.born]).toArray n) } := by
  have hall : (!seen.toArray.isEmpty && !ents.isEmpty && ents.all (fun e => decide (e.born ≥ n))) = false := by
    by_cases he : ents.isEmpty = true
    · simp [he]
    · have hpos : 0 < ents.size := by
        rcases Nat.eq_zero_or_pos ents.size with h | h
        · exact absurd (by simpa using h) he
        · exact h
      have : ents.all (fun e => decide (e.born ≥ n)) = false := by
        rw [Array.all_eq_false]
        exact ⟨0, hpos, by have := hb ents[0] (Array.getElem_mem hpos); simp; omega⟩
      rw [this]; simp
  have hl' : ents.filter (fun e => !seen.toArray.contains e.born) = leftM ents seen := rfl
  have hmem : ∀ e ∈ leftM ents seen, e ∈ ents := fun e he => (Array.mem_filter.1 he).1
  have hold : (leftM ents seen).filter (fun e => decide (e.born < n)) = leftM ents seen := Array.filter_eq_self.2 fun e he => by simpa using hb e (hmem e he)
  have hnew : (leftM ents seen).filter (fun e => decide (e.born ≥ n)) = #[] := Array.filter_eq_empty_iff.2 fun e he => by have := hb e (hmem e he); simp; omega
  have hne : (leftM ents seen).isEmpty = false := by simpa using hl
  obtain ⟨i, w1, r1, r2, r3⟩ := run_mapNext (P := P) (n := (leftM ents seen).size) w
  have hi : i < (leftM ents seen).size := by
    rcases r2 with h | h
    · exact h
    · exact absurd (by simpa using h) hl
  refine ⟨(leftM ents seen)[i], Array.getElem_mem hi, w1, r3, ?_⟩
  have h1' : w1.heap[bi]? = some (.mapIter (some bm) n seen.toArray n) := by rcases r3 with rfl | rfl <;> exact h1
  have hc : ((leftM ents seen).map some)[i]? = some (some (leftM ents seen)[i]) := by simp [hi]
  simp only [Instr.next, Sem.run_bind, run_getIter h1, run_getMap h2, hall, hl', hold, hnew, hne, Result.andThen_ok, Bool.false_eq_true, if_false, Array.append_empty, Array.empty_append, Array.size_map, r1, hc]
  simp [run_setIter _ h1']

theorem ents_born {c : Cx} {es : List (V × V)} {ents : Array MapEntry} (h : entsOk c es ents) {e : MapEntry} (he : e ∈ ents) : ∃ p, es[e.born]? = some p ∧ ents[e.born]? = some e ∧ rep c p.1 e.key ∧ rep c p.2 e.val := by
  obtain ⟨k, hk⟩ := Array.getElem?_of_mem he
  have hlt : k < es.length := by rw [← h.1]; exact (Array.getElem?_eq_some_iff.1 hk).1
  obtain ⟨e', q1, q2, q3⟩ := h.2 k _ (List.getElem?_eq_getElem hlt)
  rw [hk] at q1; cases q1
  rw [q2]
  exact ⟨_, List.getElem?_eq_getElem hlt, hk, q3⟩

theorem wp_nx {d : Nat} {x : O} {y : Operand} {j i n : Nat} {seen : List Nat} {es : List (V × V)} (hs : Sm c0 N D t H a w) (hd : o.dst = some d) (hn : d < N) (ho : o.op = .next y false) (hx : okO y x = true)
    (h1 : ev t x = .it j) (h2 : H[j]? = some (.iter (some i) n seen)) (h3 : H[i]? = some (.map es)) (h4 : n = es.length) {next : Act → World → Prop}
    (e1 : (∀ k, k < n → k ∈ seen) → ∀ v w', Sm c0 N D ((d, .tup [.bool false]) :: t) H (a.put o.dst v) w' → next (a.put o.dst v) w')
    (e2 : ∀ k p, es[k]? = some p → k ∉ seen → ∀ v w', Sm c0 N D ((d, .tup [.bool true, p.1, p.2]) :: t) (H.set j (.iter (some i) n (seen ++ [k]))) (a.put o.dst v) w' → next (a.put o.dst v) w') : wpD P o a w next := by
  subst h4
  obtain ⟨s1, s2, c, s3, s4, s5, s6, s7⟩ := id hs
  subst s3; subst s4
  obtain ⟨bi, bm, ents, q1, q2, q3, q4, q5, q6, q7⟩ := iter_open s5 (ev_rep s7 hx) h1 h2 h3
  have hborn : ∀ e ∈ ents, e.born < es.length := fun e he => by
    obtain ⟨p, g1, _⟩ := ents_born q6 he
    exact (List.getElem?_eq_some_iff.1 g1).1
  unfold wpD
  by_cases hl : leftM ents seen = #[]
  · have hrun : (execOp a.eval o).run P c.w = .ok (.value (.tuple #[.bool false])) c.w := by
      simp [execOp, ho, q1, run_next_end q3 q5 hborn hl]
    rw [hrun]
    refine e1 (fun k hk => ?_) _ _ ?_
    · obtain ⟨e, g1, g2, _⟩ := q6.2 k _ (List.getElem?_eq_getElem hk)
      have hm := Array.mem_of_getElem? g1
      unfold leftM at hl
      rw [Array.filter_eq_empty_iff] at hl
      have := hl e hm
      simpa [g2] using this
    · rw [hd]
      exact sm_val hs hn fun _ _ _ _ _ => ⟨_, rfl, _, _, rfl, rfl, rfl⟩
  · obtain ⟨e, he, w1, hw1, hrun1⟩ := run_next_go (P := P) (ty := o.type) q3 q5 hborn hl
    have hrun : (execOp a.eval o).run P c.w = .ok (.value (.tuple #[.bool true, e.key, e.val])) { w1 with heap := w1.heap.setIfInBounds bi (.mapIter (some bm) es.length (seen ++ [e.born]).toArray es.length) } := by
      simp only [execOp, ho, q1, Sem.run_bind, hrun1]
      simp
    rw [hrun]
    obtain ⟨hem, hns⟩ := Array.mem_filter.1 he
    obtain ⟨p, g1, g2, g3, g4⟩ := ents_born q6 hem
    -- the state behind the draw
    obtain ⟨c1, k1, k2, k3, k4, k5⟩ : ∃ c1 : Cx, c1.w = w1 ∧ c1.H = c.H ∧ c1.ρ = c.ρ ∧ Conc c1 ∧ Fr c c1 ∧ (∀ o, ¬ c1.ok bi o) := by
      rcases hw1 with rfl | rfl
      · exact ⟨c, rfl, rfl, rfl, s5, .refl c, q4⟩
      · obtain ⟨r1, r2⟩ := conc_heap s5 (w' := { c.w with drawn := c.w.drawn + 1 }) rfl rfl rfl rfl
        exact ⟨{ c with w := { c.w with drawn := c.w.drawn + 1 } }, rfl, rfl, rfl, r1, r2, q4⟩
    obtain ⟨k5, k6⟩ := k5
    subst k1
    have hext : ExtOb (.iter (some i) es.length seen) (.iter (some i) es.length (seen ++ [e.born])) (c1.ρ j) (c1.ρ j) := ⟨rfl, rfl⟩
    have hρ : c1.ρ j = some (bi, bm) := by rw [k3]; exact q2
    have hj : c1.H[j]? = some (.iter (some i) es.length seen) := by rw [k2]; exact h2
    have hf := fr_pt k4 hj hρ k6 (.mapIter (some bm) es.length (seen ++ [e.born]).toArray es.length) hext
    refine e2 e.born p g1 (by simpa using hns) _ _ ?_
    rw [hd]
    refine ⟨by rw [put_size]; exact s1, by rw [put_defers]; exact s2, c1.pt bi (.mapIter (some bm) es.length (seen ++ [e.born]).toArray es.length) j (.iter (some i) es.length (seen ++ [e.born])), rfl, by rw [← k2]; rfl, conc_pt k4 hj hρ k6 _ hext ?_, (s6.trans k5).trans hf, ?_⟩
    · refine ⟨bi, bm, hρ, ?_, k6, (q7.mono k5.ext).mono hf.ext⟩
      have hlt : bi < c1.w.heap.size := own_lt k4 (List.getElem?_eq_some_iff.1 hj).1 hρ
      simp [Cx.pt, hlt]
    · refine trep_put s1 hn ⟨_, rfl, _, _, rfl, rfl, _, _, rfl, rep_fr hf (rep_fr k5 g3), _, _, rfl, rep_fr hf (rep_fr k5 g4), rfl⟩ (trep_fr hf (trep_fr k5 s7))
end
end Go.Dw
end
