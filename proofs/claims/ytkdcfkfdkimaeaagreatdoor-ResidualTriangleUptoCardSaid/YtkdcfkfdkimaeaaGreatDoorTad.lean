/-
  Contracts and lemmas for ResidualTriangle: part d of 9.
-/
import Derived.Test.YtkdcfkfdkimaeaaGreatDoorTac
import Derived.Test.YtkdcfkfdkimaeaaGreatDoorProg
set_option linter.unusedVariables false
set_option linter.unusedSimpArgs false
set_option maxRecDepth 100000
section
namespace Go.Dw
section
variable {P:Program} {N:Nat→C} {B:Nat} {s:List K} {t:T} {H:List Ob} {Q:X→T→List Ob→Prop}
theorem run_done:Run P N B [] t H Q ↔ Q .fall t H:=⟨fun h=>by cases h;assumption,.done⟩
theorem run_skip:Run P N B (.c .skip :: s) t H Q ↔ Run P N B s t H Q:=⟨fun h=>by cases h;assumption,.skip⟩
theorem run_seq {a b:C}:Run P N B (.c (.seq a b) :: s) t H Q ↔ Run P N B (.c a :: .c b :: s) t H Q:=⟨fun h=>by cases h;assumption,.seq⟩
theorem run_reg {l:List S}:Run P N B (.c (.reg l) :: s) t H Q ↔ Run P N B (.r l :: s) t H Q:=⟨fun h=>by cases h;assumption,.reg⟩
theorem run_dr {π:List Nat} {l:List S}:Run P N B (.c (.dr π l) :: s) t H Q ↔ Run P N B (.r l :: s) t H Q:=⟨fun h=>by cases h;assumption,.dr⟩
theorem run_gh {l:List I} {c:C}:Run P N B (.c (.gh l c) :: s) t H Q ↔ Run P N B (.r (l.map .op) :: .c c :: s) t H Q:=⟨fun h=>by cases h;assumption,.gh⟩
theorem run_rend:Run P N B (.r [] :: s) t H Q ↔ Run P N B s t H Q:=⟨fun h=>by cases h;assumption,.rend⟩
theorem run_blk {id:Nat} {a:C}:Run P N B (.c (.blk id a) :: s) t H Q ↔ Run P N B (.c a :: .mk id :: s) t H Q:=⟨fun h=>by cases h;assumption,.blk⟩
theorem run_mk {id:Nat}:Run P N B (.mk id :: s) t H Q ↔ Run P N B s t H Q:=⟨fun h=>by cases h;assumption,.mk⟩
theorem run_loop {a:C}:Run P N B (.c (.loop a) :: s) t H Q ↔ Run P N B (.c a :: .c (.loop a) :: s) t H Q:=⟨fun h=>by cases h;assumption,.loop⟩
theorem run_ret:Run P N B (.c .ret :: s) t H Q ↔ Q .ret t H:=⟨fun h=>by cases h;assumption,.ret⟩
theorem run_m {k:Nat}:Run P N B (.c (.m k) :: s) t H Q ↔ Run P N B (.c (N k) :: s) t H Q:=⟨fun h=>by cases h;assumption,.m⟩
theorem run_bad:Run P N B (.c .bad :: s) t H Q ↔ False:=⟨fun h=>(by cases h),False.elim⟩
/- The continuations are no functions: rewriting would run them ahead of time, with nothing known. -/
def nlP (P:Program) (N:Nat→C) (B:Nat) (l:List S) (s:List K) (t:T) (H:List Ob) (Q:X→T→List Ob→Prop) (d:Nat) (ne:Bool):Option (List (List V))→Prop
 | some els=>∀ c:Bool,(c = true→els = [])→Run P N B (.r l :: s) ((d,.bool (c != ne)) :: t) H Q
 | none=>False
theorem nlP_some {els:List (List V)} {d:Nat} {ne:Bool} {l:List S}:nlP P N B l s t H Q d ne (some els) = ∀ c:Bool,(c = true→els = [])→Run P N B (.r l :: s) ((d,.bool (c != ne)) :: t) H Q:=rfl
theorem run_nl {d:Nat} {ne:Bool} {x:O} {l:List S}:Run P N B (.r (.nl d ne x :: l) :: s) t H Q ↔ nlP P N B l s t H Q d ne (elV (ev t x)):=by
 constructor
 ·intro h
  cases h with
  | nl els h1 h2=>rw [h1];exact h2
 ·intro h
  cases he:elV (ev t x) with
  | none=>rw [he] at h;exact h.elim
  | some els=>rw [he] at h;exact .nl els he h
theorem run_n {k:Nat}:Run P N B (.c (.n k) :: s) t H Q ↔ Run P N B (.c (N k) :: s) t H Q:=⟨fun h=>by cases h;assumption,.n⟩
def goP (P:Program) (N:Nat→C) (B:Nat) (id:Nat) (t:T) (H:List Ob) (Q:X→T→List Ob→Prop):Option (List K)→Prop
 | some s=>Run P N B s t H Q
 | none=>Q (.exit id) t H
theorem goP_some {id:Nat}:goP P N B id t H Q (some s) = Run P N B s t H Q:=rfl
theorem goP_none {id:Nat}:goP P N B id t H Q none = Q (.exit id) t H:=rfl
theorem run_exit {id:Nat}:Run P N B (.c (.exit id) :: s) t H Q ↔ goP P N B id t H Q (popTo id s):=by
 constructor
 ·intro h
  cases h with
  | exit s' h1 h2=>rw [h1];exact h2
  | exitX h1 h2=>rw [h1];exact h2
 ·intro h
  cases hp:popTo id s with
  | some s'=>rw [hp] at h;exact .exit s' hp h
  | none=>rw [hp] at h;exact .exitX hp h
def exP (P:Program) (N:Nat→C) (B:Nat) (l:List S) (s:List K) (Q:X→T→List Ob→Prop):Option (T × List Ob)→Prop
 | some (t,H)=>Run P N B (.r l :: s) t H Q
 | none=>False
theorem exP_some {l:List S}:exP P N B l s Q (some (t,H)) = Run P N B (.r l :: s) t H Q:=rfl
theorem exP_none {l:List S}:exP P N B l s Q none = False:=rfl
theorem exP_ite {c:Prop} [Decidable c] {o:Option (T × List Ob)} {l:List S}:exP P N B l s Q (if c then o else none) ↔ c∧exP P N B l s Q o:=by by_cases h:c <;> simp [h,exP]
theorem run_op {i:I} {l:List S}:Run P N B (.r (.op i :: l) :: s) t H Q ↔ exP P N B l s Q (exec B i t H):=by
 constructor
 ·intro h
  cases h with
  | op t' H' h1 h2=>rw [h1];exact h2
 ·intro h
  cases he:exec B i t H with
  | none=>rw [he] at h;exact h.elim
  | some p=>rw [he] at h;exact .op p.1 p.2 he h
def o1P (P:Program) (N:Nat→C) (B:Nat) (l:List S) (s:List K) (Q:X→T→List Ob→Prop) (d:Nat) (t:T) (H:List Ob):Option V→Prop
 | some v=>Run P N B (.r l :: s) ((d,v) :: t) H Q
 | none=>False
theorem o1P_some {l:List S} {d:Nat} {v:V}:o1P P N B l s Q d t H (some v) = Run P N B (.r l :: s) ((d,v) :: t) H Q:=rfl
theorem o1P_none {l:List S} {d:Nat}:o1P P N B l s Q d t H none = False:=rfl
theorem o1P_ite {l:List S} {d:Nat} {c:Prop} [Decidable c] {o:Option V}:o1P P N B l s Q d t H (if c then o else none) ↔ c∧o1P P N B l s Q d t H o:=by by_cases h:c <;> simp [h,o1P]
theorem o1P_ite' {l:List S} {d:Nat} {c:Prop} [Decidable c] {o:Option V}:o1P P N B l s Q d t H (if c then none else o) ↔ ¬ c∧o1P P N B l s Q d t H o:=by by_cases h:c <;> simp [h,o1P]
theorem exP_set1 {l:List S} {d:Nat} {o:Option V}:exP P N B l s Q (set1 d o t H) = o1P P N B l s Q d t H o:=by cases o <;> rfl
def o2P (P:Program) (N:Nat→C) (B:Nat) (l:List S) (s:List K) (Q:X→T→List Ob→Prop) (d:Nat) (t:T):Option (V × List Ob)→Prop
 | some p=>Run P N B (.r l :: s) ((d,p.1) :: t) p.2 Q
 | none=>False
theorem o2P_some {l:List S} {d:Nat} {v:V}:o2P P N B l s Q d t (some (v,H)) = Run P N B (.r l :: s) ((d,v) :: t) H Q:=rfl
theorem o2P_none {l:List S} {d:Nat}:o2P P N B l s Q d t none = False:=rfl
theorem o2P_ite {l:List S} {d:Nat} {c:Prop} [Decidable c] {o:Option (V × List Ob)}:o2P P N B l s Q d t (if c then o else none) ↔ c∧o2P P N B l s Q d t o:=by by_cases h:c <;> simp [h,o2P]
theorem exP_set2 {l:List S} {d:Nat} {o:Option (V × List Ob)}:exP P N B l s Q (set2 d o t) = o2P P N B l s Q d t o:=by cases o <;> rfl
def oP (o:Option V) (K:V→Prop):Prop:=match o with
 | some v=>K v
 | none=>False
theorem oP_some {v:V} {K:V→Prop}:oP (some v) K = K v:=rfl
theorem oP_none {K:V→Prop}:oP none K = False:=rfl
theorem oP_ite {c:Prop} [Decidable c] {o:Option V} {K:V→Prop}:oP (if c then o else none) K ↔ c∧oP o K:=by by_cases h:c <;> simp [h,oP]
theorem oP_ite' {c:Prop} [Decidable c] {o:Option V} {K:V→Prop}:oP (if c then none else o) K ↔ ¬ c∧oP o K:=by by_cases h:c <;> simp [h,oP]
def cP (P:Program) (N:Nat→C) (B:Nat) (a b:C) (s:List K) (t:T) (H:List Ob) (Q:X→T→List Ob→Prop):V→Prop
 | .bool c=>(c = true→Run P N B (.c a :: s) t H Q)∧(c = false→Run P N B (.c b :: s) t H Q)
 | _=>False
theorem cP_bool {a b:C} {c:Bool}:cP P N B a b s t H Q (.bool c) = ((c = true→Run P N B (.c a :: s) t H Q)∧(c = false→Run P N B (.c b :: s) t H Q)):=rfl
theorem run_cond {x:O} {a b:C}:Run P N B (.c (.cond x a b) :: s) t H Q ↔ cP P N B a b s t H Q (ev t x):=by
 constructor
 ·intro h
  cases h with
  | cond c h1 h2 =>
   rw [h1]
   refine ⟨fun h=>?_,fun h=>?_⟩ <;> subst h <;> exact h2
 ·intro h
  cases hv:ev t x with
  | bool c =>
   rw [hv] at h
   refine .cond c hv ?_
   cases c
   ·exact h.2 rfl
   ·exact h.1 rfl
  | _=>rw [hv] at h;exact h.elim
def gP (P:Program) (N:Nat→C) (B:Nat) (b:Bool) (ds:List Nat) (g l:List S) (s:List K) (t:T) (H:List Ob) (Q:X→T→List Ob→Prop):V→Prop
 | .bool c=>(c = b→Run P N B (.r (g++l) :: s) t H Q)∧(c ≠ b→Run P N B (.r l :: s) (ds.map (fun d=>(d,V.tup []))++t) H Q)
 | .tup []=>Run P N B (.r l :: s) (ds.map (fun d=>(d,V.tup []))++t) H Q
 | _=>False
theorem gP_bool {c b:Bool} {ds:List Nat} {g l:List S}:gP P N B b ds g l s t H Q (.bool c) = ((c = b→Run P N B (.r (g++l) :: s) t H Q)∧(c ≠ b→Run P N B (.r l :: s) (ds.map (fun d=>(d,V.tup []))++t) H Q)):=rfl
theorem gP_tup {b:Bool} {ds:List Nat} {g l:List S}:gP P N B b ds g l s t H Q (.tup []) = Run P N B (.r l :: s) (ds.map (fun d=>(d,V.tup []))++t) H Q:=rfl
theorem run_gd {x:O} {b:Bool} {ds:List Nat} {g l:List S}:Run P N B (.r (.gd x b ds g :: l) :: s) t H Q ↔ gP P N B b ds g l s t H Q (ev t x):=by
 constructor
 ·intro h
  cases h with
  | gd c h1 h2 =>
   rw [h1]
   refine ⟨fun h=>?_,fun h=>?_⟩
   ·simpa [h] using h2
   ·simpa [h] using h2
  | gdU h1 h2=>rw [h1];exact h2
 ·intro h
  have key:∀ c,ev t x = .bool c→Run P N B (.r (.gd x b ds g :: l) :: s) t H Q:=fun c hv=>by
   rw [hv] at h
   refine .gd c hv ?_
   by_cases e:c = b
   ·simpa [e] using h.1 e
   ·simpa [e] using h.2 e
  cases hv:ev t x with
  | bool c=>exact key c hv
  | tup l =>
   cases l with
   | nil=>rw [hv] at h;exact .gdU hv h
   | cons y ys=>rw [hv] at h;exact h.elim
  | _=>rw [hv] at h;exact h.elim
theorem run_alt0:Run P N B (.r [.alt []] :: s) t H Q ↔ True:=⟨fun _=>trivial,fun _=>.alt fun p hp=>by cases hp⟩
theorem run_alt1 {p:List Nat × List S} {ls:List (List Nat × List S)}:Run P N B (.r [.alt (p :: ls)] :: s) t H Q ↔ Run P N B (.r p.2 :: s) t H Q∧Run P N B (.r [.alt ls] :: s) t H Q:=by
 constructor
 ·intro h
  cases h with
  | alt h=>exact ⟨h p (by simp),.alt fun q hq=>h q (List.mem_cons_of_mem _ hq)⟩
 ·rintro ⟨h1,h2⟩
  cases h2 with
  | alt h2 =>
   refine .alt fun q hq=>?_
   rcases List.mem_cons.1 hq with rfl | hq
   ·exact h1
   ·exact h2 q hq
def nxP (P:Program) (N:Nat→C) (B:Nat) (d:Nat) (l:List S) (s:List K) (t:T) (H:List Ob) (Q:X→T→List Ob→Prop):V→Prop
 | .it j=>∃ i n seen es,H[j]? = some (.iter (some i) n seen)∧H[i]? = some (.map es)∧n = es.length∧((∀ k,k < n→k∈seen)→Run P N B (.r l :: s) ((d,.tup [.bool false]) :: t) H Q) ∧
   ∀ k p,es[k]? = some p→k ∉ seen→Run P N B (.r l :: s) ((d,.tup [.bool true,p.1,p.2]) :: t) (H.set j (.iter (some i) n (seen++[k]))) Q
 | _=>False
theorem nxP_of {d:Nat} {l:List S} {j:Nat} (i n:Nat) (seen:List Nat) (es:List (V × V)) (h1:H[j]? = some (.iter (some i) n seen)) (h2:H[i]? = some (.map es)) (h3:n = es.length)
  (h4:(∀ k,k < n→k∈seen)→Run P N B (.r l :: s) ((d,.tup [.bool false]) :: t) H Q)
  (h5:∀ k p,es[k]? = some p→k ∉ seen→Run P N B (.r l :: s) ((d,.tup [.bool true,p.1,p.2]) :: t) (H.set j (.iter (some i) n (seen++[k]))) Q):nxP P N B d l s t H Q (.it j):=⟨i,n,seen,es,h1,h2,h3,h4,h5⟩
theorem run_nx {d:Nat} {x:O} {l:List S}:Run P N B (.r (.nx d x :: l) :: s) t H Q ↔ nxP P N B d l s t H Q (ev t x):=by
 constructor
 ·intro h
  cases h with
  | nx j i n seen es h1 h2 h3 h4 h5 h6 =>
   rw [h1]
   exact ⟨i,n,seen,es,h2,h3,h4,h5,h6⟩
 ·intro h
  cases hv:ev t x with
  | it j =>
   rw [hv] at h
   obtain ⟨i,n,seen,es,h1,h2,h3,h4,h5⟩:=h
   exact .nx j i n seen es hv h1 h2 h3 h4 h5
  | _=>rw [hv] at h;exact h.elim
def CallP (P:Program) (N:Nat→C) (B:Nat) (d:Option Nat) (l:List S) (s:List K) (t:T) (H:List Ob) (Q:X→T→List Ob→Prop) (f:Nat) (vs:List V):Prop :=
 ∃ x,Spec P f vs [] (fun x' H'=>x' = x∧H' = [])∧Run P N B (.r l :: s) (setO d (ren (fun _=>none) x) t) H Q
theorem run_callp {d:Option Nat} {f:Nat} {args:List O} {l:List S}:Run P N B (.r (.callp d f args :: l) :: s) t H Q ↔ CallP P N B d l s t H Q f (rens (fun _=>none) (args.map (ev t))):=by
 constructor
 ·intro h
  cases h with
  | callp x h1 h2=>exact ⟨x,h1,h2⟩
 ·rintro ⟨x,h1,h2⟩
  exact .callp x h1 h2
def fnP (P:Program) (N:Nat→C) (B:Nat) (d:Option Nat) (args:List O) (l:List S) (s:List K) (t:T) (H:List Ob) (Q:X→T→List Ob→Prop):V→Prop
 | .fn (.func f) fst caps=>CallP P N B d l s t H Q f (rens (fun _=>none) (fst++args.map (ev t)++caps))
 | _=>False
theorem fnP_fn {d:Option Nat} {args:List O} {l:List S} {f:Nat} {fst caps:List V}:fnP P N B d args l s t H Q (.fn (.func f) fst caps) = CallP P N B d l s t H Q f (rens (fun _=>none) (fst++args.map (ev t)++caps)):=rfl
theorem run_callvp {d:Option Nat} {g:O} {args:List O} {l:List S}:Run P N B (.r (.callvp d g args :: l) :: s) t H Q ↔ fnP P N B d args l s t H Q (ev t g):=by
 constructor
 ·intro h
  cases h with
  | callvp f fst caps x h0 h1 h2=>rw [h0];exact ⟨x,h1,h2⟩
 ·intro h
  unfold fnP at h
  split at h
  ·rename_i f a c hv
   obtain ⟨x,h1,h2⟩:=h
   exact .callvp f a c x hv h1 h2
  ·exact h.elim
theorem CallP.of {d:Option Nat} {l:List S} {f:Nat} {vs:List V} {x:V} (h:Spec P f vs [] (fun x' H'=>x' = x∧H' = [])) (k:Run P N B (.r l :: s) (setO d (ren (fun _=>none) x) t) H Q):CallP P N B d l s t H Q f vs:=⟨x,h,k⟩
theorem ev_s {n:Nat}:ev t (.s n) = lk t n:=rfl
theorem ev_c {v:V}:ev t (.c v) = v:=rfl
theorem ev_f {f:Nat}:ev t (.f f) = .fn (.func f) [] []:=rfl
theorem lk_nil {n:Nat}:lk [] n = .any:=rfl
theorem lk_cons {m n:Nat} {v:V}:lk ((m,v) :: t) n = if m = n then v else lk t n:=by
 unfold lk;simp only [find];split <;> rfl
theorem ends_nil {rs:List RV} {Q:V→List Ob→Prop} {e:X} (he:e = .ret ∨ e = .fall) {x:V} (h:retV rs t H = some x) (hq:Q (ren (fun _=>none) x) []):Ends 0 rs Q e t H :=
 ⟨he,.inr ⟨[],x,by simp,by simp,h,hq⟩⟩
theorem ends_all {rs:List RV} {Q:V→List Ob→Prop} {e:X} (he:e = .ret ∨ e = .fall) {x:V} (h:retV rs t H = some x) (hq:Q x H):Ends B rs Q e t H :=
 ⟨he,.inl ⟨x,h,hq⟩⟩
theorem ends_ex {rs:List RV} {Q:V→List Ob→Prop} {e:X} (he:e = .ret ∨ e = .fall) (ex:List Nat) {x:V} (hnd:(List.range B++ex).Nodup) (hlt:∀ i∈ex,i < H.length) (h:retV rs t H = some x)
  (hq:Q (ren (pos? (List.range B++ex)) x) (give (List.range B++ex) H)):Ends B rs Q e t H:=⟨he,.inr ⟨ex,x,hnd,hlt,h,hq⟩⟩
def CallG (P:Program) (N:Nat→C) (B:Nat) (d:Option Nat) (l:List S) (s:List K) (t:T) (Q:X→T→List Ob→Prop) (F:Fn) (vs:List V) (H:List Ob):Prop :=
 (∃ R,SpecF P F vs H R∧∀ x H',R x H'→Run P N B (.r l :: s) (setO d x t) H' Q) ∨
  ∃ idx R,idx.Nodup∧(∀ i∈idx,i < H.length)∧SpecF P F (rens (pos? idx) vs) (give idx H) R∧∀ x H',R x H'→idx.length≤H'.length→Run P N B (.r l :: s) (setO d (ren (back idx H.length) x) t) (takeB idx H H') Q
theorem CallG.all {d:Option Nat} {l:List S} {F:Fn} {vs:List V} {R:V→List Ob→Prop} (h:SpecF P F vs H R) (k:∀ x H',R x H'→Run P N B (.r l :: s) (setO d x t) H' Q):CallG P N B d l s t Q F vs H:=.inl ⟨R,h,k⟩
theorem CallG.some {d:Option Nat} {l:List S} {F:Fn} {vs:List V} (idx:List Nat) {R:V→List Ob→Prop} (h1:idx.Nodup) (h2:∀ i∈idx,i < H.length) (h:SpecF P F (rens (pos? idx) vs) (give idx H) R)
  (k:∀ x H',R x H'→idx.length≤H'.length→Run P N B (.r l :: s) (setO d (ren (back idx H.length) x) t) (takeB idx H H') Q):CallG P N B d l s t Q F vs H:=.inr ⟨idx,R,h1,h2,h,k⟩
theorem run_call {d:Option Nat} {f:Nat} {args:List O} {l:List S}:Run P N B (.r (.call d f args :: l) :: s) t H Q ↔ CallG P N B d l s t Q (.func f) (args.map (ev t)) H:=by
 constructor
 ·intro h
  cases h with
  | callA R h1 h2=>exact .inl ⟨R,h1,h2⟩
  | call idx R h1 h2 h3 h4=>exact .inr ⟨idx,R,h1,h2,h3,h4⟩
 ·rintro (⟨R,h1,h2⟩ | ⟨idx,R,h1,h2,h3,h4⟩)
  ·exact .callA R h1 h2
  ·exact .call idx R h1 h2 h3 h4
def fnG (P:Program) (N:Nat→C) (B:Nat) (d:Option Nat) (args:List O) (l:List S) (s:List K) (t:T) (H:List Ob) (Q:X→T→List Ob→Prop):V→Prop
 | .fn F fst caps=>((∃ f,F = .func f) ∨ caps = [])∧CallG P N B d l s t Q F (fst++args.map (ev t)++caps) H
 | _=>False
theorem fnG_func {d:Option Nat} {args:List O} {l:List S} {f:Nat} {a c:List V}:fnG P N B d args l s t H Q (.fn (.func f) a c) = CallG P N B d l s t Q (.func f) (a++args.map (ev t)++c) H:=by simp [fnG]
theorem fnG_nil {d:Option Nat} {args:List O} {l:List S} {F:Fn} {a:List V}:fnG P N B d args l s t H Q (.fn F a []) = CallG P N B d l s t Q F (a++args.map (ev t)++[]) H:=by simp [fnG]
theorem run_callv {d:Option Nat} {g:O} {args:List O} {l:List S}:Run P N B (.r (.callv d g args :: l) :: s) t H Q ↔ fnG P N B d args l s t H Q (ev t g):=by
 constructor
 ·intro h
  cases h with
  | callvA F fst caps R h0 hF h1 h2=>rw [h0];exact ⟨hF,.inl ⟨R,h1,h2⟩⟩
  | callv F fst caps idx R h0 hF h1 h2 h3 h4=>rw [h0];exact ⟨hF,.inr ⟨idx,R,h1,h2,h3,h4⟩⟩
 ·intro h
  unfold fnG at h
  split at h
  ·rename_i F fst caps hv
   obtain ⟨hF,h⟩:=h
   rcases h with ⟨R,h1,h2⟩ | ⟨idx,R,h1,h2,h3,h4⟩
   ·exact .callvA F fst caps R hv hF h1 h2
   ·exact .callv F fst caps idx R hv hF h1 h2 h3 h4
  ·exact h.elim
def brP (o:Option Ob) (l:Nat) (K:Loop→T→Prop):Prop:=match o with
 | some (.lp l' .ready r ts)=>l' = l∧K r ts
 | _=>False
theorem brP_some {l l':Nat} {r:Loop} {ts:T} {K:Loop→T→Prop}:brP (some (.lp l' .ready r ts)) l K = (l' = l∧K r ts):=rfl
theorem run_br {l n:Nat}:Run P N B (.br l n :: s) t H Q ↔ brP H[n]? l fun r ts=>Run P N B s t (H.set n (.lp l .busy r ts)) Q:=by
 constructor
 ·intro h
  cases h with
  | br h1 h2=>rw [h1];exact ⟨rfl,h2⟩
 ·intro h
  unfold brP at h
  split at h
  ·rename_i l' r ts hh
   obtain ⟨rfl,h⟩:=h
   exact .br hh h
  ·exact h.elim
end
theorem loop_up {n:Nat} {R:Nat→Prop} (hstep:∀ k,k < n→R (k+1)→R k) (hend:R n):∀ k,k≤n→R k:=by
 intro k hk
 obtain ⟨m,rfl⟩:∃ m,n = k+m:=⟨n - k,by omega⟩
 induction m generalizing k with
 | zero=>exact hend
 | succ m ih=>exact hstep k (by omega) (ih (k+1) (fun j hj=>hstep j (by omega)) (by rw [show k+1+m = k+(m+1) by omega];exact hend) (by omega))
theorem ren_int {σ:Nat→Option Nat} {k:IntKind} {n:Int}:ren σ (.int k n) = .int k n:=rfl
theorem ren_bool {σ:Nat→Option Nat} {b:Bool}:ren σ (.bool b) = .bool b:=rfl
theorem ren_str {σ:Nat→Option Nat} {s:List UInt8}:ren σ (.str s) = .str s:=rfl
theorem ren_sl {σ:Nat→Option Nat} {z:Nat} {l:List (List V)}:ren σ (.sl z l) = .sl z l:=rfl
theorem ren_ro {σ:Nat→Option Nat} {l:List V} {k:Nat}:ren σ (.ro l k) = .ro l k:=rfl
theorem ren_nil {σ:Nat→Option Nat}:ren σ .nil = .nil:=rfl
theorem ren_nilp {σ:Nat→Option Nat}:ren σ .nilp = .nilp:=rfl
theorem ren_nilm {σ:Nat→Option Nat}:ren σ .nilm = .nilm:=rfl
theorem ren_nilf {σ:Nat→Option Nat}:ren σ .nilf = .nilf:=rfl
theorem ren_any {σ:Nat→Option Nat}:ren σ .any = .any:=rfl
theorem ren_agg {σ:Nat→Option Nat} {l:List V}:ren σ (.agg l) = .agg (rens σ l):=by simp only [ren]
theorem ren_tup {σ:Nat→Option Nat} {l:List V}:ren σ (.tup l) = .tup (rens σ l):=by simp only [ren]
theorem ren_fn {σ:Nat→Option Nat} {f:Fn} {a l:List V}:ren σ (.fn f a l) = .fn f (rens σ a) (rens σ l):=by simp only [ren]
theorem ren_own {σ:Nat→Option Nat} {i z:Nat} {l:List (List V)}:ren σ (.own i z l) = match σ i with | some j=>.own j z l | none=>.sl z l:=by simp only [ren];rfl
theorem ren_ptr {σ:Nat→Option Nat} {i o:Nat}:ren σ (.ptr i o) = match σ i with | some j=>.ptr j o | none=>.any:=by simp only [ren];rfl
theorem rens_nil {σ:Nat→Option Nat}:rens σ [] = []:=by simp only [rens]
theorem rens_cons {σ:Nat→Option Nat} {x:V} {l:List V}:rens σ (x :: l) = ren σ x :: rens σ l:=by simp only [rens]
theorem sto_int {k:IntKind} {n:Int}:sto (.int k n) = some [.int k n]:=rfl
theorem sto_bool {b:Bool}:sto (.bool b) = some [.bool b]:=rfl
theorem sto_str {s:List UInt8}:sto (.str s) = some [.str s]:=rfl
theorem sto_sl {z:Nat} {l:List (List V)}:sto (.sl z l) = some [.sl z l]:=rfl
theorem sto_own {i z:Nat} {l:List (List V)}:sto (.own i z l) = some [.own i z l]:=rfl
theorem sto_agg {l:List V}:sto (.agg l) = some l:=rfl
theorem sto_map {i:Nat}:sto (.map i) = some [.map i]:=rfl
theorem sto_nilm:sto .nilm = some [.nilm]:=rfl
theorem sto_nilf:sto .nilf = some [.nilf]:=rfl
theorem sto_nilp:sto .nilp = some [.nilp]:=rfl
theorem ren_map {σ:Nat→Option Nat} {i:Nat}:ren σ (.map i) = match σ i with | some j=>.map j | none=>.any:=by simp only [ren];rfl
theorem ren_it {σ:Nat→Option Nat} {i:Nat}:ren σ (.it i) = match σ i with | some j=>.it j | none=>.any:=by simp only [ren];rfl
theorem sto_nil:sto .nil = some [.nil]:=rfl
theorem sto_fn {f:Fn} {a l:List V}:sto (.fn f a l) = some [.fn f a l]:=rfl
theorem sto_ptr {i o:Nat}:sto (.ptr i o) = some [.ptr i o]:=rfl
theorem ren_rw {σ:Nat→Option Nat} {i z n:Nat}:ren σ (.rw i z n) = match σ i with | some j=>.rw j z n | none=>.any:=by simp only [ren];rfl
theorem ren_rp {σ:Nat→Option Nat} {i n k o:Nat}:ren σ (.rp i n k o) = match σ i with | some j=>.rp j n k o | none=>.any:=by simp only [ren];rfl
theorem sto_rw {i z n:Nat}:sto (.rw i z n) = some [.rw i z n]:=rfl
theorem sto_rp {i n k o:Nat}:sto (.rp i n k o) = some [.rp i n k o]:=rfl
theorem renOb_cells {σ:Nat→Option Nat} {e:Nat} {cs:List V}:renOb σ (.cells e cs) = .cells e (rens σ cs):=rfl
theorem renOb_arr {σ:Nat→Option Nat} {e z n:Nat}:renOb σ (.arr e z n) = .arr e z n:=rfl
theorem renOb_map {σ:Nat→Option Nat} {es:List (V × V)}:renOb σ (.map es) = .map (es.map fun p=>(ren σ p.1,ren σ p.2)):=rfl
theorem renOb_iter {σ:Nat→Option Nat} {m:Option Nat} {n:Nat} {s:List Nat}:renOb σ (.iter m n s) = .iter (m.bind σ) n s:=rfl
theorem renOb_dead {σ:Nat→Option Nat}:renOb σ .dead = .dead:=rfl
theorem renOb_row {σ:Nat→Option Nat} {e z:Nat} {els:List (List V)}:renOb σ (.row e z els) = .row e z (els.map (rens σ)):=rfl
theorem renOb_lp {σ:Nat→Option Nat} {l:Nat} {st:LS} {r:Loop} {ts:T}:renOb σ (.lp l st r ts) = .lp l st r (ts.map fun p=>(p.1,ren σ p.2)):=rfl
theorem sto_ro {l:List V} {o:Nat}:sto (.ro l o) = some [.ro l o]:=rfl
theorem wrap64 {x:Int} (h1:-9223372036854775808≤x) (h2:x≤9223372036854775807):IntKind.i64.wrap x = x:=by
 unfold IntKind.wrap IntKind.bits IntKind.signed;simp;omega
def cellsO (o:Option Ob) (f:List V→Option V):Option V:=match o with
 | some (.cells _ cs)=>f cs
 | _=>none
theorem cellsO_some {e:Nat} {cs:List V} {f:List V→Option V}:cellsO (some (.cells e cs)) f = f cs:=rfl
theorem ldV_ro {H:List Ob} {cs:List V} {k:Nat}:ldV H (.ro cs k) = cs[k]?:=rfl
theorem ldV_ptr {H:List Ob} {i k:Nat}:ldV H (.ptr i k) = cellsO H[i]? fun cs=>cs[k]?:=by unfold ldV cellsO;rfl
theorem laV_ro {H:List Ob} {cs:List V} {k n:Nat}:laV n H (.ro cs k) = if k+n≤cs.length then some (.agg (sub k n cs)) else none:=rfl
theorem laV_ptr {H:List Ob} {i k n:Nat}:laV n H (.ptr i k) = cellsO H[i]? fun cs=>if k+n≤cs.length then some (.agg (sub k n cs)) else none:=by unfold laV cellsO;rfl
def rowO (o:Option Ob) (f:List (List V)→Option V):Option V:=match o with
 | some (.row _ _ els)=>f els
 | _=>none
theorem rowO_some {e z:Nat} {els:List (List V)} {f:List (List V)→Option V}:rowO (some (.row e z els)) f = f els:=rfl
theorem ldV_rp {H:List Ob} {i n k o:Nat}:ldV H (.rp i n k o) = rowO H[i]? fun els=>if els.length = n then (els[k]?).bind fun el=>el[o]? else none:=by unfold ldV rowO;rfl
theorem laV_rp {H:List Ob} {i n j o k:Nat}:laV k H (.rp i n j o) = rowO H[i]? fun els=>if els.length = n then (els[j]?).bind fun el=>if o+k≤el.length then some (.agg (sub o k el)) else none else none:=by unfold laV rowO;rfl
theorem faV_rp {H:List Ob} {i n j o k:Nat}:faV k H (.rp i n j o) = some (.rp i n j (o+k)):=rfl
theorem ncV_rp {H:List Ob} {i n j o:Nat}:ncV H (.rp i n j o) = some (.rp i n j o):=rfl
theorem lenV_rw {i z n:Nat}:lenV (.rw i z n) = some (.int .i64 n):=rfl
theorem iaV_rw {z y i m:Nat} {k:IntKind} {n:Int}:iaV z (.rw i y m) (.int k n) = if y = z∧0≤n∧n < m then some (.rp i m n.toNat 0) else none:=rfl
theorem faV_ro {H:List Ob} {cs:List V} {k n:Nat}:faV n H (.ro cs k) = some (.ro cs (k+n)):=rfl
theorem faV_ptr {H:List Ob} {i k n:Nat}:faV n H (.ptr i k) = cellsO H[i]? fun _=>some (.ptr i (k+n)):=by unfold faV cellsO;rfl
theorem ncV_ro {H:List Ob} {cs:List V} {k:Nat}:ncV H (.ro cs k) = some (.ro cs k):=rfl
theorem ncV_ptr {H:List Ob} {i k:Nat}:ncV H (.ptr i k) = cellsO H[i]? fun _=>some (.ptr i k):=by unfold ncV cellsO;rfl
theorem fdV_none {cs:List V} {k:Nat}:fdV k none (.agg cs) = cs[k]?:=rfl
theorem fdV_some {cs:List V} {k n:Nat}:fdV k (some n) (.agg cs) = if k+n≤cs.length then some (.agg (sub k n cs)) else none:=rfl
theorem elV_sl {z:Nat} {l:List (List V)}:elV (.sl z l) = some l:=rfl
theorem elV_own {i z:Nat} {l:List (List V)}:elV (.own i z l) = some l:=rfl
theorem elV_nil:elV .nil = some []:=rfl
theorem lenV_sl {z:Nat} {l:List (List V)}:lenV (.sl z l) = some (.int .i64 l.length):=rfl
theorem lenV_own {i z:Nat} {l:List (List V)}:lenV (.own i z l) = some (.int .i64 l.length):=rfl
theorem lenV_nil:lenV .nil = some (.int .i64 0):=rfl
theorem lensV_str {l:List UInt8}:lensV (.str l) = some (.int .i64 l.length):=rfl
theorem iaV_sl {z y:Nat} {l:List (List V)} {k:IntKind} {n:Int}:iaV z (.sl y l) (.int k n) = if y = z∧0≤n∧n < l.length then some (.ro (l.getD n.toNat []) 0) else none:=rfl
theorem iaV_own {i z y:Nat} {l:List (List V)} {k:IntKind} {n:Int}:iaV z (.own i y l) (.int k n) = if y = z∧0≤n∧n < l.length then some (.ro (l.getD n.toNat []) 0) else none:=rfl
theorem ixV_str {l:List UInt8} {k:IntKind} {n:Int}:ixV (.str l) (.int k n) = if 0≤n∧n < l.length then some (.int .u8 (btV l n.toNat)) else none:=rfl
theorem ixaV_int {z L:Nat} {o:Option Nat} {x:V} {k:IntKind} {n:Int}:ixaV z L o x (.int k n) = if 0≤n∧n < L then fdV (n.toNat * z) o x else none:=rfl
section
variable {k:IntKind} {a b:Int}
theorem binV_add:binV .add (.int k a) (.int k b) = some (.int k (k.wrap (a+b))):=by simp [binV]
theorem binV_sub:binV .sub (.int k a) (.int k b) = some (.int k (k.wrap (a - b))):=by simp [binV]
theorem binV_mul:binV .mul (.int k a) (.int k b) = some (.int k (k.wrap (a * b))):=by simp [binV]
theorem binV_quo:binV .quo (.int k a) (.int k b) = if b = 0 then none else some (.int k (k.wrap (a.tdiv b))):=by simp [binV]
theorem binV_rem:binV .rem (.int k a) (.int k b) = if b = 0 then none else some (.int k (a.tmod b)):=by simp [binV]
theorem shV_shl {j:IntKind}:shV .shl (.int k a) (.int j b) = if b < 0 then none else some (.int k (k.wrap (a * 2^(min b.toNat k.bits)))):=rfl
theorem shV_shr {j:IntKind}:shV .shr (.int k a) (.int j b) = if b < 0 then none else some (.int k (a.fdiv (2^(min b.toNat k.bits)))):=rfl
theorem binV_eql:binV .eql (.int k a) (.int k b) = some (.bool (decide (a = b))):=by simp [binV,intCmpV,BEq.beq]
theorem binV_neq:binV .neq (.int k a) (.int k b) = some (.bool (decide (a ≠ b))):=by simp [binV,intCmpV,BEq.beq,bne]
theorem binV_lss:binV .lss (.int k a) (.int k b) = some (.bool (decide (a < b))):=by simp [binV,intCmpV]
theorem binV_leq:binV .leq (.int k a) (.int k b) = some (.bool (decide (a≤b))):=by simp [binV,intCmpV]
theorem binV_gtr:binV .gtr (.int k a) (.int k b) = some (.bool (decide (b < a))):=by simp [binV,intCmpV]
theorem binV_geq:binV .geq (.int k a) (.int k b) = some (.bool (decide (b≤a))):=by simp [binV,intCmpV]
end
theorem binV_str {op:BinOp} {a b:List UInt8}:binV op (.str a) (.str b) = strOpV op a b:=rfl
theorem strOpV_add {a b:List UInt8}:strOpV .add a b = if a.length+b.length≤capMax then some (.str (a++b)) else none:=rfl
theorem strOpV_eql {a b:List UInt8}:strOpV .eql a b = some (.bool (decide (a = b))):=by by_cases h:a = b <;> simp [strOpV,h]
theorem strOpV_neq {a b:List UInt8}:strOpV .neq a b = some (.bool (decide (a ≠ b))):=by by_cases h:a = b <;> simp [strOpV,h]
theorem strOpV_lss {a b:List UInt8}:strOpV .lss a b = some (.bool (Op.bytesLess a b)):=rfl
theorem bbV_eql {a b:Bool}:bbV .eql (.bool a) (.bool b) = some (.bool (a == b)):=rfl
theorem bbV_neq {a b:Bool}:bbV .neq (.bool a) (.bool b) = some (.bool (a != b)):=rfl
theorem unV_not {b:Bool}:unV .not (.bool b) = some (.bool !b):=rfl
theorem unV_neg {k:IntKind} {n:Int}:unV .neg (.int k n) = some (.int k (k.wrap (0 - n))):=rfl
theorem exV_tup {l:List V} {i:Nat}:exV i (.tup l) = l[i]?:=rfl
theorem sxsV_str {l:List UInt8} {lo hi:Option V}:sxsV (.str l) lo hi = match bnd lo 0,bnd hi l.length with
  | some a,some b=>if a≤b∧b≤l.length then some (.str ((l.drop a).take (b - a))) else none
  | _,_=>none:=rfl
theorem bnd_none {n:Nat}:bnd none n = some n:=rfl
theorem bnd_int {k:IntKind} {m:Int} {n:Nat}:bnd (some (.int k m)) n = if 0≤m then some m.toNat else none:=rfl
section
variable {B:Nat} {t:T} {H:List Ob}
theorem xc_mv {d:Nat} {x:O}:exec B (.mv d x) t H = some ((d,ev t x) :: t,H):=rfl
theorem xc_pick {d:Nat} {c:O} {a:O} {b:O}:exec B (.pick d c a b) t H = (match ev t c with
  | .bool c=>some ((d,if c then ev t a else ev t b) :: t,H)
  | _=>none):=rfl
theorem xc_al {d:Nat} {e:Nat} {z:List V}:exec B (.al d e z) t H = some ((d,.ptr H.length 0) :: t,H++[.cells e z]):=rfl
theorem xc_bx {d:Nat} {e:Nat} {x:O}:exec B (.bx d e x) t H = (match sto (ev t x) with
  | some cs=>some ((d,.ptr H.length 0) :: t,H++[.cells e cs])
  | none=>none):=rfl
theorem xc_br {d:Nat} {e:Nat} {x:O}:exec B (.br d e x) t H = (match sto (ev t x) with
  | some cs=>some ((d,.ro (rens (fun _=>none) cs) 0) :: t,H)
  | none=>none):=rfl
theorem xc_sf {d:Nat} {k:Nat} {x:O}:exec B (.sf d k x) t H = (match lk t d with
  | .ptr i 0=>match H[i]? with
   | some (.cells e cs)=>match sto (ev t x) with
    | some new=>if new.length = k∧cs.length = k then some ((d,.ro (rens (fun _=>none) new) 0) :: t,H.set i .dead) else none
    | none=>none
   | _=>none
  | _=>none):=rfl
theorem xc_ldr {d:Nat} {x:O}:exec B (.ldr d x) t H = set1 d (ldV [] (ev t x)) t H:=rfl
theorem xc_lar {d:Nat} {k:Nat} {x:O}:exec B (.lar d k x) t H = set1 d (laV k [] (ev t x)) t H:=rfl
theorem xc_far {d:Nat} {off:Nat} {x:O}:exec B (.far d off x) t H = set1 d (faV off [] (ev t x)) t H:=rfl
theorem xc_ld {d:Nat} {x:O}:exec B (.ld d x) t H = set1 d (ldV H (ev t x)) t H:=rfl
theorem xc_la {d:Nat} {k:Nat} {x:O}:exec B (.la d k x) t H = set1 d (laV k H (ev t x)) t H:=rfl
theorem xc_st {k:Nat} {a:O} {x:O}:exec B (.st k a x) t H = (match ev t a with
  | .ptr i off=>match H[i]? with
   | some (.cells e cs)=>match sto (ev t x) with
    | some new=>if new.length = k∧off+k≤cs.length then some (t,H.set i (.cells e (put off new cs))) else none
    | none=>none
   | _=>none
  | .rp i n j off=>match H[i]? with
   | some (.row e sz els)=>match sto (ev t x) with
    | some new=>if els.length = n∧j < n∧new.length = k∧off+k≤sz then some (t,H.set i (.row e sz (els.set j (put off new (els.getD j []))))) else none
    | none=>none
   | _=>none
  | _=>none):=rfl
theorem xc_fa {d:Nat} {off:Nat} {x:O}:exec B (.fa d off x) t H = set1 d (faV off H (ev t x)) t H:=rfl
theorem xc_nc {d:Nat} {x:O}:exec B (.nc d x) t H = set1 d (ncV H (ev t x)) t H:=rfl
theorem xc_fd {d:Nat} {off:Nat} {k:Option Nat} {x:O}:exec B (.fd d off k x) t H = set1 d (fdV off k (ev t x)) t H:=rfl
theorem xc_bd {d:Nat} {z:List V} {ps:List (Nat × Nat × O)}:exec B (.bd d z ps) t H = set1 d ((bdV t ps z).map .agg) t H:=rfl
theorem xc_bs {d:Nat} {sz:Nat} {xs:List O}:exec B (.bs d sz xs) t H = set1 d ((bsV t sz xs).map (.sl sz)) t H:=rfl
theorem xc_bo {d:Nat} {e:Nat} {sz:Nat} {xs:List O}:exec B (.bo d e sz xs) t H = (match bsV t sz xs with
  | some els=>some ((d,.own H.length sz els) :: t,H++[.arr e sz els.length])
  | none=>none):=rfl
theorem xc_bin {d:Nat} {op:BinOp} {x:O} {y:O}:exec B (.bin d op x y) t H = set1 d (binV op (ev t x) (ev t y)) t H:=rfl
theorem xc_bb {d:Nat} {op:BinOp} {x:O} {y:O}:exec B (.bb d op x y) t H = set1 d (bbV op (ev t x) (ev t y)) t H:=rfl
theorem xc_sh {d:Nat} {op:BinOp} {x:O} {y:O}:exec B (.sh d op x y) t H = set1 d (shV op (ev t x) (ev t y)) t H:=rfl
theorem xc_un {d:Nat} {op:UnOp} {x:O}:exec B (.un d op x) t H = set1 d (unV op (ev t x)) t H:=rfl
theorem xc_cvi {d:Nat} {k:IntKind} {x:O}:exec B (.cvi d k x) t H = (match ev t x with
  | .int _ n=>some ((d,.int k (k.wrap n)) :: t,H)
  | _=>none):=rfl
theorem xc_cvs {d:Nat} {x:O}:exec B (.cvs d x) t H = (match ev t x with
  | .str s=>some ((d,.str s) :: t,H)
  | _=>none):=rfl
theorem xc_s2b {d:Nat} {x:O}:exec B (.s2b d x) t H = (match ev t x with
  | .str s=>if s.length≤maxEls then some ((d,.sl 1 (s.map fun c=>[.int .u8 c.toNat])) :: t,H) else none
  | _=>none):=rfl
theorem xc_b2s {d:Nat} {x:O}:exec B (.b2s d x) t H = (match elV (ev t x) with
  | some els=>match b2sV els with
   | some l=>some ((d,.str l) :: t,H)
   | none=>none
  | none=>none):=rfl
theorem xc_mf {d:Nat} {g:Nat} {fst:List O} {caps:List O}:exec B (.mf d g fst caps) t H = some ((d,.fn (.func g) (fst.map (ev t)) (caps.map (ev t))) :: t,H):=rfl
theorem xc_len {d:Nat} {x:O}:exec B (.len d x) t H = set1 d (lenV (ev t x)) t H:=rfl
theorem xc_lens {d:Nat} {x:O}:exec B (.lens d x) t H = set1 d (lensV (ev t x)) t H:=rfl
theorem xc_ia {d:Nat} {sz:Nat} {x:O} {i:O}:exec B (.ia d sz x i) t H = set1 d (iaV sz (ev t x) (ev t i)) t H:=rfl
theorem xc_ix {d:Nat} {x:O} {i:O}:exec B (.ix d x i) t H = set1 d (ixV (ev t x) (ev t i)) t H:=rfl
theorem xc_ixa {d:Nat} {sz n:Nat} {k:Option Nat} {x:O} {i:O}:exec B (.ixa d sz n k x i) t H = set1 d (ixaV sz n k (ev t x) (ev t i)) t H:=rfl
theorem xc_sx {d:Nat} {sz:Nat} {x:O} {lo:Option O} {hi:Option O}:exec B (.sx d sz x lo hi) t H = set1 d (sxV sz (ev t x) (lo.map (ev t)) (hi.map (ev t))) t H:=rfl
theorem xc_sxs {d:Nat} {x:O} {lo:Option O} {hi:Option O}:exec B (.sxs d x lo hi) t H = set1 d (sxsV (ev t x) (lo.map (ev t)) (hi.map (ev t))) t H:=rfl
theorem xc_ex {d:Nat} {x:O} {i:Nat}:exec B (.ex d x i) t H = set1 d (exV i (ev t x)) t H:=rfl
theorem xc_app {d:Nat} {e:Nat} {sz:Nat} {bytes:Nat} {x:O} {y:O}:exec B (.app d e sz bytes x y) t H = set2 d (appV H e sz bytes (ev t x) (ev t y)) t:=rfl
theorem xc_apr {d:Nat} {e:Nat} {sz:Nat} {bytes:Nat} {x:O} {y:O}:exec B (.apr d e sz bytes x y) t H = set2 d (aprV H e sz bytes (ev t x) (ev t y)) t:=rfl
theorem xc_mx {d:Nat} {x:O} {y:O}:exec B (.mx d x y) t H = (match ev t x,ev t y with
  | .int k a,.int k' b=>if k = k' then some ((d,.int k (if b > a then b else a)) :: t,H) else none
  | _,_=>none):=rfl
theorem xc_mn {d:Nat} {x:O} {y:O}:exec B (.mn d x y) t H = (match ev t x,ev t y with
  | .int k a,.int k' b=>if k = k' then some ((d,.int k (if b < a then b else a)) :: t,H) else none
  | _,_=>none):=rfl
theorem xc_non {d:Nat} {e:Nat} {sz:Nat}:exec B (.non d e sz) t H = (match lk t d with
  | .nil=>some ((d,.own H.length sz []) :: t,H++[.arr e sz 0])
  | _=>none):=rfl
theorem xc_ono {e:Nat} {sz:Nat} {k:Nat} {a:O}:exec B (.ono e sz k a) t H = (match ev t a with
  | .ptr i off=>match H[i]? with
   | some (.cells e' cs)=>match cs[off+k]? with
    | some .nil=>some (t,H.set i (.cells e' (put (off+k) [.own H.length sz []] cs))++[.arr e sz 0])
    | _=>none
   | _=>none
  | _=>none):=rfl
theorem xc_mk {d e sz bytes:Nat} {z:List V} {x:O}:exec B (.mk d e sz bytes z x) t H = (match ev t x with
  | .int _ n=>if 0≤n∧n.toNat≤maxEls∧n.toNat * bytes≤maxEls then some ((d,.rw H.length sz n.toNat) :: t,H++[.row e sz (List.replicate n.toNat z)]) else none
  | _=>none):=rfl
theorem xc_mkm {d:Nat}:exec B (.mkm d) t H = some ((d,.map H.length) :: t,H++[.map []]):=rfl
theorem xc_lkp {d:Nat} {ks:Bool} {ok:Bool} {z:V} {m:O} {k:O}:exec B (.lkp d ks ok z m k) t H = set1 d (lookV H ks ok z (ev t m) (ev t k)) t H:=rfl
theorem xc_lnm {d:Nat} {m:O}:exec B (.lnm d m) t H = set1 d (lnmV H (ev t m)) t H:=rfl
theorem xc_lkq {d:Nat} {sh:List Bool} {ok:Bool} {z:V} {m:O} {k:O}:exec B (.lkq d sh ok z m k) t H = set1 d (lookQ H sh ok z (ev t m) (ev t k)) t H:=rfl
theorem xc_iaa {d sz n:Nat} {x:O} {i:O}:exec B (.iaa d sz n x i) t H = set1 d (iaaV H sz n (ev t x) (ev t i)) t H:=rfl
theorem iaaV_int {sz n:Nat} {x:V} {k:IntKind} {m:Int}:iaaV H sz n x (.int k m) = if 0≤m∧m < n then faV (m.toNat * sz) H x else none:=rfl
theorem xc_muq {sh:List Bool} {m:O} {k:O} {x:O}:exec B (.muq sh m k x) t H = (match ev t m with
  | .map i=>match H[i]? with
   | some (.map es)=>if shB sh (ev t k) then match updQ (ev t k) (ev t x) es with
    | some es'=>some (t,H.set i (.map es'))
    | none=>none
    else none
   | _=>none
  | _=>none):=rfl
theorem xc_eqs {d:Nat} {neg:Bool} {sh:List Bool} {x y:O}:exec B (.eqs d neg sh x y) t H = set1 d (eqsV neg sh (ev t x) (ev t y)) t H:=rfl
theorem xc_apz {d e sz bytes k:Nat} {y:O}:exec B (.apz d e sz bytes k y) t H = (match lk t k with
  | .nil=>set2 d (appV (H++[.arr e sz 0]) e sz bytes (.own H.length sz []) (ev t y)) t
  | .own _ _ _=>set2 d (appV H e sz bytes (lk t k) (ev t y)) t
  | _=>none):=rfl
theorem xc_kt {l:List Nat}:exec B (.kt l) t H = some (l.map fun n=>(n,lk t n),H):=rfl
theorem xc_kk {rs l:List Nat}:exec B (.kk rs l) t H = (match objIs t rs with
  | some js=>if kkB B H.length js then some (l.map fun n=>(n,ren (pos? (List.range B++js)) (lk t n)),give (List.range B++js) H) else none
  | none=>none):=rfl
theorem xc_noz {d e sz:Nat}:exec B (.noz d e sz) t H = (match lk t d with
  | .nil=>some ((d,.own H.length sz []) :: t,H++[.arr e sz 0])
  | .own _ _ _=>some (t,H)
  | _=>none):=rfl
theorem xc_mup {ks:Bool} {m:O} {k:O} {x:O}:exec B (.mup ks m k x) t H = (match ev t m with
  | .map i=>match H[i]? with
   | some (.map es)=>if ksB ks (ev t k) then match updM (ev t k) (ev t x) es with
    | some es'=>some (t,H.set i (.map es'))
    | none=>none
    else none
   | _=>none
  | _=>none):=rfl
theorem xc_rg {d:Nat} {m:O}:exec B (.rg d m) t H = (match ev t m with
  | .map i=>match H[i]? with
   | some (.map es)=>some ((d,.it H.length) :: t,H++[.iter (some i) es.length []])
   | _=>none
  | _=>none):=rfl
theorem xc_en {d:Nat} {x:O}:exec B (.en d x) t H = set1 d (enV H (ev t x)) t H:=rfl
theorem xc_rnon {d:Nat} {e:Nat} {sz:Nat}:exec B (.rnon d e sz) t H = (match lk t d with
  | .nil=>some ((d,.rw H.length sz 0) :: t,H++[.row e sz []])
  | _=>none):=rfl
theorem xc_rono {e:Nat} {sz:Nat} {k:Nat} {a:O}:exec B (.rono e sz k a) t H = (match ev t a with
  | .ptr i off=>match H[i]? with
   | some (.cells e' cs)=>match cs[off+k]? with
    | some .nil=>some (t,H.set i (.cells e' (put (off+k) [.rw H.length sz 0] cs))++[.row e sz []])
    | _=>none
   | _=>none
  | _=>none):=rfl
theorem xc_frz {d:Nat}:exec B (.frz d) t H = (match lk t d with
  | .rw i z n=>match H[i]? with
   | some (.row e sz els)=>if els.length = n then some ((d,.sl sz (els.map (rens fun _=>none))) :: t,H.set i .dead) else none
   | _=>none
  | _=>none):=rfl
theorem xc_e2r {d:Nat}:exec B (.e2r d) t H = (match lk t d with
  | .own i z []=>match H[i]? with
   | some (.arr e sz 0)=>if z = sz then some ((d,.rw H.length sz 0) :: t,H.set i .dead++[.row e sz []]) else none
   | _=>none
  | _=>none):=rfl
theorem xc_frc {k:Nat} {a:O}:exec B (.frc k a) t H = (match ev t a with
  | .ptr i off=>match H[i]? with
   | some (.cells e cs)=>match cs[off+k]? with
    | some (.rw j z n)=>match H[j]? with
     | some (.row e' sz els)=>if els.length = n then some (t,(H.set j .dead).set i (.cells e (put (off+k) [.sl sz (els.map (rens fun _=>none))] cs))) else none
     | _=>none
    | some (.sl _ _)=>some (t,H)
    | _=>none
   | _=>none
  | _=>none):=rfl
theorem xc_ks {m:Nat} {l:List Nat}:exec B (.ks m l) t H = some (l.map fun n=>(n,ren (clip (B+m)) (lk t n)),(H.take (B+m)).map (renOb (clip (B+m)))):=rfl
end
attribute [push_cast] run_done run_skip run_seq run_reg run_dr run_gh run_rend run_blk run_mk run_loop run_ret goP_some goP_none run_exit popTo exP_some exP_none exP_ite run_op oP_some oP_none oP_ite o1P_some o1P_none o1P_ite o1P_ite' exP_set1 cP_bool run_cond gP_bool gP_tup run_gd run_alt0 run_alt1 run_nx run_callp fnP_fn run_callvp ev_s ev_c ev_f lk_nil lk_cons xc_mv xc_pick xc_al xc_bx xc_br xc_sf xc_ldr xc_lar xc_far xc_ld xc_la xc_st xc_fa xc_nc xc_fd xc_bd xc_bs xc_bo xc_bin xc_bb xc_sh xc_un xc_cvi xc_cvs xc_s2b xc_b2s xc_mf xc_len xc_lens xc_ia xc_ix xc_ixa xc_sx xc_sxs xc_ex xc_app xc_apr xc_mx xc_mn xc_non xc_ono xc_mk xc_mkm xc_lkp xc_lnm xc_lkq xc_iaa iaaV_int xc_mup xc_muq xc_eqs xc_kt xc_kk xc_noz xc_apz xc_rg xc_en xc_rnon xc_rono xc_frz xc_e2r xc_frc xc_ks cellsO_some ldV_ro ldV_ptr laV_ro laV_ptr faV_ro faV_ptr ncV_ro ncV_ptr fdV_none fdV_some elV_sl elV_own elV_nil lenV_sl lenV_own lenV_nil lensV_str iaV_sl iaV_own ixV_str ixaV_int binV_add binV_sub binV_mul binV_eql binV_neq binV_lss binV_leq binV_gtr binV_geq binV_str strOpV_add strOpV_eql strOpV_neq strOpV_lss bbV_eql bbV_neq unV_not unV_neg exV_tup sxsV_str bnd_none bnd_int bdV bsV clip setO exP_set2 o2P_some o2P_none o2P_ite run_call fnG_func fnG_nil run_callv run_br brP_some run_bad nlP_some run_nl run_n binV_quo binV_rem shV_shl shV_shr oP_ite' rowO_some ldV_rp laV_rp faV_rp ncV_rp lenV_rw iaV_rw ren_rw ren_rp sto_rw sto_rp renOb_cells renOb_arr renOb_map renOb_iter renOb_dead renOb_row renOb_lp ren_int ren_bool ren_str ren_sl ren_ro ren_nil ren_nilp ren_nilm ren_nilf ren_any ren_agg ren_tup ren_fn ren_own ren_ptr rens_nil rens_cons sto_int sto_bool sto_str sto_sl sto_own sto_agg sto_nil sto_fn sto_ptr sto_ro sto_map sto_nilm sto_nilf sto_nilp ren_map ren_it List.map_cons List.map_nil List.cons_append List.nil_append List.append_nil rvs rvV retV ini List.length_nil List.length_cons List.getElem?_nil List.getElem?_cons_zero List.getElem?_cons_succ List.set_cons_zero List.set_cons_succ List.take_zero List.take_nil List.take_succ_cons Nat.le_refl true_and and_true and_self Nat.zero_add Nat.add_zero decide_eq_true_eq decide_eq_false_iff_not if_true if_false Bool.not_true Bool.not_false Int.toNat_natCast decide_true decide_false Bool.true_and Bool.and_true Bool.false_and Bool.and_false forall_const not_true_eq_false not_false_eq_true true_implies false_implies
end Go.Dw
end
section
namespace Go.Dw
noncomputable abbrev prog:Program:=Go.Proofs.Tryz.prog
theorem mixed:prog.follows .mixedOrders = true:=by kernel_rfl
def n_main_main:Nat:=0
def n_gosem_cut:Nat:=1
def n_gosem_cut_init:Nat:=2
def n_l18_ResidualCube:Nat:=3
def n_l18_ResidualDivides:Nat:=4
def n_l18_ResidualDiamond:Nat:=5
def n_l18_ResidualProjects:Nat:=6
def n_l18_ResidualFull:Nat:=7
def n_l18_ResidualTriangle:Nat:=8
def n_l18_ResidualSame:Nat:=9
def n_l18_ResidualJoins:Nat:=10
def n_residual_Residual:Nat:=11
def n_l18_alive:Nat:=12
def n_r17_Same:Nat:=13
def n_residual_Union:Nat:=14
def n_r18_Residual:Nat:=15
def n_r18_Union:Nat:=16
def n_l18_ends:Nat:=17
def n_r01_Equal:Nat:=18
def n_residual_Project:Nat:=19
def n_r18_Project:Nat:=20
def n_r17_SameList:Nat:=21
def n_residual_Full:Nat:=22
def n_r18_Full:Nat:=23
def n_r17_Count:Nat:=24
def n_residual_Equivalent:Nat:=25
def n_r18_Equivalent:Nat:=26
def n_derive_Last:Nat:=27
def n_residual_Join:Nat:=28
def n_r18_Join:Nat:=29
def n_r16_SameJoining:Nat:=30
def n_residual_both:Nat:=31
def n_multi_Fit:Nat:=32
def n_residual_rest:Nat:=33
def n_l18_system:Nat:=34
def n_residual_union:Nat:=35
def n_r18_pairError:Nat:=36
def n_r18_Divide:Nat:=37
def n_r18_union:Nat:=38
def n_r17_Small:Nat:=39
def n_multi_Source:Nat:=40
def n_multi_Target:Nat:=41
def n_r01_Compare:Nat:=42
def n_residual_ready:Nat:=43
def n_residual_sequence:Nat:=44
def n_residual_linked:Nat:=45
def n_term_Equal:Nat:=46
def n_residual_project:Nat:=47
def n_residual_copied:Nat:=48
def n_r18_SystemError:Nat:=49
def n_r18_sequenceError:Nat:=50
def n_r18_connected:Nat:=51
def n_r17_Term:Nat:=52
def n_r18_project:Nat:=53
def n_term_Check:Nat:=54
def n_rewrite_All:Nat:=55
def n_multi_Bare:Nat:=56
def n_r01_Check:Nat:=57
def n_r04_Redexes:Nat:=58
def n_r18_full:Nat:=59
def n_residual_sequences:Nat:=60
def n_residual_Equivalent_1:Nat:=61
def n_multi_Count:Nat:=62
def n_slices_ContainsFunc_s_Multi_Multi:Nat:=63
def n_r18_chainsError:Nat:=64
def n_r18_Sequence:Nat:=65
def n_derive_Terms:Nat:=66
def n_residual_chain:Nat:=67
def n_r18_developed:Nat:=68
def n_r05_Last:Nat:=69
def n_r04_SameChain:Nat:=70
def n_residual_ends:Nat:=71
def n_multi_size:Nat:=72
def n_multi_depth:Nat:=73
def n_multi_own:Nat:=74
def n_residual_split:Nat:=75
def n_residual_zip:Nat:=76
def n_residual_rest_1:Nat:=77
def n_multi_Plug:Nat:=78
def n_term_VarsOf:Nat:=79
def n_residual_union_1:Nat:=80
def n_r18_MultiError:Nat:=81
def n_r18_residual:Nat:=82
def n_r18_small:Nat:=83
def n_r17_Match:Nat:=84
def n_r17_Size:Nat:=85
def n_multi_end:Nat:=86
def n_multi_Source_1:Nat:=87
def n_multi_Target_1:Nat:=88
def n_r01_CompareNames:Nat:=89
def n_r01_CompareInts:Nat:=90
def n_overlap_Orthogonal:Nat:=91
def n_slices_EqualFunc_s_Term_s_Term_Term_Term:Nat:=92
def n_slices_Clone_s_Multi_Multi:Nat:=93
def n_r16_Orthogonal:Nat:=94
def n_r17_Measure:Nat:=95
def n_r17_build:Nat:=96
def n_term_formed:Nat:=97
def n_term_fits:Nat:=98
def n_term_Walk:Nat:=99
def n_rewrite_at:Nat:=100
def n_slices_ContainsFunc_s_Step_Step:Nat:=101
def n_multi_Bare_1:Nat:=102
def n_slices_Equal_s_int_int:Nat:=103
def n_multi_builder_build:Nat:=104
def n_r01_Formed:Nat:=105
def n_r01_Size:Nat:=106
def n_r01_Depth:Nat:=107
def n_r04_all:Nat:=108
def n_r04_inner:Nat:=109
def n_r04_outer:Nat:=110
def n_r01_SamePos:Nat:=111
def n_r17_Redex:Nat:=112
def n_r03_Match:Nat:=113
def n_derive_Run:Nat:=114
def n_slices_IndexFunc_s_Multi_Multi:Nat:=115
def n_r05_Terms:Nat:=116
def n_r17_Of:Nat:=117
def n_term_CheckSystem:Nat:=118
def n_multi_Chain:Nat:=119
def n_r17_Develop:Nat:=120
def n_r04_SameSteps:Nat:=121
def n_residual_split_1:Nat:=122
def n_residual_under:Nat:=123
def n_slices_Index_s_string_string:Nat:=124
def n_slices_Sort_s_string_string:Nat:=125
def n_r17_SourceError:Nat:=126
def n_r18_fill:Nat:=127
def n_r17_Vars:Nat:=128
def n_r18_residuals:Nat:=129
def n_r18_with:Nat:=130
def n_r17_match:Nat:=131
def n_multi_Check:Nat:=132
def n_multi_side:Nat:=133
def n_multi_large:Nat:=134
def n_term_Fit:Nat:=135
def n_term_Own:Nat:=136
def n_overlap_List:Nat:=137
def n_overlap_left:Nat:=138
def n_r01_CheckSystem:Nat:=139
def n_r16_List:Nat:=140
def n_r16_LeftLinear:Nat:=141
def n_r17_filled:Nat:=142
def n_r17_side:Nat:=143
def n_r01_Apply:Nat:=144
def n_term_IsName:Nat:=145
def n_slices_ContainsFunc_s_Term_Term:Nat:=146
def n_term_formed_1:Nat:=147
def n_term_Size:Nat:=148
def n_term_Depth:Nat:=149
def n_term_Walk_1:Nat:=150
def n_term_walk:Nat:=151
def n_unify_Find:Nat:=152
def n_slices_Clone_s_int_int:Nat:=153
def n_slices_IndexFunc_s_Step_Step:Nat:=154
def n_multi_builder_at:Nat:=155
def n_slices_Concat_s_int_int:Nat:=156
def n_multi_occurrences:Nat:=157
def n_term_Sub:Nat:=158
def n_multi_Equal:Nat:=159
def n_r01_IsName:Nat:=160
def n_r01_Positions:Nat:=161
def n_r01_At:Nat:=162
def n_r04_Below:Nat:=163
def n_r03_match:Nat:=164
def n_rewrite_Do:Nat:=165
def n_r04_Step:Nat:=166
def n_r04_Check:Nat:=167
def n_r17_of:Nat:=168
def n_term_CheckRules:Nat:=169
def n_term_Arities:Nat:=170
def n_term_Marked:Nat:=171
def n_slices_ContainsFunc_s_Rule_Rule:Nat:=172
def n_term_extra:Nat:=173
def n_multi_develop:Nat:=174
def n_multi_first:Nat:=175
def n_r17_First:Nat:=176
def n_r17_At:Nat:=177
def n_r17_Contracted:Nat:=178
def n_r17_Copies:Nat:=179
def n_r17_Put:Nat:=180
def n_slices_pdqsortOrdered_string:Nat:=181
def n_bits_Len:Nat:=182
def n_r17_Check:Nat:=183
def n_r01_Vars:Nat:=184
def n_r17_index:Nat:=185
def n_multi_all:Nat:=186
def n_multi_Check_1:Nat:=187
def n_multi_Check_2:Nat:=188
def n_multi_formed:Nat:=189
def n_multi_plug:Nat:=190
def n_multi_large_1:Nat:=191
def n_overlap_All:Nat:=192
def n_overlap_left_1:Nat:=193
def n_overlap_Linear:Nat:=194
def n_r01_Rules:Nat:=195
def n_r01_Symbols:Nat:=196
def n_r01_Within:Nat:=197
def n_r16_At:Nat:=198
def n_r16_Linear:Nat:=199
def n_r01_Image:Nat:=200
def n_strings_TrimSuffix:Nat:=201
def n_slices_ContainsFunc_s_byte_byte:Nat:=202
def n_term_IsName_1:Nat:=203
def n_term_inName:Nat:=204
def n_slices_IndexFunc_s_Term_Term:Nat:=205
def n_unify_matcher_match:Nat:=206
def n_slices_Grow_s_int_int:Nat:=207
def n_slices_EqualFunc_s_Multi_s_Multi_Multi_Multi:Nat:=208
def n_r01_Marked:Nat:=209
def n_r01_Letters:Nat:=210
def n_r03_Bound:Nat:=211
def n_r03_with:Nat:=212
def n_rewrite_find:Nat:=213
def n_term_Instance:Nat:=214
def n_term_Set:Nat:=215
def n_r04_Subst:Nat:=216
def n_r01_Grown:Nat:=217
def n_r04_replaced:Nat:=218
def n_r01_Put:Nat:=219
def n_r17_Under:Nat:=220
def n_r17_Occurrences:Nat:=221
def n_r17_SameSet:Nat:=222
def n_term_All:Nat:=223
def n_strings_HasSuffix:Nat:=224
def n_slices_IndexFunc_s_Rule_Rule:Nat:=225
def n_slices_ContainsFunc_s_string_string:Nat:=226
def n_term_extra_1:Nat:=227
def n_slices_Contains_s_string_string:Nat:=228
def n_multi_node:Nat:=229
def n_multi_places:Nat:=230
def n_multi_set:Nat:=231
def n_multi_contract:Nat:=232
def n_r17_Fill:Nat:=233
def n_slices_insertionSortOrdered_string:Nat:=234
def n_slices_heapSortOrdered_string:Nat:=235
def n_slices_breakPatternsOrdered_string:Nat:=236
def n_slices_choosePivotOrdered_string:Nat:=237
def n_slices_reverseRangeOrdered_string:Nat:=238
def n_slices_partialInsertionSortOrdered_string:Nat:=239
def n_cmp_Less_string:Nat:=240
def n_slices_partitionEqualOrdered_string:Nat:=241
def n_slices_partitionOrdered_string:Nat:=242
def n_bits_Len32:Nat:=243
def n_bits_Len64:Nat:=244
def n_r17_ranged:Nat:=245
def n_r17_formed:Nat:=246
def n_r01_collect:Nat:=247
def n_multi_all_1:Nat:=248
def n_term_Standard:Nat:=249
def n_overlap_one:Nat:=250
def n_overlap_inner:Nat:=251
def n_overlap_Linear_1:Nat:=252
def n_term_Count:Nat:=253
def n_r01_CheckAll:Nat:=254
def n_r01_symbols:Nat:=255
def n_r01_Count:Nat:=256
def n_r16_renamed:Nat:=257
def n_r03_UnifyAll:Nat:=258
def n_r01_Fits:Nat:=259
def n_r16_small:Nat:=260
def n_r01_Renaming:Nat:=261
def n_r01_First:Nat:=262
def n_stringslite_TrimSuffix:Nat:=263
def n_slices_IndexFunc_s_byte_byte:Nat:=264
def n_term_Image:Nat:=265
def n_unify_bind:Nat:=266
def n_r01_letter:Nat:=267
def n_term_measure:Nat:=268
def n_term_replace:Nat:=269
def n_r17_contains:Nat:=270
def n_stringslite_HasSuffix:Nat:=271
def n_slices_IndexFunc_s_string_string:Nat:=272
def n_slices_siftDownOrdered_string:Nat:=273
def n_slices_nextPowerOfTwo:Nat:=274
def n_slices_xorshift_Next:Nat:=275
def n_slices_medianAdjacentOrdered_string:Nat:=276
def n_slices_medianOrdered_string:Nat:=277
def n_cmp_isNaN_string:Nat:=278
def n_r01_Insert:Nat:=279
def n_term_Standard_1:Nat:=280
def n_term_Renamed:Nat:=281
def n_term_Standard_1_1:Nat:=282
def n_strconv_Itoa:Nat:=283
def n_unify_Solve:Nat:=284
def n_overlap_inner_1:Nat:=285
def n_r16_names:Nat:=286
def n_r03_solver_solve:Nat:=287
def n_r03_large:Nat:=288
def n_r03_resolve:Nat:=289
def n_r01_sorted:Nat:=290
def n_r01_Digits:Nat:=291
def n_r01_Has:Nat:=292
def n_slices_BinarySearchFunc_s_Bind_Bind_string:Nat:=293
def n_term_Image_1:Nat:=294
def n_strings_Compare:Nat:=295
def n_unify_bind_1:Nat:=296
def n_slices_Insert_s_Bind_Bind:Nat:=297
def n_slices_order2Ordered_string:Nat:=298
def n_strconv_Itoa_:Nat:=299
def n_unify_unifier_solve:Nat:=300
def n_unify_unifier_measure:Nat:=301
def n_unify_unifier_whole:Nat:=302
def n_r03_solver_known:Nat:=303
def n_r03_walk:Nat:=304
def n_r03_solver_bind:Nat:=305
def n_r03_measure:Nat:=306
def n_bytealg_CompareString:Nat:=307
def n_slices_overlaps_Bind:Nat:=308
def n_slices_rotateRight_Bind:Nat:=309
def n_strconv_FormatInt:Nat:=310
def n_unify_unifier_head:Nat:=311
def n_unify_unifier_set:Nat:=312
def n_r03_reach:Nat:=313
def n_bytealg_abigen_runtime_cmpstring:Nat:=314
def n_slices_rotateLeft_Bind:Nat:=315
def n_strconv_small:Nat:=316
def n_strconv_numDigits:Nat:=317
def n_strconv_formatBase10:Nat:=318
def n_strconv_formatBits:Nat:=319
def n_unify_unifier_occurs:Nat:=320
def n_slices_Reverse_s_Bind_Bind:Nat:=321
def n_strconv_log10Pow2:Nat:=322
def n_strconv_bool2_int:Nat:=323
def n_strconv_isPowerOfTwo:Nat:=324
def n_bits_TrailingZeros:Nat:=325
def n_unify_unifier_occurs_1:Nat:=326
def n_bits_TrailingZeros32:Nat:=327
def n_bits_TrailingZeros64:Nat:=328
def n_runtime_boundsError_Error:Nat:=329
def n_runtime_boundsError_RuntimeError:Nat:=330
def n_runtime_errorString_Error:Nat:=331
def n_runtime_errorString_RuntimeError:Nat:=332
def n_runtime_plainError_Error:Nat:=333
def n_runtime_plainError_RuntimeError:Nat:=334
def n_runtime_errorAddressString_Error:Nat:=335
def n_runtime_errorAddressString_RuntimeError:Nat:=336
def n_runtime_TypeAssertionError_Error:Nat:=337
def n_runtime_TypeAssertionError_RuntimeError:Nat:=338
def n_runtime_PanicNilError_Error:Nat:=339
def n_runtime_PanicNilError_RuntimeError:Nat:=340
def n_abi_Type_Align:Nat:=341
def n_runtime_maps_unhashableTypeError_Error:Nat:=342
def n_runtime_maps_unhashableTypeError_RuntimeError:Nat:=343
def n_abi_Kind_String:Nat:=344
def n_var_s_door__gosem_cut_vars_holds_initialisers_alone__see_the_manifest_s_row_cutvarsword_look_11__test_files_too:Nat:=345
def n_var_s_door__strconv_uint64pow10_is_laid_by_its_own_initialiser__plain_data_look_11:Nat:=346
def n_var_s_door__bits_deBruijn32tab_is_laid_by_its_own_initialiser__plain_data_look_11:Nat:=347
def n_var_s_door__bits_deBruijn64tab_is_laid_by_its_own_initialiser__plain_data_look_11:Nat:=348
def n_var_s_door__the_look_of_gosem_cut_vars_went_over_the_folder_that_the_caller_named_as_the_repository_s_root_look_11:Nat:=349
def n_gosem_cut_vars:Nat:=350
noncomputable abbrev fn_slices_overlaps_Bind:Func:=Go.Proofs.Tryz.f308
theorem at_slices_overlaps_Bind:prog.funcs[n_slices_overlaps_Bind]? = some fn_slices_overlaps_Bind:=Go.Proofs.Tryz.func308
noncomputable abbrev fn_bytealg_abigen_runtime_cmpstring:Func:=Go.Proofs.Tryz.f314
theorem at_bytealg_abigen_runtime_cmpstring:prog.funcs[n_bytealg_abigen_runtime_cmpstring]? = some fn_bytealg_abigen_runtime_cmpstring:=Go.Proofs.Tryz.func314
def t_int:Nat:=3
def t_bool:Nat:=4
def t_string:Nat:=9
def t_s_Rule:Nat:=22
def t_s_Multi:Nat:=23
def t_Multi:Nat:=25
def t_Errno:Nat:=26
def t_Term:Nat:=35
def t_s_Step:Nat:=47
def t_Chain:Nat:=49
def t_Joining:Nat:=56
def t_func_Multi_bool:Nat:=67
def t_a2_s_Multi:Nat:=71
def t_a2_Term:Nat:=86
def t_Rule:Nat:=107
def t_s_string:Nat:=108
def t_dwindleref18_node:Nat:=112
def t_func_Term_bool:Nat:=127
def t_s_int:Nat:=130
def t_p_multi_builder:Nat:=132
def t_multi_builder:Nat:=134
def t_Step:Nat:=136
def t_Bind:Nat:=148
def t_m_string_bool:Nat:=158
def t_s_Overlap:Nat:=169
def t_s_s_int:Nat:=185
def t_m_string_int:Nat:=192
def t_Overlap:Nat:=215
def t_unify_matcher:Nat:=225
def t_term_meter:Nat:=270
def t_slices_xorshift:Nat:=274
def t_m_string_string:Nat:=281
def t_Symbol:Nat:=286
def t_dwindleref03_solver:Nat:=290
def t_p_unify_unifier:Nat:=298
def t_unify_unifier:Nat:=302
def t_unify_meter:Nat:=305
def t_a2_string:Nat:=307
def t_a24_uint8:Nat:=315
def t_a65_uint8:Nat:=324
end Go.Dw
end
section
namespace Go.Dw
abbrev Str:=List UInt8
inductive Term where
 | mk (name:Str) (var:Bool) (args:List Term)
deriving Inhabited
namespace Term
def name:Term→Str | mk n _ _=>n
def var:Term→Bool | mk _ v _=>v
def args:Term→List Term | mk _ _ a=>a
end Term
def encL {α:Type} (f:α→List V) (z:Nat) (l:List α):V:=.sl z (l.map f)
def ownL {α:Type} (f:α→List V) (i z:Nat) (l:List α):V:=.own i z (l.map f)
section
variable {α:Type} {f:α→List V} {z:Nat}
theorem sto_encL {l:List α}:sto (encL f z l) = some [encL f z l]:=rfl
theorem ren_encL {σ:Nat→Option Nat} {l:List α}:ren σ (encL f z l) = encL f z l:=rfl
theorem lenV_encL {l:List α}:lenV (encL f z l) = some (.int .i64 l.length):=by simp [encL,lenV]
theorem elV_encL {l:List α}:elV (encL f z l) = some (l.map f):=rfl
theorem iaV_encL [Inhabited α] {l:List α} {k:IntKind} {n:Int} {y:Nat}:iaV y (encL f z l) (.int k n) = if z = y∧0≤n∧n < l.length then some (.ro (f (l.getD n.toNat default)) 0) else none:=by
 simp only [encL,iaV,List.length_map]
 split
 ·rename_i h
  have hlt:n.toNat < l.length:=by omega
  simp [List.getD_eq_getElem?_getD,hlt]
 ·rfl
theorem sxV_encL {l:List α} {lo hi:Option V} {y:Nat}:sxV y (encL f z l) lo hi = match bnd lo 0,bnd hi l.length with
  | some a,some b=>if z = y∧a≤b∧b≤l.length then some (encL f z ((l.drop a).take (b - a))) else none
  | _,_=>none:=by
 simp only [encL,sxV,List.length_map,← List.map_drop,← List.map_take]
 rfl
theorem sto_ownL {i:Nat} {l:List α}:sto (ownL f i z l) = some [ownL f i z l]:=rfl
theorem ren_ownL {σ:Nat→Option Nat} {i:Nat} {l:List α}:ren σ (ownL f i z l) = match σ i with | some j=>ownL f j z l | none=>encL f z l:=by simp only [ownL,encL,ren];rfl
theorem lenV_ownL {i:Nat} {l:List α}:lenV (ownL f i z l) = some (.int .i64 l.length):=by simp [ownL,lenV]
theorem elV_ownL {i:Nat} {l:List α}:elV (ownL f i z l) = some (l.map f):=rfl
theorem iaV_ownL [Inhabited α] {i:Nat} {l:List α} {k:IntKind} {n:Int} {y:Nat}:iaV y (ownL f i z l) (.int k n) = if z = y∧0≤n∧n < l.length then some (.ro (f (l.getD n.toNat default)) 0) else none:=by
 simp only [ownL,iaV,List.length_map]
 split
 ·rename_i h
  have hlt:n.toNat < l.length:=by omega
  simp [List.getD_eq_getElem?_getD,hlt]
 ·rfl
def arrO (o:Option Ob) (K:Nat→Nat→Nat→Option (V × List Ob)):Option (V × List Ob):=match o with
 | some (.arr e z n)=>K e z n
 | _=>none
theorem arrO_some {e y n:Nat} {K:Nat→Nat→Nat→Option (V × List Ob)}:arrO (some (.arr e y n)) K = K e y n:=rfl
def newO (o:Option (List (List V))) (K:List (List V)→Option (V × List Ob)):Option (V × List Ob):=match o with
 | some l=>K l
 | none=>none
theorem newO_some {l:List (List V)} {K:List (List V)→Option (V × List Ob)}:newO (some l) K = K l:=rfl
theorem appV_ownL {H:List Ob} {e y bytes i:Nat} {l:List α} {v:V}:appV H e y bytes (ownL f i z l) v = newO (elV v) fun new=>arrO H[i]? fun e' z' n=>if z = y∧z' = y∧e' = e∧n = l.length∧(∀ x∈new,x.length = y)∧(l.length+new.length) * bytes≤maxEls then some (.own i y (l.map f++new),H.set i (.arr e y (l.length+new.length))) else none:=by
 unfold appV ownL newO arrO
 cases elV v with
 | none=>rfl
 | some new =>
  simp only [List.length_map]
  rfl
theorem appV_own {H:List Ob} {e y bytes i:Nat} {l:List (List V)} {v:V}:appV H e y bytes (.own i z l) v = newO (elV v) fun new=>arrO H[i]? fun e' z' n=>if z = y∧z' = y∧e' = e∧n = l.length∧(∀ x∈new,x.length = y)∧(l.length+new.length) * bytes≤maxEls then some (.own i y (l++new),H.set i (.arr e y (l.length+new.length))) else none:=by
 unfold appV newO arrO
 cases elV v with
 | none=>rfl
 | some new=>rfl
def rowP (o:Option Ob) (K:Nat→Nat→List (List V)→Option (V × List Ob)):Option (V × List Ob):=match o with
 | some (.row e z els)=>K e z els
 | _=>none
theorem rowP_some {e y:Nat} {els:List (List V)} {K:Nat→Nat→List (List V)→Option (V × List Ob)}:rowP (some (.row e y els)) K = K e y els:=rfl
theorem aprV_rw {H:List Ob} {e y bytes i n:Nat} {v:V}:aprV H e y bytes (.rw i z n) v = newO (elV v) fun new=>rowP H[i]? fun e' z' els=>if z' = y∧e' = e∧els.length = n∧(∀ x∈new,x.length = y)∧(n+new.length) * bytes≤maxEls then some (.rw i y (n+new.length),H.set i (.row e y (els++new))) else none:=by
 unfold aprV newO rowP
 cases elV v with
 | none=>rfl
 | some new=>rfl
theorem own_snoc {i:Nat} {l:List α} {x:α}:(.own i z (l.map f++[f x]):V) = ownL f i z (l++[x]):=by simp [ownL]
theorem own_app {i:Nat} {l m:List α}:(.own i z (l.map f++m.map f):V) = ownL f i z (l++m):=by simp [ownL]
end
attribute [push_cast] sto_encL ren_encL lenV_encL elV_encL iaV_encL sxV_encL sto_ownL ren_ownL lenV_ownL elV_ownL iaV_ownL arrO_some newO_some appV_ownL appV_own rowP_some aprV_rw own_snoc own_app eq_self
mutual
def argC:Term→List (List V)
 | .mk _ _ ts=>argCs ts
def argCs:List Term→List (List V)
 | []=>[]
 | a :: ts=>[.str a.name,.bool a.var,.sl 3 (argC a)] :: argCs ts
end
def cT (t:Term):List V:=[.str t.name,.bool t.var,.sl 3 (argC t)]
theorem argCs_eq (ts:List Term):argCs ts = ts.map cT:=by
 induction ts with
 | nil=>simp [argCs]
 | cons a ts ih=>simp [argCs,ih,cT]
theorem argC_eq (t:Term):argC t = t.args.map cT:=by cases t;simp [argC,argCs_eq,Term.args]
abbrev encTs (l:List Term):V:=encL cT 3 l
theorem cT_eq (t:Term):cT t = [.str t.name,.bool t.var,encTs t.args]:=by rw [cT,argC_eq];rfl
def encT (t:Term):V:=.agg (cT t)
theorem sto_encT (t:Term):sto (encT t) = some (cT t):=rfl
theorem cT_len (t:Term):(cT t).length = 3:=rfl
theorem cT_0 (t:Term):(cT t)[0]? = some (.str t.name):=rfl
theorem cT_1 (t:Term):(cT t)[1]? = some (.bool t.var):=rfl
theorem cT_2 (t:Term):(cT t)[2]? = some (encTs t.args):=by rw [cT_eq];rfl
theorem cT_sub (t:Term):sub 0 3 (cT t) = cT t:=rfl
theorem encT_fold (t:Term):V.agg (cT t) = encT t:=rfl
theorem rens_cT {σ:Nat→Option Nat} (t:Term):rens σ (cT t) = cT t:=rfl
theorem ren_encT {σ:Nat→Option Nat} (t:Term):ren σ (encT t) = encT t:=by unfold encT;rw [ren_agg,rens_cT]
theorem cT_mk (n:Str) (v:Bool) (l:List Term):[V.str n,.bool v,encTs l] = cT (.mk n v l):=by rw [cT_eq];rfl
theorem fdV_encT_none (t:Term) (k:Nat):fdV k none (encT t) = (cT t)[k]?:=rfl
theorem put_0_3 (x:List V) (a b c:V) (h:x.length = 3):put 0 x [a,b,c] = x:=by
 simp only [put,h];simp
theorem put_cT (t:Term) (a b c:V):put 0 (cT t) [a,b,c] = cT t:=put_0_3 _ _ _ _ rfl
theorem put_cT' (t u:Term):put 0 (cT t) (cT u) = cT t:=put_0_3 _ _ _ _ rfl
attribute [push_cast] sto_encT cT_len cT_0 cT_1 cT_2 cT_sub encT_fold ren_encT rens_cT fdV_encT_none put_cT put_cT'
end Go.Dw
end
section
namespace Go.Dw
abbrev PF (f:Nat) (args:List V) (x:V):Prop:=Spec prog f args [] fun x' H'=>x' = x∧H' = []
theorem pf_of {f:Nat} {nd:Nat→C} {c:C} {n:Nat} {rs:List RV} (hok:okF prog f nd c n rs = true) {args:List V} {x:V} (hn:args.length = n)
  (hrun:Run prog nd 0 [.c c] (ini 0 args) [] (Ends 0 rs fun x' H'=>x' = x∧H' = [])):PF f args x:=spec_of_run mixed hok hn hrun
theorem pf_ret {rs:List RV} {t:T} {H:List Ob} {v:V} {e:X} (h:oP (retV rs t H) fun x=>ren (fun _=>none) x = v) (he:e = .ret ∨ e = .fall:=by first | exact .inl rfl | exact .inr rfl):Ends 0 rs (fun x' H'=>x' = v∧H' = []) e t H:=by
 cases hr:retV rs t H with
 | none=>rw [hr] at h;exact h.elim
 | some x=>rw [hr] at h;exact ends_nil he hr ⟨h,rfl⟩
attribute [push_cast] List.forall_mem_singleton List.forall_mem_map Option.map_some Option.map_none Option.bind_some Option.bind_none ne_eq Bool.false_eq_true Bool.true_eq_false and_true true_and implies_true Int.natCast_nonneg implies_true not_true_eq_false not_false_eq_true true_implies false_implies forall_const V.int.injEq V.bool.injEq V.str.injEq V.tup.injEq V.agg.injEq List.cons.injEq
theorem sub_z {l:List V}:sub 0 0 l = []:=rfl
theorem sub_s {k:Nat} {x:V} {l:List V}:sub 0 (k+1) (x :: l) = x :: sub 0 k l:=rfl
theorem sub_d {o k:Nat} {x:V} {l:List V}:sub (o+1) k (x :: l) = sub o k l:=rfl
theorem put_z {l:List V}:put 0 [] l = l:=by simp [put]
theorem put_s {x y:V} {n l:List V}:put 0 (x :: n) (y :: l) = x :: put 0 n l:=by simp [put]
theorem put_d {o:Nat} {y:V} {n l:List V}:put (o+1) n (y :: l) = y :: put o n l:=by
 simp only [put,List.take_succ_cons,List.cons_append]
 rw [show o+1+n.length = (o+n.length)+1 by omega,List.drop_succ_cons]
theorem put_cT3 (t:Term) (a b c:V) (l:List V):put 0 (cT t) (a :: b :: c :: l) = cT t++l:=by simp [put,cT_len]
theorem put_app (t:Term) (n l:List V) (k:Nat):put (k+3) n (cT t++l) = cT t++put k n l:=by
 simp only [put]
 have h:(cT t).length = 3:=rfl
 rw [List.take_append,List.drop_append,List.take_of_length_le (by omega),List.drop_of_length_le (by omega)]
 simp only [h,List.nil_append,List.append_assoc]
 rw [show k+3 - 3 = k by omega,show k+3+n.length - 3 = k+n.length by omega]
theorem app_get_cT (t:Term) (l:List V) (k:Nat):(cT t++l)[k+3]? = l[k]?:=by
 rw [List.getElem?_append_right (by simp [cT_len])];simp [cT_len]
theorem sub_app_cT (t:Term) (l:List V):sub 0 3 (cT t++l) = cT t:=by
 simp only [sub,List.drop_zero]
 exact List.take_left' rfl
attribute [push_cast] sub_z sub_s sub_d put_z put_s put_d put_cT3 put_app app_get_cT sub_app_cT List.length_append List.append_assoc
theorem getD_mem {α:Type} [Inhabited α] {l:List α} {k:Nat} (h:k < l.length):l.getD k default∈l:=by simp [List.getD_eq_getElem?_getD,h]
theorem take_succ_getD {α:Type} [Inhabited α] {l:List α} {k:Nat} (h:k < l.length):l.take (k+1) = l.take k++[l.getD k default]:=by
 rw [List.take_succ_eq_append_getElem h];simp [List.getD_eq_getElem?_getD,h]
theorem drop_getD {α:Type} [Inhabited α] {l:List α} {k:Nat} (h:k < l.length):l.drop k = l.getD k default :: l.drop (k+1):=by
 rw [List.drop_eq_getElem_cons h];simp [List.getD_eq_getElem?_getD,h]
theorem ilt {k n:Nat} (h:k < n):((k:Int) < (n:Int)) = True:=eq_true (by omega)
theorem inlt {k n:Nat} (h:n≤k):((k:Int) < (n:Int)) = False:=eq_false (by omega)
theorem w64 {k:Nat} (h:k < 2^62):IntKind.i64.wrap ((k:Int)+1) = (k:Int)+1:=wrap64 (by omega) (by omega)
theorem pos_nil:pos? [] = fun _=>none:=by funext i;rfl
theorem takeG_nil (H H':List Ob):takeG [] H H' = H:=by
 unfold takeG
 apply List.ext_getElem (by simp)
 intro i h1 h2
 simp [pos?,h2]
theorem takeB_none (H H':List Ob):takeB [] H H' = H++H'.map (renOb fun i=>some (H.length+i)):=by
 unfold takeB
 rw [takeG_nil]
 have:back [] H.length = fun i=>some (H.length+i):=by funext i;simp [back]
 rw [this];simp
section
variable {N:Nat→C} {B:Nat} {s:List K} {t:T} {H:List Ob} {Q:X→T→List Ob→Prop}
theorem callG_new {d:Option Nat} {l:List S} {f:Nat} {vs:List V} {x:V} {H1:List Ob} (h:Spec prog f (rens (fun _=>none) vs) [] fun x' H'=>x' = x∧H' = H1)
  (k:Run prog N B (.r l :: s) (setO d (ren (fun i=>some (H.length+i)) x) t) (H++H1.map (renOb fun i=>some (H.length+i))) Q):CallG prog N B d l s t Q (.func f) vs H:=by
 refine CallG.some [] List.nodup_nil (fun i hi=>by cases hi) (R:=fun x' H'=>x' = x∧H' = H1) (by rw [pos_nil];exact h) ?_
 rintro x' H' ⟨rfl,rfl⟩ _
 rw [takeB_none]
 have:back [] H.length = fun i=>some (H.length+i):=by funext i;simp [back]
 rw [this];exact k
end
end Go.Dw
end
section
namespace Go.Dw
mutual
def size:Term→Nat
 | .mk _ _ l=>1+sizes l
def sizes:List Term→Nat
 | []=>0
 | a :: l=>size a+sizes l
end
theorem sizes_append (a b:List Term):sizes (a++b) = sizes a+sizes b:=by
 induction a with
 | nil=>simp [sizes]
 | cons x xs ih=>simp [sizes,ih];omega
theorem size_args (t:Term):size t = 1+sizes t.args:=by cases t;simp [size,Term.args]
theorem sizes_take_succ (l:List Term) (k:Nat) (h:k < l.length):sizes (l.take (k+1)) = sizes (l.take k)+size (l.getD k default):=by
 rw [take_succ_getD h,sizes_append];simp [sizes]
theorem sizes_take_le (l:List Term) (k:Nat):sizes (l.take k)≤sizes l:=by
 conv=>rhs;rw [← List.take_append_drop k l]
 rw [sizes_append];omega
theorem size_mem {l:List Term} {a:Term} (h:a∈l):size a≤sizes l:=by
 induction l with
 | nil=>cases h
 | cons x xs ih=>rcases List.mem_cons.1 h with rfl | h <;> simp [sizes];have:=ih h;omega
theorem length_le_sizes (l:List Term):l.length≤sizes l:=by
 induction l with
 | nil=>simp
 | cons x xs ih=>simp only [sizes,List.length_cons];have:=size_args x;omega
theorem term_ind {p:Term→Prop} (h:∀ t,(∀ a∈t.args,p a)→p t) (t:Term):p t:=by
 have:∀ n t,size t≤n→p t:=by
  intro n
  induction n with
  | zero=>intro t ht;have:=size_args t;omega
  | succ n ih =>
   intro t ht
   refine h t fun a ha=>ih a ?_
   have:=size_args t
   have:=size_mem ha
   omega
 exact this (size t) t (Nat.le_refl _)
def eqf {α β:Type} (f:α→β→Bool):List α→List β→Bool
 | [],[]=>true
 | a :: l,b :: m=>f a b && eqf f l m
 | _,_=>false
theorem eqf_len {α β:Type} {f:α→β→Bool}:∀ {l:List α} {m:List β},eqf f l m = true→l.length = m.length
 | [],[],_=>rfl
 | a :: l,b :: m,h=>by simp only [eqf,Bool.and_eq_true] at h;simp [eqf_len h.2]
 | [],_ :: _,h=>by cases h
 | _ :: _,[],h=>by cases h
mutual
def teq:Term→Term→Bool
 | .mk n v l,.mk n' v' l'=>n == n' && v == v' && teqs l l'
def teqs:List Term→List Term→Bool
 | [],[]=>true
 | a :: l,b :: m=>teq a b && teqs l m
 | _,_=>false
end
mutual
theorem teq_iff:∀ a b:Term,teq a b = true ↔ a = b
 | .mk n v l,.mk n' v' l'=>by simp [teq,teqs_iff l l',and_assoc]
theorem teqs_iff:∀ a b:List Term,teqs a b = true ↔ a = b
 | [],[]=>by simp [teqs]
 | a :: l,b :: m=>by simp [teqs,teq_iff a b,teqs_iff l m]
 | [],_ :: _=>by simp [teqs]
 | _ :: _,[]=>by simp [teqs]
end
instance:DecidableEq Term:=fun a b=>if h:teq a b = true then .isTrue ((teq_iff a b).1 h) else .isFalse fun e=>h ((teq_iff a b).2 e)
theorem eqf_eq {f:Term→Term→Bool}:∀ {l m:List Term},(∀ a∈l,∀ b,f a b = decide (a = b))→eqf f l m = decide (l = m)
 | [],[],_=>rfl
 | a :: l,b :: m,h=>by
  simp only [eqf,h a (by simp) b,eqf_eq (l:=l) (m:=m) fun x hx=>h x (by simp [hx])]
  simp
 | [],_ :: _,_=>rfl
 | _ :: _,[],_=>rfl
theorem term_eq_iff (a b:Term):a = b ↔ a.name = b.name∧a.var = b.var∧a.args = b.args:=by cases a;cases b;simp [Term.name,Term.var,Term.args]
end Go.Dw
end
section
namespace Go.Dw
def cU8 (c:UInt8):List V:=[.int .u8 c.toNat]
def cS (s:Str):List V:=[.str s]
def cI (n:Int):List V:=[.int .i64 n]
theorem cU8_fold (s:Str):(.sl 1 (s.map fun c=>[V.int .u8 c.toNat]):V) = encL cU8 1 s:=rfl
theorem cU8_0 (c:UInt8):(cU8 c)[0]? = some (.int .u8 c.toNat):=rfl
theorem cS_0 (s:Str):(cS s)[0]? = some (.str s):=rfl
theorem cI_0 (n:Int):(cI n)[0]? = some (.int .i64 n):=rfl
theorem cU8_len (s:UInt8):(cU8 s).length = 1:=rfl
theorem cS_len (s:Str):(cS s).length = 1:=rfl
theorem cI_len (s:Int):(cI s).length = 1:=rfl
abbrev encSs (l:List Str):V:=encL cS 1 l
abbrev encP (l:List Int):V:=encL cI 1 l
structure ARule where
 left:Term
 right:Term
 deriving Inhabited,DecidableEq
def cR (r:ARule):List V:=cT r.left++cT r.right
def encR (r:ARule):V:=.agg (cR r)
abbrev encRs (l:List ARule):V:=encL cR 6 l
structure ABind where
 name:Str
 term:Term
 deriving Inhabited,DecidableEq
def cB (b:ABind):List V:=.str b.name :: cT b.term
def encB (b:ABind):V:=.agg (cB b)
abbrev encBs (l:List ABind):V:=encL cB 4 l
structure AStep where
 rule:Int
 pos:List Int
 deriving Inhabited,DecidableEq
def cSt (s:AStep):List V:=[.int .i64 s.rule,encP s.pos]
def encSt (s:AStep):V:=.agg (cSt s)
abbrev encSts (l:List AStep):V:=encL cSt 2 l
structure AChain where
 start:Term
 steps:List AStep
 deriving Inhabited,DecidableEq
def cC (c:AChain):List V:=cT c.start++[encSts c.steps]
def encC (c:AChain):V:=.agg (cC c)
structure AEdge where
 src:Int
 dst:Int
 step:AStep
 deriving Inhabited,DecidableEq
def cEd (e:AEdge):List V:=.int .i64 e.src :: .int .i64 e.dst :: cSt e.step
def encEd (e:AEdge):V:=.agg (cEd e)
abbrev encEds (l:List AEdge):V:=encL cEd 4 l
structure AGraph where
 terms:List Term
 edges:List AEdge
 whole:Bool
 deriving Inhabited,DecidableEq
def cG (g:AGraph):List V:=[encTs g.terms,encEds g.edges,.bool g.whole]
def encG (g:AGraph):V:=.agg (cG g)
structure ALoop where
 chain:AChain
 pos:List Int
 subst:List ABind
 deriving Inhabited,DecidableEq
def cL (l:ALoop):List V:=cC l.chain++[encP l.pos,encBs l.subst]
def encLo (l:ALoop):V:=.agg (cL l)
section
variable (r:ARule) (b:ABind) (s:AStep) (c:AChain) (e:AEdge) (g:AGraph) (l:ALoop) {σ:Nat→Option Nat}
theorem cR_len:(cR r).length = 6:=rfl
theorem cB_len:(cB b).length = 4:=rfl
theorem cSt_len:(cSt s).length = 2:=rfl
theorem cC_len:(cC c).length = 4:=rfl
theorem cEd_len:(cEd e).length = 4:=rfl
theorem cG_len:(cG g).length = 3:=rfl
theorem cL_len:(cL l).length = 6:=rfl
theorem sto_encR:sto (encR r) = some (cR r):=rfl
theorem sto_encB:sto (encB b) = some (cB b):=rfl
theorem sto_encSt:sto (encSt s) = some (cSt s):=rfl
theorem sto_encC:sto (encC c) = some (cC c):=rfl
theorem sto_encEd:sto (encEd e) = some (cEd e):=rfl
theorem sto_encG:sto (encG g) = some (cG g):=rfl
theorem sto_encLo:sto (encLo l) = some (cL l):=rfl
theorem rens_cR:rens σ (cR r) = cR r:=rfl
theorem rens_cB:rens σ (cB b) = cB b:=rfl
theorem rens_cSt:rens σ (cSt s) = cSt s:=rfl
theorem rens_cC:rens σ (cC c) = cC c:=rfl
theorem rens_cEd:rens σ (cEd e) = cEd e:=rfl
theorem rens_cG:rens σ (cG g) = cG g:=rfl
theorem rens_cL:rens σ (cL l) = cL l:=rfl
theorem ren_encR:ren σ (encR r) = encR r:=by unfold encR;rw [ren_agg,rens_cR]
theorem ren_encB:ren σ (encB b) = encB b:=by unfold encB;rw [ren_agg,rens_cB]
theorem ren_encSt:ren σ (encSt s) = encSt s:=by unfold encSt;rw [ren_agg,rens_cSt]
theorem ren_encC:ren σ (encC c) = encC c:=by unfold encC;rw [ren_agg,rens_cC]
theorem ren_encEd:ren σ (encEd e) = encEd e:=by unfold encEd;rw [ren_agg,rens_cEd]
theorem ren_encG:ren σ (encG g) = encG g:=by unfold encG;rw [ren_agg,rens_cG]
theorem ren_encLo:ren σ (encLo l) = encLo l:=by unfold encLo;rw [ren_agg,rens_cL]
theorem encR_fold:V.agg (cR r) = encR r:=rfl
theorem encB_fold:V.agg (cB b) = encB b:=rfl
theorem encSt_fold:V.agg (cSt s) = encSt s:=rfl
theorem encC_fold:V.agg (cC c) = encC c:=rfl
theorem encEd_fold:V.agg (cEd e) = encEd e:=rfl
theorem encG_fold:V.agg (cG g) = encG g:=rfl
theorem encLo_fold:V.agg (cL l) = encLo l:=rfl
theorem sub_R_l:sub 0 3 (cR r) = cT r.left:=rfl
theorem sub_R_r:sub 3 3 (cR r) = cT r.right:=rfl
theorem sub_R_a:sub 0 6 (cR r) = cR r:=rfl
theorem cB_0:(cB b)[0]? = some (.str b.name):=rfl
theorem sub_B_t:sub 1 3 (cB b) = cT b.term:=rfl
theorem sub_B_a:sub 0 4 (cB b) = cB b:=rfl
theorem cSt_0:(cSt s)[0]? = some (.int .i64 s.rule):=rfl
theorem cSt_1:(cSt s)[1]? = some (encP s.pos):=rfl
theorem sub_St_a:sub 0 2 (cSt s) = cSt s:=rfl
theorem sub_C_s:sub 0 3 (cC c) = cT c.start:=rfl
theorem cC_3:(cC c)[3]? = some (encSts c.steps):=rfl
theorem sub_C_a:sub 0 4 (cC c) = cC c:=rfl
theorem cEd_0:(cEd e)[0]? = some (.int .i64 e.src):=rfl
theorem cEd_1:(cEd e)[1]? = some (.int .i64 e.dst):=rfl
theorem sub_Ed_s:sub 2 2 (cEd e) = cSt e.step:=rfl
theorem sub_Ed_a:sub 0 4 (cEd e) = cEd e:=rfl
theorem cG_0:(cG g)[0]? = some (encTs g.terms):=rfl
theorem cG_1:(cG g)[1]? = some (encEds g.edges):=rfl
theorem cG_2:(cG g)[2]? = some (.bool g.whole):=rfl
theorem sub_G_a:sub 0 3 (cG g) = cG g:=rfl
theorem sub_L_c:sub 0 4 (cL l) = cC l.chain:=rfl
theorem sub_L_s:sub 0 3 (cL l) = cT l.chain.start:=rfl
theorem cL_3:(cL l)[3]? = some (encSts l.chain.steps):=rfl
theorem cL_4:(cL l)[4]? = some (encP l.pos):=rfl
theorem cL_5:(cL l)[5]? = some (encBs l.subst):=rfl
theorem sub_L_a:sub 0 6 (cL l) = cL l:=rfl
theorem fdB0:fdV 0 none (encB b) = some (.str b.name):=rfl
theorem fdB1:fdV 1 (some 3) (encB b) = some (encT b.term):=rfl
end
attribute [push_cast] cU8_fold cU8_0 cS_0 cI_0 cU8_len cS_len cI_len cR_len cB_len cSt_len cC_len cEd_len cG_len cL_len sto_encR sto_encB sto_encSt sto_encC sto_encEd sto_encG sto_encLo rens_cR rens_cB rens_cSt rens_cC rens_cEd rens_cG rens_cL ren_encR ren_encB ren_encSt ren_encC ren_encEd ren_encG ren_encLo encR_fold encB_fold encSt_fold encC_fold encEd_fold encG_fold encLo_fold sub_R_l sub_R_r sub_R_a cB_0 sub_B_t sub_B_a cSt_0 cSt_1 sub_St_a sub_C_s cC_3 sub_C_a cEd_0 cEd_1 sub_Ed_s sub_Ed_a cG_0 cG_1 cG_2 sub_G_a sub_L_c sub_L_s cL_3 cL_4 cL_5 sub_L_a fdB0 fdB1
def idxI {α:Type} (p:α→Bool):List α→Int
 | []=>-1
 | a :: l=>if p a then 0 else if idxI p l < 0 then -1 else idxI p l+1
theorem idxI_cases {α:Type} (p:α→Bool):∀ l:List α,(idxI p l = -1∧l.any p = false) ∨ (0≤idxI p l∧idxI p l < l.length∧l.any p = true)
 | []=>.inl ⟨rfl,rfl⟩
 | a :: l=>by
  simp only [idxI,List.any_cons,List.length_cons]
  cases hp:p a with
  | true=>right;simp
  | false =>
   rcases idxI_cases p l with ⟨h1,h2⟩ | ⟨h1,h2,h3⟩
   ·left;simp [h1,h2]
   ·right;simp only [Bool.false_eq_true,if_false,h3];rw [if_neg (by omega)];simp;omega
theorem idxI_any {α:Type} (p:α→Bool) (l:List α):decide (0≤idxI p l) = l.any p:=by
 rcases idxI_cases p l with ⟨h1,h2⟩ | ⟨h1,h2,h3⟩
 ·rw [h1,h2];rfl
 ·rw [h3];simp [h1]
theorem idxI_some {α:Type} [Inhabited α] {p:α→Bool}:∀ {l:List α} {k:Nat},k < l.length→p (l.getD k default) = true→(∀ j,j < k→p (l.getD j default) = false)→idxI p l = k
 | [],k,hk,_,_=>by simp at hk
 | a :: l,0,hk,hp,_=>by simp only [idxI];rw [if_pos (by simpa using hp)];rfl
 | a :: l,k+1,hk,hp,hq=>by
  have h0:p a = false:=hq 0 (by omega)
  have:=idxI_some (l:=l) (k:=k) (by simpa using hk) (by simpa using hp) fun j hj=>by have:=hq (j+1) (by omega);simpa using this
  simp only [idxI,h0,Bool.false_eq_true,if_false,this]
  rw [if_neg (by omega)];omega
theorem idxI_none {α:Type} [Inhabited α] {p:α→Bool}:∀ {l:List α},(∀ j,j < l.length→p (l.getD j default) = false)→idxI p l = -1
 | [],_=>rfl
 | a :: l,hq=>by
  have h0:p a = false:=hq 0 (by simp)
  have:=idxI_none (l:=l) fun j hj=>by have:=hq (j+1) (by simpa using hj);simpa using this
  simp [idxI,h0,this]
end Go.Dw
end
section
namespace Go.Dw
variable {s:List K} {B:Nat} {t:T} {H:List Ob} {Q:X→T→List Ob→Prop}
namespace l18_ResidualTriangle
def nd:Nat→C
 | 0=>.seq (.reg [.mv 62 (.s 0),.la 63 4 (.s 8),.callp (some 64) n_l18_ends [.s 62,.s 63],.mv 61 (.s 64),.ex 65 (.s 61) 0,.ex 66 (.s 61) 1,.ex 67 (.s 61) 2,.al 14 t_Term [.str [],.bool false,.sl 3 []],.al 15 t_Term [.str [],.bool false,.sl 3 []],.sf 14 3 (.s 65),.sf 15 3 (.s 66),.mv 16 (.s 67)]) (.seq (.reg [.mv 69 (.s 0),.la 70 4 (.s 10),.callp (some 71) n_l18_ends [.s 69,.s 70],.mv 68 (.s 71),.ex 72 (.s 68) 0,.ex 73 (.s 68) 1,.ex 74 (.s 68) 2,.al 17 t_Term [.str [],.bool false,.sl 3 []],.al 18 t_Term [.str [],.bool false,.sl 3 []],.sf 17 3 (.s 72),.sf 18 3 (.s 73),.mv 19 (.s 74)]) (.seq (.reg [.la 75 4 (.s 12),.callp (some 76) n_r17_Count [.s 75],.bin 77 .eql (.s 76) (.i 0),.mv 78 (.s 77),.gd (.s 78) true [79,80,81] [.mv 79 (.s 19),.un 80 .not (.s 79),.mv 81 (.s 80)],.gd (.s 81) false [82,83,84] [.la 82 3 (.s 17),.la 83 3 (.s 6),.callp (some 84) n_r01_Equal [.s 82,.s 83]],.gd (.s 78) true [85] [.pick 85 (.s 81) (.c (.bool true)) (.s 84)],.pick 86 (.s 78) (.s 85) (.c (.bool false)),.mv 87 (.s 86),.gd (.s 87) true [88,89,90] [.mv 88 (.s 16),.un 89 .not (.s 88),.mv 90 (.s 89)],.gd (.s 90) false [91,92] [.mv 91 (.s 19),.un 92 .not (.s 91)],.gd (.s 87) true [93,94] [.pick 93 (.s 90) (.c (.bool true)) (.s 92),.mv 94 (.s 93)],.gd (.s 94) false [95,96,97] [.la 95 3 (.s 18),.la 96 3 (.s 15),.callp (some 97) n_r01_Equal [.s 95,.s 96]],.gd (.s 87) true [98] [.pick 98 (.s 94) (.c (.bool true)) (.s 97)],.pick 99 (.s 87) (.s 98) (.c (.bool false)),.mv 100 (.s 99),.gd (.s 100) true [101] [.callp (some 101) n_l18_alive []],.pick 102 (.s 100) (.s 101) (.c (.bool false)),.mv 4 (.s 102)]) (.ret)))
 | 1=>.seq (.reg [.mv 41 (.s 0),.la 42 4 (.s 8),.la 43 4 (.s 3),.callp (some 44) n_residual_Residual [.s 41,.s 42,.s 43],.mv 40 (.s 44),.ex 45 (.s 40) 0,.ex 46 (.s 40) 1,.al 10 t_Multi [.int .i64 0,.str [],.bool false,.sl 4 []],.sf 10 4 (.s 45),.mv 11 (.s 46)]) (.seq (.reg [.mv 48 (.s 0),.la 49 4 (.s 3),.la 50 4 (.s 8),.callp (some 51) n_residual_Residual [.s 48,.s 49,.s 50],.mv 47 (.s 51),.ex 52 (.s 47) 0,.ex 53 (.s 47) 1,.al 12 t_Multi [.int .i64 0,.str [],.bool false,.sl 4 []],.sf 12 4 (.s 52),.mv 13 (.s 53)]) (.seq (.seq (.reg [.mv 54 (.s 11),.bin 55 .neq (.s 54) (.i 0),.mv 56 (.s 55),.gd (.s 56) false [57,58] [.mv 57 (.s 13),.bin 58 .neq (.s 57) (.i 0)],.pick 59 (.s 56) (.c (.bool true)) (.s 58)]) (.cond (.s 59) (.seq (.reg [.callp (some 60) n_l18_alive [],.mv 4 (.s 60)]) (.ret)) (.skip))) (.n 0)))
 | _=>.skip
def body:C:=.seq (.reg [.br 3 t_Multi (.s 1),.mv 4 (.c (.bool false))]) (.seq (.reg [.mv 21 (.s 0),.la 22 4 (.s 3),.callp (some 23) n_l18_ends [.s 21,.s 22],.mv 20 (.s 23),.ex 24 (.s 20) 0,.ex 25 (.s 20) 1,.ex 26 (.s 20) 2,.al 5 t_Term [.str [],.bool false,.sl 3 []],.al 6 t_Term [.str [],.bool false,.sl 3 []],.sf 5 3 (.s 24),.sf 6 3 (.s 25),.mv 7 (.s 26)]) (.seq (.reg [.mv 28 (.s 0),.la 29 3 (.s 5),.callp (some 30) n_residual_Full [.s 28,.s 29],.mv 27 (.s 30),.ex 31 (.s 27) 0,.ex 32 (.s 27) 1,.al 8 t_Multi [.int .i64 0,.str [],.bool false,.sl 4 []],.sf 8 4 (.s 31),.mv 9 (.s 32)]) (.seq (.seq (.reg [.mv 33 (.s 7),.un 34 .not (.s 33),.mv 35 (.s 34),.gd (.s 35) false [36,37] [.mv 36 (.s 9),.bin 37 .neq (.s 36) (.i 0)],.pick 38 (.s 35) (.c (.bool true)) (.s 37)]) (.cond (.s 38) (.seq (.reg [.callp (some 39) n_l18_alive [],.mv 4 (.s 39)]) (.ret)) (.skip))) (.n 1))))
def rs:List RV:=[.t 4]
attribute [push_cast] nd body
theorem ok:okF prog n_l18_ResidualTriangle nd body 2 rs = true:=by kernel_rfl
end l18_ResidualTriangle
namespace residual_Residual
def nd:Nat→C
 | 0=>.seq (.reg [.mv 17 (.s 0),.la 18 4 (.s 4),.la 19 4 (.s 5),.callp (some 20) n_residual_rest [.s 17,.s 18,.s 19],.callp (some 21) n_multi_Fit [.s 20],.ex 22 (.s 21) 0,.ex 23 (.s 21) 1,.st 4 (.s 6) (.s 22),.mv 7 (.s 23)]) (.ret)
 | _=>.skip
def body:C:=.seq (.reg [.br 4 t_Multi (.s 1),.br 5 t_Multi (.s 2),.al 6 t_Multi [.int .i64 0,.str [],.bool false,.sl 4 []],.mv 7 (.i 0)]) (.seq (.seq (.reg [.mv 9 (.s 0),.la 10 4 (.s 4),.la 11 4 (.s 5),.callp (some 12) n_residual_both [.s 9,.s 10,.s 11],.mv 8 (.s 12)]) (.seq (.reg [.mv 13 (.s 8),.bin 14 .neq (.s 13) (.i 0)]) (.cond (.s 14) (.seq (.reg [.bd 15 [.int .i64 0,.str [],.bool false,.sl 4 []] [],.mv 16 (.s 8),.st 4 (.s 6) (.s 15),.mv 7 (.s 16)]) (.ret)) (.skip)))) (.n 0))
def rs:List RV:=[.a 6 4,.t 7]
attribute [push_cast] nd body
theorem ok:okF prog n_residual_Residual nd body 3 rs = true:=by kernel_rfl
end residual_Residual
namespace l18_alive
def nd (_:Nat):C:=.skip
def body:C:=.seq (.reg [.mv 0 (.c (.bool false))]) (.seq (.reg [.bd 7 [.int .i64 0,.str [],.bool false,.sl 4 []] [(1,1,(.c (.str [97])))],.bs 8 4 [.s 7],.bd 9 [.int .i64 0,.str [],.bool false,.sl 4 []] [(0,1,(.i 1)),(3,1,(.s 8))],.al 1 t_Multi [.int .i64 0,.str [],.bool false,.sl 4 []],.sf 1 4 (.s 9)]) (.seq (.reg [.bd 10 [.int .i64 0,.str [],.bool false,.sl 4 []] [(0,1,(.i 2))],.bs 11 4 [.s 10],.bd 12 [.int .i64 0,.str [],.bool false,.sl 4 []] [(1,1,(.c (.str [102]))),(3,1,(.s 11))],.al 2 t_Multi [.int .i64 0,.str [],.bool false,.sl 4 []],.sf 2 4 (.s 12)]) (.seq (.dr [0,1,2,3,4,5,6,7,8,9] [.callp (some 14) n_l18_system [],.la 15 4 (.s 1),.la 16 4 (.s 2),.callp (some 17) n_residual_Residual [.s 14,.s 15,.s 16],.mv 13 (.s 17),.ex 18 (.s 13) 0,.ex 19 (.s 13) 1,.al 3 t_Multi [.int .i64 0,.str [],.bool false,.sl 4 []],.sf 3 4 (.s 18),.mv 4 (.s 19)]) (.seq (.dr [0,1,2,3,4,5,6,7,8,9] [.callp (some 21) n_l18_system [],.la 22 4 (.s 2),.la 23 4 (.s 1),.callp (some 24) n_residual_Residual [.s 21,.s 22,.s 23],.mv 20 (.s 24),.ex 25 (.s 20) 0,.ex 26 (.s 20) 1,.al 5 t_Multi [.int .i64 0,.str [],.bool false,.sl 4 []],.sf 5 4 (.s 25),.mv 6 (.s 26)]) (.seq (.reg [.mv 27 (.s 4),.bin 28 .eql (.s 27) (.i 0),.mv 29 (.s 28),.gd (.s 29) true [30,31] [.mv 30 (.s 6),.bin 31 .eql (.s 30) (.i 0)],.pick 32 (.s 29) (.s 31) (.c (.bool false)),.mv 33 (.s 32),.gd (.s 33) true [34,35,36,37,38] [.la 34 4 (.s 3),.bd 35 [.int .i64 0,.str [],.bool false,.sl 4 []] [(1,1,(.c (.str [98])))],.bs 36 4 [.s 35],.bd 37 [.int .i64 0,.str [],.bool false,.sl 4 []] [(0,1,(.i 1)),(3,1,(.s 36))],.callp (some 38) n_r17_Same [.s 34,.s 37]],.pick 39 (.s 33) (.s 38) (.c (.bool false)),.mv 40 (.s 39),.gd (.s 40) true [41,42,43,44,45,46] [.la 41 4 (.s 5),.bd 42 [.int .i64 0,.str [],.bool false,.sl 4 []] [(0,1,(.i 2))],.bd 43 [.int .i64 0,.str [],.bool false,.sl 4 []] [(0,1,(.i 2))],.bs 44 4 [.s 42,.s 43],.bd 45 [.int .i64 0,.str [],.bool false,.sl 4 []] [(1,1,(.c (.str [103]))),(3,1,(.s 44))],.callp (some 46) n_r17_Same [.s 41,.s 45]],.pick 47 (.s 40) (.s 46) (.c (.bool false)),.mv 0 (.s 47)]) (.ret))))))
def rs:List RV:=[.t 0]
attribute [push_cast] nd body
theorem ok:okF prog n_l18_alive nd body 0 rs = true:=by kernel_rfl
end l18_alive
namespace r17_Same
def nd:Nat→C
 | 0=>.seq (.reg [.mv 4 (.c (.bool true))]) (.ret)
 | 1=>.gh [.ks 0 [2,3,36,37]] (.m 3)
 | 2=>.seq (.blk 1 (.seq (.reg [.mv 39 (.s 37),.mv 5 (.s 39)]) (.seq (.dr [0,1,2,3,4,5,6,7,8,9,10,11] [.fa 40 3 (.s 2),.ld 41 (.s 40),.mv 42 (.s 5),.ia 43 4 (.s 41) (.s 42),.la 44 4 (.s 43),.fa 45 3 (.s 3),.ld 46 (.s 45),.mv 47 (.s 5),.ia 48 4 (.s 46) (.s 47),.la 49 4 (.s 48),.callp (some 50) n_r17_Same [.s 44,.s 49],.un 51 .not (.s 50)]) (.cond (.s 51) (.seq (.reg [.mv 4 (.c (.bool false))]) (.ret)) (.skip))))) (.reg [.bin 52 .add (.s 37) (.i 1),.mv 37 (.s 52)])
 | 3=>.seq (.reg [.bin 38 .lss (.s 37) (.s 36)]) (.seq (.cond (.s 38) (.skip) (.exit 0)) (.n 2))
 | 4=>.seq (.seq (.reg [.fa 34 3 (.s 2),.ld 35 (.s 34),.len 36 (.s 35),.mv 37 (.i 0)]) (.blk 0 (.loop (.n 1)))) (.n 0)
 | _=>.skip
def body:C:=.seq (.reg [.br 2 t_Multi (.s 0),.br 3 t_Multi (.s 1),.mv 4 (.c (.bool false))]) (.seq (.seq (.reg [.fa 6 0 (.s 2),.ld 7 (.s 6),.fa 8 0 (.s 3),.ld 9 (.s 8),.bin 10 .neq (.s 7) (.s 9),.mv 11 (.s 10),.gd (.s 11) false [12,13,14,15,16] [.fa 12 1 (.s 2),.ld 13 (.s 12),.fa 14 1 (.s 3),.ld 15 (.s 14),.bin 16 .neq (.s 13) (.s 15)],.pick 17 (.s 11) (.c (.bool true)) (.s 16),.mv 18 (.s 17),.gd (.s 18) false [19,20,21,22,23] [.fa 19 2 (.s 2),.ld 20 (.s 19),.fa 21 2 (.s 3),.ld 22 (.s 21),.bb 23 .neq (.s 20) (.s 22)],.pick 24 (.s 18) (.c (.bool true)) (.s 23),.mv 25 (.s 24),.gd (.s 25) false [26,27,28,29,30,31,32] [.fa 26 3 (.s 2),.ld 27 (.s 26),.len 28 (.s 27),.fa 29 3 (.s 3),.ld 30 (.s 29),.len 31 (.s 30),.bin 32 .neq (.s 28) (.s 31)],.pick 33 (.s 25) (.c (.bool true)) (.s 32)]) (.cond (.s 33) (.seq (.reg [.mv 4 (.c (.bool false))]) (.ret)) (.skip))) (.n 4))
def rs:List RV:=[.t 4]
attribute [push_cast] nd body
theorem ok:okF prog n_r17_Same nd body 2 rs = true:=by kernel_rfl
abbrev L3 (v2 v3 v36 v37:V) (B:Nat) (H:List Ob) (Q:X→T→List Ob→Prop):Prop:=Run prog nd B [.c (.m 3),.c (.loop (.n 1)),.mk 0,.c (.n 0)] [(2,v2),(3,v3),(36,v36),(37,v37)] H Q
theorem G3 (h:Run prog nd B (.c (nd 3) :: s) t H Q):Run prog nd B (.c (.m 3) :: s) t H Q:=run_m.2 h
end r17_Same
namespace l18_ends
def nd (_:Nat):C:=.skip
def body:C:=.seq (.reg [.br 3 t_Multi (.s 1),.al 4 t_Term [.str [],.bool false,.sl 3 []],.al 5 t_Term [.str [],.bool false,.sl 3 []],.mv 6 (.c (.bool false))]) (.seq (.reg [.mv 12 (.s 0),.la 13 4 (.s 3),.callp (some 14) n_multi_Source [.s 12,.s 13],.mv 11 (.s 14),.ex 15 (.s 11) 0,.ex 16 (.s 11) 1,.al 7 t_Term [.str [],.bool false,.sl 3 []],.sf 7 3 (.s 15),.mv 8 (.s 16)]) (.seq (.reg [.mv 18 (.s 0),.la 19 4 (.s 3),.callp (some 20) n_multi_Target [.s 18,.s 19],.mv 17 (.s 20),.ex 21 (.s 17) 0,.ex 22 (.s 17) 1,.al 9 t_Term [.str [],.bool false,.sl 3 []],.sf 9 3 (.s 21),.mv 10 (.s 22)]) (.seq (.dr [0,1,2,3,4,5,6,7,8,9,10] [.lar 23 3 (.s 7),.lar 24 3 (.s 9),.mv 25 (.s 8),.bin 26 .eql (.s 25) (.i 0),.mv 27 (.s 26),.gd (.s 27) true [28] [.mv 28 (.s 10)],.gd (.s 27) true [29] [.bin 29 .eql (.s 28) (.i 0)],.pick 30 (.s 27) (.s 29) (.c (.bool false)),.st 3 (.s 4) (.s 23),.st 3 (.s 5) (.s 24),.mv 6 (.s 30)]) (.ret))))
def rs:List RV:=[.a 4 3,.a 5 3,.t 6]
attribute [push_cast] nd body
theorem ok:okF prog n_l18_ends nd body 2 rs = true:=by kernel_rfl
end l18_ends
namespace r01_Equal
def nd (_:Nat):C:=.skip
def body:C:=.seq (.reg [.br 2 t_Term (.s 0),.br 3 t_Term (.s 1),.mv 4 (.c (.bool false))]) (.seq (.reg [.la 5 3 (.s 2),.la 6 3 (.s 3),.callp (some 7) n_r01_Compare [.s 5,.s 6],.bin 8 .eql (.s 7) (.i 0),.mv 4 (.s 8)]) (.ret))
def rs:List RV:=[.t 4]
attribute [push_cast] nd body
theorem ok:okF prog n_r01_Equal nd body 2 rs = true:=by kernel_rfl
end r01_Equal
namespace residual_Full
def nd:Nat→C
 | 0=>.seq (.reg [.mv 28 (.s 0),.la 29 3 (.s 3),.mv 30 (.s 8),.callp (some 31) n_multi_Bare [.s 28,.s 29,.s 30],.ex 32 (.s 31) 0,.ex 33 (.s 31) 1,.st 4 (.s 4) (.s 32),.mv 5 (.s 33)]) (.ret)
 | 1=>.seq (.reg [.mv 21 (.s 0),.la 22 3 (.s 3),.callp (some 23) n_rewrite_All [.s 21,.s 22],.mv 8 (.s 23)]) (.seq (.seq (.reg [.mv 24 (.s 8),.len 25 (.s 24),.bin 26 .gtr (.s 25) (.i 4096)]) (.cond (.s 26) (.seq (.reg [.bd 27 [.int .i64 0,.str [],.bool false,.sl 4 []] [],.st 4 (.s 4) (.s 27),.mv 5 (.i 3)]) (.ret)) (.skip))) (.n 0))
 | 2=>.seq (.seq (.reg [.la 15 3 (.s 3),.callp (some 16) n_term_Check [.s 15],.mv 7 (.s 16)]) (.seq (.reg [.mv 17 (.s 7),.bin 18 .neq (.s 17) (.i 0)]) (.cond (.s 18) (.seq (.reg [.bd 19 [.int .i64 0,.str [],.bool false,.sl 4 []] [],.mv 20 (.s 7),.st 4 (.s 4) (.s 19),.mv 5 (.s 20)]) (.ret)) (.skip)))) (.n 1)
 | _=>.skip
def body:C:=.seq (.reg [.br 3 t_Term (.s 1),.al 4 t_Multi [.int .i64 0,.str [],.bool false,.sl 4 []],.mv 5 (.i 0)]) (.seq (.seq (.reg [.mv 9 (.s 0),.callp (some 10) n_residual_ready [.s 9],.mv 6 (.s 10)]) (.seq (.reg [.mv 11 (.s 6),.bin 12 .neq (.s 11) (.i 0)]) (.cond (.s 12) (.seq (.reg [.bd 13 [.int .i64 0,.str [],.bool false,.sl 4 []] [],.mv 14 (.s 6),.st 4 (.s 4) (.s 13),.mv 5 (.s 14)]) (.ret)) (.skip)))) (.n 2))
def rs:List RV:=[.a 4 4,.t 5]
attribute [push_cast] nd body
theorem ok:okF prog n_residual_Full nd body 2 rs = true:=by kernel_rfl
end residual_Full
namespace r17_Count
def nd:Nat→C
 | 0=>.seq (.reg [.mv 21 (.s 3),.mv 2 (.s 21)]) (.ret)
 | 1=>.gh [.ks 0 [3,10,11,12]] (.m 3)
 | 2=>.seq (.blk 1 (.seq (.reg [.ia 14 4 (.s 10) (.s 12),.la 15 4 (.s 14),.al 5 t_Multi [.int .i64 0,.str [],.bool false,.sl 4 []],.sf 5 4 (.s 15)]) (.reg [.mv 16 (.s 3),.la 17 4 (.s 5),.callp (some 18) n_r17_Count [.s 17],.bin 19 .add (.s 16) (.s 18),.mv 3 (.s 19)]))) (.reg [.bin 20 .add (.s 12) (.i 1),.mv 12 (.s 20)])
 | 3=>.seq (.reg [.bin 13 .lss (.s 12) (.s 11)]) (.seq (.cond (.s 13) (.skip) (.exit 0)) (.n 2))
 | 4=>.seq (.seq (.reg [.fa 9 3 (.s 1),.ld 10 (.s 9),.len 11 (.s 10),.mv 12 (.i 0)]) (.blk 0 (.loop (.n 1)))) (.n 0)
 | _=>.skip
def body:C:=.seq (.reg [.br 1 t_Multi (.s 0),.mv 2 (.i 0)]) (.seq (.reg [.mv 3 (.i 0)]) (.seq (.seq (.reg [.fa 6 0 (.s 1),.ld 7 (.s 6),.bin 8 .neq (.s 7) (.i 0)]) (.cond (.s 8) (.reg [.mv 3 (.i 1)]) (.skip))) (.n 4)))
def rs:List RV:=[.t 2]
attribute [push_cast] nd body
theorem ok:okF prog n_r17_Count nd body 1 rs = true:=by kernel_rfl
abbrev L3 (v3 v10 v11 v12:V) (B:Nat) (H:List Ob) (Q:X→T→List Ob→Prop):Prop:=Run prog nd B [.c (.m 3),.c (.loop (.n 1)),.mk 0,.c (.n 0)] [(3,v3),(10,v10),(11,v11),(12,v12)] H Q
theorem G3 (h:Run prog nd B (.c (nd 3) :: s) t H Q):Run prog nd B (.c (.m 3) :: s) t H Q:=run_m.2 h
end r17_Count
namespace residual_both
def nd:Nat→C
 | 0=>.seq (.reg [.mv 43 (.s 10),.mv 6 (.s 43)]) (.ret)
 | 1=>.seq (.reg [.mv 29 (.s 0),.la 30 4 (.s 5),.callp (some 31) n_residual_ends [.s 29,.s 30],.mv 28 (.s 31),.ex 32 (.s 28) 0,.ex 33 (.s 28) 1,.ex 34 (.s 28) 2,.al 11 t_Term [.str [],.bool false,.sl 3 []],.al 12 t_Term [.str [],.bool false,.sl 3 []],.sf 11 3 (.s 32),.sf 12 3 (.s 33),.mv 10 (.s 34)]) (.seq (.seq (.reg [.mv 35 (.s 10),.bin 36 .eql (.s 35) (.i 0),.mv 37 (.s 36),.gd (.s 37) true [38,39,40,41] [.la 38 3 (.s 8),.la 39 3 (.s 11),.callp (some 40) n_term_Equal [.s 38,.s 39],.un 41 .not (.s 40)],.pick 42 (.s 37) (.s 41) (.c (.bool false))]) (.cond (.s 42) (.seq (.reg [.mv 6 (.i 9)]) (.ret)) (.skip))) (.n 0))
 | 2=>.seq (.reg [.mv 19 (.s 0),.la 20 4 (.s 4),.callp (some 21) n_residual_ends [.s 19,.s 20],.mv 18 (.s 21),.ex 22 (.s 18) 0,.ex 23 (.s 18) 1,.ex 24 (.s 18) 2,.al 8 t_Term [.str [],.bool false,.sl 3 []],.al 9 t_Term [.str [],.bool false,.sl 3 []],.sf 8 3 (.s 22),.sf 9 3 (.s 23),.mv 10 (.s 24)]) (.seq (.seq (.reg [.mv 25 (.s 10),.bin 26 .neq (.s 25) (.i 0)]) (.cond (.s 26) (.seq (.reg [.mv 27 (.s 10),.mv 6 (.s 27)]) (.ret)) (.skip))) (.n 1))
 | _=>.skip
def body:C:=.seq (.reg [.br 4 t_Multi (.s 1),.br 5 t_Multi (.s 2),.mv 6 (.i 0)]) (.seq (.seq (.reg [.mv 13 (.s 0),.callp (some 14) n_residual_ready [.s 13],.mv 7 (.s 14)]) (.seq (.reg [.mv 15 (.s 7),.bin 16 .neq (.s 15) (.i 0)]) (.cond (.s 16) (.seq (.reg [.mv 17 (.s 7),.mv 6 (.s 17)]) (.ret)) (.skip)))) (.n 2))
def rs:List RV:=[.t 6]
attribute [push_cast] nd body
theorem ok:okF prog n_residual_both nd body 3 rs = true:=by kernel_rfl
end residual_both
namespace multi_Fit
def nd:Nat→C
 | 0=>.seq (.reg [.la 13 4 (.s 1),.callp (some 14) n_multi_own [.s 13],.st 4 (.s 2) (.s 14),.mv 3 (.i 0)]) (.ret)
 | _=>.skip
def body:C:=.seq (.reg [.br 1 t_Multi (.s 0),.al 2 t_Multi [.int .i64 0,.str [],.bool false,.sl 4 []],.mv 3 (.i 0)]) (.seq (.seq (.reg [.la 4 4 (.s 1),.callp (some 5) n_multi_size [.s 4],.bin 6 .gtr (.s 5) (.i 4000),.mv 7 (.s 6),.gd (.s 7) false [8,9,10] [.la 8 4 (.s 1),.callp (some 9) n_multi_depth [.s 8],.bin 10 .gtr (.s 9) (.i 200)],.pick 11 (.s 7) (.c (.bool true)) (.s 10)]) (.cond (.s 11) (.seq (.reg [.bd 12 [.int .i64 0,.str [],.bool false,.sl 4 []] [],.st 4 (.s 2) (.s 12),.mv 3 (.i 3)]) (.ret)) (.skip))) (.n 0))
def rs:List RV:=[.a 2 4,.t 3]
attribute [push_cast] nd body
theorem ok:okF prog n_multi_Fit nd body 1 rs = true:=by kernel_rfl
end multi_Fit
namespace residual_rest
def nd:Nat→C
 | 0=>.seq (.dr [0,1,2,3,4,5,6,7,8,9,10,11,12,13,14,15,16] [.ld 39 (.s 3),.mv 40 (.s 7),.bin 41 .sub (.s 40) (.i 1),.ia 42 6 (.s 39) (.s 41),.fa 43 3 (.s 42),.la 44 3 (.s 43),.ld 45 (.s 3),.mv 46 (.s 7),.bin 47 .sub (.s 46) (.i 1),.ia 48 6 (.s 45) (.s 47),.fa 49 0 (.s 48),.la 50 3 (.s 49),.bs 51 3 [.s 50],.callp (some 52) n_term_VarsOf [.s 51],.mv 53 (.s 10),.callp (some 54) n_multi_Plug [.s 44,.s 52,.s 53],.st 4 (.s 6) (.s 54)]) (.ret)
 | _=>.skip
def body:C:=.seq (.reg [.br 3 t_s_Rule (.s 0),.br 4 t_Multi (.s 1),.br 5 t_Multi (.s 2),.al 6 t_Multi [.int .i64 0,.str [],.bool false,.sl 4 []]]) (.seq (.reg [.ld 12 (.s 3),.la 13 4 (.s 4),.la 14 4 (.s 5),.callp (some 15) n_residual_split [.s 12,.s 13,.s 14],.mv 11 (.s 15),.ex 16 (.s 11) 0,.ex 17 (.s 11) 1,.ex 18 (.s 11) 2,.mv 7 (.s 16),.mv 8 (.s 17),.mv 9 (.s 18)]) (.seq (.reg [.mv 19 (.s 8),.mv 20 (.s 9),.mf 21 n_residual_rest_1 [] [.s 3],.callp (some 22) n_residual_zip [.s 19,.s 20,.s 21],.mv 10 (.s 22)]) (.seq (.blk 0 (.seq (.reg [.mv 24 (.s 7),.bin 25 .eql (.s 24) (.i 0),.mv 23 (.s 25)]) (.cond (.s 23) (.seq (.reg [.fa 26 1 (.s 4),.ld 27 (.s 26),.fa 28 2 (.s 4),.ld 29 (.s 28),.mv 30 (.s 10),.bd 31 [.int .i64 0,.str [],.bool false,.sl 4 []] [(1,1,(.s 27)),(2,1,(.s 29)),(3,1,(.s 30))],.st 4 (.s 6) (.s 31)]) (.ret)) (.seq (.reg [.fa 33 0 (.s 5),.ld 34 (.s 33),.bin 35 .eql (.s 34) (.i 0),.mv 32 (.s 35)]) (.cond (.s 32) (.seq (.reg [.mv 36 (.s 7),.mv 37 (.s 10),.bd 38 [.int .i64 0,.str [],.bool false,.sl 4 []] [(0,1,(.s 36)),(3,1,(.s 37))],.st 4 (.s 6) (.s 38)]) (.ret)) (.skip)))))) (.n 0))))
def rs:List RV:=[.a 6 4]
attribute [push_cast] nd body
theorem ok:okF prog n_residual_rest nd body 3 rs = true:=by kernel_rfl
end residual_rest
namespace l18_system
def nd (_:Nat):C:=.skip
def body:C:=.seq (.reg [.mv 0 (.c (.sl 6 []))]) (.seq (.reg [.bd 2 [.str [],.bool false,.sl 3 []] [(0,1,(.c (.str [120]))),(1,1,(.c (.bool true)))],.al 1 t_Term [.str [],.bool false,.sl 3 []],.sf 1 3 (.s 2)]) (.seq (.reg [.la 3 3 (.s 1),.bs 4 3 [.s 3],.bd 5 [.str [],.bool false,.sl 3 []] [(0,1,(.c (.str [102]))),(2,1,(.s 4))],.la 6 3 (.s 1),.la 7 3 (.s 1),.bs 8 3 [.s 6,.s 7],.bd 9 [.str [],.bool false,.sl 3 []] [(0,1,(.c (.str [103]))),(2,1,(.s 8))],.bd 10 [.str [],.bool false,.sl 3 [],.str [],.bool false,.sl 3 []] [(0,3,(.s 5)),(3,3,(.s 9))],.bd 11 [.str [],.bool false,.sl 3 []] [(0,1,(.c (.str [97])))],.bd 12 [.str [],.bool false,.sl 3 []] [(0,1,(.c (.str [98])))],.bd 13 [.str [],.bool false,.sl 3 [],.str [],.bool false,.sl 3 []] [(0,3,(.s 11)),(3,3,(.s 12))],.bs 14 6 [.s 10,.s 13],.mv 0 (.s 14)]) (.ret)))
def rs:List RV:=[.t 0]
attribute [push_cast] nd body
theorem ok:okF prog n_l18_system nd body 0 rs = true:=by kernel_rfl
end l18_system
namespace multi_Source
def nd (_:Nat):C:=.skip
def body:C:=.seq (.reg [.br 3 t_Multi (.s 1),.al 4 t_Term [.str [],.bool false,.sl 3 []],.mv 5 (.i 0)]) (.seq (.reg [.mv 6 (.s 0),.la 7 4 (.s 3),.callp (some 8) n_multi_end [.s 6,.s 7,(.f n_multi_Source_1)],.ex 9 (.s 8) 0,.ex 10 (.s 8) 1,.st 3 (.s 4) (.s 9),.mv 5 (.s 10)]) (.ret))
def rs:List RV:=[.a 4 3,.t 5]
attribute [push_cast] nd body
theorem ok:okF prog n_multi_Source nd body 2 rs = true:=by kernel_rfl
end multi_Source
namespace multi_Target
def nd (_:Nat):C:=.skip
def body:C:=.seq (.reg [.br 3 t_Multi (.s 1),.al 4 t_Term [.str [],.bool false,.sl 3 []],.mv 5 (.i 0)]) (.seq (.reg [.mv 6 (.s 0),.la 7 4 (.s 3),.callp (some 8) n_multi_end [.s 6,.s 7,(.f n_multi_Target_1)],.ex 9 (.s 8) 0,.ex 10 (.s 8) 1,.st 3 (.s 4) (.s 9),.mv 5 (.s 10)]) (.ret))
def rs:List RV:=[.a 4 3,.t 5]
attribute [push_cast] nd body
theorem ok:okF prog n_multi_Target nd body 2 rs = true:=by kernel_rfl
end multi_Target
namespace r01_Compare
def nd:Nat→C
 | 0=>.seq (.reg [.mv 4 (.i 0)]) (.ret)
 | 1=>.gh [.ks 0 [2,3,36,37]] (.m 3)
 | 2=>.seq (.blk 1 (.seq (.reg [.mv 39 (.s 37),.mv 7 (.s 39)]) (.seq (.dr [0,1,2,3,4,5,6,7,8,9,10,11] [.fa 40 2 (.s 2),.ld 41 (.s 40),.mv 42 (.s 7),.ia 43 3 (.s 41) (.s 42),.la 44 3 (.s 43),.fa 45 2 (.s 3),.ld 46 (.s 45),.mv 47 (.s 7),.ia 48 3 (.s 46) (.s 47),.la 49 3 (.s 48),.callp (some 50) n_r01_Compare [.s 44,.s 49],.mv 8 (.s 50)]) (.seq (.reg [.mv 51 (.s 8),.bin 52 .neq (.s 51) (.i 0)]) (.cond (.s 52) (.seq (.reg [.mv 53 (.s 8),.mv 4 (.s 53)]) (.ret)) (.skip)))))) (.reg [.bin 54 .add (.s 37) (.i 1),.mv 37 (.s 54)])
 | 3=>.seq (.reg [.bin 38 .lss (.s 37) (.s 36)]) (.seq (.cond (.s 38) (.skip) (.exit 0)) (.n 2))
 | 4=>.seq (.seq (.reg [.fa 34 2 (.s 2),.ld 35 (.s 34),.len 36 (.s 35),.mv 37 (.i 0)]) (.blk 0 (.loop (.n 1)))) (.n 0)
 | 5=>.seq (.seq (.reg [.fa 24 2 (.s 2),.ld 25 (.s 24),.len 26 (.s 25),.fa 27 2 (.s 3),.ld 28 (.s 27),.len 29 (.s 28),.callp (some 30) n_r01_CompareInts [.s 26,.s 29],.mv 6 (.s 30)]) (.seq (.reg [.mv 31 (.s 6),.bin 32 .neq (.s 31) (.i 0)]) (.cond (.s 32) (.seq (.reg [.mv 33 (.s 6),.mv 4 (.s 33)]) (.ret)) (.skip)))) (.n 4)
 | 6=>.seq (.seq (.reg [.fa 16 0 (.s 2),.ld 17 (.s 16),.fa 18 0 (.s 3),.ld 19 (.s 18),.callp (some 20) n_r01_CompareNames [.s 17,.s 19],.mv 5 (.s 20)]) (.seq (.reg [.mv 21 (.s 5),.bin 22 .neq (.s 21) (.i 0)]) (.cond (.s 22) (.seq (.reg [.mv 23 (.s 5),.mv 4 (.s 23)]) (.ret)) (.skip)))) (.n 5)
 | 7=>.seq (.reg [.mv 4 (.i 1)]) (.ret)
 | _=>.skip
def body:C:=.seq (.reg [.br 2 t_Term (.s 0),.br 3 t_Term (.s 1),.mv 4 (.i 0)]) (.seq (.seq (.reg [.fa 9 1 (.s 2),.ld 10 (.s 9),.fa 11 1 (.s 3),.ld 12 (.s 11),.bb 13 .neq (.s 10) (.s 12)]) (.cond (.s 13) (.seq (.seq (.reg [.fa 14 1 (.s 2),.ld 15 (.s 14)]) (.cond (.s 15) (.seq (.reg [.mv 4 (.i (-1))]) (.ret)) (.skip))) (.n 7)) (.skip))) (.n 6))
def rs:List RV:=[.t 4]
attribute [push_cast] nd body
theorem ok:okF prog n_r01_Compare nd body 2 rs = true:=by kernel_rfl
abbrev L3 (v2 v3 v36 v37:V) (B:Nat) (H:List Ob) (Q:X→T→List Ob→Prop):Prop:=Run prog nd B [.c (.m 3),.c (.loop (.n 1)),.mk 0,.c (.n 0)] [(2,v2),(3,v3),(36,v36),(37,v37)] H Q
theorem G3 (h:Run prog nd B (.c (nd 3) :: s) t H Q):Run prog nd B (.c (.m 3) :: s) t H Q:=run_m.2 h
end r01_Compare
namespace residual_ready
def nd:Nat→C
 | 0=>.seq (.reg [.mv 16 (.s 4),.mv 2 (.s 16)]) (.ret)
 | _=>.skip
def body:C:=.seq (.reg [.mv 2 (.i 0)]) (.seq (.reg [.mv 6 (.s 0),.callp (some 7) n_overlap_Orthogonal [.s 6],.mv 5 (.s 7),.ex 8 (.s 5) 0,.ex 9 (.s 5) 1,.mv 3 (.s 8),.mv 4 (.s 9)]) (.seq (.seq (.reg [.mv 10 (.s 4),.bin 11 .eql (.s 10) (.i 0),.mv 12 (.s 11),.gd (.s 12) true [13,14] [.mv 13 (.s 3),.un 14 .not (.s 13)],.pick 15 (.s 12) (.s 14) (.c (.bool false))]) (.cond (.s 15) (.seq (.reg [.mv 2 (.i 2)]) (.ret)) (.skip))) (.n 0)))
def rs:List RV:=[.t 2]
attribute [push_cast] nd body
theorem ok:okF prog n_residual_ready nd body 1 rs = true:=by kernel_rfl
end residual_ready
namespace term_Equal
def nd (_:Nat):C:=.skip
def body:C:=.seq (.reg [.br 2 t_Term (.s 0),.br 3 t_Term (.s 1),.mv 4 (.c (.bool false))]) (.seq (.reg [.fa 5 0 (.s 2),.ld 6 (.s 5),.fa 7 0 (.s 3),.ld 8 (.s 7),.bin 9 .eql (.s 6) (.s 8),.mv 10 (.s 9),.gd (.s 10) true [11,12,13,14,15] [.fa 11 1 (.s 2),.ld 12 (.s 11),.fa 13 1 (.s 3),.ld 14 (.s 13),.bb 15 .eql (.s 12) (.s 14)],.pick 16 (.s 10) (.s 15) (.c (.bool false)),.mv 17 (.s 16),.gd (.s 17) true [18,19,20,21,22] [.fa 18 2 (.s 2),.ld 19 (.s 18),.fa 20 2 (.s 3),.ld 21 (.s 20),.callp (some 22) n_slices_EqualFunc_s_Term_s_Term_Term_Term [.s 19,.s 21,(.f n_term_Equal)]],.pick 23 (.s 17) (.s 22) (.c (.bool false)),.mv 4 (.s 23)]) (.ret))
def rs:List RV:=[.t 4]
attribute [push_cast] nd body
theorem ok:okF prog n_term_Equal nd body 2 rs = true:=by kernel_rfl
end term_Equal
namespace term_Check
def nd:Nat→C
 | 0=>.seq (.reg [.mv 2 (.i 0)]) (.ret)
 | _=>.skip
def body:C:=.seq (.reg [.br 1 t_Term (.s 0),.mv 2 (.i 0)]) (.seq (.blk 0 (.seq (.reg [.la 4 3 (.s 1),.callp (some 5) n_term_formed [.s 4],.un 6 .not (.s 5),.mv 3 (.s 6)]) (.cond (.s 3) (.seq (.reg [.mv 2 (.i 4)]) (.ret)) (.seq (.reg [.la 8 3 (.s 1),.callp (some 9) n_term_fits [.s 8],.un 10 .not (.s 9),.mv 7 (.s 10)]) (.cond (.s 7) (.seq (.reg [.mv 2 (.i 3)]) (.ret)) (.skip)))))) (.n 0))
def rs:List RV:=[.t 2]
attribute [push_cast] nd body
theorem ok:okF prog n_term_Check nd body 1 rs = true:=by kernel_rfl
end term_Check
namespace rewrite_All
def nd:Nat→C
 | 0=>.seq (.reg [.ld 18 (.s 5),.mv 4 (.s 18)]) (.ret)
 | 1=>.blk 1 (.dr [0,1,2,3,4,5,6] [.ld 12 (.s 5),.ld 13 (.s 2),.mv 14 (.s 6),.la 15 3 (.s 7),.callp (some 16) n_rewrite_at [.s 13,.s 14,.s 15],.app 17 t_Step 2 32 (.s 12) (.s 16),.st 1 (.s 5) (.s 17)])
 | _=>.skip
def body:C:=.seq (.reg [.br 2 t_s_Rule (.s 0),.br 3 t_Term (.s 1),.mv 4 (.c (.sl 2 []))]) (.seq (.reg [.al 5 t_s_Step [.nil],.ono t_Step 2 0 (.s 5)]) (.seq (.seq (.reg [.la 8 3 (.s 3),.callp (some 9) n_term_Walk [.s 8]]) (.blk 0 (.rf (.s 9) [10,11] (.seq (.reg [.mv 6 (.s 10)]) (.reg [.al 7 t_Term [.str [],.bool false,.sl 3 []],.sf 7 3 (.s 11)])) (.m 1)))) (.n 0)))
def rs:List RV:=[.t 4]
attribute [push_cast] nd body
theorem ok:okF prog n_rewrite_All nd body 2 rs = true:=by kernel_rfl
end rewrite_All
namespace multi_Bare
def nd:Nat→C
 | 0=>.seq (.reg [.la 40 4 (.s 11),.callp (some 41) n_multi_Fit [.s 40],.ex 42 (.s 41) 0,.ex 43 (.s 41) 1,.st 4 (.s 6) (.s 42),.mv 7 (.s 43)]) (.ret)
 | 1=>.seq (.reg [.mv 32 (.s 8),.la 33 3 (.s 4),.call (some 34) n_multi_builder_build [.s 32,.s 33,(.c (.sl 1 []))],.al 11 t_Multi [.int .i64 0,.str [],.bool false,.sl 4 []],.sf 11 4 (.s 34)]) (.seq (.seq (.reg [.mv 35 (.s 8),.nc 36 (.s 35),.fa 37 2 (.s 36),.ld 38 (.s 37)]) (.cond (.s 38) (.seq (.reg [.bd 39 [.int .i64 0,.str [],.bool false,.sl 4 []] [],.st 4 (.s 6) (.s 39),.mv 7 (.i 9)]) (.ret)) (.skip))) (.n 0))
 | 2=>.gh [.ks 2 [2,4,6,8,16,17,18]] (.m 4)
 | 3=>.seq (.blk 1 (.seq (.reg [.mv 20 (.s 18),.ia 21 2 (.s 16) (.s 18),.la 22 2 (.s 21),.al 10 t_Step [.int .i64 0,.sl 1 []],.mv 9 (.s 20),.sf 10 2 (.s 22)]) (.seq (.reg [.mv 23 (.s 2),.mv 24 (.s 9),.sx 25 2 (.s 23) none (some (.s 24)),.mf 26 n_multi_Bare_1 [] [.s 10],.callp (some 27) n_slices_ContainsFunc_s_Step_Step [.s 25,.s 26]]) (.cond (.s 27) (.reg [.mv 28 (.s 8),.nc 29 (.s 28),.fa 30 2 (.s 29),.st 1 (.s 30) (.c (.bool true))]) (.skip))))) (.reg [.bin 31 .add (.s 18) (.i 1),.mv 18 (.s 31)])
 | 4=>.seq (.reg [.bin 19 .lss (.s 18) (.s 17)]) (.seq (.cond (.s 19) (.skip) (.exit 0)) (.n 3))
 | _=>.skip
def body:C:=.seq (.reg [.br 4 t_Term (.s 1),.al 6 t_Multi [.int .i64 0,.str [],.bool false,.sl 4 []],.mv 7 (.i 0)]) (.seq (.reg [.mv 12 (.s 0),.mv 13 (.s 2),.bd 14 [.sl 6 [],.sl 2 [],.bool false] [(0,1,(.s 12)),(1,1,(.s 13))],.bx 15 t_multi_builder (.s 14),.mv 8 (.s 15)]) (.seq (.seq (.reg [.mv 16 (.s 2),.len 17 (.s 16),.mv 18 (.i 0)]) (.blk 0 (.loop (.n 2)))) (.n 1)))
def rs:List RV:=[.a 6 4,.t 7]
attribute [push_cast] nd body
theorem ok:okF prog n_multi_Bare nd body 3 rs = true:=by kernel_rfl
abbrev L4 (v2 v4 v6 v8 v16 v17 v18:V) (B:Nat) (H:List Ob) (Q:X→T→List Ob→Prop):Prop:=Run prog nd B [.c (.m 4),.c (.loop (.n 2)),.mk 0,.c (.n 1)] [(2,v2),(4,v4),(6,v6),(8,v8),(16,v16),(17,v17),(18,v18)] H Q
theorem G4 (h:Run prog nd B (.c (nd 4) :: s) t H Q):Run prog nd B (.c (.m 4) :: s) t H Q:=run_m.2 h
end multi_Bare
end Go.Dw
end
section
namespace Go.Dw
variable {s:List K} {B:Nat} {t:T} {H:List Ob} {Q:X→T→List Ob→Prop}
namespace slices_ContainsFunc_s_Multi_Multi
def nd (_:Nat):C:=.skip
def body:C:=.seq (.reg [.mv 4 (.c (.bool false))]) (.seq (.reg [.mv 5 (.s 0),.mv 6 (.s 1),.callp (some 7) n_slices_IndexFunc_s_Multi_Multi [.s 5,.s 6],.bin 8 .geq (.s 7) (.i 0),.mv 4 (.s 8)]) (.ret))
def rs:List RV:=[.t 4]
attribute [push_cast] nd body
theorem ok:okF prog n_slices_ContainsFunc_s_Multi_Multi nd body 2 rs = true:=by kernel_rfl
end slices_ContainsFunc_s_Multi_Multi
namespace residual_ends
def nd:Nat→C
 | 0=>.seq (.reg [.mv 22 (.s 0),.la 23 4 (.s 3),.callp (some 24) n_multi_Target [.s 22,.s 23],.mv 21 (.s 24),.ex 25 (.s 21) 0,.ex 26 (.s 21) 1,.al 9 t_Term [.str [],.bool false,.sl 3 []],.sf 9 3 (.s 25),.mv 8 (.s 26)]) (.seq (.dr [0,1,2,3,4,5] [.lar 27 3 (.s 7),.lar 28 3 (.s 9),.mv 29 (.s 8),.st 3 (.s 4) (.s 27),.st 3 (.s 5) (.s 28),.mv 6 (.s 29)]) (.ret))
 | _=>.skip
def body:C:=.seq (.reg [.br 3 t_Multi (.s 1),.al 4 t_Term [.str [],.bool false,.sl 3 []],.al 5 t_Term [.str [],.bool false,.sl 3 []],.mv 6 (.i 0)]) (.seq (.reg [.mv 11 (.s 0),.la 12 4 (.s 3),.callp (some 13) n_multi_Source [.s 11,.s 12],.mv 10 (.s 13),.ex 14 (.s 10) 0,.ex 15 (.s 10) 1,.al 7 t_Term [.str [],.bool false,.sl 3 []],.sf 7 3 (.s 14),.mv 8 (.s 15)]) (.seq (.seq (.reg [.mv 16 (.s 8),.bin 17 .neq (.s 16) (.i 0)]) (.cond (.s 17) (.seq (.dr [0,1,2,3,4,5] [.lar 18 3 (.s 7),.lar 19 3 (.s 7),.mv 20 (.s 8),.st 3 (.s 4) (.s 18),.st 3 (.s 5) (.s 19),.mv 6 (.s 20)]) (.ret)) (.skip))) (.n 0)))
def rs:List RV:=[.a 4 3,.a 5 3,.t 6]
attribute [push_cast] nd body
theorem ok:okF prog n_residual_ends nd body 2 rs = true:=by kernel_rfl
end residual_ends
namespace multi_size
def nd:Nat→C
 | 0=>.seq (.reg [.mv 20 (.s 3),.mv 2 (.s 20)]) (.ret)
 | 1=>.gh [.ks 0 [3,7,8,9]] (.m 3)
 | 2=>.seq (.blk 1 (.seq (.reg [.ia 11 4 (.s 7) (.s 9),.la 12 4 (.s 11),.al 5 t_Multi [.int .i64 0,.str [],.bool false,.sl 4 []],.sf 5 4 (.s 12)]) (.seq (.reg [.mv 13 (.s 3),.la 14 4 (.s 5),.callp (some 15) n_multi_size [.s 14],.bin 16 .add (.s 13) (.s 15),.mv 3 (.s 16)]) (.seq (.reg [.mv 17 (.s 3),.bin 18 .gtr (.s 17) (.i 4000)]) (.cond (.s 18) (.exit 0) (.skip)))))) (.reg [.bin 19 .add (.s 9) (.i 1),.mv 9 (.s 19)])
 | 3=>.seq (.reg [.bin 10 .lss (.s 9) (.s 8)]) (.seq (.cond (.s 10) (.skip) (.exit 0)) (.n 2))
 | _=>.skip
def body:C:=.seq (.reg [.br 1 t_Multi (.s 0),.mv 2 (.i 0)]) (.seq (.reg [.mv 3 (.i 1)]) (.seq (.seq (.reg [.fa 6 3 (.s 1),.ld 7 (.s 6),.len 8 (.s 7),.mv 9 (.i 0)]) (.blk 0 (.loop (.n 1)))) (.n 0)))
def rs:List RV:=[.t 2]
attribute [push_cast] nd body
theorem ok:okF prog n_multi_size nd body 1 rs = true:=by kernel_rfl
abbrev L3 (v3 v7 v8 v9:V) (B:Nat) (H:List Ob) (Q:X→T→List Ob→Prop):Prop:=Run prog nd B [.c (.m 3),.c (.loop (.n 1)),.mk 0,.c (.n 0)] [(3,v3),(7,v7),(8,v8),(9,v9)] H Q
theorem G3 (h:Run prog nd B (.c (nd 3) :: s) t H Q):Run prog nd B (.c (.m 3) :: s) t H Q:=run_m.2 h
end multi_size
namespace multi_depth
def nd:Nat→C
 | 0=>.seq (.reg [.mv 18 (.s 3),.bin 19 .add (.s 18) (.i 1),.mv 2 (.s 19)]) (.ret)
 | 1=>.gh [.ks 0 [3,7,8,9]] (.m 3)
 | 2=>.seq (.blk 1 (.seq (.reg [.ia 11 4 (.s 7) (.s 9),.la 12 4 (.s 11),.al 5 t_Multi [.int .i64 0,.str [],.bool false,.sl 4 []],.sf 5 4 (.s 12)]) (.reg [.mv 13 (.s 3),.la 14 4 (.s 5),.callp (some 15) n_multi_depth [.s 14],.mx 16 (.s 13) (.s 15),.mv 3 (.s 16)]))) (.reg [.bin 17 .add (.s 9) (.i 1),.mv 9 (.s 17)])
 | 3=>.seq (.reg [.bin 10 .lss (.s 9) (.s 8)]) (.seq (.cond (.s 10) (.skip) (.exit 0)) (.n 2))
 | _=>.skip
def body:C:=.seq (.reg [.br 1 t_Multi (.s 0),.mv 2 (.i 0)]) (.seq (.reg [.mv 3 (.i 0)]) (.seq (.seq (.reg [.fa 6 3 (.s 1),.ld 7 (.s 6),.len 8 (.s 7),.mv 9 (.i 0)]) (.blk 0 (.loop (.n 1)))) (.n 0)))
def rs:List RV:=[.t 2]
attribute [push_cast] nd body
theorem ok:okF prog n_multi_depth nd body 1 rs = true:=by kernel_rfl
abbrev L3 (v3 v7 v8 v9:V) (B:Nat) (H:List Ob) (Q:X→T→List Ob→Prop):Prop:=Run prog nd B [.c (.m 3),.c (.loop (.n 1)),.mk 0,.c (.n 0)] [(3,v3),(7,v7),(8,v8),(9,v9)] H Q
theorem G3 (h:Run prog nd B (.c (nd 3) :: s) t H Q):Run prog nd B (.c (.m 3) :: s) t H Q:=run_m.2 h
end multi_depth
namespace multi_own
def nd:Nat→C
 | 0=>.seq (.reg [.la 23 4 (.s 1),.st 4 (.s 2) (.s 23)]) (.ret)
 | 1=>.gh [.ks 3 [1,2,9,10,11]] (.m 3)
 | 2=>.seq (.blk 1 (.seq (.reg [.ia 13 4 (.s 9) (.s 11),.la 14 4 (.s 13),.al 5 t_Multi [.int .i64 0,.str [],.bool false,.sl 4 []],.sf 5 4 (.s 14)]) (.dr [0,1,2,3,4,5,6,7] [.fa 15 3 (.s 1),.ld 16 (.s 15),.la 17 4 (.s 5),.callp (some 18) n_multi_own [.s 17],.bs 19 4 [.s 18],.app 20 t_Multi 4 56 (.s 16) (.s 19),.fa 21 3 (.s 1),.st 1 (.s 21) (.s 20)]))) (.reg [.bin 22 .add (.s 11) (.i 1),.mv 11 (.s 22)])
 | 3=>.seq (.reg [.bin 12 .lss (.s 11) (.s 10)]) (.seq (.cond (.s 12) (.skip) (.exit 0)) (.n 2))
 | _=>.skip
def body:C:=.seq (.reg [.bx 1 t_Multi (.s 0),.al 2 t_Multi [.int .i64 0,.str [],.bool false,.sl 4 []]]) (.seq (.reg [.fa 6 3 (.s 1),.ld 7 (.s 6),.mv 3 (.s 7)]) (.seq (.reg [.fa 8 3 (.s 1),.st 1 (.s 8) (.c .nil),.ono t_Multi 4 0 (.s 8)]) (.seq (.seq (.reg [.mv 9 (.s 3),.len 10 (.s 9),.mv 11 (.i 0)]) (.blk 0 (.loop (.n 1)))) (.n 0))))
def rs:List RV:=[.a 2 4]
attribute [push_cast] nd body
theorem ok:okF prog n_multi_own nd body 1 rs = true:=by kernel_rfl
abbrev L3 (v1 v2 v9 v10 v11:V) (B:Nat) (H:List Ob) (Q:X→T→List Ob→Prop):Prop:=Run prog nd B [.c (.m 3),.c (.loop (.n 1)),.mk 0,.c (.n 0)] [(1,v1),(2,v2),(9,v9),(10,v10),(11,v11)] H Q
theorem G3 (h:Run prog nd B (.c (nd 3) :: s) t H Q):Run prog nd B (.c (.m 3) :: s) t H Q:=run_m.2 h
end multi_own
namespace residual_split
def nd (_:Nat):C:=.skip
def body:C:=.seq (.reg [.br 3 t_s_Rule (.s 0),.br 4 t_Multi (.s 1),.br 5 t_Multi (.s 2),.mv 6 (.i 0),.mv 7 (.c (.sl 4 [])),.mv 8 (.c (.sl 4 []))]) (.seq (.reg [.fa 11 0 (.s 4),.ld 12 (.s 11),.fa 13 0 (.s 5),.ld 14 (.s 13),.mx 15 (.s 12) (.s 14),.al 9 t_int [.int .i64 0],.sf 9 1 (.s 15)]) (.seq (.reg [.mf 16 n_residual_split_1 [] [.s 9,.s 3],.mv 10 (.s 16)]) (.seq (.dr [0,1,2,3,4,5,6,7,8,9] [.ld 17 (.s 9),.mv 18 (.s 10),.la 19 4 (.s 4),.callvp (some 20) (.s 18) [.s 19],.mv 21 (.s 10),.la 22 4 (.s 5),.callvp (some 23) (.s 21) [.s 22],.mv 6 (.s 17),.mv 7 (.s 20),.mv 8 (.s 23)]) (.ret))))
def rs:List RV:=[.t 6,.t 7,.t 8]
attribute [push_cast] nd body
theorem ok:okF prog n_residual_split nd body 3 rs = true:=by kernel_rfl
end residual_split
namespace residual_zip
def nd:Nat→C
 | 0=>.seq (.reg [.frz 7,.mv 31 (.s 7),.mv 6 (.s 31)]) (.ret)
 | 1=>.gh [.ks 1 [0,1,2,7,13,14]] (.m 3)
 | 2=>.seq (.blk 1 (.seq (.reg [.mv 16 (.s 14),.mv 8 (.s 16)]) (.dr [0,1,2,3,4,5,6,7,8,9,10,11,12,13] [.mv 17 (.s 7),.mv 18 (.s 8),.mv 19 (.s 2),.mv 20 (.s 0),.mv 21 (.s 8),.ia 22 4 (.s 20) (.s 21),.la 23 4 (.s 22),.mv 24 (.s 1),.mv 25 (.s 8),.ia 26 4 (.s 24) (.s 25),.la 27 4 (.s 26),.callvp (some 28) (.s 19) [.s 23,.s 27],.ia 29 4 (.s 17) (.s 18),.st 4 (.s 29) (.s 28)]))) (.reg [.bin 30 .add (.s 14) (.i 1),.mv 14 (.s 30)])
 | 3=>.seq (.reg [.bin 15 .lss (.s 14) (.s 13)]) (.seq (.cond (.s 15) (.skip) (.exit 0)) (.n 2))
 | _=>.skip
def body:C:=.seq (.reg [.mv 6 (.c (.sl 4 []))]) (.seq (.reg [.mv 9 (.s 0),.len 10 (.s 9),.mk 11 t_Multi 4 56 [.int .i64 0,.str [],.bool false,.sl 4 []] (.s 10),.mv 7 (.s 11)]) (.seq (.seq (.reg [.mv 12 (.s 0),.len 13 (.s 12),.mv 14 (.i 0)]) (.blk 0 (.loop (.n 1)))) (.n 0)))
def rs:List RV:=[.t 6]
attribute [push_cast] nd body
theorem ok:okF prog n_residual_zip nd body 3 rs = true:=by kernel_rfl
abbrev L3 (v0 v1 v2 v7 v13 v14:V) (B:Nat) (H:List Ob) (Q:X→T→List Ob→Prop):Prop:=Run prog nd B [.c (.m 3),.c (.loop (.n 1)),.mk 0,.c (.n 0)] [(0,v0),(1,v1),(2,v2),(7,v7),(13,v13),(14,v14)] H Q
theorem G3 (h:Run prog nd B (.c (nd 3) :: s) t H Q):Run prog nd B (.c (.m 3) :: s) t H Q:=run_m.2 h
end residual_zip
namespace residual_rest_1
def nd (_:Nat):C:=.skip
def body:C:=.seq (.reg [.br 3 t_Multi (.s 0),.br 4 t_Multi (.s 1),.al 5 t_Multi [.int .i64 0,.str [],.bool false,.sl 4 []]]) (.seq (.reg [.ld 6 (.s 2),.la 7 4 (.s 3),.la 8 4 (.s 4),.callp (some 9) n_residual_rest [.s 6,.s 7,.s 8],.st 4 (.s 5) (.s 9)]) (.ret))
def rs:List RV:=[.a 5 4]
attribute [push_cast] nd body
theorem ok:okF prog n_residual_rest_1 nd body 3 rs = true:=by kernel_rfl
end residual_rest_1
namespace multi_Plug
def nd:Nat→C
 | 0=>.seq (.reg [.la 39 4 (.s 7),.st 4 (.s 6) (.s 39)]) (.ret)
 | 1=>.gh [.ks 3 [1,2,6,7,23,24,25]] (.m 3)
 | 2=>.seq (.blk 1 (.seq (.reg [.ia 27 3 (.s 23) (.s 25),.la 28 3 (.s 27),.al 9 t_Term [.str [],.bool false,.sl 3 []],.sf 9 3 (.s 28)]) (.dr [0,1,2,3,4,5,6,7,8,9] [.fa 29 3 (.s 7),.ld 30 (.s 29),.la 31 3 (.s 9),.mv 32 (.s 1),.mv 33 (.s 2),.callp (some 34) n_multi_Plug [.s 31,.s 32,.s 33],.bs 35 4 [.s 34],.app 36 t_Multi 4 56 (.s 30) (.s 35),.fa 37 3 (.s 7),.st 1 (.s 37) (.s 36)]))) (.reg [.bin 38 .add (.s 25) (.i 1),.mv 25 (.s 38)])
 | 3=>.seq (.reg [.bin 26 .lss (.s 25) (.s 24)]) (.seq (.cond (.s 26) (.skip) (.exit 0)) (.n 2))
 | 4=>.seq (.reg [.fa 19 0 (.s 3),.ld 20 (.s 19),.bd 21 [.int .i64 0,.str [],.bool false,.nil] [(1,1,(.s 20))],.al 7 t_Multi [.int .i64 0,.str [],.bool false,.nil],.st 4 (.s 7) (.s 21),.ono t_Multi 4 3 (.s 7)]) (.seq (.seq (.reg [.fa 22 2 (.s 3),.ld 23 (.s 22),.len 24 (.s 23),.mv 25 (.i 0)]) (.blk 0 (.loop (.n 1)))) (.n 0))
 | _=>.skip
def body:C:=.seq (.reg [.br 3 t_Term (.s 0),.al 6 t_Multi [.int .i64 0,.str [],.bool false,.sl 4 []]]) (.seq (.seq (.reg [.fa 10 1 (.s 3),.ld 11 (.s 10)]) (.cond (.s 11) (.seq (.reg [.mv 12 (.s 2),.mv 13 (.s 1),.fa 14 0 (.s 3),.ld 15 (.s 14),.callp (some 16) n_slices_Index_s_string_string [.s 13,.s 15],.ia 17 4 (.s 12) (.s 16),.la 18 4 (.s 17),.st 4 (.s 6) (.s 18)]) (.ret)) (.skip))) (.n 4))
def rs:List RV:=[.a 6 4]
attribute [push_cast] nd body
theorem ok:okF prog n_multi_Plug nd body 3 rs = true:=by kernel_rfl
abbrev L3 (v1 v2 v6 v7 v23 v24 v25:V) (B:Nat) (H:List Ob) (Q:X→T→List Ob→Prop):Prop:=Run prog nd B [.c (.m 3),.c (.loop (.n 1)),.mk 0,.c (.n 0)] [(1,v1),(2,v2),(6,v6),(7,v7),(23,v23),(24,v24),(25,v25)] H Q
theorem G3 (h:Run prog nd B (.c (nd 3) :: s) t H Q):Run prog nd B (.c (.m 3) :: s) t H Q:=run_m.2 h
end multi_Plug
namespace term_VarsOf
def nd:Nat→C
 | 0=>.seq (.reg [.mv 37 (.s 8),.call (some 38) n_slices_Sort_s_string_string [.s 37],.frz 8]) (.seq (.reg [.mv 39 (.s 8),.mv 2 (.s 39)]) (.ret))
 | 1=>.gh [.ks 4 [8,28]] (.m 3)
 | 2=>.blk 5 (.seq (.reg [.en 31 (.s 28),.ex 32 (.s 31) 0,.mv 9 (.s 32)]) (.reg [.mv 33 (.s 8),.mv 34 (.s 9),.bs 35 1 [.s 34],.apr 36 t_string 1 16 (.s 33) (.s 35),.mv 8 (.s 36)]))
 | 3=>.seq (.reg [.nx 29 (.s 28),.ex 30 (.s 29) 0]) (.seq (.cond (.s 30) (.skip) (.exit 4)) (.n 2))
 | 4=>.seq (.reg [.mv 8 (.c .nil),.rnon 8 t_string 1]) (.seq (.seq (.reg [.ld 27 (.s 3),.rg 28 (.s 27)]) (.blk 4 (.loop (.n 1)))) (.n 0))
 | 5=>.gh [.ks 2 [3,7,11,12,13]] (.m 8)
 | 6=>.blk 3 (.seq (.reg [.fa 21 1 (.s 7),.ld 22 (.s 21)]) (.cond (.s 22) (.reg [.ld 23 (.s 3),.fa 24 0 (.s 7),.ld 25 (.s 24),.mup true (.s 23) (.s 25) (.c (.bool true))]) (.skip)))
 | 7=>.seq (.blk 1 (.seq (.reg [.ia 15 3 (.s 11) (.s 13),.la 16 3 (.s 15),.al 5 t_Term [.str [],.bool false,.sl 3 []],.sf 5 3 (.s 16)]) (.seq (.reg [.la 17 3 (.s 5),.callp (some 18) n_term_Walk [.s 17]]) (.blk 2 (.rf (.s 18) [19,20] (.reg [.al 7 t_Term [.str [],.bool false,.sl 3 []],.sf 7 3 (.s 20)]) (.m 6)))))) (.reg [.bin 26 .add (.s 13) (.i 1),.mv 13 (.s 26)])
 | 8=>.seq (.reg [.bin 14 .lss (.s 13) (.s 12)]) (.seq (.cond (.s 14) (.skip) (.exit 0)) (.n 7))
 | _=>.skip
def body:C:=.seq (.reg [.mv 2 (.c (.sl 1 []))]) (.seq (.reg [.mkm 10,.al 3 t_m_string_bool [.nilm],.st 1 (.s 3) (.s 10)]) (.seq (.seq (.reg [.mv 11 (.s 0),.len 12 (.s 11),.mv 13 (.i 0)]) (.blk 0 (.loop (.n 5)))) (.n 4)))
def rs:List RV:=[.t 2]
attribute [push_cast] nd body
theorem ok:okF prog n_term_VarsOf nd body 1 rs = true:=by kernel_rfl
abbrev L3 (v8 v28:V) (B:Nat) (H:List Ob) (Q:X→T→List Ob→Prop):Prop:=Run prog nd B [.c (.m 3),.c (.loop (.n 1)),.mk 4,.c (.n 0)] [(8,v8),(28,v28)] H Q
theorem G3 (h:Run prog nd B (.c (nd 3) :: s) t H Q):Run prog nd B (.c (.m 3) :: s) t H Q:=run_m.2 h
abbrev L8 (v3 v7 v11 v12 v13:V) (B:Nat) (H:List Ob) (Q:X→T→List Ob→Prop):Prop:=Run prog nd B [.c (.m 8),.c (.loop (.n 5)),.mk 0,.c (.n 4)] [(3,v3),(7,v7),(11,v11),(12,v12),(13,v13)] H Q
theorem G8 (h:Run prog nd B (.c (nd 8) :: s) t H Q):Run prog nd B (.c (.m 8) :: s) t H Q:=run_m.2 h
end term_VarsOf
namespace multi_end
def nd:Nat→C
 | 0=>.seq (.reg [.la 24 3 (.s 9),.callp (some 25) n_term_Own [.s 24],.callp (some 26) n_term_Fit [.s 25],.ex 27 (.s 26) 0,.ex 28 (.s 26) 1,.st 3 (.s 6) (.s 27),.mv 7 (.s 28)]) (.ret)
 | 1=>.seq (.reg [.mv 17 (.s 0),.la 18 4 (.s 4),.mv 19 (.s 2),.callp (some 20) n_multi_side [.s 17,.s 18,.s 19],.al 9 t_Term [.str [],.bool false,.sl 3 []],.sf 9 3 (.s 20)]) (.seq (.seq (.reg [.la 21 3 (.s 9),.callp (some 22) n_multi_large [.s 21]]) (.cond (.s 22) (.seq (.reg [.bd 23 [.str [],.bool false,.sl 3 []] [],.st 3 (.s 6) (.s 23),.mv 7 (.i 3)]) (.ret)) (.skip))) (.n 0))
 | _=>.skip
def body:C:=.seq (.reg [.br 4 t_Multi (.s 1),.al 6 t_Term [.str [],.bool false,.sl 3 []],.mv 7 (.i 0)]) (.seq (.seq (.reg [.mv 10 (.s 0),.la 11 4 (.s 4),.callp (some 12) n_multi_Check [.s 10,.s 11],.mv 8 (.s 12)]) (.seq (.reg [.mv 13 (.s 8),.bin 14 .neq (.s 13) (.i 0)]) (.cond (.s 14) (.seq (.reg [.bd 15 [.str [],.bool false,.sl 3 []] [],.mv 16 (.s 8),.st 3 (.s 6) (.s 15),.mv 7 (.s 16)]) (.ret)) (.skip)))) (.n 1))
def rs:List RV:=[.a 6 3,.t 7]
attribute [push_cast] nd body
theorem ok:okF prog n_multi_end nd body 3 rs = true:=by kernel_rfl
end multi_end
namespace multi_Source_1
def nd (_:Nat):C:=.skip
def body:C:=.seq (.reg [.br 1 t_Rule (.s 0),.al 2 t_Term [.str [],.bool false,.sl 3 []]]) (.seq (.reg [.fa 3 0 (.s 1),.la 4 3 (.s 3),.st 3 (.s 2) (.s 4)]) (.ret))
def rs:List RV:=[.a 2 3]
attribute [push_cast] nd body
theorem ok:okF prog n_multi_Source_1 nd body 1 rs = true:=by kernel_rfl
end multi_Source_1
namespace multi_Target_1
def nd (_:Nat):C:=.skip
def body:C:=.seq (.reg [.br 1 t_Rule (.s 0),.al 2 t_Term [.str [],.bool false,.sl 3 []]]) (.seq (.reg [.fa 3 3 (.s 1),.la 4 3 (.s 3),.st 3 (.s 2) (.s 4)]) (.ret))
def rs:List RV:=[.a 2 3]
attribute [push_cast] nd body
theorem ok:okF prog n_multi_Target_1 nd body 1 rs = true:=by kernel_rfl
end multi_Target_1
namespace r01_CompareNames
def nd:Nat→C
 | 0=>.seq (.reg [.mv 31 (.s 0),.lens 32 (.s 31),.mv 33 (.s 1),.lens 34 (.s 33),.callp (some 35) n_r01_CompareInts [.s 32,.s 34],.mv 4 (.s 35)]) (.ret)
 | 1=>.gh [.ks 0 [0,1,10,11]] (.m 3)
 | 2=>.seq (.blk 1 (.seq (.reg [.mv 13 (.s 11),.mv 5 (.s 13)]) (.seq (.dr [0,1,2,3,4,5,6] [.mv 14 (.s 0),.mv 15 (.s 5),.ix 16 (.s 14) (.s 15),.mv 17 (.s 1),.mv 18 (.s 5),.ix 19 (.s 17) (.s 18),.bin 20 .neq (.s 16) (.s 19)]) (.cond (.s 20) (.seq (.dr [0,1,2,3,4,5,6,7,8,9] [.mv 21 (.s 0),.mv 22 (.s 5),.ix 23 (.s 21) (.s 22),.cvi 24 .i64 (.s 23),.mv 25 (.s 1),.mv 26 (.s 5),.ix 27 (.s 25) (.s 26),.cvi 28 .i64 (.s 27),.callp (some 29) n_r01_CompareInts [.s 24,.s 28],.mv 4 (.s 29)]) (.ret)) (.skip))))) (.reg [.bin 30 .add (.s 11) (.i 1),.mv 11 (.s 30)])
 | 3=>.seq (.reg [.bin 12 .lss (.s 11) (.s 10)]) (.seq (.cond (.s 12) (.skip) (.exit 0)) (.n 2))
 | _=>.skip
def body:C:=.seq (.reg [.mv 4 (.i 0)]) (.seq (.seq (.reg [.mv 6 (.s 0),.lens 7 (.s 6),.mv 8 (.s 1),.lens 9 (.s 8),.mn 10 (.s 7) (.s 9),.mv 11 (.i 0)]) (.blk 0 (.loop (.n 1)))) (.n 0))
def rs:List RV:=[.t 4]
attribute [push_cast] nd body
theorem ok:okF prog n_r01_CompareNames nd body 2 rs = true:=by kernel_rfl
abbrev L3 (v0 v1 v10 v11:V) (B:Nat) (H:List Ob) (Q:X→T→List Ob→Prop):Prop:=Run prog nd B [.c (.m 3),.c (.loop (.n 1)),.mk 0,.c (.n 0)] [(0,v0),(1,v1),(10,v10),(11,v11)] H Q
theorem G3 (h:Run prog nd B (.c (nd 3) :: s) t H Q):Run prog nd B (.c (.m 3) :: s) t H Q:=run_m.2 h
end r01_CompareNames
namespace r01_CompareInts
def nd:Nat→C
 | 0=>.seq (.reg [.mv 4 (.i 0)]) (.ret)
 | 1=>.seq (.seq (.reg [.mv 8 (.s 0),.mv 9 (.s 1),.bin 10 .gtr (.s 8) (.s 9)]) (.cond (.s 10) (.seq (.reg [.mv 4 (.i 1)]) (.ret)) (.skip))) (.n 0)
 | _=>.skip
def body:C:=.seq (.reg [.mv 4 (.i 0)]) (.seq (.seq (.reg [.mv 5 (.s 0),.mv 6 (.s 1),.bin 7 .lss (.s 5) (.s 6)]) (.cond (.s 7) (.seq (.reg [.mv 4 (.i (-1))]) (.ret)) (.skip))) (.n 1))
def rs:List RV:=[.t 4]
attribute [push_cast] nd body
theorem ok:okF prog n_r01_CompareInts nd body 2 rs = true:=by kernel_rfl
end r01_CompareInts
namespace overlap_Orthogonal
def nd:Nat→C
 | 0=>.seq (.reg [.mv 14 (.s 4),.len 15 (.s 14),.bin 16 .eql (.s 15) (.i 0),.mv 17 (.s 16),.gd (.s 17) true [18,19] [.mv 18 (.s 0),.callp (some 19) n_overlap_left [.s 18]],.pick 20 (.s 17) (.s 19) (.c (.bool false)),.mv 2 (.s 20),.mv 3 (.i 0)]) (.ret)
 | _=>.skip
def body:C:=.seq (.reg [.mv 2 (.c (.bool false)),.mv 3 (.i 0)]) (.seq (.reg [.mv 7 (.s 0),.callp (some 8) n_overlap_List [.s 7],.mv 6 (.s 8),.ex 9 (.s 6) 0,.ex 10 (.s 6) 1,.mv 4 (.s 9),.mv 5 (.s 10)]) (.seq (.seq (.reg [.mv 11 (.s 5),.bin 12 .neq (.s 11) (.i 0)]) (.cond (.s 12) (.seq (.reg [.mv 13 (.s 5),.mv 2 (.c (.bool false)),.mv 3 (.s 13)]) (.ret)) (.skip))) (.n 0)))
def rs:List RV:=[.t 2,.t 3]
attribute [push_cast] nd body
theorem ok:okF prog n_overlap_Orthogonal nd body 1 rs = true:=by kernel_rfl
end overlap_Orthogonal
namespace slices_EqualFunc_s_Term_s_Term_Term_Term
def nd:Nat→C
 | 0=>.seq (.reg [.mv 6 (.c (.bool true))]) (.ret)
 | 1=>.gh [.ks 0 [1,2,15,16,17]] (.m 3)
 | 2=>.seq (.blk 1 (.seq (.reg [.mv 19 (.s 17),.ia 20 3 (.s 15) (.s 17),.la 21 3 (.s 20),.al 8 t_Term [.str [],.bool false,.sl 3 []],.mv 7 (.s 19),.sf 8 3 (.s 21)]) (.seq (.reg [.mv 22 (.s 1),.mv 23 (.s 7),.ia 24 3 (.s 22) (.s 23),.la 25 3 (.s 24),.al 9 t_Term [.str [],.bool false,.sl 3 []],.sf 9 3 (.s 25)]) (.seq (.reg [.mv 26 (.s 2),.la 27 3 (.s 8),.la 28 3 (.s 9),.callvp (some 29) (.s 26) [.s 27,.s 28],.un 30 .not (.s 29)]) (.cond (.s 30) (.seq (.reg [.mv 6 (.c (.bool false))]) (.ret)) (.skip)))))) (.reg [.bin 31 .add (.s 17) (.i 1),.mv 17 (.s 31)])
 | 3=>.seq (.reg [.bin 18 .lss (.s 17) (.s 16)]) (.seq (.cond (.s 18) (.skip) (.exit 0)) (.n 2))
 | 4=>.seq (.seq (.reg [.mv 15 (.s 0),.len 16 (.s 15),.mv 17 (.i 0)]) (.blk 0 (.loop (.n 1)))) (.n 0)
 | _=>.skip
def body:C:=.seq (.reg [.mv 6 (.c (.bool false))]) (.seq (.seq (.reg [.mv 10 (.s 0),.len 11 (.s 10),.mv 12 (.s 1),.len 13 (.s 12),.bin 14 .neq (.s 11) (.s 13)]) (.cond (.s 14) (.seq (.reg [.mv 6 (.c (.bool false))]) (.ret)) (.skip))) (.n 4))
def rs:List RV:=[.t 6]
attribute [push_cast] nd body
theorem ok:okF prog n_slices_EqualFunc_s_Term_s_Term_Term_Term nd body 3 rs = true:=by kernel_rfl
abbrev L3 (v1 v2 v15 v16 v17:V) (B:Nat) (H:List Ob) (Q:X→T→List Ob→Prop):Prop:=Run prog nd B [.c (.m 3),.c (.loop (.n 1)),.mk 0,.c (.n 0)] [(1,v1),(2,v2),(15,v15),(16,v16),(17,v17)] H Q
theorem G3 (h:Run prog nd B (.c (nd 3) :: s) t H Q):Run prog nd B (.c (.m 3) :: s) t H Q:=run_m.2 h
end slices_EqualFunc_s_Term_s_Term_Term_Term
namespace term_formed
def nd:Nat→C
 | 0=>.seq (.reg [.fa 14 2 (.s 1),.ld 15 (.s 14),.len 16 (.s 15),.bin 17 .leq (.s 16) (.i 8),.mv 18 (.s 17),.gd (.s 18) true [19,20,21] [.fa 19 0 (.s 1),.ld 20 (.s 19),.callp (some 21) n_term_IsName [.s 20,(.c (.bool true))]],.pick 22 (.s 18) (.s 21) (.c (.bool false)),.mv 23 (.s 22),.gd (.s 23) true [24,25,26,27] [.fa 24 2 (.s 1),.ld 25 (.s 24),.callp (some 26) n_slices_ContainsFunc_s_Term_Term [.s 25,(.f n_term_formed_1)],.un 27 .not (.s 26)],.pick 28 (.s 23) (.s 27) (.c (.bool false)),.mv 2 (.s 28)]) (.ret)
 | _=>.skip
def body:C:=.seq (.reg [.br 1 t_Term (.s 0),.mv 2 (.c (.bool false))]) (.seq (.seq (.reg [.fa 3 1 (.s 1),.ld 4 (.s 3)]) (.cond (.s 4) (.seq (.reg [.fa 5 2 (.s 1),.ld 6 (.s 5),.len 7 (.s 6),.bin 8 .eql (.s 7) (.i 0),.mv 9 (.s 8),.gd (.s 9) true [10,11,12] [.fa 10 0 (.s 1),.ld 11 (.s 10),.callp (some 12) n_term_IsName [.s 11,(.c (.bool false))]],.pick 13 (.s 9) (.s 12) (.c (.bool false)),.mv 2 (.s 13)]) (.ret)) (.skip))) (.n 0))
def rs:List RV:=[.t 2]
attribute [push_cast] nd body
theorem ok:okF prog n_term_formed nd body 1 rs = true:=by kernel_rfl
end term_formed
namespace term_fits
def nd (_:Nat):C:=.skip
def body:C:=.seq (.reg [.br 1 t_Term (.s 0),.mv 2 (.c (.bool false))]) (.seq (.reg [.la 3 3 (.s 1),.callp (some 4) n_term_Size [.s 3],.bin 5 .leq (.s 4) (.i 4000),.mv 6 (.s 5),.gd (.s 6) true [7,8,9] [.la 7 3 (.s 1),.callp (some 8) n_term_Depth [.s 7],.bin 9 .leq (.s 8) (.i 200)],.pick 10 (.s 6) (.s 9) (.c (.bool false)),.mv 2 (.s 10)]) (.ret))
def rs:List RV:=[.t 2]
attribute [push_cast] nd body
theorem ok:okF prog n_term_fits nd body 1 rs = true:=by kernel_rfl
end term_fits
namespace term_Walk
def nd (_:Nat):C:=.skip
def body:C:=.seq (.reg [.br 1 t_Term (.s 0),.mv 2 (.c .nilf)]) (.seq (.reg [.mf 3 n_term_Walk_1 [] [.s 1],.mv 2 (.s 3)]) (.ret))
def rs:List RV:=[.t 2]
attribute [push_cast] nd body
theorem ok:okF prog n_term_Walk nd body 1 rs = true:=by kernel_rfl
end term_Walk
namespace rewrite_at
def nd:Nat→C
 | 0=>.seq (.reg [.mv 37 (.s 7),.mv 6 (.s 37)]) (.ret)
 | 1=>.gh [.ks 1 [1,5,7,12,13,14]] (.m 4)
 | 2=>.seq (.reg [.fa 22 0 (.s 9),.la 23 3 (.s 22),.la 24 3 (.s 5),.callp (some 25) n_unify_Find [.s 23,.s 24],.mv 21 (.s 25),.ex 26 (.s 21) 0,.ex 27 (.s 21) 1,.mv 10 (.s 26),.mv 11 (.s 27)]) (.seq (.reg [.mv 28 (.s 11)]) (.cond (.s 28) (.reg [.mv 29 (.s 7),.mv 30 (.s 8),.mv 31 (.s 1),.call (some 32) n_slices_Clone_s_int_int [.s 31],.bd 33 [.int .i64 0,.sl 1 []] [(0,1,(.s 30)),(1,1,(.s 32))],.bs 34 2 [.s 33],.app 35 t_Step 2 32 (.s 29) (.s 34),.mv 7 (.s 35)]) (.skip)))
 | 3=>.seq (.blk 1 (.seq (.reg [.mv 16 (.s 14),.ia 17 6 (.s 12) (.s 14),.la 18 6 (.s 17),.al 9 t_Rule [.str [],.bool false,.sl 3 [],.str [],.bool false,.sl 3 []],.mv 8 (.s 16),.sf 9 6 (.s 18)]) (.seq (.seq (.reg [.fa 19 1 (.s 5),.ld 20 (.s 19)]) (.cond (.s 20) (.exit 0) (.skip))) (.n 2)))) (.reg [.bin 36 .add (.s 14) (.i 1),.mv 14 (.s 36)])
 | 4=>.seq (.reg [.bin 15 .lss (.s 14) (.s 13)]) (.seq (.cond (.s 15) (.skip) (.exit 0)) (.n 3))
 | _=>.skip
def body:C:=.seq (.reg [.br 5 t_Term (.s 2),.mv 6 (.c (.sl 2 []))]) (.seq (.reg [.mv 7 (.c .nil),.non 7 t_Step 2]) (.seq (.seq (.reg [.mv 12 (.s 0),.len 13 (.s 12),.mv 14 (.i 0)]) (.blk 0 (.loop (.n 1)))) (.n 0)))
def rs:List RV:=[.t 6]
attribute [push_cast] nd body
theorem ok:okF prog n_rewrite_at nd body 3 rs = true:=by kernel_rfl
abbrev L4 (v1 v5 v7 v12 v13 v14:V) (B:Nat) (H:List Ob) (Q:X→T→List Ob→Prop):Prop:=Run prog nd B [.c (.m 4),.c (.loop (.n 1)),.mk 0,.c (.n 0)] [(1,v1),(5,v5),(7,v7),(12,v12),(13,v13),(14,v14)] H Q
theorem G4 (h:Run prog nd B (.c (nd 4) :: s) t H Q):Run prog nd B (.c (.m 4) :: s) t H Q:=run_m.2 h
end rewrite_at
namespace slices_ContainsFunc_s_Step_Step
def nd (_:Nat):C:=.skip
def body:C:=.seq (.reg [.mv 4 (.c (.bool false))]) (.seq (.reg [.mv 5 (.s 0),.mv 6 (.s 1),.callp (some 7) n_slices_IndexFunc_s_Step_Step [.s 5,.s 6],.bin 8 .geq (.s 7) (.i 0),.mv 4 (.s 8)]) (.ret))
def rs:List RV:=[.t 4]
attribute [push_cast] nd body
theorem ok:okF prog n_slices_ContainsFunc_s_Step_Step nd body 2 rs = true:=by kernel_rfl
end slices_ContainsFunc_s_Step_Step
namespace multi_Bare_1
def nd (_:Nat):C:=.skip
def body:C:=.seq (.reg [.br 2 t_Step (.s 0),.mv 3 (.c (.bool false))]) (.seq (.reg [.fa 4 1 (.s 2),.ld 5 (.s 4),.fa 6 1 (.s 1),.ld 7 (.s 6),.callp (some 8) n_slices_Equal_s_int_int [.s 5,.s 7],.mv 3 (.s 8)]) (.ret))
def rs:List RV:=[.t 3]
attribute [push_cast] nd body
theorem ok:okF prog n_multi_Bare_1 nd body 2 rs = true:=by kernel_rfl
end multi_Bare_1
namespace slices_Equal_s_int_int
def nd:Nat→C
 | 0=>.seq (.reg [.mv 4 (.c (.bool true))]) (.ret)
 | 1=>.gh [.ks 0 [0,1,12,13]] (.m 3)
 | 2=>.seq (.blk 1 (.seq (.reg [.mv 15 (.s 13),.mv 5 (.s 15)]) (.seq (.dr [0,1,2,3,4,5,6,7,8] [.mv 16 (.s 0),.mv 17 (.s 5),.ia 18 1 (.s 16) (.s 17),.ld 19 (.s 18),.mv 20 (.s 1),.mv 21 (.s 5),.ia 22 1 (.s 20) (.s 21),.ld 23 (.s 22),.bin 24 .neq (.s 19) (.s 23)]) (.cond (.s 24) (.seq (.reg [.mv 4 (.c (.bool false))]) (.ret)) (.skip))))) (.reg [.bin 25 .add (.s 13) (.i 1),.mv 13 (.s 25)])
 | 3=>.seq (.reg [.bin 14 .lss (.s 13) (.s 12)]) (.seq (.cond (.s 14) (.skip) (.exit 0)) (.n 2))
 | 4=>.seq (.seq (.reg [.mv 11 (.s 0),.len 12 (.s 11),.mv 13 (.i 0)]) (.blk 0 (.loop (.n 1)))) (.n 0)
 | _=>.skip
def body:C:=.seq (.reg [.mv 4 (.c (.bool false))]) (.seq (.seq (.reg [.mv 6 (.s 0),.len 7 (.s 6),.mv 8 (.s 1),.len 9 (.s 8),.bin 10 .neq (.s 7) (.s 9)]) (.cond (.s 10) (.seq (.reg [.mv 4 (.c (.bool false))]) (.ret)) (.skip))) (.n 4))
def rs:List RV:=[.t 4]
attribute [push_cast] nd body
theorem ok:okF prog n_slices_Equal_s_int_int nd body 2 rs = true:=by kernel_rfl
abbrev L3 (v0 v1 v12 v13:V) (B:Nat) (H:List Ob) (Q:X→T→List Ob→Prop):Prop:=Run prog nd B [.c (.m 3),.c (.loop (.n 1)),.mk 0,.c (.n 0)] [(0,v0),(1,v1),(12,v12),(13,v13)] H Q
theorem G3 (h:Run prog nd B (.c (nd 3) :: s) t H Q):Run prog nd B (.c (.m 3) :: s) t H Q:=run_m.2 h
end slices_Equal_s_int_int
namespace slices_IndexFunc_s_Multi_Multi
def nd:Nat→C
 | 0=>.seq (.reg [.mv 4 (.i (-1))]) (.ret)
 | 1=>.gh [.ks 0 [0,1,7,8]] (.m 3)
 | 2=>.seq (.blk 1 (.seq (.reg [.mv 10 (.s 8),.mv 5 (.s 10)]) (.seq (.reg [.mv 11 (.s 1),.mv 12 (.s 0),.mv 13 (.s 5),.ia 14 4 (.s 12) (.s 13),.la 15 4 (.s 14),.callvp (some 16) (.s 11) [.s 15]]) (.cond (.s 16) (.seq (.reg [.mv 17 (.s 5),.mv 4 (.s 17)]) (.ret)) (.skip))))) (.reg [.bin 18 .add (.s 8) (.i 1),.mv 8 (.s 18)])
 | 3=>.seq (.reg [.bin 9 .lss (.s 8) (.s 7)]) (.seq (.cond (.s 9) (.skip) (.exit 0)) (.n 2))
 | _=>.skip
def body:C:=.seq (.reg [.mv 4 (.i 0)]) (.seq (.seq (.reg [.mv 6 (.s 0),.len 7 (.s 6),.mv 8 (.i 0)]) (.blk 0 (.loop (.n 1)))) (.n 0))
def rs:List RV:=[.t 4]
attribute [push_cast] nd body
theorem ok:okF prog n_slices_IndexFunc_s_Multi_Multi nd body 2 rs = true:=by kernel_rfl
abbrev L3 (v0 v1 v7 v8:V) (B:Nat) (H:List Ob) (Q:X→T→List Ob→Prop):Prop:=Run prog nd B [.c (.m 3),.c (.loop (.n 1)),.mk 0,.c (.n 0)] [(0,v0),(1,v1),(7,v7),(8,v8)] H Q
theorem G3 (h:Run prog nd B (.c (nd 3) :: s) t H Q):Run prog nd B (.c (.m 3) :: s) t H Q:=run_m.2 h
end slices_IndexFunc_s_Multi_Multi
namespace term_CheckSystem
def nd:Nat→C
 | 0=>.seq (.reg [.mv 2 (.i 0)]) (.ret)
 | 1=>.seq (.seq (.reg [.mv 27 (.s 0),.callp (some 28) n_slices_ContainsFunc_s_Rule_Rule [.s 27,(.f n_term_extra)]]) (.cond (.s 28) (.seq (.reg [.mv 2 (.i 7)]) (.ret)) (.skip))) (.n 0)
 | 2=>.gh [.ks 2 [0,20]] (.m 4)
 | 3=>.blk 1 (.seq (.reg [.en 23 (.s 20),.ex 24 (.s 23) 0,.mv 6 (.s 24)]) (.seq (.reg [.mv 25 (.s 6),.callp (some 26) n_term_Marked [.s 25]]) (.cond (.s 26) (.seq (.reg [.mv 2 (.i 6)]) (.ret)) (.skip))))
 | 4=>.seq (.reg [.nx 21 (.s 20),.ex 22 (.s 21) 0]) (.seq (.cond (.s 22) (.skip) (.exit 0)) (.n 3))
 | 5=>.seq (.seq (.reg [.mv 19 (.s 4),.rg 20 (.s 19)]) (.blk 0 (.loop (.n 2)))) (.n 1)
 | 6=>.seq (.reg [.mv 13 (.s 0),.call (some 14) n_term_Arities [.s 13],.mv 12 (.s 14),.ex 15 (.s 12) 0,.ex 16 (.s 12) 1,.mv 4 (.s 15),.mv 5 (.s 16)]) (.seq (.seq (.reg [.mv 17 (.s 5),.un 18 .not (.s 17)]) (.cond (.s 18) (.seq (.reg [.mv 2 (.i 6)]) (.ret)) (.skip))) (.n 5))
 | _=>.skip
def body:C:=.seq (.reg [.mv 2 (.i 0)]) (.seq (.seq (.reg [.mv 7 (.s 0),.callp (some 8) n_term_CheckRules [.s 7],.mv 3 (.s 8)]) (.seq (.reg [.mv 9 (.s 3),.bin 10 .neq (.s 9) (.i 0)]) (.cond (.s 10) (.seq (.reg [.mv 11 (.s 3),.mv 2 (.s 11)]) (.ret)) (.skip)))) (.n 6))
def rs:List RV:=[.t 2]
attribute [push_cast] nd body
theorem ok:okF prog n_term_CheckSystem nd body 1 rs = true:=by kernel_rfl
abbrev L4 (v0 v20:V) (B:Nat) (H:List Ob) (Q:X→T→List Ob→Prop):Prop:=Run prog nd B [.c (.m 4),.c (.loop (.n 2)),.mk 0,.c (.n 1)] [(0,v0),(20,v20)] H Q
theorem G4 (h:Run prog nd B (.c (nd 4) :: s) t H Q):Run prog nd B (.c (.m 4) :: s) t H Q:=run_m.2 h
end term_CheckSystem
namespace residual_split_1
def nd:Nat→C
 | 0=>.seq (.dr [0,1,2,3,4,5,6,7,8] [.ld 14 (.s 2),.ld 15 (.s 1),.bin 16 .sub (.s 15) (.i 1),.ia 17 6 (.s 14) (.s 16),.fa 18 0 (.s 17),.la 19 3 (.s 18),.la 20 4 (.s 3),.callp (some 21) n_residual_under [.s 19,.s 20],.mv 4 (.s 21)]) (.ret)
 | _=>.skip
def body:C:=.seq (.reg [.br 3 t_Multi (.s 0),.mv 4 (.c (.sl 4 []))]) (.seq (.seq (.reg [.fa 5 0 (.s 3),.ld 6 (.s 5),.bin 7 .gtr (.s 6) (.i 0),.mv 8 (.s 7),.gd (.s 8) false [9,10] [.ld 9 (.s 1),.bin 10 .eql (.s 9) (.i 0)],.pick 11 (.s 8) (.c (.bool true)) (.s 10)]) (.cond (.s 11) (.seq (.reg [.fa 12 3 (.s 3),.ld 13 (.s 12),.mv 4 (.s 13)]) (.ret)) (.skip))) (.n 0))
def rs:List RV:=[.t 4]
attribute [push_cast] nd body
theorem ok:okF prog n_residual_split_1 nd body 3 rs = true:=by kernel_rfl
end residual_split_1
namespace residual_under
def nd:Nat→C
 | 0=>.seq (.reg [.frc 0 (.s 6),.ld 44 (.s 6),.mv 4 (.s 44)]) (.ret)
 | 1=>.gh [.ks 2 [5,6,8,9,25,26,27]] (.m 3)
 | 2=>.seq (.blk 3 (.seq (.reg [.ia 29 1 (.s 25) (.s 27),.ld 30 (.s 29),.mv 11 (.s 30)]) (.reg [.fa 31 3 (.s 9),.ld 32 (.s 31),.mv 33 (.s 11),.ia 34 4 (.s 32) (.s 33),.la 35 4 (.s 34),.st 4 (.s 9) (.s 35)]))) (.reg [.bin 36 .add (.s 27) (.i 1),.mv 27 (.s 36)])
 | 3=>.seq (.reg [.bin 28 .lss (.s 27) (.s 26)]) (.seq (.cond (.s 28) (.skip) (.exit 2)) (.n 2))
 | 4=>.blk 1 (.seq (.reg [.fa 22 1 (.s 8),.ld 23 (.s 22)]) (.cond (.s 23) (.seq (.reg [.la 24 4 (.s 3),.al 9 t_Multi [.int .i64 0,.str [],.bool false,.sl 4 []],.st 4 (.s 9) (.s 24)]) (.seq (.seq (.reg [.mv 25 (.s 7),.len 26 (.s 25),.mv 27 (.i 0)]) (.blk 2 (.loop (.n 1)))) (.dr [0,1,2,3,4,5,6,7] [.ld 37 (.s 6),.ld 38 (.s 5),.fa 39 0 (.s 8),.ld 40 (.s 39),.callp (some 41) n_slices_Index_s_string_string [.s 38,.s 40],.la 42 4 (.s 9),.ia 43 4 (.s 37) (.s 41),.st 4 (.s 43) (.s 42)]))) (.skip)))
 | _=>.skip
def body:C:=.seq (.reg [.br 2 t_Term (.s 0),.br 3 t_Multi (.s 1),.mv 4 (.c (.sl 4 []))]) (.seq (.reg [.la 12 3 (.s 2),.bs 13 3 [.s 12],.callp (some 14) n_term_VarsOf [.s 13],.al 5 t_s_string [.sl 1 []],.sf 5 1 (.s 14)]) (.seq (.reg [.ld 15 (.s 5),.len 16 (.s 15),.mk 17 t_Multi 4 56 [.int .i64 0,.str [],.bool false,.sl 4 []] (.s 16),.al 6 t_s_Multi [.nil],.st 1 (.s 6) (.s 17)]) (.seq (.seq (.reg [.la 18 3 (.s 2),.callp (some 19) n_term_Walk [.s 18]]) (.blk 0 (.rf (.s 19) [20,21] (.seq (.reg [.mv 7 (.s 20)]) (.reg [.al 8 t_Term [.str [],.bool false,.sl 3 []],.sf 8 3 (.s 21)])) (.m 4)))) (.n 0))))
def rs:List RV:=[.t 4]
attribute [push_cast] nd body
theorem ok:okF prog n_residual_under nd body 2 rs = true:=by kernel_rfl
abbrev L3 (v5 v6 v8 v9 v25 v26 v27:V) (B:Nat) (H:List Ob) (Q:X→T→List Ob→Prop):Prop:=Run prog nd B [.c (.m 3),.c (.loop (.n 1)),.mk 2,.c (.dr [0,1,2,3,4,5,6,7] [.ld 37 (.s 6),.ld 38 (.s 5),.fa 39 0 (.s 8),.ld 40 (.s 39),.callp (some 41) n_slices_Index_s_string_string [.s 38,.s 40],.la 42 4 (.s 9),.ia 43 4 (.s 37) (.s 41),.st 4 (.s 43) (.s 42)]),.mk 1] [(5,v5),(6,v6),(8,v8),(9,v9),(25,v25),(26,v26),(27,v27)] H Q
theorem G3 (h:Run prog nd B (.c (nd 3) :: s) t H Q):Run prog nd B (.c (.m 3) :: s) t H Q:=run_m.2 h
end residual_under
end Go.Dw
end
section
namespace Go.Dw
variable {s:List K} {B:Nat} {t:T} {H:List Ob} {Q:X→T→List Ob→Prop}
namespace slices_Index_s_string_string
def nd:Nat→C
 | 0=>.seq (.reg [.mv 4 (.i (-1))]) (.ret)
 | 1=>.gh [.ks 0 [0,1,7,8]] (.m 3)
 | 2=>.seq (.blk 1 (.seq (.reg [.mv 10 (.s 8),.mv 5 (.s 10)]) (.seq (.reg [.mv 11 (.s 1),.mv 12 (.s 0),.mv 13 (.s 5),.ia 14 1 (.s 12) (.s 13),.ld 15 (.s 14),.bin 16 .eql (.s 11) (.s 15)]) (.cond (.s 16) (.seq (.reg [.mv 17 (.s 5),.mv 4 (.s 17)]) (.ret)) (.skip))))) (.reg [.bin 18 .add (.s 8) (.i 1),.mv 8 (.s 18)])
 | 3=>.seq (.reg [.bin 9 .lss (.s 8) (.s 7)]) (.seq (.cond (.s 9) (.skip) (.exit 0)) (.n 2))
 | _=>.skip
def body:C:=.seq (.reg [.mv 4 (.i 0)]) (.seq (.seq (.reg [.mv 6 (.s 0),.len 7 (.s 6),.mv 8 (.i 0)]) (.blk 0 (.loop (.n 1)))) (.n 0))
def rs:List RV:=[.t 4]
attribute [push_cast] nd body
theorem ok:okF prog n_slices_Index_s_string_string nd body 2 rs = true:=by kernel_rfl
abbrev L3 (v0 v1 v7 v8:V) (B:Nat) (H:List Ob) (Q:X→T→List Ob→Prop):Prop:=Run prog nd B [.c (.m 3),.c (.loop (.n 1)),.mk 0,.c (.n 0)] [(0,v0),(1,v1),(7,v7),(8,v8)] H Q
theorem G3 (h:Run prog nd B (.c (nd 3) :: s) t H Q):Run prog nd B (.c (.m 3) :: s) t H Q:=run_m.2 h
end slices_Index_s_string_string
namespace multi_Check
def nd:Nat→C
 | 0=>.seq (.reg [.mv 4 (.i 0)]) (.ret)
 | 1=>.seq (.blk 0 (.seq (.reg [.la 12 4 (.s 3),.mf 13 n_multi_Check_1 [] [.s 2],.callp (some 14) n_multi_all [.s 12,.s 13],.un 15 .not (.s 14),.mv 11 (.s 15)]) (.cond (.s 11) (.seq (.reg [.mv 4 (.i 8)]) (.ret)) (.seq (.reg [.la 17 4 (.s 3),.mf 18 n_multi_Check_2 [] [.s 2],.callp (some 19) n_multi_all [.s 17,.s 18],.un 20 .not (.s 19),.mv 16 (.s 20)]) (.cond (.s 16) (.seq (.reg [.mv 4 (.i 4)]) (.ret)) (.seq (.reg [.la 22 4 (.s 3),.callp (some 23) n_multi_size [.s 22],.bin 24 .gtr (.s 23) (.i 4000),.mv 25 (.s 24),.gd (.s 25) false [26,27,28] [.la 26 4 (.s 3),.callp (some 27) n_multi_depth [.s 26],.bin 28 .gtr (.s 27) (.i 200)],.pick 29 (.s 25) (.c (.bool true)) (.s 28),.mv 21 (.s 29)]) (.cond (.s 21) (.seq (.reg [.mv 4 (.i 3)]) (.ret)) (.skip)))))))) (.n 0)
 | _=>.skip
def body:C:=.seq (.reg [.br 2 t_s_Rule (.s 0),.br 3 t_Multi (.s 1),.mv 4 (.i 0)]) (.seq (.seq (.reg [.ld 6 (.s 2),.callp (some 7) n_term_CheckSystem [.s 6],.mv 5 (.s 7)]) (.seq (.reg [.mv 8 (.s 5),.bin 9 .neq (.s 8) (.i 0)]) (.cond (.s 9) (.seq (.reg [.mv 10 (.s 5),.mv 4 (.s 10)]) (.ret)) (.skip)))) (.n 1))
def rs:List RV:=[.t 4]
attribute [push_cast] nd body
theorem ok:okF prog n_multi_Check nd body 2 rs = true:=by kernel_rfl
end multi_Check
namespace multi_side
def nd:Nat→C
 | 0=>.seq (.reg [.mv 35 (.s 0),.fa 36 0 (.s 4),.ld 37 (.s 36),.bin 38 .sub (.s 37) (.i 1),.ia 39 6 (.s 35) (.s 38),.la 40 6 (.s 39),.al 10 t_Rule [.str [],.bool false,.sl 3 [],.str [],.bool false,.sl 3 []],.sf 10 6 (.s 40)]) (.seq (.dr [0,1,2,3,4,5,6,7,8,9] [.mv 41 (.s 2),.la 42 6 (.s 10),.callvp (some 43) (.s 41) [.s 42],.fa 44 0 (.s 10),.la 45 3 (.s 44),.bs 46 3 [.s 45],.callp (some 47) n_term_VarsOf [.s 46],.mv 48 (.s 7),.callp (some 49) n_multi_plug [.s 43,.s 47,.s 48],.st 3 (.s 6) (.s 49)]) (.ret))
 | 1=>.seq (.seq (.reg [.fa 26 0 (.s 4),.ld 27 (.s 26),.bin 28 .eql (.s 27) (.i 0)]) (.cond (.s 28) (.seq (.reg [.fa 29 1 (.s 4),.ld 30 (.s 29),.fa 31 2 (.s 4),.ld 32 (.s 31),.mv 33 (.s 7),.bd 34 [.str [],.bool false,.sl 3 []] [(0,1,(.s 30)),(1,1,(.s 32)),(2,1,(.s 33))],.st 3 (.s 6) (.s 34)]) (.ret)) (.skip))) (.n 0)
 | 2=>.gh [.ks 2 [0,2,4,6,7,12,13,14]] (.m 4)
 | 3=>.seq (.blk 1 (.seq (.reg [.ia 16 4 (.s 12) (.s 14),.la 17 4 (.s 16),.al 9 t_Multi [.int .i64 0,.str [],.bool false,.sl 4 []],.sf 9 4 (.s 17)]) (.reg [.mv 18 (.s 7),.mv 19 (.s 0),.la 20 4 (.s 9),.mv 21 (.s 2),.callp (some 22) n_multi_side [.s 19,.s 20,.s 21],.bs 23 3 [.s 22],.app 24 t_Term 3 48 (.s 18) (.s 23),.mv 7 (.s 24)]))) (.reg [.bin 25 .add (.s 14) (.i 1),.mv 14 (.s 25)])
 | 4=>.seq (.reg [.bin 15 .lss (.s 14) (.s 13)]) (.seq (.cond (.s 15) (.skip) (.exit 0)) (.n 3))
 | _=>.skip
def body:C:=.seq (.reg [.br 4 t_Multi (.s 1),.al 6 t_Term [.str [],.bool false,.sl 3 []]]) (.seq (.reg [.mv 7 (.c .nil),.non 7 t_Term 3]) (.seq (.seq (.reg [.fa 11 3 (.s 4),.ld 12 (.s 11),.len 13 (.s 12),.mv 14 (.i 0)]) (.blk 0 (.loop (.n 2)))) (.n 1)))
def rs:List RV:=[.a 6 3]
attribute [push_cast] nd body
theorem ok:okF prog n_multi_side nd body 3 rs = true:=by kernel_rfl
abbrev L4 (v0 v2 v4 v6 v7 v12 v13 v14:V) (B:Nat) (H:List Ob) (Q:X→T→List Ob→Prop):Prop:=Run prog nd B [.c (.m 4),.c (.loop (.n 2)),.mk 0,.c (.n 1)] [(0,v0),(2,v2),(4,v4),(6,v6),(7,v7),(12,v12),(13,v13),(14,v14)] H Q
theorem G4 (h:Run prog nd B (.c (nd 4) :: s) t H Q):Run prog nd B (.c (.m 4) :: s) t H Q:=run_m.2 h
end multi_side
namespace multi_large
def nd (_:Nat):C:=.skip
def body:C:=.seq (.reg [.br 1 t_Term (.s 0),.mv 2 (.c (.bool false))]) (.seq (.reg [.al 3 t_int [.int .i64 0],.st 1 (.s 3) (.i 4000)]) (.seq (.reg [.al 4 t_func_Term_bool [.nilf]]) (.seq (.reg [.mf 5 n_multi_large_1 [] [.s 3,.s 4],.st 1 (.s 4) (.s 5)]) (.seq (.reg [.ld 6 (.s 4),.la 7 3 (.s 1),.callv (some 8) (.s 6) [.s 7],.mv 2 (.s 8)]) (.ret)))))
def rs:List RV:=[.t 2]
attribute [push_cast] nd body
theorem ok:okF prog n_multi_large nd body 1 rs = true:=by kernel_rfl
end multi_large
namespace term_Fit
def nd:Nat→C
 | 0=>.seq (.reg [.la 8 3 (.s 1),.st 3 (.s 2) (.s 8),.mv 3 (.i 0)]) (.ret)
 | _=>.skip
def body:C:=.seq (.reg [.br 1 t_Term (.s 0),.al 2 t_Term [.str [],.bool false,.sl 3 []],.mv 3 (.i 0)]) (.seq (.seq (.reg [.la 4 3 (.s 1),.callp (some 5) n_term_fits [.s 4],.un 6 .not (.s 5)]) (.cond (.s 6) (.seq (.reg [.bd 7 [.str [],.bool false,.sl 3 []] [],.st 3 (.s 2) (.s 7),.mv 3 (.i 3)]) (.ret)) (.skip))) (.n 0))
def rs:List RV:=[.a 2 3,.t 3]
attribute [push_cast] nd body
theorem ok:okF prog n_term_Fit nd body 1 rs = true:=by kernel_rfl
end term_Fit
namespace term_Own
def nd:Nat→C
 | 0=>.seq (.reg [.la 26 3 (.s 3),.st 3 (.s 2) (.s 26)]) (.ret)
 | 1=>.gh [.ks 3 [2,3,12,13,14]] (.m 3)
 | 2=>.seq (.blk 1 (.seq (.reg [.ia 16 3 (.s 12) (.s 14),.la 17 3 (.s 16),.al 5 t_Term [.str [],.bool false,.sl 3 []],.sf 5 3 (.s 17)]) (.dr [0,1,2,3,4,5,6,7] [.fa 18 2 (.s 3),.ld 19 (.s 18),.la 20 3 (.s 5),.callp (some 21) n_term_Own [.s 20],.bs 22 3 [.s 21],.app 23 t_Term 3 48 (.s 19) (.s 22),.fa 24 2 (.s 3),.st 1 (.s 24) (.s 23)]))) (.reg [.bin 25 .add (.s 14) (.i 1),.mv 14 (.s 25)])
 | 3=>.seq (.reg [.bin 15 .lss (.s 14) (.s 13)]) (.seq (.cond (.s 15) (.skip) (.exit 0)) (.n 2))
 | _=>.skip
def body:C:=.seq (.reg [.br 1 t_Term (.s 0),.al 2 t_Term [.str [],.bool false,.sl 3 []]]) (.seq (.reg [.fa 6 0 (.s 1),.ld 7 (.s 6),.fa 8 1 (.s 1),.ld 9 (.s 8),.bd 10 [.str [],.bool false,.nil] [(0,1,(.s 7)),(1,1,(.s 9))],.al 3 t_Term [.str [],.bool false,.nil],.st 3 (.s 3) (.s 10),.ono t_Term 3 2 (.s 3)]) (.seq (.seq (.reg [.fa 11 2 (.s 1),.ld 12 (.s 11),.len 13 (.s 12),.mv 14 (.i 0)]) (.blk 0 (.loop (.n 1)))) (.n 0)))
def rs:List RV:=[.a 2 3]
attribute [push_cast] nd body
theorem ok:okF prog n_term_Own nd body 1 rs = true:=by kernel_rfl
abbrev L3 (v2 v3 v12 v13 v14:V) (B:Nat) (H:List Ob) (Q:X→T→List Ob→Prop):Prop:=Run prog nd B [.c (.m 3),.c (.loop (.n 1)),.mk 0,.c (.n 0)] [(2,v2),(3,v3),(12,v12),(13,v13),(14,v14)] H Q
theorem G3 (h:Run prog nd B (.c (nd 3) :: s) t H Q):Run prog nd B (.c (.m 3) :: s) t H Q:=run_m.2 h
end term_Own
namespace overlap_List
def nd:Nat→C
 | 0=>.seq (.reg [.mv 10 (.s 0),.callp (some 11) n_overlap_All [.s 10],.ex 12 (.s 11) 0,.ex 13 (.s 11) 1,.mv 2 (.s 12),.mv 3 (.s 13)]) (.ret)
 | _=>.skip
def body:C:=.seq (.reg [.mv 2 (.c (.sl 12 [])),.mv 3 (.i 0)]) (.seq (.seq (.reg [.mv 5 (.s 0),.callp (some 6) n_term_CheckSystem [.s 5],.mv 4 (.s 6)]) (.seq (.reg [.mv 7 (.s 4),.bin 8 .neq (.s 7) (.i 0)]) (.cond (.s 8) (.seq (.reg [.mv 9 (.s 4),.mv 2 (.c (.sl 12 [])),.mv 3 (.s 9)]) (.ret)) (.skip)))) (.n 0))
def rs:List RV:=[.t 2,.t 3]
attribute [push_cast] nd body
theorem ok:okF prog n_overlap_List nd body 1 rs = true:=by kernel_rfl
end overlap_List
namespace overlap_left
def nd (_:Nat):C:=.skip
def body:C:=.seq (.reg [.mv 2 (.c (.bool false))]) (.seq (.reg [.mv 3 (.s 0),.callp (some 4) n_slices_ContainsFunc_s_Rule_Rule [.s 3,(.f n_overlap_left_1)],.un 5 .not (.s 4),.mv 2 (.s 5)]) (.ret))
def rs:List RV:=[.t 2]
attribute [push_cast] nd body
theorem ok:okF prog n_overlap_left nd body 1 rs = true:=by kernel_rfl
end overlap_left
namespace term_IsName
def nd:Nat→C
 | 0=>.seq (.reg [.mv 11 (.s 0),.bin 12 .neq (.s 11) (.c (.str [])),.mv 13 (.s 12),.gd (.s 13) true [14,15,16,17] [.mv 14 (.s 0),.s2b 15 (.s 14),.callp (some 16) n_slices_ContainsFunc_s_byte_byte [.s 15,(.f n_term_IsName_1)],.un 17 .not (.s 16)],.pick 18 (.s 13) (.s 17) (.c (.bool false)),.mv 4 (.s 18)]) (.ret)
 | 1=>.seq (.seq (.reg [.mv 8 (.s 1)]) (.cond (.s 8) (.reg [.mv 9 (.s 0),.callp (some 10) n_strings_TrimSuffix [.s 9,(.c (.str [35]))],.mv 0 (.s 10)]) (.skip))) (.n 0)
 | _=>.skip
def body:C:=.seq (.reg [.mv 4 (.c (.bool false))]) (.seq (.seq (.reg [.mv 5 (.s 0),.lens 6 (.s 5),.bin 7 .gtr (.s 6) (.i 24)]) (.cond (.s 7) (.seq (.reg [.mv 4 (.c (.bool false))]) (.ret)) (.skip))) (.n 1))
def rs:List RV:=[.t 4]
attribute [push_cast] nd body
theorem ok:okF prog n_term_IsName nd body 2 rs = true:=by kernel_rfl
end term_IsName
namespace slices_ContainsFunc_s_Term_Term
def nd (_:Nat):C:=.skip
def body:C:=.seq (.reg [.mv 4 (.c (.bool false))]) (.seq (.reg [.mv 5 (.s 0),.mv 6 (.s 1),.callp (some 7) n_slices_IndexFunc_s_Term_Term [.s 5,.s 6],.bin 8 .geq (.s 7) (.i 0),.mv 4 (.s 8)]) (.ret))
def rs:List RV:=[.t 4]
attribute [push_cast] nd body
theorem ok:okF prog n_slices_ContainsFunc_s_Term_Term nd body 2 rs = true:=by kernel_rfl
end slices_ContainsFunc_s_Term_Term
namespace term_formed_1
def nd (_:Nat):C:=.skip
def body:C:=.seq (.reg [.br 1 t_Term (.s 0),.mv 2 (.c (.bool false))]) (.seq (.reg [.la 3 3 (.s 1),.callp (some 4) n_term_formed [.s 3],.un 5 .not (.s 4),.mv 2 (.s 5)]) (.ret))
def rs:List RV:=[.t 2]
attribute [push_cast] nd body
theorem ok:okF prog n_term_formed_1 nd body 1 rs = true:=by kernel_rfl
end term_formed_1
namespace term_Size
def nd:Nat→C
 | 0=>.seq (.reg [.mv 18 (.s 3),.mv 2 (.s 18)]) (.ret)
 | 1=>.gh [.ks 0 [3,7,8,9]] (.m 3)
 | 2=>.seq (.blk 1 (.seq (.reg [.ia 11 3 (.s 7) (.s 9),.la 12 3 (.s 11),.al 5 t_Term [.str [],.bool false,.sl 3 []],.sf 5 3 (.s 12)]) (.reg [.mv 13 (.s 3),.la 14 3 (.s 5),.callp (some 15) n_term_Size [.s 14],.bin 16 .add (.s 13) (.s 15),.mv 3 (.s 16)]))) (.reg [.bin 17 .add (.s 9) (.i 1),.mv 9 (.s 17)])
 | 3=>.seq (.reg [.bin 10 .lss (.s 9) (.s 8)]) (.seq (.cond (.s 10) (.skip) (.exit 0)) (.n 2))
 | _=>.skip
def body:C:=.seq (.reg [.br 1 t_Term (.s 0),.mv 2 (.i 0)]) (.seq (.reg [.mv 3 (.i 1)]) (.seq (.seq (.reg [.fa 6 2 (.s 1),.ld 7 (.s 6),.len 8 (.s 7),.mv 9 (.i 0)]) (.blk 0 (.loop (.n 1)))) (.n 0)))
def rs:List RV:=[.t 2]
attribute [push_cast] nd body
theorem ok:okF prog n_term_Size nd body 1 rs = true:=by kernel_rfl
abbrev L3 (v3 v7 v8 v9:V) (B:Nat) (H:List Ob) (Q:X→T→List Ob→Prop):Prop:=Run prog nd B [.c (.m 3),.c (.loop (.n 1)),.mk 0,.c (.n 0)] [(3,v3),(7,v7),(8,v8),(9,v9)] H Q
theorem G3 (h:Run prog nd B (.c (nd 3) :: s) t H Q):Run prog nd B (.c (.m 3) :: s) t H Q:=run_m.2 h
end term_Size
namespace term_Depth
def nd:Nat→C
 | 0=>.seq (.reg [.mv 18 (.s 3),.bin 19 .add (.s 18) (.i 1),.mv 2 (.s 19)]) (.ret)
 | 1=>.gh [.ks 0 [3,7,8,9]] (.m 3)
 | 2=>.seq (.blk 1 (.seq (.reg [.ia 11 3 (.s 7) (.s 9),.la 12 3 (.s 11),.al 5 t_Term [.str [],.bool false,.sl 3 []],.sf 5 3 (.s 12)]) (.reg [.mv 13 (.s 3),.la 14 3 (.s 5),.callp (some 15) n_term_Depth [.s 14],.mx 16 (.s 13) (.s 15),.mv 3 (.s 16)]))) (.reg [.bin 17 .add (.s 9) (.i 1),.mv 9 (.s 17)])
 | 3=>.seq (.reg [.bin 10 .lss (.s 9) (.s 8)]) (.seq (.cond (.s 10) (.skip) (.exit 0)) (.n 2))
 | _=>.skip
def body:C:=.seq (.reg [.br 1 t_Term (.s 0),.mv 2 (.i 0)]) (.seq (.reg [.mv 3 (.i 0)]) (.seq (.seq (.reg [.fa 6 2 (.s 1),.ld 7 (.s 6),.len 8 (.s 7),.mv 9 (.i 0)]) (.blk 0 (.loop (.n 1)))) (.n 0)))
def rs:List RV:=[.t 2]
attribute [push_cast] nd body
theorem ok:okF prog n_term_Depth nd body 1 rs = true:=by kernel_rfl
abbrev L3 (v3 v7 v8 v9:V) (B:Nat) (H:List Ob) (Q:X→T→List Ob→Prop):Prop:=Run prog nd B [.c (.m 3),.c (.loop (.n 1)),.mk 0,.c (.n 0)] [(3,v3),(7,v7),(8,v8),(9,v9)] H Q
theorem G3 (h:Run prog nd B (.c (nd 3) :: s) t H Q):Run prog nd B (.c (.m 3) :: s) t H Q:=run_m.2 h
end term_Depth
namespace term_Walk_1
def nd (_:Nat):C:=.skip
def body:C:=.reg [.la 3 3 (.s 1),.mv 4 (.s 0),.call (some 5) n_term_walk [.s 3,(.c (.sl 1 [])),.s 4]]
def rs:List RV:=[]
attribute [push_cast] nd body
theorem ok:okF prog n_term_Walk_1 nd body 2 rs = true:=by kernel_rfl
end term_Walk_1
namespace term_walk
def nd:Nat→C
 | 0=>.seq (.reg [.mv 6 (.c (.bool true))]) (.ret)
 | 1=>.gh [.ks 0 [1,2,15,16,17]] (.m 3)
 | 2=>.seq (.blk 1 (.seq (.reg [.mv 19 (.s 17),.ia 20 3 (.s 15) (.s 17),.la 21 3 (.s 20),.al 8 t_Term [.str [],.bool false,.sl 3 []],.mv 7 (.s 19),.sf 8 3 (.s 21)]) (.seq (.dr [1,3,4,6] [.mv 23 (.s 1),.mv 25 (.s 7),.bs 26 1 [.s 25],.mv 28 (.s 2),.alt [([0,2,5,7,8],[.la 22 3 (.s 8),.call (some 24) n_slices_Clone_s_int_int [.s 23],.app 27 t_int 1 8 (.s 24) (.s 26),.call (some 29) n_term_walk [.s 22,.s 27,.s 28],.un 30 .not (.s 29)]),([2,0,5,7,8],[.call (some 24) n_slices_Clone_s_int_int [.s 23],.la 22 3 (.s 8),.app 27 t_int 1 8 (.s 24) (.s 26),.call (some 29) n_term_walk [.s 22,.s 27,.s 28],.un 30 .not (.s 29)])]]) (.cond (.s 30) (.seq (.reg [.mv 6 (.c (.bool false))]) (.ret)) (.skip))))) (.reg [.bin 31 .add (.s 17) (.i 1),.mv 17 (.s 31)])
 | 3=>.seq (.reg [.bin 18 .lss (.s 17) (.s 16)]) (.seq (.cond (.s 18) (.skip) (.exit 0)) (.n 2))
 | 4=>.seq (.seq (.reg [.fa 14 2 (.s 3),.ld 15 (.s 14),.len 16 (.s 15),.mv 17 (.i 0)]) (.blk 0 (.loop (.n 1)))) (.n 0)
 | _=>.skip
def body:C:=.seq (.reg [.br 3 t_Term (.s 0),.mv 6 (.c (.bool false))]) (.seq (.seq (.reg [.mv 9 (.s 2),.mv 10 (.s 1),.la 11 3 (.s 3),.callv (some 12) (.s 9) [.s 10,.s 11],.un 13 .not (.s 12)]) (.cond (.s 13) (.seq (.reg [.mv 6 (.c (.bool false))]) (.ret)) (.skip))) (.n 4))
def rs:List RV:=[.t 6]
attribute [push_cast] nd body
theorem ok:okF prog n_term_walk nd body 3 rs = true:=by kernel_rfl
abbrev L3 (v1 v2 v15 v16 v17:V) (B:Nat) (H:List Ob) (Q:X→T→List Ob→Prop):Prop:=Run prog nd B [.c (.m 3),.c (.loop (.n 1)),.mk 0,.c (.n 0)] [(1,v1),(2,v2),(15,v15),(16,v16),(17,v17)] H Q
theorem G3 (h:Run prog nd B (.c (nd 3) :: s) t H Q):Run prog nd B (.c (.m 3) :: s) t H Q:=run_m.2 h
end term_walk
namespace unify_Find
def nd (_:Nat):C:=.skip
def body:C:=.seq (.reg [.br 2 t_Term (.s 0),.br 3 t_Term (.s 1),.mv 4 (.c (.sl 4 [])),.mv 5 (.c (.bool false))]) (.seq (.reg [.al 6 t_unify_matcher [.nil],.rono t_Bind 4 0 (.s 6)]) (.seq (.reg [.la 8 3 (.s 2),.la 9 3 (.s 3),.call (some 10) n_unify_matcher_match [.s 6,.s 8,.s 9],.mv 7 (.s 10)]) (.seq (.reg [.fa 11 0 (.s 6),.ld 12 (.s 11),.frz 12,.mv 13 (.s 7),.mv 4 (.s 12),.mv 5 (.s 13)]) (.ret))))
def rs:List RV:=[.t 4,.t 5]
attribute [push_cast] nd body
theorem ok:okF prog n_unify_Find nd body 2 rs = true:=by kernel_rfl
end unify_Find
namespace slices_Clone_s_int_int
def nd:Nat→C
 | 0=>.seq (.reg [.bo 5 t_int 1 [],.mv 6 (.s 0),.app 7 t_int 1 8 (.s 5) (.s 6),.mv 2 (.s 7)]) (.ret)
 | _=>.skip
def body:C:=.seq (.reg [.mv 2 (.c .nil),.non 2 t_int 1]) (.seq (.seq (.reg [.mv 3 (.s 0),.nl 4 false (.s 3)]) (.cond (.s 4) (.seq (.reg [.mv 2 (.c .nil),.non 2 t_int 1]) (.ret)) (.skip))) (.n 0))
def rs:List RV:=[.t 2]
attribute [push_cast] nd body
theorem ok:okF prog n_slices_Clone_s_int_int nd body 1 rs = true:=by kernel_rfl
end slices_Clone_s_int_int
namespace slices_IndexFunc_s_Step_Step
def nd:Nat→C
 | 0=>.seq (.reg [.mv 4 (.i (-1))]) (.ret)
 | 1=>.gh [.ks 0 [0,1,7,8]] (.m 3)
 | 2=>.seq (.blk 1 (.seq (.reg [.mv 10 (.s 8),.mv 5 (.s 10)]) (.seq (.reg [.mv 11 (.s 1),.mv 12 (.s 0),.mv 13 (.s 5),.ia 14 2 (.s 12) (.s 13),.la 15 2 (.s 14),.callvp (some 16) (.s 11) [.s 15]]) (.cond (.s 16) (.seq (.reg [.mv 17 (.s 5),.mv 4 (.s 17)]) (.ret)) (.skip))))) (.reg [.bin 18 .add (.s 8) (.i 1),.mv 8 (.s 18)])
 | 3=>.seq (.reg [.bin 9 .lss (.s 8) (.s 7)]) (.seq (.cond (.s 9) (.skip) (.exit 0)) (.n 2))
 | _=>.skip
def body:C:=.seq (.reg [.mv 4 (.i 0)]) (.seq (.seq (.reg [.mv 6 (.s 0),.len 7 (.s 6),.mv 8 (.i 0)]) (.blk 0 (.loop (.n 1)))) (.n 0))
def rs:List RV:=[.t 4]
attribute [push_cast] nd body
theorem ok:okF prog n_slices_IndexFunc_s_Step_Step nd body 2 rs = true:=by kernel_rfl
abbrev L3 (v0 v1 v7 v8:V) (B:Nat) (H:List Ob) (Q:X→T→List Ob→Prop):Prop:=Run prog nd B [.c (.m 3),.c (.loop (.n 1)),.mk 0,.c (.n 0)] [(0,v0),(1,v1),(7,v7),(8,v8)] H Q
theorem G3 (h:Run prog nd B (.c (nd 3) :: s) t H Q):Run prog nd B (.c (.m 3) :: s) t H Q:=run_m.2 h
end slices_IndexFunc_s_Step_Step
namespace slices_Concat_s_int_int
def nd:Nat→C
 | 0=>.seq (.reg [.mv 35 (.s 6),.mv 2 (.s 35)]) (.ret)
 | 1=>.gh [.ks 1 [6,25,26,27]] (.m 3)
 | 2=>.seq (.blk 3 (.seq (.reg [.ia 29 1 (.s 25) (.s 27),.ld 30 (.s 29),.mv 8 (.s 30)]) (.reg [.mv 31 (.s 6),.mv 32 (.s 8),.app 33 t_int 1 8 (.s 31) (.s 32),.mv 6 (.s 33)]))) (.reg [.bin 34 .add (.s 27) (.i 1),.mv 27 (.s 34)])
 | 3=>.seq (.reg [.bin 28 .lss (.s 27) (.s 26)]) (.seq (.cond (.s 28) (.skip) (.exit 2)) (.n 2))
 | 4=>.seq (.reg [.mv 23 (.s 3),.call (some 24) n_slices_Grow_s_int_int [(.c .nil),.s 23],.mv 6 (.s 24)]) (.seq (.seq (.reg [.mv 25 (.s 0),.len 26 (.s 25),.mv 27 (.i 0)]) (.blk 2 (.loop (.n 1)))) (.n 0))
 | 5=>.gh [.ks 0 [0,3,9,10,11]] (.m 7)
 | 6=>.seq (.blk 1 (.seq (.reg [.ia 13 1 (.s 9) (.s 11),.ld 14 (.s 13),.mv 5 (.s 14)]) (.seq (.reg [.mv 15 (.s 3),.mv 16 (.s 5),.len 17 (.s 16),.bin 18 .add (.s 15) (.s 17),.mv 3 (.s 18)]) (.seq (.reg [.mv 19 (.s 3),.bin 20 .lss (.s 19) (.i 0)]) (.cond (.s 20) (.bad) (.skip)))))) (.reg [.bin 22 .add (.s 11) (.i 1),.mv 11 (.s 22)])
 | 7=>.seq (.reg [.bin 12 .lss (.s 11) (.s 10)]) (.seq (.cond (.s 12) (.skip) (.exit 0)) (.n 6))
 | _=>.skip
def body:C:=.seq (.reg [.mv 2 (.c (.sl 1 []))]) (.seq (.reg [.mv 3 (.i 0)]) (.seq (.seq (.reg [.mv 9 (.s 0),.len 10 (.s 9),.mv 11 (.i 0)]) (.blk 0 (.loop (.n 5)))) (.n 4)))
def rs:List RV:=[.t 2]
attribute [push_cast] nd body
theorem ok:okF prog n_slices_Concat_s_int_int nd body 1 rs = true:=by kernel_rfl
abbrev L3 (v6 v25 v26 v27:V) (B:Nat) (H:List Ob) (Q:X→T→List Ob→Prop):Prop:=Run prog nd B [.c (.m 3),.c (.loop (.n 1)),.mk 2,.c (.n 0)] [(6,v6),(25,v25),(26,v26),(27,v27)] H Q
theorem G3 (h:Run prog nd B (.c (nd 3) :: s) t H Q):Run prog nd B (.c (.m 3) :: s) t H Q:=run_m.2 h
abbrev L7 (v0 v3 v9 v10 v11:V) (B:Nat) (H:List Ob) (Q:X→T→List Ob→Prop):Prop:=Run prog nd B [.c (.m 7),.c (.loop (.n 5)),.mk 0,.c (.n 4)] [(0,v0),(3,v3),(9,v9),(10,v10),(11,v11)] H Q
theorem G7 (h:Run prog nd B (.c (nd 7) :: s) t H Q):Run prog nd B (.c (.m 7) :: s) t H Q:=run_m.2 h
end slices_Concat_s_int_int
namespace multi_occurrences
def nd:Nat→C
 | 0=>.seq (.reg [.ld 25 (.s 5),.mv 4 (.s 25)]) (.ret)
 | 1=>.blk 1 (.seq (.reg [.fa 12 1 (.s 7),.ld 13 (.s 12),.mv 14 (.s 13),.gd (.s 14) true [15,16,17,18] [.fa 15 0 (.s 7),.ld 16 (.s 15),.ld 17 (.s 3),.bin 18 .eql (.s 16) (.s 17)],.pick 19 (.s 14) (.s 18) (.c (.bool false))]) (.cond (.s 19) (.dr [0,1,2,3,4,5] [.ld 20 (.s 5),.mv 21 (.s 6),.callp (some 22) n_slices_Clone_s_int_int [.s 21],.bs 23 1 [.s 22],.app 24 t_s_int 1 24 (.s 20) (.s 23),.st 1 (.s 5) (.s 24)]) (.skip)))
 | _=>.skip
def body:C:=.seq (.reg [.br 2 t_Term (.s 0),.br 3 t_string (.s 1),.mv 4 (.c (.sl 1 []))]) (.seq (.reg [.al 5 t_s_s_int [.nil],.ono t_s_int 1 0 (.s 5)]) (.seq (.seq (.reg [.la 8 3 (.s 2),.callp (some 9) n_term_Walk [.s 8]]) (.blk 0 (.rf (.s 9) [10,11] (.seq (.reg [.mv 6 (.s 10)]) (.reg [.al 7 t_Term [.str [],.bool false,.sl 3 []],.sf 7 3 (.s 11)])) (.m 1)))) (.n 0)))
def rs:List RV:=[.t 4]
attribute [push_cast] nd body
theorem ok:okF prog n_multi_occurrences nd body 2 rs = true:=by kernel_rfl
end multi_occurrences
namespace term_Sub
def nd:Nat→C
 | 0=>.seq (.reg [.la 30 3 (.s 2),.st 3 (.s 4) (.s 30),.mv 5 (.c (.bool true))]) (.ret)
 | 1=>.gh [.ks 2 [2,4,8,9,10]] (.m 3)
 | 2=>.seq (.blk 1 (.seq (.reg [.ia 12 1 (.s 8) (.s 10),.ld 13 (.s 12),.mv 7 (.s 13)]) (.seq (.seq (.reg [.mv 14 (.s 7),.bin 15 .lss (.s 14) (.i 0),.mv 16 (.s 15),.gd (.s 16) false [17,18,19,20,21] [.mv 17 (.s 7),.fa 18 2 (.s 2),.ld 19 (.s 18),.len 20 (.s 19),.bin 21 .geq (.s 17) (.s 20)],.pick 22 (.s 16) (.c (.bool true)) (.s 21)]) (.cond (.s 22) (.seq (.reg [.bd 23 [.str [],.bool false,.sl 3 []] [],.st 3 (.s 4) (.s 23),.mv 5 (.c (.bool false))]) (.ret)) (.skip))) (.reg [.fa 24 2 (.s 2),.ld 25 (.s 24),.mv 26 (.s 7),.ia 27 3 (.s 25) (.s 26),.la 28 3 (.s 27),.st 3 (.s 2) (.s 28)])))) (.reg [.bin 29 .add (.s 10) (.i 1),.mv 10 (.s 29)])
 | 3=>.seq (.reg [.bin 11 .lss (.s 10) (.s 9)]) (.seq (.cond (.s 11) (.skip) (.exit 0)) (.n 2))
 | _=>.skip
def body:C:=.seq (.reg [.bx 2 t_Term (.s 0),.al 4 t_Term [.str [],.bool false,.sl 3 []],.mv 5 (.c (.bool false))]) (.seq (.seq (.reg [.mv 8 (.s 1),.len 9 (.s 8),.mv 10 (.i 0)]) (.blk 0 (.loop (.n 1)))) (.n 0))
def rs:List RV:=[.a 4 3,.t 5]
attribute [push_cast] nd body
theorem ok:okF prog n_term_Sub nd body 2 rs = true:=by kernel_rfl
abbrev L3 (v2 v4 v8 v9 v10:V) (B:Nat) (H:List Ob) (Q:X→T→List Ob→Prop):Prop:=Run prog nd B [.c (.m 3),.c (.loop (.n 1)),.mk 0,.c (.n 0)] [(2,v2),(4,v4),(8,v8),(9,v9),(10,v10)] H Q
theorem G3 (h:Run prog nd B (.c (nd 3) :: s) t H Q):Run prog nd B (.c (.m 3) :: s) t H Q:=run_m.2 h
end term_Sub
namespace multi_Equal
def nd (_:Nat):C:=.skip
def body:C:=.seq (.reg [.br 2 t_Multi (.s 0),.br 3 t_Multi (.s 1),.mv 4 (.c (.bool false))]) (.seq (.reg [.fa 5 0 (.s 2),.ld 6 (.s 5),.fa 7 0 (.s 3),.ld 8 (.s 7),.bin 9 .eql (.s 6) (.s 8),.mv 10 (.s 9),.gd (.s 10) true [11,12,13,14,15] [.fa 11 1 (.s 2),.ld 12 (.s 11),.fa 13 1 (.s 3),.ld 14 (.s 13),.bin 15 .eql (.s 12) (.s 14)],.pick 16 (.s 10) (.s 15) (.c (.bool false)),.mv 17 (.s 16),.gd (.s 17) true [18,19,20,21,22] [.fa 18 2 (.s 2),.ld 19 (.s 18),.fa 20 2 (.s 3),.ld 21 (.s 20),.bb 22 .eql (.s 19) (.s 21)],.pick 23 (.s 17) (.s 22) (.c (.bool false)),.mv 24 (.s 23),.gd (.s 24) true [25,26,27,28,29] [.fa 25 3 (.s 2),.ld 26 (.s 25),.fa 27 3 (.s 3),.ld 28 (.s 27),.callp (some 29) n_slices_EqualFunc_s_Multi_s_Multi_Multi_Multi [.s 26,.s 28,(.f n_multi_Equal)]],.pick 30 (.s 24) (.s 29) (.c (.bool false)),.mv 4 (.s 30)]) (.ret))
def rs:List RV:=[.t 4]
attribute [push_cast] nd body
theorem ok:okF prog n_multi_Equal nd body 2 rs = true:=by kernel_rfl
end multi_Equal
namespace term_CheckRules
def nd:Nat→C
 | 0=>.seq (.reg [.mv 2 (.i 0)]) (.ret)
 | 1=>.gh [.ks 0 [9,10,11]] (.m 3)
 | 2=>.seq (.blk 1 (.seq (.reg [.ia 13 6 (.s 9) (.s 11),.la 14 6 (.s 13),.al 4 t_Rule [.str [],.bool false,.sl 3 [],.str [],.bool false,.sl 3 []],.sf 4 6 (.s 14)]) (.seq (.reg [.fa 15 0 (.s 4),.la 16 3 (.s 15),.fa 17 3 (.s 4),.la 18 3 (.s 17),.bs 19 3 [.s 16,.s 18],.callp (some 20) n_term_All [.s 19],.mv 5 (.s 20)]) (.seq (.reg [.mv 21 (.s 5),.bin 22 .neq (.s 21) (.i 0)]) (.cond (.s 22) (.seq (.reg [.mv 23 (.s 5),.mv 2 (.s 23)]) (.ret)) (.skip)))))) (.reg [.bin 24 .add (.s 11) (.i 1),.mv 11 (.s 24)])
 | 3=>.seq (.reg [.bin 12 .lss (.s 11) (.s 10)]) (.seq (.cond (.s 12) (.skip) (.exit 0)) (.n 2))
 | 4=>.seq (.seq (.reg [.mv 9 (.s 0),.len 10 (.s 9),.mv 11 (.i 0)]) (.blk 0 (.loop (.n 1)))) (.n 0)
 | _=>.skip
def body:C:=.seq (.reg [.mv 2 (.i 0)]) (.seq (.seq (.reg [.mv 6 (.s 0),.len 7 (.s 6),.bin 8 .gtr (.s 7) (.i 64)]) (.cond (.s 8) (.seq (.reg [.mv 2 (.i 3)]) (.ret)) (.skip))) (.n 4))
def rs:List RV:=[.t 2]
attribute [push_cast] nd body
theorem ok:okF prog n_term_CheckRules nd body 1 rs = true:=by kernel_rfl
abbrev L3 (v9 v10 v11:V) (B:Nat) (H:List Ob) (Q:X→T→List Ob→Prop):Prop:=Run prog nd B [.c (.m 3),.c (.loop (.n 1)),.mk 0,.c (.n 0)] [(9,v9),(10,v10),(11,v11)] H Q
theorem G3 (h:Run prog nd B (.c (nd 3) :: s) t H Q):Run prog nd B (.c (.m 3) :: s) t H Q:=run_m.2 h
end term_CheckRules
namespace term_Arities
def nd:Nat→C
 | 0=>.seq (.reg [.ld 57 (.s 4),.st 1 (.s 2) (.s 57),.st 1 (.s 3) (.c (.bool true))]) (.ret)
 | 1=>.gh [.ks 4 [2,3,4,10,14,15,16]] (.m 8)
 | 2=>.gh [.ks 5 [2,3,4,10,14,15,16,24,25]] (.m 6)
 | 3=>.seq (.seq (.reg [.ld 35 (.s 4),.fa 36 0 (.s 10),.ld 37 (.s 36),.lkp 38 true true (.int .i64 0) (.s 35) (.s 37),.mv 34 (.s 38),.ex 39 (.s 34) 0,.ex 40 (.s 34) 1,.mv 11 (.s 39),.mv 12 (.s 40)]) (.seq (.reg [.mv 41 (.s 12),.mv 42 (.s 41),.gd (.s 42) true [43,44,45,46,47] [.mv 43 (.s 11),.fa 44 2 (.s 10),.ld 45 (.s 44),.len 46 (.s 45),.bin 47 .neq (.s 43) (.s 46)],.pick 48 (.s 42) (.s 47) (.c (.bool false))]) (.cond (.s 48) (.seq (.reg [.st 1 (.s 2) (.c .nilm),.st 1 (.s 3) (.c (.bool false))]) (.ret)) (.skip)))) (.reg [.ld 49 (.s 4),.fa 50 0 (.s 10),.ld 51 (.s 50),.fa 52 2 (.s 10),.ld 53 (.s 52),.len 54 (.s 53),.mup true (.s 49) (.s 51) (.s 54)])
 | 4=>.blk 5 (.seq (.seq (.reg [.fa 32 1 (.s 10),.ld 33 (.s 32)]) (.cond (.s 33) (.exit 5) (.skip))) (.n 3))
 | 5=>.seq (.blk 3 (.seq (.reg [.ixa 27 3 2 (some 3) (.s 24) (.s 25),.al 8 t_Term [.str [],.bool false,.sl 3 []],.sf 8 3 (.s 27)]) (.seq (.reg [.la 28 3 (.s 8),.callp (some 29) n_term_Walk [.s 28]]) (.blk 4 (.rf (.s 29) [30,31] (.reg [.al 10 t_Term [.str [],.bool false,.sl 3 []],.sf 10 3 (.s 31)]) (.m 4)))))) (.reg [.bin 55 .add (.s 25) (.i 1),.mv 25 (.s 55)])
 | 6=>.seq (.reg [.bin 26 .lss (.s 25) (.i 2)]) (.seq (.cond (.s 26) (.skip) (.exit 2)) (.n 5))
 | 7=>.seq (.blk 1 (.seq (.reg [.ia 18 6 (.s 14) (.s 16),.la 19 6 (.s 18),.al 6 t_Rule [.str [],.bool false,.sl 3 [],.str [],.bool false,.sl 3 []],.sf 6 6 (.s 19)]) (.seq (.reg [.fa 20 0 (.s 6),.la 21 3 (.s 20),.fa 22 3 (.s 6),.la 23 3 (.s 22),.bd 24 [.str [],.bool false,.sl 3 [],.str [],.bool false,.sl 3 []] [(0,3,(.s 21)),(3,3,(.s 23))],.mv 25 (.i 0)]) (.blk 2 (.loop (.n 2)))))) (.reg [.bin 56 .add (.s 16) (.i 1),.mv 16 (.s 56)])
 | 8=>.seq (.reg [.bin 17 .lss (.s 16) (.s 15)]) (.seq (.cond (.s 17) (.skip) (.exit 0)) (.n 7))
 | _=>.skip
def body:C:=.seq (.reg [.al 2 t_m_string_int [.nilm],.al 3 t_bool [.bool false]]) (.seq (.reg [.mkm 13,.al 4 t_m_string_int [.nilm],.st 1 (.s 4) (.s 13)]) (.seq (.seq (.reg [.mv 14 (.s 0),.len 15 (.s 14),.mv 16 (.i 0)]) (.blk 0 (.loop (.n 1)))) (.n 0)))
def rs:List RV:=[.c 2,.c 3]
attribute [push_cast] nd body
theorem ok:okF prog n_term_Arities nd body 1 rs = true:=by kernel_rfl
abbrev L6 (v2 v3 v4 v10 v14 v15 v16 v24 v25:V) (B:Nat) (H:List Ob) (Q:X→T→List Ob→Prop):Prop:=Run prog nd B [.c (.m 6),.c (.loop (.n 2)),.mk 2,.mk 1,.c (.reg [.bin 56 .add (.s 16) (.i 1),.mv 16 (.s 56)]),.c (.loop (.n 1)),.mk 0,.c (.n 0)] [(2,v2),(3,v3),(4,v4),(10,v10),(14,v14),(15,v15),(16,v16),(24,v24),(25,v25)] H Q
theorem G6 (h:Run prog nd B (.c (nd 6) :: s) t H Q):Run prog nd B (.c (.m 6) :: s) t H Q:=run_m.2 h
abbrev L8 (v2 v3 v4 v10 v14 v15 v16:V) (B:Nat) (H:List Ob) (Q:X→T→List Ob→Prop):Prop:=Run prog nd B [.c (.m 8),.c (.loop (.n 1)),.mk 0,.c (.n 0)] [(2,v2),(3,v3),(4,v4),(10,v10),(14,v14),(15,v15),(16,v16)] H Q
theorem G8 (h:Run prog nd B (.c (nd 8) :: s) t H Q):Run prog nd B (.c (.m 8) :: s) t H Q:=run_m.2 h
end term_Arities
namespace term_Marked
def nd (_:Nat):C:=.skip
def body:C:=.seq (.reg [.mv 2 (.c (.bool false))]) (.seq (.reg [.mv 3 (.s 0),.callp (some 4) n_strings_HasSuffix [.s 3,(.c (.str [35]))],.mv 2 (.s 4)]) (.ret))
def rs:List RV:=[.t 2]
attribute [push_cast] nd body
theorem ok:okF prog n_term_Marked nd body 1 rs = true:=by kernel_rfl
end term_Marked
namespace slices_ContainsFunc_s_Rule_Rule
def nd (_:Nat):C:=.skip
def body:C:=.seq (.reg [.mv 4 (.c (.bool false))]) (.seq (.reg [.mv 5 (.s 0),.mv 6 (.s 1),.callp (some 7) n_slices_IndexFunc_s_Rule_Rule [.s 5,.s 6],.bin 8 .geq (.s 7) (.i 0),.mv 4 (.s 8)]) (.ret))
def rs:List RV:=[.t 4]
attribute [push_cast] nd body
theorem ok:okF prog n_slices_ContainsFunc_s_Rule_Rule nd body 2 rs = true:=by kernel_rfl
end slices_ContainsFunc_s_Rule_Rule
namespace term_extra
def nd (_:Nat):C:=.skip
def body:C:=.seq (.reg [.br 1 t_Rule (.s 0),.mv 2 (.c (.bool false))]) (.seq (.reg [.fa 4 0 (.s 1),.la 5 3 (.s 4),.bs 6 3 [.s 5],.callp (some 7) n_term_VarsOf [.s 6],.al 3 t_s_string [.sl 1 []],.sf 3 1 (.s 7)]) (.seq (.reg [.fa 8 0 (.s 1),.fa 9 1 (.s 8),.ld 10 (.s 9),.mv 11 (.s 10),.gd (.s 11) false [12,13,14,15,16,17] [.fa 12 3 (.s 1),.la 13 3 (.s 12),.bs 14 3 [.s 13],.callp (some 15) n_term_VarsOf [.s 14],.mf 16 n_term_extra_1 [] [.s 3],.callp (some 17) n_slices_ContainsFunc_s_string_string [.s 15,.s 16]],.pick 18 (.s 11) (.c (.bool true)) (.s 17),.mv 2 (.s 18)]) (.ret)))
def rs:List RV:=[.t 2]
attribute [push_cast] nd body
theorem ok:okF prog n_term_extra nd body 1 rs = true:=by kernel_rfl
end term_extra
end Go.Dw
end
section
namespace Go.Dw
variable {s:List K} {B:Nat} {t:T} {H:List Ob} {Q:X→T→List Ob→Prop}
namespace multi_all
def nd (_:Nat):C:=.skip
def body:C:=.seq (.reg [.br 2 t_Multi (.s 0),.br 3 t_func_Multi_bool (.s 1),.mv 4 (.c (.bool false))]) (.seq (.reg [.ld 5 (.s 3),.la 6 4 (.s 2),.callvp (some 7) (.s 5) [.s 6],.mv 8 (.s 7),.gd (.s 8) true [9,10,11,12,13] [.fa 9 3 (.s 2),.ld 10 (.s 9),.mf 11 n_multi_all_1 [] [.s 3],.callp (some 12) n_slices_ContainsFunc_s_Multi_Multi [.s 10,.s 11],.un 13 .not (.s 12)],.pick 14 (.s 8) (.s 13) (.c (.bool false)),.mv 4 (.s 14)]) (.ret))
def rs:List RV:=[.t 4]
attribute [push_cast] nd body
theorem ok:okF prog n_multi_all nd body 2 rs = true:=by kernel_rfl
end multi_all
namespace multi_Check_1
def nd (_:Nat):C:=.skip
def body:C:=.seq (.reg [.br 2 t_Multi (.s 0),.mv 3 (.c (.bool false))]) (.seq (.reg [.fa 4 0 (.s 2),.ld 5 (.s 4),.bin 6 .geq (.s 5) (.i 0),.mv 7 (.s 6),.gd (.s 7) true [8,9,10,11,12] [.fa 8 0 (.s 2),.ld 9 (.s 8),.ld 10 (.s 1),.len 11 (.s 10),.bin 12 .leq (.s 9) (.s 11)],.pick 13 (.s 7) (.s 12) (.c (.bool false)),.mv 3 (.s 13)]) (.ret))
def rs:List RV:=[.t 3]
attribute [push_cast] nd body
theorem ok:okF prog n_multi_Check_1 nd body 2 rs = true:=by kernel_rfl
end multi_Check_1
namespace multi_Check_2
def nd (_:Nat):C:=.skip
def body:C:=.seq (.reg [.br 2 t_Multi (.s 0),.mv 3 (.c (.bool false))]) (.seq (.reg [.ld 4 (.s 1),.la 5 4 (.s 2),.callp (some 6) n_multi_formed [.s 4,.s 5],.mv 3 (.s 6)]) (.ret))
def rs:List RV:=[.t 3]
attribute [push_cast] nd body
theorem ok:okF prog n_multi_Check_2 nd body 2 rs = true:=by kernel_rfl
end multi_Check_2
namespace multi_formed
def nd:Nat→C
 | 0=>.seq (.reg [.fa 45 3 (.s 3),.ld 46 (.s 45),.len 47 (.s 46),.bin 48 .leq (.s 47) (.i 8),.mv 49 (.s 48),.gd (.s 49) true [50,51,52] [.fa 50 1 (.s 3),.ld 51 (.s 50),.callp (some 52) n_term_IsName [.s 51,(.c (.bool true))]],.pick 53 (.s 49) (.s 52) (.c (.bool false)),.mv 4 (.s 53)]) (.ret)
 | _=>.skip
def body:C:=.seq (.reg [.br 3 t_Multi (.s 1),.mv 4 (.c (.bool false))]) (.seq (.blk 0 (.seq (.reg [.fa 6 0 (.s 3),.ld 7 (.s 6),.bin 8 .gtr (.s 7) (.i 0),.mv 5 (.s 8)]) (.cond (.s 5) (.seq (.dr [0,1,2,3,4,5,6,7,8,9,10,11,12,13,14,15,16,17,18,19,20,21,22,23,24] [.fa 9 1 (.s 3),.ld 10 (.s 9),.bin 11 .eql (.s 10) (.c (.str [])),.mv 12 (.s 11),.gd (.s 12) true [13] [.fa 13 2 (.s 3)],.gd (.s 12) true [14] [.ld 14 (.s 13)],.gd (.s 12) true [15] [.un 15 .not (.s 14)],.pick 16 (.s 12) (.s 15) (.c (.bool false)),.mv 17 (.s 16),.gd (.s 17) true [18] [.fa 18 3 (.s 3)],.gd (.s 17) true [19] [.ld 19 (.s 18)],.gd (.s 17) true [20] [.len 20 (.s 19)],.gd (.s 17) true [21] [.mv 21 (.s 0)],.gd (.s 17) true [22] [.fa 22 0 (.s 3)],.gd (.s 17) true [23] [.ld 23 (.s 22)],.gd (.s 17) true [24] [.bin 24 .sub (.s 23) (.i 1)],.gd (.s 17) true [25] [.ia 25 6 (.s 21) (.s 24)],.gd (.s 17) true [26] [.fa 26 0 (.s 25)],.gd (.s 17) true [27] [.la 27 3 (.s 26)],.gd (.s 17) true [28] [.bs 28 3 [.s 27]],.gd (.s 17) true [29] [.callp (some 29) n_term_VarsOf [.s 28]],.gd (.s 17) true [30] [.len 30 (.s 29)],.gd (.s 17) true [31] [.bin 31 .eql (.s 20) (.s 30)],.pick 32 (.s 17) (.s 31) (.c (.bool false)),.mv 4 (.s 32)]) (.ret)) (.seq (.reg [.fa 34 2 (.s 3),.ld 35 (.s 34),.mv 33 (.s 35)]) (.cond (.s 33) (.seq (.reg [.fa 36 3 (.s 3),.ld 37 (.s 36),.len 38 (.s 37),.bin 39 .eql (.s 38) (.i 0),.mv 40 (.s 39),.gd (.s 40) true [41,42,43] [.fa 41 1 (.s 3),.ld 42 (.s 41),.callp (some 43) n_term_IsName [.s 42,(.c (.bool false))]],.pick 44 (.s 40) (.s 43) (.c (.bool false)),.mv 4 (.s 44)]) (.ret)) (.skip)))))) (.n 0))
def rs:List RV:=[.t 4]
attribute [push_cast] nd body
theorem ok:okF prog n_multi_formed nd body 2 rs = true:=by kernel_rfl
end multi_formed
namespace multi_plug
def nd:Nat→C
 | 0=>.seq (.reg [.la 39 3 (.s 7),.st 3 (.s 6) (.s 39)]) (.ret)
 | 1=>.gh [.ks 3 [1,2,6,7,23,24,25]] (.m 3)
 | 2=>.seq (.blk 1 (.seq (.reg [.ia 27 3 (.s 23) (.s 25),.la 28 3 (.s 27),.al 9 t_Term [.str [],.bool false,.sl 3 []],.sf 9 3 (.s 28)]) (.dr [0,1,2,3,4,5,6,7,8,9] [.fa 29 2 (.s 7),.ld 30 (.s 29),.la 31 3 (.s 9),.mv 32 (.s 1),.mv 33 (.s 2),.callp (some 34) n_multi_plug [.s 31,.s 32,.s 33],.bs 35 3 [.s 34],.app 36 t_Term 3 48 (.s 30) (.s 35),.fa 37 2 (.s 7),.st 1 (.s 37) (.s 36)]))) (.reg [.bin 38 .add (.s 25) (.i 1),.mv 25 (.s 38)])
 | 3=>.seq (.reg [.bin 26 .lss (.s 25) (.s 24)]) (.seq (.cond (.s 26) (.skip) (.exit 0)) (.n 2))
 | 4=>.seq (.reg [.fa 19 0 (.s 3),.ld 20 (.s 19),.bd 21 [.str [],.bool false,.nil] [(0,1,(.s 20))],.al 7 t_Term [.str [],.bool false,.nil],.st 3 (.s 7) (.s 21),.ono t_Term 3 2 (.s 7)]) (.seq (.seq (.reg [.fa 22 2 (.s 3),.ld 23 (.s 22),.len 24 (.s 23),.mv 25 (.i 0)]) (.blk 0 (.loop (.n 1)))) (.n 0))
 | _=>.skip
def body:C:=.seq (.reg [.br 3 t_Term (.s 0),.al 6 t_Term [.str [],.bool false,.sl 3 []]]) (.seq (.seq (.reg [.fa 10 1 (.s 3),.ld 11 (.s 10)]) (.cond (.s 11) (.seq (.reg [.mv 12 (.s 2),.mv 13 (.s 1),.fa 14 0 (.s 3),.ld 15 (.s 14),.callp (some 16) n_slices_Index_s_string_string [.s 13,.s 15],.ia 17 3 (.s 12) (.s 16),.la 18 3 (.s 17),.st 3 (.s 6) (.s 18)]) (.ret)) (.skip))) (.n 4))
def rs:List RV:=[.a 6 3]
attribute [push_cast] nd body
theorem ok:okF prog n_multi_plug nd body 3 rs = true:=by kernel_rfl
abbrev L3 (v1 v2 v6 v7 v23 v24 v25:V) (B:Nat) (H:List Ob) (Q:X→T→List Ob→Prop):Prop:=Run prog nd B [.c (.m 3),.c (.loop (.n 1)),.mk 0,.c (.n 0)] [(1,v1),(2,v2),(6,v6),(7,v7),(23,v23),(24,v24),(25,v25)] H Q
theorem G3 (h:Run prog nd B (.c (nd 3) :: s) t H Q):Run prog nd B (.c (.m 3) :: s) t H Q:=run_m.2 h
end multi_plug
namespace multi_large_1
def nd (_:Nat):C:=.skip
def body:C:=.seq (.reg [.br 3 t_Term (.s 0),.mv 4 (.c (.bool false))]) (.seq (.reg [.ld 5 (.s 1),.bin 6 .sub (.s 5) (.i 1),.st 1 (.s 1) (.s 6)]) (.seq (.reg [.ld 7 (.s 1),.bin 8 .lss (.s 7) (.i 0),.mv 9 (.s 8),.gd (.s 9) false [10,11,12,13] [.fa 10 2 (.s 3),.ld 11 (.s 10),.ld 12 (.s 2),.call (some 13) n_slices_ContainsFunc_s_Term_Term [.s 11,.s 12]],.pick 14 (.s 9) (.c (.bool true)) (.s 13),.mv 4 (.s 14)]) (.ret)))
def rs:List RV:=[.t 4]
attribute [push_cast] nd body
theorem ok:okF prog n_multi_large_1 nd body 3 rs = true:=by kernel_rfl
end multi_large_1
namespace overlap_All
def nd:Nat→C
 | 0=>.seq (.reg [.ld 81 (.s 4),.st 1 (.s 2) (.s 81),.st 1 (.s 3) (.i 0)]) (.ret)
 | 1=>.gh [.ks 4 [1,2,3,4,8,9,15,16,17]] (.m 11)
 | 2=>.gh [.ks 1 [2,3,4,5,6,8,9,39,40,41]] (.m 7)
 | 3=>.seq (.reg [.ld 76 (.s 4),.len 77 (.s 76),.bin 78 .gtr (.s 77) (.i 4096)]) (.cond (.s 78) (.seq (.reg [.st 1 (.s 2) (.c (.sl 12 [])),.st 1 (.s 3) (.i 3)]) (.ret)) (.skip))
 | 4=>.seq (.seq (.reg [.mv 67 (.s 13)]) (.cond (.s 67) (.seq (.reg [.ld 68 (.s 5),.mv 69 (.s 10),.fa 70 0 (.s 12),.st 1 (.s 70) (.s 68),.fa 71 1 (.s 12),.st 1 (.s 71) (.s 69)]) (.reg [.ld 72 (.s 4),.la 73 12 (.s 12),.bs 74 12 [.s 73],.app 75 t_Overlap 12 184 (.s 72) (.s 74),.st 1 (.s 4) (.s 75)])) (.skip))) (.n 3)
 | 5=>.seq (.dr [0,1,2,3,4,5,6,7,8,9,10,11,12,13] [.la 55 6 (.s 6),.la 56 6 (.s 11),.callp (some 57) n_overlap_inner [.s 56],.mv 58 (.s 8),.la 59 3 (.s 9),.callp (some 60) n_overlap_one [.s 55,.s 57,.s 58,.s 59],.mv 54 (.s 60),.ex 61 (.s 54) 0,.ex 62 (.s 54) 1,.ex 63 (.s 54) 2,.al 12 t_Overlap [.int .i64 0,.int .i64 0,.sl 1 [],.str [],.bool false,.sl 3 [],.str [],.bool false,.sl 3 [],.str [],.bool false,.sl 3 []],.st 12 (.s 12) (.s 61),.mv 13 (.s 62),.mv 14 (.s 63)]) (.seq (.seq (.reg [.mv 64 (.s 14),.bin 65 .neq (.s 64) (.i 0)]) (.cond (.s 65) (.seq (.reg [.mv 66 (.s 14),.st 1 (.s 2) (.c (.sl 12 [])),.st 1 (.s 3) (.s 66)]) (.ret)) (.skip))) (.n 4))
 | 6=>.seq (.blk 5 (.seq (.reg [.mv 43 (.s 41),.ia 44 6 (.s 39) (.s 41),.la 45 6 (.s 44),.al 11 t_Rule [.str [],.bool false,.sl 3 [],.str [],.bool false,.sl 3 []],.mv 10 (.s 43),.sf 11 6 (.s 45)]) (.seq (.seq (.reg [.ld 46 (.s 5),.mv 47 (.s 10),.bin 48 .eql (.s 46) (.s 47),.mv 49 (.s 48),.gd (.s 49) true [50,51,52] [.mv 50 (.s 8),.len 51 (.s 50),.bin 52 .eql (.s 51) (.i 0)],.pick 53 (.s 49) (.s 52) (.c (.bool false))]) (.cond (.s 53) (.exit 5) (.skip))) (.n 5)))) (.reg [.bin 79 .add (.s 41) (.i 1),.mv 41 (.s 79)])
 | 7=>.seq (.reg [.bin 42 .lss (.s 41) (.s 40)]) (.seq (.cond (.s 42) (.skip) (.exit 4)) (.n 6))
 | 8=>.seq (.reg [.ld 39 (.s 1),.len 40 (.s 39),.mv 41 (.i 0)]) (.blk 4 (.loop (.n 2)))
 | 9=>.blk 3 (.seq (.seq (.reg [.fa 37 1 (.s 9),.ld 38 (.s 37)]) (.cond (.s 38) (.exit 3) (.skip))) (.n 8))
 | 10=>.seq (.blk 1 (.seq (.reg [.mv 19 (.s 17),.ia 20 6 (.s 15) (.s 17),.la 21 6 (.s 20),.al 5 t_int [.int .i64 0],.al 6 t_Rule [.str [],.bool false,.sl 3 [],.str [],.bool false,.sl 3 []],.sf 5 1 (.s 19),.st 6 (.s 6) (.s 21)]) (.seq (.reg [.call (some 22) n_term_Standard [],.mv 7 (.s 22)]) (.seq (.dr [0,1,2,4] [.mv 23 (.s 7),.fa 24 0 (.s 6),.la 25 3 (.s 24),.mv 27 (.s 7),.alt [([3,5,6,7,8,9],[.callv (some 26) (.s 23) [.s 25],.fa 28 3 (.s 6),.la 29 3 (.s 28),.callv (some 30) (.s 27) [.s 29],.bd 31 [.str [],.bool false,.sl 3 [],.str [],.bool false,.sl 3 []] [(0,3,(.s 26)),(3,3,(.s 30))],.st 6 (.s 6) (.s 31)]),([5],[.fa 28 3 (.s 6),.alt [([3,6,7,8,9],[.callv (some 26) (.s 23) [.s 25],.la 29 3 (.s 28),.callv (some 30) (.s 27) [.s 29],.bd 31 [.str [],.bool false,.sl 3 [],.str [],.bool false,.sl 3 []] [(0,3,(.s 26)),(3,3,(.s 30))],.st 6 (.s 6) (.s 31)]),([6,3,7,8,9],[.la 29 3 (.s 28),.callv (some 26) (.s 23) [.s 25],.callv (some 30) (.s 27) [.s 29],.bd 31 [.str [],.bool false,.sl 3 [],.str [],.bool false,.sl 3 []] [(0,3,(.s 26)),(3,3,(.s 30))],.st 6 (.s 6) (.s 31)])]])]]) (.seq (.reg [.fa 32 0 (.s 6),.la 33 3 (.s 32),.callp (some 34) n_term_Walk [.s 33]]) (.blk 2 (.rf (.s 34) [35,36] (.seq (.reg [.mv 8 (.s 35)]) (.reg [.al 9 t_Term [.str [],.bool false,.sl 3 []],.sf 9 3 (.s 36)])) (.m 9)))))))) (.reg [.bin 80 .add (.s 17) (.i 1),.mv 17 (.s 80)])
 | 11=>.seq (.reg [.bin 18 .lss (.s 17) (.s 16)]) (.seq (.cond (.s 18) (.skip) (.exit 0)) (.n 10))
 | _=>.skip
def body:C:=.seq (.reg [.br 1 t_s_Rule (.s 0),.al 2 t_s_Overlap [.sl 12 []],.al 3 t_Errno [.int .i64 0]]) (.seq (.reg [.al 4 t_s_Overlap [.nil],.ono t_Overlap 12 0 (.s 4)]) (.seq (.seq (.reg [.ld 15 (.s 1),.len 16 (.s 15),.mv 17 (.i 0)]) (.blk 0 (.loop (.n 1)))) (.n 0)))
def rs:List RV:=[.c 2,.c 3]
attribute [push_cast] nd body
theorem ok:okF prog n_overlap_All nd body 1 rs = true:=by kernel_rfl
abbrev L7 (v2 v3 v4 v5 v6 v8 v9 v39 v40 v41:V) (B:Nat) (H:List Ob) (Q:X→T→List Ob→Prop):Prop:=Run prog nd B [.c (.m 7),.c (.loop (.n 2)),.mk 4,.mk 3] [(2,v2),(3,v3),(4,v4),(5,v5),(6,v6),(8,v8),(9,v9),(39,v39),(40,v40),(41,v41)] H Q
theorem G7 (h:Run prog nd B (.c (nd 7) :: s) t H Q):Run prog nd B (.c (.m 7) :: s) t H Q:=run_m.2 h
abbrev L11 (v1 v2 v3 v4 v8 v9 v15 v16 v17:V) (B:Nat) (H:List Ob) (Q:X→T→List Ob→Prop):Prop:=Run prog nd B [.c (.m 11),.c (.loop (.n 1)),.mk 0,.c (.n 0)] [(1,v1),(2,v2),(3,v3),(4,v4),(8,v8),(9,v9),(15,v15),(16,v16),(17,v17)] H Q
theorem G11 (h:Run prog nd B (.c (nd 11) :: s) t H Q):Run prog nd B (.c (.m 11) :: s) t H Q:=run_m.2 h
end overlap_All
namespace overlap_left_1
def nd (_:Nat):C:=.skip
def body:C:=.seq (.reg [.br 1 t_Rule (.s 0),.mv 2 (.c (.bool false))]) (.seq (.reg [.fa 3 0 (.s 1),.la 4 3 (.s 3),.callp (some 5) n_overlap_Linear [.s 4],.un 6 .not (.s 5),.mv 2 (.s 6)]) (.ret))
def rs:List RV:=[.t 2]
attribute [push_cast] nd body
theorem ok:okF prog n_overlap_left_1 nd body 1 rs = true:=by kernel_rfl
end overlap_left_1
namespace overlap_Linear
def nd (_:Nat):C:=.skip
def body:C:=.seq (.reg [.br 1 t_Term (.s 0),.mv 2 (.c (.bool false))]) (.seq (.reg [.la 3 3 (.s 1),.bs 4 3 [.s 3],.callp (some 5) n_term_VarsOf [.s 4],.mf 6 n_overlap_Linear_1 [] [.s 1],.callp (some 7) n_slices_ContainsFunc_s_string_string [.s 5,.s 6],.un 8 .not (.s 7),.mv 2 (.s 8)]) (.ret))
def rs:List RV:=[.t 2]
attribute [push_cast] nd body
theorem ok:okF prog n_overlap_Linear nd body 1 rs = true:=by kernel_rfl
end overlap_Linear
namespace strings_TrimSuffix
def nd (_:Nat):C:=.skip
def body:C:=.seq (.reg [.mv 4 (.c (.str []))]) (.seq (.reg [.mv 5 (.s 0),.mv 6 (.s 1),.callp (some 7) n_stringslite_TrimSuffix [.s 5,.s 6],.mv 4 (.s 7)]) (.ret))
def rs:List RV:=[.t 4]
attribute [push_cast] nd body
theorem ok:okF prog n_strings_TrimSuffix nd body 2 rs = true:=by kernel_rfl
end strings_TrimSuffix
namespace slices_ContainsFunc_s_byte_byte
def nd (_:Nat):C:=.skip
def body:C:=.seq (.reg [.mv 4 (.c (.bool false))]) (.seq (.reg [.mv 5 (.s 0),.mv 6 (.s 1),.callp (some 7) n_slices_IndexFunc_s_byte_byte [.s 5,.s 6],.bin 8 .geq (.s 7) (.i 0),.mv 4 (.s 8)]) (.ret))
def rs:List RV:=[.t 4]
attribute [push_cast] nd body
theorem ok:okF prog n_slices_ContainsFunc_s_byte_byte nd body 2 rs = true:=by kernel_rfl
end slices_ContainsFunc_s_byte_byte
namespace term_IsName_1
def nd (_:Nat):C:=.skip
def body:C:=.seq (.reg [.mv 2 (.c (.bool false))]) (.seq (.reg [.mv 3 (.s 0),.callp (some 4) n_term_inName [.s 3],.un 5 .not (.s 4),.mv 2 (.s 5)]) (.ret))
def rs:List RV:=[.t 2]
attribute [push_cast] nd body
theorem ok:okF prog n_term_IsName_1 nd body 1 rs = true:=by kernel_rfl
end term_IsName_1
namespace term_inName
def nd (_:Nat):C:=.skip
def body:C:=.seq (.reg [.mv 2 (.c (.bool false))]) (.seq (.reg [.mv 3 (.s 0),.bin 4 .geq (.s 3) (.c (.int .u8 97)),.mv 5 (.s 4),.gd (.s 5) true [6,7] [.mv 6 (.s 0),.bin 7 .leq (.s 6) (.c (.int .u8 122))],.pick 8 (.s 5) (.s 7) (.c (.bool false)),.mv 9 (.s 8),.gd (.s 9) false [10,11,12] [.mv 10 (.s 0),.bin 11 .geq (.s 10) (.c (.int .u8 65)),.mv 12 (.s 11)],.gd (.s 12) true [13,14] [.mv 13 (.s 0),.bin 14 .leq (.s 13) (.c (.int .u8 90))],.gd (.s 9) false [15] [.pick 15 (.s 12) (.s 14) (.c (.bool false))],.pick 16 (.s 9) (.c (.bool true)) (.s 15),.mv 17 (.s 16),.gd (.s 17) false [18,19,20] [.mv 18 (.s 0),.bin 19 .geq (.s 18) (.c (.int .u8 48)),.mv 20 (.s 19)],.gd (.s 20) true [21,22] [.mv 21 (.s 0),.bin 22 .leq (.s 21) (.c (.int .u8 57))],.gd (.s 17) false [23] [.pick 23 (.s 20) (.s 22) (.c (.bool false))],.pick 24 (.s 17) (.c (.bool true)) (.s 23),.mv 25 (.s 24),.gd (.s 25) false [26,27] [.mv 26 (.s 0),.bin 27 .eql (.s 26) (.c (.int .u8 95))],.pick 28 (.s 25) (.c (.bool true)) (.s 27),.mv 29 (.s 28),.gd (.s 29) false [30,31] [.mv 30 (.s 0),.bin 31 .eql (.s 30) (.c (.int .u8 39))],.pick 32 (.s 29) (.c (.bool true)) (.s 31),.mv 2 (.s 32)]) (.ret))
def rs:List RV:=[.t 2]
attribute [push_cast] nd body
theorem ok:okF prog n_term_inName nd body 1 rs = true:=by kernel_rfl
end term_inName
namespace slices_IndexFunc_s_Term_Term
def nd:Nat→C
 | 0=>.seq (.reg [.mv 4 (.i (-1))]) (.ret)
 | 1=>.gh [.ks 0 [0,1,7,8]] (.m 3)
 | 2=>.seq (.blk 1 (.seq (.reg [.mv 10 (.s 8),.mv 5 (.s 10)]) (.seq (.reg [.mv 11 (.s 1),.mv 12 (.s 0),.mv 13 (.s 5),.ia 14 3 (.s 12) (.s 13),.la 15 3 (.s 14),.callvp (some 16) (.s 11) [.s 15]]) (.cond (.s 16) (.seq (.reg [.mv 17 (.s 5),.mv 4 (.s 17)]) (.ret)) (.skip))))) (.reg [.bin 18 .add (.s 8) (.i 1),.mv 8 (.s 18)])
 | 3=>.seq (.reg [.bin 9 .lss (.s 8) (.s 7)]) (.seq (.cond (.s 9) (.skip) (.exit 0)) (.n 2))
 | _=>.skip
def body:C:=.seq (.reg [.mv 4 (.i 0)]) (.seq (.seq (.reg [.mv 6 (.s 0),.len 7 (.s 6),.mv 8 (.i 0)]) (.blk 0 (.loop (.n 1)))) (.n 0))
def rs:List RV:=[.t 4]
attribute [push_cast] nd body
theorem ok:okF prog n_slices_IndexFunc_s_Term_Term nd body 2 rs = true:=by kernel_rfl
abbrev L3 (v0 v1 v7 v8:V) (B:Nat) (H:List Ob) (Q:X→T→List Ob→Prop):Prop:=Run prog nd B [.c (.m 3),.c (.loop (.n 1)),.mk 0,.c (.n 0)] [(0,v0),(1,v1),(7,v7),(8,v8)] H Q
theorem G3 (h:Run prog nd B (.c (nd 3) :: s) t H Q):Run prog nd B (.c (.m 3) :: s) t H Q:=run_m.2 h
end slices_IndexFunc_s_Term_Term
namespace unify_matcher_match
def nd:Nat→C
 | 0=>.seq (.reg [.mv 6 (.c (.bool true))]) (.ret)
 | 1=>.gh [.ks 0 [0,4,5,57,58]] (.m 3)
 | 2=>.seq (.blk 1 (.seq (.reg [.mv 60 (.s 58),.mv 9 (.s 60)]) (.seq (.dr [0,1,2,3,4,5,6,7,8,9,10,11,12] [.mv 61 (.s 0),.fa 62 2 (.s 4),.ld 63 (.s 62),.mv 64 (.s 9),.ia 65 3 (.s 63) (.s 64),.la 66 3 (.s 65),.fa 67 2 (.s 5),.ld 68 (.s 67),.mv 69 (.s 9),.ia 70 3 (.s 68) (.s 69),.la 71 3 (.s 70),.call (some 72) n_unify_matcher_match [.s 61,.s 66,.s 71],.un 73 .not (.s 72)]) (.cond (.s 73) (.seq (.reg [.mv 6 (.c (.bool false))]) (.ret)) (.skip))))) (.reg [.bin 74 .add (.s 58) (.i 1),.mv 58 (.s 74)])
 | 3=>.seq (.reg [.bin 59 .lss (.s 58) (.s 57)]) (.seq (.cond (.s 59) (.skip) (.exit 0)) (.n 2))
 | 4=>.seq (.seq (.reg [.fa 55 2 (.s 4),.ld 56 (.s 55),.len 57 (.s 56),.mv 58 (.i 0)]) (.blk 0 (.loop (.n 1)))) (.n 0)
 | 5=>.seq (.seq (.reg [.fa 37 1 (.s 5),.ld 38 (.s 37),.mv 39 (.s 38),.gd (.s 39) false [40,41,42,43,44] [.fa 40 0 (.s 4),.ld 41 (.s 40),.fa 42 0 (.s 5),.ld 43 (.s 42),.bin 44 .neq (.s 41) (.s 43)],.pick 45 (.s 39) (.c (.bool true)) (.s 44),.mv 46 (.s 45),.gd (.s 46) false [47,48,49,50,51,52,53] [.fa 47 2 (.s 4),.ld 48 (.s 47),.len 49 (.s 48),.fa 50 2 (.s 5),.ld 51 (.s 50),.len 52 (.s 51),.bin 53 .neq (.s 49) (.s 52)],.pick 54 (.s 46) (.c (.bool true)) (.s 53)]) (.cond (.s 54) (.seq (.reg [.mv 6 (.c (.bool false))]) (.ret)) (.skip))) (.n 4)
 | 6=>.seq (.dr [0,1,2,3,4,5,6,7,8,9,10,11] [.mv 26 (.s 0),.mv 27 (.s 0),.nc 28 (.s 27),.fa 29 0 (.s 28),.ld 30 (.s 29),.fa 31 0 (.s 4),.ld 32 (.s 31),.la 33 3 (.s 5),.call (some 34) n_unify_bind [.s 30,.s 32,.s 33],.nc 35 (.s 26),.fa 36 0 (.s 35),.st 1 (.s 36) (.s 34)]) (.seq (.reg [.mv 6 (.c (.bool true))]) (.ret))
 | _=>.skip
def body:C:=.seq (.reg [.br 4 t_Term (.s 1),.br 5 t_Term (.s 2),.mv 6 (.c (.bool false))]) (.seq (.seq (.reg [.fa 10 1 (.s 4),.ld 11 (.s 10)]) (.cond (.s 11) (.seq (.seq (.dr [0,1,2,3,4,5] [.mv 13 (.s 0),.nc 14 (.s 13),.fa 15 0 (.s 14),.ld 16 (.s 15),.fa 17 0 (.s 4),.ld 18 (.s 17),.alt [([6,7,8,9,10,11,12],[.call (some 19) n_term_Image [.s 16,.s 18],.mv 12 (.s 19),.ex 20 (.s 12) 0,.ex 21 (.s 12) 1,.al 7 t_Term [.str [],.bool false,.sl 3 []],.sf 7 3 (.s 20),.mv 8 (.s 21)]),([10,6,7,8,9,11,12],[.al 7 t_Term [.str [],.bool false,.sl 3 []],.call (some 19) n_term_Image [.s 16,.s 18],.mv 12 (.s 19),.ex 20 (.s 12) 0,.ex 21 (.s 12) 1,.sf 7 3 (.s 20),.mv 8 (.s 21)])]]) (.seq (.reg [.mv 22 (.s 8)]) (.cond (.s 22) (.seq (.reg [.la 23 3 (.s 7),.la 24 3 (.s 5),.callp (some 25) n_term_Equal [.s 23,.s 24],.mv 6 (.s 25)]) (.ret)) (.skip)))) (.n 6)) (.skip))) (.n 5))
def rs:List RV:=[.t 6]
attribute [push_cast] nd body
theorem ok:okF prog n_unify_matcher_match nd body 3 rs = true:=by kernel_rfl
abbrev L3 (v0 v4 v5 v57 v58:V) (B:Nat) (H:List Ob) (Q:X→T→List Ob→Prop):Prop:=Run prog nd B [.c (.m 3),.c (.loop (.n 1)),.mk 0,.c (.n 0)] [(0,v0),(4,v4),(5,v5),(57,v57),(58,v58)] H Q
theorem G3 (h:Run prog nd B (.c (nd 3) :: s) t H Q):Run prog nd B (.c (.m 3) :: s) t H Q:=run_m.2 h
end unify_matcher_match
namespace slices_EqualFunc_s_Multi_s_Multi_Multi_Multi
def nd:Nat→C
 | 0=>.seq (.reg [.mv 6 (.c (.bool true))]) (.ret)
 | 1=>.gh [.ks 0 [1,2,15,16,17]] (.m 3)
 | 2=>.seq (.blk 1 (.seq (.reg [.mv 19 (.s 17),.ia 20 4 (.s 15) (.s 17),.la 21 4 (.s 20),.al 8 t_Multi [.int .i64 0,.str [],.bool false,.sl 4 []],.mv 7 (.s 19),.sf 8 4 (.s 21)]) (.seq (.reg [.mv 22 (.s 1),.mv 23 (.s 7),.ia 24 4 (.s 22) (.s 23),.la 25 4 (.s 24),.al 9 t_Multi [.int .i64 0,.str [],.bool false,.sl 4 []],.sf 9 4 (.s 25)]) (.seq (.reg [.mv 26 (.s 2),.la 27 4 (.s 8),.la 28 4 (.s 9),.callvp (some 29) (.s 26) [.s 27,.s 28],.un 30 .not (.s 29)]) (.cond (.s 30) (.seq (.reg [.mv 6 (.c (.bool false))]) (.ret)) (.skip)))))) (.reg [.bin 31 .add (.s 17) (.i 1),.mv 17 (.s 31)])
 | 3=>.seq (.reg [.bin 18 .lss (.s 17) (.s 16)]) (.seq (.cond (.s 18) (.skip) (.exit 0)) (.n 2))
 | 4=>.seq (.seq (.reg [.mv 15 (.s 0),.len 16 (.s 15),.mv 17 (.i 0)]) (.blk 0 (.loop (.n 1)))) (.n 0)
 | _=>.skip
def body:C:=.seq (.reg [.mv 6 (.c (.bool false))]) (.seq (.seq (.reg [.mv 10 (.s 0),.len 11 (.s 10),.mv 12 (.s 1),.len 13 (.s 12),.bin 14 .neq (.s 11) (.s 13)]) (.cond (.s 14) (.seq (.reg [.mv 6 (.c (.bool false))]) (.ret)) (.skip))) (.n 4))
def rs:List RV:=[.t 6]
attribute [push_cast] nd body
theorem ok:okF prog n_slices_EqualFunc_s_Multi_s_Multi_Multi_Multi nd body 3 rs = true:=by kernel_rfl
abbrev L3 (v1 v2 v15 v16 v17:V) (B:Nat) (H:List Ob) (Q:X→T→List Ob→Prop):Prop:=Run prog nd B [.c (.m 3),.c (.loop (.n 1)),.mk 0,.c (.n 0)] [(1,v1),(2,v2),(15,v15),(16,v16),(17,v17)] H Q
theorem G3 (h:Run prog nd B (.c (nd 3) :: s) t H Q):Run prog nd B (.c (.m 3) :: s) t H Q:=run_m.2 h
end slices_EqualFunc_s_Multi_s_Multi_Multi_Multi
namespace term_Instance
def nd:Nat→C
 | 0=>.seq (.reg [.mv 19 (.s 0),.la 20 3 (.s 3),.callp (some 21) n_term_replace [.s 19,.s 20],.st 3 (.s 4) (.s 21),.mv 5 (.i 0)]) (.ret)
 | _=>.skip
def body:C:=.seq (.reg [.br 3 t_Term (.s 1),.al 4 t_Term [.str [],.bool false,.sl 3 []],.mv 5 (.i 0)]) (.seq (.seq (.reg [.mv 7 (.s 0),.la 8 3 (.s 3),.callp (some 9) n_term_measure [.s 7,.s 8],.al 6 t_term_meter [.int .i64 0,.int .i64 0],.sf 6 2 (.s 9)]) (.seq (.reg [.fa 10 0 (.s 6),.ld 11 (.s 10),.bin 12 .gtr (.s 11) (.i 4000),.mv 13 (.s 12),.gd (.s 13) false [14,15,16] [.fa 14 1 (.s 6),.ld 15 (.s 14),.bin 16 .gtr (.s 15) (.i 200)],.pick 17 (.s 13) (.c (.bool true)) (.s 16)]) (.cond (.s 17) (.seq (.reg [.bd 18 [.str [],.bool false,.sl 3 []] [],.st 3 (.s 4) (.s 18),.mv 5 (.i 3)]) (.ret)) (.skip)))) (.n 0))
def rs:List RV:=[.a 4 3,.t 5]
attribute [push_cast] nd body
theorem ok:okF prog n_term_Instance nd body 2 rs = true:=by kernel_rfl
end term_Instance
namespace term_Set
def nd:Nat→C
 | 0=>.seq (.reg [.la 47 3 (.s 7),.st 3 (.s 6) (.s 47)]) (.ret)
 | 1=>.gh [.ks 3 [1,5,6,7,21,22,23]] (.m 3)
 | 2=>.seq (.blk 1 (.seq (.reg [.mv 25 (.s 23),.ia 26 3 (.s 21) (.s 23),.la 27 3 (.s 26),.al 9 t_Term [.str [],.bool false,.sl 3 []],.mv 8 (.s 25),.st 3 (.s 9) (.s 27)]) (.seq (.seq (.reg [.mv 28 (.s 8),.mv 29 (.s 1),.ia 30 1 (.s 29) (.i 0),.ld 31 (.s 30),.bin 32 .eql (.s 28) (.s 31)]) (.cond (.s 32) (.dr [0,1,2,3,4,5] [.la 33 3 (.s 9),.mv 34 (.s 1),.sx 35 1 (.s 34) (some (.i 1)) none,.la 36 3 (.s 5),.callp (some 37) n_term_Set [.s 33,.s 35,.s 36],.st 3 (.s 9) (.s 37)]) (.reg [.la 38 3 (.s 9),.callp (some 39) n_term_Own [.s 38],.st 3 (.s 9) (.s 39)]))) (.reg [.fa 40 2 (.s 7),.ld 41 (.s 40),.la 42 3 (.s 9),.bs 43 3 [.s 42],.app 44 t_Term 3 48 (.s 41) (.s 43),.fa 45 2 (.s 7),.st 1 (.s 45) (.s 44)])))) (.reg [.bin 46 .add (.s 23) (.i 1),.mv 23 (.s 46)])
 | 3=>.seq (.reg [.bin 24 .lss (.s 23) (.s 22)]) (.seq (.cond (.s 24) (.skip) (.exit 0)) (.n 2))
 | 4=>.seq (.reg [.fa 15 0 (.s 3),.ld 16 (.s 15),.fa 17 1 (.s 3),.ld 18 (.s 17),.bd 19 [.str [],.bool false,.nil] [(0,1,(.s 16)),(1,1,(.s 18))],.al 7 t_Term [.str [],.bool false,.nil],.st 3 (.s 7) (.s 19),.ono t_Term 3 2 (.s 7)]) (.seq (.seq (.reg [.fa 20 2 (.s 3),.ld 21 (.s 20),.len 22 (.s 21),.mv 23 (.i 0)]) (.blk 0 (.loop (.n 1)))) (.n 0))
 | _=>.skip
def body:C:=.seq (.reg [.br 3 t_Term (.s 0),.br 5 t_Term (.s 2),.al 6 t_Term [.str [],.bool false,.sl 3 []]]) (.seq (.seq (.reg [.mv 10 (.s 1),.len 11 (.s 10),.bin 12 .eql (.s 11) (.i 0)]) (.cond (.s 12) (.seq (.reg [.la 13 3 (.s 5),.callp (some 14) n_term_Own [.s 13],.st 3 (.s 6) (.s 14)]) (.ret)) (.skip))) (.n 4))
def rs:List RV:=[.a 6 3]
attribute [push_cast] nd body
theorem ok:okF prog n_term_Set nd body 3 rs = true:=by kernel_rfl
abbrev L3 (v1 v5 v6 v7 v21 v22 v23:V) (B:Nat) (H:List Ob) (Q:X→T→List Ob→Prop):Prop:=Run prog nd B [.c (.m 3),.c (.loop (.n 1)),.mk 0,.c (.n 0)] [(1,v1),(5,v5),(6,v6),(7,v7),(21,v21),(22,v22),(23,v23)] H Q
theorem G3 (h:Run prog nd B (.c (nd 3) :: s) t H Q):Run prog nd B (.c (.m 3) :: s) t H Q:=run_m.2 h
end term_Set
namespace term_All
def nd:Nat→C
 | 0=>.seq (.reg [.mv 2 (.i 0)]) (.ret)
 | 1=>.gh [.ks 0 [6,7,8]] (.m 3)
 | 2=>.seq (.blk 1 (.seq (.reg [.ia 10 3 (.s 6) (.s 8),.la 11 3 (.s 10),.al 4 t_Term [.str [],.bool false,.sl 3 []],.sf 4 3 (.s 11)]) (.seq (.reg [.la 12 3 (.s 4),.callp (some 13) n_term_Check [.s 12],.mv 5 (.s 13)]) (.seq (.reg [.mv 14 (.s 5),.bin 15 .neq (.s 14) (.i 0)]) (.cond (.s 15) (.seq (.reg [.mv 16 (.s 5),.mv 2 (.s 16)]) (.ret)) (.skip)))))) (.reg [.bin 17 .add (.s 8) (.i 1),.mv 8 (.s 17)])
 | 3=>.seq (.reg [.bin 9 .lss (.s 8) (.s 7)]) (.seq (.cond (.s 9) (.skip) (.exit 0)) (.n 2))
 | _=>.skip
def body:C:=.seq (.reg [.mv 2 (.i 0)]) (.seq (.seq (.reg [.mv 6 (.s 0),.len 7 (.s 6),.mv 8 (.i 0)]) (.blk 0 (.loop (.n 1)))) (.n 0))
def rs:List RV:=[.t 2]
attribute [push_cast] nd body
theorem ok:okF prog n_term_All nd body 1 rs = true:=by kernel_rfl
abbrev L3 (v6 v7 v8:V) (B:Nat) (H:List Ob) (Q:X→T→List Ob→Prop):Prop:=Run prog nd B [.c (.m 3),.c (.loop (.n 1)),.mk 0,.c (.n 0)] [(6,v6),(7,v7),(8,v8)] H Q
theorem G3 (h:Run prog nd B (.c (nd 3) :: s) t H Q):Run prog nd B (.c (.m 3) :: s) t H Q:=run_m.2 h
end term_All
namespace strings_HasSuffix
def nd (_:Nat):C:=.skip
def body:C:=.seq (.reg [.mv 4 (.c (.bool false))]) (.seq (.reg [.mv 5 (.s 0),.mv 6 (.s 1),.callp (some 7) n_stringslite_HasSuffix [.s 5,.s 6],.mv 4 (.s 7)]) (.ret))
def rs:List RV:=[.t 4]
attribute [push_cast] nd body
theorem ok:okF prog n_strings_HasSuffix nd body 2 rs = true:=by kernel_rfl
end strings_HasSuffix
namespace slices_IndexFunc_s_Rule_Rule
def nd:Nat→C
 | 0=>.seq (.reg [.mv 4 (.i (-1))]) (.ret)
 | 1=>.gh [.ks 0 [0,1,7,8]] (.m 3)
 | 2=>.seq (.blk 1 (.seq (.reg [.mv 10 (.s 8),.mv 5 (.s 10)]) (.seq (.reg [.mv 11 (.s 1),.mv 12 (.s 0),.mv 13 (.s 5),.ia 14 6 (.s 12) (.s 13),.la 15 6 (.s 14),.callvp (some 16) (.s 11) [.s 15]]) (.cond (.s 16) (.seq (.reg [.mv 17 (.s 5),.mv 4 (.s 17)]) (.ret)) (.skip))))) (.reg [.bin 18 .add (.s 8) (.i 1),.mv 8 (.s 18)])
 | 3=>.seq (.reg [.bin 9 .lss (.s 8) (.s 7)]) (.seq (.cond (.s 9) (.skip) (.exit 0)) (.n 2))
 | _=>.skip
def body:C:=.seq (.reg [.mv 4 (.i 0)]) (.seq (.seq (.reg [.mv 6 (.s 0),.len 7 (.s 6),.mv 8 (.i 0)]) (.blk 0 (.loop (.n 1)))) (.n 0))
def rs:List RV:=[.t 4]
attribute [push_cast] nd body
theorem ok:okF prog n_slices_IndexFunc_s_Rule_Rule nd body 2 rs = true:=by kernel_rfl
abbrev L3 (v0 v1 v7 v8:V) (B:Nat) (H:List Ob) (Q:X→T→List Ob→Prop):Prop:=Run prog nd B [.c (.m 3),.c (.loop (.n 1)),.mk 0,.c (.n 0)] [(0,v0),(1,v1),(7,v7),(8,v8)] H Q
theorem G3 (h:Run prog nd B (.c (nd 3) :: s) t H Q):Run prog nd B (.c (.m 3) :: s) t H Q:=run_m.2 h
end slices_IndexFunc_s_Rule_Rule
namespace slices_ContainsFunc_s_string_string
def nd (_:Nat):C:=.skip
def body:C:=.seq (.reg [.mv 4 (.c (.bool false))]) (.seq (.reg [.mv 5 (.s 0),.mv 6 (.s 1),.callp (some 7) n_slices_IndexFunc_s_string_string [.s 5,.s 6],.bin 8 .geq (.s 7) (.i 0),.mv 4 (.s 8)]) (.ret))
def rs:List RV:=[.t 4]
attribute [push_cast] nd body
theorem ok:okF prog n_slices_ContainsFunc_s_string_string nd body 2 rs = true:=by kernel_rfl
end slices_ContainsFunc_s_string_string
namespace term_extra_1
def nd (_:Nat):C:=.skip
def body:C:=.seq (.reg [.mv 3 (.c (.bool false))]) (.seq (.reg [.ld 4 (.s 1),.mv 5 (.s 0),.callp (some 6) n_slices_Contains_s_string_string [.s 4,.s 5],.un 7 .not (.s 6),.mv 3 (.s 7)]) (.ret))
def rs:List RV:=[.t 3]
attribute [push_cast] nd body
theorem ok:okF prog n_term_extra_1 nd body 2 rs = true:=by kernel_rfl
end term_extra_1
namespace slices_Contains_s_string_string
def nd (_:Nat):C:=.skip
def body:C:=.seq (.reg [.mv 4 (.c (.bool false))]) (.seq (.reg [.mv 5 (.s 0),.mv 6 (.s 1),.callp (some 7) n_slices_Index_s_string_string [.s 5,.s 6],.bin 8 .geq (.s 7) (.i 0),.mv 4 (.s 8)]) (.ret))
def rs:List RV:=[.t 4]
attribute [push_cast] nd body
theorem ok:okF prog n_slices_Contains_s_string_string nd body 2 rs = true:=by kernel_rfl
end slices_Contains_s_string_string
namespace multi_all_1
def nd (_:Nat):C:=.skip
def body:C:=.seq (.reg [.br 2 t_Multi (.s 0),.mv 3 (.c (.bool false))]) (.seq (.reg [.la 4 4 (.s 2),.ld 5 (.s 1),.callp (some 6) n_multi_all [.s 4,.s 5],.un 7 .not (.s 6),.mv 3 (.s 7)]) (.ret))
def rs:List RV:=[.t 3]
attribute [push_cast] nd body
theorem ok:okF prog n_multi_all_1 nd body 2 rs = true:=by kernel_rfl
end multi_all_1
namespace term_Standard
def nd (_:Nat):C:=.skip
def body:C:=.seq (.reg [.mv 0 (.c .nilf)]) (.seq (.reg [.mkm 2,.al 1 t_m_string_string [.nilm],.st 1 (.s 1) (.s 2)]) (.seq (.reg [.mf 3 n_term_Standard_1 [] [.s 1],.mv 0 (.s 3)]) (.ret)))
def rs:List RV:=[.t 0]
attribute [push_cast] nd body
theorem ok:okF prog n_term_Standard nd body 0 rs = true:=by kernel_rfl
end term_Standard
end Go.Dw
end
