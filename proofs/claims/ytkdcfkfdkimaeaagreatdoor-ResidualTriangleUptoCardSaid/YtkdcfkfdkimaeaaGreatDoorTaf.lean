/-
  Contracts and lemmas for ResidualTriangle: part f of 9.
-/
import Derived.Shelf.Spec.SlicesGrow
import Derived.Test.YtkdcfkfdkimaeaaGreatDoorTad
import Derived.Test.YtkdcfkfdkimaeaaGreatDoorTae
import Derived.Test.YtkdcfkfdkimaeaaGreatDoorRows
import Derived.WalkKit
import Derived.ProofKit
import Derived.OpenShut
import Derived.JoinedCond
import Derived.ReadAgain
import Derived.Carry
import Derived.Laws.MathBits
import Derived.Lib.LaidTab
import Derived.Stop.LaidErr
import Derived.Shelf.Strconv.Itoa4
import Derived.Ground.NamesProg
set_option linter.unusedVariables false
set_option linter.unusedSimpArgs false
set_option maxRecDepth 100000
section
namespace Go.Proofs
open Go.Shelf Go.RowKit
def Tryz.growI_ren:Go.Shelf.Ren:=⟨fun | 4=>207 | n=>n,fun | 22=>130 | 25=>3 | 3=>3 | 4=>4 | 9=>9 | 20=>20 | 0=>0 | n=>n,fun | n=>n⟩
theorem Tryz.growI:Go.Proofs.Lays8.n4 Tryz.prog Tryz.growI_ren:={
 mixed:=by kernel_rfl
 f4:=⟨Tryz.f207.name,by decide,Tryz.func207.trans (congrArg some (by kernel_rfl))⟩
 t0:=Tryz.underlying0
 a0:=Tryz.isAgg0
 z0:=Tryz.sizeOf0
 v0:=Tryz.zeroValue0
 t3:=Tryz.underlying3
 a3:=Tryz.isAgg3
 z3:=Tryz.sizeOf3
 v3:=Tryz.zeroValue3
 t4:=Tryz.underlying4
 a4:=Tryz.isAgg4
 z4:=Tryz.sizeOf4
 v4:=Tryz.zeroValue4
 t9:=Tryz.underlying9
 a9:=Tryz.isAgg9
 z9:=Tryz.sizeOf9
 v9:=Tryz.zeroValue9
 t20:=Tryz.underlying20
 a20:=Tryz.isAgg20
 z20:=Tryz.sizeOf20
 v20:=Tryz.zeroValue20
 t22:=Tryz.underlying130
 a22:=Tryz.isAgg130
 z22:=Tryz.sizeOf130
 v22:=Tryz.zeroValue130 }
theorem Tryz.grow_num:Tryz.growI_ren.f 4 = Go.Dw.n_slices_Grow_s_int_int:=by kernel_rfl
theorem Tryz.grow_t:Tryz.growI_ren.t 25 = Go.Dw.t_int:=by kernel_rfl
theorem Tryz.int_info:(Tryz.prog.info? Go.Dw.t_int).map (fun i=>(i.zero,i.size,i.bytes)) = some (some (.int .i64 0),1,8):=by kernel_rfl
theorem Tryz.grow_in (args:Array Value) (w:World):(callFunc Go.Dw.n_slices_Grow_s_int_int args).run Tryz.prog w = .ok (.enter Go.Dw.n_slices_Grow_s_int_int args) w:=by
 have:=enters_of (P:=Tryz.prog) (f:=Go.Dw.n_slices_Grow_s_int_int) (by kernel_rfl:Tryz.prog.funcs[Go.Dw.n_slices_Grow_s_int_int]? = some Tryz.f207) (by kernel_rfl) rfl args w
 exact this
end Go.Proofs
namespace Go.Dw
open Go.Proofs
theorem grow_row (n:Nat) (hn:n < 2^40):Spec prog n_slices_Grow_s_int_int [.nil,.int .i64 n] [] fun x H'=>x = .own 0 1 []∧H' = [.arr t_int 1 0]:=by
 intro c vs hH hc hr
 obtain ⟨v,vs1,rfl,h1,v2,vs2,rfl,h2,h3⟩:=hr
 have h1:v = .slice none 0 0:=h1
 have h2:v2 = .int .i64 n:=h2
 have h3:vs2 = []:=h3
 subst h1;subst h2;subst h3
 left
 refine ⟨Tryz.grow_in _ _,?_⟩
 by_cases h0:n = 0
 ·subst h0
  have:=Any8.slices_Grow_room Tryz.growI none 0 0 0 c.w (Nat.le_refl _) (by omega) (by omega) (by omega)
  rw [Tryz.grow_num] at this
  refine this.mono ?_
  rintro e w' ⟨rfl,rfl⟩
  refine ⟨_,.own 0 1 [],⟨c.w,c.ok,fun _=>none,[.arr t_int 1 0]⟩,rfl,rfl,⟨rfl,rfl⟩,?_,?_,?_⟩
  ·refine ⟨fun i j b k k' hi hj h1 _=>(by cases h1),hc.okLt,fun i o hi=>?_,hc.glob.keep (fun _ _ _=>rfl) fun b ⟨i,k,_,h⟩=>by cases h⟩
   cases i with
   | succ i=>simp at hi
   | zero =>
    simp only [List.getElem?_cons_zero,Option.some.injEq] at hi
    subst hi
    exact ⟨fun _=>rfl,fun b k h=>by cases h⟩
  ·refine ⟨⟨none,0,0,0,rfl,Nat.le_refl _,by unfold capMax;omega,by unfold maxEls;simp,.inl rfl,trivial⟩,by simp,fun e sz' n hn=>?_⟩
   simp only [List.getElem?_cons_zero,Option.some.injEq,Ob.arr.injEq] at hn
   obtain ⟨rfl,rfl,rfl⟩:=hn
   exact ⟨rfl,Nat.le_refl _,fun _=>rfl⟩
  ·refine ⟨fun _ _ h=>h,fun _ _ _=>rfl,Nat.le_refl _,fun _ _ h=>.inl h,fun _ _ _=>rfl,fun b hb=>?_,fun i o ho=>?_,rfl,rfl,rfl,Nat.le_refl _⟩
   ·obtain ⟨i,k,_,h⟩:=hb;cases h
   ·rw [hH] at ho;simp at ho
 ·obtain ⟨i0,hi0,hz0,hzs,hzb⟩:=info_parts Tryz.int_info
  have:=Any8.slices_Grow_grow Tryz.growI i0 (.int .i64 0) (by rw [Tryz.grow_t];exact hi0) hz0 (by omega) none 0 0 n [] c.w (by omega) (by omega) (by rw [hzb];omega) (by omega) (by simp) (fun _=>rfl) (fun _ h=>by cases h)
  rw [Tryz.grow_num,Tryz.grow_t] at this
  refine this.mono ?_
  rintro e w' ⟨rfl,rfl⟩
  have hge:0+n≤grownCap c.w (0+n) 0 t_int:=grownCap_ge c.w _ _ _
  have hle:=grownCap_le_maxLen c.w (0+n) 0 t_int (by unfold maxLen;omega)
  unfold maxLen at hle
  generalize grownCap c.w (0+n) 0 t_int = cap at hge hle ⊢
  obtain ⟨k1,k2⟩:=conc_heap hc (w':=c.w.drew) rfl rfl rfl rfl (Nat.le_succ _)
  generalize hvs:((#[]:Array Value)++Builtin.zeroCells (Value.int .i64 0).cells (0+n - 0)++Builtin.zeroCells (Value.int .i64 0).cells (cap - (0+n))) = vs
  have hsz:vs.size = cap:=by
   subst hvs
   simp only [Array.size_append,size_zeroCells,show (Value.int .i64 0).cells.size = 1 from rfl]
   simp;omega
  have hk:=conc_addOwn k1 (.cells vs t_int (0,0)) (.arr t_int 1 0) cap (fun _=>False) ⟨fun h=>(by cases h),fun b k h=>by
   cases h
   exact ⟨vs,heap_alloc_new c.w.drew _,by omega,by omega,by unfold capMax;omega,fun o _ ho=>by
    rcases ho with ho | ⟨_,ho⟩
    ·have:=hc.okLt _ _ ho;exact absurd this (Nat.lt_irrefl _)
    ·exact ho⟩⟩
  have hf:=fr_addOwn k1 (.cells vs t_int (0,0)) (.arr t_int 1 0) cap (fun _=>False)
  refine ⟨_,.own 0 1 [],_,rfl,rfl,⟨rfl,?_⟩,hk,?_,k2.trans hf⟩
  ·simp only [Cx.addOwn,hH];rfl
  ·refine ⟨⟨some ⟨c.w.heap.size,0,none⟩,cap,0,0,rfl,by simp,by unfold capMax;omega,by unfold maxEls;simp,.inl rfl,trivial⟩,by simp [Cx.addOwn],fun e sz' n hn=>?_⟩
   simp only [Cx.addOwn,hH,List.nil_append,List.getElem?_cons_zero,Option.some.injEq,Ob.arr.injEq] at hn
   obtain ⟨rfl,rfl,rfl⟩:=hn
   refine ⟨rfl,Nat.le_refl _,fun _=>?_⟩
   simp only [Cx.addOwn,hH,List.length_nil,upd_same]
   rfl
end Go.Dw
end
section
namespace Go.Dw
def cPp (p:List Int):List V:=[encP p]
abbrev encPs (l:List (List Int)):V:=encL cPp 1 l
theorem cPp_0 (p:List Int):(cPp p)[0]? = some (encP p):=rfl
theorem cPp_len (p:List Int):(cPp p).length = 1:=rfl
attribute [push_cast] cPp_0 cPp_len
theorem flatten_take_succ {l:List (List Int)} {k:Nat} (h:k < l.length):(l.take (k+1)).flatten = (l.take k).flatten++l.getD k default:=by
 rw [take_succ_getD h];simp
theorem flatten_take_le (l:List (List Int)) (k:Nat):(l.take k).flatten.length≤l.flatten.length:=by
 conv=>rhs;rw [← List.take_append_drop k l]
 rw [List.flatten_append,List.length_append];omega
theorem slices_Concat_s (l:List (List Int)) (hl:l.length < 2^40) (hs:l.flatten.length < 2^40):PF n_slices_Concat_s_int_int [encPs l] (encP l.flatten):=by
 refine pf_of slices_Concat_s_int_int.ok rfl ?_
 push_cast
 refine loop_up (n:=l.length) (R:=fun k=>slices_Concat_s_int_int.L7 (encPs l) (.int .i64 (l.take k).flatten.length) (encPs l) (.int .i64 l.length) (.int .i64 k) 0 [] _) ?_ ?_ 0 (by omega)
 ·intro k hk ih
  have h1:=flatten_take_le l (k+1)
  rw [flatten_take_succ hk,List.length_append] at h1
  have h2:IntKind.i64.wrap (((l.take k).flatten.length:Int)+((l.getD k default).length:Int)) = ((l.take (k+1)).flatten.length:Int):=by
   rw [wrap64 (by omega) (by omega),flatten_take_succ hk,List.length_append];omega
  have h3:(((l.take (k+1)).flatten.length:Int) < 0) = False:=eq_false (by omega)
  refine slices_Concat_s_int_int.G7 ?_
  push_cast [ilt hk,h2,h3,w64 (show k < 2^62 by omega)]
  exact ih
 ·refine slices_Concat_s_int_int.G7 ?_
  push_cast [inlt (Nat.le_refl _),List.take_length]
  refine callG_new (grow_row _ hs) ?_
  push_cast [List.map_cons,List.map_nil]
  refine loop_up (n:=l.length) (R:=fun k=>slices_Concat_s_int_int.L3 (ownL cI 0 1 (l.take k).flatten) (encPs l) (.int .i64 l.length) (.int .i64 k) 0 [.arr t_int 1 (l.take k).flatten.length] _) ?_ ?_ 0 (by omega)
  ·intro k hk ih
   have h1:=flatten_take_le l (k+1)
   rw [flatten_take_succ hk,List.length_append] at h1
   rw [flatten_take_succ hk] at ih
   refine slices_Concat_s_int_int.G3 ?_
   push_cast [ilt hk,w64 (show k < 2^62 by omega)]
   rw [List.length_map]
   refine ⟨Nat.le_trans (Nat.mul_le_mul_right 8 (show _≤2^40 by omega)) (by unfold maxEls;decide),?_⟩
   rw [List.length_append] at ih
   exact ih
  ·refine slices_Concat_s_int_int.G3 ?_
   push_cast [inlt (Nat.le_refl _),List.take_length]
   refine pf_ret ?_
   push_cast [slices_Concat_s_int_int.rs]
end Go.Dw
end
section
namespace Go.Dw
mutual
theorem visit_name:∀ (t:Term) (p:List Int),∀ x∈visit t p,x.2.name.length < tb t
 | .mk n v l,p,x,hx=>by
  rw [visit_eq] at hx
  simp only [tb]
  rcases List.mem_cons.1 hx with rfl | hx
  ·simp only [Term.name];omega
  ·have:=visits_name l p 0 x hx;simp only [tbs] at this;omega
theorem visits_name:∀ (l:List Term) (p:List Int) (i:Nat),∀ x∈visits l p i,x.2.name.length < tbs l
 | [],p,i,x,hx=>by simp [visits] at hx
 | a :: l,p,i,x,hx=>by
  simp only [visits,List.mem_append] at hx
  simp only [tbs,tb.tbs]
  rcases hx with hx | hx
  ·have:=visit_name a _ x hx;omega
  ·have:=visits_name l _ _ x hx;simp only [tbs] at this;omega
end
theorem arAll_name {M:Nat}:∀ (l:List (List Int × Term)) {m m':Ars},arAll m l = some m'→(∀ x∈l,x.2.name.length < M)→(∀ p∈m,p.1.length < M)→∀ p∈m',p.1.length < M
 | [],m,m',h,_,hm=>by cases h;exact hm
 | x :: l,m,m',h,hl,hm=>by
  simp only [arAll] at h
  cases hs:arStep m x.2 with
  | none=>rw [hs] at h;cases h
  | some m1 =>
   rw [hs,Option.bind_some] at h
   refine arAll_name l h (fun y hy=>hl y (by simp [hy])) ?_
   unfold arStep at hs
   split at hs
   ·cases hs;exact hm
   ·split at hs
    ·split at hs
     ·cases hs;exact hm
     ·cases hs
    ·cases hs
     intro p hp
     rcases List.mem_append.1 hp with hp | hp
     ·exact hm p hp
     ·simp only [List.mem_singleton] at hp;subst hp;exact hl x (by simp)
theorem arRules_name {M:Nat}:∀ (r:List ARule) {m m':Ars},arRules m r = some m'→rbs r≤M→(∀ p∈m,p.1.length < M)→∀ p∈m',p.1.length < M
 | [],m,m',h,_,hm=>by cases h;exact hm
 | x :: r,m,m',h,hM,hm=>by
  simp only [arRules] at h
  simp only [rbs] at hM
  cases ha:arAll m (visit x.left []) with
  | none=>rw [ha] at h;cases h
  | some m1 =>
   rw [ha,Option.bind_some] at h
   cases hb:arAll m1 (visit x.right []) with
   | none=>rw [hb] at h;cases h
   | some m2 =>
    rw [hb,Option.bind_some] at h
    exact arRules_name r h (by omega) (arAll_name _ hb (fun y hy=>by have:=visit_name _ _ y hy;omega) (arAll_name _ ha (fun y hy=>by have:=visit_name _ _ y hy;omega) hm))
theorem term_CheckSystem_t (r:List ARule) (hs:rbs r < 2^38):PF n_term_CheckSystem [encRs r] (.int .i64 (checkSystem r)) :=
 term_CheckSystem_s r hs fun m hm p hp=>by have:=arRules_name r hm (Nat.le_refl _) (by simp) p hp;omega
theorem checkPairs_ok:∀ {r:List ARule},checkPairs r = 0→∀ x∈r,check x.left = 0∧check x.right = 0
 | [],_,x,hx=>by cases hx
 | y :: r,h,x,hx=>by
  simp only [checkPairs] at h
  split at h
  ·omega
  ·rename_i h1
   rcases List.mem_cons.1 hx with rfl | hx
   ·simp only [checks,ne_eq,Classical.not_not] at h1
    split at h1
    ·omega
    ·rename_i h2
     split at h1
     ·omega
     ·rename_i h3
      exact ⟨by simpa using h2,by simpa using h3⟩
   ·exact checkPairs_ok h x hx
theorem checkSystem_good {r:List ARule} (h:checkSystem r = 0):∀ x∈r,good x.left∧good x.right:=by
 have h1:checkRules r = 0:=by
  unfold checkSystem at h
  split at h
  ·rename_i h1;exact absurd h h1
  ·rename_i h1;simpa using h1
 unfold checkRules at h1
 split at h1
 ·omega
 ·intro x hx
  have:=checkPairs_ok h1 x hx
  exact ⟨check_good this.1,check_good this.2⟩
theorem concat2 (a b:List Int) (h:a.length+b.length < 2^40):PF n_slices_Concat_s_int_int [.sl 1 [[encP a],[encP b]]] (encP (a++b)):=by
 have:=slices_Concat_s [a,b] (by simp) (by simpa using h)
 simp only [List.flatten_cons,List.flatten_nil,List.append_nil] at this
 exact this
theorem own_step {i:Nat} {l:List AStep} {k:Int} {p:List Int}:(.own i 2 (l.map cSt++[[V.int .i64 k,encL cI 1 p]]):V) = ownL cSt i 2 (l++[⟨k,p⟩]):=by simp [ownL,cSt]
end Go.Dw
end
section
namespace Go.Dw
open Go.Proofs.YtkdcfkfdkimaeaaGreatDoor
abbrev okW (W:World):Nat→Nat→Prop:=fun b _=>b < W.heap.size
def Cells (W:World) (xs:List V) (cs:List Value):Prop:=prepL W (okW W) xs cs∧∀ u∈cs,oneC u = true
theorem prepL_app {w:World} {ok:Nat→Nat→Prop}:∀ {xs ys:List V} {cs ds:List Value},prepL w ok xs cs→prepL w ok ys ds→prepL w ok (xs++ys) (cs++ds)
 | [],ys,cs,ds,h1,h2=>by
  have h1:cs = []:=h1
  subst h1;exact h2
 | x :: xs,ys,cs,ds,⟨v,vs,e,h1,h2⟩,h3=>by
  subst e
  exact ⟨v,vs++ds,rfl,h1,prepL_app h2 h3⟩
theorem prepL_get {w:World} {ok:Nat→Nat→Prop}:∀ {xs:List V} {cs:List Value} {i:Nat} {x:V},prepL w ok xs cs→xs[i]? = some x→∃ v,cs[i]? = some v∧prep w ok x v
 | [],_,i,x,_,h=>by simp at h
 | y :: xs,cs,i,x,⟨v,vs,e,h1,h2⟩,h=>by
  subst e
  cases i with
  | zero=>simp only [List.getElem?_cons_zero,Option.some.injEq] at h;subst h;exact ⟨v,rfl,h1⟩
  | succ i=>simp only [List.getElem?_cons_succ] at h ⊢;exact prepL_get h2 h
theorem Cells.app {W:World} {xs ys:List V} {cs ds:List Value} (h1:Cells W xs cs) (h2:Cells W ys ds):Cells W (xs++ys) (cs++ds) :=
 ⟨prepL_app h1.1 h2.1,fun u hu=>(List.mem_append.1 hu).elim (h1.2 u) (h2.2 u)⟩
theorem Cells.one {W:World} {x:V} {c:Value} (h:prep W (okW W) x c) (ho:oneC c = true):Cells W [x] [c]:=⟨⟨c,[],rfl,h,rfl⟩,fun u hu=>by simp only [List.mem_singleton] at hu;subst hu;exact ho⟩
section
variable {H:Type} {enc:TypeId × Value→H} {W:World}
noncomputable abbrev trd (enc:TypeId × Value→H) (W:World):=DataW.trod enc prog W 0 (fun _=>true) true
def Br {α:Type} (enc:TypeId × Value→H) (W:World) (n:Nat) (t:TypeId) (c:α→List V) (b:α→Nat):Prop:=∀ cs x,trd enc W n t cs = some x→Rows.uptoBulk x.1≤1048576→∃ a,b a≤Rows.uptoBulk x.1∧Cells W (c a) cs
theorem br_str {n:Nat}:Br enc W n t_string (fun s:Str=>[.str s]) (fun s=>s.length+1):=by
 intro cs x h _
 obtain ⟨s,rfl,rfl,_⟩:=DataW.trod_string (P:=prog) Go.Proofs.Tryz.underlying9 h
 refine ⟨s.data.toList,by simp [Rows.uptoBulk],Cells.one ?_ rfl⟩
 show Value.string s = .string ⟨⟨s.data.toList⟩⟩
 cases s with | mk d=>cases d;rfl
theorem br_bool {n:Nat}:Br enc W n t_bool (fun s:Bool=>[.bool s]) (fun _=>1):=by
 intro cs x h _
 obtain ⟨s,rfl,rfl⟩:=DataW.trod_bool (P:=prog) Go.Proofs.Tryz.underlying4 h
 exact ⟨s,by simp [Rows.uptoBulk],Cells.one rfl rfl⟩
theorem br_int {n:Nat}:Br enc W n t_int (fun s:Int=>cI s) (fun _=>1):=by
 intro cs x h _
 obtain ⟨s,rfl,rfl,_⟩:=DataW.trod_int (P:=prog) Go.Proofs.Tryz.underlying3 h
 exact ⟨s,by simp [Rows.uptoBulk],Cells.one rfl rfl⟩
theorem cell_spot {w:World} {a:Addr} {v:Value} (h:w.cell? a = some v):a.spot = none∧a.block < w.heap.size:=by
 unfold World.cell? at h
 split at h
 ·rename_i hb
  split at h
  ·cases h
  ·rename_i hs
   exact ⟨by cases hq:a.spot <;> simp_all,(Array.getElem?_eq_some_iff.1 hb).1⟩
 ·cases h
theorem addr_add {a:Addr} (h:a.spot = none) (n:Nat):a.add n = ⟨a.block,a.off+n,none⟩:=by
 unfold Addr.add
 split
 ·rename_i h0;subst h0;cases a;simp_all
 ·rfl
def sumB {α:Type} (b:α→Nat):List α→Nat
 | []=>0
 | x :: l=>b x+sumB b l
theorem one_le (d:DataW H):1≤Rows.uptoBulk d:=by
 cases d with
 | lit l=>cases l <;> simp [Rows.uptoBulk]
 | _=>simp [Rows.uptoBulk]
theorem bulk_len (l:List (DataW H)):l.length≤Rows.uptoBulkAll l:=by
 induction l with
 | nil=>simp [Rows.uptoBulkAll]
 | cons x r ih=>have:=one_le x;simp only [Rows.uptoBulkAll,List.length_cons];omega
theorem bulk_part {d:DataW H} {l:List (DataW H)} (h:d∈l):Rows.uptoBulk d≤Rows.uptoBulkAll l:=by
 induction l with
 | nil=>cases h
 | cons x r ih =>
  simp only [Rows.uptoBulkAll]
  rcases List.mem_cons.1 h with e | e
  ·subst e;omega
  ·have:=ih e;omega
theorem sumB_le {α:Type} {b:α→Nat}:∀ {l:List α} {es:List (DataW H × List MemPlace)},l.length = es.length→(∀ (i:Nat) (a:α) (e:DataW H × List MemPlace),l[i]? = some a→es[i]? = some e→b a≤Rows.uptoBulk e.1)→sumB b l≤Rows.uptoBulkAll (es.map (·.1))
 | [],[],_,_=>by simp [sumB]
 | [],_ :: _,h,_=>by simp at h
 | _ :: _,[],h,_=>by simp at h
 | a :: l,e :: es,h,hb=>by
  have h1:=hb 0 a e rfl rfl
  have h2:=sumB_le (l:=l) (es:=es) (by simpa using h) fun i a' e' h1 h2=>hb (i+1) a' e' (by simpa using h1) (by simpa using h2)
  simp only [sumB,List.map_cons,Rows.uptoBulkAll];omega
theorem br_slice {α:Type} {n:Nat} {ts t:TypeId} {sz:Nat} {c:α→List V} {b:α→Nat} (hts:prog.underlying ts = some (.slice t)) (hsz:prog.cellsOf t = sz) (hpos:0 < sz) (hc:∀ a,(c a).length = sz)
  (h:∀ m,m+1 = n→Br enc W m t c b):Br enc W n ts (fun l:List α=>[encL c sz l]) (fun l=>sumB b l+1):=by
 intro cs x hx hbk
 rcases DataW.trod_slice (P:=prog) hts hx with ⟨rfl,rfl⟩ | ⟨a,len,cap,elems,rest,m,rfl,rfl,rfl,_,hle,hcap,hlen,hel,_,_⟩
 ·exact ⟨[],by simp [sumB,Rows.uptoBulk],Cells.one ⟨none,0,0,0,rfl,Nat.le_refl _,by unfold capMax;omega,by unfold maxEls;simp,.inl rfl,trivial⟩ rfl⟩
 ·have hbr:=h m rfl
  have hba:Rows.uptoBulkAll (elems.map (·.1))≤1048576:=by simp only [Rows.uptoBulk] at hbk;omega
  have hln:=bulk_len (elems.map (·.1))
  rw [List.length_map] at hln
  rw [hsz] at hel
  have step:∀ i,i < len→∃ y:α,(∀ e,elems[i]? = some e→b y≤Rows.uptoBulk e.1)∧∃ ecs,W.cells? 0 (a.add (i * sz)) sz = some ecs∧Cells W (c y) ecs:=by
   intro i hi
   have h1:=hel i hi
   have hil:i < elems.length:=by omega
   rw [List.getElem?_eq_getElem hil] at h1
   simp only [Option.bind_eq_some_iff] at h1
   obtain ⟨ecs,h2,h3⟩:=h1
   obtain ⟨y,hy1,hy2⟩:=hbr ecs _ h3 (Nat.le_trans (bulk_part (List.mem_map.2 ⟨_,List.getElem_mem hil,rfl⟩)) hba)
   refine ⟨y,fun e he=>?_,ecs,h2,hy2⟩
   rw [List.getElem?_eq_getElem hil] at he
   cases he;exact hy1
  obtain ⟨f,hf⟩:∃ f:Nat→Option α,∀ i,i < len→∃ y,f i = some y∧(∀ e,elems[i]? = some e→b y≤Rows.uptoBulk e.1)∧∃ ecs,W.cells? 0 (a.add (i * sz)) sz = some ecs∧Cells W (c y) ecs:=by
   refine ⟨fun i=>if h:i < len then some (Classical.choose (step i h)) else none,fun i hi=>?_⟩
   exact ⟨Classical.choose (step i hi),by simp [hi],Classical.choose_spec (step i hi)⟩
  have hl:∀ k,k≤len→∃ l:List α,l.length = k∧∀ i,i < k→f i = l[i]?:=by
   intro k
   induction k with
   | zero=>intro _;exact ⟨[],rfl,fun i hi=>by omega⟩
   | succ k ih =>
    intro hk
    obtain ⟨l,h1,h2⟩:=ih (by omega)
    obtain ⟨y,hy,_⟩:=hf k (by omega)
    refine ⟨l++[y],by simp [h1],fun i hi=>?_⟩
    rcases Nat.lt_succ_iff_lt_or_eq.1 hi with h3 | rfl
    ·rw [List.getElem?_append_left (by omega)];exact h2 i h3
    ·rw [List.getElem?_append_right (by omega),h1];simpa using hy
  obtain ⟨l,hl1,hl2⟩:=hl len (Nat.le_refl _)
  have hat:∀ i y,l[i]? = some y→(∀ e,elems[i]? = some e→b y≤Rows.uptoBulk e.1)∧∃ ecs,W.cells? 0 (a.add (i * sz)) sz = some ecs∧Cells W (c y) ecs:=by
   intro i y hy
   have hi:i < len:=by rw [← hl1];exact (List.getElem?_eq_some_iff.1 hy).1
   obtain ⟨z,h1,h2⟩:=hf i hi
   rw [hl2 i hi,hy] at h1
   cases h1;exact h2
  refine ⟨l,?_,Cells.one ?_ rfl⟩
  ·have:=sumB_le (b:=b) (l:=l) (es:=elems) (by omega) fun i y e h1 h2=>(hat i y h1).1 e h2
   simp only [Rows.uptoBulk];omega
  ·have hspot:l ≠ []→a.spot = none∧a.block < W.heap.size:=by
    intro hne
    obtain ⟨y,hy⟩:∃ y,l[0]? = some y:=by cases l with | nil=>exact absurd rfl hne | cons y l=>exact ⟨y,rfl⟩
    obtain ⟨_,ecs,h1,h2⟩:=hat 0 y hy
    obtain ⟨_,g1,g2⟩:=World.cells?_some h1
    have h3:=g2 0 hpos
    have hel:ecs.length = sz:=g1
    obtain ⟨e0,he0⟩:∃ e0,ecs[0]? = some e0:=⟨ecs[0]'(by omega),List.getElem?_eq_getElem (by omega)⟩
    rw [he0] at h3
    simpa [Addr.add] using cell_spot h3
   refine ⟨some a,cap,a.block,a.off,by simp [hl1],by simpa [hl1] using hle,by unfold capMax;unfold maxLen at hcap;omega,?_,?_,prepE_mk fun i e he=>?_⟩
   ·rw [List.length_map];unfold maxEls;omega
   ·by_cases hne:l = []
    ·left;simp [hne]
    ·right
     have:=(hspot hne).1
     cases a;simp_all
   ·rw [List.getElem?_map] at he
    cases hy:l[i]? with
    | none=>rw [hy] at he;cases he
    | some y =>
     rw [hy] at he
     simp only [Option.map_some,Option.some.injEq] at he
     subst he
     obtain ⟨_,ecs,h1,h2⟩:=hat i y hy
     obtain ⟨_,g1,g2⟩:=World.cells?_some h1
     obtain ⟨hsp,hbl⟩:=hspot (by intro e;rw [e] at hy;simp at hy)
     refine ⟨hc y,prepC_mk fun j x hx=>?_⟩
     obtain ⟨v,k1,k2⟩:=prepL_get h2.1 hx
     have hj:j < sz:=by rw [← hc y];exact (List.getElem?_eq_some_iff.1 hx).1
     have h3:=g2 j hj
     rw [k1,addr_add hsp,addr_add rfl] at h3
     refine ⟨v,?_,hbl,h2.2 v (List.mem_of_getElem? k1),k2⟩
     rw [Nat.zero_add,← Nat.add_assoc]
     exact h3
theorem split2 {α:Type} {cs:List α} {a b:Nat} (h:cs.length = a+b):cs = (cs.drop 0).take a++(cs.drop a).take b:=by
 rw [List.drop_zero,List.take_of_length_le (l:=cs.drop a) (by simp;omega),List.take_append_drop]
theorem split3 {α:Type} {cs:List α} {a b c:Nat} (h:cs.length = a+b+c):cs = (cs.drop 0).take a++((cs.drop a).take b++(cs.drop (a+b)).take c):=by
 have h1:cs.drop a = (cs.drop a).take b++(cs.drop (a+b)).take c:=by
  rw [List.take_of_length_le (l:=cs.drop (a+b)) (by simp;omega),← List.drop_drop,List.take_append_drop]
 rw [← h1,List.drop_zero,List.take_append_drop]
theorem tbs_sumB (l:List Term):sumB tb l = tbs l:=by
 induction l with
 | nil=>rfl
 | cons a l ih=>simp only [sumB,tbs,tb.tbs,ih]
theorem sum_rbs:∀ l:List ARule,sumB (fun x:ARule=>1+tb x.left+tb x.right) l = rbs l
 | []=>rfl
 | a :: l=>by simp only [sumB,rbs,sum_rbs l]
theorem c9:prog.cellsOf 9 = 1:=by kernel_rfl
theorem c4:prog.cellsOf 4 = 1:=by kernel_rfl
theorem c3:prog.cellsOf 3 = 1:=by kernel_rfl
theorem c33:prog.cellsOf 33 = 1:=by kernel_rfl
theorem c35:prog.cellsOf 35 = 1+1+1:=by kernel_rfl
theorem c107:prog.cellsOf 107 = 3+3:=by kernel_rfl
theorem br_term:∀ n,Br enc W n 35 cT tb
 | 0=>by intro cs x h;simp [DataW.trod] at h
 | n+1=>by
  intro cs x h hbk
  obtain ⟨xs,m,hm,rfl,hl,hlen,hf⟩:=DataW.trod_struct (P:=prog) Go.Proofs.Tryz.underlying35 h
  obtain rfl:n = m:=by omega
  rw [c35] at hl
  match xs,hlen with
  | [x0,x1,x2],_ =>
  have f0:trd enc W n 9 ((cs.drop 0).take (prog.cellsOf 9)) = some x0:=hf 0 _ rfl
  have f1:trd enc W n 4 ((cs.drop 1).take (prog.cellsOf 4)) = some x1:=hf 1 _ rfl
  have f2:trd enc W n 33 ((cs.drop 2).take (prog.cellsOf 33)) = some x2:=hf 2 _ rfl
  rw [c9] at f0;rw [c4] at f1;rw [c33] at f2
  simp only [List.map_cons,List.map_nil,Rows.uptoBulk,Rows.uptoBulkAll] at hbk ⊢
  obtain ⟨s,b0,d0⟩:=br_str _ _ f0 (by omega)
  obtain ⟨v,b1,d1⟩:=br_bool _ _ f1 (by omega)
  obtain ⟨l,b2,d2⟩:=br_slice (n:=n) (sz:=3) (c:=cT) (b:=tb) Go.Proofs.Tryz.underlying33 c35 (by omega) (fun _=>rfl) (fun m hm=>br_term m) _ _ f2 (by omega)
  try dsimp only at b0
  try dsimp only at b1
  try dsimp only at b2
  refine ⟨.mk s v l,?_,?_⟩
  ·rw [tbs_sumB] at b2
   simp only [tb]
   simp only [tbs] at b2
   omega
  ·rw [split3 hl,cT_eq]
   exact d0.app (d1.app d2)
theorem br_rule:∀ n,Br enc W n 107 cR (fun x=>1+tb x.left+tb x.right)
 | 0=>by intro cs x h;simp [DataW.trod] at h
 | n+1=>by
  intro cs x h hbk
  obtain ⟨xs,m,hm,rfl,hl,hlen,hf⟩:=DataW.trod_struct (P:=prog) Go.Proofs.Tryz.underlying107 h
  obtain rfl:n = m:=by omega
  rw [c107] at hl
  match xs,hlen with
  | [x0,x1],_ =>
  have f0:trd enc W n 35 ((cs.drop 0).take (prog.cellsOf 35)) = some x0:=hf 0 _ rfl
  have f1:trd enc W n 35 ((cs.drop 3).take (prog.cellsOf 35)) = some x1:=hf 1 _ rfl
  rw [c35] at f0 f1
  simp only [List.map_cons,List.map_nil,Rows.uptoBulk,Rows.uptoBulkAll] at hbk ⊢
  obtain ⟨s,b0,d0⟩:=br_term n _ _ f0 (by omega)
  obtain ⟨v,b1,d1⟩:=br_term n _ _ f1 (by omega)
  try dsimp only at b0
  try dsimp only at b1
  refine ⟨⟨s,v⟩,by dsimp only;omega,?_⟩
  rw [split2 hl]
  exact d0.app d1
theorem br_rules {n:Nat}:Br enc W n 22 (fun r:List ARule=>[encRs r]) (fun r=>rbs r):=by
 intro cs x h hbk
 obtain ⟨l,b0,d0⟩:=br_slice (n:=n) (sz:=6) (c:=cR) (b:=fun x=>1+tb x.left+tb x.right) Go.Proofs.Tryz.underlying22 c107 (by omega) (fun _=>rfl) (fun m hm=>br_rule m) _ _ h hbk
 refine ⟨l,?_,d0⟩
 have:sumB (fun x:ARule=>1+tb x.left+tb x.right) l = rbs l:=sum_rbs l
 dsimp only at b0 ⊢
 omega
end
end Go.Dw
end
section
namespace Go.Dw
open Go.ChangeShapes Go.WideShapes Go.ChangeAt Go.RowKit Go.Proofs
theorem post_same {H:Type} {enc:TypeId × Value→H} {P:Program} {f:Func} {s:ChangeSpec} {apart fresh handsOn again:Bool} {W W':World} {args:Array Value} {v:Value} {ds gs:List (DataW H)} {before pa pv:List MemPlace}
  (hW:DataW.Whole enc P f.params.toList s.vars apart W args.toList ds gs before)
  (hres:∀ (b:Nat) (sp:Nat→Bool) (hd:Bool),DataW.TrodAll enc P W' b sp hd f.resultTypes.toList (v.resultList f.resultTypes.size) (s.fn H (ds++gs)).results [])
  (hargs:∀ sp:Nat→Bool,(∀ p∈before,sp p.block = true)→DataW.TrodAll enc P W' 0 sp true f.params.toList args.toList (s.fn H (ds++gs)).args pa)
  (hvars:∀ sp:Nat→Bool,(∀ p∈before,sp p.block = true)→DataW.TrodVars enc P W' sp s.vars (s.fn H (ds++gs)).vars pv)
  (hps:before = pa++pv) (hk:W.keptBut W' (·∈before)) (hfz:∀ a:Addr,a.block < W.heap.size→W'.frozen? a = W.frozen? a)
  (hok:∀ (j:Nat) (t:TypeId) (r:Value),f.resultTypes[j]? = some t→(v.resultList f.resultTypes.size)[j]? = some r→Value.okWide P W' .any 0 t r) :
  s.post enc P f apart fresh handsOn again W args v W':=by
 have hold:∀ p∈before,(fun b=>decide (b < W.heap.size)) p.block = true:=fun p hp=>by simpa using hW.lt p hp
 have hlt:=hW.lt
 refine ⟨ds,gs,before,[],pa,pv,hW,hres _ _ _,hargs _ hold,hvars _ hold,World.keptBut_mono (fun p hp=>⟨hp,?_⟩) hk,fun _=>?_⟩
 ·rw [hps,List.mem_append] at hp
  exact Or.inr hp
 ·obtain ⟨_,_,_,_,_,hz,hn⟩:=hW
  refine ⟨hok,_,_,([]++pa)++pv,⟨[]++pa,pv,trodAll_append (hargs _ (fun _ _=>rfl)) (hres _ _ _),hvars _ (fun _ _=>rfl),rfl,?_,?_⟩,?_⟩
  ·intro b off hp
   have hp':MemPlace.cell b off∈before:=by rw [hps];simpa using hp
   rw [hfz _ (hlt _ hp')]
   exact hz b off hp'
  ·intro ha
   have:=hn ha
   rw [hps] at this
   simpa using this
  ·intro p hp _
   rw [hps]
   simpa using hp
theorem trodAll_old {H:Type} {enc:TypeId × Value→H} {P:Program} {W W':World} (hh:∀ b,b < W.heap.size→W'.heap[b]? = W.heap[b]?) {base:Nat} {sp:Nat→Bool} {held:Bool} :
  ∀ {ts:List TypeId} {vs:List Value} {ds:List (DataW H)} {ps:List MemPlace},DataW.TrodAll enc P W base sp held ts vs ds ps→DataW.TrodAll enc P W' base sp held ts vs ds ps
 | [],[],[],_,h=>h
 | [],[],_ :: _,_,h=>h.elim
 | [],_ :: _,_,_,h=>h.elim
 | _ :: _,[],_,_,h=>h.elim
 | _ :: _,_ :: _,[],_,h=>h.elim
 | t :: ts,v :: vs,d :: ds,ps,⟨p,q,⟨n,h1⟩,h2,e⟩=>by
  refine ⟨p,q,⟨n,DataW.trod_carry n _ _ _ h1 fun x hx=>?_⟩,trodAll_old hh h2,e⟩
  have hl:=DataW.trod_lt n _ _ _ h1 x hx
  cases x with
  | cell b o=>exact World.cell?_of_block (w:=W) (hh b hl)
  | map b=>exact hh b hl
end Go.Dw
end
section
namespace Go.Dw
mutual
def eqV:V→V→Bool
 | .any,.any=>true
 | .int k n,.int k' n'=>decide (k = k') && decide (n = n')
 | .bool a,.bool b=>a == b
 | .str a,.str b=>decide (a = b)
 | .agg a,.agg b=>eqL a b
 | .tup a,.tup b=>eqL a b
 | .nil,.nil=>true
 | .sl z a,.sl z' b=>decide (z = z') && eqE a b
 | .ro a o,.ro b o'=>decide (o = o') && eqL a b
 | .nilp,.nilp=>true
 | .nilm,.nilm=>true
 | .nilf,.nilf=>true
 | .own i z a,.own i' z' b=>decide (i = i') && decide (z = z') && eqE a b
 | .ptr i o,.ptr i' o'=>decide (i = i') && decide (o = o')
 | .map i,.map i'=>decide (i = i')
 | .it i,.it i'=>decide (i = i')
 | .rw i z n,.rw i' z' n'=>decide (i = i') && decide (z = z') && decide (n = n')
 | .rp i n k o,.rp i' n' k' o'=>decide (i = i') && decide (n = n') && decide (k = k') && decide (o = o')
 | _,_=>false
def eqL:List V→List V→Bool
 | [],[]=>true
 | a :: l,b :: m=>eqV a b && eqL l m
 | _,_=>false
def eqE:List (List V)→List (List V)→Bool
 | [],[]=>true
 | a :: l,b :: m=>eqL a b && eqE l m
 | _,_=>false
end
def eqM:List (V × V)→List (V × V)→Bool
 | [],[]=>true
 | a :: l,b :: m=>eqV a.1 b.1 && eqV a.2 b.2 && eqM l m
 | _,_=>false
def eqOb:Ob→Ob→Bool
 | .cells e a,.cells e' b=>decide (e = e') && eqL a b
 | .arr e z n,.arr e' z' n'=>decide (e = e') && decide (z = z') && decide (n = n')
 | .map a,.map b=>eqM a b
 | .dead,.dead=>true
 | .row e z a,.row e' z' b=>decide (e = e') && decide (z = z') && eqE a b
 | _,_=>false
def eqH:List Ob→List Ob→Bool
 | [],[]=>true
 | a :: l,b :: m=>eqOb a b && eqH l m
 | _,_=>false
abbrev Res:=Option (V × List Ob)
abbrev Go:=Bool→List RV→(Nat→C)→Nat→List K→T→List Ob→Res
def bothR (a b:Res):Res:=match a with
 | some a=>match b with
  | some b=>if eqV a.1 b.1 && eqH a.2 b.2 then some a else none
  | none=>none
 | none=>none
def agree:List Res→Res
 | []=>none
 | [r]=>r
 | r :: r2 :: rs=>bothR r (agree (r2 :: rs))
mutual
def refs:V→List Nat
 | .agg cs | .tup cs=>refsL cs
 | .fn _ a l=>refsL a++refsL l
 | .own i _ _=>[i]
 | .ptr i _=>[i]
 | .map i=>[i]
 | .it i=>[i]
 | .rw i _ _=>[i]
 | .rp i _ _ _=>[i]
 | _=>[]
def refsL:List V→List Nat
 | []=>[]
 | x :: xs=>refs x++refsL xs
end
def refsM:List (V × V)→List Nat
 | []=>[]
 | p :: es=>refs p.2++refsM es
def refsE:List (List V)→List Nat
 | []=>[]
 | x :: xs=>refsL x++refsE xs
def refsO:Ob→List Nat
 | .cells _ cs=>refsL cs
 | .map es=>refsM es
 | .row _ _ els=>refsE els
 | .iter (some i) _ _=>[i]
 | _=>[]
def refsH:List Ob→List Nat
 | []=>[]
 | o :: H=>refsO o++refsH H
def memN (i:Nat):List Nat→Bool
 | []=>false
 | j :: l=>Nat.beq i j || memN i l
def reach (B:Nat) (H:List Ob):Nat→List Nat→List Nat→List Nat
 | 0,_,acc=>acc
 | _+1,[],acc=>acc
 | n+1,i :: l,acc=>bif Nat.blt i B || memN i acc then reach B H n l acc else reach B H n (refsO (H.getD i .dead)++l) (acc++[i])
def okEx (B n:Nat):List Nat→Bool
 | []=>true
 | i :: l=>Nat.ble B i && Nat.blt i n && !memN i l && okEx B n l
def fin (pure:Bool) (rs:List RV) (B:Nat) (t:T) (H:List Ob):Res :=
 match retV rs t H with
 | none=>none
 | some x=>bif pure then (match B with | 0=>some (ren (fun _=>none) x,[]) | _=>none) else
  match reach B H 1000 (refs x++refsH (H.take B)) [] with
  | ex=>bif okEx B H.length ex then some (ren (pos? (List.range B++ex)) x,give (List.range B++ex) H) else none
structure FD where
 nd:Nat→C
 c:C
 n:Nat
 rs:List RV
abbrev Code:=Nat→Option FD
abbrev Prims:=Nat→List V→List Ob→Res
def callI (code:Code) (prims:Prims) (ih:Go) (pure:Bool) (f:Nat) (args:List V) (H:List Ob):Res :=
 match prims f args H with
 | some r=>some r
 | none=>match code f with
  | some fd=>bif Nat.beq args.length fd.n then ih pure fd.rs fd.nd H.length [.c fd.c] (ini 0 args) H else none
  | none=>none
def nxK (seen:List Nat) (k:Nat):List (V × V)→List (Nat × V × V)
 | []=>[]
 | p :: es=>bif memN k seen then nxK seen (k+1) es else (k,p) :: nxK seen (k+1) es
def allSeen (seen:List Nat):Nat→Bool
 | 0=>true
 | n+1=>memN n seen && allSeen seen n
def step (code:Code) (prims:Prims) (ih:Go) (pure:Bool) (rs:List RV) (N:Nat→C) (B:Nat) (s:List K) (t:T) (H:List Ob):Res :=
 match s with
 | []=>fin pure rs B t H
 | .c c :: s=>match c with
  | .skip=>ih pure rs N B s t H
  | .seq a b=>ih pure rs N B (.c a :: .c b :: s) t H
  | .reg l=>ih pure rs N B (.r l :: s) t H
  | .dr _ l=>ih pure rs N B (.r l :: s) t H
  | .gh l c=>ih pure rs N B (.r (l.map .op) :: .c c :: s) t H
  | .cond x a b=>match ev t x with
   | .bool c=>ih pure rs N B (.c (if c then a else b) :: s) t H
   | _=>none
  | .blk id a=>ih pure rs N B (.c a :: .mk id :: s) t H
  | .loop a=>ih pure rs N B (.c a :: .c (.loop a) :: s) t H
  | .exit id=>match popTo id s with
   | some s'=>ih pure rs N B s' t H
   | none=>none
  | .ret=>fin pure rs B t H
  | .n k=>ih pure rs N B (.c (N k) :: s) t H
  | .m k=>ih pure rs N B (.c (N k) :: s) t H
  | _=>none
 | .mk _ :: s=>ih pure rs N B s t H
 | .br .. :: _=>none
 | .r l :: s=>match l with
  | []=>ih pure rs N B s t H
  | .op i :: l=>match exec B i t H with
   | some (t',H')=>ih pure rs N B (.r l :: s) t' H'
   | none=>none
  | .call d f args :: l=>match callI code prims ih false f (args.map (ev t)) H with
   | some (x,H')=>ih pure rs N B (.r l :: s) (setO d x t) H'
   | none=>none
  | .callv d g args :: l=>match ev t g with
   | .fn (.func f) fst caps=>match callI code prims ih false f (fst++args.map (ev t)++caps) H with
    | some (x,H')=>ih pure rs N B (.r l :: s) (setO d x t) H'
    | none=>none
   | _=>none
  | .callp d f args :: l=>match callI code prims ih true f (rens (fun _=>none) (args.map (ev t))) [] with
   | some (x,[])=>ih pure rs N B (.r l :: s) (setO d (ren (fun _=>none) x) t) H
   | _=>none
  | .callvp d g args :: l=>match ev t g with
   | .fn (.func f) fst caps=>match callI code prims ih true f (rens (fun _=>none) (fst++args.map (ev t)++caps)) [] with
    | some (x,[])=>ih pure rs N B (.r l :: s) (setO d (ren (fun _=>none) x) t) H
    | _=>none
   | _=>none
  | .gd x b ds g :: l=>match ev t x with
   | .bool c=>ih pure rs N B (.r ((if c = b then g else [])++l) :: s) (if c = b then t else ds.map (fun d=>(d,V.tup []))++t) H
   | .tup []=>ih pure rs N B (.r l :: s) (ds.map (fun d=>(d,V.tup []))++t) H
   | _=>none
  | .alt ls :: l=>match l with
   | []=>agree (ls.map fun p=>ih pure rs N B (.r p.2 :: s) t H)
   | _=>none
  | .nl d ne x :: l=>match elV (ev t x) with
   | some []=>agree [ih pure rs N B (.r l :: s) ((d,.bool (true != ne)) :: t) H,ih pure rs N B (.r l :: s) ((d,.bool (false != ne)) :: t) H]
   | some _=>ih pure rs N B (.r l :: s) ((d,.bool (false != ne)) :: t) H
   | none=>none
  | .nx d x :: l=>match ev t x with
   | .it j=>match H[j]? with
    | some (.iter (some i) n seen)=>match H[i]? with
     | some (.map es)=>if n = es.length then
       bif allSeen seen n then ih pure rs N B (.r l :: s) ((d,.tup [.bool false]) :: t) H
       else agree ((nxK seen 0 es).map fun p=>ih pure rs N B (.r l :: s) ((d,.tup [.bool true,p.2.1,p.2.2]) :: t) (H.set j (.iter (some i) n (seen++[p.1]))))
      else none
     | _=>none
    | _=>none
   | _=>none
end Go.Dw
end
section
namespace Go.Dw
inductive AMulti where
 | mk (rule:Int) (name:Str) (var:Bool) (args:List AMulti)
deriving Inhabited
namespace AMulti
def rule:AMulti→Int | mk r _ _ _=>r
def name:AMulti→Str | mk _ n _ _=>n
def var:AMulti→Bool | mk _ _ v _=>v
def args:AMulti→List AMulti | mk _ _ _ a=>a
theorem eta (t:AMulti):mk t.rule t.name t.var t.args = t:=by cases t;rfl
end AMulti
mutual
def margC:AMulti→List (List V)
 | .mk _ _ _ ts=>margCs ts
def margCs:List AMulti→List (List V)
 | []=>[]
 | a :: ts=>[.int .i64 a.rule,.str a.name,.bool a.var,.sl 4 (margC a)] :: margCs ts
end
def cM (t:AMulti):List V:=[.int .i64 t.rule,.str t.name,.bool t.var,.sl 4 (margC t)]
theorem margCs_eq (ts:List AMulti):margCs ts = ts.map cM:=by
 induction ts with
 | nil=>simp [margCs]
 | cons a ts ih=>simp [margCs,ih,cM]
theorem margC_eq (t:AMulti):margC t = t.args.map cM:=by cases t;simp [margC,margCs_eq,AMulti.args]
abbrev encMs (l:List AMulti):V:=encL cM 4 l
theorem cM_eq (t:AMulti):cM t = [.int .i64 t.rule,.str t.name,.bool t.var,encMs t.args]:=by rw [cM,margC_eq];rfl
def encM (t:AMulti):V:=.agg (cM t)
theorem sto_encM (t:AMulti):sto (encM t) = some (cM t):=rfl
theorem cM_len (t:AMulti):(cM t).length = 4:=rfl
theorem cM_0 (t:AMulti):(cM t)[0]? = some (.int .i64 t.rule):=rfl
theorem cM_1 (t:AMulti):(cM t)[1]? = some (.str t.name):=rfl
theorem cM_2 (t:AMulti):(cM t)[2]? = some (.bool t.var):=rfl
theorem cM_3 (t:AMulti):(cM t)[3]? = some (encMs t.args):=by rw [cM_eq];rfl
theorem cM_sub (t:AMulti):sub 0 4 (cM t) = cM t:=rfl
theorem encM_fold (t:AMulti):V.agg (cM t) = encM t:=rfl
theorem rens_cM {σ:Nat→Option Nat} (t:AMulti):rens σ (cM t) = cM t:=rfl
theorem ren_encM {σ:Nat→Option Nat} (t:AMulti):ren σ (encM t) = encM t:=by unfold encM;rw [ren_agg,rens_cM]
theorem cM_mk (r:Int) (n:Str) (v:Bool) (l:List AMulti):[V.int .i64 r,V.str n,.bool v,encMs l] = cM (.mk r n v l):=by rw [cM_eq];rfl
theorem fdV_encM_none (t:AMulti) (k:Nat):fdV k none (encM t) = (cM t)[k]?:=rfl
theorem put_0_4 (x:List V) (a b c d:V) (h:x.length = 4):put 0 x [a,b,c,d] = x:=by
 simp only [put,h];simp
theorem put_cM (t:AMulti) (a b c d:V):put 0 (cM t) [a,b,c,d] = cM t:=put_0_4 _ _ _ _ _ rfl
theorem put_cM' (t u:AMulti):put 0 (cM t) (cM u) = cM t:=put_0_4 _ _ _ _ _ rfl
attribute [push_cast] sto_encM cM_len cM_0 cM_1 cM_2 cM_3 cM_sub encM_fold ren_encM rens_cM fdV_encM_none put_cM put_cM'
mutual
def msize:AMulti→Nat
 | .mk _ _ _ l=>1+msizes l
def msizes:List AMulti→Nat
 | []=>0
 | a :: l=>msize a+msizes l
end
mutual
def mdepth:AMulti→Nat
 | .mk _ _ _ l=>mdepths l+1
def mdepths:List AMulti→Nat
 | []=>0
 | a :: l=>max (mdepth a) (mdepths l)
end
mutual
def mb:AMulti→Nat
 | .mk _ n _ l=>1+n.length+mbs l
def mbs:List AMulti→Nat
 | []=>0
 | a :: l=>mb a+mbs l
end
theorem msizes_append (a b:List AMulti):msizes (a++b) = msizes a+msizes b:=by
 induction a with
 | nil=>simp [msizes]
 | cons x xs ih=>simp [msizes,ih];omega
theorem msize_args (t:AMulti):msize t = 1+msizes t.args:=by cases t;simp [msize,AMulti.args]
theorem mdepth_args (t:AMulti):mdepth t = mdepths t.args+1:=by cases t;simp [mdepth,AMulti.args]
theorem mb_args (t:AMulti):mb t = 1+t.name.length+mbs t.args:=by cases t;simp [mb,AMulti.args,AMulti.name]
theorem msizes_take_succ (l:List AMulti) (k:Nat) (h:k < l.length):msizes (l.take (k+1)) = msizes (l.take k)+msize (l.getD k default):=by
 rw [take_succ_getD h,msizes_append];simp [msizes]
theorem msizes_take_le (l:List AMulti) (k:Nat):msizes (l.take k)≤msizes l:=by
 conv=>rhs;rw [← List.take_append_drop k l]
 rw [msizes_append];omega
theorem msize_mem {l:List AMulti} {a:AMulti} (h:a∈l):msize a≤msizes l:=by
 induction l with
 | nil=>cases h
 | cons x xs ih=>rcases List.mem_cons.1 h with rfl | h <;> simp [msizes];have:=ih h;omega
theorem mb_mem {l:List AMulti} {a:AMulti} (h:a∈l):mb a≤mbs l:=by
 induction l with
 | nil=>cases h
 | cons x xs ih=>rcases List.mem_cons.1 h with rfl | h <;> simp [mbs];have:=ih h;omega
theorem length_le_msizes (l:List AMulti):l.length≤msizes l:=by
 induction l with
 | nil=>simp
 | cons x xs ih=>simp only [msizes,List.length_cons];have:=msize_args x;omega
theorem mdepths_append (a b:List AMulti):mdepths (a++b) = max (mdepths a) (mdepths b):=by
 induction a with
 | nil=>simp [mdepths]
 | cons x xs ih=>simp [mdepths,ih,Nat.max_assoc]
theorem multi_ind {p:AMulti→Prop} (h:∀ t,(∀ a∈t.args,p a)→p t) (t:AMulti):p t:=by
 have:∀ n t,msize t≤n→p t:=by
  intro n
  induction n with
  | zero=>intro t ht;have:=msize_args t;omega
  | succ n ih =>
   intro t ht
   refine h t fun a ha=>ih a ?_
   have:=msize_args t
   have:=msize_mem ha
   omega
 exact this (msize t) t (Nat.le_refl _)
theorem mdepth_le_msize (t:AMulti):mdepth t≤msize t:=by
 induction t using multi_ind with
 | h t ih =>
  rw [mdepth_args,msize_args]
  have:∀ l:List AMulti,(∀ a∈l,mdepth a≤msize a)→mdepths l≤msizes l:=by
   intro l
   induction l with
   | nil=>intro _;simp [mdepths]
   | cons x l ihl =>
    intro hl
    have h1:=hl x (by simp)
    have h2:=ihl fun a ha=>hl a (by simp [ha])
    simp only [mdepths,msizes];omega
  have:=this t.args ih
  omega
theorem msize_le_mb (t:AMulti):msize t≤mb t:=by
 induction t using multi_ind with
 | h t ih =>
  rw [mb_args,msize_args]
  have:∀ l:List AMulti,(∀ a∈l,msize a≤mb a)→msizes l≤mbs l:=by
   intro l
   induction l with
   | nil=>intro _;simp [mbs,msizes]
   | cons x l ihl =>
    intro hl
    have h1:=hl x (by simp)
    have h2:=ihl fun a ha=>hl a (by simp [ha])
    simp only [mbs,msizes];omega
  have:=this t.args ih
  omega
theorem mdepths_take_succ (l:List AMulti) (k:Nat) (h:k < l.length):mdepths (l.take (k+1)) = max (mdepths (l.take k)) (mdepth (l.getD k default)):=by
 rw [take_succ_getD h,mdepths_append];simp [mdepths]
theorem mdepths_le_msizes (l:List AMulti):mdepths l≤msizes l:=by
 induction l with
 | nil=>simp [mdepths]
 | cons x l ih=>have:=mdepth_le_msize x;simp only [mdepths,msizes];omega
mutual
def meq:AMulti→AMulti→Bool
 | .mk r n v l,.mk r' n' v' l'=>r == r' && n == n' && v == v' && meqs l l'
def meqs:List AMulti→List AMulti→Bool
 | [],[]=>true
 | a :: l,b :: m=>meq a b && meqs l m
 | _,_=>false
end
mutual
theorem meq_iff:∀ a b:AMulti,meq a b = true ↔ a = b
 | .mk r n v l,.mk r' n' v' l'=>by simp [meq,meqs_iff l l',and_assoc]
theorem meqs_iff:∀ a b:List AMulti,meqs a b = true ↔ a = b
 | [],[]=>by simp [meqs]
 | a :: l,b :: m=>by simp [meqs,meq_iff a b,meqs_iff l m]
 | [],_ :: _=>by simp [meqs]
 | _ :: _,[]=>by simp [meqs]
end
instance:DecidableEq AMulti:=fun a b=>if h:meq a b = true then .isTrue ((meq_iff a b).1 h) else .isFalse fun e=>h ((meq_iff a b).2 e)
theorem multi_eq_iff (a b:AMulti):a = b ↔ a.rule = b.rule∧a.name = b.name∧a.var = b.var∧a.args = b.args:=by cases a;cases b;simp [AMulti.rule,AMulti.name,AMulti.var,AMulti.args]
theorem eqf_eqM {f:AMulti→AMulti→Bool}:∀ {l m:List AMulti},(∀ a∈l,∀ b,f a b = decide (a = b))→eqf f l m = decide (l = m)
 | [],[],_=>rfl
 | a :: l,b :: m,h=>by
  simp only [eqf,h a (by simp) b,eqf_eqM (l:=l) (m:=m) fun x hx=>h x (by simp [hx])]
  simp
 | [],_ :: _,_=>rfl
 | _ :: _,[],_=>rfl
end Go.Dw
end
section
namespace Go.Dw
def cmpI (a b:Int):Int:=if a < b then -1 else if b < a then 1 else 0
theorem r01_CompareInts_s (a b:Int):PF n_r01_CompareInts [.int .i64 a,.int .i64 b] (.int .i64 (cmpI a b)):=by
 refine pf_of r01_CompareInts.ok rfl ?_
 push_cast
 refine ⟨fun h=>pf_ret ?_,fun h=>⟨fun h2=>pf_ret ?_,fun h2=>pf_ret ?_⟩⟩ <;> push_cast [r01_CompareInts.rs,cmpI,h]
 ·simp_all
 ·simp_all
def cmpB:Str→Str→Int
 | [],[]=>0
 | [],_ :: _=>-1
 | _ :: _,[]=>1
 | a :: s,b :: u=>if a = b then cmpB s u else cmpI a.toNat b.toNat
theorem cmpB_eq:∀ a b:Str,cmpB a b = cmpS a b:=by
 intro a b
 rw [cmpS_eq]
 induction a generalizing b with
 | nil=>cases b <;> simp [cmpB]
 | cons x a ih =>
  cases b with
  | nil=>simp [cmpB]
  | cons y b =>
   simp only [cmpB,List.cons_lt_cons_iff]
   by_cases h:x = y
   ·subst h
    rw [if_pos rfl,ih]
    have:¬ x < x:=UInt8.lt_irrefl x
    simp [this]
   ·rw [if_neg h]
    have h':¬ y = x:=fun e=>h e.symm
    simp only [h,h',false_and,or_false,cmpI,UInt8.lt_iff_toNat_lt]
    norm_cast
theorem r01_CompareNames_s (a b:Str) (ha:a.length < 2^62) (hb:b.length < 2^62):PF n_r01_CompareNames [.str a,.str b] (.int .i64 (cmpS a b)):=by
 rw [← cmpB_eq]
 refine pf_of r01_CompareNames.ok rfl ?_
 have hmn:(if (b.length:Int) < (a.length:Int) then (b.length:Int) else (a.length:Int)) = ((min a.length b.length:Nat):Int):=by split <;> omega
 push_cast [hmn]
 refine loop_up (n:=min a.length b.length) (R:=fun k=>cmpB (a.drop k) (b.drop k) = cmpB a b→r01_CompareNames.L3 (.str a) (.str b) (.int .i64 (min a.length b.length:Nat)) (.int .i64 k) 0 [] _) ?_ ?_ 0 (by omega) rfl
 ·intro k hk ih hq
  have hka:k < a.length:=by omega
  have hkb:k < b.length:=by omega
  rw [drop_getD hka,drop_getD hkb] at hq
  simp only [cmpB] at hq
  have h1:btV a k = ((a.getD k default).toNat:Int):=rfl
  have h2:btV b k = ((b.getD k default).toNat:Int):=rfl
  have hr:∀ c:UInt8,IntKind.i64.wrap (c.toNat:Int) = c.toNat:=fun c=>wrap64 (by omega) (by have:=UInt8.toNat_lt c;omega)
  refine r01_CompareNames.G3 ?_
  push_cast [ilt hk,ilt hka,ilt hkb,h1,h2,hr,w64 (show k < 2^62 by omega)]
  refine ⟨fun h=>.of (r01_CompareInts_s _ _) ?_,fun h=>ih ?_⟩
  ·push_cast
   refine pf_ret ?_
   push_cast [r01_CompareNames.rs]
   rw [← hq,if_neg]
   intro e;rw [e] at h;exact h rfl
  ·rw [← hq,if_pos]
   exact UInt8.toNat_inj.1 (Int.ofNat.inj (by simpa using h))
 ·intro hq
  refine r01_CompareNames.G3 ?_
  push_cast [inlt (Nat.le_refl _)]
  refine .of (r01_CompareInts_s _ _) ?_
  push_cast
  refine pf_ret ?_
  push_cast [r01_CompareNames.rs]
  rw [← hq]
  rcases Nat.lt_or_ge a.length b.length with h | h
  ·rw [Nat.min_eq_left (by omega),drop_map_none,drop_getD h]
   simp [cmpB,cmpI];omega
  ·rw [Nat.min_eq_right (by omega),drop_map_none]
   rcases Nat.lt_or_ge b.length a.length with h2 | h2
   ·rw [drop_getD h2]
    simp [cmpB,cmpI];omega
   ·rw [show b.length = a.length by omega,drop_map_none]
    simp [cmpB,cmpI]
end Go.Dw
end
section
namespace Go.Dw
mutual
def count (v:Str):Term→Nat
 | .mk n b l=>(if b && decide (n = v) then 1 else 0)+counts v l
def counts (v:Str):List Term→Nat
 | []=>0
 | a :: l=>count v a+counts v l
end
theorem count_eq (v:Str) (t:Term):count v t = (if t.var && decide (t.name = v) then 1 else 0)+counts v t.args:=by cases t;rfl
theorem counts_append (v:Str) (a b:List Term):counts v (a++b) = counts v a+counts v b:=by
 induction a with
 | nil=>simp [counts]
 | cons x xs ih=>simp [counts,ih];omega
theorem counts_take_le (v:Str) (l:List Term) (k:Nat):counts v (l.take k)≤counts v l:=by
 conv=>rhs;rw [← List.take_append_drop k l]
 rw [counts_append];omega
mutual
theorem count_le (v:Str):∀ t,count v t≤size t
 | .mk n b l=>by simp only [count,size];have:=counts_le v l;split <;> omega
theorem counts_le (v:Str):∀ l,counts v l≤sizes l
 | []=>by simp [counts,sizes]
 | a :: l=>by simp only [counts,sizes];have:=count_le v a;have:=counts_le v l;omega
end
def lbg {α:Type} (p:α→Bool):List α→Nat
 | []=>0
 | x :: l=>if p x then lbg p l+1 else 0
theorem lbg_le {α:Type} (p:α→Bool):∀ l:List α,lbg p l≤l.length
 | []=>Nat.le_refl _
 | x :: l=>by simp only [lbg];have:=lbg_le p l;split <;> simp <;> omega
def insS (l:List Str) (s:Str):List Str:=if lbg (fun x=>decide (x < s)) l < l.length∧l.getD (lbg (fun x=>decide (x < s)) l) default = s then l else l.take (lbg (fun x=>decide (x < s)) l)++s :: l.drop (lbg (fun x=>decide (x < s)) l)
theorem mem_insS {l:List Str} {s v:Str}:v∈insS l s ↔ v∈l ∨ v = s:=by
 unfold insS
 split
 ·rename_i h
  constructor
  ·exact .inl
  ·rintro (h2 | rfl)
   ·exact h2
   ·rw [← h.2];exact getD_mem h.1
 ·generalize lbg (fun x=>decide (x < s)) l = k
  have:=List.take_append_drop k l
  constructor
  ·intro h
   simp only [List.mem_append,List.mem_cons] at h
   rcases h with h | h | h
   ·exact .inl (List.mem_of_mem_take h)
   ·exact .inr h
   ·exact .inl (List.mem_of_mem_drop h)
  ·rintro (h | rfl)
   ·rw [← this] at h
    simp only [List.mem_append,List.mem_cons] at h ⊢
    rcases h with h | h
    ·exact .inl h
    ·exact .inr (.inr h)
   ·simp
theorem insS_len (l:List Str) (s:Str):(insS l s).length≤l.length+1:=by
 unfold insS
 have:=lbg_le (fun x=>decide (x < s)) l
 split <;> simp <;> omega
mutual
def collectT (l:List Str):Term→List Str
 | .mk n b ar=>collectTs (if b then insS l n else l) ar
def collectTs (l:List Str):List Term→List Str
 | []=>l
 | a :: ar=>collectTs (collectT l a) ar
end
mutual
theorem collectT_len:∀ (t:Term) (l:List Str),(collectT l t).length≤l.length+size t
 | .mk n b ar,l=>by
  simp only [collectT,size]
  have:=collectTs_len ar (if b then insS l n else l)
  have:=insS_len l n
  cases b <;> simp at * <;> omega
theorem collectTs_len:∀ (ar:List Term) (l:List Str),(collectTs l ar).length≤l.length+sizes ar
 | [],l=>by simp [collectTs,sizes]
 | a :: ar,l=>by simp only [collectTs,sizes];have:=collectT_len a l;have:=collectTs_len ar (collectT l a);omega
end
mutual
def occ (v:Str):Term→Bool
 | .mk n b ar=>(b && decide (n = v)) || occs v ar
def occs (v:Str):List Term→Bool
 | []=>false
 | a :: ar=>occ v a || occs v ar
end
mutual
theorem mem_collectT (v:Str):∀ (t:Term) (l:List Str),v∈collectT l t ↔ v∈l ∨ occ v t = true
 | .mk n b ar,l=>by
  simp only [collectT,occ,mem_collectTs v ar]
  cases b
  ·simp
  ·simp only [if_true,mem_insS,Bool.true_and,Bool.or_eq_true,decide_eq_true_eq,or_assoc]
   constructor
   ·rintro (h | h | h)
    ·exact .inl h
    ·exact .inr (.inl h.symm)
    ·exact .inr (.inr h)
   ·rintro (h | h | h)
    ·exact .inl h
    ·exact .inr (.inl h.symm)
    ·exact .inr (.inr h)
theorem mem_collectTs (v:Str):∀ (ar:List Term) (l:List Str),v∈collectTs l ar ↔ v∈l ∨ occs v ar = true
 | [],l=>by simp [collectTs,occs]
 | a :: ar,l=>by simp only [collectTs,occs,mem_collectTs v ar,mem_collectT v a,Bool.or_eq_true,or_assoc]
end
mutual
theorem count_occ (v:Str):∀ t,decide (count v t = 0) = !occ v t
 | .mk n b ar=>by
  simp only [count,occ]
  have:=counts_occ v ar
  cases b <;> by_cases h:n = v <;> simp_all
theorem counts_occ (v:Str):∀ l,decide (counts v l = 0) = !occs v l
 | []=>by simp [counts,occs]
 | a :: ar=>by
  have h1:=count_occ v a
  have h2:=counts_occ v ar
  have e:counts v (a :: ar) = count v a+counts v ar:=rfl
  have e2:occs v (a :: ar) = (occ v a || occs v ar):=rfl
  rw [e2,Bool.not_or,← h1,← h2]
  by_cases c1:count v a = 0 <;> by_cases c2:counts v ar = 0 <;> simp [e,c1,c2]
end
def varsT (t:Term):List Str:=collectT [] t
end Go.Dw
end
section
namespace Go.Dw
structure ASym where
 name:Str
 arity:Int
 deriving Inhabited,DecidableEq
def cSy (s:ASym):List V:=[.str s.name,.int .i64 s.arity]
theorem cSy_len (s:ASym):(cSy s).length = 2:=rfl
theorem cSy_0 (s:ASym):(cSy s)[0]? = some (.str s.name):=rfl
theorem cSy_1 (s:ASym):(cSy s)[1]? = some (.int .i64 s.arity):=rfl
attribute [push_cast] cSy_len cSy_0 cSy_1
end Go.Dw
end
section
namespace Go.Dw
open Go.Proofs (sortS)
theorem mem_foldl_addS (v:Str):∀ (l ks:List Str),v∈l.foldl addS ks ↔ v∈ks ∨ v∈l
 | [],ks=>by simp
 | x :: l,ks=>by
  rw [List.foldl_cons,mem_foldl_addS v l]
  unfold addS
  split
  ·rename_i h
   simp only [List.mem_cons]
   constructor
   ·rintro (h1 | h1)
    ·exact .inl h1
    ·exact .inr (.inr h1)
   ·rintro (h1 | rfl | h1)
    ·exact .inl h1
    ·exact .inl h
    ·exact .inr h1
  ·simp [or_assoc]
theorem varsIn_cons (x:List Int × Term) (l:List (List Int × Term)):varsIn (x :: l) = if x.2.var then x.2.name :: varsIn l else varsIn l:=by
 unfold varsIn;rw [List.filter_cons];split <;> rfl
theorem varsIn_append (a b:List (List Int × Term)):varsIn (a++b) = varsIn a++varsIn b:=by
 unfold varsIn;rw [List.filter_append,List.map_append]
mutual
theorem mem_varsIn (v:Str):∀ (t:Term) (p:List Int),v∈varsIn (visit t p) ↔ occ v t = true
 | .mk n b ar,p=>by
  have h:=mem_varsIns v ar p 0
  rw [visit_eq,varsIn_cons]
  cases b
  ·rw [if_neg (by simp [Term.var])]
   simpa [occ,Term.args] using h
  ·rw [if_pos (by simp [Term.var])]
   simp only [occ,Bool.true_and,Bool.or_eq_true,decide_eq_true_eq,List.mem_cons,← h]
   exact ⟨fun h=>h.imp (fun e=>e.symm) id,fun h=>h.imp (fun e=>e.symm) id⟩
theorem mem_varsIns (v:Str):∀ (ar:List Term) (p:List Int) (i:Nat),v∈varsIn (visits ar p i) ↔ occs v ar = true
 | [],p,i=>by simp [visits,varsIn,occs]
 | a :: ar,p,i=>by
  have h1:=mem_varsIn v a (p++[(i:Int)])
  have h2:=mem_varsIns v ar p (i+1)
  simp only [visits,varsIn_append,List.mem_append,h1,h2,occs,Bool.or_eq_true]
end
theorem mem_varsOf (v:Str) (t:Term):v∈varsOf [t] ↔ occ v t = true:=by
 unfold varsOf
 rw [show (v∈sortS (vsetT [] [t])) ↔ v∈vsetT [] [t] from (List.mergeSort_perm _ _).mem_iff]
 simp only [vsetT,List.foldl_cons,List.foldl_nil,vset,mem_foldl_addS,mem_varsIn,List.not_mem_nil,false_or]
def mk (m:Ars):Bool:=m.any fun p=>marked p.1
end Go.Dw
end
section
namespace Go.Dw
mutual
def allM (f:AMulti→Bool):AMulti→Bool
 | .mk k n v l=>f (.mk k n v l) && allMs f l
def allMs (f:AMulti→Bool):List AMulti→Bool
 | []=>true
 | a :: l=>allM f a && allMs f l
end
theorem allMs_all (f:AMulti→Bool) (l:List AMulti):allMs f l = l.all (allM f):=by induction l with | nil=>rfl | cons a l ih=>simp [allMs,ih]
theorem allM_eq (f:AMulti→Bool) (m:AMulti):allM f m = (f m && m.args.all (allM f)):=by cases m;simp only [allM,allMs_all,AMulti.args]
theorem allM_arg {f:AMulti→Bool} {m a:AMulti} (h:allM f m = true) (ha:a∈m.args):allM f a = true:=by
 rw [allM_eq,Bool.and_eq_true] at h
 exact List.all_eq_true.1 h.2 a ha
theorem allM_self {f:AMulti→Bool} {m:AMulti} (h:allM f m = true):f m = true:=by
 rw [allM_eq,Bool.and_eq_true] at h;exact h.1
def rangedM (n:Nat) (m:AMulti):Bool:=decide (0≤m.rule) && decide (m.rule≤n)
def ruleOf (r:List ARule) (m:AMulti):ARule:=r.getD (m.rule - 1).toNat default
def formedM (r:List ARule) (m:AMulti):Bool :=
 if 0 < m.rule then decide (m.name = []) && (!m.var && decide (m.args.length = (varsOf [(ruleOf r m).left]).length))
 else if m.var then decide (m.args.length = 0) && isName m.name false
 else decide (m.args.length≤8) && isName m.name true
def checkM (r:List ARule) (m:AMulti):Int :=
 if checkSystem r ≠ 0 then checkSystem r else if allM (rangedM r.length) m = false then 8 else if allM (formedM r) m = false then 4 else if 4000 < msize m ∨ 200 < mdepth m then 3 else 0
mutual
def countM:AMulti→Nat
 | .mk k _ _ l=>(if k = 0 then 0 else 1)+countMs l
def countMs:List AMulti→Nat
 | []=>0
 | a :: l=>countM a+countMs l
end
theorem countM_eq (m:AMulti):countM m = (if m.rule = 0 then 0 else 1)+countMs m.args:=by cases m;rfl
theorem countMs_append (a b:List AMulti):countMs (a++b) = countMs a+countMs b:=by
 induction a with
 | nil=>simp [countMs]
 | cons x xs ih=>simp [countMs,ih];omega
theorem countMs_take_succ (l:List AMulti) (k:Nat) (h:k < l.length):countMs (l.take (k+1)) = countMs (l.take k)+countM (l.getD k default):=by
 rw [take_succ_getD h,countMs_append];simp [countMs]
theorem countMs_take_le (l:List AMulti) (k:Nat):countMs (l.take k)≤countMs l:=by
 conv=>rhs;rw [← List.take_append_drop k l]
 rw [countMs_append];omega
mutual
theorem countM_le:∀ m,countM m≤msize m
 | .mk k n v l=>by simp only [countM,msize];have:=countMs_le l;split <;> omega
theorem countMs_le:∀ l,countMs l≤msizes l
 | []=>Nat.le_refl _
 | a :: l=>by simp only [countMs,msizes];have:=countM_le a;have:=countMs_le l;omega
end
mutual
def sizeP:AMulti→Nat
 | .mk _ _ _ l=>sizePs 1 l
def sizePs (n:Nat):List AMulti→Nat
 | []=>n
 | a :: l=>if 4000 < n+sizeP a then n+sizeP a else sizePs (n+sizeP a) l
end
theorem sizeP_args (m:AMulti):sizeP m = sizePs 1 m.args:=by cases m;simp [sizeP,AMulti.args]
mutual
theorem sizeP_le:∀ m,sizeP m≤msize m
 | .mk _ _ _ l=>by simp only [sizeP,msize];have:=sizePs_le l 1;omega
theorem sizePs_le:∀ (l:List AMulti) (n:Nat),sizePs n l≤n+msizes l
 | [],n=>by simp [sizePs,msizes]
 | a :: l,n=>by
  simp only [sizePs,msizes]
  have h1:=sizeP_le a
  have h2:=sizePs_le l (n+sizeP a)
  split <;> omega
end
mutual
theorem sizeP_eq:∀ m,sizeP m≤4000→sizeP m = msize m
 | .mk _ _ _ l=>by simp only [sizeP,msize];exact fun h=>sizePs_eq l 1 h
theorem sizePs_eq:∀ (l:List AMulti) (n:Nat),sizePs n l≤4000→sizePs n l = n+msizes l
 | [],n=>by simp [sizePs,msizes]
 | a :: l,n=>by
  simp only [sizePs,msizes]
  intro h
  split at h
  ·omega
  ·rename_i hc
   rw [if_neg hc]
   have:=sizeP_eq a (by omega)
   rw [sizePs_eq l _ h];omega
end
theorem sizeP_gt (m:AMulti):4000 < sizeP m ↔ 4000 < msize m:=by
 constructor
 ·intro h;have:=sizeP_le m;omega
 ·intro h
  by_cases hc:sizeP m≤4000
  ·rw [sizeP_eq m hc] at hc;omega
  ·omega
mutual
def plainM:Term→AMulti
 | .mk n v l=>.mk 0 n v (plainMs l)
def plainMs:List Term→List AMulti
 | []=>[]
 | a :: l=>plainM a :: plainMs l
end
def ixS (v:Str) (l:List Str):Nat:=(idxI (fun x=>decide (v = x)) l).toNat
theorem idxI_ix {v:Str}:∀ {l:List Str},v∈l→idxI (fun x=>decide (v = x)) l = ixS v l∧ixS v l < l.length∧l.getD (ixS v l) default = v
 | [],h=>by cases h
 | x :: l,h=>by
  unfold ixS
  simp only [idxI]
  by_cases he:v = x
  ·subst he;simp
  ·have hm:v∈l:=(List.mem_cons.1 h).resolve_left he
   obtain ⟨h1,h2,h3⟩:=idxI_ix hm
   have hd:decide (v = x) = false:=by simpa using he
   simp only [hd,Bool.false_eq_true,if_false]
   rw [h1]
   have hn:¬ ((ixS v l:Nat):Int) < 0:=by omega
   have h4:(((ixS v l:Nat):Int)+1).toNat = ixS v l+1:=by omega
   simp only [hn,if_false,h4,List.length_cons]
   refine ⟨by omega,by omega,?_⟩
   simpa [List.getD_eq_getElem?_getD] using h3
mutual
def plugT (vars:List Str) (x:List Term):Term→Term
 | .mk n v l=>if v then x.getD (ixS n vars) default else .mk n false (plugTs vars x l)
def plugTs (vars:List Str) (x:List Term):List Term→List Term
 | []=>[]
 | a :: l=>plugT vars x a :: plugTs vars x l
end
theorem plugTs_map (vars:List Str) (x:List Term) (l:List Term):plugTs vars x l = l.map (plugT vars x):=by induction l with | nil=>rfl | cons a l ih=>simp [plugTs,ih]
theorem plugT_eq (vars:List Str) (x:List Term) (t:Term):plugT vars x t = if t.var then x.getD (ixS t.name vars) default else .mk t.name false (t.args.map (plugT vars x)):=by cases t;simp only [plugT,plugTs_map,Term.name,Term.var,Term.args];rfl
mutual
def sideM (r:List ARule) (f:ARule→Term):AMulti→Term
 | .mk k n v l=>if k = 0 then .mk n v (sideMs r f l) else plugT (varsOf [(r.getD (k - 1).toNat default).left]) (sideMs r f l) (f (r.getD (k - 1).toNat default))
def sideMs (r:List ARule) (f:ARule→Term):List AMulti→List Term
 | []=>[]
 | a :: l=>sideM r f a :: sideMs r f l
end
theorem sideMs_map (r:List ARule) (f:ARule→Term) (l:List AMulti):sideMs r f l = l.map (sideM r f):=by induction l with | nil=>rfl | cons a l ih=>simp [sideMs,ih]
theorem sideM_eq (r:List ARule) (f:ARule→Term) (m:AMulti):sideM r f m = if m.rule = 0 then .mk m.name m.var (m.args.map (sideM r f)) else plugT (varsOf [(ruleOf r m).left]) (m.args.map (sideM r f)) (f (ruleOf r m)):=by cases m;simp only [sideM,sideMs_map,AMulti.rule,AMulti.name,AMulti.var,AMulti.args,ruleOf];rfl
def endM (r:List ARule) (f:ARule→Term) (m:AMulti):Option Term × Int :=
 if checkM r m ≠ 0 then (none,checkM r m) else if fits (sideM r f m) then (some (sideM r f m),0) else (none,3)
structure OkM (r:List ARule) (m:AMulti):Prop where
 rg:allM (rangedM r.length) m = true
 fm:allM (formedM r) m = true
theorem OkM.arg {r:List ARule} {m a:AMulti} (h:OkM r m) (ha:a∈m.args):OkM r a:=⟨allM_arg h.rg ha,allM_arg h.fm ha⟩
theorem checkM_ok {r:List ARule} {m:AMulti} (h:checkM r m = 0):checkSystem r = 0∧OkM r m∧msize m≤4000∧mdepth m≤200:=by
 unfold checkM at h
 split at h
 ·rename_i hc;exact absurd h hc
 ·rename_i h1
  split at h
  ·cases h
  ·rename_i h2
   split at h
   ·cases h
   ·rename_i h3
    split at h
    ·cases h
    ·exact ⟨Classical.not_not.1 h1,⟨by simpa using h2,by simpa using h3⟩,by omega,by omega⟩
theorem checkM_iff {r:List ARule} {m:AMulti}:checkM r m = 0 ↔ checkSystem r = 0∧OkM r m∧msize m≤4000∧mdepth m≤200:=by
 refine ⟨checkM_ok,fun ⟨h1,h2,h3,h4⟩=>?_⟩
 unfold checkM
 rw [if_neg (by simpa using h1),if_neg (by simp [h2.rg]),if_neg (by simp [h2.fm]),if_neg (by omega)]
theorem OkM.rule {r:List ARule} {m:AMulti} (h:OkM r m) (hr:m.rule ≠ 0):0 < m.rule∧m.rule≤r.length∧ruleOf r m∈r∧m.args.length = (varsOf [(ruleOf r m).left]).length∧m.name = []∧m.var = false:=by
 have h1:=allM_self h.rg
 have h2:=allM_self h.fm
 unfold rangedM at h1
 rw [Bool.and_eq_true,decide_eq_true_eq,decide_eq_true_eq] at h1
 unfold formedM at h2
 rw [if_pos (by omega),Bool.and_eq_true,Bool.and_eq_true,decide_eq_true_eq,decide_eq_true_eq] at h2
 exact ⟨by omega,h1.2,getD_mem (by omega),h2.2.2,h2.1,by simpa using h2.2.1⟩
theorem OkM.rule_pos {r:List ARule} {m:AMulti} (h:OkM r m) (hr:m.rule ≠ 0):0 < m.rule:=(h.rule hr).1
end Go.Dw
end
section
namespace Go.Dw
theorem slices_IndexFunc_s_Multi_Multi_s {p:AMulti→Bool} {g:Nat} {caps:List V} (hc:∀ σ,rens σ caps = caps) (l:List AMulti) (hl:l.length < 2^62) (h:∀ a∈l,PF g (encM a :: caps) (.bool (p a))) :
  PF n_slices_IndexFunc_s_Multi_Multi [encL cM 4 l,.fn (.func g) [] caps] (.int .i64 (idxI p l)):=by
 refine pf_of slices_IndexFunc_s_Multi_Multi.ok rfl ?_
 push_cast [hc]
 refine loop_up (n:=l.length) (R:=fun k=>(∀ j,j < k→p (l.getD j default) = false)→slices_IndexFunc_s_Multi_Multi.L3 (encL cM 4 l) (.fn (.func g) [] caps) (.int .i64 l.length) (.int .i64 k) 0 [] _) ?_ ?_ 0 (by omega) (by intro j hj;omega)
 ·intro k hk ih hq
  refine slices_IndexFunc_s_Multi_Multi.G3 ?_
  push_cast [ilt hk,cU8_0,cS_0,hc]
  refine .of (h _ (getD_mem hk)) ?_
  push_cast [w64 (show k < 2^62 by omega),hc]
  refine ⟨fun hp=>pf_ret ?_,fun hp=>?_⟩
  ·push_cast [slices_IndexFunc_s_Multi_Multi.rs]
   rw [idxI_some hk hp hq]
  ·exact ih fun j hj=>by rcases Nat.lt_succ_iff_lt_or_eq.1 hj with h | rfl;exact hq j h;exact hp
 ·intro hq
  refine slices_IndexFunc_s_Multi_Multi.G3 ?_
  push_cast [inlt (Nat.le_refl _)]
  refine pf_ret ?_
  push_cast [slices_IndexFunc_s_Multi_Multi.rs]
  rw [idxI_none hq]
theorem slices_ContainsFunc_s_Multi_Multi_s {p:AMulti→Bool} {g:Nat} {caps:List V} (hc:∀ σ,rens σ caps = caps) (l:List AMulti) (hl:l.length < 2^62) (h:∀ a∈l,PF g (encM a :: caps) (.bool (p a))) :
  PF n_slices_ContainsFunc_s_Multi_Multi [encL cM 4 l,.fn (.func g) [] caps] (.bool (l.any p)):=by
 refine pf_of slices_ContainsFunc_s_Multi_Multi.ok rfl ?_
 push_cast [hc]
 refine .of (slices_IndexFunc_s_Multi_Multi_s hc l hl h) ?_
 push_cast [hc]
 refine pf_ret ?_
 push_cast [slices_ContainsFunc_s_Multi_Multi.rs,idxI_any]
end Go.Dw
end
section
namespace Go.Dw
theorem put3_cM (m:AMulti) (v:V):put 3 [v] (cM m) = [.int .i64 m.rule,.str m.name,.bool m.var,v]:=by rw [cM_eq];rfl
attribute [push_cast] put3_cM
theorem multi_size_s (m:AMulti) (hs:msize m < 2^40):PF n_multi_size [encM m] (.int .i64 (sizeP m)):=by
 induction m using multi_ind with
 | h m ih =>
 refine pf_of multi_size.ok rfl ?_
 have hst:=msize_args m
 have hl:=length_le_msizes m.args
 rw [sizeP_args]
 push_cast
 refine loop_up (n:=m.args.length) (R:=fun k=>∀ v:Nat,sizePs v (m.args.drop k) = sizePs 1 m.args→v≤1+msizes (m.args.take k)→multi_size.L3 (.int .i64 v) (encMs m.args) (.int .i64 m.args.length) (.int .i64 k) 0 [] (Ends 0 multi_size.rs fun x' H'=>x' = .int .i64 (sizePs 1 m.args)∧H' = [])) ?_ ?_ 0 (Nat.zero_le _) 1 (by simp) (by omega)
 ·intro k hk ih2 v hv hb
  have h1:=msizes_take_succ _ _ hk
  have h2:=msizes_take_le m.args (k+1)
  have hm:=getD_mem hk
  have hsp:=sizeP_le (m.args.getD k default)
  have hih:=ih _ hm (by omega)
  rw [drop_getD hk] at hv
  simp only [sizePs] at hv
  generalize hx:m.args.getD k default = a at hm hv h1 hsp hih
  refine multi_size.G3 ?_
  push_cast [ilt hk,hx]
  refine .of hih ?_
  have hw:IntKind.i64.wrap ((v:Int)+(sizeP a:Int)) = ((v+sizeP a:Nat):Int):=by rw [wrap64 (by omega) (by omega)];omega
  by_cases hc:4000 < v+sizeP a
  ·rw [if_pos hc] at hv
   have hci:((4000:Int) < ((v+sizeP a:Nat):Int)) = True:=eq_true (by omega)
   rw [hv] at hw hci
   generalize sizePs 1 m.args = w at hw hci
   push_cast [hw,hci]
   exact pf_ret (by push_cast [multi_size.rs])
  ·rw [if_neg hc] at hv
   have hci:((4000:Int) < ((v+sizeP a:Nat):Int)) = False:=eq_false (by omega)
   have:=ih2 (v+sizeP a) hv (by omega)
   generalize v+sizeP a = w at hw hci this
   push_cast [hw,hci,w64 (show k < 2^62 by omega)]
   exact this
 ·intro v hv hb
  rw [drop_map_none] at hv
  refine multi_size.G3 ?_
  push_cast [inlt (Nat.le_refl _)]
  refine pf_ret ?_
  push_cast [multi_size.rs,← hv]
  rfl
theorem multi_depth_s (m:AMulti) (hs:msize m < 2^40):PF n_multi_depth [encM m] (.int .i64 (mdepth m)):=by
 induction m using multi_ind with
 | h m ih =>
 refine pf_of multi_depth.ok rfl ?_
 have hst:=msize_args m
 have hl:=length_le_msizes m.args
 have hd:=mdepths_le_msizes m.args
 push_cast
 refine loop_up (n:=m.args.length) (R:=fun k=>multi_depth.L3 (.int .i64 (mdepths (m.args.take k):Nat)) (encMs m.args) (.int .i64 m.args.length) (.int .i64 k) 0 [] _) ?_ ?_ 0 (by omega)
 ·intro k hk ih2
  have h1:=mdepths_take_succ _ _ hk
  have hm:=getD_mem hk
  have:=msize_mem hm
  refine multi_depth.G3 ?_
  push_cast [ilt hk]
  refine .of (ih _ hm (by omega)) ?_
  push_cast [w64 (show k < 2^62 by omega)]
  rw [h1] at ih2
  exact ih2
 ·refine multi_depth.G3 ?_
  push_cast [inlt (Nat.le_refl _),List.take_length]
  rw [wrap64 (by omega) (by omega)]
  refine pf_ret ?_
  push_cast [multi_depth.rs,List.take_length,mdepth_args m]
theorem multi_own_s (m:AMulti) (hs:msize m < 2^40):PF n_multi_own [encM m] (encM m):=by
 induction m using multi_ind with
 | h m ih =>
 refine pf_of multi_own.ok rfl ?_
 have hst:=msize_args m
 have hl:=length_le_msizes m.args
 push_cast
 refine loop_up (n:=m.args.length) (R:=fun k=>multi_own.L3 (.ptr 0 0) (.ptr 1 0) (encMs m.args) (.int .i64 m.args.length) (.int .i64 k) 0
  [.cells t_Multi [.int .i64 m.rule,.str m.name,.bool m.var,ownL cM 2 4 (m.args.take k)],.cells t_Multi [.int .i64 0,.str [],.bool false,.sl 4 []],.arr t_Multi 4 k] _) ?_ ?_ 0 (by omega)
 ·intro k hk ih2
  have hm:=getD_mem hk
  have:=msize_mem hm
  have hlt:(m.args.take k).length = k:=by simp;omega
  rw [take_succ_getD hk] at ih2
  refine multi_own.G3 ?_
  push_cast [ilt hk]
  refine .of (ih _ hm (by omega)) ?_
  push_cast [hlt,w64 (show k < 2^62 by omega)]
  refine ⟨by unfold maxEls;omega,?_⟩
  exact ih2
 ·refine multi_own.G3 ?_
  push_cast [inlt (Nat.le_refl _)]
  refine pf_ret ?_
  push_cast [multi_own.rs,List.take_length,cM_mk]
  rw [AMulti.eta]
def zM:AMulti:=.mk 0 [] false []
def encME (r:Option AMulti) (e:Int):V:=match r with
 | some m=>.tup [encM m,.int .i64 e]
 | none=>.tup [encM zM,.int .i64 e]
def fitM (m:AMulti):Bool:=decide (msize m≤4000) && decide (mdepth m≤200)
def fitE (m:AMulti):V:=if fitM m then encME (some m) 0 else encME none 3
theorem encM_z:V.agg [.int .i64 0,.str [],.bool false,.sl 4 []] = encM zM:=rfl
theorem multi_Fit_s (m:AMulti) (hs:msize m < 2^40):PF n_multi_Fit [encM m] (fitE m):=by
 have hsz:=sizeP_gt m
 refine pf_of multi_Fit.ok rfl ?_
 push_cast
 refine .of (multi_size_s m hs) ?_
 unfold fitE fitM
 by_cases h1:4000 < sizeP m
 ·have hi:((4000:Int) < (sizeP m:Int)) = True:=eq_true (by omega)
  have h1':¬ msize m≤4000:=by omega
  push_cast [hi,h1']
  exact pf_ret (by push_cast [multi_Fit.rs,encM_z];rfl)
 ·have hi:((4000:Int) < (sizeP m:Int)) = False:=eq_false (by omega)
  have h1':msize m≤4000:=by omega
  push_cast [hi]
  refine .of (multi_depth_s m hs) ?_
  by_cases h2:200 < mdepth m
  ·have hj:((200:Int) < (mdepth m:Int)) = True:=eq_true (by omega)
   have h2':¬ mdepth m≤200:=by omega
   push_cast [hj,h2']
   exact pf_ret (by push_cast [multi_Fit.rs,encM_z];rfl)
  ·have hj:((200:Int) < (mdepth m:Int)) = False:=eq_false (by omega)
   have h2':mdepth m≤200:=by omega
   push_cast [hj]
   refine .of (multi_own_s m hs) ?_
   push_cast
   exact pf_ret (by push_cast [multi_Fit.rs];simp [h1',h2'];rfl)
theorem multi_all_s {p q:AMulti→Bool} {g:Nat} {caps:List V} {B:Nat} (hc:∀ σ,rens σ caps = caps) (h:∀ a,q a = true→mb a≤B→PF g (encM a :: caps) (.bool (p a))) (hB:B < 2^40) (m:AMulti) (hq:allM q m = true) (hm:mb m≤B) :
  PF n_multi_all [encM m,.fn (.func g) [] caps] (.bool (allM p m)):=by
 induction m using multi_ind with
 | h m ih =>
 have hmb:=mb_args m
 have hsz:=msize_le_mb m
 have hst:=msize_args m
 have hl:=length_le_msizes m.args
 have hC:=slices_ContainsFunc_s_Multi_Multi_s (p:=fun a=>!allM p a) (g:=n_multi_all_1) (caps:=[.ro [.fn (.func g) [] caps] 0]) (fun σ=>by push_cast) m.args (by omega) fun a ha=>by
  refine pf_of multi_all_1.ok rfl ?_
  push_cast [hc]
  refine .of (ih a ha (allM_arg hq ha) (by have:=mb_mem ha;omega)) ?_
  push_cast
  exact pf_ret (by push_cast [multi_all_1.rs])
 refine pf_of multi_all.ok rfl ?_
 rw [allM_eq]
 push_cast [hc]
 refine .of (h m (allM_self hq) hm) ?_
 cases hp:p m with
 | false =>
  push_cast [hc]
  exact pf_ret (by push_cast [multi_all.rs])
 | true =>
  push_cast [hc]
  refine .of hC ?_
  push_cast [hc]
  exact pf_ret (by push_cast [multi_all.rs,any_not])
end Go.Dw
end
section
namespace Go.Dw
theorem multi_formed_s (r:List ARule) (m:AMulti) (hr:rbs r < 2^38) (hq:rangedM r.length m = true) (hm:mb m < 2^40):PF n_multi_formed [encRs r,encM m] (.bool (formedM r m)):=by
 have hmb:=mb_args m
 have hsz:=msize_le_mb m
 have hst:=msize_args m
 have hl:=length_le_msizes m.args
 have hI:∀ b,PF n_term_IsName [.str m.name,.bool b] (.bool (isName m.name b)):=fun b=>term_IsName_s _ b (by omega)
 unfold rangedM at hq
 rw [Bool.and_eq_true,decide_eq_true_eq,decide_eq_true_eq] at hq
 refine pf_of multi_formed.ok rfl ?_
 unfold formedM
 by_cases h1:0 < m.rule
 ·have hm1:r.getD (m.rule - 1).toNat default∈r:=getD_mem (by omega)
  have hrm:=rbs_mem hm1
  have hst:=size_le_tb (ruleOf r m).left
  have hru:r.getD (m.rule - 1).toNat default = ruleOf r m:=rfl
  have hw:IntKind.i64.wrap (m.rule - 1) = m.rule - 1:=wrap64 (by have:=length_le_rbs r;omega) (by have:=length_le_rbs r;omega)
  have hc1:((0:Int)≤m.rule - 1) = True:=eq_true (by omega)
  have hc2:(m.rule - 1 < (r.length:Int)) = True:=eq_true (by omega)
  rw [hru] at hrm
  have hV:=term_VarsOf_s [(ruleOf r m).left] (by simp [sizes];omega)
  rw [if_pos h1]
  by_cases h2:m.name = []
  ·cases h3:m.var with
   | true =>
    push_cast [eq_true h1,h2,h3]
    exact pf_ret (by push_cast [multi_formed.rs])
   | false =>
    push_cast [eq_true h1,h2,h3,hw,hc1,hc2,hru]
    refine .of hV ?_
    push_cast
    exact pf_ret (by push_cast [multi_formed.rs];exact decide_eq_decide.2 (by omega))
  ·push_cast [eq_true h1,eq_false h2]
   exact pf_ret (by push_cast [multi_formed.rs])
 ·rw [if_neg h1]
  cases hv:m.var with
  | true =>
   rw [if_pos rfl]
   by_cases h0:m.args.length = 0
   ·push_cast [eq_false h1,hv,h0]
    refine .of (hI false) ?_
    push_cast
    exact pf_ret (by push_cast [multi_formed.rs])
   ·have hi:((m.args.length:Int) = 0) = False:=eq_false (by omega)
    push_cast [eq_false h1,hv,hi]
    exact pf_ret (by push_cast [multi_formed.rs,h0])
  | false =>
   rw [if_neg (by simp)]
   by_cases h0:m.args.length≤8
   ·have hi:((m.args.length:Int)≤8) = True:=eq_true (by omega)
    push_cast [eq_false h1,hv,hi]
    refine .of (hI true) ?_
    push_cast
    exact pf_ret (by push_cast [multi_formed.rs,h0])
   ·have hi:((m.args.length:Int)≤8) = False:=eq_false (by omega)
    push_cast [eq_false h1,hv,hi]
    exact pf_ret (by push_cast [multi_formed.rs,h0])
theorem allM_true (m:AMulti):allM (fun _=>true) m = true:=by
 induction m using multi_ind with
 | h m ih=>rw [allM_eq,Bool.true_and,List.all_eq_true];exact ih
theorem Check_1_s (r:List ARule) (a:AMulti):PF n_multi_Check_1 [encM a,.ro [encRs r] 0] (.bool (rangedM r.length a)):=by
 refine pf_of multi_Check_1.ok rfl ?_
 unfold rangedM
 by_cases h:0≤a.rule
 ·push_cast [eq_true h]
  exact pf_ret (by push_cast [multi_Check_1.rs])
 ·push_cast [eq_false h]
  exact pf_ret (by push_cast [multi_Check_1.rs])
theorem Check_2_s (r:List ARule) (a:AMulti) (hr:rbs r < 2^38) (hq:rangedM r.length a = true) (hm:mb a < 2^40):PF n_multi_Check_2 [encM a,.ro [encRs r] 0] (.bool (formedM r a)):=by
 refine pf_of multi_Check_2.ok rfl ?_
 push_cast
 refine .of (multi_formed_s r a hr hq hm) ?_
 push_cast
 exact pf_ret (by push_cast [multi_Check_2.rs])
theorem multi_Check_s (r:List ARule) (m:AMulti) (hr:rbs r < 2^38) (hm:mb m < 2^39):PF n_multi_Check [encRs r,encM m] (.int .i64 (checkM r m)):=by
 have hsz:=msize_le_mb m
 have hsp:=sizeP_gt m
 refine pf_of multi_Check.ok rfl ?_
 push_cast
 refine .of (term_CheckSystem_t r hr) ?_
 generalize hT:checkM r m = T
 unfold checkM at hT
 by_cases h1:¬ checkSystem r = 0
 ·rw [if_pos h1] at hT
  subst hT
  push_cast [eq_false h1]
  exact pf_ret (by push_cast [multi_Check.rs])
 have h1:checkSystem r = 0:=Classical.not_not.1 h1
 rw [if_neg (by simpa using h1)] at hT
 push_cast [h1]
 refine .of (multi_all_s (p:=rangedM r.length) (q:=fun _=>true) (B:=2^39) (caps:=[.ro [encRs r] 0]) (fun σ=>by push_cast) (fun a _ _=>Check_1_s r a) (by omega) m (allM_true m) (by omega)) ?_
 cases h2:allM (rangedM r.length) m with
 | false =>
  rw [h2,if_pos rfl] at hT
  subst hT
  push_cast
  exact pf_ret (by push_cast [multi_Check.rs])
 | true =>
 rw [h2,if_neg (by simp)] at hT
 push_cast
 refine .of (multi_all_s (p:=formedM r) (q:=rangedM r.length) (B:=2^39) (caps:=[.ro [encRs r] 0]) (fun σ=>by push_cast) (fun a hq hb=>Check_2_s r a hr hq (by omega)) (by omega) m h2 (by omega)) ?_
 cases h3:allM (formedM r) m with
 | false =>
  rw [h3,if_pos rfl] at hT
  subst hT
  push_cast
  exact pf_ret (by push_cast [multi_Check.rs])
 | true =>
 rw [h3,if_neg (by simp)] at hT
 push_cast
 refine .of (multi_size_s m (by omega)) ?_
 by_cases h4:4000 < sizeP m
 ·have hi:((4000:Int) < (sizeP m:Int)) = True:=eq_true (by omega)
  rw [if_pos (by omega)] at hT
  subst hT
  push_cast [hi]
  exact pf_ret (by push_cast [multi_Check.rs])
 ·have hi:((4000:Int) < (sizeP m:Int)) = False:=eq_false (by omega)
  push_cast [hi]
  refine .of (multi_depth_s m (by omega)) ?_
  by_cases h5:200 < mdepth m
  ·have hj:((200:Int) < (mdepth m:Int)) = True:=eq_true (by omega)
   rw [if_pos (by omega)] at hT
   subst hT
   push_cast [hj]
   exact pf_ret (by push_cast [multi_Check.rs])
  ·have hj:((200:Int) < (mdepth m:Int)) = False:=eq_false (by omega)
   rw [if_neg (by omega)] at hT
   subst hT
   push_cast [hj]
   exact pf_ret (by push_cast [multi_Check.rs])
end Go.Dw
end
section
namespace Go.Dw
mutual
def cmpT:Term→Term→Int
 | .mk n v l,t=>if v ≠ t.var then (if v then -1 else 1) else if cmpS n t.name ≠ 0 then cmpS n t.name else if cmpI l.length t.args.length ≠ 0 then cmpI l.length t.args.length else cmpTs l t.args
def cmpTs:List Term→List Term→Int
 | [],_=>0
 | _ :: _,[]=>0
 | a :: l,b :: m=>if cmpT a b ≠ 0 then cmpT a b else cmpTs l m
end
theorem cmpT_eq (a t:Term):cmpT a t = if a.var ≠ t.var then (if a.var then -1 else 1) else if cmpS a.name t.name ≠ 0 then cmpS a.name t.name else if cmpI a.args.length t.args.length ≠ 0 then cmpI a.args.length t.args.length else cmpTs a.args t.args:=by
 cases a;simp only [cmpT];rfl
theorem cmpI_zero {a b:Int}:cmpI a b = 0 ↔ a = b:=by unfold cmpI;split <;> (try split) <;> omega
theorem cmpTs_zero:∀ (l m:List Term),l.length = m.length→(∀ a∈l,∀ b,cmpT a b = 0 ↔ a = b)→(cmpTs l m = 0 ↔ l = m)
 | [],[],_,_=>by simp [cmpTs]
 | [],_ :: _,h,_=>by simp at h
 | _ :: _,[],h,_=>by simp at h
 | a :: l,b :: m,h,hc=>by
  have ih:=cmpTs_zero l m (by simpa using h) fun x hx=>hc x (by simp [hx])
  have h1:=hc a (by simp) b
  simp only [cmpTs]
  by_cases he:a = b
  ·rw [if_neg (by simpa using h1.2 he),ih]
   simp [he]
  ·have:¬ cmpT a b = 0:=fun e=>he (h1.1 e)
   rw [if_pos this]
   simp [this,he]
theorem cmpT_zero (a:Term):∀ b,cmpT a b = 0 ↔ a = b:=by
 induction a using term_ind with
 | h a ih =>
 intro b
 rw [cmpT_eq,term_eq_iff]
 by_cases h1:a.var = b.var
 ·rw [if_neg (by simpa using h1)]
  by_cases h2:a.name = b.name
  ·rw [if_neg (by simpa using cmpS_zero.2 h2)]
   by_cases h3:a.args.length = b.args.length
   ·rw [if_neg (by simpa using cmpI_zero.2 (by omega)),cmpTs_zero _ _ h3 ih]
    simp [h1,h2]
   ·have:¬ cmpI a.args.length b.args.length = 0:=fun e=>h3 (by have:=cmpI_zero.1 e;omega)
    rw [if_pos this]
    simp only [this,false_iff,not_and]
    intro _ _ e;exact h3 (by rw [e])
  ·have:¬ cmpS a.name b.name = 0:=fun e=>h2 (cmpS_zero.1 e)
   rw [if_pos this]
   simp [this,h2]
 ·rw [if_pos h1]
  simp only [h1,false_and,and_false,iff_false]
  split <;> decide
theorem r01_Compare_s (a:Term):∀ b,tb a < 2^62→tb b < 2^62→PF n_r01_Compare [encT a,encT b] (.int .i64 (cmpT a b)):=by
 induction a using term_ind with
 | h a ih =>
 intro b ha hb
 have ha2:=tb_args a
 have hb2:=tb_args b
 have hla:=length_le_tbs a.args
 rw [cmpT_eq]
 refine pf_of r01_Compare.ok rfl ?_
 by_cases h1:a.var = b.var
 ·rw [if_neg (by simpa using h1)]
  push_cast [h1,show ∀ x y:Bool,(x != y) = !decide (x = y) from fun x y=>by cases x <;> cases y <;> rfl]
  refine .of (r01_CompareNames_s _ _ (by omega) (by omega)) ?_
  by_cases h2:cmpS a.name b.name = 0
  ·rw [if_neg (by simpa using h2)]
   push_cast [h2]
   refine .of (r01_CompareInts_s _ _) ?_
   by_cases h3:cmpI a.args.length b.args.length = 0
   ·have hll:a.args.length = b.args.length:=by have:=cmpI_zero.1 h3;omega
    rw [if_neg (by simpa using h3)]
    push_cast [h3]
    refine loop_up (n:=a.args.length) (R:=fun k=>cmpTs (a.args.drop k) (b.args.drop k) = cmpTs a.args b.args→r01_Compare.L3 (.ro (cT a) 0) (.ro (cT b) 0) (.int .i64 a.args.length) (.int .i64 k) 0 [] _) ?_ ?_ 0 (by omega) rfl
    ·intro k hk ih2 hq
     have hkb:k < b.args.length:=by omega
     rw [drop_getD hk,drop_getD hkb] at hq
     simp only [cmpTs] at hq
     have hm:=getD_mem hk
     have hmb:=getD_mem hkb
     refine r01_Compare.G3 ?_
     push_cast [ilt hk,ilt hkb]
     refine .of (ih _ hm _ (by have:=tb_mem hm;omega) (by have:=tb_mem hmb;omega)) ?_
     push_cast [w64 (show k < 2^62 by omega)]
     refine ⟨fun h=>pf_ret ?_,fun h=>ih2 ?_⟩
     ·push_cast [r01_Compare.rs]
      rw [← hq,if_pos (by simpa using h)]
     ·rw [← hq,if_neg (by simpa using h)]
    ·intro hq
     refine r01_Compare.G3 ?_
     push_cast [inlt (Nat.le_refl _)]
     refine pf_ret ?_
     push_cast [r01_Compare.rs]
     rw [← hq,drop_map_none];rfl
   ·rw [if_pos h3]
    push_cast [h3]
    exact pf_ret (by push_cast [r01_Compare.rs])
  ·rw [if_pos h2]
   push_cast [h2]
   exact pf_ret (by push_cast [r01_Compare.rs])
 ·rw [if_pos h1]
  have e:∀ x y:Bool,(x != y) = !decide (x = y):=fun x y=>by cases x <;> cases y <;> rfl
  cases hv:a.var <;> cases hv2:b.var
  ·exact absurd (hv.trans hv2.symm) h1
  ·push_cast [hv,hv2,e]
   exact pf_ret (by push_cast [r01_Compare.rs])
  ·push_cast [hv,hv2,e]
   exact pf_ret (by push_cast [r01_Compare.rs])
  ·exact absurd (hv.trans hv2.symm) h1
theorem r01_Equal_s (a b:Term) (ha:tb a < 2^62) (hb:tb b < 2^62):PF n_r01_Equal [encT a,encT b] (.bool (decide (a = b))):=by
 refine pf_of r01_Equal.ok rfl ?_
 push_cast
 refine .of (r01_Compare_s a b ha hb) ?_
 push_cast
 refine pf_ret ?_
 push_cast [r01_Equal.rs,cmpT_zero]
end Go.Dw
end
section
namespace Go.Dw
theorem depth_mem {l:List Term} {a:Term} (h:a∈l):depth a≤depths l:=by
 induction l with
 | nil=>cases h
 | cons x xs ih=>rcases List.mem_cons.1 h with rfl | h <;> simp only [depths];omega;have:=ih h;omega
theorem subT_depth:∀ (p:List Int) (t x:Term),subT t p = some x→depth x≤depth t
 | [],t,x,h=>by cases h;exact Nat.le_refl _
 | i :: p,t,x,h=>by
  simp only [subT] at h
  split at h
  case isFalse=>cases h
  rename_i hi
  have h1:=subT_depth p _ x h
  have h2:=depth_mem (getD_mem (show i.toNat < t.args.length by omega))
  have h3:=depth_args t
  omega
end Go.Dw
end
section
namespace Go.Dw
def atK (r:List ARule) (p:List Int) (s:Term):Nat→List AStep
 | 0=>[]
 | k+1=>atK r p s k++(if (matchT [] (r.getD k default).left s).2 then [⟨k,p⟩] else [])
def atE (r:List ARule) (p:List Int) (s:Term):List AStep:=if s.var then [] else atK r p s r.length
theorem atK_len (r:List ARule) (p:List Int) (s:Term):∀ k,(atK r p s k).length≤k
 | 0=>by simp [atK]
 | k+1=>by have:=atK_len r p s k;simp only [atK,List.length_append];split <;> simp <;> omega
theorem atE_len (r:List ARule) (p:List Int) (s:Term):(atE r p s).length≤r.length:=by
 unfold atE
 split
 ·simp
 ·exact atK_len _ _ _ _
theorem rewrite_at_s (r:List ARule) (p:List Int) (s:Term) (hl:r.length < 2^38) (hr:∀ x∈r,size x.left < 2^38) (hs:size s < 2^62) (hp:p.length < 2^40):PF n_rewrite_at [encRs r,encP p,encT s] (encSts (atE r p s)):=by
 refine pf_of rewrite_at.ok rfl ?_
 unfold atE
 push_cast
 cases hv:s.var with
 | true =>
  rw [if_pos rfl]
  by_cases h0:r.length = 0
  ·have hi:((0:Int) < (r.length:Int)) = False:=eq_false (by omega)
   refine rewrite_at.G4 ?_
   push_cast [hi]
   exact pf_ret (by push_cast [rewrite_at.rs];rfl)
  ·have hi:((0:Int) < (r.length:Int)) = True:=eq_true (by omega)
   refine rewrite_at.G4 ?_
   push_cast [hi,hv]
   exact pf_ret (by push_cast [rewrite_at.rs];rfl)
 | false =>
  rw [if_neg (by simp)]
  rw [show (V.own 0 2 []:V) = ownL cSt 0 2 (atK r p s 0) from rfl]
  refine loop_up (n:=r.length) (R:=fun k=>rewrite_at.L4 (encP p) (.ro (cT s) 0) (ownL cSt 0 2 (atK r p s k)) (encRs r) (.int .i64 r.length) (.int .i64 k) 0 [.arr t_Step 2 (atK r p s k).length] _) ?_ ?_ 0 (by omega)
  ·intro k hk ih
   have hm:=getD_mem hk
   have hal:=atK_len r p s k
   simp only [atK] at ih
   refine rewrite_at.G4 ?_
   push_cast [ilt hk,hv]
   refine .of (unify_Find_s _ s (hr _ hm) hs) ?_
   cases hb:(matchT [] (r.getD k default).left s).2 with
   | false =>
    rw [hb,if_neg (by simp),List.append_nil] at ih
    push_cast [w64 (show k < 2^62 by omega)]
    exact ih
   | true =>
    rw [hb,if_pos rfl] at ih
    push_cast
    refine callG_new (slices_Clone_int_s p hp) ?_
    push_cast [List.map_cons,List.map_nil,own_step,w64 (show k < 2^62 by omega)]
    refine ⟨Nat.le_trans (Nat.mul_le_mul_right 32 (show _≤2^41 by omega)) (by unfold maxEls;decide),?_⟩
    push_cast at ih
    exact ih
  ·refine rewrite_at.G4 ?_
   push_cast [inlt (Nat.le_refl _)]
   exact pf_ret (by push_cast [rewrite_at.rs])
def allL (r:List ARule) (l:List (List Int × Term)):List AStep:=l.flatMap fun x=>atE r x.1 x.2
def allE (r:List ARule) (t:Term):List AStep:=allL r (visit t [])
theorem allL_len (r:List ARule):∀ l,(allL r l).length≤l.length * r.length
 | []=>by simp [allL]
 | x :: l=>by
  have h1:=allL_len r l
  have h2:=atE_len r x.1 x.2
  unfold allL at h1 ⊢
  rw [List.flatMap_cons,List.length_append,List.length_cons,Nat.succ_mul]
  omega
theorem allL_snoc (r:List ARule) (l:List (List Int × Term)) (x:List Int × Term):allL r (l++[x]) = allL r l++atE r x.1 x.2:=by simp [allL]
mutual
theorem visit_sub:∀ (t:Term) (p:List Int),∀ x∈visit t p,size x.2≤size t∧x.1.length≤p.length+size t
 | .mk n v l,p,x,hx=>by
  rw [visit_eq] at hx
  rcases List.mem_cons.1 hx with rfl | hx
  ·exact ⟨Nat.le_refl _,Nat.le_add_right _ _⟩
  ·have:=visits_sub l p 0 x hx
   simp only [size]
   omega
theorem visits_sub:∀ (l:List Term) (p:List Int) (i:Nat),∀ x∈visits l p i,size x.2≤sizes l∧x.1.length≤p.length+1+sizes l
 | [],p,i,x,hx=>by simp [visits] at hx
 | a :: l,p,i,x,hx=>by
  simp only [visits,List.mem_append] at hx
  simp only [sizes]
  rcases hx with hx | hx
  ·have:=visit_sub a _ x hx
   simp only [List.length_append,List.length_singleton] at this
   omega
  ·have:=visits_sub l _ _ x hx;omega
end
theorem rewrite_All_s (r:List ARule) (t:Term) (hl:r.length < 2^38) (hr:∀ x∈r,size x.left < 2^38) (hs:size t < 2^38) (hm:size t * r.length < 2^38):PF n_rewrite_All [encRs r,encT t] (encSts (allE r t)):=by
 have hvl:(visit t []).length = size t:=visit_len t []
 refine pf_of rewrite_All.ok rfl ?_
 push_cast
 refine .of (term_Walk_s _) ?_
 push_cast
 refine Run.rf n_term_Walk_1 [] [.ro (cT t) 0] ((visit t []).map encIt) (fun j H1=>H1 = [.cells t_s_Step [ownL cSt 1 2 (allL r ((visit t []).take j))],.arr t_Step 2 (allL r ((visit t []).take j)).length]) (fun _ _=>False) rfl (term_Walk_iter t (by omega)) ?_ (by rfl) ?_ ?_ (fun _ _ h=>h.elim) ?_ ?_ (fun _ _ h=>h.elim)
 ·intro it hit
  obtain ⟨x,_,rfl⟩:=List.mem_map.1 hit
  rfl
 ·push_cast
 ·rintro j H1 rfl
  refine ⟨rfl,?_⟩
  push_cast
 ·rintro lo rr j it H1 hit rfl
  rw [List.getElem?_map] at hit
  cases hx:(visit t [])[j]? with
  | none=>rw [hx] at hit;cases hit
  | some x =>
  rw [hx] at hit
  have hit:it = encIt x:=by simpa using hit.symm
  subst hit
  have hj:j < (visit t []).length:=(List.getElem?_eq_some_iff.1 hx).1
  have hxj:(visit t [])[j] = x:=(List.getElem?_eq_some_iff.1 hx).2
  have hxm:x∈visit t []:=hxj ▸ List.getElem_mem hj
  have htk:(visit t []).take (j+1) = (visit t []).take j++[x]:=by rw [List.take_succ_eq_append_getElem hj,hxj]
  have hsub:=visit_sub t [] x hxm
  have hal:=allL_len r ((visit t []).take (j+1))
  rw [List.length_take,Nat.min_eq_left (by omega)] at hal
  have hmul:(j+1) * r.length≤size t * r.length:=Nat.mul_le_mul_right _ (by omega)
  rw [htk,allL_snoc,List.length_append] at hal
  rw [htk,allL_snoc]
  push_cast [setPs,encIt]
  refine run_m.2 ?_
  push_cast
  refine .of (rewrite_at_s r x.1 x.2 hl hr (by omega) (by simp at hsub;omega)) ?_
  push_cast
  refine ⟨Nat.le_trans (Nat.mul_le_mul_right 32 (show _≤2^41 by rw [List.length_map];omega)) (by unfold maxEls;decide),rfl,?_⟩
  push_cast [cut]
  rw [List.length_map]
 ·rintro H1 rfl
  have:(visit t []).take ((visit t []).map encIt).length = visit t []:=by rw [List.length_map,List.take_length]
  rw [this]
  push_cast
  exact pf_ret (by push_cast [rewrite_All.rs];rfl)
end Go.Dw
end
section
namespace Go.Dw
def nodeOk (n:Str) (v:Bool) (k:Nat):Bool:=if v then decide (k = 0) && isName n false else decide (k≤8) && isName n true
theorem formed_iff {t:Term}:formed t = true ↔ nodeOk t.name t.var t.args.length = true∧∀ a∈t.args,formed a = true:=by
 rw [formed_eq]
 unfold nodeOk
 cases t.var with
 | true =>
  simp only [if_true,Bool.and_eq_true,decide_eq_true_eq]
  refine ⟨fun h=>⟨h,fun a ha=>?_⟩,fun h=>h.1⟩
  rw [List.length_eq_zero_iff.1 h.1] at ha;cases ha
 | false=>simp [and_assoc]
theorem check_iff {t:Term}:check t = 0 ↔ formed t = true∧fits t = true:=by
 unfold check
 cases formed t <;> cases fits t <;> simp
theorem checkSystem_sides {r:List ARule} (h:checkSystem r = 0):∀ x∈r,check x.left = 0∧check x.right = 0:=by
 have h1:checkRules r = 0:=by
  unfold checkSystem at h
  split at h
  ·rename_i h1;exact absurd h h1
  ·rename_i h1;simpa using h1
 unfold checkRules at h1
 split at h1
 ·omega
 ·exact checkPairs_ok h1
end Go.Dw
end
section
namespace Go.Dw
theorem rens_cTs {σ:Nat→Option Nat} {l:List Term}:(l.map cT).map (rens σ) = l.map cT:=by rw [List.map_map];rfl
end Go.Dw
end
section
namespace Go.Dw
namespace idxEdge
end idxEdge
theorem rens_cSts {σ:Nat→Option Nat} {l:List AStep}:(l.map cSt).map (rens σ) = l.map cSt:=by rw [List.map_map];rfl
attribute [push_cast] rens_cSts
end Go.Dw
end
section
namespace Go.Dw
mutual
def posT:Term→List (List Int)
 | .mk n v l=>[] :: posTs l 0
def posTs:List Term→Nat→List (List Int)
 | [],_=>[]
 | a :: l,i=>(posT a).map ((i:Int) :: ·)++posTs l (i+1)
end
mutual
theorem visit_pos:∀ (t:Term) (p:List Int),(visit t p).map Prod.fst = (posT t).map (p++·)
 | .mk n v l,p=>by
  simp only [visit,posT,List.map_cons,List.append_nil,visits_pos l p 0]
theorem visits_pos:∀ (l:List Term) (p:List Int) (i:Nat),(visits l p i).map Prod.fst = (posTs l i).map (p++·)
 | [],p,i=>rfl
 | a :: l,p,i=>by
  simp only [visits,posTs,List.map_append,visit_pos a,visits_pos l p (i+1),List.map_map]
  congr 1
  apply List.map_congr_left
  intro q _;simp
end
theorem own_pos {i:Nat} {l:List (List Int)} {p:List Int}:(.own i 1 (l.map cPp++[[encP p]]):V) = ownL cPp i 1 (l++[p]):=by simp [ownL,cPp]
end Go.Dw
end
section
namespace Go.Dw
theorem clone_int_p (p:List Int) (hp:p.length < 2^40):PF n_slices_Clone_s_int_int [encP p] (encP p):=by
 refine pf_of slices_Clone_s_int_int.ok rfl ?_
 push_cast
 intro c hc
 refine ⟨fun h=>?_,fun h=>⟨by rw [List.length_map];unfold maxEls;omega,?_⟩⟩
 ·have hp0:p = []:=by simpa using hc (by cases c <;> simp_all)
  subst hp0
  exact pf_ret (by push_cast [slices_Clone_s_int_int.rs];rfl)
 ·exact pf_ret (by push_cast [slices_Clone_s_int_int.rs];rfl)
end Go.Dw
end
section
namespace Go.Dw
def isV (v:Str) (x:List Int × Term):Bool:=x.2.var && decide (x.2.name = v)
def occW (v:Str) (l:List (List Int × Term)):List (List Int):=(l.filter (isV v)).map Prod.fst
def occM (t:Term) (v:Str):List (List Int):=occW v (visit t [])
theorem occW_snoc (v:Str) (l:List (List Int × Term)) (x:List Int × Term):occW v (l++[x]) = if isV v x then occW v l++[x.1] else occW v l:=by
 unfold occW
 rw [List.filter_append,List.map_append]
 cases h:isV v x <;> simp [h]
theorem occW_len (v:Str) (l:List (List Int × Term)):(occW v l).length≤l.length:=by
 unfold occW;rw [List.length_map];exact List.length_filter_le _ _
theorem multi_occurrences_s (t:Term) (v:Str) (hs:size t < 2^38):PF n_multi_occurrences [encT t,.str v] (encPs (occM t v)):=by
 refine pf_of multi_occurrences.ok rfl ?_
 push_cast
 refine .of (term_Walk_s _) ?_
 push_cast
 have hlen:=visit_len t []
 have hss:=visit_sub t []
 refine Run.rf n_term_Walk_1 [] [.ro (cT t) 0] ((visit t []).map encIt) (fun j H1=>H1 = [.cells t_s_s_int [ownL cPp 1 1 (occW v ((visit t []).take j))],.arr t_s_int 1 (occW v ((visit t []).take j)).length]) (fun _ _=>False) rfl (term_Walk_iter t (by omega)) ?_ rfl ?_ ?_ (fun _ _ h=>h.elim) ?_ ?_ (fun _ _ h=>h.elim)
 ·intro it hit
  obtain ⟨x,_,rfl⟩:=List.mem_map.1 hit
  rfl
 ·push_cast
 ·rintro j H1 rfl
  refine ⟨rfl,?_⟩
  push_cast
 ·rintro lo r j it H1 hit rfl
  rw [List.getElem?_map] at hit
  cases hx:(visit t [])[j]? with
  | none=>rw [hx] at hit;cases hit
  | some x =>
  rw [hx] at hit
  have hit:it = encIt x:=by simpa using hit.symm
  subst hit
  have hj:j < (visit t []).length:=(List.getElem?_eq_some_iff.1 hx).1
  have hxj:(visit t [])[j] = x:=(List.getElem?_eq_some_iff.1 hx).2
  have htk:(visit t []).take (j+1) = (visit t []).take j++[x]:=by rw [List.take_succ_eq_append_getElem hj,hxj]
  have hxl:=(hss x (List.mem_of_getElem? hx)).2
  have hol:=occW_len v ((visit t []).take j)
  rw [List.length_take] at hol
  have hsn:=occW_snoc v ((visit t []).take j) x
  rw [← htk] at hsn
  push_cast [setPs,encIt]
  refine run_m.2 ?_
  cases hv:x.2.var with
  | false =>
   have hvs:occW v ((visit t []).take (j+1)) = occW v ((visit t []).take j):=by rw [hsn];simp [isV,hv]
   push_cast [hv]
   refine ⟨rfl,?_⟩
   push_cast [cut,hvs]
  | true =>
   by_cases hn:x.2.name = v
   ·have hvs:occW v ((visit t []).take (j+1)) = occW v ((visit t []).take j)++[x.1]:=by rw [hsn];simp [isV,hv,hn]
    push_cast [hv,hn]
    refine .of (clone_int_p x.1 (by simp at hxl;omega)) ?_
    push_cast
    refine ⟨by unfold maxEls;omega,?_⟩
    rw [own_pos]
    refine ⟨rfl,?_⟩
    push_cast [cut,hvs,List.length_append]
   ·have hvs:occW v ((visit t []).take (j+1)) = occW v ((visit t []).take j):=by rw [hsn];simp [isV,hv,hn]
    push_cast [hv,eq_false hn]
    refine ⟨rfl,?_⟩
    push_cast [cut,hvs]
 ·rintro H1 rfl
  have:(visit t []).take ((visit t []).map encIt).length = visit t []:=by rw [List.length_map,List.take_length]
  rw [this]
  push_cast
  exact pf_ret (by push_cast [multi_occurrences.rs];rfl)
end Go.Dw
end
section
namespace Go.Dw
namespace idxTm
def nd:Nat→C
 | 0=>.seq (.reg [.mv 4 (.i (-1))]) (.ret)
 | 1=>.gh [.ks 0 [0,1,7,8]] (.m 3)
 | 2=>.seq (.blk 1 (.seq (.reg [.mv 10 (.s 8),.mv 5 (.s 10)]) (.seq (.reg [.mv 11 (.s 1),.mv 12 (.s 0),.mv 13 (.s 5),.ia 14 3 (.s 12) (.s 13),.la 15 3 (.s 14),.callv (some 16) (.s 11) [.s 15]]) (.cond (.s 16) (.seq (.reg [.mv 17 (.s 5),.mv 4 (.s 17)]) (.ret)) (.skip))))) (.reg [.bin 18 .add (.s 8) (.i 1),.mv 8 (.s 18)])
 | 3=>.seq (.reg [.bin 9 .lss (.s 8) (.s 7)]) (.seq (.cond (.s 9) (.skip) (.exit 0)) (.n 2))
 | _=>.skip
def body:C:=.seq (.reg [.mv 4 (.i 0)]) (.seq (.seq (.reg [.mv 6 (.s 0),.len 7 (.s 6),.mv 8 (.i 0)]) (.blk 0 (.loop (.n 1)))) (.n 0))
def rs:List RV:=[.t 4]
attribute [push_cast] nd body
theorem ok:okF prog n_slices_IndexFunc_s_Term_Term nd body 2 rs = true:=by kernel_rfl
abbrev L3 (v0 v1 v7 v8:V) (B:Nat) (H:List Ob) (Q:X→T→List Ob→Prop):Prop:=Run prog nd B [.c (.m 3),.c (.loop (.n 1)),.mk 0,.c (.n 0)] [(0,v0),(1,v1),(7,v7),(8,v8)] H Q
theorem G3 {v0 v1 v7 v8:V} {B:Nat} {H:List Ob} {Q:X→T→List Ob→Prop} (h:Run prog nd B [.c (nd 3),.c (.loop (.n 1)),.mk 0,.c (.n 0)] [(0,v0),(1,v1),(7,v7),(8,v8)] H Q):L3 v0 v1 v7 v8 B H Q:=run_m.2 h
end idxTm
namespace cntTm
def nd (_:Nat):C:=.skip
def body:C:=.seq (.reg [.mv 4 (.c (.bool false))]) (.seq (.reg [.mv 5 (.s 0),.mv 6 (.s 1),.call (some 7) n_slices_IndexFunc_s_Term_Term [.s 5,.s 6],.bin 8 .geq (.s 7) (.i 0),.mv 4 (.s 8)]) (.ret))
def rs:List RV:=[.t 4]
attribute [push_cast] nd body
theorem ok:okF prog n_slices_ContainsFunc_s_Term_Term nd body 2 rs = true:=by kernel_rfl
end cntTm
def stF {S:Type} (F:S→Term→S × Bool) (s:S):List Term→S × Bool
 | []=>(s,false)
 | a :: l=>if (F s a).2 then ((F s a).1,true) else stF F (F s a).1 l
def ixF {S:Type} (F:S→Term→S × Bool) (s:S) (k:Nat):List Term→Int
 | []=>-1
 | a :: l=>if (F s a).2 then k else ixF F (F s a).1 (k+1) l
theorem ixF_st {S:Type} (F:S→Term→S × Bool):∀ (l:List Term) (s:S) (k:Nat),0≤ixF F s k l ↔ (stF F s l).2 = true
 | [],s,k=>by simp [ixF,stF]
 | a :: l,s,k=>by
  unfold ixF stF
  by_cases h:(F s a).2 = true
  ·rw [if_pos h,if_pos h];simp
  ·rw [if_neg h,if_neg h];exact ixF_st F l _ _
section
variable {S:Type} {F:S→Term→S × Bool} {Hs:S→List Ob} {Inv:S→Prop} {g n:Nat} {caps:List V} (hn:∀ s,(Hs s).length = n) (hc:rens (clip n) caps = caps) (hH:∀ s,(Hs s).map (renOb (clip n)) = Hs s)
 (l:List Term) (hl:l.length < 2^62) (h:∀ a∈l,∀ s,Inv s→Spec prog g (encT a :: caps) (Hs s) fun x H'=>x = .bool (F s a).2∧H' = Hs (F s a).1) (hi:∀ a∈l,∀ s,Inv s→(F s a).2 = false→Inv (F s a).1)
include hn hc hH hl h hi
theorem IndexFunc_st (s0:S) (h0:Inv s0):Spec prog n_slices_IndexFunc_s_Term_Term [encTs l,.fn (.func g) [] caps] (Hs s0) fun x H'=>x = .int .i64 (ixF F s0 0 l)∧H' = Hs (stF F s0 l).1:=by
 have htk:∀ s,(Hs s).take n = Hs s:=fun s=>List.take_of_length_le (by rw [hn];exact Nat.le_refl _)
 refine spec_of_run mixed idxTm.ok rfl ?_
 push_cast [hc,hH,hn,htk]
 refine loop_up (n:=l.length) (R:=fun k=>∀ s,Inv s→ixF F s k (l.drop k) = ixF F s0 0 l→stF F s (l.drop k) = stF F s0 l→idxTm.L3 (encTs l) (.fn (.func g) [] caps) (.int .i64 l.length) (.int .i64 k) n (Hs s) (Ends n idxTm.rs fun x H'=>x = .int .i64 (ixF F s0 0 l)∧H' = Hs (stF F s0 l).1)) ?_ ?_ 0 (Nat.zero_le _) s0 h0 rfl rfl
 ·intro k hk ih s hs hq1 hq2
  refine idxTm.G3 ?_
  have hm:=getD_mem hk
  rw [drop_getD hk] at hq1 hq2
  generalize hx:l.getD k default = a at hm hq1 hq2
  simp only [ixF,stF] at hq1 hq2
  push_cast [ilt hk,hx]
  refine CallG.all (R:=fun x H'=>x = .bool (F s a).2∧H' = Hs (F s a).1) (h a hm s hs) ?_
  rintro x H' ⟨rfl,rfl⟩
  cases hp:(F s a).2 with
  | true =>
   rw [hp,if_pos rfl] at hq1 hq2
   push_cast
   exact ends_all (.inl rfl) rfl ⟨by rw [← hq1];rfl,by rw [← hq2]⟩
  | false =>
   rw [hp,if_neg (by simp)] at hq1 hq2
   push_cast [hc,hH,hn,htk,w64 (show k < 2^62 by omega)]
   have:=ih _ (hi a hm s hs hp) hq1 hq2
   push_cast at this
   exact this
 ·intro s hs hq1 hq2
  refine idxTm.G3 ?_
  push_cast [inlt (Nat.le_refl _)]
  rw [drop_map_none] at hq1 hq2
  exact ends_all (.inl rfl) rfl ⟨by rw [← hq1];rfl,by rw [← hq2];rfl⟩
theorem ContainsFunc_st (s0:S) (h0:Inv s0):Spec prog n_slices_ContainsFunc_s_Term_Term [encTs l,.fn (.func g) [] caps] (Hs s0) fun x H'=>x = .bool (stF F s0 l).2∧H' = Hs (stF F s0 l).1:=by
 refine spec_of_run mixed cntTm.ok rfl ?_
 push_cast
 refine CallG.all (R:=fun x H'=>x = .int .i64 (ixF F s0 0 l)∧H' = Hs (stF F s0 l).1) (IndexFunc_st hn hc hH l hl h hi s0 h0) ?_
 rintro x H' ⟨rfl,rfl⟩
 push_cast
 have hd:decide (0≤ixF F s0 0 l) = (stF F s0 l).2:=by
  have:=ixF_st F l s0 0
  cases hq:(stF F s0 l).2 with
  | true=>rw [hq] at this;simpa using this
  | false=>rw [hq] at this;simpa using this
 rw [hn]
 exact ends_all (.inl rfl) rfl ⟨by rw [← hd];rfl,rfl⟩
end
mutual
def cntT (n:Int):Term→Int × Bool
 | .mk _ _ l=>if n - 1 < 0 then (n - 1,true) else cntTs (n - 1) l
def cntTs (n:Int):List Term→Int × Bool
 | []=>(n,false)
 | a :: l=>if (cntT n a).2 then ((cntT n a).1,true) else cntTs (cntT n a).1 l
end
theorem cntT_eq (n:Int) (t:Term):cntT n t = if n - 1 < 0 then (n - 1,true) else cntTs (n - 1) t.args:=by cases t;rfl
theorem cntTs_st (n:Int) (l:List Term):cntTs n l = stF cntT n l:=by
 induction l generalizing n with
 | nil=>rfl
 | cons a l ih=>simp only [cntTs,stF,ih]
mutual
theorem cntT_law:∀ (t:Term) (n:Int),0≤n→((size t:Int)≤n→cntT n t = (n - size t,false))∧(n < (size t:Int)→(cntT n t).2 = true)
 | .mk x v l,n,hn=>by
  have hs:size (.mk x v l) = 1+sizes l:=rfl
  rw [hs]
  simp only [cntT]
  by_cases h:n - 1 < 0
  ·rw [if_pos h]
   exact ⟨fun h2=>by omega,fun _=>rfl⟩
  ·rw [if_neg h]
   have:=cntTs_law l (n - 1) (by omega)
   refine ⟨fun h2=>?_,fun h2=>this.2 (by omega)⟩
   rw [this.1 (by omega)]
   congr 1;omega
theorem cntTs_law:∀ (l:List Term) (n:Int),0≤n→((sizes l:Int)≤n→cntTs n l = (n - sizes l,false))∧(n < (sizes l:Int)→(cntTs n l).2 = true)
 | [],n,hn=>⟨fun _=>by simp [cntTs,sizes],fun h=>by simp [sizes] at h;omega⟩
 | a :: l,n,hn=>by
  have hs:sizes (a :: l) = size a+sizes l:=rfl
  rw [hs]
  simp only [cntTs]
  have h1:=cntT_law a n hn
  by_cases h2:(size a:Int)≤n
  ·have h3:=cntTs_law l (n - size a) (by omega)
   rw [h1.1 h2]
   simp only [Bool.false_eq_true,if_false]
   refine ⟨fun h4=>?_,fun h4=>h3.2 (by omega)⟩
   rw [h3.1 (by omega)]
   congr 1;omega
  ·rw [h1.2 (by omega),if_pos rfl]
   exact ⟨fun h4=>by omega,fun _=>rfl⟩
end
theorem cntT_inv {n:Int} {t:Term} (hn:0≤n∧n≤4000) (h:(cntT n t).2 = false):0≤(cntT n t).1∧(cntT n t).1≤4000:=by
 have:=cntT_law t n hn.1
 by_cases h2:(size t:Int)≤n
 ·rw [this.1 h2];simp;omega
 ·rw [this.2 (by omega)] at h;cases h
mutual
def wide:Term→Nat
 | .mk _ _ l=>max l.length (wides l)
def wides:List Term→Nat
 | []=>0
 | a :: l=>max (wide a) (wides l)
end
theorem wide_args (t:Term):t.args.length≤wide t∧wides t.args≤wide t:=by cases t;simp only [wide,Term.args];omega
theorem wide_mem {l:List Term} {a:Term} (h:a∈l):wide a≤wides l:=by
 induction l with
 | nil=>cases h
 | cons x xs ih=>rcases List.mem_cons.1 h with rfl | h <;> simp only [wides];omega;have:=ih h;omega
def largeH (n:Int):List Ob:=[.cells t_int [.int .i64 n],.cells t_func_Term_bool [.fn (.func n_multi_large_1) [] [.ptr 0 0,.ptr 1 0]]]
theorem largeH_keep (n:Int):(largeH n).map (renOb (clip 2)) = largeH n:=rfl
theorem multi_large_1_s (W:Nat) (hW:W < 2^60) (t:Term) (hw:wide t≤W):∀ n:Int,0≤n∧n≤4000→Spec prog n_multi_large_1 [encT t,.ptr 0 0,.ptr 1 0] (largeH n) fun x H'=>x = .bool (cntT n t).2∧H' = largeH (cntT n t).1:=by
 induction t using term_ind with
 | h t ih =>
 intro n hn
 have hwa:=wide_args t
 have hw1:IntKind.i64.wrap (n - 1) = n - 1:=wrap64 (by omega) (by omega)
 refine spec_of_run mixed multi_large_1.ok rfl ?_
 rw [cntT_eq]
 by_cases h:n - 1 < 0
 ·rw [if_pos h]
  unfold largeH
  push_cast [hw1,eq_true h]
  exact ends_all (.inl rfl) rfl ⟨rfl,rfl⟩
 ·rw [if_neg h,cntTs_st]
  have hC:=ContainsFunc_st (S:=Int) (F:=cntT) (Hs:=largeH) (Inv:=fun n=>0≤n∧n≤4000) (g:=n_multi_large_1) (n:=2) (caps:=[.ptr 0 0,.ptr 1 0]) (fun _=>rfl) rfl largeH_keep t.args (by omega)
   (fun a ha s hs=>ih a ha (by have:=wide_mem ha;omega) s hs) (fun a ha s hs hf=>cntT_inv hs hf) (n - 1) (by omega)
  unfold largeH at hC ⊢
  push_cast [hw1,eq_false h]
  refine CallG.all (R:=fun x H'=>x = .bool (stF cntT (n - 1) t.args).2∧H' = [.cells t_int [.int .i64 (stF cntT (n - 1) t.args).1],.cells t_func_Term_bool [.fn (.func n_multi_large_1) [] [.ptr 0 0,.ptr 1 0]]]) hC ?_
  rintro x H' ⟨rfl,rfl⟩
  push_cast
  exact ends_all (.inl rfl) rfl ⟨rfl,rfl⟩
theorem multi_large_s (t:Term) (hw:wide t < 2^60):PF n_multi_large [encT t] (.bool (decide (4000 < size t))):=by
 refine pf_of multi_large.ok rfl ?_
 push_cast
 have hL:=multi_large_1_s _ hw t (Nat.le_refl _) 4000 (by omega)
 unfold largeH at hL
 refine CallG.all (R:=fun x H'=>x = .bool (cntT 4000 t).2∧H' = [.cells t_int [.int .i64 (cntT 4000 t).1],.cells t_func_Term_bool [.fn (.func n_multi_large_1) [] [.ptr 0 0,.ptr 1 0]]]) hL ?_
 rintro x H' ⟨rfl,rfl⟩
 push_cast
 refine pf_ret ?_
 push_cast [multi_large.rs]
 have:=cntT_law t 4000 (by omega)
 by_cases h:4000 < size t
 ·rw [this.2 (by omega)];simpa using h
 ·rw [this.1 (by omega)];simpa using h
end Go.Dw
end
section
namespace Go.Dw
mutual
theorem visit_at:∀ (t:Term) (p:List Int),∀ x∈visit t p,∃ q,x.1 = p++q∧subT t q = some x.2
 | .mk n v l,p,x,hx=>by
  simp only [visit] at hx
  rcases List.mem_cons.1 hx with rfl | hx
  ·exact ⟨[],by simp,rfl⟩
  ·obtain ⟨k,q,h1,h2,h3⟩:=visits_at l p 0 x hx
   refine ⟨(k:Int) :: q,by simpa using h1,?_⟩
   rw [show subT (.mk n v l) ((k:Int) :: q) = if 0≤(k:Int)∧(k:Int) < l.length then subT (l.getD (k:Int).toNat default) q else none from rfl,if_pos ⟨by omega,by omega⟩]
   simpa using h3
theorem visits_at:∀ (l:List Term) (p:List Int) (i:Nat),∀ x∈visits l p i,∃ (k:Nat) (q:List Int),x.1 = p++((i+k:Nat):Int) :: q∧k < l.length∧subT (l.getD k default) q = some x.2
 | [],p,i,x,hx=>by simp [visits] at hx
 | a :: l,p,i,x,hx=>by
  simp only [visits,List.mem_append] at hx
  rcases hx with hx | hx
  ·obtain ⟨q,h1,h2⟩:=visit_at a _ x hx
   exact ⟨0,q,by simpa using h1,by simp,by simpa using h2⟩
  ·obtain ⟨k,q,h1,h2,h3⟩:=visits_at l p (i+1) x hx
   refine ⟨k+1,q,?_,by simp;omega,by simpa using h3⟩
   rw [h1];congr 3;omega
end
section
variable {P:Program} {N:Nat→C} {B:Nat} {ds:List Nat} {g l:List S} {s:List K} {t:T} {H:List Ob} {Q:X→T→List Ob→Prop}
theorem gP_tt:gP P N B true ds g l s t H Q (.bool true) = Run P N B (.r (g++l) :: s) t H Q:=by simp [gP]
theorem gP_ff:gP P N B false ds g l s t H Q (.bool false) = Run P N B (.r (g++l) :: s) t H Q:=by simp [gP]
theorem gP_tf:gP P N B true ds g l s t H Q (.bool false) = Run P N B (.r l :: s) (ds.map (fun d=>(d,V.tup []))++t) H Q:=by simp [gP]
theorem gP_ft:gP P N B false ds g l s t H Q (.bool true) = Run P N B (.r l :: s) (ds.map (fun d=>(d,V.tup []))++t) H Q:=by simp [gP]
theorem cP_t {a b:C}:cP P N B a b s t H Q (.bool true) = Run P N B (.c a :: s) t H Q:=by simp [cP]
theorem cP_f {a b:C}:cP P N B a b s t H Q (.bool false) = Run P N B (.c b :: s) t H Q:=by simp [cP]
end
end Go.Dw
end
section
namespace Go.Dw
theorem checkSystem_nv {r:List ARule} (h:checkSystem r = 0):∀ x∈r,x.left.var = false:=by
 unfold checkSystem at h
 split at h
 ·rename_i h1;exact absurd h h1
 ·split at h
  ·cases h
  ·split at h
   ·cases h
   ·split at h
    ·cases h
    ·rename_i h3
     intro x hx
     have h4:extra x = false:=by
      cases he:extra x with
      | false=>rfl
      | true=>exact absurd (List.any_eq_true.2 ⟨x,hx,he⟩) h3
     unfold extra at h4
     simp only [Bool.or_eq_false_iff] at h4
     exact h4.1
end Go.Dw
end
section
namespace Go.Dw
theorem occ_eq (v:Str) (t:Term):occ v t = ((t.var && decide (t.name = v)) || occs v t.args):=by cases t;rfl
theorem occs_mem {v:Str} {l:List Term} {a:Term} (h:a∈l) (ho:occ v a = true):occs v l = true:=by
 induction l with
 | nil=>cases h
 | cons x xs ih =>
  simp only [occs,Bool.or_eq_true]
  rcases List.mem_cons.1 h with rfl | h
  ·exact .inl ho
  ·exact .inr (ih h)
theorem occ_arg {v:Str} {t a:Term} (h:a∈t.args) (ho:occ v a = true):occ v t = true:=by rw [occ_eq,occs_mem h ho,Bool.or_true]
theorem occ_self {t:Term} (h:t.var = true):occ t.name t = true:=by rw [occ_eq,h];simp
theorem multi_plug_s (vars:List Str) (x:List Term) (hva:vars.length≤x.length) (hl:vars.length < 2^40) (t:Term) (ht:size t < 2^40) (ho:∀ v,occ v t = true→v∈vars):PF n_multi_plug [encT t,encSs vars,encTs x] (encT (plugT vars x t)):=by
 induction t using term_ind with
 | h t ih =>
 have hst:=size_args t
 have hll:=length_le_sizes t.args
 refine pf_of multi_plug.ok rfl ?_
 rw [plugT_eq]
 cases hv:t.var with
 | true =>
  obtain ⟨h1,h2,h3⟩:=idxI_ix (ho _ (occ_self hv))
  have hI:=slices_Index_str_s vars t.name (by omega)
  rw [h1] at hI
  have hlt:((ixS t.name vars:Int) < (x.length:Int)) = True:=eq_true (by omega)
  push_cast [hv]
  refine .of hI ?_
  push_cast [hlt]
  exact pf_ret (by push_cast [multi_plug.rs])
 | false =>
  push_cast [hv]
  refine loop_up (n:=t.args.length) (R:=fun k=>multi_plug.L3 (encSs vars) (encTs x) (.ptr 0 0) (.ptr 1 0) (encTs t.args) (.int .i64 t.args.length) (.int .i64 k) 0 [.cells t_Term [.str [],.bool false,.sl 3 []],.cells t_Term [.str t.name,.bool false,ownL cT 2 3 ((t.args.take k).map (plugT vars x))],.arr t_Term 3 k] _) ?_ ?_ 0 (by omega)
  ·intro k hk ih2
   have hm:=getD_mem hk
   have hm2:=size_mem hm
   have hlen:((t.args.take k).map (plugT vars x)).length = k:=by simp;omega
   rw [take_succ_getD hk,List.map_append,List.map_singleton] at ih2
   refine multi_plug.G3 ?_
   push_cast [ilt hk]
   refine .of (ih _ hm (by omega) fun v hv2=>ho v (occ_arg hm hv2)) ?_
   push_cast [hlen,w64 (show k < 2^62 by omega)]
   exact ⟨Nat.le_trans (Nat.mul_le_mul_right 48 (show _≤2^41 by omega)) (by unfold maxEls;decide),ih2⟩
  ·refine multi_plug.G3 ?_
   push_cast [inlt (Nat.le_refl _)]
   refine pf_ret ?_
   push_cast [multi_plug.rs,List.take_length,cT_mk]
   try rfl
theorem multi_side_s (r:List ARule) (f:ARule→Term) (g:Nat) (hr:rbs r < 2^38) (hof:∀ x∈r,PF g [encR x] (encT (f x))) (hsz:∀ x∈r,size (f x) < 2^40) (hvs:∀ x∈r,∀ v,occ v (f x) = true→v∈varsOf [x.left]) (m:AMulti) (hok:OkM r m) (hm:msize m < 2^39) :
  PF n_multi_side [encRs r,encM m,.fn (.func g) [] []] (encT (sideM r f m)):=by
 induction m using multi_ind with
 | h m ih =>
 have hst:=msize_args m
 have hll:=length_le_msizes m.args
 refine pf_of multi_side.ok rfl ?_
 rw [sideM_eq]
 push_cast
 refine loop_up (n:=m.args.length) (R:=fun k=>multi_side.L4 (encRs r) (.fn (.func g) [] []) (.ro (cM m) 0) (.ptr 0 0) (ownL cT 1 3 ((m.args.take k).map (sideM r f))) (encMs m.args) (.int .i64 m.args.length) (.int .i64 k) 0 [.cells t_Term [.str [],.bool false,.sl 3 []],.arr t_Term 3 k] _) ?_ ?_ 0 (by omega)
 ·intro k hk ih2
  have hmm:=getD_mem hk
  have hm2:=msize_mem hmm
  have hlen:((m.args.take k).map (sideM r f)).length = k:=by simp;omega
  rw [take_succ_getD hk,List.map_append,List.map_singleton] at ih2
  refine multi_side.G4 ?_
  push_cast [ilt hk]
  refine .of (ih _ hmm (hok.arg hmm) (by omega)) ?_
  push_cast [hlen,w64 (show k < 2^62 by omega)]
  exact ⟨Nat.le_trans (Nat.mul_le_mul_right 48 (show _≤2^41 by omega)) (by unfold maxEls;decide),ih2⟩
 ·refine multi_side.G4 ?_
  push_cast [inlt (Nat.le_refl _),List.take_length]
  by_cases h0:m.rule = 0
  ·push_cast [eq_true h0]
   refine pf_ret ?_
   push_cast [multi_side.rs]
   show V.agg [.str m.name,.bool m.var,encTs (m.args.map (sideM r f))] = encT (.mk m.name m.var (m.args.map (sideM r f)))
   unfold encT;rw [cT_eq];rfl
  ·obtain ⟨k1,k2,k3,k4,k5,k6⟩:=hok.rule h0
   have hw:IntKind.i64.wrap (m.rule - 1) = m.rule - 1:=wrap64 (by have:=length_le_rbs r;omega) (by have:=length_le_rbs r;omega)
   have hc1:((0:Int)≤m.rule - 1) = True:=eq_true (by omega)
   have hc2:(m.rule - 1 < (r.length:Int)) = True:=eq_true (by omega)
   have hru:r.getD (m.rule - 1).toNat default = ruleOf r m:=rfl
   have hrm:=rbs_mem k3
   have hsl:=size_le_tb (ruleOf r m).left
   have hV:=term_VarsOf_s [(ruleOf r m).left] (by simp [sizes];omega)
   push_cast [eq_false h0,hw,hc1,hc2,hru]
   refine .of (hof _ k3) ?_
   push_cast
   refine .of hV ?_
   push_cast
   refine .of (multi_plug_s (varsOf [(ruleOf r m).left]) (m.args.map (sideM r f)) (by rw [List.length_map,k4];exact Nat.le_refl _) (by rw [← k4];omega) _ (hsz _ k3) (hvs _ k3)) ?_
   push_cast
   exact pf_ret (by push_cast [multi_side.rs])
theorem wides_map {α:Type} {f:α→Term} {W:Nat}:∀ {l:List α},(∀ a∈l,wide (f a)≤W)→wides (l.map f)≤W
 | [],_=>by simp [wides]
 | a :: l,h=>by
  simp only [List.map_cons,wides]
  have h1:=h a (by simp)
  have h2:=wides_map (f:=f) (l:=l) fun b hb=>h b (by simp [hb])
  omega
theorem wides_getD {l:List Term} {k:Nat}:wide (l.getD k default)≤wides l:=by
 by_cases h:k < l.length
 ·exact wide_mem (getD_mem h)
 ·rw [List.getD_eq_getElem?_getD,List.getElem?_eq_none (by omega)]
  exact Nat.zero_le _
theorem wide_plug (vars:List Str) (x:List Term) (t:Term):wide (plugT vars x t)≤max (wides x) (size t):=by
 induction t using term_ind with
 | h t ih =>
  rw [plugT_eq]
  have hst:=size_args t
  have hll:=length_le_sizes t.args
  split
  ·have:=wides_getD (l:=x) (k:=ixS t.name vars);omega
  ·simp only [wide,List.length_map]
   have:=wides_map (f:=plugT vars x) (W:=max (wides x) (size t)) (l:=t.args) fun a ha=>by
    have:=ih a ha
    have:=size_mem ha
    omega
   omega
theorem wide_side (r:List ARule) (f:ARule→Term) {W:Nat} (hsz:∀ x∈r,size (f x)≤W) (m:AMulti) (hok:OkM r m) (hm:msize m≤W):wide (sideM r f m)≤W:=by
 induction m using multi_ind with
 | h m ih =>
  rw [sideM_eq]
  have hst:=msize_args m
  have hll:=length_le_msizes m.args
  have hw:=wides_map (f:=sideM r f) (W:=W) (l:=m.args) fun a ha=>ih a ha (hok.arg ha) (by have:=msize_mem ha;omega)
  split
  ·simp only [wide,List.length_map];omega
  ·rename_i h0
   have:=wide_plug (varsOf [(ruleOf r m).left]) (m.args.map (sideM r f)) (f (ruleOf r m))
   have:=hsz _ (hok.rule h0).2.2.1
   omega
theorem multi_end_s (r:List ARule) (f:ARule→Term) (g:Nat) (m:AMulti) (hr:rbs r < 2^38) (hm:mb m < 2^38) (hof:∀ x∈r,PF g [encR x] (encT (f x))) (hsz:∀ x∈r,size (f x) < 2^40) (hvs:checkSystem r = 0→∀ x∈r,∀ v,occ v (f x) = true→v∈varsOf [x.left]) :
  PF n_multi_end [encRs r,encM m,.fn (.func g) [] []] (encTE (endM r f m).1 (endM r f m).2):=by
 have hmz:=msize_le_mb m
 refine pf_of multi_end.ok rfl ?_
 push_cast
 refine .of (multi_Check_s r m hr (by omega)) ?_
 unfold endM
 by_cases h1:¬ checkM r m = 0
 ·rw [if_pos h1]
  push_cast [eq_false h1]
  exact pf_ret (by push_cast [multi_end.rs];rfl)
 have h1:checkM r m = 0:=Classical.not_not.1 h1
 rw [if_neg (by simpa using h1)]
 obtain ⟨c1,c2,c3,c4⟩:=checkM_ok h1
 have hS:=multi_side_s r f g hr hof hsz (hvs c1) m c2 (by omega)
 have hwd:=wide_side r f (W:=2^40) (fun x hx=>by have:=hsz x hx;omega) m c2 (by omega)
 generalize sideM r f m = t at hS hwd
 push_cast [h1]
 refine .of hS ?_
 push_cast
 refine .of (multi_large_s t (by omega)) ?_
 by_cases h2:4000 < size t
 ·have hf:fits t = false:=by unfold fits;simp;omega
  rw [hf]
  push_cast [eq_true h2]
  exact pf_ret (by push_cast [multi_end.rs];rfl)
 ·push_cast [eq_false h2]
  refine .of (term_Own_s t (by omega)) ?_
  push_cast
  refine .of (term_Fit_s t (by omega)) ?_
  cases hf:fits t with
  | true =>
   rw [if_pos rfl,if_pos rfl]
   unfold encTE
   push_cast
   exact pf_ret (by push_cast [multi_end.rs];try rfl)
  | false =>
   rw [if_neg (by simp),if_neg (by simp)]
   unfold encTE
   push_cast
   exact pf_ret (by push_cast [multi_end.rs];try rfl)
theorem varsOf_left (x:ARule):∀ v,occ v x.left = true→v∈varsOf [x.left]:=fun v h=>(mem_varsOf v x.left).2 h
theorem varsOf_right {r:List ARule} (h:checkSystem r = 0):∀ x∈r,∀ v,occ v x.right = true→v∈varsOf [x.left]:=by
 unfold checkSystem at h
 split at h
 ·rename_i h1;exact absurd h h1
 ·split at h
  ·cases h
  ·split at h
   ·cases h
   ·split at h
    ·cases h
    ·rename_i h3
     intro x hx v hv
     have h4:extra x = false:=by
      cases he:extra x with
      | false=>rfl
      | true=>exact absurd (List.any_eq_true.2 ⟨x,hx,he⟩) h3
     unfold extra at h4
     simp only [Bool.or_eq_false_iff] at h4
     have:=List.any_eq_false.1 h4.2 v ((mem_varsOf v x.right).2 hv)
     simpa using this
theorem multi_Source_1_s (x:ARule):PF n_multi_Source_1 [encR x] (encT x.left):=by
 refine pf_of multi_Source_1.ok rfl ?_
 push_cast
 exact pf_ret (by push_cast [multi_Source_1.rs];try rfl)
theorem multi_Target_1_s (x:ARule):PF n_multi_Target_1 [encR x] (encT x.right):=by
 refine pf_of multi_Target_1.ok rfl ?_
 push_cast
 exact pf_ret (by push_cast [multi_Target_1.rs];try rfl)
theorem multi_Source_s (r:List ARule) (m:AMulti) (hr:rbs r < 2^38) (hm:mb m < 2^38):PF n_multi_Source [encRs r,encM m] (encTE (endM r ARule.left m).1 (endM r ARule.left m).2):=by
 refine pf_of multi_Source.ok rfl ?_
 have hE:=multi_end_s r ARule.left n_multi_Source_1 m hr hm (fun x _=>multi_Source_1_s x) (fun x hx=>by have:=rbs_mem hx;have:=size_le_tb x.left;omega) (fun _ x _=>varsOf_left x)
 push_cast
 refine .of hE ?_
 generalize (endM r ARule.left m) = p
 obtain ⟨o,e⟩:=p
 cases o <;> (unfold encTE;push_cast;exact pf_ret (by push_cast [multi_Source.rs];try rfl))
theorem multi_Target_s (r:List ARule) (m:AMulti) (hr:rbs r < 2^38) (hm:mb m < 2^38):PF n_multi_Target [encRs r,encM m] (encTE (endM r ARule.right m).1 (endM r ARule.right m).2):=by
 refine pf_of multi_Target.ok rfl ?_
 have hE:=multi_end_s r ARule.right n_multi_Target_1 m hr hm (fun x _=>multi_Target_1_s x) (fun x hx=>by have:=rbs_mem hx;have:=size_le_tb x.right;omega) (fun h=>varsOf_right h)
 push_cast
 refine .of hE ?_
 generalize (endM r ARule.right m) = p
 obtain ⟨o,e⟩:=p
 cases o <;> (unfold encTE;push_cast;exact pf_ret (by push_cast [multi_Target.rs];try rfl))
end Go.Dw
end
section
namespace Go.Dw
section
variable {P:Program} {N:Nat→C} {B:Nat} {ds:List Nat} {g l:List S} {s:List K} {t:T} {H:List Ob} {Q:X→T→List Ob→Prop}
theorem gK_tt:gP P N B true ds g l s t H Q (.bool true) = Run P N B (.r (g++l) :: s) t H Q:=by simp [gP]
theorem gK_ff:gP P N B false ds g l s t H Q (.bool false) = Run P N B (.r (g++l) :: s) t H Q:=by simp [gP]
theorem gK_tf:gP P N B true ds g l s t H Q (.bool false) = Run P N B (.r l :: s) (ds.map (fun d=>(d,V.tup []))++t) H Q:=by simp [gP]
theorem gK_ft:gP P N B false ds g l s t H Q (.bool true) = Run P N B (.r l :: s) (ds.map (fun d=>(d,V.tup []))++t) H Q:=by simp [gP]
theorem cK_t {a b:C}:cP P N B a b s t H Q (.bool true) = Run P N B (.c a :: s) t H Q:=by simp [cP]
theorem cK_f {a b:C}:cP P N B a b s t H Q (.bool false) = Run P N B (.c b :: s) t H Q:=by simp [cP]
end
attribute [push_cast] gK_tt gK_ff gK_tf gK_ft cK_t cK_f
end Go.Dw
end
section
namespace Go.Dw
def insRS (s:Str):List Str→List Str
 | []=>[s]
 | x :: l=>if x < s then x :: insRS s l else if x = s then x :: l else s :: x :: l
theorem insS_R (s:Str):∀ l:List Str,insS l s = insRS s l
 | []=>rfl
 | x :: l=>by
  have ih:=insS_R s l
  unfold insS at ih ⊢
  simp only [lbg,insRS]
  by_cases h:x < s
  ·simp only [h,decide_true,if_true]
   rw [← ih]
   simp only [List.length_cons,Nat.add_lt_add_iff_right,List.getD_cons_succ,List.take_succ_cons,List.drop_succ_cons]
   split <;> simp
  ·simp only [h,decide_false,Bool.false_eq_true,if_false,List.length_cons,Nat.zero_lt_succ,true_and,List.getD_cons_zero,List.take_zero,List.drop_zero,List.nil_append]
def SS (l:List Str):Prop:=l.Pairwise (· < ·)
theorem insRS_mem {s v:Str}:∀ {l:List Str},v∈insRS s l→v∈l ∨ v = s
 | [],h=>.inr (by simpa [insRS] using h)
 | x :: l,h=>by
  unfold insRS at h
  split at h
  ·rcases List.mem_cons.1 h with rfl | h
   ·exact .inl (by simp)
   ·rcases insRS_mem h with h | h
    ·exact .inl (by simp [h])
    ·exact .inr h
  ·split at h
   ·exact .inl h
   ·rcases List.mem_cons.1 h with rfl | h
    ·exact .inr rfl
    ·exact .inl h
theorem insRS_sorted {s:Str}:∀ {l:List Str},SS l→SS (insRS s l)
 | [],_=>by simp [insRS,SS]
 | x :: l,h=>by
  unfold SS at h ⊢
  rw [List.pairwise_cons] at h
  unfold insRS
  split
  ·rename_i hx
   rw [List.pairwise_cons]
   refine ⟨fun v hv=>?_,insRS_sorted h.2⟩
   rcases insRS_mem hv with hv | rfl
   ·exact h.1 v hv
   ·exact hx
  ·rename_i hx
   split
   ·rw [List.pairwise_cons];exact h
   ·rename_i hne
    have hsx:s < x:=by
     rcases Classical.em (s < x) with hc | hc
     ·exact hc
     ·exact absurd (slt_eq hc hx).symm hne
    rw [List.pairwise_cons,List.pairwise_cons]
    refine ⟨fun v hv=>?_,h⟩
    rcases List.mem_cons.1 hv with rfl | hv
    ·exact hsx
    ·exact slt_trans hsx (h.1 v hv)
mutual
theorem collectT_sorted:∀ (t:Term) (l:List Str),SS l→SS (collectT l t)
 | .mk n b ar,l,h=>by
  simp only [collectT]
  refine collectTs_sorted ar _ ?_
  split
  ·rw [insS_R];exact insRS_sorted h
  ·exact h
theorem collectTs_sorted:∀ (ar:List Term) (l:List Str),SS l→SS (collectTs l ar)
 | [],l,h=>h
 | a :: ar,l,h=>by simp only [collectTs];exact collectTs_sorted ar _ (collectT_sorted a l h)
end
theorem vset_nodup (l:List Str):∀ ks:List Str,ks.Nodup→(l.foldl addS ks).Nodup:=by
 induction l with
 | nil=>intro ks h;exact h
 | cons x l ih =>
  intro ks h
  refine ih _ ?_
  unfold addS
  split
  ·exact h
  ·rename_i hx
   rw [List.nodup_append]
   exact ⟨h,by simp,fun a ha b hb e=>by rw [List.mem_singleton] at hb;subst hb;subst e;exact hx ha⟩
theorem varsT_eq (t:Term):varsT t = varsOf [t]:=by
 have h1:SS (varsT t):=collectT_sorted t [] List.Pairwise.nil
 have h2:(vsetT [] [t]).Nodup:=by
  show (vset [] (visit t [])).Nodup
  exact vset_nodup _ _ List.nodup_nil
 have hm:∀ v,v∈varsT t ↔ v∈vsetT [] [t]:=fun v=>by
  have e1:v∈varsT t ↔ occ v t = true:=by
   unfold varsT;rw [mem_collectT];simp
  have e2:=mem_varsOf v t
  unfold varsOf at e2
  rw [(List.mergeSort_perm _ _).mem_iff] at e2
  rw [e1,e2]
 have hnd:(varsT t).Nodup:=h1.imp fun hab e=>by rw [e] at hab;exact slt_irrefl _ hab
 have hp:(varsT t).Perm (vsetT [] [t]):=(List.perm_ext_iff_of_nodup hnd h2).2 hm
 unfold varsOf
 have e3:Proofs.sortS (vsetT [] [t]) = Proofs.sortS (varsT t):=Go.mergeSort_of_perm hp.symm
 rw [e3]
 unfold Proofs.sortS
 refine (List.mergeSort_of_pairwise ?_).symm
 refine h1.imp fun {a b} hab=>?_
 simpa using List.le_of_lt hab
theorem r17_Count_s (m:AMulti) (hs:msize m < 2^40):PF n_r17_Count [encM m] (.int .i64 (countM m)):=by
 induction m using multi_ind with
 | h m ih =>
 refine pf_of r17_Count.ok rfl ?_
 have hst:=msize_args m
 have hl:=length_le_msizes m.args
 have hcl:=countMs_le m.args
 rw [countM_eq]
 generalize hc:(if m.rule = 0 then 0 else 1:Nat) = c
 have hc1:c≤1:=by subst hc;split <;> omega
 have h0:=loop_up (n:=m.args.length) (R:=fun k=>r17_Count.L3 (.int .i64 ((c+countMs (m.args.take k):Nat):Int)) (encMs m.args) (.int .i64 m.args.length) (.int .i64 k) 0 [] (Ends 0 r17_Count.rs fun x' H'=>x' = .int .i64 ((c+countMs m.args:Nat):Int)∧H' = [])) ?_ ?_ 0 (by omega)
 ·simp only [List.take_zero,countMs,Nat.add_zero] at h0
  by_cases hr:m.rule = 0
  ·rw [if_pos hr] at hc
   subst hc
   push_cast [hr]
   push_cast at h0
   exact h0
  ·rw [if_neg hr] at hc
   subst hc
   push_cast [eq_false hr]
   push_cast at h0
   exact h0
 ·intro k hk ih2
  have h1:=countMs_take_succ _ _ hk
  have h2:=countMs_take_le m.args (k+1)
  have hm:=getD_mem hk
  have:=msize_mem hm
  refine r17_Count.G3 ?_
  push_cast [ilt hk]
  refine .of (ih _ hm (by omega)) ?_
  push_cast [w64 (show k < 2^62 by omega)]
  rw [wrap64 (by omega) (by omega)]
  rw [h1] at ih2
  push_cast at ih2
  simpa [Int.add_assoc] using ih2
 ·refine r17_Count.G3 ?_
  push_cast [inlt (Nat.le_refl _),List.take_length]
  exact pf_ret (by push_cast [r17_Count.rs])
end Go.Dw
end
section
namespace Go.Dw
open Go.Proofs.YtkdcfkfdkimaeaaGreatDoor
section
variable {H:Type} {enc:TypeId × Value→H} {W:World}
theorem mc25:prog.cellsOf 25 = 1+1+1+1:=by kernel_rfl
theorem mc23:prog.cellsOf 23 = 1:=by kernel_rfl
theorem msplit4 {α:Type} {cs:List α} {a b c d:Nat} (h:cs.length = a+b+c+d):cs = (cs.drop 0).take a++((cs.drop a).take b++((cs.drop (a+b)).take c++(cs.drop (a+b+c)).take d)):=by
 have h1:cs.drop (a+b) = (cs.drop (a+b)).take c++(cs.drop (a+b+c)).take d:=by
  rw [List.take_of_length_le (l:=cs.drop (a+b+c)) (by simp;omega),← List.drop_drop (i:=c),List.take_append_drop]
 have h2:cs.drop a = (cs.drop a).take b++cs.drop (a+b):=by rw [← List.drop_drop (i:=b),List.take_append_drop]
 rw [← h1,← h2,List.drop_zero,List.take_append_drop]
theorem mbs_sumB (l:List AMulti):sumB mb l = mbs l:=by
 induction l with
 | nil=>rfl
 | cons a l ih=>simp only [sumB,mbs,ih]
theorem br_multi:∀ n,Br enc W n 25 cM mb
 | 0=>by intro cs x h;simp [DataW.trod] at h
 | n+1=>by
  intro cs x h hbk
  obtain ⟨xs,m,hm,rfl,hl,hlen,hf⟩:=DataW.trod_struct (P:=prog) Go.Proofs.Tryz.underlying25 h
  obtain rfl:n = m:=by omega
  rw [mc25] at hl
  match xs,hlen with
  | [x0,x1,x2,x3],_ =>
  have f0:trd enc W n 3 ((cs.drop 0).take (prog.cellsOf 3)) = some x0:=hf 0 _ rfl
  have f1:trd enc W n 9 ((cs.drop 1).take (prog.cellsOf 9)) = some x1:=hf 1 _ rfl
  have f2:trd enc W n 4 ((cs.drop 2).take (prog.cellsOf 4)) = some x2:=hf 2 _ rfl
  have f3:trd enc W n 23 ((cs.drop 3).take (prog.cellsOf 23)) = some x3:=hf 3 _ rfl
  rw [c3] at f0;rw [c9] at f1;rw [c4] at f2;rw [mc23] at f3
  simp only [List.map_cons,List.map_nil,Rows.uptoBulk,Rows.uptoBulkAll] at hbk ⊢
  obtain ⟨k,b0,d0⟩:=br_int _ _ f0 (by omega)
  obtain ⟨s,b1,d1⟩:=br_str _ _ f1 (by omega)
  obtain ⟨v,b2,d2⟩:=br_bool _ _ f2 (by omega)
  obtain ⟨l,b3,d3⟩:=br_slice (n:=n) (sz:=4) (c:=cM) (b:=mb) Go.Proofs.Tryz.underlying23 mc25 (by omega) (fun _=>rfl) (fun m hm=>br_multi m) _ _ f3 (by omega)
  try dsimp only at b0
  try dsimp only at b1
  try dsimp only at b2
  try dsimp only at b3
  refine ⟨.mk k s v l,?_,?_⟩
  ·rw [mbs_sumB] at b3
   simp only [mb]
   omega
  ·rw [msplit4 hl,cM_eq]
   exact d0.app (d1.app (d2.app d3))
end
end Go.Dw
end
section
namespace Go.Dw
open Go.Proofs Go.Proofs.YtkdcfkfdkimaeaaGreatDoor
theorem heap_var {P:Program} {W:World} {name:String} {cs:Array Value} {g:Nat} (hg:P.globalNamed name = some g) (h:W.var? P name = some cs):∃ e fz,W.heap[g]? = some (.cells cs e fz):=by
 unfold World.var? at h
 rw [hg] at h
 simp only [Option.bind_some] at h
 split at h
 ·rename_i c e fz hh
  injection h with h
  subst h
  exact ⟨_,_,hh⟩
 ·cases h
theorem g_pow : prog.globalNamed "internal/strconv.uint64pow10" = some 1 := by kernel_rfl
theorem t_pow:(prog.globals[1]?).map (·.type) = some 323:=by kernel_rfl
theorem u_pow:prog.underlying 323 = some (.array 20 254):=by kernel_rfl
theorem u_pow8:prog.underlying 254 = some (.int .u64):=by kernel_rfl
theorem c_pow8:prog.cellsOf 254 = 1:=by kernel_rfl
theorem c_pow:prog.cellsOf 323 = 20:=by kernel_rfl
theorem glob_laid {L:List (String × DataW Unit)} {W:World} (hL:laidMetH prog L W)
  (he : L = [("math/bits.deBruijn32tab", Rows.laid_math_bits_deBruijn32tab), ("math/bits.deBruijn64tab", Rows.laid_math_bits_deBruijn64tab), ("internal/strconv.uint64pow10", Rows.laid_internal_strconv_uint64pow10)]) : Glob ⟨W, okW W, fun _ => none, []⟩ := by
 subst he
 have h3 : laidMet prog [("internal/strconv.uint64pow10", Lib.tabData .u64 Lib.pow10Tab)] W := laidMet.tail (laidMet.tail hL)
 have ht:=Lib.tabIs_of_head g_pow t_pow u_pow u_pow8 c_pow8 c_pow h3
 obtain ⟨e,fz,hh⟩:=heap_var g_pow ht
 intro p hp
 simp only [tabs,List.mem_singleton] at hp
 subst hp
 refine ⟨⟨e,fz,?_⟩,fun ⟨i,k,hi,_⟩=>by cases hi⟩
 show W.heap[1]? = _
 rw [hh,Lib.pow10Tab,List.map_map]
 rfl
def datumCells:DataW Unit→Array Value
 | .agg l=>(l.map fun x=>match x with | .lit (.int k z)=>Value.int k z | _=>Value.bool false).toArray
 | _=>#[]
noncomputable def layTab (w:World) (i:Nat) (cs:Array Value):World:={ w with heap:=w.heap.modify i fun o=>match o with
 | .cells _ t frozen=>.cells cs t frozen
 | o=>o }
noncomputable def tablesLaid (w:World):World :=
 layTab (layTab (layTab w 1 (datumCells Rows.laid_internal_strconv_uint64pow10)) 2 (datumCells Rows.laid_math_bits_deBruijn32tab)) 3 (datumCells Rows.laid_math_bits_deBruijn64tab)
end Go.Dw
end
section
namespace Go.Proofs
open Go.RowKit Go.Shelf Go.Sort
def Tryz.laysFmt_ren:Go.Shelf.Ren:=⟨fun | 246=>310 | 283=>316 | 284=>317 | 285=>318 | 286=>319 | 129=>244 | 317=>322 | 318=>323 | 319=>324 | 320=>325 | 337=>327 | 338=>328 | n=>n,fun | 2=>2 | 3=>3 | 9=>9 | 4=>4 | 171=>315 | 0=>0 | 53=>254 | 37=>221 | 5=>5 | 173=>317 | 212=>323 | 51=>252 | 20=>20 | 213=>324 | 46=>208 | 232=>326 | 233=>327 | n=>n,fun | 17=>1 | 18=>2 | 19=>3 | n=>n⟩
theorem Tryz.laysFmt:Go.Proofs.LaysM.n246 Tryz.prog Tryz.laysFmt_ren:={
 mixed:=by kernel_rfl
 f129:=Tryz.func244.trans (congrArg some (by kernel_rfl))
 f246:=Tryz.func310.trans (congrArg some (by kernel_rfl))
 f283:=Tryz.func316.trans (congrArg some (by kernel_rfl))
 f284:=Tryz.func317.trans (congrArg some (by kernel_rfl))
 f285:=Tryz.func318.trans (congrArg some (by kernel_rfl))
 f286:=Tryz.func319.trans (congrArg some (by kernel_rfl))
 f317:=Tryz.func322.trans (congrArg some (by kernel_rfl))
 f318:=Tryz.func323.trans (congrArg some (by kernel_rfl))
 f319:=Tryz.func324.trans (congrArg some (by kernel_rfl))
 f320:=Tryz.func325.trans (congrArg some (by kernel_rfl))
 f337:=Tryz.func327.trans (congrArg some (by kernel_rfl))
 f338:=Tryz.func328.trans (congrArg some (by kernel_rfl))
 t0:=Tryz.underlying0
 a0:=Tryz.isAgg0
 z0:=Tryz.sizeOf0
 v0:=Tryz.zeroValue0
 t2:=Tryz.underlying2
 a2:=Tryz.isAgg2
 z2:=Tryz.sizeOf2
 v2:=Tryz.zeroValue2
 t3:=Tryz.underlying3
 a3:=Tryz.isAgg3
 z3:=Tryz.sizeOf3
 v3:=Tryz.zeroValue3
 t4:=Tryz.underlying4
 a4:=Tryz.isAgg4
 z4:=Tryz.sizeOf4
 v4:=Tryz.zeroValue4
 t5:=Tryz.underlying5
 a5:=Tryz.isAgg5
 z5:=Tryz.sizeOf5
 v5:=Tryz.zeroValue5
 t9:=Tryz.underlying9
 a9:=Tryz.isAgg9
 z9:=Tryz.sizeOf9
 v9:=Tryz.zeroValue9
 t20:=Tryz.underlying20
 a20:=Tryz.isAgg20
 z20:=Tryz.sizeOf20
 v20:=Tryz.zeroValue20
 t37:=Tryz.underlying221
 a37:=Tryz.isAgg221
 z37:=Tryz.sizeOf221
 v37:=Tryz.zeroValue221
 t46:=Tryz.underlying208
 a46:=Tryz.isAgg208
 z46:=Tryz.sizeOf208
 v46:=Tryz.zeroValue208
 t51:=Tryz.underlying252
 a51:=Tryz.isAgg252
 z51:=Tryz.sizeOf252
 v51:=Tryz.zeroValue252
 t53:=Tryz.underlying254
 a53:=Tryz.isAgg254
 z53:=Tryz.sizeOf254
 v53:=Tryz.zeroValue254
 t171:=Tryz.underlying315
 a171:=Tryz.isAgg315
 z171:=Tryz.sizeOf315
 v171:=Tryz.zeroValue315
 t173:=Tryz.underlying317
 a173:=Tryz.isAgg317
 z173:=Tryz.sizeOf317
 v173:=Tryz.zeroValue317
 t212:=Tryz.underlying323
 a212:=Tryz.isAgg323
 z212:=Tryz.sizeOf323
 v212:=Tryz.zeroValue323
 t213:=Tryz.underlying324
 a213:=Tryz.isAgg324
 z213:=Tryz.sizeOf324
 t232:=Tryz.underlying326
 a232:=Tryz.isAgg326
 z232:=Tryz.sizeOf326
 v232:=Tryz.zeroValue326
 t233:=Tryz.underlying327
 a233:=Tryz.isAgg327
 z233:=Tryz.sizeOf327
 v233:=Tryz.zeroValue327
 g17:=by kernel_rfl
 g18:=by kernel_rfl
 g19:=by kernel_rfl
 i0:=by kernel_rfl
 i2:=by kernel_rfl
 i3:=by kernel_rfl
 i4:=by kernel_rfl
 i5:=by kernel_rfl
 i9:=by kernel_rfl
 i20:=by kernel_rfl
 i37:=by kernel_rfl
 i46:=by kernel_rfl
 i51:=by kernel_rfl
 i53:=by kernel_rfl
 i171:=by kernel_rfl
 i173:=by kernel_rfl
 i212:=by kernel_rfl
 i232:=by kernel_rfl
 i233:=by kernel_rfl
 m17:=by kernel_rfl
 m18:=by kernel_rfl
 m19:=by kernel_rfl }
theorem Tryz.fmt_num:Tryz.laysFmt_ren.f 246 = Go.Dw.n_strconv_FormatInt:=by kernel_rfl
theorem Tryz.fmt_in (args:Array Value) (w:World):(callFunc Go.Dw.n_strconv_FormatInt args).run Tryz.prog w = .ok (.enter Go.Dw.n_strconv_FormatInt args) w:=by
 have:=enters_of (P:=Tryz.prog) Tryz.laysFmt.f246 (by kernel_rfl) rfl args w
 rw [Tryz.fmt_num] at this
 exact this
theorem Tryz.fmt_c (n : Int) (h0 : -9223372036854775808 ≤ n) (h1 : n ≤ 9223372036854775807) (w : World) (htab : Lib.TabIs Tryz.prog w "internal/strconv.uint64pow10" .u64 Lib.pow10Tab) :
  Calls Tryz.prog Go.Dw.n_strconv_FormatInt #[.int .i64 n,.int .i64 10] w fun e w'=>e = .returned (.string ⟨(Lib.itoa n).toArray⟩)∧∃ k os,w' = grow (w.drewN k) os:=by
 have:=Any.internal_strconv_FormatInt_10 Tryz.laysFmt n h0 h1 w htab
 rw [Tryz.fmt_num] at this
 exact this
theorem Tryz.pow10_at : Tryz.prog.globalNamed "internal/strconv.uint64pow10" = some 1 := by kernel_rfl
end Go.Proofs
namespace Go.Dw
open Go.Proofs Go.Sort
theorem glob_pow10 {c : Cx} (h : Glob c) : Lib.TabIs Tryz.prog c.w "internal/strconv.uint64pow10" .u64 Lib.pow10Tab := by
 obtain ⟨⟨e,fz,h1⟩,_⟩:=h (1,(List.range 20).map fun i=>Value.int .u64 ((10^i:Nat):Int)) (by simp [tabs])
 unfold Lib.TabIs World.var?
 rw [Tryz.pow10_at]
 simp only [Option.bind_some,h1]
 rw [Lib.pow10Tab,List.map_map]
 rfl
theorem strconv_FormatInt_s (n:Int) (h0:-9223372036854775808≤n) (h1:n≤9223372036854775807):PF n_strconv_FormatInt [.int .i64 n,.int .i64 10] (.str (Lib.itoa n)):=by
 intro c vs hH hc hr
 obtain ⟨v,vs',rfl,r1,v2,vs2,rfl,r2,r3⟩:=hr
 have r1:v = .int .i64 n:=r1
 have r2:v2 = .int .i64 10:=r2
 have r3:vs2 = []:=r3
 subst r1;subst r2;subst r3
 left
 refine ⟨Tryz.fmt_in _ _,(Tryz.fmt_c n h0 h1 c.w (glob_pow10 hc.glob)).mono ?_⟩
 rintro e w' ⟨rfl,k,os,rfl⟩
 have hno:∀ b,¬ c.owns b:=fun b ⟨i,k,h,_⟩=>by rw [hH] at h;simp at h
 have hlt:∀ b,b < c.w.heap.size→(grow (c.w.drewN k) os).heap[b]? = c.w.heap[b]?:=fun b hb=>Array.getElem?_append_left hb
 have hown:∀ b,¬ (⟨grow (c.w.drewN k) os,c.ok,c.ρ,[]⟩:Cx).owns b:=fun b ⟨i,k,h,_⟩=>by simp at h
 refine ⟨_,.str (Lib.itoa n),⟨grow (c.w.drewN k) os,c.ok,c.ρ,[]⟩,rfl,rfl,⟨rfl,rfl⟩,?_,rfl,?_⟩
 ·refine ⟨fun i j b1 k1 k2 h1=>by simp at h1,fun b o h=>?_,fun i o hi=>by simp at hi,hc.glob.keep (fun b hb _=>hlt b hb) fun b h=>absurd h (hown b)⟩
  have:=hc.okLt b o h
  show b < (c.w.heap++os).size
  rw [Array.size_append];omega
 ·refine ⟨fun _ _ h=>h,fun b o h=>?_,?_,fun _ _ h=>.inl h,fun b hb _=>hlt b hb,fun b h=>absurd h (hown b),fun i o hi=>?_,rfl,rfl,rfl,Nat.le_add_right _ _⟩
  ·simp only [World.cell?]
   rw [hlt b (hc.okLt _ _ h)]
  ·show c.w.heap.size≤(c.w.heap++os).size
   rw [Array.size_append];omega
  ·rw [hH] at hi;simp at hi
theorem strconv_Itoa_1_s (n:Int) (h0:-9223372036854775808≤n) (h1:n≤9223372036854775807):PF n_strconv_Itoa_ [.int .i64 n] (.str (Lib.itoa n)):=by
 refine pf_of strconv_Itoa_.ok rfl ?_
 push_cast
 refine .of (strconv_FormatInt_s n h0 h1) ?_
 push_cast
 exact pf_ret (by push_cast [strconv_Itoa_.rs])
theorem strconv_Itoa_s (n:Int) (h0:-9223372036854775808≤n) (h1:n≤9223372036854775807):PF n_strconv_Itoa [.int .i64 n] (.str (Lib.itoa n)):=by
 refine pf_of strconv_Itoa.ok rfl ?_
 push_cast
 refine .of (strconv_Itoa_1_s n h0 h1) ?_
 push_cast
 exact pf_ret (by push_cast [strconv_Itoa.rs])
abbrev dig (n:Nat):Str:=Lib.decDigits n
theorem strconv_Itoa_n (n:Nat) (h:n < 2^62):PF n_strconv_Itoa [.int .i64 n] (.str (dig n)):=by
 have:=strconv_Itoa_s n (by omega) (by omega)
 rw [show Lib.itoa (n:Int) = dig n from if_neg (by omega)] at this
 exact this
end Go.Dw
end
section
namespace Go.Dw
theorem image_append (a b:List ABind) (n:Str):image (a++b) n = match image a n with | some x=>some x | none=>image b n:=by
 induction a with
 | nil=>rfl
 | cons x a ih =>
  simp only [List.cons_append,image]
  split
  ·rfl
  ·exact ih
theorem image_bindT {s:List ABind} {v:Str} {t:Term} (h:image s v = none) (n:Str):image (bindT s v t) n = if v = n then some t else image s n:=by
 unfold bindT
 have h0:=image_append (s.take (lbd v s)) (s.drop (lbd v s)) n
 rw [List.take_append_drop] at h0
 rw [image_append]
 by_cases hv:v = n
 ·subst hv
  rw [h] at h0
  rw [if_pos rfl]
  cases ha:image (s.take (lbd v s)) v with
  | some x=>rw [ha] at h0;cases h0
  | none=>simp only [image,if_true]
 ·rw [if_neg hv,h0]
  cases image (s.take (lbd v s)) n with
  | some x=>rfl
  | none=>simp only [image,if_neg hv]
def ExtB (a b:List ABind):Prop:=∀ n x,image a n = some x→image b n = some x
theorem ExtB.refl (a:List ABind):ExtB a a:=fun _ _ h=>h
theorem ExtB.trans {a b c:List ABind} (h:ExtB a b) (h2:ExtB b c):ExtB a c:=fun n x hx=>h2 n x (h n x hx)
theorem ext_bindT {s:List ABind} {v:Str} {t:Term} (h:image s v = none):ExtB s (bindT s v t):=fun n x hx=>by
 rw [image_bindT h]
 split
 ·rename_i e;subst e;rw [h] at hx;cases hx
 ·exact hx
theorem term_mk (t:Term):t = .mk t.name t.var t.args:=by cases t;rfl
theorem matchT_sound (p:Term):∀ (s:List ABind) (t:Term),(matchT s p t).2 = true→ExtB s (matchT s p t).1∧∀ s2,ExtB (matchT s p t).1 s2→inst s2 p = t:=by
 induction p using term_ind with
 | h p ih =>
 intro s t
 rw [matchT_eq]
 cases hv:p.var with
 | true =>
  rw [if_pos rfl]
  cases hx:image s p.name with
  | some x =>
   intro h
   have h:x = t:=by simpa using h
   subst h
   refine ⟨.refl s,fun s2 h2=>?_⟩
   rw [inst_eq,hv,if_pos rfl,h2 _ _ hx];rfl
  | none =>
   intro _
   refine ⟨ext_bindT hx,fun s2 h2=>?_⟩
   rw [inst_eq,hv,if_pos rfl,h2 p.name t (by rw [image_bindT hx,if_pos rfl])];rfl
 | false =>
  rw [if_neg (by simp)]
  by_cases hc:t.var ∨ p.name ≠ t.name ∨ p.args.length ≠ t.args.length
  ·rw [if_pos hc];intro h;cases h
  ·rw [if_neg hc]
   simp only [not_or,Classical.not_not] at hc
   have key:∀ (l m:List Term) (s:List ABind),(∀ a∈l,a∈p.args)→l.length = m.length→(matchTs s l m).2 = true→ExtB s (matchTs s l m).1∧∀ s2,ExtB (matchTs s l m).1 s2→l.map (inst s2) = m:=by
    intro l
    induction l with
    | nil =>
     intro m s _ hl _
     cases m with
     | nil=>exact ⟨.refl s,fun _ _=>rfl⟩
     | cons b m=>cases hl
    | cons a l ihl =>
     intro m s hm hl h
     cases m with
     | nil=>cases hl
     | cons b m =>
      simp only [matchTs] at h ⊢
      by_cases hab:(matchT s a b).2 = true
      ·rw [if_pos hab] at h ⊢
       obtain ⟨h1,h2⟩:=ih a (hm a (by simp)) s b hab
       obtain ⟨h3,h4⟩:=ihl m _ (fun x hx=>hm x (by simp [hx])) (by simpa using hl) h
       refine ⟨h1.trans h3,fun s2 hs2=>?_⟩
       rw [List.map_cons,h2 s2 (h3.trans hs2),h4 s2 hs2]
      ·rw [if_neg hab] at h;cases h
   intro h
   obtain ⟨h1,h2⟩:=key p.args t.args s (fun _ h=>h) hc.2.2 h
   refine ⟨h1,fun s2 hs2=>?_⟩
   rw [inst_eq,hv,if_neg (by simp),h2 s2 hs2,hc.2.1]
   rw [term_mk t]
   have:t.var = false:=by simpa using hc.1
   simp only [Term.name,Term.args,this]
theorem match_inst {p t:Term} (h:(matchT [] p t).2 = true):inst (matchT [] p t).1 p = t:=(matchT_sound p [] t h).2 _ (.refl _)
end Go.Dw
end
section
namespace Go.Dw
abbrev Sub:=Str→Term
mutual
def app (f:Sub):Term→Term
 | .mk n v l=>if v then f n else .mk n false (apps f l)
def apps (f:Sub):List Term→List Term
 | []=>[]
 | a :: l=>app f a :: apps f l
end
theorem apps_map (f:Sub) (l:List Term):apps f l = l.map (app f):=by induction l with | nil=>rfl | cons a l ih=>simp [apps,ih]
theorem app_eq (f:Sub) (t:Term):app f t = if t.var then f t.name else .mk t.name false (t.args.map (app f)):=by
 cases t with | mk n v l=>simp only [app,apps_map,Term.var,Term.name,Term.args];rfl
theorem app_var {f:Sub} {t:Term} (h:t.var = true):app f t = f t.name:=by rw [app_eq,if_pos h]
theorem app_fun {f:Sub} {t:Term} (h:t.var = false):app f t = .mk t.name false (t.args.map (app f)):=by rw [app_eq,if_neg (by simp [h])]
theorem uoccs_iff {v:Str} {l:List Term}:occs v l = true ↔ ∃ a∈l,occ v a = true:=by
 induction l with
 | nil=>simp [occs]
 | cons a l ih=>simp [occs,ih]
theorem uocc_iff {v:Str} {t:Term}:occ v t = true ↔ (t.var = true∧t.name = v) ∨ ∃ a∈t.args,occ v a = true:=by
 cases t with | mk n b l =>
 show ((b && decide (n = v)) || occs v l) = true ↔ _
 rw [Bool.or_eq_true,Bool.and_eq_true,decide_eq_true_eq,uoccs_iff]
 exact Iff.rfl
def varT (v:Str):Term:=.mk v true []
theorem occ_varT {v w:Str}:occ w (varT v) = true ↔ v = w:=by
 rw [uocc_iff];simp [varT,Term.var,Term.name,Term.args]
mutual
def vfl:Term→Bool
 | .mk _ v l=>(!v || l.isEmpty) && vfls l
def vfls:List Term→Bool
 | []=>true
 | a :: l=>vfl a && vfls l
end
theorem vfls_iff {l:List Term}:vfls l = true ↔ ∀ a∈l,vfl a = true:=by
 induction l with
 | nil=>simp [vfls]
 | cons a l ih=>simp [vfls,ih]
theorem vfl_iff {t:Term}:vfl t = true ↔ (t.var = true→t.args = [])∧∀ a∈t.args,vfl a = true:=by
 cases t with | mk n v l=>cases v <;> simp [vfl,vfls_iff,Term.var,Term.args]
theorem vfl_arg {t a:Term} (h:vfl t = true) (ha:a∈t.args):vfl a = true:=(vfl_iff.1 h).2 a ha
theorem short_vfl (t:Term):short t = true→vfl t = true:=by
 induction t using term_ind with
 | h t ih =>
 intro h
 have h:=short_iff.1 h
 exact vfl_iff.2 ⟨h.2.1,fun a ha=>ih a ha (h.2.2 a ha)⟩
theorem vfl_var {t:Term} (h:vfl t = true) (hv:t.var = true):t = varT t.name:=by
 have:=(vfl_iff.1 h).1 hv
 cases t with | mk n v l =>
 simp only [Term.args] at this
 simp only [Term.var] at hv
 subst this;subst hv;rfl
theorem occ_var {t:Term} {v:Str} (h:vfl t = true) (hv:t.var = true):occ v t = true ↔ t.name = v:=by
 rw [vfl_var h hv,occ_varT];rfl
theorem occ_fun {t:Term} {v:Str} (hv:t.var = false):occ v t = true ↔ ∃ a∈t.args,occ v a = true:=by
 rw [uocc_iff,hv];simp
theorem app_congr {f g:Sub} (t:Term):(∀ v,occ v t = true→f v = g v)→app f t = app g t:=by
 induction t using term_ind with
 | h t ih =>
 intro h
 rw [app_eq,app_eq]
 split
 ·rename_i hv;exact h _ (uocc_iff.2 (.inl ⟨hv,rfl⟩))
 ·congr 1
  exact List.map_congr_left fun a ha=>ih a ha fun v hv=>h v (uocc_iff.2 (.inr ⟨a,ha,hv⟩))
theorem app_app (f g:Sub) (t:Term):app g (app f t) = app (fun v=>app g (f v)) t:=by
 induction t using term_ind with
 | h t ih =>
 cases hv:t.var with
 | true=>rw [app_var hv,app_var hv]
 | false =>
  rw [app_fun hv,app_fun hv,app_fun rfl]
  simp only [Term.name,Term.args,List.map_map]
  congr 1
  exact List.map_congr_left fun a ha=>ih a ha
theorem app_id {f:Sub} (t:Term):vfl t = true→(∀ v,occ v t = true→f v = varT v)→app f t = t:=by
 induction t using term_ind with
 | h t ih =>
 intro ht h
 cases hv:t.var with
 | true =>
  rw [app_var hv,h _ (uocc_iff.2 (.inl ⟨hv,rfl⟩))]
  exact (vfl_var ht hv).symm
 | false =>
  rw [app_fun hv]
  have e:t.args.map (app f) = t.args:=by
   conv=>rhs;rw [← List.map_id t.args]
   exact List.map_congr_left fun a ha=>ih a ha (vfl_arg ht ha) fun v hv=>h v (uocc_iff.2 (.inr ⟨a,ha,hv⟩))
  rw [e]
  cases t;simp only [Term.var] at hv;subst hv;rfl
theorem occ_app {f:Sub} {w:Str} (t:Term):vfl t = true→(occ w (app f t) = true ↔ ∃ v,occ v t = true∧occ w (f v) = true):=by
 induction t using term_ind with
 | h t ih =>
 intro ht
 cases hv:t.var with
 | true =>
  rw [app_var hv]
  constructor
  ·intro h;exact ⟨_,(occ_var ht hv).2 rfl,h⟩
  ·rintro ⟨v,h1,h2⟩
   rw [(occ_var ht hv).1 h1];exact h2
 | false =>
  rw [app_fun hv,occ_fun rfl]
  simp only [Term.args,List.mem_map]
  constructor
  ·rintro ⟨_,⟨a,ha,rfl⟩,h⟩
   obtain ⟨v,h1,h2⟩:=(ih a ha (vfl_arg ht ha)).1 h
   exact ⟨v,(occ_fun hv).2 ⟨a,ha,h1⟩,h2⟩
  ·rintro ⟨v,h1,h2⟩
   obtain ⟨a,ha,h3⟩:=(occ_fun hv).1 h1
   exact ⟨_,⟨a,ha,rfl⟩,(ih a ha (vfl_arg ht ha)).2 ⟨v,h3,h2⟩⟩
theorem vfl_app {f:Sub} (t:Term):(∀ v,occ v t = true→vfl (f v) = true)→vfl (app f t) = true:=by
 induction t using term_ind with
 | h t ih =>
 intro h
 cases hv:t.var with
 | true=>rw [app_var hv];exact h _ (uocc_iff.2 (.inl ⟨hv,rfl⟩))
 | false =>
  rw [app_fun hv]
  refine vfl_iff.2 ⟨fun e=>by simp [Term.var] at e,fun a ha=>?_⟩
  simp only [Term.args,List.mem_map] at ha
  obtain ⟨b,hb,rfl⟩:=ha
  exact ih b hb fun v hv=>h v (uocc_iff.2 (.inr ⟨b,hb,hv⟩))
def Sat (θ:Sub) (s:List ABind):Prop:=∀ v t,image s v = some t→θ v = app θ t
structure UOk (s:List ABind) (σ:Sub) (rk:Str→Nat):Prop where
 srt:Sorted s
 vf:∀ v t,image s v = some t→vfl t = true
 free:∀ v,image s v = none→σ v = varT v
 fix:∀ v t,image s v = some t→σ v = app σ t
 low:∀ v t,image s v = some t→∀ w,occ w t = true→rk w < rk v
theorem UOk.nil:UOk [] varT (fun _=>0):=⟨List.Pairwise.nil,fun v t h=>(by cases h),fun v _=>rfl,fun v t h=>(by cases h),fun v t h=>(by cases h)⟩
section
variable {s:List ABind} {σ:Sub} {rk:Str→Nat}
theorem UOk.sat (h:UOk s σ rk):Sat σ s:=h.fix
theorem UOk.ind {P:Str→Prop} (h:UOk s σ rk) (step:∀ v,(∀ t w,image s v = some t→occ w t = true→P w)→P v):∀ v,P v:=by
 have:∀ n v,rk v < n→P v:=by
  intro n
  induction n with
  | zero=>intro v hv;omega
  | succ n ih =>
   intro v hv
   exact step v fun t w h1 h2=>ih w (by have:=h.low v t h1 w h2;omega)
 exact fun v=>this (rk v+1) v (by omega)
theorem UOk.vfl (h:UOk s σ rk):∀ v,Dw.vfl (σ v) = true:=by
 refine h.ind fun v ih=>?_
 cases hi:image s v with
 | none=>rw [h.free v hi];rfl
 | some t=>rw [h.fix v t hi];exact vfl_app t fun w hw=>ih t w hi hw
theorem UOk.occ_free (h:UOk s σ rk) {w:Str}:∀ v,occ w (σ v) = true→image s w = none:=by
 refine h.ind fun v ih=>?_
 cases hi:image s v with
 | none =>
  rw [h.free v hi,occ_varT]
  rintro rfl;exact hi
 | some t =>
  rw [h.fix v t hi,occ_app t (h.vf v t hi)]
  rintro ⟨u,h1,h2⟩
  exact ih t u hi h1 h2
theorem UOk.idem (h:UOk s σ rk) (v:Str):app σ (σ v) = σ v:=app_id _ (h.vfl v) fun w hw=>h.free w (h.occ_free v hw)
theorem UOk.uniq {σ':Sub} {rk':Str→Nat} (h:UOk s σ rk) (h':UOk s σ' rk'):σ = σ':=by
 funext v
 revert v
 refine h.ind fun v ih=>?_
 cases hi:image s v with
 | none=>rw [h.free v hi,h'.free v hi]
 | some t=>rw [h.fix v t hi,h'.fix v t hi];exact app_congr t fun w hw=>ih t w hi hw
inductive Occ (s:List ABind) (v:Str):Term→Prop
 | here {t:Term}:t.var = true→t.name = v→Occ s v t
 | bound {t x:Term}:t.var = true→image s t.name = some x→Occ s v x→Occ s v t
 | arg {t a:Term}:t.var = false→a∈t.args→Occ s v a→Occ s v t
theorem UOk.occ_sem (h:UOk s σ rk) {v:Str} (hv:image s v = none) {t:Term} (ht:Dw.vfl t = true):Occ s v t ↔ occ v (app σ t) = true:=by
 constructor
 ·intro ho
  induction ho with
  | here h1 h2=>rw [app_var h1,h2,h.free v hv,occ_varT]
  | bound h1 h2 _ ih=>rw [app_var h1,h.fix _ _ h2];exact ih (h.vf _ _ h2)
  | arg h1 h2 _ ih =>
   rw [app_fun h1,occ_fun rfl]
   exact ⟨_,List.mem_map_of_mem h2,ih (vfl_arg ht h2)⟩
 ·have B:∀ t:Term,Dw.vfl t = true→(∀ u,occ u t = true→occ v (σ u) = true→∀ t':Term,t'.var = true→t'.name = u→Occ s v t')→occ v (app σ t) = true→Occ s v t:=by
   intro t
   induction t using term_ind with
   | h t ih =>
   intro ht hu ho
   cases hv:t.var with
   | true =>
    rw [app_var hv] at ho
    exact hu _ (uocc_iff.2 (.inl ⟨hv,rfl⟩)) ho t hv rfl
   | false =>
    rw [app_fun hv,occ_fun rfl] at ho
    obtain ⟨b,hb,ho⟩:=ho
    simp only [Term.args,List.mem_map] at hb
    obtain ⟨a,ha,rfl⟩:=hb
    exact .arg hv ha (ih a ha (vfl_arg ht ha) (fun u h1=>hu u (uocc_iff.2 (.inr ⟨a,ha,h1⟩))) ho)
  have A:∀ u,occ v (σ u) = true→∀ t':Term,t'.var = true→t'.name = u→Occ s v t':=by
   refine h.ind fun u ih=>?_
   intro ho t' h1 h2
   cases hi:image s u with
   | none =>
    rw [h.free u hi,occ_varT] at ho
    exact .here h1 (h2.trans ho)
   | some x =>
    rw [h.fix u x hi] at ho
    exact .bound h1 (h2 ▸ hi) (B x (h.vf u x hi) (fun w hw=>ih x w hi hw) ho)
  exact fun ho=>B t ht (fun u _=>A u) ho
theorem occ_most (rk:Str→Nat) (t:Term):∃ M,∀ w,occ w t = true→rk w≤M:=by
 have key:∀ l:List Str,∃ M,∀ w∈l,rk w≤M:=by
  intro l
  induction l with
  | nil=>exact ⟨0,by simp⟩
  | cons x l ih =>
   obtain ⟨M,hM⟩:=ih
   refine ⟨M+rk x,fun w hw=>?_⟩
   rcases List.mem_cons.1 hw with rfl | hw
   ·omega
   ·have:=hM w hw;omega
 obtain ⟨M,hM⟩:=key (varsT t)
 exact ⟨M,fun w hw=>hM w ((mem_collectT w t []).2 (.inr hw))⟩
theorem UOk.bind (h:UOk s σ rk) {v:Str} (hv:image s v = none) {t:Term} (ht:Dw.vfl t = true) (hn:¬ Occ s v t):∃ σ' rk',UOk (bindT s v t) σ' rk'∧∀ w,σ' w = app σ' (σ w):=by
 have hno:¬ occ v (app σ t) = true:=fun e=>hn ((h.occ_sem hv ht).2 e)
 obtain ⟨M,hM⟩:=occ_most rk t
 let τ:Sub:=fun u=>if u = v then app σ t else varT u
 have hτ:∀ u,u ≠ v→τ u = varT u:=fun u hu=>if_neg hu
 have hτt:app τ (app σ t) = app σ t:=app_id _ (vfl_app t fun w _=>h.vfl w) fun u hu=>hτ u fun e=>hno (e ▸ hu)
 refine ⟨fun w=>app τ (σ w),fun w=>if occ v (σ w) = true then rk w+(M+1) else rk w,⟨bindT_sorted h.srt hv,?_,?_,?_,?_⟩,?_⟩
 ·intro w x hx
  rw [image_bindT hv] at hx
  split at hx
  ·cases hx;exact ht
  ·exact h.vf w x hx
 ·intro w hw
  rw [image_bindT hv] at hw
  split at hw
  ·cases hw
  ·rename_i hne
   show app τ (σ w) = _
   rw [h.free w hw,varT,app_var rfl]
   exact hτ w fun e=>hne e.symm
 ·intro w x hx
  show app τ (σ w) = app (fun w=>app τ (σ w)) x
  rw [← app_app]
  rw [image_bindT hv] at hx
  split at hx
  ·rename_i e
   cases hx
   subst e
   rw [h.free v hv,varT,app_var rfl,hτt]
   exact if_pos rfl
  ·rw [h.fix w x hx]
 ·intro u x hx w hw
  show (if occ v (σ w) = true then _ else _) < (if occ v (σ u) = true then _ else _)
  rw [image_bindT hv] at hx
  split at hx
  ·rename_i e
   cases hx
   subst e
   have h1:=hM w hw
   have h2:¬ occ v (σ w) = true:=fun e=>hno ((occ_app t ht).2 ⟨w,hw,e⟩)
   rw [if_neg h2,h.free v hv,if_pos (occ_varT.2 rfl)]
   omega
  ·have h1:=h.low u x hx w hw
   have h2:occ v (σ w) = true→occ v (σ u) = true:=fun e=>by
    rw [h.fix u x hx]
    exact (occ_app x (h.vf u x hx)).2 ⟨w,hw,e⟩
   by_cases c:occ v (σ w) = true
   ·rw [if_pos c,if_pos (h2 c)];omega
   ·rw [if_neg c];split <;> omega
 ·intro w
  show app τ (σ w) = app (fun w=>app τ (σ w)) (σ w)
  rw [← app_app,h.idem]
end
def headN:Nat→List ABind→Term→Option Term
 | 0,_,_=>none
 | n+1,s,t=>if t.var then (match image s t.name with | some x=>headN n s x | none=>some t) else some t
open Classical in
noncomputable def setU (s:List ABind) (v:Str) (t:Term):List ABind × Bool:=if Occ s v t then (s,false) else (bindT s v t,true)
def solvesW (f:List ABind→Term→Term→Option (List ABind × Bool)):List ABind→List Term→List Term→Option (List ABind × Bool)
 | s,a :: l,b :: m=>match f s a b with
  | none=>none
  | some (s',false)=>some (s',false)
  | some (s',true)=>solvesW f s' l m
 | s,_,_=>some (s,true)
noncomputable def solveN:Nat→List ABind→Term→Term→Option (List ABind × Bool)
 | 0,_,_,_=>none
 | n+1,s,a,b=>match headN (n+1) s a,headN (n+1) s b with
  | some x,some y =>
   if x.var then (if y.var∧x.name = y.name then some (s,true) else some (setU s x.name y))
   else if y.var then some (setU s y.name x)
   else if x.name ≠ y.name ∨ x.args.length ≠ y.args.length then some (s,false)
   else solvesW (solveN n) s x.args y.args
  | _,_=>none
theorem headN_mono {s:List ABind}:∀ {n m:Nat} {t x:Term},headN n s t = some x→n≤m→headN m s t = some x
 | 0,_,_,_,h,_=>by cases h
 | n+1,0,_,_,_,h=>by omega
 | n+1,m+1,t,x,h,hm=>by
  simp only [headN] at h ⊢
  split at h
  ·rename_i hv
   rw [if_pos hv]
   cases hi:image s t.name with
   | none=>rw [hi] at h;exact h
   | some y=>rw [hi] at h;exact headN_mono h (by omega)
  ·rename_i hv
   rw [if_neg hv];exact h
theorem solvesW_mono {f g:List ABind→Term→Term→Option (List ABind × Bool)} (hfg:∀ s a b r,f s a b = some r→g s a b = some r):∀ (l m:List Term) (s:List ABind) (r:List ABind × Bool),solvesW f s l m = some r→solvesW g s l m = some r
 | [],_,s,r,h=>h
 | _ :: _,[],s,r,h=>h
 | a :: l,b :: m,s,r,h=>by
  simp only [solvesW] at h ⊢
  cases hf:f s a b with
  | none=>rw [hf] at h;cases h
  | some p =>
   obtain ⟨s',ok⟩:=p
   rw [hf] at h
   rw [hfg _ _ _ _ hf]
   cases ok with
   | false=>exact h
   | true=>exact solvesW_mono hfg l m s' r h
theorem solveN_mono:∀ (n m:Nat) (s:List ABind) (a b:Term) (r:List ABind × Bool),solveN n s a b = some r→n≤m→solveN m s a b = some r
 | 0,_,_,_,_,_,h,_=>by cases h
 | n+1,0,_,_,_,_,_,h=>by omega
 | n+1,m+1,s,a,b,r,h,hm=>by
  simp only [solveN] at h ⊢
  cases hx:headN (n+1) s a with
  | none=>rw [hx] at h;cases h
  | some x =>
   cases hy:headN (n+1) s b with
   | none=>rw [hx,hy] at h;cases h
   | some y =>
    rw [hx,hy] at h
    rw [headN_mono hx (by omega),headN_mono hy (by omega)]
    simp only at h ⊢
    by_cases c1:x.var = true
    ·rw [if_pos c1] at h ⊢;exact h
    ·rw [if_neg c1] at h ⊢
     by_cases c2:y.var = true
     ·rw [if_pos c2] at h ⊢;exact h
     ·rw [if_neg c2] at h ⊢
      by_cases c3:x.name ≠ y.name ∨ x.args.length ≠ y.args.length
      ·rw [if_pos c3] at h ⊢;exact h
      ·rw [if_neg c3] at h ⊢
       exact solvesW_mono (fun s a b r hr=>solveN_mono n m s a b r hr (by omega)) _ _ _ _ h
theorem solveN_succ {n:Nat} {s:List ABind} {a b:Term} {r:List ABind × Bool} (h:solveN (n+1) s a b = some r):∃ x y,headN (n+1) s a = some x∧headN (n+1) s b = some y ∧
  ((x.var = true∧y.var = true∧x.name = y.name∧r = (s,true)) ∨ (x.var = true∧¬ (y.var = true∧x.name = y.name)∧r = setU s x.name y) ∨ (x.var = false∧y.var = true∧r = setU s y.name x) ∨
   (x.var = false∧y.var = false∧(x.name ≠ y.name ∨ x.args.length ≠ y.args.length)∧r = (s,false)) ∨
   (x.var = false∧y.var = false∧x.name = y.name∧x.args.length = y.args.length∧solvesW (solveN n) s x.args y.args = some r)):=by
 simp only [solveN] at h
 cases hx:headN (n+1) s a with
 | none=>rw [hx] at h;cases h
 | some x =>
  cases hy:headN (n+1) s b with
  | none=>rw [hx,hy] at h;cases h
  | some y =>
   rw [hx,hy] at h
   simp only at h
   refine ⟨x,y,rfl,rfl,?_⟩
   by_cases c1:x.var = true
   ·rw [if_pos c1] at h
    by_cases c2:y.var = true∧x.name = y.name
    ·rw [if_pos c2] at h;cases h;exact .inl ⟨c1,c2.1,c2.2,rfl⟩
    ·rw [if_neg c2] at h;cases h;exact .inr (.inl ⟨c1,c2,rfl⟩)
   ·rw [if_neg c1] at h
    have c1:x.var = false:=by simpa using c1
    by_cases c2:y.var = true
    ·rw [if_pos c2] at h;cases h;exact .inr (.inr (.inl ⟨c1,c2,rfl⟩))
    ·rw [if_neg c2] at h
     have c2:y.var = false:=by simpa using c2
     by_cases c3:x.name ≠ y.name ∨ x.args.length ≠ y.args.length
     ·rw [if_pos c3] at h;cases h;exact .inr (.inr (.inr (.inl ⟨c1,c2,c3,rfl⟩)))
     ·rw [if_neg c3] at h
      simp only [not_or,Classical.not_not] at c3
      exact .inr (.inr (.inr (.inr ⟨c1,c2,c3.1,c3.2,h⟩)))
theorem head_free {s:List ABind}:∀ {n:Nat} {t x:Term},headN n s t = some x→x.var = true→image s x.name = none
 | 0,_,_,h,_=>by cases h
 | n+1,t,x,h,hx=>by
  simp only [headN] at h
  split at h
  ·cases hi:image s t.name with
   | none=>rw [hi] at h;cases h;exact hi
   | some y=>rw [hi] at h;exact head_free h hx
  ·rename_i hv;cases h;exact absurd hx hv
theorem head_sat {θ:Sub} {s:List ABind} (hθ:Sat θ s):∀ {n:Nat} {t x:Term},headN n s t = some x→app θ x = app θ t
 | 0,_,_,h=>by cases h
 | n+1,t,x,h=>by
  simp only [headN] at h
  split at h
  ·rename_i hv
   cases hi:image s t.name with
   | none=>rw [hi] at h;cases h;rfl
   | some y=>rw [hi] at h;rw [head_sat hθ h,app_var hv];exact (hθ _ _ hi).symm
  ·cases h;rfl
theorem head_keep {P:Term→Prop} {s:List ABind} (hs:∀ v t,image s v = some t→P t):∀ {n:Nat} {t x:Term},P t→headN n s t = some x→P x
 | 0,_,_,_,h=>by cases h
 | n+1,t,x,ht,h=>by
  simp only [headN] at h
  split at h
  ·cases hi:image s t.name with
   | none=>rw [hi] at h;cases h;exact ht
   | some y=>rw [hi] at h;exact head_keep hs (hs _ _ hi) h
  ·cases h;exact ht
theorem head_some {s:List ABind} {σ:Sub} {rk:Str→Nat} (h:UOk s σ rk):∀ (n:Nat) (t:Term),(t.var = true→rk t.name < n)→∃ x,headN (n+1) s t = some x
 | n,t,ht=>by
  simp only [headN]
  split
  ·rename_i hv
   cases hi:image s t.name with
   | none=>exact ⟨t,rfl⟩
   | some y =>
    cases n with
    | zero=>exact absurd (ht hv) (by omega)
    | succ n =>
     refine head_some h n y fun hy=>?_
     have:=h.low _ _ hi y.name (uocc_iff.2 (.inl ⟨hy,rfl⟩))
     have:=ht hv
     omega
  ·exact ⟨t,rfl⟩
end Go.Dw
end
section
namespace Go.Dw
theorem image_of_mem {s:List ABind} (hs:Sorted s) {b:ABind} (hb:b∈s):image s b.name = some b.term:=by
 induction s with
 | nil=>cases hb
 | cons c s ih =>
  obtain ⟨h1,h2⟩:=List.pairwise_cons.1 hs
  simp only [image]
  rcases List.mem_cons.1 hb with rfl | hb
  ·rw [if_pos rfl]
  ·rw [if_neg fun e=>by have:=h1 b hb;rw [e] at this;exact slt_irrefl _ this]
   exact ih h2 hb
theorem setU_cases (s:List ABind) (v:Str) (t:Term):(Occ s v t∧setU s v t = (s,false)) ∨ (¬ Occ s v t∧setU s v t = (bindT s v t,true)):=by
 unfold setU
 by_cases h:Occ s v t
 ·exact .inl ⟨h,if_pos h⟩
 ·exact .inr ⟨h,if_neg h⟩
theorem occ_size {s:List ABind} {θ:Sub} {v:Str} (hθ:Sat θ s) {t:Term} (h:Occ s v t):size (θ v)≤size (app θ t)∧(t.var = false→size (θ v) < size (app θ t)):=by
 induction h with
 | here h1 h2=>rw [app_var h1,h2];exact ⟨Nat.le_refl _,fun h=>by rw [h1] at h;cases h⟩
 | bound h1 h2 _ ih=>rw [app_var h1,hθ _ _ h2];exact ⟨ih.1,fun h=>by rw [h1] at h;cases h⟩
 | @arg t a h1 h2 _ ih =>
  have h3:size (app θ t) = 1+sizes (t.args.map (app θ)):=by rw [app_fun h1];rfl
  have h4:=size_mem (List.mem_map_of_mem (f:=app θ) h2)
  have:=ih.1
  omega
theorem Sat.mono {θ:Sub} {s s':List ABind} (h:Sat θ s') (he:ExtB s s'):Sat θ s:=fun v t hi=>h v t (he v t hi)
structure SolOk (s:List ABind) (σ:Sub) (A:Sub→Prop) (r:List ABind × Bool) (σ':Sub) (rk':Str→Nat):Prop where
 ok:UOk r.1 σ' rk'
 ext:ExtB s r.1
 len:r.1 = s ∨ s.length < r.1.length
 comp:∀ w,σ' w = app σ' (σ w)
 eq:r.2 = true→A σ'
 mgu:∀ θ,Sat θ s→A θ→r.2 = true∧Sat θ r.1
theorem comp_app {σ σ':Sub} (h:∀ w,σ' w = app σ' (σ w)) (t:Term):app σ' t = app σ' (app σ t):=by
 rw [app_app];exact app_congr t fun v _=>h v
theorem setU_ok {s:List ABind} {σ:Sub} {rk:Str→Nat} (h:UOk s σ rk) {v:Str} {t:Term} (hv:image s v = none) (ht:vfl t = true) (hne:t.var = true→image s t.name = none∧t.name ≠ v) :
  ∃ σ' rk',SolOk s σ (fun θ=>θ v = app θ t) (setU s v t) σ' rk':=by
 rcases setU_cases s v t with ⟨ho,e⟩ | ⟨ho,e⟩
 ·rw [e]
  refine ⟨σ,rk,h,ExtB.refl s,.inl rfl,fun w=>(h.idem w).symm,(fun e=>by cases e),fun θ hθ he=>?_⟩
  exfalso
  cases hv2:t.var with
  | true =>
   obtain ⟨h1,h2⟩:=hne hv2
   cases ho with
   | here _ h4=>exact h2 h4
   | bound _ h4 _=>rw [h1] at h4;cases h4
   | arg h3 _ _=>rw [hv2] at h3;cases h3
  | false =>
   have:=(occ_size hθ ho).2 hv2
   rw [← he] at this
   omega
 ·rw [e]
  obtain ⟨σ',rk',h1,h2⟩:=h.bind hv ht ho
  refine ⟨σ',rk',h1,ext_bindT hv,.inr (by rw [bindT_len];omega),h2,fun _=>h1.fix v t (by rw [image_bindT hv,if_pos rfl]),fun θ hθ he=>⟨rfl,fun w x hx=>?_⟩⟩
  rw [image_bindT hv] at hx
  split at hx
  ·rename_i e;cases hx;subst e;exact he
  ·exact hθ w x hx
theorem solvesW_ok {n:Nat} (ih:∀ (s:List ABind) (σ:Sub) (rk:Str→Nat) (a b:Term) (r:List ABind × Bool),UOk s σ rk→vfl a = true→vfl b = true→solveN n s a b = some r→∃ σ' rk',SolOk s σ (fun θ=>app θ a = app θ b) r σ' rk') :
  ∀ (l m:List Term) (s:List ABind) (σ:Sub) (rk:Str→Nat) (r:List ABind × Bool),UOk s σ rk→(∀ a∈l,vfl a = true)→(∀ b∈m,vfl b = true)→l.length = m.length→solvesW (solveN n) s l m = some r→∃ σ' rk',SolOk s σ (fun θ=>l.map (app θ) = m.map (app θ)) r σ' rk'
 | [],[],s,σ,rk,r,h,_,_,_,hr=>by
  simp only [solvesW,Option.some.injEq] at hr
  subst hr
  exact ⟨σ,rk,h,ExtB.refl s,.inl rfl,fun w=>(h.idem w).symm,fun _=>rfl,fun θ hθ _=>⟨rfl,hθ⟩⟩
 | a :: l,b :: m,s,σ,rk,r,h,hl,hm,hlen,hr=>by
  simp only [solvesW] at hr
  cases hf:solveN n s a b with
  | none=>rw [hf] at hr;cases hr
  | some p =>
   obtain ⟨s1,ok⟩:=p
   rw [hf] at hr
   obtain ⟨σ1,rk1,h1⟩:=ih s σ rk a b _ h (hl a (by simp)) (hm b (by simp)) hf
   cases ok with
   | false =>
    simp only [Option.some.injEq] at hr
    subst hr
    refine ⟨σ1,rk1,h1.ok,h1.ext,h1.len,h1.comp,(fun e=>by cases e),fun θ hθ he=>?_⟩
    simp only [List.map_cons,List.cons.injEq] at he
    have:=(h1.mgu θ hθ he.1).1
    cases this
   | true =>
    simp only at hr
    obtain ⟨σ2,rk2,h2⟩:=solvesW_ok ih l m s1 σ1 rk1 r h1.ok (fun x hx=>hl x (by simp [hx])) (fun x hx=>hm x (by simp [hx])) (by simpa using hlen) hr
    refine ⟨σ2,rk2,h2.ok,h1.ext.trans h2.ext,?_,fun w=>?_,fun e=>?_,fun θ hθ he=>?_⟩
    ·rcases h1.len with e1 | e1 <;> rcases h2.len with e2 | e2
     ·exact .inl (e2.trans e1)
     ·right;rw [← e1];exact e2
     ·right;rw [e2];exact e1
     ·right;simp only at e1;omega
    ·rw [h2.comp w,h1.comp w,← comp_app h2.comp]
    ·have h3:app σ1 a = app σ1 b:=h1.eq rfl
     simp only [List.map_cons]
     rw [comp_app h2.comp a,comp_app h2.comp b,h3,h2.eq e]
    ·simp only [List.map_cons,List.cons.injEq] at he
     have h3:=h1.mgu θ hθ he.1
     exact h2.mgu θ h3.2 he.2
 | [],_ :: _,_,_,_,_,_,_,_,hlen,_=>by simp at hlen
 | _ :: _,[],_,_,_,_,_,_,_,hlen,_=>by simp at hlen
theorem solveN_ok:∀ (n:Nat) (s:List ABind) (σ:Sub) (rk:Str→Nat) (a b:Term) (r:List ABind × Bool),UOk s σ rk→vfl a = true→vfl b = true→solveN n s a b = some r→∃ σ' rk',SolOk s σ (fun θ=>app θ a = app θ b) r σ' rk'
 | 0,_,_,_,_,_,_,_,_,_,h=>by cases h
 | n+1,s,σ,rk,a,b,r,h,ha,hb,hr=>by
  obtain ⟨x,y,hx,hy,hc⟩:=solveN_succ hr
  have hxa:=fun θ (hθ:Sat θ s)=>head_sat hθ hx
  have hyb:=fun θ (hθ:Sat θ s)=>head_sat hθ hy
  have hvx:vfl x = true:=head_keep (P:=fun t=>vfl t = true) h.vf ha hx
  have hvy:vfl y = true:=head_keep (P:=fun t=>vfl t = true) h.vf hb hy
  rcases hc with ⟨c1,c2,c3,rfl⟩ | ⟨c1,c2,rfl⟩ | ⟨c1,c2,rfl⟩ | ⟨c1,c2,c3,rfl⟩ | ⟨c1,c2,c3,c4,c5⟩
  ·refine ⟨σ,rk,h,ExtB.refl s,.inl rfl,fun w=>(h.idem w).symm,fun _=>?_,fun θ hθ _=>⟨rfl,hθ⟩⟩
   rw [← hxa σ h.sat,← hyb σ h.sat,app_var c1,app_var c2,c3]
  ·obtain ⟨σ',rk',k⟩:=setU_ok h (head_free hx c1) hvy (fun e=>⟨head_free hy e,fun e2=>c2 ⟨e,e2.symm⟩⟩)
   refine ⟨σ',rk',k.ok,k.ext,k.len,k.comp,fun e=>?_,fun θ hθ he=>k.mgu θ hθ ?_⟩
   ·have hs:=k.ok.sat.mono k.ext
    rw [← hxa σ' hs,← hyb σ' hs,app_var c1];exact k.eq e
   ·rw [← app_var (f:=θ) c1,hxa θ hθ,hyb θ hθ];exact he
  ·obtain ⟨σ',rk',k⟩:=setU_ok h (v:=y.name) (t:=x) (head_free hy c2) hvx (fun e=>by rw [c1] at e;cases e)
   refine ⟨σ',rk',k.ok,k.ext,k.len,k.comp,fun e=>?_,fun θ hθ he=>k.mgu θ hθ ?_⟩
   ·have hs:=k.ok.sat.mono k.ext
    rw [← hxa σ' hs,← hyb σ' hs,app_var c2];exact (k.eq e).symm
   ·rw [← app_var (f:=θ) c2,hxa θ hθ,hyb θ hθ];exact he.symm
  ·refine ⟨σ,rk,h,ExtB.refl s,.inl rfl,fun w=>(h.idem w).symm,(fun e=>by cases e),fun θ hθ he=>?_⟩
   exfalso
   rw [← hxa θ hθ,← hyb θ hθ,app_fun c1,app_fun c2] at he
   injection he with e1 _ e3
   rcases c3 with c3 | c3
   ·exact c3 e1
   ·have:=congrArg List.length e3
    simp only [List.length_map] at this
    exact c3 this
  ·obtain ⟨σ',rk',k⟩:=solvesW_ok (solveN_ok n) x.args y.args s σ rk r h (fun z hz=>vfl_arg hvx hz) (fun z hz=>vfl_arg hvy hz) c4 c5
   refine ⟨σ',rk',k.ok,k.ext,k.len,k.comp,fun e=>?_,fun θ hθ he=>k.mgu θ hθ ?_⟩
   ·have hs:=k.ok.sat.mono k.ext
    rw [← hxa σ' hs,← hyb σ' hs,app_fun c1,app_fun c2,c3,k.eq e]
   ·rw [← hxa θ hθ,← hyb θ hθ,app_fun c1,app_fun c2] at he
    injection he
theorem setU_keep {P:Term→Prop} {Q:Str→Prop} {s:List ABind} {v:Str} {t:Term} (hs:∀ v t,image s v = some t→P t∧Q v) (hv:image s v = none) (ht:P t) (hq:Q v):∀ w x,image (setU s v t).1 w = some x→P x∧Q w:=by
 rcases setU_cases s v t with ⟨_,e⟩ | ⟨_,e⟩
 ·rw [e];exact hs
 ·rw [e]
  intro w x hx
  rw [image_bindT hv] at hx
  split at hx
  ·rename_i e;cases hx;subst e;exact ⟨ht,hq⟩
  ·exact hs w x hx
theorem solveN_keep {P:Term→Prop} {Q:Str→Prop} (hP:∀ t a,P t→a∈t.args→P a) (hQ:∀ t,P t→t.var = true→Q t.name):∀ (n:Nat) (s:List ABind) (a b:Term) (r:List ABind × Bool),(∀ v t,image s v = some t→P t∧Q v)→P a→P b→solveN n s a b = some r→∀ v t,image r.1 v = some t→P t∧Q v
 | 0,_,_,_,_,_,_,_,h=>by cases h
 | n+1,s,a,b,r,hs,ha,hb,hr=>by
  obtain ⟨x,y,hx,hy,hc⟩:=solveN_succ hr
  have hvx:P x:=head_keep (fun v t h=>(hs v t h).1) ha hx
  have hvy:P y:=head_keep (fun v t h=>(hs v t h).1) hb hy
  rcases hc with ⟨c1,c2,c3,rfl⟩ | ⟨c1,c2,rfl⟩ | ⟨c1,c2,rfl⟩ | ⟨c1,c2,c3,rfl⟩ | ⟨c1,c2,c3,c4,c5⟩
  ·exact hs
  ·exact setU_keep hs (head_free hx c1) hvy (hQ x hvx c1)
  ·exact setU_keep hs (head_free hy c2) hvx (hQ y hvy c2)
  ·exact hs
  ·have key:∀ (l m:List Term) (s:List ABind),(∀ a∈l,P a)→(∀ b∈m,P b)→(∀ v t,image s v = some t→P t∧Q v)→solvesW (solveN n) s l m = some r→∀ v t,image r.1 v = some t→P t∧Q v:=by
    intro l
    induction l with
    | nil=>intro m s _ _ hs h;simp only [solvesW,Option.some.injEq] at h;subst h;exact hs
    | cons a l ihl =>
     intro m s hl hm hs h
     cases m with
     | nil=>simp only [solvesW,Option.some.injEq] at h;subst h;exact hs
     | cons b m =>
      simp only [solvesW] at h
      cases hf:solveN n s a b with
      | none=>rw [hf] at h;cases h
      | some p =>
       obtain ⟨s1,ok⟩:=p
       rw [hf] at h
       have h1:=solveN_keep hP hQ n s a b _ hs (hl a (by simp)) (hm b (by simp)) hf
       cases ok with
       | false=>simp only [Option.some.injEq] at h;subst h;exact h1
       | true=>exact ihl m s1 (fun x hx=>hl x (by simp [hx])) (fun x hx=>hm x (by simp [hx])) h1 h
   exact key x.args y.args s (fun z hz=>hP x z hvx hz) (fun z hz=>hP y z hvy hz) hs c5
theorem few_names:∀ (s:List ABind) (Vs:List Str),Sorted s→(∀ b∈s,b.name∈Vs)→s.length≤Vs.length
 | [],_,_,_=>by simp
 | b :: s,Vs,hs,h=>by
  obtain ⟨h1,h2⟩:=List.pairwise_cons.1 hs
  have hb:=h b (by simp)
  have:=few_names s (Vs.erase b.name) h2 fun c hc=>(List.mem_erase_of_ne (fun e=>by have:=h1 c hc;rw [e] at this;exact slt_irrefl _ this)).2 (h c (by simp [hc]))
  rw [List.length_erase_of_mem hb] at this
  have:=List.length_pos_of_mem hb
  simp only [List.length_cons];omega
def Among (Vs:List Str) (t:Term):Prop:=vfl t = true∧∀ w,occ w t = true→w∈Vs
theorem Among.arg {Vs:List Str} {t a:Term} (h:Among Vs t) (ha:a∈t.args):Among Vs a:=⟨vfl_arg h.1 ha,fun w hw=>h.2 w (uocc_iff.2 (.inr ⟨a,ha,hw⟩))⟩
theorem among_names {Vs:List Str} {s:List ABind} (hs:Sorted s) (h:∀ v t,image s v = some t→Among Vs t∧v∈Vs):s.length≤Vs.length:=few_names s Vs hs fun b hb=>(h _ _ (image_of_mem hs hb)).2
theorem among_keep {Vs:List Str} {n:Nat} {s:List ABind} {a b:Term} {r:List ABind × Bool} (hs:∀ v t,image s v = some t→Among Vs t∧v∈Vs) (ha:Among Vs a) (hb:Among Vs b) (hr:solveN n s a b = some r):∀ v t,image r.1 v = some t→Among Vs t∧v∈Vs :=
 solveN_keep (P:=Among Vs) (Q:=fun v=>v∈Vs) (fun t a h ha=>h.arg ha) (fun t h hv=>h.2 _ (uocc_iff.2 (.inl ⟨hv,rfl⟩))) n s a b r hs ha hb hr
theorem solveN_ends (Vs:List Str):∀ (k m:Nat) (s:List ABind) (σ:Sub) (rk:Str→Nat) (a b:Term),UOk s σ rk→(∀ v t,image s v = some t→Among Vs t∧v∈Vs)→Among Vs a→Among Vs b→Vs.length - s.length = k→size (app σ a) = m→∃ n r,solveN n s a b = some r:=by
 intro k
 induction k using Nat.strongRecOn with
 | ind k ihk =>
 intro m
 induction m using Nat.strongRecOn with
 | ind m ihm =>
 intro s σ rk a b h hs ha hb hk hm
 obtain ⟨x,hx⟩:=head_some h (rk a.name+rk b.name+1) a (fun _=>by omega)
 obtain ⟨y,hy⟩:=head_some h (rk a.name+rk b.name+1) b (fun _=>by omega)
 generalize hN:rk a.name+rk b.name+1 = N at hx hy
 by_cases c1:x.var = true
 ·by_cases c2:y.var = true∧x.name = y.name
  ·exact ⟨N+1,_,by simp only [solveN,hx,hy];rw [if_pos c1,if_pos c2]⟩
  ·exact ⟨N+1,_,by simp only [solveN,hx,hy];rw [if_pos c1,if_neg c2]⟩
 ·by_cases c2:y.var = true
  ·exact ⟨N+1,_,by simp only [solveN,hx,hy];rw [if_neg c1,if_pos c2]⟩
  ·by_cases c3:x.name ≠ y.name ∨ x.args.length ≠ y.args.length
   ·exact ⟨N+1,_,by simp only [solveN,hx,hy];rw [if_neg c1,if_neg c2,if_pos c3]⟩
   ·have hxv:x.var = false:=by simpa using c1
    have hax:Among Vs x:=head_keep (P:=Among Vs) (fun v t h=>(hs v t h).1) ha hx
    have hay:Among Vs y:=head_keep (P:=Among Vs) (fun v t h=>(hs v t h).1) hb hy
    have hsz:1+sizes (x.args.map (app σ)) = m:=by
     rw [← hm,← head_sat h.sat hx,app_fun hxv];rfl
    have key:∀ (l m':List Term) (s1:List ABind) (σ1:Sub) (rk1:Str→Nat),UOk s1 σ1 rk1→(∀ v t,image s1 v = some t→Among Vs t∧v∈Vs)→(∀ z∈l,z∈x.args)→(∀ z∈m',Among Vs z)→(s1 = s ∨ s.length < s1.length)→∃ n r,solvesW (solveN n) s1 l m' = some r:=by
     intro l
     induction l with
     | nil=>intro m' s1 _ _ _ _ _ _ _;exact ⟨0,(s1,true),by simp only [solvesW]⟩
     | cons a' l ihl =>
      intro m' s1 σ1 rk1 h1 hs1 hl hm' hlen
      cases m' with
      | nil=>exact ⟨0,(s1,true),by simp only [solvesW]⟩
      | cons b' m' =>
       have haa:Among Vs a':=hax.arg (hl a' (by simp))
       have hbb:Among Vs b':=hm' b' (by simp)
       have hone:∃ n r,solveN n s1 a' b' = some r:=by
        rcases hlen with e | e
        ·subst e
         have e:=h.uniq h1
         subst e
         have h3:=size_mem (List.mem_map_of_mem (f:=app σ) (hl a' (by simp)))
         exact ihm (size (app σ a')) (by omega) s1 σ rk a' b' h hs1 haa hbb hk rfl
        ·have h3:=among_names h1.srt hs1
         exact ihk (Vs.length - s1.length) (by omega) _ s1 σ1 rk1 a' b' h1 hs1 haa hbb rfl rfl
       obtain ⟨n1,⟨s2,ok⟩,hr1⟩:=hone
       cases ok with
       | false=>exact ⟨n1,(s2,false),by simp only [solvesW,hr1]⟩
       | true =>
        obtain ⟨σ2,rk2,h2⟩:=solveN_ok n1 s1 σ1 rk1 a' b' _ h1 haa.1 hbb.1 hr1
        obtain ⟨n2,r2,hr2⟩:=ihl m' s2 σ2 rk2 h2.ok (among_keep hs1 haa hbb hr1) (fun z hz=>hl z (by simp [hz])) (fun z hz=>hm' z (by simp [hz])) (by
         have h5:=h2.len
         simp only at h5
         rcases h5 with e | e
         ·rw [e];exact hlen
         ·rcases hlen with e2 | e2
          ·rw [e2] at e;exact .inr e
          ·exact .inr (by omega))
        refine ⟨n1+n2,r2,?_⟩
        simp only [solvesW]
        rw [solveN_mono n1 (n1+n2) _ _ _ _ hr1 (by omega)]
        exact solvesW_mono (fun s a b r hr=>solveN_mono n2 (n1+n2) s a b r hr (by omega)) _ _ _ _ hr2
    obtain ⟨n,r,hr⟩:=key x.args y.args s σ rk h hs (fun z hz=>hz) (fun z hz=>hay.arg hz) (.inl rfl)
    refine ⟨N+n+1,r,?_⟩
    simp only [solveN]
    rw [headN_mono hx (by omega),headN_mono hy (by omega)]
    simp only
    rw [if_neg c1,if_neg c2,if_neg c3]
    exact solvesW_mono (fun s a b r hr=>solveN_mono n (N+n) s a b r hr (by omega)) _ _ _ _ hr
theorem solvesW_ends (Vs:List Str):∀ (l m:List Term) (s:List ABind) (σ:Sub) (rk:Str→Nat),UOk s σ rk→(∀ v t,image s v = some t→Among Vs t∧v∈Vs)→(∀ z∈l,Among Vs z)→(∀ z∈m,Among Vs z)→∃ n r,solvesW (solveN n) s l m = some r
 | [],_,s,_,_,_,_,_,_=>⟨0,(s,true),by simp only [solvesW]⟩
 | _ :: _,[],s,_,_,_,_,_,_=>⟨0,(s,true),by simp only [solvesW]⟩
 | a :: l,b :: m,s,σ,rk,h,hs,hl,hm=>by
  have haa:=hl a (by simp)
  have hbb:=hm b (by simp)
  obtain ⟨n1,⟨s2,ok⟩,hr1⟩:=solveN_ends Vs _ _ s σ rk a b h hs haa hbb rfl rfl
  cases ok with
  | false=>exact ⟨n1,(s2,false),by simp only [solvesW,hr1]⟩
  | true =>
   obtain ⟨σ2,rk2,h2⟩:=solveN_ok n1 s σ rk a b _ h haa.1 hbb.1 hr1
   obtain ⟨n2,r2,hr2⟩:=solvesW_ends Vs l m s2 σ2 rk2 h2.ok (among_keep hs haa hbb hr1) (fun z hz=>hl z (by simp [hz])) (fun z hz=>hm z (by simp [hz]))
   refine ⟨n1+n2,r2,?_⟩
   simp only [solvesW]
   rw [solveN_mono n1 (n1+n2) _ _ _ _ hr1 (by omega)]
   exact solvesW_mono (fun s a b r hr=>solveN_mono n2 (n1+n2) s a b r hr (by omega)) _ _ _ _ hr2
theorem solvesW_det {n m:Nat} {s:List ABind} {l k:List Term} {r q:List ABind × Bool} (h:solvesW (solveN n) s l k = some r) (h2:solvesW (solveN m) s l k = some q):r = q:=by
 have e1:=solvesW_mono (g:=solveN (n+m)) (fun s a b r hr=>solveN_mono n (n+m) s a b r hr (by omega)) _ _ _ _ h
 have e2:=solvesW_mono (g:=solveN (n+m)) (fun s a b r hr=>solveN_mono m (n+m) s a b r hr (by omega)) _ _ _ _ h2
 rw [e1] at e2;exact Option.some.inj e2
open Classical in
noncomputable def solveS (l m:List Term):List ABind × Bool:=if h:∃ r,∃ n,solvesW (solveN n) [] l m = some r then h.choose else ([],false)
theorem solveS_eq {n:Nat} {l m:List Term} {r:List ABind × Bool} (h:solvesW (solveN n) [] l m = some r):solveS l m = r:=by
 unfold solveS
 have he:∃ r,∃ n,solvesW (solveN n) [] l m = some r:=⟨r,n,h⟩
 rw [dif_pos he]
 obtain ⟨k,hk⟩:=he.choose_spec
 exact solvesW_det hk h
open Classical in
noncomputable def sigma (s:List ABind):Sub:=if h:∃ σ,∃ rk,UOk s σ rk then h.choose else varT
theorem sigma_eq {s:List ABind} {σ:Sub} {rk:Str→Nat} (h:UOk s σ rk):sigma s = σ:=by
 unfold sigma
 have he:∃ σ,∃ rk,UOk s σ rk:=⟨σ,rk,h⟩
 rw [dif_pos he]
 obtain ⟨rk',h'⟩:=he.choose_spec
 exact h'.uniq h
noncomputable def wholeS (s:List ABind):List ABind:=s.map fun b=>⟨b.name,sigma s b.name⟩
noncomputable def hugeS (s:List ABind):Bool:=s.any fun b=>!fits (sigma s b.name)
noncomputable def unifE (l m:List Term):List ABind × Bool × Int :=
 if (solveS l m).2 = false then ([],false,0) else if hugeS (solveS l m).1 then ([],false,3) else (wholeS (solveS l m).1,true,0)
theorem solveS_ok {Vs:List Str} {l m:List Term} (hl:∀ z∈l,Among Vs z) (hm:∀ z∈m,Among Vs z) (hlen:l.length = m.length):∃ rk,UOk (solveS l m).1 (sigma (solveS l m).1) rk∧(∀ v t,image (solveS l m).1 v = some t→Among Vs t∧v∈Vs) ∧
  ((solveS l m).2 = true→l.map (app (sigma (solveS l m).1)) = m.map (app (sigma (solveS l m).1)))∧∀ θ:Sub,l.map (app θ) = m.map (app θ)→(solveS l m).2 = true∧Sat θ (solveS l m).1:=by
 have hnil:∀ v t,image [] v = some t→Among Vs t∧v∈Vs:=fun v t h=>by cases h
 obtain ⟨n,r,hr⟩:=solvesW_ends Vs l m [] varT (fun _=>0) UOk.nil hnil hl hm
 rw [solveS_eq hr]
 obtain ⟨σ,rk,h⟩:=solvesW_ok (solveN_ok n) l m [] varT (fun _=>0) r UOk.nil (fun z hz=>(hl z hz).1) (fun z hz=>(hm z hz).1) hlen hr
 rw [sigma_eq h.ok]
 refine ⟨rk,h.ok,?_,h.eq,fun θ hθ=>h.mgu θ (fun v t h=>by cases h) hθ⟩
 clear h
 revert hr
 have key:∀ (l m:List Term) (s:List ABind),(∀ z∈l,Among Vs z)→(∀ z∈m,Among Vs z)→(∀ v t,image s v = some t→Among Vs t∧v∈Vs)→solvesW (solveN n) s l m = some r→∀ v t,image r.1 v = some t→Among Vs t∧v∈Vs:=by
  intro l
  induction l with
  | nil=>intro m s _ _ hs h;simp only [solvesW,Option.some.injEq] at h;subst h;exact hs
  | cons a l ihl =>
   intro m s hl hm hs h
   cases m with
   | nil=>simp only [solvesW,Option.some.injEq] at h;subst h;exact hs
   | cons b m =>
    simp only [solvesW] at h
    cases hf:solveN n s a b with
    | none=>rw [hf] at h;cases h
    | some p =>
     obtain ⟨s1,ok⟩:=p
     rw [hf] at h
     have h1:=among_keep hs (hl a (by simp)) (hm b (by simp)) hf
     cases ok with
     | false=>simp only [Option.some.injEq] at h;subst h;exact h1
     | true=>exact ihl m s1 (fun x hx=>hl x (by simp [hx])) (fun x hx=>hm x (by simp [hx])) h1 h
 exact key l m [] hl hm hnil
end Go.Dw
end
section
namespace Go.Dw
theorem seen_full {n:Nat} {seen:List Nat} {k:Nat} (hm:n≤seen.length) (hnd:seen.Nodup) (hlt:∀ i∈seen,i < n) (hk:k ∉ seen) (hkn:k < n):False:=by
 have h1:(seen++[k]).Nodup:=by simp [List.nodup_append,hnd];intro a ha e;exact hk (e ▸ ha)
 have h2:(seen++[k]).length≤(List.range n).length:=List.Nodup.length_le_of_subset h1 (by
  intro i hi
  rw [List.mem_range]
  rcases List.mem_append.1 hi with h | h
  ·exact hlt i h
  ·simp only [List.mem_singleton] at h;subst h;exact hkn)
 simp at h2;omega
theorem range_up (n:Nat) (R:List Nat→Prop) (h:∀ seen,seen.Nodup→(∀ i∈seen,i < n)→seen.length≤n→(∀ k,k < n→k ∉ seen→R (seen++[k]))→R seen):R []:=by
 have key:∀ (f:Nat) (seen:List Nat),n - seen.length < f→seen.Nodup→(∀ i∈seen,i < n)→R seen:=by
  intro f
  induction f with
  | zero=>intro seen hf;omega
  | succ f ih =>
   intro seen hf hnd hlt
   have hl:seen.length≤n:=by simpa using List.Nodup.length_le_of_subset hnd (l₂:=List.range n) fun i hi=>List.mem_range.2 (hlt i hi)
   refine h seen hnd hlt hl fun k hkn hk=>?_
   have hlen:seen.length < n:=by
    rcases Nat.lt_or_ge seen.length n with h | h
    ·exact h
    ·exact (seen_full h hnd hlt hk hkn).elim
   refine ih (seen++[k]) (by simp;omega) (by simp [List.nodup_append,hnd];intro a ha e;exact hk (e ▸ ha)) fun i hi=>?_
   rcases List.mem_append.1 hi with h | h
   ·exact hlt i h
   ·simp only [List.mem_singleton] at h;subst h;exact hkn
 exact key (n+1) [] (by simp) List.nodup_nil (by simp)
end Go.Dw
end
section
namespace Go.Dw
section
variable {κ α:Type} [DecidableEq κ]
def getK:List (κ × α)→κ→Option α
 | [],_=>none
 | p :: m,k=>if p.1 = k then some p.2 else getK m k
def setK:List (κ × α)→κ→α→List (κ × α)
 | [],k,x=>[(k,x)]
 | p :: m,k,x=>if p.1 = k then (k,x) :: m else p :: setK m k x
theorem getK_setK (m:List (κ × α)) (k j:κ) (x:α):getK (setK m k x) j = if k = j then some x else getK m j:=by
 induction m with
 | nil=>simp only [setK,getK]
 | cons p m ih =>
  simp only [setK]
  split
  ·rename_i h
   simp only [getK,h]
   split <;> rfl
  ·rename_i h
   simp only [getK,ih]
   by_cases h2:p.1 = j
   ·rw [if_pos h2,if_neg (fun e=>h (h2.trans e.symm)),if_pos h2]
   ·rw [if_neg h2,if_neg h2]
theorem getK_mem {m:List (κ × α)} {k:κ} {x:α} (h:getK m k = some x):(k,x)∈m:=by
 induction m with
 | nil=>cases h
 | cons p m ih =>
  simp only [getK] at h
  split at h
  ·rename_i e;cases h;subst e;exact List.mem_cons_self
  ·exact List.mem_cons_of_mem _ (ih h)
def Keys (m:List (κ × α)):Prop:=(m.map (·.1)).Nodup
theorem keys_setK {m:List (κ × α)} (h:Keys m) (k:κ) (x:α):Keys (setK m k x):=by
 have hm:∀ (m:List (κ × α)) (j:κ),j∈(setK m k x).map (·.1)→j = k ∨ j∈m.map (·.1):=by
  intro m
  induction m with
  | nil=>intro j hj;simp [setK] at hj;exact .inl hj
  | cons p m ih =>
   intro j hj
   simp only [setK] at hj
   split at hj
   ·simp only [List.map_cons,List.mem_cons] at hj ⊢
    rcases hj with h | h
    ·exact .inl h
    ·exact .inr (.inr h)
   ·simp only [List.map_cons,List.mem_cons] at hj ⊢
    rcases hj with h | h
    ·exact .inr (.inl h)
    ·rcases ih j h with h | h
     ·exact .inl h
     ·exact .inr (.inr h)
 unfold Keys at h ⊢
 induction m with
 | nil=>simp [setK]
 | cons p m ih =>
  simp only [List.map_cons,List.nodup_cons] at h
  simp only [setK]
  split
  ·rename_i e
   simp only [List.map_cons,List.nodup_cons]
   subst e;exact h
  ·rename_i e
   simp only [List.map_cons,List.nodup_cons]
   refine ⟨fun hc=>?_,ih h.2⟩
   rcases hm m _ hc with h2 | h2
   ·exact e h2
   ·exact h.1 h2
theorem getK_of_mem {m:List (κ × α)} (h:Keys m) {k:κ} {x:α} (hm:(k,x)∈m):getK m k = some x:=by
 unfold Keys at h
 induction m with
 | nil=>cases hm
 | cons p m ih =>
  simp only [List.map_cons,List.nodup_cons] at h
  simp only [getK]
  rcases List.mem_cons.1 hm with e | hm
  ·subst e;rw [if_pos rfl]
  ·rw [if_neg (fun e=>h.1 (by rw [e];exact List.mem_map_of_mem (f:=(·.1)) hm))]
   exact ih h.2 hm
end
section
variable {α:Type}
def encS (f:α→V) (m:List (Str × α)):List (V × V):=m.map fun p=>(.str p.1,f p.2)
theorem encS_len (f:α→V) (m:List (Str × α)):(encS f m).length = m.length:=by simp [encS]
theorem findM_encS (f:α→V) (k:Str):∀ (m:List (Str × α)) (i:Nat),(getK m k = none∧findM (.str k) (encS f m) i = some none) ∨ ∃ x j,getK m k = some x∧findM (.str k) (encS f m) i = some (some (i+j,f x))∧∀ y,(encS f m).set j (.str k,f y) = encS f (setK m k y)
 | [],i=>.inl ⟨rfl,rfl⟩
 | p :: m,i=>by
  by_cases h:p.1 = k
  ·refine .inr ⟨p.2,0,?_,?_,fun y=>?_⟩
   ·simp [getK,h]
   ·simp [encS,findM,sameK,h]
   ·simp [encS,setK,h]
  ·have h':k ≠ p.1:=fun e=>h e.symm
   have hb:(k == p.1) = false:=by simpa using h'
   have e:∀ (i:Nat) ,findM (.str k) (encS f (p :: m)) i = findM (.str k) (encS f m) (i+1):=fun i=>by simp [encS,findM,sameK,hb]
   have eg:getK (p :: m) k = getK m k:=by simp only [getK];rw [if_neg h]
   rw [eg,e]
   rcases findM_encS f k m (i+1) with h1 | ⟨x,j,h1,h2,h3⟩
   ·exact .inl h1
   ·refine .inr ⟨x,j+1,h1,by rw [h2];congr 3;omega,fun y=>?_⟩
    have:=h3 y
    simp only [encS,setK,if_neg h,List.map_cons,List.set_cons_succ] at this ⊢
    rw [this]
theorem look_encS (f:α→V) (m:List (Str × α)) (k:Str) (ok:Bool) (z:V) {H:List Ob} {i:Nat} (hi:H[i]? = some (.map (encS f m))):lookV H true ok z (.map i) (.str k) = some (if ok then .tup [((getK m k).map f).getD z,.bool (getK m k).isSome] else ((getK m k).map f).getD z):=by
 have he:entsV H (.map i) = some (encS f m):=by simp [entsV,hi]
 unfold lookV
 rw [he]
 rcases findM_encS f k m 0 with ⟨h1,h2⟩ | ⟨x,j,h1,h2,_⟩
 ·simp [ksB,h1,h2,foundX]
 ·simp [ksB,h1,h2,foundX]
theorem setK_new {κ:Type} [DecidableEq κ] {m:List (κ × α)} {k:κ} (h:getK m k = none) (x:α):setK m k x = m++[(k,x)]:=by
 induction m with
 | nil=>rfl
 | cons p m ih =>
  simp only [getK] at h
  split at h
  ·cases h
  ·rename_i e
   simp only [setK,if_neg e,List.cons_append,ih h]
theorem upd_encS (f:α→V) (m:List (Str × α)) (k:Str) (x:α):updM (.str k) (f x) (encS f m) = some (encS f (setK m k x)):=by
 unfold updM
 rcases findM_encS f k m 0 with ⟨h1,h2⟩ | ⟨y,j,h1,h2,h3⟩
 ·rw [h2,setK_new h1];simp [encS]
 ·rw [h2]
  simp only [Nat.zero_add]
  rw [h3]
theorem ren_encS {σ:Nat→Option Nat} {f:α→V} (hf:∀ x,ren σ (f x) = f x) (m:List (Str × α)):((encS f m).map fun p=>(ren σ p.1,ren σ p.2)) = encS f m:=by
 unfold encS
 rw [List.map_map]
 refine List.map_congr_left fun p _=>?_
 show (ren σ (V.str p.1),ren σ (f p.2)) = _
 rw [hf];rfl
abbrev Key:=Str × Str
def encK (k:Key):V:=.agg [.str k.1,.str k.2]
def encQ (f:α→V) (m:List (Key × α)):List (V × V):=m.map fun p=>(encK p.1,f p.2)
theorem sameQ_encK (a b:Key):sameQ (encK a) (encK b) = some (decide (a = b)):=by
 obtain ⟨a1,a2⟩:=a
 obtain ⟨b1,b2⟩:=b
 by_cases h1:a1 = b1
 ·by_cases h2:a2 = b2
  ·subst h1;subst h2
   simp [sameQ,encK,sameC,sameK]
  ·have:(a2 == b2) = false:=by simpa using h2
   subst h1
   simp [sameQ,encK,sameC,sameK,this,h2]
 ·have:(a1 == b1) = false:=by simpa using h1
  simp [sameQ,encK,sameC,sameK,this,h1]
theorem findQ_encQ (f:α→V) (k:Key):∀ (m:List (Key × α)) (i:Nat),(getK m k = none∧findQ (encK k) (encQ f m) i = some none) ∨ ∃ x j,getK m k = some x∧findQ (encK k) (encQ f m) i = some (some (i+j,f x))∧∀ y,(encQ f m).set j (encK k,f y) = encQ f (setK m k y)
 | [],i=>.inl ⟨rfl,rfl⟩
 | p :: m,i=>by
  by_cases h:p.1 = k
  ·refine .inr ⟨p.2,0,?_,?_,fun y=>?_⟩
   ·simp [getK,h]
   ·simp only [encQ,List.map_cons,findQ,sameQ_encK,h,decide_true];rfl
   ·simp [encQ,setK,h]
  ·have h':k ≠ p.1:=fun e=>h e.symm
   have e:∀ (i:Nat) ,findQ (encK k) (encQ f (p :: m)) i = findQ (encK k) (encQ f m) (i+1):=fun i=>by simp only [encQ,List.map_cons,findQ,sameQ_encK,h',decide_false]
   have eg:getK (p :: m) k = getK m k:=by simp only [getK];rw [if_neg h]
   rw [eg,e]
   rcases findQ_encQ f k m (i+1) with h1 | ⟨x,j,h1,h2,h3⟩
   ·exact .inl h1
   ·refine .inr ⟨x,j+1,h1,by rw [h2];congr 3;omega,fun y=>?_⟩
    have:=h3 y
    simp only [encQ,setK,if_neg h,List.map_cons,List.set_cons_succ] at this ⊢
    rw [this]
theorem look_encQ (f:α→V) (m:List (Key × α)) (k:Key) (ok:Bool) (z:V) {H:List Ob} {i:Nat} (hi:H[i]? = some (.map (encQ f m))):lookQ H [true,true] ok z (.map i) (encK k) = some (if ok then .tup [((getK m k).map f).getD z,.bool (getK m k).isSome] else ((getK m k).map f).getD z):=by
 have he:entsV H (.map i) = some (encQ f m):=by simp [entsV,hi]
 have hs:shB [true,true] (encK k) = true:=rfl
 unfold lookQ
 rw [he,if_pos hs]
 rcases findQ_encQ f k m 0 with ⟨h1,h2⟩ | ⟨x,j,h1,h2,_⟩
 ·simp [h1,h2,foundX]
 ·simp [h1,h2,foundX]
theorem upd_encQ (f:α→V) (m:List (Key × α)) (k:Key) (x:α):updQ (encK k) (f x) (encQ f m) = some (encQ f (setK m k x)):=by
 unfold updQ
 rcases findQ_encQ f k m 0 with ⟨h1,h2⟩ | ⟨y,j,h1,h2,h3⟩
 ·rw [h2,setK_new h1];simp [encQ]
 ·rw [h2]
  simp only [Nat.zero_add]
  rw [h3]
theorem ren_encQ {σ:Nat→Option Nat} {f:α→V} (hf:∀ x,ren σ (f x) = f x) (m:List (Key × α)):((encQ f m).map fun p=>(ren σ p.1,ren σ p.2)) = encQ f m:=by
 unfold encQ
 rw [List.map_map]
 refine List.map_congr_left fun p _=>?_
 show (ren σ (encK p.1),ren σ (f p.2)) = _
 rw [hf];rfl
end
def Need (s:List ABind):Nat→Term→Prop
 | 0,_=>False
 | n+1,t=>if t.var then ∀ x,image s t.name = some x→Need s n x else ∀ a∈t.args,Need s n a
theorem Need.mono {s:List ABind}:∀ {n m:Nat} {t:Term},Need s n t→n≤m→Need s m t
 | 0,_,_,h,_=>h.elim
 | n+1,0,_,_,h=>by omega
 | n+1,m+1,t,h,hm=>by
  simp only [Need] at h ⊢
  split
  ·rename_i hv
   rw [if_pos hv] at h
   exact fun x hx=>(h x hx).mono (by omega)
  ·rename_i hv
   rw [if_neg hv] at h
   exact fun a ha=>(h a ha).mono (by omega)
theorem need_list {s:List ABind}:∀ l:List Term,(∀ a∈l,∃ n,Need s n a)→∃ n,∀ a∈l,Need s n a
 | [],_=>⟨0,by simp⟩
 | a :: l,h=>by
  obtain ⟨n,hn⟩:=h a (by simp)
  obtain ⟨m,hm⟩:=need_list l fun b hb=>h b (by simp [hb])
  refine ⟨n+m,fun b hb=>?_⟩
  rcases List.mem_cons.1 hb with rfl | hb
  ·exact hn.mono (by omega)
  ·exact (hm b hb).mono (by omega)
theorem UOk.need {s:List ABind} {σ:Sub} {rk:Str→Nat} (h:UOk s σ rk) (t:Term):∃ n,Need s n t:=by
 have B:∀ t:Term,(∀ u,occ u t = true→∀ x,image s u = some x→∃ n,Need s n x)→∃ n,Need s n t:=by
  intro t
  induction t using term_ind with
  | h t ih =>
  intro hu
  cases hv:t.var with
  | true =>
   cases hi:image s t.name with
   | none=>exact ⟨1,by simp only [Need,hv,if_pos];intro x hx;rw [hi] at hx;cases hx⟩
   | some x =>
    obtain ⟨n,hn⟩:=hu t.name (uocc_iff.2 (.inl ⟨hv,rfl⟩)) x hi
    exact ⟨n+1,by simp only [Need,hv,if_pos];intro y hy;rw [hi] at hy;cases hy;exact hn⟩
  | false =>
   obtain ⟨n,hn⟩:=need_list (s:=s) t.args fun a ha=>ih a ha fun u hu'=>hu u (uocc_iff.2 (.inr ⟨a,ha,hu'⟩))
   exact ⟨n+1,by simp only [Need,hv,Bool.false_eq_true,if_false];exact hn⟩
 have A:∀ u,∀ x,image s u = some x→∃ n,Need s n x:=h.ind fun u ih x hx=>B x fun w hw y hy=>ih x w hx hw y hy
 exact B t fun u _=>A u
end Go.Dw
end
section
namespace Go.Dw
abbrev NM:=List (Str × Str)
abbrev nHl (nm:NM) (J:List Ob):List Ob:=.map (encS V.str nm) :: .cells t_m_string_string [.map 0] :: J
abbrev nH (nm:NM):List Ob:=nHl nm []
theorem ren_encSV {σ:Nat→Option Nat} (m:NM):((encS V.str m).map fun p=>(ren σ p.1,ren σ p.2)) = encS V.str m:=ren_encS (fun x=>rfl) m
attribute [push_cast] ren_encSV
theorem shut_n (nm:NM):Shut 2 (nH nm):=⟨rfl,by
 show [renOb (clip 2) (.map (encS V.str nm)),renOb (clip 2) (.cells t_m_string_string [.map 0])] = _
 have h0:clip 2 0 = some 0:=rfl
 push_cast [h0]⟩
theorem give_n (nm:NM) (J:List Ob):give [0,1] (nHl nm J) = nH nm:=by
 show [renOb (pos? [0,1]) (.map (encS V.str nm)),renOb (pos? [0,1]) (.cells t_m_string_string [.map 0])] = _
 have h0:pos? [0,1] 0 = some 0:=rfl
 push_cast [h0]
theorem take_n (nm nm':NM) (J:List Ob):takeB [0,1] (nHl nm J) (nH nm') = nHl nm' J:=by
 apply List.ext_getElem?
 intro i
 rw [takeB_get (by simp)]
 have h0:∀ n,back [0,1] n 0 = some 0:=fun _=>rfl
 match i with
 | 0=>rw [if_pos (by simp)];show some (renOb _ (.map (encS V.str nm'))) = some _;push_cast
 | 1=>rw [if_pos (by simp)];show some (renOb _ (.cells t_m_string_string [.map 0])) = some _;push_cast [h0]
 | i+2 =>
  have hp:pos? [0,1] (i+2) = none:=by simp [pos?,List.findIdx?_cons]
  by_cases h:i < J.length
  ·rw [if_pos (by simp;omega),hp]
   simp [List.getD_eq_getElem?_getD,h]
  ·rw [if_neg (by simp;omega)]
   have e1:(nHl nm' J)[i+2]? = none:=List.getElem?_eq_none (by simp;omega)
   have e2:(nH nm')[[0,1].length+(i+2 - (nHl nm J).length)]? = none:=List.getElem?_eq_none (by simp)
   rw [e1,e2];rfl
section
variable {N:Nat→C} {B:Nat} {k:List K} {t:T} {Q:X→T→List Ob→Prop} {dd:Option Nat} {l:List S} {F:Fn} {vs vs':List V} {nm nm':NM} {J:List Ob} {x:V}
theorem callG_n (hv:rens (pos? [0,1]) vs = vs') (h:SpecF prog F vs' (nH nm) fun x' H'=>x' = x∧H' = nH nm') (k':Run prog N B (.r l :: k) (setO dd (ren (back [0,1] (J.length+2)) x) t) (nHl nm' J) Q):CallG prog N B dd l k t Q F vs (nHl nm J):=by
 refine CallG.some [0,1] (by simp) (by simp) (R:=fun x' H'=>x' = x∧H' = nH nm') (by rw [give_n,hv];exact h) ?_
 rintro x' H' ⟨rfl,rfl⟩ _
 rw [take_n];exact k'
end
abbrev nHp (P:List Ob) (nm:NM) (J:List Ob):List Ob:=P++(.map (encS V.str nm) :: .cells t_m_string_string [.map P.length] :: J)
theorem pos_p (p:Nat):pos? [p,p+1] p = some 0:=by simp [pos?,List.findIdx?_cons]
theorem pos_p1 (p:Nat):pos? [p,p+1] (p+1) = some 1:=by simp [pos?,List.findIdx?_cons]
theorem give_np (P:List Ob) (nm:NM) (J:List Ob):give [P.length,P.length+1] (nHp P nm J) = nH nm:=by
 unfold give
 have e1:(nHp P nm J).getD P.length .dead = .map (encS V.str nm):=by simp [List.getD_eq_getElem?_getD]
 have e2:(nHp P nm J).getD (P.length+1) .dead = .cells t_m_string_string [.map P.length]:=by
  rw [List.getD_eq_getElem?_getD,List.getElem?_append_right (by omega)]
  simp
 simp only [List.map_cons,List.map_nil,e1,e2]
 push_cast [pos_p]
theorem take_np (P:List Ob) (nm nm':NM) (J:List Ob):takeB [P.length,P.length+1] (nHp P nm J) (nH nm') = nHp P nm' J:=by
 apply List.ext_getElem?
 intro i
 rw [takeB_get (by simp)]
 have hb0:∀ n,back [P.length,P.length+1] n 0 = some P.length:=fun _=>rfl
 have hlen:(nHp P nm J).length = P.length+(J.length+2):=by simp
 by_cases h1:i < P.length
 ·have hp:pos? [P.length,P.length+1] i = none:=by
   have a1:¬ P.length = i:=by omega
   have a2:¬ P.length+1 = i:=by omega
   simp [pos?,List.findIdx?_cons,a1,a2]
  rw [if_pos (by omega),hp,List.getElem?_append_left h1,List.getD_eq_getElem?_getD,List.getElem?_append_left h1]
  simp [h1]
 ·rw [List.getElem?_append_right (by omega)]
  by_cases h2:i = P.length
  ·subst h2
   rw [if_pos (by omega),pos_p]
   simp only [Nat.sub_self,List.getElem?_cons_zero]
   show some (renOb _ (.map (encS V.str nm'))) = _
   push_cast
  ·by_cases h3:i = P.length+1
   ·subst h3
    rw [if_pos (by omega),pos_p1]
    have e:P.length+1 - P.length = 1:=by omega
    rw [e]
    simp only [List.getElem?_cons_succ,List.getElem?_cons_zero]
    show some (renOb _ (.cells t_m_string_string [.map 0])) = _
    push_cast [hb0]
   ·have hp:pos? [P.length,P.length+1] i = none:=by
     have a1:¬ P.length = i:=by omega
     have a2:¬ P.length+1 = i:=by omega
     simp [pos?,List.findIdx?_cons,a1,a2]
    obtain ⟨j,rfl⟩:∃ j,i = P.length+2+j:=⟨i - P.length - 2,by omega⟩
    have e:P.length+2+j - P.length = j+2:=by omega
    rw [e]
    simp only [List.getElem?_cons_succ]
    by_cases h4:j < J.length
    ·rw [if_pos (by omega),hp]
     simp only [List.getD_eq_getElem?_getD]
     rw [List.getElem?_append_right (by omega),e]
     simp [h4]
    ·rw [if_neg (by omega)]
     have e1:J[j]? = none:=List.getElem?_eq_none (by omega)
     have e2:(nH nm')[[P.length,P.length+1].length+(P.length+2+j - (nHp P nm J).length)]? = none:=List.getElem?_eq_none (by simp)
     rw [e1,e2];rfl
theorem callG_np {N:Nat→C} {B:Nat} {k:List K} {t:T} {Q:X→T→List Ob→Prop} {dd:Option Nat} {l:List S} {F:Fn} {vs vs':List V} {nm nm':NM} {x:V} (P J:List Ob) (hv:rens (pos? [P.length,P.length+1]) vs = vs') (h:SpecF prog F vs' (nH nm) fun x' H'=>x' = x∧H' = nH nm')
  (k':Run prog N B (.r l :: k) (setO dd (ren (back [P.length,P.length+1] (nHp P nm J).length) x) t) (nHp P nm' J) Q):CallG prog N B dd l k t Q F vs (nHp P nm J):=by
 refine CallG.some [P.length,P.length+1] (by simp) (by simp) (R:=fun x' H'=>x' = x∧H' = nH nm') (by rw [give_np,hv];exact h) ?_
 rintro x' H' ⟨rfl,rfl⟩ _
 rw [take_np];exact k'
def nameF (pre:Str) (nm:NM) (v:Str):NM × Str:=if (getK nm v).getD [] = [] then (setK nm v (pre++dig nm.length),pre++dig nm.length) else (nm,(getK nm v).getD [])
theorem setK_len {κ α:Type} [DecidableEq κ] (m:List (κ × α)) (k:κ) (x:α):(setK m k x).length≤m.length+1:=by
 induction m with
 | nil=>simp [setK]
 | cons p m ih=>simp only [setK];split <;> simp;exact ih
theorem nameF_len (pre:Str) (nm:NM) (v:Str):(nameF pre nm v).1.length≤nm.length+1:=by
 unfold nameF
 split
 ·exact setK_len _ _ _
 ·exact Nat.le_succ _
theorem dig_len (n:Nat):(dig n).length≤n+1:=by
 induction n using Nat.strongRecOn with
 | ind n ih =>
  unfold dig Lib.decDigits
  split
  ·simp
  ·have:=ih (n / 10) (by omega)
   unfold dig at this
   simp only [List.length_append,List.length_singleton]
   omega
theorem term_Standard_11_s (nm:NM) (v:Str) (hl:nm.length < 2^62):Spec prog n_term_Standard_1_1 [.str v,.ptr 1 0] (nH nm) fun x H'=>x = .str (nameF [120] nm v).2∧H' = nH (nameF [120] nm v).1:=by
 have hlk:∀ nm l,_:=fun (nm:NM) (l:List Ob)=>look_encS V.str nm v false (.str []) (H:=nHl nm l) (i:=0) rfl
 have hup:=upd_encS V.str nm v (120 :: dig nm.length)
 have hcap:1+(dig nm.length).length≤capMax:=by have:=dig_len nm.length;unfold capMax;omega
 have hlm:∀ l,lnmV (nHl nm l) (.map 0) = some (.int .i64 nm.length):=fun l=>by unfold lnmV;simp [entsV,encS_len]
 have hI:=strconv_Itoa_n nm.length hl
 refine spec_of_run mixed term_Standard_1_1.ok rfl ?_
 unfold nameF
 have e2:∀ nm:NM,((getK nm v).map V.str).getD (.str []) = .str ((getK nm v).getD []):=fun nm=>by cases getK nm v <;> rfl
 simp only [e2,Bool.false_eq_true,if_false] at hlk
 by_cases h:(getK nm v).getD [] = []
 ·rw [if_pos h]
  have h3:(getK (setK nm v (120 :: dig nm.length)) v).getD [] = 120 :: dig nm.length:=by rw [getK_setK,if_pos rfl];rfl
  push_cast [hlk,h,hlm]
  refine .of hI ?_
  push_cast [hup,hlk,h3,hcap]
  exact ⟨rfl,ends_all (.inl rfl) rfl ⟨rfl,rfl⟩⟩
 ·rw [if_neg h]
  push_cast [hlk,h]
  exact ends_all (.inl rfl) rfl ⟨rfl,rfl⟩
theorem overlap_inner_1_s (nm:NM) (v:Str) (hl:nm.length < 2^40):Spec prog n_overlap_inner_1 [.str v,.ptr 1 0] (nH nm) fun x H'=>x = .str (nameF [121] nm v).2∧H' = nH (nameF [121] nm v).1:=by
 have hlk:∀ nm l,_:=fun (nm:NM) (l:List Ob)=>look_encS V.str nm v false (.str []) (H:=nHl nm l) (i:=0) rfl
 have hup:=upd_encS V.str nm v (121 :: dig nm.length)
 have hcap:1+(dig nm.length).length≤capMax:=by have:=dig_len nm.length;unfold capMax;omega
 have hlm:∀ l,lnmV (nHl nm l) (.map 0) = some (.int .i64 nm.length):=fun l=>by unfold lnmV;simp [entsV,encS_len]
 have hI:=strconv_Itoa_n nm.length (by omega)
 refine spec_of_run mixed overlap_inner_1.ok rfl ?_
 unfold nameF
 have e2:∀ nm:NM,((getK nm v).map V.str).getD (.str []) = .str ((getK nm v).getD []):=fun nm=>by cases getK nm v <;> rfl
 simp only [e2,Bool.false_eq_true,if_false] at hlk
 by_cases h:(getK nm v).getD [] = []
 ·rw [if_pos h]
  have h3:(getK (setK nm v (121 :: dig nm.length)) v).getD [] = 121 :: dig nm.length:=by rw [getK_setK,if_pos rfl];rfl
  push_cast [hlk,h,hlm]
  refine .of hI ?_
  push_cast [hup,hlk,h3,hcap]
  exact ⟨rfl,ends_all (.inl rfl) rfl ⟨rfl,rfl⟩⟩
 ·rw [if_neg h]
  push_cast [hlk,h]
  exact ends_all (.inl rfl) rfl ⟨rfl,rfl⟩
mutual
def renT (pre:Str) (nm:NM):Term→NM × Term
 | .mk n v l=>if v then ((nameF pre nm n).1,.mk (nameF pre nm n).2 true []) else ((renTs pre nm l).1,.mk n false (renTs pre nm l).2)
def renTs (pre:Str) (nm:NM):List Term→NM × List Term
 | []=>(nm,[])
 | a :: l=>((renTs pre (renT pre nm a).1 l).1,(renT pre nm a).2 :: (renTs pre (renT pre nm a).1 l).2)
end
theorem renT_eq (pre:Str) (nm:NM) (t:Term):renT pre nm t = if t.var then ((nameF pre nm t.name).1,.mk (nameF pre nm t.name).2 true []) else ((renTs pre nm t.args).1,.mk t.name false (renTs pre nm t.args).2):=by cases t;simp only [renT];rfl
theorem renTs_append (pre:Str):∀ (a b:List Term) (nm:NM),renTs pre nm (a++b) = ((renTs pre (renTs pre nm a).1 b).1,(renTs pre nm a).2++(renTs pre (renTs pre nm a).1 b).2)
 | [],b,nm=>rfl
 | x :: a,b,nm=>by simp only [List.cons_append,renTs,renTs_append pre a b]
theorem renTs_len (pre:Str):∀ (a:List Term) (nm:NM),(renTs pre nm a).2.length = a.length
 | [],nm=>rfl
 | x :: a,nm=>by simp only [renTs,List.length_cons,renTs_len pre a]
theorem renT_size (pre:Str) (t:Term):∀ nm:NM,(renT pre nm t).1.length≤nm.length+size t:=by
 induction t using term_ind with
 | h t ih =>
 intro nm
 have hst:=size_args t
 rw [renT_eq]
 split
 ·have:=nameF_len pre nm t.name;simp only;omega
 ·have key:∀ (l:List Term) (nm:NM),(∀ a∈l,a∈t.args)→(renTs pre nm l).1.length≤nm.length+sizes l:=by
   intro l
   induction l with
   | nil=>intro nm _;simp [renTs,sizes]
   | cons a l ihl =>
    intro nm hl
    have h1:=ih a (hl a (by simp)) nm
    have h2:=ihl (renT pre nm a).1 fun b hb=>hl b (by simp [hb])
    simp only [renTs,sizes]
    omega
  have:=key t.args nm fun _ h=>h
  simp only;omega
theorem term_Renamed_s {g:Nat} {pre:Str} (hg:∀ (nm:NM) (v:Str),nm.length < 2^40→Spec prog g [.str v,.ptr 1 0] (nH nm) fun x H'=>x = .str (nameF pre nm v).2∧H' = nH (nameF pre nm v).1) (t:Term) :
  ∀ nm:NM,nm.length+size t < 2^40→Spec prog n_term_Renamed [encT t,.fn (.func g) [] [.ptr 1 0]] (nH nm) fun x H'=>x = encT (renT pre nm t).2∧H' = nH (renT pre nm t).1:=by
 induction t using term_ind with
 | h t ih =>
 intro nm hl
 have hst:=size_args t
 have hla:=length_le_sizes t.args
 have p1:pos? [0,1] 1 = some 1:=rfl
 have c1:clip 2 1 = some 1:=rfl
 refine spec_of_run mixed term_Renamed.ok rfl ?_
 rw [renT_eq]
 cases hv:t.var with
 | true =>
  rw [if_pos rfl]
  push_cast [hv]
  refine callG_n (by push_cast [p1]) (specF_func ▸ hg nm t.name (by omega)) ?_
  push_cast
  exact ends_keep (H:=nH (nameF pre nm t.name).1) (J:=[_]) (shut_n _) rfl ⟨by push_cast;rfl,rfl⟩
 | false =>
  rw [if_neg (by simp)]
  push_cast [hv]
  refine loop_up (n:=t.args.length) (R:=fun k=>term_Renamed.L3 (.fn (.func g) [] [.ptr 1 0]) (.ptr 2 0) (.ptr 3 0) (encTs t.args) (.int .i64 t.args.length) (.int .i64 k) 2
   (nHl (renTs pre nm (t.args.take k)).1 [.cells t_Term [.str [],.bool false,.sl 3 []],.cells t_Term [.str t.name,.bool false,ownL cT 4 3 (renTs pre nm (t.args.take k)).2],.arr t_Term 3 k]) _) ?_ ?_ 0 (by omega)
  ·intro k hk ih2
   have hme:=getD_mem hk
   have hlt:(renTs pre nm (t.args.take k)).2.length = k:=by rw [renTs_len];simp;omega
   have hsz:=size_mem hme
   have hpre:(renTs pre nm (t.args.take k)).1.length+size (t.args.getD k default) < 2^40:=by
    have key:∀ (l:List Term) (nm:NM),(renTs pre nm l).1.length≤nm.length+sizes l:=by
     intro l
     induction l with
     | nil=>intro nm;simp [renTs,sizes]
     | cons a l ihl =>
      intro nm
      have h1:=renT_size pre a nm
      have h2:=ihl (renT pre nm a).1
      simp only [renTs,sizes];omega
    have h1:=key (t.args.take k) nm
    have h2:sizes (t.args.take k)+size (t.args.getD k default)≤sizes t.args:=by
     have h3:sizes (t.args.take (k+1)) = sizes (t.args.take k)+size (t.args.getD k default):=by rw [take_succ_getD hk,sizes_append];simp [sizes]
     have h4:sizes t.args = sizes (t.args.take (k+1))+sizes (t.args.drop (k+1)):=by rw [← sizes_append,List.take_append_drop]
     omega
    omega
   have hc:=ih _ hme (renTs pre nm (t.args.take k)).1 hpre
   rw [take_succ_getD hk,renTs_append] at ih2
   simp only [renTs] at ih2
   generalize renTs pre nm (t.args.take k) = q at hlt hc ih2
   generalize renT pre q.1 (t.args.getD k default) = u at hc ih2
   refine term_Renamed.G3 ?_
   push_cast [ilt hk]
   refine ⟨⟨?_,?_⟩,?_⟩
   all_goals
    refine callG_n (J:=[_,_,_,_]) (by push_cast [p1]) hc ?_
    push_cast [hlt,room (show k < 2^40 by omega) (show 48≤64 by omega),w64 (show k < 2^62 by omega),c1]
    push_cast at ih2
    exact ih2
  ·refine term_Renamed.G3 ?_
   push_cast [inlt (Nat.le_refl _)]
   rw [List.take_length]
   refine ends_keep (H:=nH _) (J:=[_,_,_]) (shut_n _) rfl ⟨?_,rfl⟩
   push_cast [term_Renamed.rs]
   rw [encT,cT_eq];rfl
theorem term_Standard_s:Spec prog n_term_Standard [] [] fun x H'=>x = .fn (.func n_term_Standard_1) [] [.ptr 1 0]∧H' = nH []:=by
 refine spec_of_run mixed term_Standard.ok rfl ?_
 push_cast
 refine ends_ex (.inl rfl) [0,1] (by simp) (by simp) rfl ⟨?_,?_⟩
 ·have p1:pos? (List.range 0++[0,1]) 1 = some 1:=rfl
  push_cast [p1]
 ·exact give_n [] []
theorem term_Standard_1_s (nm:NM) (t:Term) (hl:nm.length+size t < 2^40):Spec prog n_term_Standard_1 [encT t,.ptr 1 0] (nH nm) fun x H'=>x = encT (renT [120] nm t).2∧H' = nH (renT [120] nm t).1:=by
 have hR:=term_Renamed_s (g:=n_term_Standard_1_1) (pre:=[120]) (fun nm v h=>term_Standard_11_s nm v (by omega)) t nm hl
 have p1:pos? [0,1] 1 = some 1:=rfl
 refine spec_of_run mixed term_Standard_1.ok rfl ?_
 push_cast
 refine callG_n (J:=[_]) (by push_cast [p1]) hR ?_
 push_cast
 exact ends_keep (H:=nH (renT [120] nm t).1) (J:=[_]) (shut_n _) rfl ⟨by push_cast,rfl⟩
def renR (pre:Str) (x:ARule):ARule:=⟨(renT pre [] x.left).2,(renT pre (renT pre [] x.left).1 x.right).2⟩
theorem overlap_inner_s (x:ARule) (hl:size x.left+size x.right < 2^39):PF n_overlap_inner [encR x] (encR (renR [121] x)):=by
 have hL:=term_Renamed_s (g:=n_overlap_inner_1) (pre:=[121]) overlap_inner_1_s x.left [] (by simp;omega)
 have hR:=term_Renamed_s (g:=n_overlap_inner_1) (pre:=[121]) overlap_inner_1_s x.right (renT [121] [] x.left).1 (by have:=renT_size [121] x.left [];simp only [List.length_nil] at this;omega)
 have p1:pos? [0,1] 1 = some 1:=rfl
 refine pf_of overlap_inner.ok rfl ?_
 push_cast
 have q1:pos? [1,2] 2 = some 1:=rfl
 refine callG_np (vs:=[encT x.left,V.fn (Fn.func n_overlap_inner_1) [] [V.ptr 2 0]]) (nm:=[]) [.cells t_Rule [V.str [],V.bool false,V.sl 3 [],V.str [],V.bool false,V.sl 3 []]] [] (by push_cast [q1]) (specF_func ▸ hL) ?_
 push_cast
 refine callG_np (vs:=[encT x.right,V.fn (Fn.func n_overlap_inner_1) [] [V.ptr 2 0]]) [.cells t_Rule [V.str [],V.bool false,V.sl 3 [],V.str [],V.bool false,V.sl 3 []]] [_] (by push_cast [q1]) (specF_func ▸ hR) ?_
 push_cast
 refine pf_ret ?_
 push_cast [overlap_inner.rs,renR]
 rfl
end Go.Dw
end
section
namespace Go.Dw
mutual
def firstT (l:List Str):Term→List Str
 | .mk n v ar=>if v then (if n∈l then l else l++[n]) else firstTs l ar
def firstTs (l:List Str):List Term→List Str
 | []=>l
 | a :: ar=>firstTs (firstT l a) ar
end
theorem firstT_eq (l:List Str) (t:Term):firstT l t = if t.var then (if t.name∈l then l else l++[t.name]) else firstTs l t.args:=by cases t;simp only [firstT];rfl
theorem firstT_size (t:Term):∀ l:List Str,(firstT l t).length≤l.length+size t:=by
 induction t using term_ind with
 | h t ih =>
 intro l
 have hst:=size_args t
 rw [firstT_eq]
 split
 ·split
  ·omega
  ·simp;omega
 ·have key:∀ (ar:List Term) (l:List Str),(∀ a∈ar,a∈t.args)→(firstTs l ar).length≤l.length+sizes ar:=by
   intro ar
   induction ar with
   | nil=>intro l _;simp [firstTs,sizes]
   | cons a ar ihl =>
    intro l hl
    have h1:=ih a (hl a (by simp)) l
    have h2:=ihl (firstT l a) fun b hb=>hl b (by simp [hb])
    simp only [firstTs,sizes]
    omega
  have:=key t.args l fun _ h=>h
  omega
def sortedS (l:List Str):List Str:=l.foldl insS []
theorem mem_foldl_insS {v:Str}:∀ (l m:List Str),v∈l.foldl insS m ↔ v∈m ∨ v∈l
 | [],m=>by simp
 | x :: l,m=>by
  simp only [List.foldl_cons,mem_foldl_insS l,mem_insS,List.mem_cons]
  constructor
  ·rintro ((h | h) | h)
   ·exact .inl h
   ·exact .inr (.inl h)
   ·exact .inr (.inr h)
  ·rintro (h | h | h)
   ·exact .inl (.inl h)
   ·exact .inl (.inr h)
   ·exact .inr h
def renV (pre v:Str):Nat→List Str→List ABind
 | _,[]=>[]
 | i,x :: l=>(if x = v then [⟨v,varT (pre++dig i)⟩] else [])++renV pre v (i+1) l
def renB (l:List Str) (pre:Str):List ABind:=(sortedS l).flatMap fun v=>renV pre v 0 l
end Go.Dw
end
